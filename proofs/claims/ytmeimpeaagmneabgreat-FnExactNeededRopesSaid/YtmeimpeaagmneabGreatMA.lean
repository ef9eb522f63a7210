/- Lemmas, plain functions of the program, and what they answer. No condition. -/
import Derived.Below
import Derived.Eval
import Derived.KernelRfl
import Derived.Laws.Append
import Derived.Laws.AppendOwn
import Derived.Laws.BytesString
import Derived.Laws.Cells
import Derived.Laws.CopyRow
import Derived.Laws.Entries
import Derived.Laws.MakeOwn
import Derived.Laws.OwnMore
import Derived.Laws.Rows
import Derived.Laws.Slices
import Derived.Laws.Tables
import Derived.Orders
namespace Go.VL
set_option linter.unusedVariables false
set_option linter.unusedSimpArgs false
open Go
inductive aF where
 | dead
 | b (x:Bool)
 | n (k:IntKind) (x:Int)
 | s (x:ByteArray)
 | im
 | ek
 | iF
 | ref (r k i off:Nat)
 | bh (r k b3 len:Nat)
 | i5 (r c sz:Nat) (h:Option (Nat×Nat))
 | isl (sz:Nat) (es:List (List aF))
 | dS (sz:Nat) (es:List (List aF)) (i off:Nat)
 | kh (sz:Nat) (c:Option (List aF))
 | agg (c:List aF)
 | ee (vs:List aF)
 | fn (f:Nat) (cap:List aF)
 deriving Inhabited
inductive gm where
 | live|jd|gone
 deriving DecidableEq,Inhabited
structure ae where
 sz:Nat
 es:List (List aF)
 cz:gm
 deriving Inhabited
structure S where
 E:Nat→aF
 a0:Nat→Option (List ae)
abbrev km (v:Value):Bool:=v.oneCell'
abbrev fy:=Nat→Nat→Option (Nat×Nat)
abbrev jh:=Nat→Nat→Option (Nat×Option (Nat×Nat))
abbrev js:=Nat→Nat→Prop
inductive Pure:aF→Prop
 | dead:Pure .dead
 | b (x:Bool):Pure (.b x)
 | n (k:IntKind) (x:Int):Pure (.n k x)
 | s (x:ByteArray):Pure (.s x)
 | im:Pure .im
 | ek:Pure .ek
 | iF:Pure .iF
 | isl {sz:Nat} {es:List (List aF)} (h : ∀e∈es,∀x∈e,Pure x):Pure (.isl sz es)
 | dS {sz i off:Nat} {es:List (List aF)} (h : ∀e∈es,∀x∈e,Pure x):Pure (.dS sz es i off)
 | pv (sz:Nat):Pure (.kh sz none)
 | o5 {sz:Nat} {c:List aF} (h : ∀x∈c,Pure x):Pure (.kh sz (some c))
 | agg {c:List aF} (h : ∀x∈c,Pure x):Pure (.agg c)
 | ee {c:List aF} (h : ∀x∈c,Pure x):Pure (.ee c)
 | fn {f:Nat} {c:List aF} (h : ∀x∈c,Pure x):Pure (.fn f c)
def iY (es:List (List aF)):Prop:= ∀e∈es,∀x∈e,Pure x
inductive Rel (w:World) (ok:Nat→Prop) (a9:js) (bm:jh):aF→Value→Prop
 | dead (v:Value):Rel w ok a9 bm .dead v
 | b (x:Bool):Rel w ok a9 bm (.b x) (.bool x)
 | n (k:IntKind) (x:Int):Rel w ok a9 bm (.n k x) (.int k x)
 | s (x:ByteArray):Rel w ok a9 bm (.s x) (.string x)
 | im:Rel w ok a9 bm .im (.pointer none)
 | ek:Rel w ok a9 bm .ek (.slice none 0 0)
 | iF (a:Addr) (c:Nat):Rel w ok a9 bm .iF (.slice (some a) 0 c)
 | pM {r k i off:Nat} (a:Option Addr) (hu:a9 r k) (h : ∀sz p,bm r k≠some (sz,some p)):Rel w ok a9 bm (.ref r k i off) (.pointer a)
 | ref {r k i off sz eg m:Nat} (hu:a9 r k) (h:bm r k=some (sz,some (eg,m))):Rel w ok a9 bm (.ref r k i off) (.pointer (some ⟨eg,i*sz+off,none⟩))
 | ns {r k b3 len:Nat} (a:Option Addr) (l c:Nat) (hu:a9 r k) (h:bm r k=none):Rel w ok a9 bm (.bh r k b3 len) (.slice a l c)
 | nO {r k sz:Nat} (hu:a9 r k) (h:bm r k=some (sz,none)):Rel w ok a9 bm (.bh r k 0 0) (.slice none 0 0)
 | bh {r k b3 len sz eg m c:Nat} {a:Option Addr} (hu:a9 r k) (h:bm r k=some (sz,some (eg,m))) (aU:len≤c) (bj:c<9223372036854775808)
  (hm:(b3+c)*sz=m∧(c=0∨a=some ⟨eg,b3*sz,none⟩)):Rel w ok a9 bm (.bh r k b3 len) (.slice a len c)
 | m1 {r c sz:Nat} {v:Value} (h:Rel w ok a9 bm (.isl sz []) v):Rel w ok a9 bm (.i5 r c sz none) v
 | nV {r c sz k n:Nat} {v:Value} (h:Rel w ok a9 bm (.bh r (k+c) 0 n) v):Rel w ok a9 bm (.i5 r c sz (some (k,n))) v
 | kf (sz:Nat) (a:Option Addr) (c:Nat) (h:a=none→c=0):Rel w ok a9 bm (.isl sz []) (.slice a 0 c)
 | isl {sz:Nat} {es:List (List aF)} {eg off c:Nat} (cs:Nat→Value) (aT:ok eg) (ak:iY es) (aU : ∀e∈es,e.length=sz) (bj:es.length≤c)
  (hw : ∀(j:Nat) x,es.flatten[j]? = some x→w.cell? ⟨eg,off+j,none⟩=some (cs j)) (kd : ∀(j:Nat) x,es.flatten[j]? = some x→km (cs j)=true)
  (ap : ∀(j:Nat) x,es.flatten[j]? = some x→Rel w ok a9 bm x (cs j)):Rel w ok a9 bm (.isl sz es) (.slice (some ⟨eg,off,none⟩) es.length c)
 | dS {sz:Nat} {es:List (List aF)} {eg I i off:Nat} (cs:Nat→Value) (aT:ok eg) (ak:iY es) (aU : ∀e∈es,e.length=sz)
  (hw : ∀(j:Nat) x,es.flatten[j]? = some x→w.cell? ⟨eg,I+j,none⟩=some (cs j)) (kd : ∀(j:Nat) x,es.flatten[j]? = some x→km (cs j)=true)
  (ap : ∀(j:Nat) x,es.flatten[j]? = some x→Rel w ok a9 bm x (cs j)):Rel w ok a9 bm (.dS sz es i off) (.pointer (some ⟨eg,I+(i*sz+off),none⟩))
 | pv (sz:Nat):Rel w ok a9 bm (.kh sz none) (.pointer none)
 | o5 {sz:Nat} {c:List aF} {v:Value} (h:Rel w ok a9 bm (.dS sz [c] 0 0) v):Rel w ok a9 bm (.kh sz (some c)) v
 | agg {c:List aF} (vs:List Value) (aU:vs.length=c.length) (kd : ∀(j:Nat) v,vs[j]? = some v→km v=true)
  (ap : ∀(j:Nat) x v,c[j]? = some x→vs[j]? = some v→Rel w ok a9 bm x v):Rel w ok a9 bm (.agg c) (.agg vs.toArray)
 | ee {c:List aF} (vs:List Value) (aU:vs.length=c.length)
  (ap : ∀(j:Nat) x v,c[j]? = some x→vs[j]? = some v→Rel w ok a9 bm x v):Rel w ok a9 bm (.ee c) (.tuple vs.toArray)
 | fn {f:Nat} {c:List aF} (vs:List Value) (aU:vs.length=c.length)
  (ap : ∀(j:Nat) x v,c[j]? = some x→vs[j]? = some v→Rel w ok a9 bm x v):Rel w ok a9 bm (.fn f c) (.func (.func f) #[] vs.toArray)
theorem Rel.mono {w bT:World}{ok k3:Nat→Prop}{a9 m6:js}{bm mq:jh}{a:aF}{v:Value}(h:Rel w ok a9 bm a v)
 (m7 : ∀b,ok b→k3 b) (hw : ∀b,ok b→bT.heap[b]? = w.heap[b]?)
 (jG : ∀r k,a9 r k→m6 r k) (lu : ∀r k,a9 r k→mq r k=bm r k∨mq r k=none):Rel bT k3 m6 mq a v:=by
 have kd : ∀b I,ok b→bT.cell? ⟨b,I,none⟩=w.cell? ⟨b,I,none⟩:=fun b I aT=>World.cell?_of_block (hw b aT)
 induction h with
 | dead v=>exact .dead v
 | b x=>exact .b x
 | n k x=>exact .n k x
 | s x=>exact .s x
 | im=>exact .im
 | ek=>exact .ek
 | iF a c=>exact .iF a c
 | @pM r k i off a hu h =>
  refine .pM a (jG r k hu) fun sz p=> ?_
  rcases lu r k hu with e|e<;>rw [e]
  ·exact h sz p
  ·simp
 | @ref r k i off sz eg m hu h =>
  rcases lu r k hu with e|e
  ·exact .ref (jG r k hu) (e.trans h)
  ·exact .pM _ (jG r k hu) fun sz p=>by rw [e];simp
 | @ns r k b3 len a l c hu h=>exact .ns a l c (jG r k hu) (by rcases lu r k hu with e|e<;>rw [e];exact h)
 | @nO r k sz hu h =>
  rcases lu r k hu with e|e
  ·exact .nO (jG r k hu) (e.trans h)
  ·exact .ns _ _ _ (jG r k hu) e
 | @bh r k b3 len sz eg m c a hu h aU bj hm =>
  rcases lu r k hu with e|e
  ·exact .bh (jG r k hu) (e.trans h) aU bj hm
  ·exact .ns _ _ _ (jG r k hu) e
 | m1 h ih=>exact .m1 ih
 | nV h ih=>exact .nV ih
 | kf sz a c h=>exact .kf sz a c h
 | isl cs aT ak aU bj Cp iO ap ih=>exact .isl cs (m7 _ aT) ak aU bj (fun j x U=>(kd _ _ aT).trans (Cp j x U)) iO ih
 | dS cs aT ak aU Cp iO ap ih=>exact .dS cs (m7 _ aT) ak aU (fun j x U=>(kd _ _ aT).trans (Cp j x U)) iO ih
 | pv sz=>exact .pv sz
 | o5 h ih=>exact .o5 ih
 | agg vs aU iO ap ih=>exact .agg vs aU iO ih
 | ee vs aU ap ih=>exact .ee vs aU ih
 | fn vs aU ap ih=>exact .fn vs aU ih
structure G where
 mO:World
 A:Nat→Prop
 pD:Nat→Prop
 N:Nat
 m:Nat
 pc:js
 ri:jh
def S.a9 (s:S)(r k:Nat):Prop:=k<((s.a0 r).getD []).length
def dx (row:Option (List ae))(k:Nat):Option ae :=
 match row with
 | some l=>match l[k]? with
  | some I=>if I.cz = .gone then none else some I
  | none=>none
 | none=>none
def S.an (s:S)(r k:Nat):Option ae:=dx (s.a0 r) k
def S.bm (s:S)(aB:fy):jh:=fun r k=>(s.an r k).map fun I=>(I.sz,aB r k)
def S.l1 (s:S)(aB:fy)(b:Nat):Prop:= ∃r k I m,s.an r k=some I∧I.cz = .live∧aB r k=some (b,m)
def S.ok (s:S)(g:G)(aB:fy)(w:World)(b:Nat):Prop :=
 b<w.heap.size∧(g.A b∨g.mO.heap.size≤b∨g.pD b)∧ ¬s.l1 aB b
def jC (w:World)(ok:Nat→Prop)(a9:js)(bm:jh)(I:ae):Option (Nat×Nat)→Prop
 | none=>I.es=[]
 | some (eg,m)=> ∃c eQ,w.heap[eg]? = some (.cells c eQ (0,0))∧c.size=m∧(∀e∈I.es,e.length=I.sz) ∧
  ∀(j:Nat) x,I.es.flatten[j]? = some x→ ∃v,c[j]? = some v∧km v=true∧Rel w ok a9 bm x v
structure B1 (g:G) (w:World):Prop where
 os:w.os=g.mO.os
 tape:w.tape=g.mO.tape
 output:w.output=g.mO.output
 size:g.mO.heap.size≤w.heap.size
 block : ∀b,b<g.mO.heap.size→ ¬g.pD b→w.heap[b]? = g.mO.heap[b]?
structure iq (g:G) (s:S) (aB:fy) (w:World):Prop where
 obj : ∀r k I,s.an r k=some I→jC w (s.ok g aB w) s.a9 (s.bm aB) I (aB r k)
 inj : ∀r k I eR dD cc b m bE,s.an r k=some I→s.an eR dD=some cc→aB r k=some (b,m)→aB eR dD=some (b,bE)→r=eR∧k=dD
 own : ∀r k I b m,s.an r k=some I→aB r k=some (b,m)→g.mO.heap.size≤b∨g.pD b
 gL:B1 g w
 mlt : ∀b,g.pD b→b<g.mO.heap.size
 nA : ∀b,g.A b→b<g.mO.heap.size
 stay : ∀j k,g.pc j k→s.a9 j k∧(s.bm aB j k=g.ri j k∨s.bm aB j k=none)
 low : ∀j k,g.pc j k→j<g.m
structure cW (g:G) (s:S) (aB:fy) (a:Act) (w:World):Prop extends iq g s aB w where
 env : ∀t,Rel w (s.ok g aB w) s.a9 (s.bm aB) (s.E t) (a.tmps.getD t undef)
 defers:a.defers=[]
 jY:g.N≤a.tmps.size
def ofValue:Value→aF
 | .bool x=> .b x
 | .int k x=> .n k x
 | .string x=> .s x
 | .pointer none=> .im
 | .slice none 0 0=> .ek
 | _=> .dead
theorem PO {w:World}{ok:Nat→Prop}{a9:js}{bm:jh}(v:Value):Rel w ok a9 bm (ofValue v) v:=by
 unfold ofValue
 split<;>constructor
def fq (E:Nat→aF):Operand→aF
 | .tmp t=>E t
 | .const v=>ofValue v
 | .global _=> .dead
 | .func f=> .fn f []
theorem cW.eval {g:G}{s:S}{aB:fy}{a:Act}{w:World}(h:cW g s aB a w)(x:Operand):
 Rel w (s.ok g aB w) s.a9 (s.bm aB) (fq s.E x) (a.eval x):=by
 cases x with
 | tmp t=>exact h.env t
 | const v=>exact PO v
 | global g=>exact .dead _
 | func f=>exact .fn [] rfl (fun j x v U=>by simp at U)
def aF.cells:aF→List aF
 | .agg c=>c
 | x=>[x]
def aF.one:aF→Bool
 | .dead | .agg _ | .ee _=>false
 | _=>true
def aF.yF:aF→Bool
 | .dead | .ee _=>false
 | _=>true
theorem aF.PP {v:aF}(h:v.yF=true):v.one=true∨ ∃c,v = .agg c:=by
 cases v<;>first|exact .inl rfl|exact .inr ⟨_,rfl⟩|simp [aF.yF] at h
theorem Rel.km {w:World}{ok:Nat→Prop}{a9:js}{bm:jh}{a:aF}{v:Value}(h:Rel w ok a9 bm a v)(bJ:a.one=true):km v=true:=by
 cases h with
 | o5 h=>cases h;rfl
 | m1 h=>cases h<;>rfl
 | nV h=>cases h<;>rfl
 | _=>first|rfl|simp [aF.one] at bJ
theorem Rel.cellsOf {w:World}{ok:Nat→Prop}{a9:js}{bm:jh}{a:aF}{v:Value}(h:Rel w ok a9 bm a v)(bJ:a.one=true∨ ∃c,a = .agg c):
 ∃vs:List Value,v.cells=vs.toArray∧vs.length=a.cells.length∧(∀(j:Nat) x,vs[j]? = some x→VL.km x=true) ∧
  ∀(j:Nat) x u,a.cells[j]? = some x→vs[j]? = some u→Rel w ok a9 bm x u:=by
 rcases bJ with bJ|⟨c,rfl⟩
 ·have bj:=h.km bJ
  refine ⟨[v],?_,?_,?_,?_⟩
  ·cases v<;>first|rfl|simp [VL.km,Value.oneCell'] at bj
  ·cases a<;>first|rfl|simp [aF.one] at bJ
  ·intro j x U
   cases j with
   | zero=>simp at U;subst U;exact bj
   | succ j=>simp at U
  ·intro j x u U hu
   have e:a.cells=[a]:=by cases a<;>first|rfl|simp [aF.one] at bJ
   rw [e] at U
   cases j with
   | zero=>simp at U hu;subst U;subst hu;exact h
   | succ j=>simp at U
 ·cases h with
  | agg vs aU kd ap=>exact ⟨vs,rfl,aU,kd,ap⟩
end Go.VL
namespace Go.VL
set_option linter.unusedVariables false
set_option linter.unusedSimpArgs false
open Go
def S.put (s:S)(dst:Option Tmp)(v:aF):S :=
 match dst with
 | some t=>{s with E:=fun u=>if u=t then v else s.E u}
 | none=>s
def S.setRow (s:S)(r:Nat)(row:List ae):S:={s with a0:=fun q=>if q=r then some row else s.a0 q}
@[simp] theorem S.tH (s:S) (dst:Option Tmp) (v:aF):(s.put dst v).a0=s.a0:=by cases dst<;>rfl
@[simp] theorem S.ag9 (s:S) (r:Nat) (row:List ae):(s.setRow r row).E=s.E:=rfl
theorem Bg {s bW:S}(h:bW.a0=s.a0):bW.an=s.an:=by funext r k;simp [S.an,h]
theorem yG {s bW:S}(h:bW.a0=s.a0):bW.a9=s.a9:=by funext r k;simp [S.a9,h]
theorem yH {s bW:S}(h:bW.a0=s.a0)(aB:fy):bW.bm aB=s.bm aB:=by unfold S.bm;rw [Bg h]
theorem ZT {s bW:S}(h:bW.a0=s.a0)(aB:fy):bW.l1 aB=s.l1 aB:=by unfold S.l1;rw [Bg h]
theorem Bh {s bW:S}(h:bW.a0=s.a0)(g:G)(aB:fy)(w:World):bW.ok g aB w=s.ok g aB w:=by
 funext b;unfold S.ok;rw [ZT h]
theorem iq.congr {g:G}{s bW:S}{aB:fy}{w:World}(h:iq g s aB w)(e:bW.a0=s.a0):iq g bW aB w where
 obj:=by rw [Bg e,yG e,yH e,Bh e];exact h.obj
 inj:=by rw [Bg e];exact h.inj
 own:=by rw [Bg e];exact h.own
 gL:=h.gL
 mlt:=h.mlt
 nA:=h.nA
 stay:=by rw [yG e,yH e];exact h.stay
 low:=h.low
theorem ab2 (a:Act)(dst:Option Tmp)(v:Value)(t:Nat)(fc:∀d,dst=some d→d<a.tmps.size):
 (a.put dst v).tmps.getD t undef=if dst=some t then v else a.tmps.getD t undef:=by
 cases dst with
 | none=>simp [Act.put]
 | some d =>
  have:=fc d rfl
  simp only [Act.put,Array.getD_eq_getD_getElem?,Array.getElem?_setIfInBounds,Option.some.injEq]
  by_cases e:d=t
  ·subst e;simp [this]
  ·simp [e]
theorem cW.put {g:G}{s:S}{aB:fy}{a:Act}{w:World}(h:cW g s aB a w)(dst:Option Tmp){x:aF}{v:Value}
 (bK : ∀d,dst=some d→d<g.N) (ap:Rel w (s.ok g aB w) s.a9 (s.bm aB) x v):cW g (s.put dst x) aB (a.put dst v) w where
 toiq:=h.toiq.congr (S.tH s dst x)
 env:=by
  have e:=S.tH s dst x
  rw [Bh e,yG e,yH e]
  intro t
  rw [ab2 a dst v t fun d qC=>Nat.lt_of_lt_of_le (bK d qC) h.jY]
  cases dst with
  | none=>simpa [S.put] using h.env t
  | some d =>
   simp only [S.put,Option.some.injEq]
   by_cases e:t=d
   ·subst e;simpa using ap
   ·rw [if_neg e,if_neg (Ne.symm e)];exact h.env t
 defers:=by cases dst<;>exact h.defers
 jY:=by cases dst<;>simpa [Act.put] using h.jY
structure Step (g:G) (s:S) (aB:fy) (w:World) (bW:S) (bQ:fy) (bT:World):Prop where
 a9 : ∀r k,s.a9 r k→bW.a9 r k
 bm : ∀r k,s.a9 r k→bW.bm bQ r k=s.bm aB r k∨bW.bm bQ r k=none
 live : ∀b,bW.l1 bQ b→s.l1 aB b∨w.heap.size≤b
 heap : ∀b,b<w.heap.size→ ¬s.l1 aB b→bT.heap[b]? = w.heap[b]?
 size:w.heap.size≤bT.heap.size
theorem Step.ok {g:G}{s bW:S}{aB bQ:fy}{w bT:World}(h:Step g s aB w bW bQ bT)(b:Nat)(aT:s.ok g aB w b):bW.ok g bQ bT b :=
 ⟨Nat.lt_of_lt_of_le aT.1 h.size,aT.2.1,fun aU=>by
  rcases h.live b aU with h1|h1
  ·exact aT.2.2 h1
  ·exact absurd aT.1 (by omega)⟩
theorem Step.rel {g:G}{s bW:S}{aB bQ:fy}{w bT:World}(h:Step g s aB w bW bQ bT){x:aF}{v:Value}
 (ap:Rel w (s.ok g aB w) s.a9 (s.bm aB) x v):Rel bT (bW.ok g bQ bT) bW.a9 (bW.bm bQ) x v :=
 ap.mono h.ok (fun b aT=>h.heap b aT.1 aT.2.2) h.a9 h.bm
theorem Step.obj {g:G}{s bW:S}{aB bQ:fy}{w bT:World}(h:Step g s aB w bW bQ bT){I:ae}{p:Option (Nat×Nat)}
 (ak : ∀b m,p=some (b,m)→bT.heap[b]? = w.heap[b]?) (aq:jC w (s.ok g aB w) s.a9 (s.bm aB) I p) :
 jC bT (bW.ok g bQ bT) bW.a9 (bW.bm bQ) I p:=by
 cases p with
 | none=>exact aq
 | some q =>
  obtain ⟨b,m⟩:=q
  obtain ⟨c,eQ,h1,o,af,av⟩:=aq
  refine ⟨c,eQ,(ak b m rfl).trans h1,o,af,fun j x U=> ?_⟩
  obtain ⟨v,e1,aD,bP⟩:=av j x U
  exact ⟨v,e1,aD,h.rel bP⟩
theorem Step.stay {g:G}{s bW:S}{aB bQ:fy}{w bT:World}(h:Step g s aB w bW bQ bT)
 (b6 : ∀j k,g.pc j k→s.a9 j k∧(s.bm aB j k=g.ri j k∨s.bm aB j k=none)) : ∀j k,g.pc j k→bW.a9 j k∧(bW.bm bQ j k=g.ri j k∨bW.bm bQ j k=none):=by
 intro j k aE
 obtain ⟨h1,o⟩:=b6 j k aE
 refine ⟨h.a9 j k h1,?_⟩
 rcases h.bm j k h1 with e|e
 ·rw [e];exact o
 ·exact .inr e
theorem B1.step {g:G}{w bT:World}(h:B1 g w)(h1:bT.os=w.os)(o:bT.tape=w.tape)(af:bT.output=w.output)(av:w.heap.size≤bT.heap.size)
 (aA : ∀b,b<g.mO.heap.size→ ¬g.pD b→bT.heap[b]? = w.heap[b]?):B1 g bT :=
 ⟨h1.trans h.os,o.trans h.tape,af.trans h.output,Nat.le_trans h.size av,fun b aT hm=>(aA b aT hm).trans (h.block b aT hm)⟩
theorem lJ (s:S)(r:Nat)(row:List ae)(q k:Nat):(s.setRow r row).an q k=if q=r then dx (some row) k else s.an q k:=by
 unfold S.an S.setRow
 by_cases e:q=r<;>simp [e]
theorem nq (s:S)(r:Nat)(row:List ae)(q k:Nat):(s.setRow r row).a9 q k↔(if q=r then k<row.length else s.a9 q k):=by
 unfold S.a9 S.setRow
 by_cases e:q=r<;>simp [e]
theorem EH {s:S}{r k:Nat}{I:ae}(h:s.an r k=some I):s.a9 r k:=by
 unfold S.an dx at h
 unfold S.a9
 cases ap:s.a0 r with
 | none=>rw [ap] at h;simp at h
 | some l =>
  rw [ap] at h
  simp only at h
  rcases Nat.lt_or_ge k l.length with h1|h1
  ·simpa using h1
  ·rw [List.getElem?_eq_none h1] at h;simp at h
theorem yi {s:S}{r:Nat}(h:s.a0 r=none)(k:Nat): ¬s.a9 r k:=by simp [S.a9,h]
theorem El (s:S){r:Nat}{l row:List ae}(ap:s.a0 r=some l)(aU:l.length≤row.length)(q k:Nat)(h:s.a9 q k):(s.setRow r row).a9 q k:=by
 rw [nq]
 by_cases e:q=r
 ·subst e;rw [if_pos rfl];simp [S.a9,ap] at h;omega
 ·rw [if_neg e];exact h
theorem agS {s:S}{r:Nat}(h:s.a0 r=none)(k:Nat):s.an r k=none:=by simp [S.an,h,dx]
def fy.set (aB:fy)(r k:Nat)(p:Option (Nat×Nat)):fy:=fun q j=>if q=r∧j=k then p else aB q j
theorem mg (I:ae)(k:Nat):dx (some [I]) k=if k=0∧I.cz≠ .gone then some I else none:=by
 unfold dx
 cases k with
 | zero=>by_cases h:I.cz = .gone<;>simp [h]
 | succ k=>simp
theorem Rel.drew {w:World}{ok:Nat→Prop}{a9:js}{bm:jh}{x:aF}{v:Value}(h:Rel w ok a9 bm x v):Rel w.drew ok a9 bm x v :=
 h.mono (fun _ h=>h) (fun _ _=>rfl) (fun _ _ h=>h) (fun _ _ _=> .inl rfl)
theorem jC.drew {w:World}{ok:Nat→Prop}{a9:js}{bm:jh}{I:ae}{p:Option (Nat×Nat)}(h:jC w ok a9 bm I p):jC w.drew ok a9 bm I p:=by
 cases p with
 | none=>exact h
 | some q =>
  obtain ⟨c,eQ,h1,o,af,av⟩:=h
  exact ⟨c,eQ,h1,o,af,fun j x U=>let ⟨v,a,b,c⟩:=av j x U;⟨v,a,b,c.drew⟩⟩
theorem iq.drew {g:G}{s:S}{aB:fy}{w:World}(h:iq g s aB w):iq g s aB w.drew :=
 {obj:=fun r k I aq=>(h.obj r k I aq).drew,inj:=h.inj,own:=h.own,gL:=⟨h.gL.os,h.gL.tape,h.gL.output,h.gL.size,h.gL.block⟩,mlt:=h.mlt,nA:=h.nA,stay:=h.stay,low:=h.low}
theorem cW.drew {g:G}{s:S}{aB:fy}{a:Act}{w:World}(h:cW g s aB a w):cW g s aB a w.drew where
 toiq:=h.toiq.drew
 env:=fun t=>(h.env t).drew
 defers:=h.defers
 jY:=h.jY
theorem cW.alloc {g:G}{s:S}{aB:fy}{a:Act}{w:World}(h:cW g s aB a w){r:Nat}(ap:s.a0 r=none)(I:ae)(ba:I.cz = .live)
 (c:Array Value) (eQ:TypeId) (hlen : ∀e∈I.es,e.length=I.sz)
 (bj : ∀(j:Nat) x,I.es.flatten[j]? = some x→ ∃v,c[j]? = some v∧km v=true∧Rel w (s.ok g aB w) s.a9 (s.bm aB) x v) :
 ∃bQ,bQ r 0=some (w.heap.size,c.size)∧cW g (s.setRow r [I]) bQ a (w.alloc (.cells c eQ)) ∧
  ∀x v,Rel w (s.ok g aB w) s.a9 (s.bm aB) x v→Rel (w.alloc (.cells c eQ)) ((s.setRow r [I]).ok g bQ (w.alloc (.cells c eQ))) (s.setRow r [I]).a9 ((s.setRow r [I]).bm bQ) x v:=by
 have lR : ∀q k,q≠r→(aB.set r 0 (some (w.heap.size,c.size))) q k=aB q k:=fun q k bb=>by simp [fy.set,bb]
 have bt : ∀q k,q≠r→(s.setRow r [I]).an q k=s.an q k:=fun q k bb=>by rw [lJ,if_neg bb]
 have zb : ∀k,(s.setRow r [I]).an r k=if k=0 then some I else none:=fun k=>by
  rw [lJ,if_pos rfl,mg];simp [ba]
 have sN : ∀q k p b m,s.an q k=some p→aB q k=some (b,m)→b<w.heap.size:=fun q k p b m ak bb=>by
  have:=h.obj q k p ak
  rw [bb] at this
  obtain ⟨d7,mH,fY,_⟩:=this
  exact (Array.getElem?_eq_some_iff.1 fY).1
 have di:Step g s aB w (s.setRow r [I]) (aB.set r 0 (some (w.heap.size,c.size))) (w.alloc (.cells c eQ)):=by
  refine ⟨fun q k bb=>(nq _ _ _ _ _).2 (by rw [if_neg (by rintro rfl;exact yi ap k bb)];exact bb),fun q k bb=> ?_,fun b aT=> ?_,fun b aT _=>heap_alloc_old w _ b aT,by simp⟩
  ·have c8:q≠r:=by rintro rfl;exact yi ap k bb
   left
   simp only [S.bm,bt q k c8,lR q k c8]
  ·obtain ⟨q,k,p,m,h1,o,af⟩:=aT
   by_cases e:q=r
   ·subst e
    rw [zb] at h1
    by_cases e0:k=0
    ·subst e0;simp [fy.set] at af;right;omega
    ·simp [e0] at h1
   ·rw [bt q k e] at h1;rw [lR q k e] at af
    exact .inl ⟨q,k,p,m,h1,o,af⟩
 refine ⟨aB.set r 0 (some (w.heap.size,c.size)),by simp [fy.set],?_,fun x v=>di.rel⟩
 refine {toiq:=⟨?_,?_,?_,?_,h.mlt,h.nA,di.stay h.stay,h.low⟩,env:=fun t=>di.rel (h.env t),defers:=h.defers,jY:=h.jY}
 ·intro q k p ak
  by_cases e:q=r
  ·subst e
   rw [zb] at ak
   by_cases e0:k=0
   ·subst e0
    simp at ak
    subst ak
    simp only [fy.set,and_self,if_true]
    exact ⟨c,eQ,heap_alloc_new w _,rfl,hlen,fun j x U=>let ⟨v,e1,aD,bP⟩:=bj j x U;⟨v,e1,aD,di.rel bP⟩⟩
   ·simp [e0] at ak
  ·rw [bt q k e] at ak
   rw [lR q k e]
   exact di.obj (fun b m hm=>heap_alloc_old w _ b (sN q k p b m ak hm)) (h.obj q k p ak)
 ·intro q k p hR dD ku b m bE h1 o af av
  by_cases e:q=r<;>by_cases ey:hR=r
  ·subst e;subst ey
   rw [zb] at h1 o
   by_cases e0:k=0<;>by_cases e1:dD=0<;>simp [e0,e1] at h1 o
   exact ⟨rfl,by omega⟩
  ·subst e
   rw [zb] at h1;rw [bt _ _ ey] at o;rw [lR _ _ ey] at av
   by_cases e0:k=0<;>simp [e0] at h1
   subst e0
   simp [fy.set] at af
   have:=sN hR dD ku b bE o av
   omega
  ·subst ey
   rw [bt _ _ e] at h1;rw [zb] at o;rw [lR _ _ e] at af
   by_cases e0:dD=0<;>simp [e0] at o
   subst e0
   simp [fy.set] at av
   have:=sN q k p b m h1 af
   omega
  ·rw [bt _ _ e] at h1;rw [bt _ _ ey] at o;rw [lR _ _ e] at af;rw [lR _ _ ey] at av
   exact h.inj q k p hR dD ku b m bE h1 o af av
 ·intro q k p b m h1 o
  by_cases e:q=r
  ·subst e
   rw [zb] at h1
   by_cases e0:k=0<;>simp [e0] at h1
   subst e0
   simp [fy.set] at o
   left
   have:=h.gL.size
   omega
  ·rw [bt _ _ e] at h1;rw [lR _ _ e] at o
   exact h.own q k p b m h1 o
 ·exact h.gL.step rfl rfl rfl (by simp) fun b aT _=>heap_alloc_old w _ b (Nat.lt_of_lt_of_le aT h.gL.size)
theorem QW (l:List ae)(k:Nat)(I cc:ae)(h:dx (some l) k=some I)(ba:cc.cz≠ .gone)(j:Nat):
 dx (some (l.set k cc)) j=if j=k then some cc else dx (some l) j:=by
 unfold dx at *
 have d3:k<l.length:=by
  rcases Nat.lt_or_ge k l.length with h1|h1
  ·exact h1
  ·simp [List.getElem?_eq_none h1] at h
 by_cases e:j=k
 ·subst e;simp [d3,ba]
 ·simp only [List.getElem?_set,if_neg (Ne.symm e),if_neg e]
theorem cW.write {g:G}{s:S}{aB:fy}{a:Act}{w bT:World}(h:cW g s aB a w){r k b m:Nat}{l:List ae}{I:ae}(ap:s.a0 r=some l)(aq:s.an r k=some I)
 (ba:I.cz = .live) (ak:aB r k=some (b,m)) (es:List (List aF)) (c:Array Value) (eQ:TypeId)
 (hw:bT.heap[b]? = some (.cells c eQ (0,0))) (fc:bT.heap.size=w.heap.size) (vt : ∀q,q≠b→bT.heap[q]? = w.heap[q]?)
 (qD:bT.os=w.os) (MM:bT.tape=w.tape) (Mp:bT.output=w.output) (hm:c.size=m)
 (hlen : ∀e∈es,e.length=I.sz)
 (bj : ∀(j:Nat) x,es.flatten[j]? = some x→ ∃v,c[j]? = some v∧km v=true∧Rel w (s.ok g aB w) s.a9 (s.bm aB) x v) :
 cW g (s.setRow r (l.set k {I with es})) aB a bT ∧
  ∀x v,Rel w (s.ok g aB w) s.a9 (s.bm aB) x v→Rel bT ((s.setRow r (l.set k {I with es})).ok g aB bT) (s.setRow r (l.set k {I with es})).a9 ((s.setRow r (l.set k {I with es})).bm aB) x v:=by
 have hU:({I with es}:ae).cz≠ .gone:=by rw [ba];simp
 have bt : ∀q j,(s.setRow r (l.set k {I with es})).an q j=if q=r∧j=k then some {I with es} else s.an q j:=by
  intro q j
  rw [lJ]
  by_cases e:q=r
  ·subst e
   have d9:dx (some l) k=some I:=by rw [← ap];exact aq
   rw [if_pos rfl,QW l k I _ d9 hU]
   by_cases aD:j=k<;>simp [aD,S.an,ap]
  ·simp [e]
 have pP:s.l1 aB b:=⟨r,k,I,m,aq,ba,ak⟩
 have di:Step g s aB w (s.setRow r (l.set k {I with es})) aB bT:=by
  refine ⟨El s ap (by simp),fun q j bb=> .inl ?_,fun q bb=> ?_,fun q bb aU=>vt q fun e=>aU (e▸pP),Nat.le_of_eq fc.symm⟩
  ·simp only [S.bm,bt]
   by_cases e:q=r∧j=k
   ·obtain ⟨rfl,rfl⟩:=e;simp [aq]
   ·rw [if_neg e]
  ·obtain ⟨hR,j,p,bE,h1,o,af⟩:=bb
   rw [bt] at h1
   by_cases e:hR=r∧j=k
   ·obtain ⟨rfl,rfl⟩:=e
    exact .inl ⟨hR,j,I,bE,aq,ba,af⟩
   ·rw [if_neg e] at h1
    exact .inl ⟨hR,j,p,bE,h1,o,af⟩
 refine ⟨{toiq:=⟨?_,?_,?_,?_,h.mlt,h.nA,di.stay h.stay,h.low⟩,env:=fun t=>di.rel (h.env t),defers:=h.defers,jY:=h.jY},fun x v=>di.rel⟩
 ·intro q j p kE
  rw [bt] at kE
  by_cases e:q=r∧j=k
  ·obtain ⟨rfl,rfl⟩:=e
   simp at kE
   subst kE
   rw [ak]
   exact ⟨c,eQ,hw,hm,hlen,fun j x U=>let ⟨v,e1,aD,bP⟩:=bj j x U;⟨v,e1,aD,di.rel bP⟩⟩
  ·rw [if_neg e] at kE
   refine di.obj (fun kv bE lf=>vt kv ?_) (h.obj q j p kE)
   rintro rfl
   exact e (h.inj q j p r k I kv bE m kE aq lf ak)
 ·intro q j p hR h5 ku kv ix hx h1 o af av
  have key : ∀q j p,(s.setRow r (l.set k {I with es})).an q j=some p→ ∃ku,s.an q j=some ku:=by
   intro q j p bb
   rw [bt] at bb
   by_cases e:q=r∧j=k
   ·obtain ⟨rfl,rfl⟩:=e;exact ⟨I,aq⟩
   ·rw [if_neg e] at bb;exact ⟨p,bb⟩
  obtain ⟨p1,Te⟩:=key q j p h1
  obtain ⟨hE,Cq⟩:=key hR h5 ku o
  exact h.inj q j p1 hR h5 hE kv ix hx Te Cq af av
 ·intro q j p kv bE h1 o
  rw [bt] at h1
  by_cases e:q=r∧j=k
  ·obtain ⟨rfl,rfl⟩:=e;exact h.own q j I kv bE aq o
  ·rw [if_neg e] at h1;exact h.own q j p kv bE h1 o
 ·refine h.gL.step qD MM Mp (Nat.le_of_eq fc.symm) fun kv py lf=>vt kv ?_
  rintro rfl
  rcases h.own r k I kv m aq ak with h1|h1
  ·omega
  ·exact lf h1
end Go.VL
namespace Go.VL
set_option linter.unusedVariables false
set_option linter.unusedSimpArgs false
open Go
inductive tb where
 | id
 | dL (es:List (List aF))
 | iJ (sz:Nat)
 | j2
 | cG (x:aF)
 | len (n:Nat)
 | NH (sz:Nat)
 | at_ (j i n:Nat)
 | view (ea:Nat) (I:ae) (es:List (List aF))
 deriving Inhabited
inductive zM where
 | cJ (c:tb)
 | ptr (l:List tb)
 | Mq (l:List tb)
 | agg (l:List tb)
 deriving Inhabited
inductive lB where
 | bp (c:zM)
 | comp (l:List zM)
 deriving Inhabited
inductive iR where
 | pure
 | box (l:List tb)
 | cG (row:List ae)
 | bM (row:List ae)
 | rx (row:List ae)
 | drop
 deriving Inhabited
structure nB where
 bK:List (Nat×Nat):=[]
 iS:Option (Nat×Nat):=none
 deriving DecidableEq
inductive Src where
 | row (r:Nat)
 | an (r k:Nat) (I:ae)
 deriving Inhabited
structure Dc where
 a2:List Src:=[]
 dc:List iR:=[]
 ac:List lB
 r:aF
 eV:List (List ae):=[]
 gr:lB:= .bp (.cJ .id)
 hC:List iR:=[]
 eC:List Nat:=[]
 ej:Bool:=true
inductive fL where
 | none
 | aa (t:Bool)
 | b5 (c:List aF)
 | gv (I:ae) (c:List aF)
 | fZ
 | call (c:Dc)
 | aI (m:Nat) (I:Option ae:=Option.none)
 | kw (t:Nat) (v:aF) (a:fL)
 | tc (r:Nat) (a:fL)
 | wu (r n:Nat) (a:fL)
structure ir where
 val:aF
 fU:List (Nat×List ae):=[]
 fH:List Prop:=[]
def BA (P:Program)(t:TypeId):Bool :=
 match P.underlying t with
 | some (.struct _)|some (.array _ _)=>true
 | _=>false
def rX (nI:List Int):ByteArray:=nI.foldl (fun r n=>r.push (UInt8.ofNat n.toNat)) ByteArray.empty
def bytesOf:List (List aF)→Option (List Int)
 | []=>some []
 | [.n .u8 n]::es=>(bytesOf es).map (n :: ·)
 | _=>none
def elemAt (es:List (List aF))(i:Nat):fL→Option (List aF×List Prop)
 | .b5 c=>some (c,[es[i]? = some c])
 | .gv _ c=>some (c,[es[i]? = some c])
 | _=>match es[i]? with
  | some c=>some (c,[])
  | none=>none
def o6 (row:Option (List ae))(k:Nat):fL→Option (ae×List Prop)
 | .gv I _=>match row with
  | some row=>some (I,[dx (some row) k=some I])
  | none=>none
 | _=>match dx row k with
  | some I=>some (I,[])
  | none=>none
def sD (P:Program)(t:TypeId)(c:List aF)(off:Nat):Option aF :=
 if !((P.underlying t).isSome && (P.info? t).isSome) then none else
 if BA P t then (if off+P.cellsOf t≤c.length then some (.agg ((c.drop off).take (P.cellsOf t))) else none)
 else match c[off]? with
  | some x=>if x.one then some x else none
  | none=>none
def Mr (op:BinOp)(x y:aF):Option (aF×List Prop) :=
 match x,y with
 | .n k a,.n dD b =>
  match op with
  | .shl=>some (.n k (k.wrap (a*2 ^ (min b.toNat k.bits))),[0≤b])
  | .shr=>some (.n k (a.fdiv (2 ^ (min b.toNat k.bits))),[0≤b])
  | _=>if k≠dD then none else
   match op with
   | .add=>some (.n k (k.wrap (a+b)),[])
   | .sub=>some (.n k (k.wrap (a-b)),[])
   | .mul=>some (.n k (k.wrap (a*b)),[])
   | .quo=>some (.n k (k.wrap (a.tdiv b)),[b≠0])
   | .rem=>some (.n k (a.tmod b),[b≠0])
   | .and=>some (.n k (k.wrap ((BitVec.ofInt k.bits a &&& BitVec.ofInt k.bits b).toNat)),[])
   | .or=>some (.n k (k.wrap ((BitVec.ofInt k.bits a ||| BitVec.ofInt k.bits b).toNat)),[])
   | .xor=>some (.n k (k.wrap ((BitVec.ofInt k.bits a ^^^ BitVec.ofInt k.bits b).toNat)),[])
   | .eql=>some (.b (a == b),[])
   | .neq=>some (.b (a != b),[])
   | .lss=>some (.b (decide (a<b)),[])
   | .leq=>some (.b (decide (a≤b)),[])
   | .gtr=>some (.b (decide (b<a)),[])
   | .geq=>some (.b (decide (b≤a)),[])
   | _=>none
 | .s a,.s b =>
  match op with
  | .add=>some (.s (a++b),[a.size+b.size<9223372036854775808])
  | .eql=>some (.b (a.toList == b.toList),[])
  | .neq=>some (.b (!(a.toList == b.toList)),[])
  | _=>none
 | _,_=>none
def rZ (P:Program)(t:TypeId)(x y:aF):Option Bool :=
 match P.underlying t,x,y with
 | some .bool,.b a,.b c=>some (a == c)
 | some (.pointer _),.im,.im=>some true
 | some (.pointer _),.dS ..,.im=>some false
 | some (.pointer _),.im,.dS .. => some false
 | some (.slice _),.ek,.ek=>some true
 | some (.slice _),.iF,.ek=>some false
 | _,_,_=>none
def MN (op:UnOp)(x:aF):Option aF :=
 match op,x with
 | .neg,.n k a=>some (.n k (k.wrap (0-a)))
 | .not,.b a=>some (.b (!a))
 | _,_=>none
def fieldsOf (P:Program)(t:TypeId):Option (Array Field) :=
 match P.underlying t with
 | some (.struct kT)=>some kT
 | _=>none
def pQ (P:Program)(t:TypeId):Option TypeId :=
 match P.underlying t with
 | some (.slice e)=>some e
 | _=>none
def qS (P:Program)(t:TypeId):Option (List aF) :=
 match P.info? t with
 | some i=>match i.zero with
  | some v=>if v.cells.toList.all (·.oneCell') then some (v.cells.toList.map ofValue) else none
  | none=>none
 | none=>none
def BB:aF→aF→aF
 | .ek,.isl sz []=> .isl sz []
 | .im,.kh sz none=> .kh sz none
 | .ek,.i5 r c sz none=> .i5 r c sz none
 | x,_=>x
def q4:List aF→List aF→List aF
 | x::z,y::c=>BB x y::q4 z c
 | z,_=>z
def sE (z:List aF):fL→List aF
 | .b5 c=>q4 z c
 | _=>z
def setCells (c:List aF)(off:Nat)(vs:List aF):List aF:=c.take off++vs++c.drop (off+vs.length)
def tI:List aF→List (Nat×Nat×aF)→Option (List aF)
 | c,[]=>some c
 | c,(off,size,x)::rest =>
  if x.yF && x.cells.length=size && decide (off+size≤c.length) then tI (setCells c off x.cells) rest else none
def y4 (sz:Nat):List (List aF)→List (Nat×aF)→Option (List (List aF))
 | es,[]=>some es
 | es,(i,x)::rest=>if x.yF && x.cells.length=sz && decide (i<es.length) then y4 sz (es.set i x.cells) rest else none
def ar:Option aF→Nat→Option (Nat×List Prop)
 | none,d=>some (d,[])
 | some (.n _ x),_=>some (x.toNat,[0≤x])
 | _,_=>none
def e5 (P:Program)(E:Nat→aF)(a0:Nat→Option (List ae))(aW:Nat)(I:Oper)(cY:fL):Option ir :=
 let iK:=fq E
 match I.op with
 | .move x | .assign x=>some {val:=iK x}
 | .pick c a b =>
  match iK c,cY with
  | .b x,.aa t=>some {val:=if t then iK a else iK b,fH:=[x=t]}
  | .b true,_=>some {val:=iK a}
  | .b false,_=>some {val:=iK b}
  | _,_=>none
 | .alloc t =>
  match qS P t with
  | some c=>some {val:= .ref aW 0 0 0,fU:=[(aW,[⟨c.length,[c],.live⟩])]}
  | none=>none
 | .box _ x =>
  match iK x with
  | .agg c=>some {val:= .ref aW 0 0 0,fU:=[(aW,[⟨c.length,[c],.live⟩])]}
  | v=>if v.one then some {val:= .ref aW 0 0 0,fU:=[(aW,[⟨1,[[v]],.live⟩])]} else none
 | .load t x =>
  match iK x with
  | .ref r k i off =>
   match o6 (a0 r) k cY with
   | some (an,b9)=>match elemAt an.es i cY with
    | some (c,aV)=>match sD P t c off with
     | some v=>some {val:=v,fH:=b9++aV}
     | none=>none
    | none=>none
   | none=>none
  | .dS _ es i off =>
   match elemAt es i cY with
   | some (c,aV)=>match sD P t c off with
    | some v=>some {val:=v,fH:=aV}
    | none=>none
   | none=>none
  | _=>none
 | .store t x y =>
  match iK x with
  | .ref r k i off =>
   match a0 r with
   | none=>none
   | some row =>
   match o6 (some row) k cY with
   | some (an,b9) =>
    if an.cz≠ .live then none else
    let v:=iK y
    if v.yF=false then none else
    if v.cells.length≠P.cellsOf t∨(P.info? t).isSome=false then none else
    match cY with
    | .fZ=>if off=0 then some {val:= .dead,fU:=[(r,row.set k {an with es:=an.es.set i v.cells})],fH:=b9++[i<an.es.length,v.cells.length=an.sz]} else none
    | _=>match elemAt an.es i cY with
     | some (c,aV)=>if off+v.cells.length≤c.length then some {val:= .dead,fU:=[(r,row.set k {an with es:=an.es.set i (setCells c off v.cells)})],fH:=b9++aV} else none
     | none=>none
   | none=>none
  | _=>none
 | .nilCheck x =>
  match iK x with
  | .ref r k i off=>match o6 (a0 r) k cY with
   | some (an,b9)=>match elemAt an.es i cY with
    | some (_,aV)=>some {val:= .ref r k i off,fH:=b9++aV}
    | none=>none
   | none=>none
  | .dS sz es i off=>some {val:= .dS sz es i off}
  | .fn f c=>some {val:= .fn f c}
  | _=>none
 | .binOp op t x y _ =>
  match Mr op (iK x) (iK y) with
  | some (v,an)=>some {val:=v,fH:=an}
  | none=>match op with
   | .eql=>(rZ P t (iK x) (iK y)).map fun r=>{val:= .b r}
   | .neq=>(rZ P t (iK x) (iK y)).map fun r=>{val:= .b (!r)}
   | _=>none
 | .unOp op _ x=>(MN op (iK x)).map fun v=>{val:=v}
 | .convert src dst x =>
  match P.underlying dst,iK x with
  | some (.int k),.n _ a=>if (P.underlying src).isSome then some {val:= .n k (k.wrap a)} else none
  | some .string,.bh r k b3 len =>
   match (pQ P src).bind P.underlying,dx (a0 r) k with
   | some (.int .u8),some an=>match bytesOf ((an.es.drop b3).take len) with
    | some nI=>if b3+len≤an.es.length∧an.sz=1 then some {val:= .s (rX nI)} else none
    | none=>none
   | _,_=>none
  | _,_=>none
 | .makeFunc (.func f) first captured =>
  if first.size=0 then some {val:= .fn f (captured.toList.map iK)} else none
 | .makeSlice t l c =>
  match pQ P t,iK l,iK c with
  | some e,.n _ l,.n _ c =>
   match P.info? e,qS P e with
   | some i,some z=>if z.length=i.size then some {val:= .bh aW 0 0 l.toNat,fU:=[(aW,[⟨z.length,List.replicate l.toNat (sE z cY),.live⟩])],fH:=[0≤l,l≤c,(i.bytes:Int)*c≤281474976710656,c<9223372036854775808]} else none
   | _,_=>none
  | _,_,_=>none
 | .fieldAddr t x f =>
  match fieldsOf P t with
  | some kT=>match kT[f]? with
   | some fd=>if P.cellsOf fd.type=0 then none else
    match iK x with
    | .ref r k i off=>match o6 (a0 r) k cY with
     | some (an,b9)=>match elemAt an.es i cY with
      | some (_,aV)=>some {val:= .ref r k i (off+fd.offset),fH:=b9++aV}
      | none=>none
     | none=>none
    | .dS sz es i off=>some {val:= .dS sz es i (off+fd.offset)}
    | _=>none
   | none=>none
  | none=>none
 | .field t x f =>
  match fieldsOf P t with
  | some kT=>match kT[f]?,iK x with
   | some fd,.agg c=>(sD P fd.type c fd.offset).map fun v=>{val:=v}
   | _,_=>none
  | none=>none
 | .indexAddr t x mP =>
  match pQ P t,iK mP with
  | some e,.n _ j =>
   match iK x with
   | .isl sz es=>if sz=P.cellsOf e∧sz≠0 then some {val:= .dS sz es j.toNat 0,fH:=[0≤j,j<es.length]} else none
   | .bh r k b3 len=>match a0 r with
    | some row=>match o6 (some row) k cY with
     | some (an,b9)=>if an.sz=P.cellsOf e∧an.sz≠0 then some {val:= .ref r k (b3+j.toNat) 0,fH:=b9++[0≤j,j<len]} else none
     | none=>none
    | none=>none
   | _=>none
  | _,_=>none
 | .index t x mP =>
  match P.underlying t,iK x,iK mP with
  | some .string,.s s,.n _ j=>some {val:= .n .u8 (s.data.toList.getD j.toNat 0).toNat,fH:=[0≤j,j<s.size]}
  | _,_,_=>none
 | .extract x i =>
  match iK x with
  | .ee vs=>(vs[i]?).map fun v=>{val:=v}
  | _=>none
 | .slice t x b3 ah none =>
  match P.underlying t,iK x with
  | some (.slice e),.isl sz es =>
   match ar (b3.map iK) 0,ar (ah.map iK) es.length with
   | some (l,b9),some (h,aV)=>if sz=P.cellsOf e∧sz≠0 then some {val:= .isl sz ((es.drop l).take (h-l)),fH:=b9++aV++[l≤h,h≤es.length]} else none
   | _,_=>none
  | some (.slice e),.bh r k Ui len =>
   match a0 r with
   | none=>none
   | some row=>match o6 (some row) k cY with
    | none=>none
    | some (an,Uj) =>
     match ar (b3.map iK) 0,ar (ah.map iK) len with
     | some (l,b9),some (h,aV)=>if an.sz=P.cellsOf e∧an.sz≠0 then some {val:= .bh r k (Ui+l) (h-l),fH:=Uj++b9++aV++[l≤h,h≤len]} else none
     | _,_=>none
  | some .string,.s s =>
   match ar (b3.map iK) 0,ar (ah.map iK) s.size with
   | some (l,b9),some (h,aV)=>some {val:= .s (s.extract l h),fH:=b9++aV++[l≤h,h≤s.size]}
   | _,_=>none
  | _,_=>none
 | .build t parts =>
  match fieldsOf P t,qS P t with
  | some kT,some z =>
   if kT.toList.all (fun f=>(P.info? f.type).isSome)=false then none else
   match parts.toList.mapM fun (p:Nat×Operand)=>(kT[p.1]?).map fun fd=>(fd.offset,P.cellsOf fd.type,iK p.2) with
   | some l=>(tI z l).map fun c=>{val:= .agg c}
   | none=>none
  | _,_=>none
 | .buildSlice t len parts =>
  match pQ P t with
  | some e=>match qS P e with
   | some z =>
    if len*z.length>16777216∨z.length≠P.cellsOf e∨z.length=0 then none else
    match y4 z.length (List.replicate len z) (parts.toList.map fun p=>(p.1,iK p.2)) with
    | some es=>some {val:= .bh aW 0 0 len,fU:=[(aW,[⟨z.length,es,.live⟩])]}
    | none=>none
   | none=>none
  | none=>none
 | .call {callee:= .builtin .len,args,argTypes} =>
  match args.toList.map iK,P.underlying (argTypes.getD 0 0),decide (argTypes.size=1) with
  | [.isl _ es],some (.slice _),true=>some {val:= .n .i64 es.length}
  | [.bh r k _ len],some (.slice _),true=>match a0 r with
   | some row=>match o6 (some row) k cY with
    | some (_,b9)=>some {val:= .n .i64 len,fH:=b9}
    | none=>none
   | none=>none
  | [.ek],some (.slice _),true=>some {val:= .n .i64 0}
  | [.s x],some .string,true=>some {val:= .n .i64 x.size}
  | _,_,_=>none
 | _=>none
end Go.VL
namespace Go.VL
set_option linter.unusedVariables false
set_option linter.unusedSimpArgs false
open Go
theorem pq {α:Type}{sz:Nat}(b6:0<sz): ∀(es:List (List α)) (_ : ∀e∈es,e.length=sz) (j:Nat),
 es.flatten[j]? = (es[j / sz]?).bind (·[j % sz]?)
 | [],_,j=>by simp
 | e::es,h,j=>by
  have he:e.length=sz:=h e (by simp)
  rw [List.flatten_cons,List.getElem?_append]
  by_cases aE:j<sz
  ·rw [if_pos (by omega),Nat.div_eq_of_lt aE,Nat.mod_eq_of_lt aE];simp
  ·rw [if_neg (by omega),he,pq b6 es (fun ey l5=>h ey (by simp [l5])) (j-sz)]
   have h1:j / sz=(j-sz) / sz+1:=Nat.div_eq_sub_div b6 (by omega)
   have o:j % sz=(j-sz) % sz:=Nat.mod_eq_sub_mod (by omega)
   rw [h1,o];simp
theorem A5 {α:Type}{sz:Nat}{es:List (List α)}(aU:∀e∈es,e.length=sz){i:Nat}{c:List α}(he:es[i]? = some c){j:Nat}(aE:j<sz):
 es.flatten[i*sz+j]? = c[j]? := by
 have b6:0<sz:=by omega
 rw [pq b6 es aU]
 have h1:(i*sz+j) / sz=i:=by
  rw [Nat.mul_comm,Nat.mul_add_div b6,Nat.div_eq_of_lt aE];omega
 have o:(i*sz+j) % sz=j:=by
  rw [Nat.mul_comm,Nat.mul_add_mod,Nat.mod_eq_of_lt aE]
 rw [h1,o,he];rfl
theorem PQ {α:Type}{sz:Nat}{es:List (List α)}(aU:∀e∈es,e.length=sz){i:Nat}{c d7:List α}(he:es[i]? = some c)(bj:d7.length=sz)(j:Nat):
 (es.set i d7).flatten[j]? = if i*sz≤j∧j<i*sz+sz then d7[j-i*sz]? else es.flatten[j]? := by
 rcases Nat.eq_zero_or_pos sz with h0|b6
 ·subst h0
  have e1 : ∀(l:List (List α)),(∀e∈l,e.length=0)→l.flatten=[]:=by
   intro l aU;induction l with
   | nil=>rfl
   | cons a l ih=>rw [List.flatten_cons,ih fun e he=>aU e (by simp [he])];have:=aU a (by simp);simp_all
  rw [e1 _ aU,e1 (es.set i d7) (by
   intro e hm
   rcases List.mem_or_eq_of_mem_set hm with h|h
   ·exact aU e h
   ·exact h▸bj)]
  simp
 ·have MO : ∀e∈es.set i d7,e.length=sz:=by
   intro e hm
   rcases List.mem_or_eq_of_mem_set hm with h|h
   ·exact aU e h
   ·exact h▸bj
  have ah:i<es.length:=by
   rcases Nat.lt_or_ge i es.length with h|h
   ·exact h
   ·rw [List.getElem?_eq_none h] at he;simp at he
  rw [pq b6 _ MO,pq b6 _ aU]
  by_cases bb:j / sz=i
  ·have h1:i*sz≤j∧j<i*sz+sz:=by
    subst bb
    constructor
    ·exact Nat.div_mul_le_self j sz
    ·have:=Nat.lt_div_mul_add (a:=j) b6;omega
   rw [if_pos h1,bb,List.getElem?_set_self ah]
   have:j % sz=j-i*sz:=by
    subst bb;have:=Nat.div_add_mod j sz;rw [Nat.mul_comm] at this;omega
   simp [this]
  ·have h1 : ¬(i*sz≤j∧j<i*sz+sz):=by
    rintro ⟨a,b⟩
    apply bb
    obtain ⟨d,rfl⟩ : ∃d,j=i*sz+d:=⟨j-i*sz,by omega⟩
    rw [Nat.mul_comm i sz,Nat.mul_add_div b6,Nat.div_eq_of_lt (by omega)]
    omega
   rw [if_neg h1,List.getElem?_set_ne (Ne.symm bb)]
def oG (w:World)(ok:Nat→Prop)(a9:js)(bm:jh)(eg I sz:Nat)(es:List (List aF)):Prop :=
 (∀e∈es,e.length=sz)∧ ∀(j:Nat) x,es.flatten[j]? = some x→ ∃v,w.cell? ⟨eg,I+j,none⟩=some v∧km v=true∧Rel w ok a9 bm x v
theorem jC.rd {w:World}{ok:Nat→Prop}{a9:js}{bm:jh}{I:ae}{eg m:Nat}(h:jC w ok a9 bm I (some (eg,m))):oG w ok a9 bm eg 0 I.sz I.es:=by
 obtain ⟨c,eQ,h1,o,af,av⟩:=h
 refine ⟨af,fun j x U=> ?_⟩
 obtain ⟨v,e1,aD,bP⟩:=av j x U
 exact ⟨v,by rw [cell_of_row w eg (0+j) c eQ (0,0) h1,Nat.zero_add];exact e1,aD,bP⟩
theorem ag0 {w:World}{ok:Nat→Prop}{a9:js}{bm:jh}{x:aF}{v:Value}(h:Rel w ok a9 bm x v)(aq:x.one=true):v.oneCell'=true:=h.km aq
theorem Qv {P:Program}{t:TypeId}(h:(P.underlying t).isSome=true)(w:World):(isAgg t).run P w = .ok (BA P t) w:=by
 cases bK:P.underlying t with
 | none=>simp [bK] at h
 | some d=>cases d<;>simp [isAgg,BA,run_underlying bK,bK]
theorem u0 {P:Program}{t:TypeId}(h:(P.info? t).isSome=true)(w:World):(sizeOf t).run P w = .ok (P.cellsOf t) w:=by
 cases ah:P.info? t with
 | none=>simp [ah] at h
 | some i=>simp [sizeOf,typeInfo,ah,Program.cellsOf]
theorem rP (b I n:Nat):(⟨b,I,none⟩:Addr).add n=⟨b,I+n,none⟩:=by unfold Addr.add;split<;>simp_all
theorem K9 {P:Program}{w:World}{ok:Nat→Prop}{a9:js}{bm:jh}{eg I sz i off:Nat}{es:List (List aF)}{c:List aF}{t:TypeId}{x:aF}
 (iG:oG w ok a9 bm eg I sz es) (he:es[i]? = some c) (cj:sD P t c off=some x) :
 ∃v,(Instr.loadAt t (.pointer (some ⟨eg,I+(i*sz+off),none⟩))).run P w = .ok v w∧Rel w ok a9 bm x v:=by
 have hlen:c.length=sz:=iG.1 c (List.mem_of_getElem? he)
 unfold sD at cj
 split at cj
 ·simp at cj
 ·rename_i ah
  simp only [Bool.not_eq_true',Bool.not_eq_false,Bool.and_eq_true] at ah
  have kd : ∀j,j<sz→ ∃y v,c[j]? = some y∧w.cell? ⟨eg,I+(i*sz+j),none⟩=some v∧km v=true∧Rel w ok a9 bm y v:=by
   intro j aE
   have aZ:c[j]? = some c[j]:=List.getElem?_eq_getElem (by omega)
   obtain ⟨v,e1,aD,bP⟩:=iG.2 (i*sz+j) c[j] (by rw [A5 iG.1 he aE,aZ])
   exact ⟨_,v,aZ,e1,aD,bP⟩
  simp only [Instr.loadAt,Instr.sureAddr,loadVar,Sem.run_bind,Sem.run_pure,Result.andThen,Qv ah.1,u0 ah.2]
  split at cj
  ·rename_i re
   rw [re]
   split at cj
   ·rename_i hle
    simp at cj;subst cj
    have aU:=run_loadCells (P:=P) w ⟨eg,I+(i*sz+off),none⟩ (P.cellsOf t) (fun j=>(w.cell? ⟨eg,I+(i*sz+(off+j)),none⟩).getD undef) (by
     intro j aE
     obtain ⟨y,v,-,e1,-,-⟩:=kd (off+j) (by omega)
     rw [rP,show I+(i*sz+off)+j=I+(i*sz+(off+j)) by omega,e1];rfl)
    refine ⟨.agg (List.map (fun j=>(w.cell? ⟨eg,I+(i*sz+(off+j)),none⟩).getD undef) (List.range (P.cellsOf t))).toArray,by simp [aU,Result.andThen,u0 ah.2],?_⟩
    refine .agg _ (by simp;omega) ?_ ?_
    ·intro j v bk
     rw [List.getElem?_map,Option.map_eq_some_iff] at bk
     obtain ⟨q,l6,rfl⟩:=bk
     obtain ⟨oz,zh⟩:=List.getElem?_eq_some_iff.1 l6
     have bb:j<P.cellsOf t:=by simpa using oz
     obtain rfl:j=q:=by simpa using zh
     obtain ⟨y,v,-,e1,aD,-⟩:=kd (off+j) (by omega)
     rw [e1];exact aD
    ·intro j y v aZ bk
     rw [List.getElem?_map,Option.map_eq_some_iff] at bk
     obtain ⟨q,l6,rfl⟩:=bk
     obtain ⟨oz,zh⟩:=List.getElem?_eq_some_iff.1 l6
     have bb:j<P.cellsOf t:=by simpa using oz
     obtain rfl:j=q:=by simpa using zh
     rw [List.getElem?_take,if_pos bb,List.getElem?_drop] at aZ
     obtain ⟨mc,v,h0,e1,aD,bP⟩:=kd (off+j) (by omega)
     rw [h0] at aZ;simp at aZ;subst aZ
     rw [e1];exact bP
   ·simp at cj
  ·rename_i re
   have re:BA P t=false:=by simpa using re
   rw [re]
   split at cj
   ·rename_i y aZ
    split at cj
    ·simp at cj;subst cj
     have zc:off<sz:=by
      rcases Nat.lt_or_ge off c.length with h|h
      ·omega
      ·rw [List.getElem?_eq_none h] at aZ;simp at aZ
     obtain ⟨mc,v,h0,e1,aD,bP⟩:=kd off zc
     rw [h0] at aZ;simp at aZ;subst aZ
     exact ⟨v,by simp [e1],bP⟩
    ·simp at cj
   ·simp at cj
theorem Pf {c:List aF}{off:Nat}{vs:List aF}(h:off+vs.length≤c.length):(setCells c off vs).length=c.length:=by
 simp [setCells];omega
theorem K1 {c:List aF}{off:Nat}{vs:List aF}(h:off+vs.length≤c.length)(j:Nat):
 (setCells c off vs)[j]? = if off≤j∧j<off+vs.length then vs[j-off]? else c[j]? := by
 unfold setCells
 rw [List.append_assoc,List.getElem?_append]
 have h1:(c.take off).length=off:=by simp;omega
 rw [h1]
 by_cases a:j<off
 ·rw [if_pos a,if_neg (by omega),List.getElem?_take,if_pos a]
 ·rw [if_neg a,List.getElem?_append]
  by_cases b:j<off+vs.length
  ·rw [if_pos (by omega),if_pos ⟨by omega,b⟩]
  ·rw [if_neg (by omega),if_neg (by omega),List.getElem?_drop]
   congr 1;omega
theorem adA {c:Array Value}{p:Nat}{vs:List Value}(h:p+vs.length≤c.size)(j:Nat):
 (c.toList.take p++vs++c.toList.drop (p+vs.length)).toArray[j]? = if p≤j∧j<p+vs.length then vs[j-p]? else c[j]? := by
 rw [List.getElem?_toArray,List.append_assoc,List.getElem?_append]
 have h1:(c.toList.take p).length=p:=by simp;omega
 rw [h1]
 by_cases a:j<p
 ·rw [if_pos a,if_neg (by omega),List.getElem?_take,if_pos a,Array.getElem?_toList]
 ·rw [if_neg a,List.getElem?_append]
  by_cases b:j<p+vs.length
  ·rw [if_pos (by omega),if_pos ⟨by omega,b⟩]
  ·rw [if_neg (by omega),if_neg (by omega),List.getElem?_drop,Array.getElem?_toList]
   congr 1;omega
theorem aaf {P:Program}{g:G}{s:S}{aB:fy}{a:Act}{w:World}(h:cW g s aB a w){r k b m i off:Nat}{l:List ae}{I:ae}{c:List aF}
 (ap:s.a0 r=some l) (aq:s.an r k=some I) (ba:I.cz = .live) (ak:aB r k=some (b,m)) (he:I.es[i]? = some c)
 {t:TypeId} (MP:(P.info? t).isSome=true) {x:aF} {v:Value} (U:Rel w (s.ok g aB w) s.a9 (s.bm aB) x v) (l3:x.one=true∨ ∃c,x = .agg c)
 (fc:x.cells.length=P.cellsOf t) (iD:off+x.cells.length≤c.length) :
 ∃bT,(Instr.storeAt t (.pointer (some ⟨b,i*I.sz+off,none⟩)) v).run P w = .ok () bT ∧
  cW g (s.setRow r (l.set k {I with es:=I.es.set i (setCells c off x.cells)})) aB a bT:=by
 obtain ⟨vs,bk,pV,kd,fG⟩:=U.cellsOf l3
 have bt:=h.obj r k I aq
 rw [ak] at bt
 obtain ⟨cv,eQ,h1,o,af,av⟩:=bt
 have hlen:c.length=I.sz:=af c (List.mem_of_getElem? he)
 have zd:i*I.sz+off+vs.length≤cv.size:=by
  rcases Nat.eq_zero_or_pos I.sz with cF|cF
  ·have:off=0:=by omega
   have:vs.length=0:=by omega
   rw [cF];omega
  ·have aU:I.es.flatten[i*I.sz+(I.sz-1)]? = some (c[I.sz-1]'(by omega)):=by
    rw [A5 af he (by omega)];exact List.getElem?_eq_getElem (by omega)
   obtain ⟨Uk,e1,-,-⟩:=av _ _ aU
   have:=(Array.getElem?_eq_some_iff.1 e1).1
   omega
 have mr:=run_storeCells_at P b (i*I.sz+off) eQ vs 0 cv w h1 (by simpa using zd) (fun Uk Cr=>by
  obtain ⟨q,bb⟩:=List.getElem?_of_mem Cr
  exact kd q Uk bb)
 simp only [Nat.add_zero] at mr
 have jb:(Instr.storeAt t (.pointer (some ⟨b,i*I.sz+off,none⟩)) v).run P w =
  .ok () (w.setRow b (cv.toList.take (i*I.sz+off)++vs++cv.toList.drop (i*I.sz+off+vs.length)).toArray):=by
  have b6:v.cells.size=P.cellsOf t:=by rw [bk];simpa using pV.trans fc
  simp only [Instr.storeAt,Instr.sureAddr,storeVar,Sem.run_bind,Sem.run_pure,Result.andThen,u0 MP,b6,ne_eq,not_true_eq_false,if_false]
  rw [bk]
  simpa using mr
 refine ⟨_,jb,?_⟩
 have aer:(w.setRow b (cv.toList.take (i*I.sz+off)++vs++cv.toList.drop (i*I.sz+off+vs.length)).toArray).heap.size=w.heap.size:=size_setRow _ _ _
 have sT:(setCells c off x.cells).length=I.sz:=by rw [Pf iD];exact hlen
 refine (h.write ap aq ba ak _ _ eQ (setRow_heap w b cv _ eQ _ h1) aer (fun q bb=>setRow_other w b q _ bb) rfl rfl rfl ?_ ?_ ?_).1
 ·simp;omega
 ·intro e hm
  rcases List.mem_or_eq_of_mem_set hm with cP|cP
  ·exact af e cP
  ·exact cP▸sT
 ·intro j y aZ
  rw [adA zd]
  rw [PQ af he sT] at aZ
  by_cases l7:i*I.sz≤j∧j<i*I.sz+I.sz
  ·rw [if_pos l7,K1 iD] at aZ
   by_cases SQ:off≤j-i*I.sz∧j-i*I.sz<off+x.cells.length
   ·rw [if_pos SQ] at aZ
    rw [if_pos ⟨by omega,by omega⟩]
    have bb:j-(i*I.sz+off)<vs.length:=by omega
    refine ⟨vs[j-(i*I.sz+off)],List.getElem?_eq_getElem bb,kd _ _ (List.getElem?_eq_getElem bb),fG (j-i*I.sz-off) y _ aZ ?_⟩
    rw [show j-i*I.sz-off=j-(i*I.sz+off) by omega]
    exact List.getElem?_eq_getElem bb
   ·rw [if_neg SQ] at aZ
    rw [if_neg (by omega)]
    refine av j y ?_
    rw [show j=i*I.sz+(j-i*I.sz) by omega,A5 af he (by omega)]
    exact aZ
  ·rw [if_neg l7] at aZ
   rw [if_neg (by rw [pV];omega)]
   exact av j y aZ
end Go.VL
namespace Go.VL
set_option linter.unusedVariables false
set_option linter.unusedSimpArgs false
open Go
def S.ic (s:S)(u:List (Nat×List ae)):S:=u.foldl (fun s p=>s.setRow p.1 p.2) s
@[simp] theorem S.aha (s:S):s.ic []=s:=rfl
@[simp] theorem S.ahb (s:S) (p:Nat×List ae):s.ic [p]=s.setRow p.1 p.2:=rfl
section
variable {w:World} {ok:Nat→Prop} {a9:js} {bm:jh} {v:Value}
theorem Rel.tJ {x:Bool}(h:Rel w ok a9 bm (.b x) v):v = .bool x:=by cases h;rfl
theorem Rel.pt {k:IntKind}{x:Int}(h:Rel w ok a9 bm (.n k x) v):v = .int k x:=by cases h;rfl
theorem Rel.y5 {x:ByteArray}(h:Rel w ok a9 bm (.s x) v):v = .string x:=by cases h;rfl
theorem Rel.vi (h:Rel w ok a9 bm .im v):v = .pointer none:=by cases h;rfl
theorem Rel.pJ (h:Rel w ok a9 bm .ek v):v = .slice none 0 0:=by cases h;rfl
theorem Rel.ES (h:Rel w ok a9 bm .iF v): ∃a c,v = .slice (some a) 0 c:=by cases h;exact ⟨_,_,rfl⟩
theorem Rel.QX {sz:Nat}(h:Rel w ok a9 bm (.kh sz none) v):v = .pointer none:=by cases h;rfl
theorem Rel.Ls {sz:Nat}{c:List aF}(h:Rel w ok a9 bm (.kh sz (some c)) v):Rel w ok a9 bm (.dS sz [c] 0 0) v:=by cases h;assumption
theorem Rel.E3 {f:Nat}{c:List aF}(h:Rel w ok a9 bm (.fn f c) v): ∃vs:List Value,v = .func (.func f) #[] vs.toArray∧vs.length=c.length ∧
 ∀(j:Nat) x u,c[j]? = some x→vs[j]? = some u→Rel w ok a9 bm x u:=by
 cases h with|fn vs aU ap=>exact ⟨vs,rfl,aU,ap⟩
theorem Rel.Bo {c:List aF}(h:Rel w ok a9 bm (.agg c) v): ∃vs:List Value,v = .agg vs.toArray∧vs.length=c.length∧(∀(j:Nat) u,vs[j]? = some u→VL.km u=true) ∧
 ∀(j:Nat) x u,c[j]? = some x→vs[j]? = some u→Rel w ok a9 bm x u:=by
 cases h with|agg vs aU bj ap=>exact ⟨vs,rfl,aU,bj,ap⟩
theorem Rel.yN {c:List aF}(h:Rel w ok a9 bm (.ee c) v): ∃vs:List Value,v = .tuple vs.toArray∧vs.length=c.length ∧
 ∀(j:Nat) x u,c[j]? = some x→vs[j]? = some u→Rel w ok a9 bm x u:=by
 cases h with|ee vs aU ap=>exact ⟨vs,rfl,aU,ap⟩
theorem Rel.yO {r k i off sz:Nat}{p:Option (Nat×Nat)}(h:Rel w ok a9 bm (.ref r k i off) v)(cj:bm r k=some (sz,p)):
 p=none∨ ∃b m,p=some (b,m)∧v = .pointer (some ⟨b,i*sz+off,none⟩):=by
 cases h with
 | pM a hu a5 =>
  cases p with
  | none=>exact .inl rfl
  | some q=>exact absurd cj (a5 _ _)
 | ref hu h =>
  rw [cj] at h
  simp only [Option.some.injEq,Prod.mk.injEq] at h
  obtain ⟨rfl,rfl⟩:=h
  exact .inr ⟨_,_,rfl,rfl⟩
theorem Rel.ahh {r k i off:Nat}(h:Rel w ok a9 bm (.ref r k i off) v): ∃a,v = .pointer a:=by
 cases h with
 | pM a=>exact ⟨a,rfl⟩
 | ref=>exact ⟨_,rfl⟩
theorem Rel.abj {r k i off sz b m:Nat}(h:Rel w ok a9 bm (.ref r k i off) v)(cj:bm r k=some (sz,some (b,m)))(SR:Nat):
 Rel w ok a9 bm (.ref r k i SR) (.pointer (some ⟨b,i*sz+SR,none⟩)):=by
 cases h with
 | pM a hu a5=>exact absurd cj (a5 _ _)
 | ref hu h=>exact .ref hu cj
theorem Rel.yP {sz i off:Nat}{es:List (List aF)}(h:Rel w ok a9 bm (.dS sz es i off) v): ∃eg I,(ok eg∧iY es)∧v = .pointer (some ⟨eg,I+(i*sz+off),none⟩)∧oG w ok a9 bm eg I sz es:=by
 cases h with
 | dS cs aT ak aU hw bj ap=>exact ⟨_,_,⟨aT,ak⟩,rfl,aU,fun j x U=>⟨cs j,hw j x U,bj j x U,ap j x U⟩⟩
theorem Rel.Bp {r k b3 len sz:Nat}{p:Option (Nat×Nat)}(h:Rel w ok a9 bm (.bh r k b3 len) v)(cj:bm r k=some (sz,p)):
 (p=none∧b3=0∧len=0∧v = .slice none 0 0)∨ ∃b m a c,p=some (b,m)∧v = .slice a len c∧len≤c∧c<9223372036854775808∧(c=0∨(a=some ⟨b,b3*sz,none⟩∧(b3+c)*sz=m)):=by
 cases h with
 | ns a l c hu a5=>rw [cj] at a5;simp at a5
 | nO hu h =>
  rw [cj] at h
  simp only [Option.some.injEq,Prod.mk.injEq] at h
  exact .inl ⟨h.2,rfl,rfl,rfl⟩
 | bh hu h aU bj hm =>
  rw [cj] at h
  simp only [Option.some.injEq,Prod.mk.injEq] at h
  obtain ⟨rfl,rfl⟩:=h
  exact .inr ⟨_,_,_,_,rfl,rfl,aU,bj,hm.2.imp id fun e=>⟨e,hm.1⟩⟩
theorem Rel.vj {r k b3 len sz:Nat}{p:Option (Nat×Nat)}(h:Rel w ok a9 bm (.bh r k b3 len) v)(cj:bm r k=some (sz,p)):
 (p=none∧b3=0∧len=0∧v = .slice none 0 0)∨ ∃b m a c,p=some (b,m)∧v = .slice a len c∧len≤c∧c<9223372036854775808∧(b3+c)*sz=m∧(c=0∨a=some ⟨b,b3*sz,none⟩):=by
 cases h with
 | ns a l c hu a5=>rw [cj] at a5;simp at a5
 | nO hu h =>
  rw [cj] at h
  simp only [Option.some.injEq,Prod.mk.injEq] at h
  exact .inl ⟨h.2,rfl,rfl,rfl⟩
 | bh hu h aU bj hm =>
  rw [cj] at h
  simp only [Option.some.injEq,Prod.mk.injEq] at h
  obtain ⟨rfl,rfl⟩:=h
  exact .inr ⟨_,_,_,_,rfl,rfl,aU,bj,hm⟩
theorem Rel.ag1 {r k b3 len:Nat}(h:Rel w ok a9 bm (.bh r k b3 len) v): ∃a l c,v = .slice a l c:=by
 cases h<;>exact ⟨_,_,_,rfl⟩
theorem Rel.sw {sz:Nat}{es:List (List aF)}(h:Rel w ok a9 bm (.isl sz es) v):
 (es=[]∧ ∃a c,v = .slice a 0 c∧(a=none→c=0))∨ ∃eg off c,(ok eg∧iY es)∧v = .slice (some ⟨eg,off,none⟩) es.length c∧es.length≤c∧oG w ok a9 bm eg off sz es:=by
 cases h with
 | kf sz a c h=>exact .inl ⟨rfl,a,c,rfl,h⟩
 | isl cs aT ak aU bj hw iO ap=>exact .inr ⟨_,_,_,⟨aT,ak⟩,rfl,bj,aU,fun j x U=>⟨cs j,hw j x U,iO j x U,ap j x U⟩⟩
theorem oG.isl {eg off c sz:Nat}{es:List (List aF)}(h:oG w ok a9 bm eg off sz es)(aT:ok eg∧iY es)(bj:es.length≤c):Rel w ok a9 bm (.isl sz es) (.slice (some ⟨eg,off,none⟩) es.length c):=by
 have U : ∀j:Nat,∃v,∀x,es.flatten[j]? = some x→w.cell? ⟨eg,off+j,none⟩=some v∧VL.km v=true∧Rel w ok a9 bm x v:=by
  intro j
  cases aE:es.flatten[j]? with
  | none=>exact ⟨undef,fun x U=>by simp at U⟩
  | some y =>
   obtain ⟨v,h1⟩:=h.2 j y aE
   exact ⟨v,fun x U=>by simp at U;subst U;exact h1⟩
 exact .isl (fun j=>(U j).choose) aT.1 aT.2 h.1 bj (fun j x aE=>((U j).choose_spec x aE).1) (fun j x aE=>((U j).choose_spec x aE).2.1) (fun j x aE=>((U j).choose_spec x aE).2.2)
theorem oG.dS {eg I i off sz:Nat}{es:List (List aF)}(h:oG w ok a9 bm eg I sz es)(aT:ok eg∧iY es):Rel w ok a9 bm (.dS sz es i off) (.pointer (some ⟨eg,I+(i*sz+off),none⟩)):=by
 have U : ∀j:Nat,∃v,∀x,es.flatten[j]? = some x→w.cell? ⟨eg,I+j,none⟩=some v∧VL.km v=true∧Rel w ok a9 bm x v:=by
  intro j
  cases aE:es.flatten[j]? with
  | none=>exact ⟨undef,fun x U=>by simp at U⟩
  | some y =>
   obtain ⟨v,h1⟩:=h.2 j y aE
   exact ⟨v,fun x U=>by simp at U;subst U;exact h1⟩
 exact .dS (fun j=>(U j).choose) aT.1 aT.2 h.1 (fun j x aE=>((U j).choose_spec x aE).1) (fun j x aE=>((U j).choose_spec x aE).2.1) (fun j x aE=>((U j).choose_spec x aE).2.2)
end
def Fin (P:Program)(g:G)(s:S)(a:Act)(w:World)(I:Oper)(bH:ir):Prop :=
 ∃v bT bQ,((execOp a.eval I).run P w = .ok (.value v) bT∨((execOp a.eval I).run P w = .ok .skip bT∧v=undef)) ∧
  cW g (s.ic bH.fU) bQ a bT∧Rel bT ((s.ic bH.fU).ok g bQ bT) (s.ic bH.fU).a9 ((s.ic bH.fU).bm bQ) bH.val v
section
variable {P:Program} {g:G} {s:S} {aB:fy} {a:Act} {w:World} {I:Oper} {cY:fL} {aW:Nat} {bH:ir}
theorem iM (h:cW g s aB a w){v:Value}(jb:(execOp a.eval I).run P w = .ok (.value v) w)(hu:bH.fU=[])
 (ap:Rel w (s.ok g aB w) s.a9 (s.bm aB) bH.val v):Fin P g s a w I bH :=
 ⟨v,w,aB,.inl jb,by rw [hu];exact h,by rw [hu];exact ap⟩
theorem Rw {x:Operand}(h:cW g s aB a w)(aq:I.op = .move x∨I.op = .assign x)(ay:e5 P s.E s.a0 aW I cY=some bH):Fin P g s a w I bH:=by
 have:bH={val:=fq s.E x}:=by rcases aq with aq|aq<;>simp [e5,aq] at ay<;>exact ay.symm
 subst this
 refine iM (v:=a.eval x) h ?_ rfl (h.eval x)
 rcases aq with aq|aq<;>simp [execOp,aq]
theorem ac2 {c x y:Operand}(h:cW g s aB a w)(aq:I.op = .pick c x y)(ay:e5 P s.E s.a0 aW I cY=some bH)(cH:∀p∈bH.fH,p):Fin P g s a w I bH:=by
 have bj:=h.eval c
 simp only [e5,aq] at ay
 have key : ∀t:Bool,fq s.E c = .b t→bH.fU=[]→bH.val=(if t then fq s.E x else fq s.E y)→Fin P g s a w I bH:=by
  intro t cj hu bk
  rw [cj] at bj
  have e:a.eval c = .bool t:=bj.tJ
  refine iM (v:=if t then a.eval x else a.eval y) h (by simp [execOp,aq,e,asBool]) hu ?_
  rw [bk];cases t
  ·exact h.eval y
  ·exact h.eval x
 split at ay
 ·rename_i z t cF
  simp at ay;subst ay
  have e:z=t:=cH _ (by simp)
  subst e
  exact key z cF rfl rfl
 ·rename_i cF _;simp at ay;subst ay;exact key true cF rfl rfl
 ·rename_i cF _;simp at ay;subst ay;exact key false cF rfl rfl
 ·simp at ay
theorem ET (h:cW g s aB a w)(e7:s.a0 aW=none){v:Value}{an:ae}{c:Array Value}{eQ:TypeId}(ba:an.cz = .live)
 (jb:(execOp a.eval I).run P w = .ok (.value v) (w.alloc (.cells c eQ))) (hu:bH.fU=[(aW,[an])]) (hlen : ∀e∈an.es,e.length=an.sz)
 (bj : ∀(j:Nat) x,an.es.flatten[j]? = some x→ ∃v,c[j]? = some v∧km v=true∧Rel w (s.ok g aB w) s.a9 (s.bm aB) x v)
 (hval : ∀(bT:World) (k3:Nat→Prop) (m6:js) (mq:jh),m6 aW 0→mq aW 0=some (an.sz,some (w.heap.size,c.size))→Rel bT k3 m6 mq bH.val v):Fin P g s a w I bH:=by
 obtain ⟨bQ,ak,b6,-⟩:=h.alloc e7 an ba c eQ hlen bj
 have h1:(s.setRow aW [an]).a9 aW 0:=by rw [nq];simp
 have o:(s.setRow aW [an]).bm bQ aW 0=some (an.sz,some (w.heap.size,c.size)):=by simp [S.bm,lJ,mg,ba,ak]
 exact ⟨v,_,bQ,.inl jb,by rw [hu];exact b6,by rw [hu];exact hval _ _ _ _ h1 o⟩
theorem A6 {t:TypeId}{z:List aF}(cF:qS P t=some z): ∃i eN,P.info? t=some i∧i.zero=some eN∧z=eN.cells.toList.map ofValue ∧
 ∀(j:Nat) x,z[j]? = some x→ ∃v,eN.cells[j]? = some v∧km v=true∧ ∀(w:World) (ok:Nat→Prop) (a9:js) (bm:jh),Rel w ok a9 bm x v:=by
 unfold qS at cF
 cases ah:P.info? t with
 | none=>simp [ah] at cF
 | some i =>
  cases lg:i.zero with
  | none=>simp [ah,lg] at cF
  | some eN =>
   simp only [ah,lg] at cF
   split at cF
   ·rename_i nW
    simp only [Option.some.injEq] at cF
    refine ⟨i,eN,rfl,lg,cF.symm,fun j x U=> ?_⟩
    subst cF
    rw [List.getElem?_map,Option.map_eq_some_iff] at U
    obtain ⟨v,bk,rfl⟩:=U
    refine ⟨v,by rw [← Array.getElem?_toList];exact bk,?_,fun w ok a9 bm=>PO v⟩
    exact List.all_eq_true.1 nW v (List.mem_of_getElem? bk)
   ·simp at cF
theorem ab3 {t:TypeId}(h:cW g s aB a w)(e7:s.a0 aW=none)(aq:I.op = .alloc t)(ay:e5 P s.E s.a0 aW I cY=some bH):Fin P g s a w I bH:=by
 simp only [e5,aq] at ay
 split at ay
 ·rename_i z cF
  obtain ⟨i,eN,ah,lg,e,kd⟩:=A6 cF
  simp only [Option.some.injEq] at ay
  subst ay
  refine ET (v:= .pointer (some ⟨w.heap.size,0,none⟩)) (c:=eN.cells) (eQ:=t) (an:=⟨z.length,[z],.live⟩) h e7 rfl ?_ rfl (by simp) ?_ ?_
  ·simp [execOp,aq,Instr.alloc,zeroValue,typeInfo,ah,lg,newVar,newRow]
  ·intro j x U
   simp only [List.flatten_cons,List.flatten_nil,List.append_nil] at U
   obtain ⟨v,h1,o,af⟩:=kd j x U
   exact ⟨v,h1,o,af _ _ _ _⟩
  ·intro bT k3 m6 mq hu cj
   have:=Rel.ref (w:=bT) (ok:=k3) (i:=0) (off:=0) hu cj
   simpa using this
 ·simp at ay
theorem adB {t:TypeId}{x:Operand}(h:cW g s aB a w)(e7:s.a0 aW=none)(aq:I.op = .box t x)(ay:e5 P s.E s.a0 aW I cY=some bH):Fin P g s a w I bH:=by
 simp only [e5,aq] at ay
 have U:=h.eval x
 have key : ∀an:ae,an.cz = .live→an.es=[(fq s.E x).cells]→an.sz=(fq s.E x).cells.length→((fq s.E x).one=true∨ ∃c,fq s.E x = .agg c) →
  bH.fU=[(aW,[an])]→bH.val = .ref aW 0 0 0→Fin P g s a w I bH:=by
  intro an ba hH fc l3 hu bk
  obtain ⟨vs,e1,aD,bP,c4⟩:=U.cellsOf l3
  refine ET (v:= .pointer (some ⟨w.heap.size,0,none⟩)) (c:=(a.eval x).cells) (eQ:=t) h e7 ba ?_ hu ?_ ?_ ?_
  ·simp [execOp,aq,Instr.box,newVar,newRow]
  ·intro e he;rw [hH] at he;simp at he;rw [he,fc]
  ·intro j y aZ
   rw [hH] at aZ
   simp only [List.flatten_cons,List.flatten_nil,List.append_nil] at aZ
   have aE:j<vs.length:=by
    rcases Nat.lt_or_ge j (fq s.E x).cells.length with cP|cP
    ·omega
    ·rw [List.getElem?_eq_none cP] at aZ;simp at aZ
   refine ⟨vs[j],by rw [e1];simp [aE],bP j _ (List.getElem?_eq_getElem aE),c4 j y _ aZ (List.getElem?_eq_getElem aE)⟩
  ·intro bT k3 m6 mq oA cj
   have:=Rel.ref (w:=bT) (ok:=k3) (i:=0) (off:=0) oA cj
   rw [bk];simpa using this
 split at ay
 ·rename_i c bj
  simp only [Option.some.injEq] at ay
  subst ay
  exact key _ rfl (by rw [bj];rfl) (by rw [bj];rfl) (.inr ⟨c,bj⟩) rfl rfl
 ·split at ay
  ·rename_i l3
   simp only [Option.some.injEq] at ay
   subst ay
   have e:(fq s.E x).cells=[fq s.E x]:=by
    generalize fq s.E x=y at l3
    cases y<;>first|rfl|simp [aF.one] at l3
   exact key _ rfl (by rw [e]) (by rw [e];rfl) (.inl l3) rfl rfl
  ·simp at ay
theorem iN {s:S}{aB:fy}{r k:Nat}{an:ae}(h:s.an r k=some an):s.bm aB r k=some (an.sz,aB r k):=by simp [S.bm,h]
theorem tC {row:Option (List ae)}{k:Nat}{an:ae}{b9:List Prop}(h:o6 row k cY=some (an,b9))(cH:∀p∈b9,p):dx row k=some an:=by
 unfold o6 at h
 split at h
 ·split at h
  ·simp at h;obtain ⟨rfl,rfl⟩:=h;exact cH _ (by simp)
  ·simp at h
 ·split at h
  ·rename_i cP;simp at h;obtain ⟨rfl,rfl⟩:=h;exact cP
  ·simp at h
theorem Bd {es:List (List aF)}{i:Nat}{c:List aF}{b9:List Prop}(h:elemAt es i cY=some (c,b9))(cH:∀p∈b9,p):es[i]? = some c:=by
 unfold elemAt at h
 split at h
 ·simp at h;obtain ⟨rfl,rfl⟩:=h;exact cH _ (by simp)
 ·simp at h;obtain ⟨rfl,rfl⟩:=h;exact cH _ (by simp)
 ·split at h
  ·rename_i cP;simp at h;obtain ⟨rfl,rfl⟩:=h;exact cP
  ·simp at h
theorem ac3 {t:TypeId}{x:Operand}(h:cW g s aB a w)(aq:I.op = .load t x)(ay:e5 P s.E s.a0 aW I cY=some bH)(cH:∀p∈bH.fH,p):Fin P g s a w I bH:=by
 simp only [e5,aq] at ay
 have U:=h.eval x
 split at ay
 ·rename_i r k i off gY
  rw [gY] at U
  split at ay
  ·rename_i an b9 bt
   split at ay
   ·rename_i c aV nC
    split at ay
    ·rename_i v bk
     simp only [Option.some.injEq] at ay
     subst ay
     have ko:s.an r k=some an:=tC bt fun p ak=>cH p (by simp [ak])
     have rf:=Bd nC fun p ak=>cH p (by simp [ak])
     have fG:=h.obj r k an ko
     rcases U.yO (iN ko) with h0|⟨b,m,ak,hval⟩
     ·rw [h0] at fG
      simp only [jC] at fG
      rw [fG] at rf;simp at rf
     ·rw [ak] at fG
      obtain ⟨u,h1,o⟩:=K9 (P:=P) fG.rd rf bk
      refine iM (v:=u) h ?_ rfl o
      rw [Nat.zero_add] at h1
      simp [execOp,aq,hval,h1]
    ·simp at ay
   ·simp at ay
  ·simp at ay
 ·rename_i sz es i off gY
  rw [gY] at U
  split at ay
  ·rename_i c aV nC
   split at ay
   ·rename_i v bk
    simp only [Option.some.injEq] at ay
    subst ay
    have rf:=Bd nC fun p ak=>cH p (by simp [ak])
    obtain ⟨eg,cc,aT,hval,iG⟩:=U.yP
    obtain ⟨u,h1,o⟩:=K9 (P:=P) iG rf bk
    refine iM (v:=u) h ?_ rfl o
    simp [execOp,aq,hval,h1]
   ·simp at ay
  ·simp at ay
 ·simp at ay
end
end Go.VL
namespace Go.VL
set_option linter.unusedVariables false
set_option linter.unusedSimpArgs false
open Go
section
variable {P:Program} {g:G} {s:S} {aB:fy} {a:Act} {w:World} {I:Oper} {cY:fL} {aW:Nat} {bH:ir}
theorem Qw (h:cW g s aB a w){r k i off:Nat}{row:List ae}{an:ae}{c:List aF}{t:TypeId}{x y:Operand}(aq:I.op = .store t x y)
 (gY:fq s.E x = .ref r k i off) (dN:s.a0 r=some row) (bt:s.an r k=some an) (ba:an.cz = .live) (nC:an.es[i]? = some c)
 (l3:(fq s.E y).one=true∨ ∃c,fq s.E y = .agg c) (fc:(fq s.E y).cells.length=P.cellsOf t) (MP:(P.info? t).isSome=true)
 (iD:off+(fq s.E y).cells.length≤c.length) (ay:bH.val = .dead) (hu:bH.fU=[(r,row.set k {an with es:=an.es.set i (setCells c off (fq s.E y).cells)})]):Fin P g s a w I bH:=by
 have U:=h.eval x
 rw [gY] at U
 have fG:=h.obj r k an bt
 rcases U.yO (iN bt) with h0|⟨b,m,ak,hval⟩
 ·rw [h0] at fG;simp only [jC] at fG;rw [fG] at nC;simp at nC
 ·obtain ⟨bT,h1,o⟩:=aaf (P:=P) h dN bt ba ak nC MP (h.eval y) l3 fc iD
  refine ⟨undef,bT,aB,.inr ⟨?_,rfl⟩,by rw [hu];exact o,by rw [ay];exact .dead _⟩
  simp [execOp,aq,hval,h1]
theorem ab4 {t:TypeId}{x y:Operand}(h:cW g s aB a w)(aq:I.op = .store t x y)(ay:e5 P s.E s.a0 aW I cY=some bH)(cH:∀p∈bH.fH,p):Fin P g s a w I bH:=by
 simp only [e5,aq] at ay
 split at ay
 ·rename_i r k i off gY
  split at ay
  ·simp at ay
  ·rename_i row dN
   split at ay
   ·rename_i an b9 aes
    split at ay
    ·simp at ay
    ·rename_i ba
     have ba:an.cz = .live:=by simpa using ba
     split at ay
     ·simp at ay
     ·rename_i l3
      have l3:=aF.PP (by simpa using l3)
      split at ay
      ·simp at ay
      ·rename_i fc
       simp only [not_or,Decidable.not_not,Bool.not_eq_false] at fc
       have ko:(∀p∈b9,p)→s.an r k=some an:=fun bJ=>by
        have:=tC aes bJ
        unfold S.an;rw [dN];exact this
       split at ay
       ·split at ay
        ·rename_i zc
         simp only [Option.some.injEq] at ay
         subst ay;subst zc
         have d3:i<an.es.length:=cH _ (by simp)
         have iO:(fq s.E y).cells.length=an.sz:=cH _ (by simp)
         have B2:=ko fun p ak=>cH p (by simp [ak])
         have hlen:(an.es[i]).length=an.sz:=by
          have fG:=h.obj r k an B2
          cases ak:aB r k with
          | none=>rw [ak] at fG;simp only [jC] at fG;rw [fG] at d3;simp at d3
          | some q =>
           rw [ak] at fG
           obtain ⟨_,_,_,_,af,_⟩:=fG
           exact af _ (List.getElem_mem d3)
         refine Qw h aq gY dN B2 ba (c:=an.es[i]) (List.getElem?_eq_getElem d3) l3 fc.1 fc.2 (by omega) rfl ?_
         have e:setCells an.es[i] 0 (fq s.E y).cells=(fq s.E y).cells:=by
          simp [setCells,hlen,iO]
         rw [e]
        ·simp at ay
       ·split at ay
        ·rename_i c aV nC
         split at ay
         ·rename_i iD
          simp only [Option.some.injEq] at ay
          subst ay
          exact Qw h aq gY dN (ko fun p ak=>cH p (by simp [ak])) ba (Bd nC fun p ak=>cH p (by simp [ak])) l3 fc.1 fc.2 iD rfl rfl
         ·simp at ay
        ·simp at ay
   ·simp at ay
 ·simp at ay
theorem aag {x:Operand}(h:cW g s aB a w)(aq:I.op = .nilCheck x)(ay:e5 P s.E s.a0 aW I cY=some bH)(cH:∀p∈bH.fH,p):Fin P g s a w I bH:=by
 simp only [e5,aq] at ay
 have U:=h.eval x
 split at ay
 ·rename_i r k i off gY
  rw [gY] at U
  split at ay
  ·rename_i an b9 bt
   split at ay
   ·rename_i c aV nC
    simp only [Option.some.injEq] at ay
    subst ay
    have ko:s.an r k=some an:=tC bt fun p ak=>cH p (by simp [ak])
    have rf:=Bd nC fun p ak=>cH p (by simp [ak])
    have fG:=h.obj r k an ko
    rcases U.yO (iN ko) with h0|⟨b,m,ak,hval⟩
    ·rw [h0] at fG;simp only [jC] at fG;rw [fG] at rf;simp at rf
    ·refine iM (v:=a.eval x) h ?_ rfl U
     simp [execOp,aq,hval]
   ·simp at ay
  ·simp at ay
 ·rename_i sz es i off gY
  rw [gY] at U
  simp only [Option.some.injEq] at ay
  subst ay
  obtain ⟨eg,cc,aT,hval,iG⟩:=U.yP
  refine iM (v:=a.eval x) h ?_ rfl U
  simp [execOp,aq,hval]
 ·rename_i f c gY
  rw [gY] at U
  simp only [Option.some.injEq] at ay
  subst ay
  obtain ⟨vs,hval,-⟩:=U.E3
  refine iM (v:=a.eval x) h ?_ rfl U
  simp [execOp,aq,hval]
 ·simp at ay
theorem abk {op:BinOp}{t:TypeId}{x y z:aF}{an:List Prop}(ay:Mr op x y=some (z,an))(cH:∀p∈an,p)
 {ok:Nat→Prop} {a9:js} {bm:jh} {lh li:Value} (U:Rel w ok a9 bm x lh) (aZ:Rel w ok a9 bm y li) (p q:Operand) :
 ∃v,((do eqGuard op t p q lh li;binOp op t lh li):Sem Value).run P w = .ok v w∧Rel w ok a9 bm z v:=by
 unfold Mr at ay
 split at ay
 ·rename_i k n dD nJ
  have h6:=U.pt;have ji:=aZ.pt
  subst h6;subst ji
  have dF : ∀op,eqGuard op t p q (.int k n) (.int dD nJ)=pure ():=fun op=>eqGuard_at_int ..
  simp only [Sem.run_bind,dF,Sem.run_pure,Result.andThen_ok]
  split at ay
  ·simp only [Option.some.injEq,Prod.mk.injEq] at ay
   obtain ⟨rfl,rfl⟩:=ay
   have h0:0≤nJ:=cH _ (by simp)
   exact ⟨_,by simp [binOp,Op.shift,show ¬nJ<0 by omega],.n _ _⟩
  ·simp only [Option.some.injEq,Prod.mk.injEq] at ay
   obtain ⟨rfl,rfl⟩:=ay
   have h0:0≤nJ:=cH _ (by simp)
   exact ⟨_,by simp [binOp,Op.shift,show ¬nJ<0 by omega],.n _ _⟩
  ·split at ay
   ·simp at ay
   ·rename_i ba
    have ba:k=dD:=by simpa using ba
    subst ba
    split at ay<;>simp only [Option.some.injEq,Prod.mk.injEq,reduceCtorEq] at ay
    all_goals (obtain ⟨rfl,rfl⟩:=ay)
    case h_4|h_5 =>
     have h0:nJ≠0:=cH _ (by simp)
     exact ⟨_,by simp [binOp,Op.intDiv,h0],.n _ _⟩
    all_goals first
     | (refine ⟨_,?_,.n _ _⟩;rw [binOp_add];rfl)
     | (refine ⟨_,?_,.n _ _⟩;rw [binOp_sub];rfl)
     | (refine ⟨_,?_,.n _ _⟩;rw [binOp_mul];rfl)
     | (refine ⟨_,?_,.n _ _⟩;rw [binOp_and];rfl)
     | (refine ⟨_,?_,.n _ _⟩;rw [binOp_or];rfl)
     | (refine ⟨_,?_,.n _ _⟩;rw [binOp_xor];rfl)
     | (refine ⟨_,?_,.b _⟩;simp [binOp,Op.intCmp];done)
 ·rename_i cR mc
  have h6:=U.y5;have ji:=aZ.y5
  subst h6;subst ji
  have dF : ∀op,eqGuard op t p q (.string cR) (.string mc)=pure ():=fun op=>eqGuard_at_string ..
  simp only [Sem.run_bind,dF,Sem.run_pure,Result.andThen_ok]
  split at ay<;>simp only [Option.some.injEq,Prod.mk.injEq,reduceCtorEq] at ay
  all_goals (obtain ⟨rfl,rfl⟩:=ay)
  ·have h0:cR.size+mc.size<9223372036854775808:=cH _ (by simp)
   refine ⟨_,?_,.s _⟩
   have h1 : ¬((cR.size+mc.size:Nat):Int)>IntKind.i64.max:=by rw [IntKind.max_i64];omega
   rw [IntKind.max_i64] at h1
   simp [binOp,Op.stringOp]
   omega
  ·exact ⟨_,by simp [binOp,Op.stringOp],.b _⟩
  ·exact ⟨_,by simp [binOp,Op.stringOp],.b _⟩
 ·simp at ay
theorem va (t:TypeId)(x y:Value):Op.equal t x y=Op.equalIn (9999+1) t x y:=rfl
theorem AO {t:TypeId}{a b:Bool}(d:Nat)(bK:P.underlying t=some .bool):(Op.equalIn (d+1) t (.bool a) (.bool b)).run P w = .ok (a == b) w:=by
 unfold Op.equalIn;simp [run_underlying bK]
theorem A7 {t e:TypeId}(d:Nat)(bK:P.underlying t=some (.pointer e)):(Op.equalIn (d+1) t (.pointer none) (.pointer none)).run P w = .ok true w:=by
 unfold Op.equalIn;simp [run_underlying bK]
theorem A8 {t e:TypeId}{a:Addr}(d:Nat)(bK:P.underlying t=some (.pointer e)):(Op.equalIn (d+1) t (.pointer (some a)) (.pointer none)).run P w = .ok false w:=by
 unfold Op.equalIn;simp [run_underlying bK]
theorem A9 {t e:TypeId}{a:Addr}(d:Nat)(bK:P.underlying t=some (.pointer e)):(Op.equalIn (d+1) t (.pointer none) (.pointer (some a))).run P w = .ok false w:=by
 unfold Op.equalIn;simp [run_underlying bK]
theorem Ba {t e:TypeId}(d:Nat)(bK:P.underlying t=some (.slice e)):(Op.equalIn (d+1) t (.slice none 0 0) (.slice none 0 0)).run P w = .ok true w:=by
 unfold Op.equalIn;simp [run_underlying bK]
theorem P4 {t e:TypeId}{a:Addr}{c:Nat}(d:Nat)(bK:P.underlying t=some (.slice e))(n:Nat):(Op.equalIn (d+1) t (.slice (some a) n c) (.slice none 0 0)).run P w = .ok false w:=by
 unfold Op.equalIn;simp [run_underlying bK]
theorem yI {t:TypeId}{x y:aF}{r:Bool}(ay:rZ P t x y=some r)
 {ok:Nat→Prop} {a9:js} {bm:jh} {lh li:Value} (U:Rel w ok a9 bm x lh) (aZ:Rel w ok a9 bm y li) (p q:Operand) :
 ((do eqGuard .eql t p q lh li;binOp .eql t lh li):Sem Value).run P w = .ok (.bool r) w ∧
 ((do eqGuard .neq t p q lh li;binOp .neq t lh li):Sem Value).run P w = .ok (.bool !r) w:=by
 have key : ∀b:Bool,(∀op,eqGuard op t p q lh li=pure ())→binOp .eql t lh li=(do pure (.bool (← Op.equal t lh li)))→binOp .neq t lh li=(do pure (.bool (!(← Op.equal t lh li)))) →
  (Op.equal t lh li).run P w = .ok b w→((do eqGuard .eql t p q lh li;binOp .eql t lh li):Sem Value).run P w = .ok (.bool b) w ∧
  ((do eqGuard .neq t p q lh li;binOp .neq t lh li):Sem Value).run P w = .ok (.bool !b) w:=by
  intro b dF h1 o af
  constructor
  ·rw [dF,h1];simp [af]
  ·rw [dF,o];simp [af]
 unfold rZ at ay
 split at ay
 ·rename_i cR mc bK
  simp only [Option.some.injEq] at ay;subst ay
  have h6:=U.tJ;have ji:=aZ.tJ
  subst h6;subst ji
  exact key _ (fun op=>eqGuard_at_bool ..) rfl rfl (by rw [va];first|exact AO _ bK|exact A7 _ bK|exact A8 _ bK|exact A9 _ bK|exact Ba _ bK)
 ·rename_i e bK
  simp only [Option.some.injEq] at ay;subst ay
  have h6:=U.vi;have ji:=aZ.vi
  subst h6;subst ji
  exact key _ (fun op=>eqGuard_at_pointer ..) rfl rfl (by rw [va];first|exact AO _ bK|exact A7 _ bK|exact A8 _ bK|exact A9 _ bK|exact Ba _ bK)
 ·rename_i e sz es i off bK
  simp only [Option.some.injEq] at ay;subst ay
  obtain ⟨eg,cc,-,h6,-⟩:=U.yP
  have ji:=aZ.vi
  subst h6;subst ji
  exact key _ (fun op=>eqGuard_at_pointer ..) rfl rfl (by rw [va];first|exact AO _ bK|exact A7 _ bK|exact A8 _ bK|exact A9 _ bK|exact Ba _ bK)
 ·rename_i e sz es i off bK
  simp only [Option.some.injEq] at ay;subst ay
  obtain ⟨eg,cc,-,ji,-⟩:=aZ.yP
  have h6:=U.vi
  subst h6;subst ji
  exact key _ (fun op=>eqGuard_at_pointer ..) rfl rfl (by rw [va];first|exact AO _ bK|exact A7 _ bK|exact A8 _ bK|exact A9 _ bK|exact Ba _ bK)
 ·rename_i e bK
  simp only [Option.some.injEq] at ay;subst ay
  have h6:=U.pJ;have ji:=aZ.pJ
  subst h6;subst ji
  exact key _ (fun op=>eqGuard_at_slice ..) rfl rfl (by rw [va];first|exact AO _ bK|exact A7 _ bK|exact A8 _ bK|exact A9 _ bK|exact Ba _ bK)
 ·rename_i e bK
  simp only [Option.some.injEq] at ay;subst ay
  obtain ⟨wv,c,h6⟩:=U.ES
  have ji:=aZ.pJ
  subst h6;subst ji
  exact key _ (fun op=>eqGuard_at_slice ..) rfl rfl (by rw [va];exact P4 _ bK 0)
 ·simp at ay
theorem R2 {t e:TypeId}(bK:P.underlying t=some (.slice e)){sz:Nat}{es:List (List aF)}(c8:es≠[])
 {ok:Nat→Prop} {a9:js} {bm:jh} {lh li:Value} (U:Rel w ok a9 bm (.isl sz es) lh) (aZ:Rel w ok a9 bm .ek li) (p q:Operand) :
 ((do eqGuard .eql t p q lh li;binOp .eql t lh li):Sem Value).run P w = .ok (.bool false) w ∧
 ((do eqGuard .neq t p q lh li;binOp .neq t lh li):Sem Value).run P w = .ok (.bool true) w:=by
 rcases U.sw with ⟨h0,-⟩|⟨eg,off,c,-,h6,-⟩
 ·exact absurd h0 c8
 ·have ji:=aZ.pJ
  subst h6;subst ji
  have af:(Op.equal t (.slice (some ⟨eg,off,none⟩) es.length c) (.slice none 0 0)).run P w = .ok false w:=by rw [va];exact P4 _ bK _
  have dF : ∀op,eqGuard op t p q (.slice (some ⟨eg,off,none⟩) es.length c) (.slice none 0 0)=pure ():=fun op=>eqGuard_at_slice ..
  have h1:binOp .eql t (.slice (some ⟨eg,off,none⟩) es.length c) (.slice none 0 0)=(do pure (.bool (← Op.equal t (.slice (some ⟨eg,off,none⟩) es.length c) (.slice none 0 0)))):=rfl
  have o:binOp .neq t (.slice (some ⟨eg,off,none⟩) es.length c) (.slice none 0 0)=(do pure (.bool (!(← Op.equal t (.slice (some ⟨eg,off,none⟩) es.length c) (.slice none 0 0))))):=rfl
  constructor
  ·rw [dF,h1];simp [af]
  ·rw [dF,o];simp [af]
theorem ab5 {op:BinOp}{t dw:TypeId}{x y:Operand}(h:cW g s aB a w)(aq:I.op = .binOp op t x y dw)(ay:e5 P s.E s.a0 aW I cY=some bH)(cH:∀p∈bH.fH,p):Fin P g s a w I bH:=by
 simp only [e5,aq] at ay
 have U:=h.eval x
 have aZ:=h.eval y
 split at ay
 ·rename_i v an aT
  simp only [Option.some.injEq] at ay
  subst ay
  obtain ⟨u,h1,o⟩:=abk (P:=P) (t:=t) aT cH U aZ x y
  refine iM (v:=u) h ?_ rfl o
  simp only [execOp,aq]
  rw [Sem.run_bind,h1];rfl
 ·split at ay
  ·cases he:rZ P t (fq s.E x) (fq s.E y) with
   | none=>simp [he] at ay
   | some r =>
    simp [he] at ay;subst ay
    refine iM (v:= .bool r) h ?_ rfl (.b r)
    simp only [execOp,aq]
    rw [Sem.run_bind,(yI (w:=w) he U aZ x y).1];rfl
  ·cases he:rZ P t (fq s.E x) (fq s.E y) with
   | none=>simp [he] at ay
   | some r =>
    simp [he] at ay;subst ay
    refine iM (v:= .bool !r) h ?_ rfl (.b _)
    simp only [execOp,aq]
    rw [Sem.run_bind,(yI (w:=w) he U aZ x y).2];rfl
  ·simp at ay
theorem ac4 {op:UnOp}{t:TypeId}{x:Operand}(h:cW g s aB a w)(aq:I.op = .unOp op t x)(ay:e5 P s.E s.a0 aW I cY=some bH):Fin P g s a w I bH:=by
 simp only [e5,aq] at ay
 have U:=h.eval x
 cases he:MN op (fq s.E x) with
 | none=>simp [he] at ay
 | some v =>
  simp [he] at ay;subst ay
  unfold MN at he
  split at he
  ·rename_i k n gY
   rw [gY] at U
   simp only [Option.some.injEq] at he;subst he
   refine iM (v:= .int k (k.wrap (0-n))) h ?_ rfl (.n _ _)
   simp [execOp,aq,U.pt,Op.unary,Op.intArith]
  ·rename_i b gY
   rw [gY] at U
   simp only [Option.some.injEq] at he;subst he
   refine iM (v:= .bool !b) h ?_ rfl (.b _)
   simp [execOp,aq,U.tJ,Op.unary]
  ·simp at he
theorem aaF {t dw:TypeId}{x:Operand}(h:cW g s aB a w)(aq:I.op = .convert t dw x)(ay:e5 P s.E s.a0 aW I cY=some bH):Fin P g s a w I bH:=by
 simp only [e5,aq] at ay
 have U:=h.eval x
 split at ay
 ·rename_i k dD n bK gY
  rw [gY] at U
  split at ay
  case isFalse=>simp at ay
  rename_i b6
  simp only [Option.some.injEq] at ay
  subst ay
  refine iM (v:= .int k (k.wrap n)) h ?_ rfl (.n _ _)
  cases Tf:P.underlying t with
  | none=>simp [Tf] at b6
  | some d=>simp [execOp,aq,U.pt,convert,run_underlying bK,run_underlying Tf,Conv.intToInt]
 ·rename_i r k b3 len bK gY
  rw [gY] at U
  split at ay
  ·rename_i an Fl bt
   split at ay
   ·rename_i nI Cs
    split at ay
    ·rename_i bj
     simp only [Option.some.injEq] at ay
     subst ay
     obtain ⟨e,b6,he⟩ : ∃e,P.underlying t=some (.slice e)∧P.underlying e=some (.int .u8):=by
      unfold pQ at Fl
      split at Fl
      ·rename_i e b6;exact ⟨e,b6,Fl⟩
      ·simp at Fl
     have d9:s.an r k=some an:=bt
     have fG:=h.obj r k an d9
     have hzero : ∀(lj:Option Addr) (c:Nat),len=0→(convert t dw (.slice lj 0 c)).run P w = .ok (.string (rX nI)) w:=by
      intro lj c h0
      subst h0
      have:nI=[]:=by simpa [bytesOf] using Cs
      subst this
      cases lj with
      | none=>rw [run_convert_bytes_string w t dw e none 0 c b6 he bK];simp [Conv.bytesToString,rX]
      | some lj =>
       rw [run_convert_bytes_string w t dw e (some lj) 0 c b6 he bK,run_bytesToString w lj 0 c [] (by
        have:=run_loadCells_list (P:=P) w lj [] (fun j v aE=>by simp at aE)
        simpa using this)]
       rfl
     rcases U.Bp (iN d9) with ⟨ak,rfl,rfl,hval⟩|⟨b,m,A,c,ak,hval,rj,sU,hm⟩
     ·refine iM (v:= .string (rX nI)) h ?_ rfl (.s _)
      simp [execOp,aq,hval,hzero none 0 rfl]
     ·refine iM (v:= .string (rX nI)) h ?_ rfl (.s _)
      by_cases h0:len=0
      ·subst h0;simp [execOp,aq,hval,hzero A c rfl]
      ·rcases hm with hm|⟨hA,hm⟩
       ·omega
       ·subst hA
        rw [ak] at fG
        have iG:=fG.rd
        have zi : ∀(es:List (List aF)) (nI:List Int),bytesOf es=some nI→es.length=nI.length∧ ∀(i:Nat) n,nI[i]? = some n→es[i]? = some [.n .u8 n]:=by
         intro es
         induction es with
         | nil=>intro nI h;simp [bytesOf] at h;subst h;exact ⟨rfl,fun i n ah=>by simp at ah⟩
         | cons x es ih =>
          intro nI h
          unfold bytesOf at h
          split at h
          ·simp at *
          ·rename_i lC ahU zj
           simp only [List.cons.injEq] at zj
           obtain ⟨rfl,rfl⟩:=zj
           rw [Option.map_eq_some_iff] at h
           obtain ⟨eb,Fy,rfl⟩:=h
           obtain ⟨e1,aD⟩:=ih eb Fy
           refine ⟨by simp [e1],fun i n ah=> ?_⟩
           cases i with
           | zero=>simp at ah;subst ah;rfl
           | succ i=>simpa using aD i n (by simpa using ah)
          ·simp at h
        obtain ⟨e1,aD⟩:=zi _ _ Cs
        have hlen:nI.length=len:=by rw [← e1];simp;omega
        have ad5:(loadCells ⟨b,b3*an.sz,none⟩ len).run P w = .ok (nI.map (Value.int .u8)).toArray w:=by
         have:=run_loadCells_list (P:=P) w ⟨b,b3*an.sz,none⟩ (nI.map (Value.int .u8)) (fun j v aE=>by
          rw [List.getElem?_map,Option.map_eq_some_iff] at aE
          obtain ⟨n,a5,rfl⟩:=aE
          have l7:=aD j n a5
          have vN:j<len:=by rw [← hlen];exact (List.getElem?_eq_some_iff.1 a5).1
          rw [List.getElem?_take_of_lt vN,List.getElem?_drop] at l7
          obtain ⟨v,v1,v2,v3⟩:=iG.2 ((b3+j)*an.sz+0) (.n .u8 n) (by rw [A5 iG.1 l7 (by omega)];rfl)
          have bk:=v3.pt
          subst bk
          rw [rP,← v1,bj.2]
          congr 2
          omega)
         rw [List.length_map,hlen] at this
         exact this
        have o:=run_bytesToString w ⟨b,b3*an.sz,none⟩ len c nI ad5
        rw [← run_convert_bytes_string w t dw e _ len c b6 he bK] at o
        simp [execOp,aq,hval,o,rX]
    ·simp at ay
   ·simp at ay
  ·simp at ay
 ·simp at ay
theorem aah {f:Fn}{Dd cv:Array Operand}(h:cW g s aB a w)(aq:I.op = .makeFunc f Dd cv)(ay:e5 P s.E s.a0 aW I cY=some bH):Fin P g s a w I bH:=by
 cases f with
 | func n =>
  simp only [e5,aq] at ay
  split at ay
  ·rename_i ae7
   simp only [Option.some.injEq] at ay;subst ay
   refine iM (v:= .func (.func n) #[] (cv.map a.eval)) h ?_ rfl ?_
   ·have:Dd = #[]:=by simpa using ae7
    subst this
    simp [execOp,aq,Instr.makeFunc]
   ·have:=Rel.fn (f:=n) (c:=cv.toList.map (fq s.E)) (w:=w) (ok:=s.ok g aB w) (a9:=s.a9) (bm:=s.bm aB) (cv.toList.map a.eval) (by simp) (by
     intro j x v U bk
     rw [List.getElem?_map,Option.map_eq_some_iff] at U bk
     obtain ⟨p,ak,rfl⟩:=U
     obtain ⟨q,bb,rfl⟩:=bk
     rw [ak] at bb;simp at bb;subst bb
     exact h.eval p)
    have e:(cv.toList.map a.eval).toArray=cv.map a.eval:=by apply Array.ext';rw [Array.toList_map]
    rw [e] at this
    exact this
  ·simp at ay
 | _=>simp [e5,aq] at ay
theorem aaG {i:Nat}{x:Operand}(h:cW g s aB a w)(aq:I.op = .extract x i)(ay:e5 P s.E s.a0 aW I cY=some bH):Fin P g s a w I bH:=by
 simp only [e5,aq] at ay
 have U:=h.eval x
 split at ay
 ·rename_i vs gY
  rw [gY] at U
  cases ah:vs[i]? with
  | none=>simp [ah] at ay
  | some v =>
   simp [ah] at ay;subst ay
   obtain ⟨a9,hval,aU,ap⟩:=U.yN
   have d3:i<a9.length:=by
    rcases Nat.lt_or_ge i vs.length with cP|cP
    ·omega
    ·rw [List.getElem?_eq_none cP] at ah;simp at ah
   have hu:a9[i]? = some a9[i]:=List.getElem?_eq_getElem d3
   refine iM (v:=a9[i]) h ?_ rfl (ap i v _ ah hu)
   simp [execOp,aq,hval,Instr.extract,hu]
 ·simp at ay
end
end Go.VL
namespace Go.VL
set_option linter.unusedVariables false
set_option linter.unusedSimpArgs false
open Go
section
variable {P:Program} {g:G} {s:S} {aB:fy} {a:Act} {w:World} {I:Oper} {cY:fL} {aW:Nat} {bH:ir}
theorem rQ {t e:TypeId}(h:pQ P t=some e):P.underlying t=some (.slice e):=by
 unfold pQ at h
 split at h
 ·rename_i ey he;simp at h;subst h;exact he
 ·simp at h
theorem K2 {t:TypeId}{kT:Array Field}(h:fieldsOf P t=some kT):P.underlying t=some (.struct kT):=by
 unfold fieldsOf at h
 split at h
 ·rename_i ey he;simp at h;subst h;exact he
 ·simp at h
theorem PC : ∀(z c:List aF),(q4 z c).length=z.length
 | x::z,y::c=>by simp [q4,PC z c]
 | [],_=>by simp [q4]
 | _::_,[]=>by simp [q4]
theorem ZU (z:List aF)(cY:fL):(sE z cY).length=z.length:=by
 unfold sE
 split
 ·exact PC z _
 ·rfl
theorem aaH (x y:aF){w:World}{ok:Nat→Prop}{a9:js}{bm:jh}{v:Value}(h:Rel w ok a9 bm x v):Rel w ok a9 bm (BB x y) v:=by
 unfold BB
 split
 ·rw [h.pJ];exact .kf _ _ _ (fun _=>rfl)
 ·rw [h.vi];exact .pv _
 ·rw [h.pJ];exact .m1 (.kf _ _ _ (fun _=>rfl))
 ·exact h
theorem Qx : ∀(z c:List aF) (j:Nat) q,(q4 z c)[j]? = some q→ ∃x,z[j]? = some x∧(q=x∨ ∃y,q=BB x y)
 | x::z,y::c,0,q,h=>by simp [q4] at h;exact ⟨x,rfl,.inr ⟨y,h.symm⟩⟩
 | x::z,y::c,j+1,q,h=>by
  simp only [q4,List.getElem?_cons_succ] at h
  simpa using Qx z c j q h
 | [],c,j,q,h=>by simp [q4] at h
 | x::z,[],j,q,h=>⟨q,by simpa [q4] using h,.inl rfl⟩
theorem ab6 (z:List aF)(cY:fL)(j:Nat)(q:aF)(h:(sE z cY)[j]? = some q): ∃x,z[j]? = some x∧(q=x∨ ∃y,q=BB x y):=by
 unfold sE at h
 split at h
 ·exact Qx z _ j q h
 ·exact ⟨q,h,.inl rfl⟩
theorem ZV {t:TypeId}{x y:Operand}(h:cW g s aB a w)(e7:s.a0 aW=none)(aq:I.op = .makeSlice t x y)(ay:e5 P s.E s.a0 aW I cY=some bH)(cH:∀p∈bH.fH,p):Fin P g s a w I bH:=by
 simp only [e5,aq] at ay
 have U:=h.eval x
 have aZ:=h.eval y
 split at ay
 ·rename_i e lk l kx c he aet aeu
  rw [aet] at U;rw [aeu] at aZ
  split at ay
  ·rename_i i z ah cF
   obtain ⟨eO,eN,jS,lg,qa,R3⟩:=A6 cF
   rw [ah] at jS;simp at jS;subst jS
   simp only [Option.ite_none_right_eq_some,Option.some.injEq] at ay
   obtain ⟨fc,ay⟩:=ay
   subst ay
   have nC:=ZU z cY
   have kd : ∀(j:Nat) q,(sE z cY)[j]? = some q→ ∃v,eN.cells[j]? = some v∧VL.km v=true∧ ∀w ok a9 bm,Rel w ok a9 bm q v:=by
    intro j q bb
    obtain ⟨x,dV,nD⟩:=ab6 z cY j q bb
    obtain ⟨v,v1,v2,v3⟩:=R3 j x dV
    refine ⟨v,v1,v2,fun w ok a9 bm=> ?_⟩
    rcases nD with rfl|⟨y,rfl⟩
    ·exact v3 w ok a9 bm
    ·exact aaH x y (v3 w ok a9 bm)
   clear R3
   have h0:0≤l:=cH _ (by simp)
   have h1:l≤c:=cH _ (by simp)
   have o:(i.bytes:Int)*c≤281474976710656:=cH _ (by simp)
   have af:c<9223372036854775808:=cH _ (by simp)
   have nE:z.length=eN.cells.size:=by rw [qa];simp
   have jb:=run_make (P:=P) w t e i eN (rQ he) ah lg lk kx l c h0 h1 o (by omega)
   refine ET (v:= .slice (some ⟨w.heap.size,0,none⟩) l.toNat c.toNat) (an:=⟨z.length,List.replicate l.toNat (sE z cY),.live⟩) (c:=madeCells eN.cells (c.toNat*i.size)) (eQ:=e) h e7 rfl ?_ rfl ?_ ?_ ?_
   ·simp [execOp,aq,U.pt,aZ.pt,jb]
   ·intro ey l5;rw [List.eq_of_mem_replicate l5];exact nC
   ·intro j q bb
    have aU : ∀ey∈List.replicate l.toNat (sE z cY),ey.length=z.length:=fun ey l5=>by rw [List.eq_of_mem_replicate l5];exact nC
    rcases Nat.eq_zero_or_pos z.length with rk|Fz
    ·have:sE z cY=[]:=List.length_eq_zero_iff.1 (by omega)
     rw [this] at bb
     simp at bb
    ·rw [pq Fz _ aU,List.getElem?_replicate] at bb
     by_cases aE:j / z.length<l.toNat
     ·rw [if_pos aE] at bb
      simp only [Option.bind_some] at bb
      obtain ⟨v,e1,aD,bP⟩:=kd _ _ bb
      refine ⟨v,?_,aD,bP _ _ _ _⟩
      have d3:j<c.toNat*i.size:=by
       rw [← fc]
       have:j<l.toNat*z.length:=(Nat.div_lt_iff_lt_mul Fz).1 aE
       exact Nat.lt_of_lt_of_le this (Nat.mul_le_mul_right _ (by omega))
      simp only [madeCells]
      rw [Array.getElem?_map,Array.getElem?_range]
      simp only [d3,if_true,Option.map_some]
      rw [nE] at e1
      have hm:j % eN.cells.size<eN.cells.size:=Nat.mod_lt _ (by omega)
      rw [Array.getElem?_eq_getElem hm] at e1
      rw [getElem!_pos eN.cells _ hm];exact e1
     ·rw [if_neg aE] at bb;simp at bb
   ·intro bT k3 m6 mq hu cj
    refine Rel.bh hu cj (by omega) (by omega) ⟨?_,.inr (by simp)⟩
    rw [size_madeCells]
    simp only [Nat.zero_add,fc]
  ·simp at ay
 ·simp at ay
theorem ZW {t:TypeId}{x:Operand}{f:Nat}(h:cW g s aB a w)(aq:I.op = .fieldAddr t x f)(ay:e5 P s.E s.a0 aW I cY=some bH)(cH:∀p∈bH.fH,p):Fin P g s a w I bH:=by
 simp only [e5,aq] at ay
 have U:=h.eval x
 split at ay
 ·rename_i kT Ct
  split at ay
  ·rename_i fd tW
   split at ay
   ·simp at ay
   ·rename_i Tg
    have ah:(P.info? fd.type).isSome=true:=by
     cases ah:P.info? fd.type with
     | none=>simp [Program.cellsOf,ah] at Tg
     | some i=>rfl
    have jb : ∀A:Addr,A.spot=none→(Instr.fieldAt t (.pointer (some A)) f).run P w = .ok (.pointer (some ⟨A.block,A.off+fd.offset,none⟩)) w:=by
     intro A hA
     have e:A.add fd.offset=⟨A.block,A.off+fd.offset,none⟩:=by
      obtain ⟨b,I,sp⟩:=A
      simp only at hA;subst hA
      exact rP b I _
     simp [Instr.fieldAt,run_underlying (K2 Ct),tW,Instr.sureAddr,fieldPlace,u0 ah,Tg,e]
    split at ay
    ·rename_i r k i off gY
     rw [gY] at U
     split at ay
     ·rename_i an b9 bt
      split at ay
      ·rename_i c aV nC
       simp only [Option.some.injEq] at ay;subst ay
       have ko:s.an r k=some an:=tC bt fun p ak=>cH p (by simp [ak])
       have rf:=Bd nC fun p ak=>cH p (by simp [ak])
       have fG:=h.obj r k an ko
       rcases U.yO (iN ko) with h0|⟨b,m,ak,hval⟩
       ·rw [h0] at fG;simp only [jC] at fG;rw [fG] at rf;simp at rf
       ·refine iM (v:= .pointer (some ⟨b,i*an.sz+(off+fd.offset),none⟩)) h ?_ rfl ?_
        ·simp [execOp,aq,hval,jb,Nat.add_assoc]
        ·exact U.abj ((iN ko).trans (by rw [ak])) _
      ·simp at ay
     ·simp at ay
    ·rename_i sz es i off gY
     rw [gY] at U
     simp only [Option.some.injEq] at ay;subst ay
     obtain ⟨eg,cc,aT,hval,iG⟩:=U.yP
     refine iM (v:= .pointer (some ⟨eg,cc+(i*sz+(off+fd.offset)),none⟩)) h ?_ rfl (iG.dS aT)
     simp [execOp,aq,hval,jb,Nat.add_assoc]
    ·simp at ay
  ·simp at ay
 ·simp at ay
theorem ZX {t:TypeId}{x y:Operand}(h:cW g s aB a w)(aq:I.op = .indexAddr t x y)(ay:e5 P s.E s.a0 aW I cY=some bH)(cH:∀p∈bH.fH,p):Fin P g s a w I bH:=by
 simp only [e5,aq] at ay
 have U:=h.eval x
 have aZ:=h.eval y
 split at ay
 ·rename_i e k j he gY
  rw [gY] at aZ
  have hu:=rQ he
  have jb : ∀(b I len cap:Nat),0≤j→j<len→(P.info? e).isSome=true →
   (Instr.indexAt t (.slice (some ⟨b,I,none⟩) len cap) (.int k j)).run P w = .ok (.pointer (some ⟨b,I+j.toNat*P.cellsOf e,none⟩)) w:=by
   intro b I len cap h0 h1 ah
   have ey:=rP b I (j.toNat*P.cellsOf e)
   simp [Instr.indexAt,asIntOf,run_underlying hu,h0,h1,u0 ah,ey]
  have vz : ∀sz,sz=P.cellsOf e→sz≠0→(P.info? e).isSome=true:=by
   intro sz b6 cF
   cases ah:P.info? e with
   | none=>simp [Program.cellsOf,ah] at b6;exact absurd b6 cF
   | some i=>rfl
  split at ay
  ·rename_i sz es B3
   rw [B3] at U
   simp only [Option.ite_none_right_eq_some,Option.some.injEq] at ay
   obtain ⟨⟨b6,cF⟩,ay⟩:=ay
   subst ay
   have h0:0≤j:=cH _ (by simp)
   have h1:j<es.length:=cH _ (by simp)
   rcases U.sw with ⟨Cu,-⟩|⟨eg,off,c,aT,hval,bj,iG⟩
   ·subst Cu;simp at h1;omega
   ·refine iM (v:= .pointer (some ⟨eg,off+(j.toNat*sz+0),none⟩)) h ?_ rfl (iG.dS aT)
    simp [execOp,aq,hval,aZ.pt,jb _ _ _ _ h0 h1 (vz sz b6 cF),b6]
  ·rename_i r q b3 len B3
   rw [B3] at U
   split at ay
   ·rename_i row dN
    split at ay
    ·rename_i an b9 bt
     simp only [Option.ite_none_right_eq_some,Option.some.injEq] at ay
     obtain ⟨⟨b6,cF⟩,ay⟩:=ay
     subst ay
     have ko:s.an r q=some an:=by
      unfold S.an;rw [dN];exact tC bt fun p ak=>cH p (by simp [ak])
     have h0:0≤j:=cH _ (by simp)
     have h1:j<len:=cH _ (by simp)
     rcases U.Bp (iN ko) with ⟨-,-,o,-⟩|⟨b,m,A,c,ak,hval,aU,-,hm⟩
     ·subst o;simp at h1;omega
     ·rcases hm with hm|⟨hA,hm⟩
      ·omega
      ·subst hA
       have jG:=EH ko
       refine iM (v:= .pointer (some ⟨b,(b3+j.toNat)*an.sz+0,none⟩)) h ?_ rfl (.ref jG ((iN ko).trans (by rw [ak])))
       simp [execOp,aq,hval,aZ.pt,jb _ _ _ _ h0 h1 (vz _ b6 cF),b6,Nat.add_mul]
    ·simp at ay
   ·simp at ay
  ·simp at ay
 ·simp at ay
theorem ab7 {t:TypeId}{x y:Operand}(h:cW g s aB a w)(aq:I.op = .index t x y)(ay:e5 P s.E s.a0 aW I cY=some bH)(cH:∀p∈bH.fH,p):Fin P g s a w I bH:=by
 simp only [e5,aq] at ay
 have U:=h.eval x
 have aZ:=h.eval y
 split at ay
 ·rename_i b k j hu B3 aev
  rw [B3] at U;rw [aev] at aZ
  simp only [Option.some.injEq] at ay;subst ay
  have h0:0≤j:=cH _ (by simp)
  have h1:j<b.size:=cH _ (by simp)
  have o:j.toNat<b.size:=by omega
  refine iM (v:= .int .u8 (b[j.toNat]).toNat) h ?_ rfl ?_
  ·simp [execOp,aq,U.y5,aZ.pt,Instr.index,asIntOf,run_underlying hu,h0,o]
  ·have e:b.data.toList.getD j.toNat 0=b[j.toNat]:=by
    rw [List.getD_eq_getElem?_getD,Array.getElem?_toList,Array.getElem?_eq_getElem (by simpa using o)];rfl
   show Rel _ _ _ _ (.n .u8 _) _
   rw [e];exact .n _ _
 ·simp at ay
theorem adC {c:Call}(h:cW g s aB a w)(aq:I.op = .call c)(bj:c.callee = .builtin .len)(ay:e5 P s.E s.a0 aW I cY=some bH)(cH:∀p∈bH.fH,p):Fin P g s a w I bH:=by
 obtain ⟨FA,args,m8⟩:=c
 simp only at bj;subst bj
 simp only [e5,aq] at ay
 have key : ∀(x:Operand) (n:Nat) (t:TypeId) (v:Value),args.toList=[x]→m8 = #[t]→bH.val = .n .i64 n→bH.fU=[]→a.eval x=v →
  (Builtin.len_ #[t] I.type #[v]).run P w = .ok (goInt n) w→Fin P g s a w I bH:=by
  intro x n t v hargs l8 ap hI bk jb
  subst l8
  refine iM (v:=goInt n) h ?_ hI (by rw [ap];exact .n _ _)
  have bJ:args = #[x]:=by apply Array.ext';simpa using hargs
  subst bJ
  simp [execOp,aq,resolve,invoke,builtin,bk,jb]
 have hargs : ∀y,args.toList.map (fq s.E)=[y]→ ∃x,args.toList=[x]∧fq s.E x=y:=by
  intro y aZ
  match aU:args.toList,aZ with
  | [x],aZ=>simp at aZ;exact ⟨x,rfl,aZ⟩
 have oy:decide (m8.size=1)=true→ ∃t,m8 = #[t]∧m8.getD 0 0=t:=by
  intro fc
  have fc:m8.size=1:=by simpa using fc
  obtain ⟨l⟩:=m8
  match l,fc with
  | [t],_=>exact ⟨t,rfl,rfl⟩
 split at ay
 ·rename_i sz es e hm hu fc
  obtain ⟨x,U,gY⟩:=hargs _ hm
  obtain ⟨t,cj,nY⟩:=oy fc
  rw [nY] at hu
  simp only [Option.some.injEq] at ay
  have ap:=h.eval x
  rw [gY] at ap
  rcases ap.sw with ⟨Cu,A,c,hval,hA⟩|⟨eg,off,c,aT,hval,-⟩
  ·exact key x es.length t _ U cj (by rw [← ay]) (by rw [← ay]) hval (by subst Cu;simp [Builtin.len_,run_underlying hu])
  ·exact key x es.length t _ U cj (by rw [← ay]) (by rw [← ay]) hval (by simp [Builtin.len_,run_underlying hu])
 ·rename_i r k b3 len e hm hu fc
  obtain ⟨x,U,gY⟩:=hargs _ hm
  obtain ⟨t,cj,nY⟩:=oy fc
  rw [nY] at hu
  split at ay
  ·rename_i row dN
   split at ay
   ·rename_i an b9 bt
    simp only [Option.some.injEq] at ay
    have ap:=h.eval x
    rw [gY] at ap
    have ko:s.an r k=some an:=by
     unfold S.an;rw [dN];exact tC bt fun p ak=>cH p (by rw [← ay];exact ak)
    rcases ap.Bp (iN ko) with ⟨-,-,o,hval⟩|⟨b,m,A,c,ak,hval,-⟩
    ·exact key x len t _ U cj (by rw [← ay]) (by rw [← ay]) hval (by subst o;simp [Builtin.len_,run_underlying hu])
    ·exact key x len t _ U cj (by rw [← ay]) (by rw [← ay]) hval (by simp [Builtin.len_,run_underlying hu])
   ·simp at ay
  ·simp at ay
 ·rename_i e hm hu fc
  obtain ⟨x,U,gY⟩:=hargs _ hm
  obtain ⟨t,cj,nY⟩:=oy fc
  rw [nY] at hu
  simp only [Option.some.injEq] at ay
  have ap:=h.eval x
  rw [gY] at ap
  exact key x 0 t _ U cj (by rw [← ay];rfl) (by rw [← ay]) ap.pJ (by simp [Builtin.len_,run_underlying hu])
 ·rename_i b hm hu fc
  obtain ⟨x,U,gY⟩:=hargs _ hm
  obtain ⟨t,cj,nY⟩:=oy fc
  rw [nY] at hu
  simp only [Option.some.injEq] at ay
  have ap:=h.eval x
  rw [gY] at ap
  exact key x b.size t _ U cj (by rw [← ay]) (by rw [← ay]) ap.y5 (by simp [Builtin.len_,run_underlying hu])
 ·simp at ay
theorem Em {ok:Nat→Prop}{a9:js}{bm:jh}{eg off sz:Nat}{es:List (List aF)}(h:oG w ok a9 bm eg off sz es)(l n:Nat)(aU:l≤es.length):
 oG w ok a9 bm eg (off+l*sz) sz ((es.drop l).take n):=by
 have qB : ∀e∈(es.drop l).take n,e.length=sz:=fun e he=>h.1 e (List.mem_of_mem_drop (List.mem_of_mem_take he))
 refine ⟨qB,fun j x U=> ?_⟩
 rcases Nat.eq_zero_or_pos sz with h0|b6
 ·have e1 : ∀(l:List (List aF)),(∀e∈l,e.length=0)→l.flatten=[]:=by
   intro l aU;induction l with
   | nil=>rfl
   | cons a l ih=>rw [List.flatten_cons,ih fun e he=>aU e (by simp [he])];have:=aU a (by simp);simp_all
  rw [e1 _ (fun e he=>(qB e he).trans h0)] at U;simp at U
 ·rw [pq b6 _ qB] at U
  have aE:j / sz<n:=by
   rcases Nat.lt_or_ge (j / sz) n with cP|cP
   ·exact cP
   ·rw [List.getElem?_eq_none (by simp;omega)] at U;simp at U
  rw [List.getElem?_take,if_pos aE,List.getElem?_drop] at U
  obtain ⟨v,e1,aD,bP⟩:=h.2 (l*sz+j) x (by
   rw [pq b6 es h.1]
   have gI:(l*sz+j) / sz=l+j / sz:=by rw [Nat.mul_comm,Nat.mul_add_div b6]
   have hL:(l*sz+j) % sz=j % sz:=by rw [Nat.mul_comm,Nat.mul_add_mod]
   rw [gI,hL];exact U)
  exact ⟨v,by rw [Nat.add_assoc];exact e1,aD,bP⟩
theorem Eh {t e:TypeId}(hu:P.underlying t=some (.slice e))(ah:(P.info? e).isSome=true)(A:Option Addr)(len cap:Nat)(b3 jS:Option Value)(l h:Nat)
 (Th:(b3=none∧l=0)∨ ∃k,b3=some (.int k l)) (Ti:(jS=none∧h=len)∨ ∃k,jS=some (.int k h)) (h1:l≤h) (o:h≤len) (af:len≤cap) :
 (Instr.sliceAt t (.slice A len cap) b3 jS none).run P w = .ok (.slice (if cap=l then A else A.map (·.add (l*P.cellsOf e))) (h-l) (cap-l)) w:=by
 have aT : ∀(k:IntKind) (n y:Nat) (code:BoundsCode),n≤y→(Instr.sliceBound (.int k n) y code).run P w = .ok n w:=by
  intro k n y code a5
  simp [Instr.sliceBound,asIntOf,a5]
 rcases Th with ⟨rfl,rfl⟩|⟨lk,rfl⟩<;>rcases Ti with ⟨rfl,rfl⟩|⟨kx,rfl⟩ <;>
  simp [Instr.sliceAt,Instr.slice,run_underlying hu,Instr.sliceBounds,u0 ah,aT,h1,o,af,Nat.le_trans o af]
theorem yW {x:Option Operand}(h:cW g s aB a w){d n:Nat}{an:List Prop}(aT:ar (x.map (fq s.E)) d=some (n,an))(cH:∀p∈an,p):
 (x.map a.eval=none∧n=d)∨ ∃k,x.map a.eval=some (.int k n):=by
 cases x with
 | none=>simp [ar] at aT;exact .inl ⟨rfl,aT.1.symm⟩
 | some x =>
  have U:=h.eval x
  simp only [Option.map_some] at aT ⊢
  unfold ar at aT
  split at aT
  ·rename_i he;simp at he
  ·rename_i _ k y he
   simp only [Option.some.injEq] at he
   rw [he] at U
   simp only [Option.some.injEq,Prod.mk.injEq] at aT
   obtain ⟨rfl,rfl⟩:=aT
   have h0:0≤y:=cH _ (by simp)
   refine .inr ⟨k,?_⟩
   rw [U.pt,Int.toNat_of_nonneg h0]
  ·simp at aT
theorem ab8 {t:TypeId}{x:Operand}{b3 ah:Option Operand}(h:cW g s aB a w)(aq:I.op = .slice t x b3 ah none)(ay:e5 P s.E s.a0 aW I cY=some bH)(cH:∀p∈bH.fH,p):Fin P g s a w I bH:=by
 simp only [e5,aq] at ay
 have U:=h.eval x
 have vz : ∀sz e,sz=P.cellsOf e→sz≠0→(P.info? e).isSome=true:=by
  intro sz e b6 cF
  cases ah:P.info? e with
  | none=>simp [Program.cellsOf,ah] at b6;exact absurd b6 cF
  | some i=>rfl
 split at ay
 ·rename_i e sz es hu gY
  rw [gY] at U
  split at ay
  ·rename_i l b9 n aV aU a5
   simp only [Option.ite_none_right_eq_some,Option.some.injEq] at ay
   obtain ⟨⟨b6,cF⟩,ay⟩:=ay
   subst ay
   have jt:=yW h aU fun p ak=>cH p (by simp [ak])
   have kI:=yW h a5 fun p ak=>cH p (by simp [ak])
   have h1:l≤n:=cH _ (by simp)
   have o:n≤es.length:=cH _ (by simp)
   rcases U.sw with ⟨Cu,A,c,hval,hA⟩|⟨eg,off,c,aT,hval,bj,iG⟩
   ·subst Cu
    have Cv:n=0:=by simpa using o
    subst Cv
    have nF:l=0:=by omega
    subst nF
    refine iM (v:= .slice (if c=0 then A else A.map (·.add (0*P.cellsOf e))) (0-0) (c-0)) h ?_ rfl ?_
    ·have:=Eh (w:=w) hu (vz sz e b6 cF) A 0 c (b3.map a.eval) (ah.map a.eval) 0 0 jt kI (Nat.le_refl _) (Nat.le_refl _) (Nat.zero_le _)
     simp only [execOp,aq,hval]
     simp only [Option.map_none,Sem.run_bind,this];rfl
    ·refine .kf sz _ _ fun a5=> ?_
     split at a5
     ·rename_i mI;omega
     ·have:=hA (by simpa using a5)
      omega
   ·have hlen:((es.drop l).take (n-l)).length=n-l:=by simp;omega
    refine iM (v:= .slice (if c=l then some ⟨eg,off,none⟩ else (some (⟨eg,off,none⟩:Addr)).map (·.add (l*P.cellsOf e))) (n-l) (c-l)) h ?_ rfl ?_
    ·have:=Eh (w:=w) hu (vz sz e b6 cF) (some ⟨eg,off,none⟩) es.length c (b3.map a.eval) (ah.map a.eval) l n jt kI h1 o bj
     simp only [execOp,aq,hval]
     simp only [Option.map_none,Sem.run_bind,this];rfl
    ·by_cases iO:c=l
     ·have:n-l=0:=by omega
      rw [this]
      show Rel _ _ _ _ (.isl sz ((es.drop l).take 0)) _
      rw [List.take_zero]
      exact .kf sz _ _ (fun _=>by omega)
     ·rw [if_neg iO]
      simp only [Option.map_some,rP,← b6]
      have ap:=(Em iG l (n-l) (by omega)).isl (c:=c-l) ⟨aT.1,fun e he=>aT.2 e (List.mem_of_mem_drop (List.mem_of_mem_take he))⟩ (by rw [hlen];omega)
      rw [hlen] at ap
      exact ap
  ·simp at ay
 ·rename_i e r k Ui len hu gY
  rw [gY] at U
  split at ay
  ·simp at ay
  ·rename_i row dN
   split at ay
   ·simp at ay
   ·rename_i an Uj bt
    split at ay
    ·rename_i l b9 n aV aU a5
     simp only [Option.ite_none_right_eq_some,Option.some.injEq] at ay
     obtain ⟨⟨b6,cF⟩,ay⟩:=ay
     subst ay
     have ko:s.an r k=some an:=by
      unfold S.an;rw [dN];exact tC bt fun p ak=>cH p (by simp [ak])
     have jt:=yW h aU fun p ak=>cH p (by simp [ak])
     have kI:=yW h a5 fun p ak=>cH p (by simp [ak])
     have h1:l≤n:=cH _ (by simp)
     have o:n≤len:=cH _ (by simp)
     have jG:=EH ko
     rcases U.vj (iN ko) with ⟨ak,rfl,rfl,hval⟩|⟨b,m,A,c,ak,hval,rj,sU,ms,hm⟩
     ·have Cv:n=0:=by omega
      subst Cv
      have nF:l=0:=by omega
      subst nF
      refine iM (v:= .slice none 0 0) h ?_ rfl (.nO jG ((iN ko).trans (by rw [ak])))
      have:=Eh (w:=w) hu (vz _ e b6 cF) none 0 0 (b3.map a.eval) (ah.map a.eval) 0 0 jt kI (Nat.le_refl _) (Nat.le_refl _) (Nat.le_refl _)
      simp only [execOp,aq,hval]
      simp only [Option.map_none,Sem.run_bind,this];rfl
     ·refine iM (v:= .slice (if c=l then A else A.map (·.add (l*P.cellsOf e))) (n-l) (c-l)) h ?_ rfl ?_
      ·have:=Eh (w:=w) hu (vz _ e b6 cF) A len c (b3.map a.eval) (ah.map a.eval) l n jt kI h1 o rj
       simp only [execOp,aq,hval]
       simp only [Option.map_none,Sem.run_bind,this];rfl
      ·refine Rel.bh jG ((iN ko).trans (by rw [ak])) (by omega) (by omega) ?_
       refine ⟨by rw [← ms];congr 1;omega,?_⟩
       by_cases iO:c=l
       ·exact .inl (by omega)
       ·rcases hm with hm|hA
        ·exact .inl (by omega)
        ·refine .inr ?_
         rw [if_neg iO,hA]
         simp only [Option.map_some,rP,← b6,Nat.add_mul]
    ·simp at ay
 ·rename_i b hu gY
  rw [gY] at U
  split at ay
  ·rename_i l b9 n aV aU a5
   simp only [Option.some.injEq] at ay
   subst ay
   have jt:=yW h aU fun p ak=>cH p (by simp [ak])
   have kI:=yW h a5 fun p ak=>cH p (by simp [ak])
   have h1:l≤n:=cH _ (by simp)
   have o:n≤b.size:=cH _ (by simp)
   refine iM (v:= .string (b.extract l n)) h ?_ rfl (.s _)
   have aT : ∀(k:IntKind) (n y:Nat) (code:BoundsCode),n≤y→(Instr.sliceBound (.int k n) y code).run P w = .ok n w:=by
    intro k n y code a5
    simp [Instr.sliceBound,asIntOf,a5]
   simp only [execOp,aq,U.y5,Option.map_none]
   rcases jt with ⟨e1,rfl⟩|⟨lk,e1⟩<;>rcases kI with ⟨aD,rfl⟩|⟨kx,aD⟩<;>rw [e1,aD] <;>
    simp [Instr.sliceAt,Instr.slice,run_underlying hu,Instr.sliceBounds,aT,h1,o]
  ·simp at ay
 ·simp at ay
end
end Go.VL
namespace Go.VL
set_option linter.unusedVariables false
set_option linter.unusedSimpArgs false
open Go
section
variable {P:Program} {g:G} {s:S} {aB:fy} {a:Act} {w:World} {I:Oper} {cY:fL} {aW:Nat} {bH:ir}
theorem aaI {ok:Nat→Prop}{a9:js}{bm:jh}{t:TypeId}{c:List aF}{off:Nat}{x:aF}{vs:List Value}(aU:vs.length=c.length)
 (kd : ∀(j:Nat) u,vs[j]? = some u→km u=true) (ap : ∀(j:Nat) x u,c[j]? = some x→vs[j]? = some u→Rel w ok a9 bm x u)
 (cj:sD P t c off=some x) : ∃v,(part t vs.toArray off).run P w = .ok v w∧Rel w ok a9 bm x v:=by
 unfold sD at cj
 split at cj
 ·simp at cj
 ·rename_i ah
  simp only [Bool.not_eq_true',Bool.not_eq_false,Bool.and_eq_true] at ah
  simp only [part,Sem.run_bind,Qv ah.1,Result.andThen]
  split at cj
  ·rename_i re
   rw [re]
   split at cj
   ·rename_i hle
    simp at cj;subst cj
    have e:(vs.toArray.extract off (off+P.cellsOf t))=((vs.drop off).take (P.cellsOf t)).toArray:=by
     apply Array.ext'
     simp [List.extract_eq_take_drop]
    refine ⟨.agg ((vs.drop off).take (P.cellsOf t)).toArray,by simp [u0 ah.2],?_⟩
    refine .agg _ (by simp;omega) ?_ ?_
    ·intro j v bk
     rw [List.getElem?_take] at bk
     split at bk
     ·rw [List.getElem?_drop] at bk;exact kd _ _ bk
     ·simp at bk
    ·intro j y v aZ bk
     rw [List.getElem?_take] at bk aZ
     split at bk
     ·rename_i aE
      rw [if_pos aE] at aZ
      rw [List.getElem?_drop] at bk aZ;exact ap _ _ _ aZ bk
     ·simp at bk
   ·simp at cj
  ·rename_i re
   have re:BA P t=false:=by simpa using re
   rw [re]
   split at cj
   ·rename_i y aZ
    split at cj
    ·simp at cj;subst cj
     have zc:off<vs.length:=by
      rcases Nat.lt_or_ge off c.length with h|h
      ·omega
      ·rw [List.getElem?_eq_none h] at aZ;simp at aZ
     exact ⟨vs[off],by simp [zc],ap off y _ aZ (List.getElem?_eq_getElem zc)⟩
    ·simp at cj
   ·simp at cj
theorem ab9 {t:TypeId}{x:Operand}{f:Nat}(h:cW g s aB a w)(aq:I.op = .field t x f)(ay:e5 P s.E s.a0 aW I cY=some bH):Fin P g s a w I bH:=by
 simp only [e5,aq] at ay
 have U:=h.eval x
 split at ay
 ·rename_i kT Ct
  split at ay
  ·rename_i fd c tW gY
   rw [gY] at U
   cases cj:sD P fd.type c fd.offset with
   | none=>simp [cj] at ay
   | some v =>
    simp [cj] at ay;subst ay
    obtain ⟨vs,hval,aU,bj,ap⟩:=U.Bo
    obtain ⟨u,h1,o⟩:=aaI aU bj ap cj
    refine iM (v:=u) h ?_ rfl o
    simp [execOp,aq,hval,Instr.field,run_underlying (K2 Ct),tW,asAgg,h1]
  ·simp at ay
 ·simp at ay
theorem abl (off:Nat): ∀(vs:List Value) (n:Nat) (cs:Array Value) (j:Nat),off+n+vs.length≤cs.size →
 ((vs.zipIdx n).foldl (fun cs (x:Value×Nat)=>cs.setIfInBounds (off+x.2) x.1) cs)[j]? = if off+n≤j∧j<off+n+vs.length then vs[j-(off+n)]? else cs[j]? := by
 intro vs
 induction vs with
 | nil=>intro n cs j h;simp;intro h1 o;omega
 | cons v vs ih =>
  intro n cs j h
  simp only [List.length_cons] at h
  simp only [List.zipIdx_cons,List.foldl_cons]
  rw [ih (n+1) _ j (by simp;omega)]
  simp only [List.length_cons,Array.getElem?_setIfInBounds]
  by_cases h1:j=off+n
  ·subst h1
   rw [if_neg (by omega),if_pos rfl,if_pos (by omega),if_pos (by omega)]
   simp
  ·by_cases o:off+(n+1)≤j∧j<off+(n+1)+vs.length
   ·rw [if_pos o,if_pos (by omega)]
    rw [show j-(off+n)=(j-(off+(n+1)))+1 by omega];rfl
   ·rw [if_neg o,if_neg (fun e=>h1 e.symm),if_neg (by omega)]
theorem Zk (off:Nat): ∀(vs:List (Value×Nat)) (cs:Array Value),(vs.foldl (fun cs (x:Value×Nat)=>cs.setIfInBounds (off+x.2) x.1) cs).size=cs.size:=by
 intro vs
 induction vs with
 | nil=>intro cs;rfl
 | cons v vs ih=>intro cs;simp only [List.foldl_cons];rw [ih];simp
def zN (w:World)(ok:Nat→Prop)(a9:js)(bm:jh)(c:List aF)(cs:Array Value):Prop :=
 cs.size=c.length∧(∀(j:Nat) u,cs[j]? = some u→km u=true)∧ ∀(j:Nat) x u,c[j]? = some x→cs[j]? = some u→Rel w ok a9 bm x u
theorem aca {ok:Nat→Prop}{a9:js}{bm:jh}{c:List aF}{cs:Array Value}(h:zN w ok a9 bm c cs){x:aF}{v:Value}{off:Nat}(U:Rel w ok a9 bm x v)(bj:x.yF=true)
 (iD:off+x.cells.length≤c.length):v.cells.size=x.cells.length ∧
   zN w ok a9 bm (setCells c off x.cells) (v.cells.zipIdx.foldl (fun cs (y:Value×Nat)=>cs.setIfInBounds (off+y.2) y.1) cs):=by
 obtain ⟨vs,bk,aU,kd,ap⟩:=U.cellsOf (aF.PP bj)
 have l8 : ∀j,(v.cells.zipIdx.foldl (fun cs (y:Value×Nat)=>cs.setIfInBounds (off+y.2) y.1) cs)[j]? = if off≤j∧j<off+vs.length then vs[j-off]? else cs[j]? := by
  intro j
  rw [bk]
  have:=abl off vs 0 cs j (by rw [h.1];omega)
  simp only [Nat.add_zero] at this
  rw [← this,← Array.foldl_toList,Array.toList_zipIdx]
 refine ⟨by rw [bk];simpa using aU,?_,?_,?_⟩
 ·rw [Pf iD,← h.1,← Array.foldl_toList,Zk]
 ·intro j u hu
  rw [l8] at hu
  split at hu
  ·exact kd _ _ hu
  ·exact h.2.1 _ _ hu
 ·intro j y u aZ hu
  rw [l8] at hu
  rw [K1 iD] at aZ
  by_cases l7:off≤j∧j<off+x.cells.length
  ·rw [if_pos l7] at aZ
   rw [if_pos (by rw [aU];exact l7)] at hu
   exact ap _ _ _ aZ hu
  ·rw [if_neg l7] at aZ
   rw [if_neg (by rw [aU];exact l7)] at hu
   exact h.2.2 _ _ _ aZ hu
theorem P5 {ok:Nat→Prop}{a9:js}{bm:jh}(place:Nat→Option (Nat×Nat)): ∀(l:List (Nat×Nat×aF)) (j2:List (Nat×Value)) (c:List aF) (cs:Array Value) (d7:List aF),
 zN w ok a9 bm c cs→l.length=j2.length →
 (∀(j:Nat) off size x i v,l[j]? = some (off,size,x)→j2[j]? = some (i,v)→place i=some (off,size)∧Rel w ok a9 bm x v) →
 tI c l=some d7→ ∃m9,Instr.fill place cs j2=some m9∧zN w ok a9 bm d7 m9:=by
 intro l
 induction l with
 | nil =>
  intro j2 c cs d7 h aU _ ch
  have:j2=[]:=List.length_eq_zero_iff.1 (by simpa using aU.symm)
  subst this
  simp [tI] at ch;subst ch
  exact ⟨cs,rfl,h⟩
 | cons q l ih =>
  intro j2 c cs d7 h aU ak ch
  obtain ⟨off,size,x⟩:=q
  match j2,aU with
  | (i,v)::j2,aU =>
   obtain ⟨ae8,U⟩:=ak 0 off size x i v rfl rfl
   simp only [tI] at ch
   split at ch
   ·rename_i bj
    simp only [Bool.and_eq_true,decide_eq_true_eq] at bj
    obtain ⟨⟨h1,o⟩,af⟩:=bj
    obtain ⟨e1,aD⟩:=aca h U h1 (off:=off) (by omega)
    obtain ⟨m9,f1,f2⟩:=ih j2 _ _ d7 aD (by simpa using aU) (fun j off size x i v a b=>ak (j+1) off size x i v a b) ch
    refine ⟨m9,?_,f2⟩
    rw [Instr.fill]
    simp only [ae8]
    have hU : ¬(decide (v.cells.size≠size) || decide (off+v.cells.size>cs.size))=true:=by simp;rw [e1,h.1];omega
    rw [if_neg hU]
    exact f1
   ·simp at ch
theorem mapM_some {α β:Type}(f:α→β)(p:α→Option β): ∀(l:List α),(∀x∈l,p x=some (f x))→l.mapM p=some (l.map f)
 | [],_=>rfl
 | x::l,h=>by
  rw [List.mapM_cons,h x (by simp),mapM_some f p l fun y aZ=>h y (by simp [aZ])];rfl
theorem Rx {α β:Type}(p:α→Option β): ∀(l:List α) (fC:List β),l.mapM p=some fC→fC.length=l.length∧ ∀(j:Nat) x y,l[j]? = some x→fC[j]? = some y→p x=some y
 | [],fC,h=>by simp at h;subst h;exact ⟨rfl,fun j x y U=>by simp at U⟩
 | a::l,fC,h=>by
  rw [List.mapM_cons] at h
  cases bJ:p a with
  | none=>simp [bJ] at h
  | some b =>
   cases aU:l.mapM p with
   | none=>simp [bJ,aU] at h
   | some r =>
    simp [bJ,aU] at h;subst h
    obtain ⟨h1,o⟩:=Rx p l r aU
    refine ⟨by simp [h1],fun j x y U aZ=> ?_⟩
    cases j with
    | zero=>simp at U aZ;subst U;subst aZ;exact bJ
    | succ j=>simp at U aZ;exact o j x y U aZ
theorem Ry {t:TypeId}{z:List aF}(cF:qS P t=some z): ∃i eN,P.info? t=some i∧i.zero=some eN∧eN.cells.size=z.length∧zN w (s.ok g aB w) s.a9 (s.bm aB) z eN.cells:=by
 obtain ⟨i,eN,ah,lg,qa,kd⟩:=A6 cF
 have b6:eN.cells.size=z.length:=by rw [qa];simp
 refine ⟨i,eN,ah,lg,b6,b6,fun j u hu=> ?_,fun j x u U hu=> ?_⟩
 ·have aE:j<z.length:=by
   have:=(Array.getElem?_eq_some_iff.1 hu).1;omega
  obtain ⟨v,e1,aD,-⟩:=kd j z[j] (List.getElem?_eq_getElem aE)
  rw [hu] at e1;simp at e1;subst e1;exact aD
 ·obtain ⟨v,e1,-,bP⟩:=kd j x U
  rw [hu] at e1;simp at e1;subst e1;exact bP _ _ _ _
theorem acb {t:TypeId}{parts:Array (Nat×Operand)}(h:cW g s aB a w)(aq:I.op = .build t parts)(ay:e5 P s.E s.a0 aW I cY=some bH):Fin P g s a w I bH:=by
 simp only [e5,aq] at ay
 split at ay
 ·rename_i kT z Ct cF
  split at ay
  ·simp at ay
  ·rename_i nW
   have nW : ∀f∈kT.toList,(P.info? f.type).isSome=true:=by
    rw [Bool.not_eq_false] at nW
    exact List.all_eq_true.1 nW
   split at ay
   ·rename_i l aU
    cases ch:tI z l with
    | none=>simp [ch] at ay
    | some c =>
     simp [ch] at ay;subst ay
     obtain ⟨it,eN,Cw,lg,fc,hcs⟩:=Ry (w:=w) (s:=s) (g:=g) (aB:=aB) cF
     obtain ⟨nK,qN⟩:=Rx _ _ _ aU
     have aew:kT.toList.mapM (fun f=>(P.info? f.type).map fun i=>(f.offset,i.size))=some (kT.toList.map fun f=>(f.offset,P.cellsOf f.type)):=by
      refine mapM_some (fun f:Field=>(f.offset,P.cellsOf f.type)) _ _ fun f ch=> ?_
      have:=nW f ch
      cases ah:P.info? f.type with
      | none=>simp [ah] at this
      | some i=>simp [Program.cellsOf,ah]
     obtain ⟨m9,f1,f2⟩:=P5 (w:=w) (ok:=s.ok g aB w) (a9:=s.a9) (bm:=s.bm aB) ((kT.toList.map fun f=>(f.offset,P.cellsOf f.type)).toArray[·]?) l (parts.map fun (i,x)=>(i,a.eval x)).toList z eN.cells c hcs (by simpa using nK) (by
      intro j off size x i v aE bk
      simp only [Array.toList_map,List.getElem?_map,Option.map_eq_some_iff] at bk
      obtain ⟨⟨eO,cR⟩,ak,bk⟩:=bk
      simp only [Prod.mk.injEq] at bk
      obtain ⟨rfl,rfl⟩:=bk
      have:=qN j _ _ ak aE
      simp only [Option.map_eq_some_iff,Prod.mk.injEq] at this
      obtain ⟨fd,h1,o,af,av⟩:=this
      subst o;subst af;subst av
      refine ⟨?_,h.eval cR⟩
      rw [List.getElem?_toArray,List.getElem?_map,Array.getElem?_toList,h1];rfl) ch
     have aT:P.built t (parts.map fun (i,x)=>(i,a.eval x)).toList=some m9:=by
      unfold Program.built
      simp only [Cw,K2 Ct,lg,aew]
      exact f1
     refine iM (v:= .agg m9) h ?_ rfl ?_
     ·have:=run_build w t _ m9 aT
      simp [execOp,aq,this]
     ·have:=Rel.agg (w:=w) (ok:=s.ok g aB w) (a9:=s.a9) (bm:=s.bm aB) (c:=c) m9.toList (by simpa using f2.1) (fun j u hu=>f2.2.1 j u (by simpa using hu)) (fun j x u U hu=>f2.2.2 j x u U (by simpa using hu))
      simpa using this
   ·simp at ay
 ·simp at ay
theorem Yu {sz:Nat}{es:List (List aF)}(aU:∀e∈es,e.length=sz){i:Nat}(ah:i<es.length){c:List aF}(bj:c.length=sz):
 setCells es.flatten (i*sz) c=(es.set i c).flatten:=by
 have hlen : ∀(es:List (List aF)),(∀e∈es,e.length=sz)→es.flatten.length=es.length*sz:=by
  intro es
  induction es with
  | nil=>simp
  | cons e es ih =>
   intro h
   rw [List.flatten_cons,List.length_append,ih fun x U=>h x (by simp [U]),h e (by simp),List.length_cons,Nat.add_mul];omega
 have iD:i*sz+c.length≤es.flatten.length:=by
  rw [hlen es aU,bj]
  have:=Nat.mul_le_mul_right sz (show i+1≤es.length by omega)
  rw [Nat.add_mul] at this;omega
 apply List.ext_getElem?
 intro j
 rw [K1 iD,PQ aU (List.getElem?_eq_getElem ah) bj,bj]
theorem P6 {sz:Nat}: ∀(l:List (Nat×aF)) (es gx:List (List aF)),(∀e∈es,e.length=sz)→y4 sz es l=some gx →
 tI es.flatten (l.map fun p=>(p.1*sz,sz,p.2))=some gx.flatten∧(∀e∈gx,e.length=sz)∧gx.length=es.length
 | [],es,gx,aU,h=>by simp [y4] at h;subst h;exact ⟨rfl,aU,rfl⟩
 | (i,x)::l,es,gx,aU,h=>by
  simp only [y4] at h
  split at h
  ·rename_i bj
   simp only [Bool.and_eq_true,decide_eq_true_eq] at bj
   obtain ⟨⟨h1,o⟩,af⟩:=bj
   have MO : ∀e∈es.set i x.cells,e.length=sz:=by
    intro e hm
    rcases List.mem_or_eq_of_mem_set hm with cP|cP
    ·exact aU e cP
    ·exact cP▸o
   obtain ⟨gI,hL,dd⟩:=P6 l (es.set i x.cells) gx MO h
   have e:=Yu aU af o
   have iD:i*sz+sz≤es.flatten.length:=by
    have:(setCells es.flatten (i*sz) x.cells).length=(es.set i x.cells).flatten.length:=by rw [e]
    have bb : ∀(es:List (List aF)),(∀e∈es,e.length=sz)→es.flatten.length=es.length*sz:=by
     intro es
     induction es with
     | nil=>simp
     | cons e es ih =>
      intro h
      rw [List.flatten_cons,List.length_append,ih fun x U=>h x (by simp [U]),h e (by simp),List.length_cons,Nat.add_mul];omega
    rw [bb es aU]
    have:=Nat.mul_le_mul_right sz (show i+1≤es.length by omega)
    rw [Nat.add_mul] at this;omega
   refine ⟨?_,hL,by simpa using dd⟩
   simp only [List.map_cons,tI,h1,o,iD,decide_true,Bool.and_self,if_true]
   rw [e];exact gI
  ·simp at h
theorem ZD {t:TypeId}{len:Nat}{parts:Array (Nat×Operand)}(h:cW g s aB a w)(e7:s.a0 aW=none)(aq:I.op = .buildSlice t len parts)(ay:e5 P s.E s.a0 aW I cY=some bH):Fin P g s a w I bH:=by
 simp only [e5,aq] at ay
 split at ay
 ·rename_i e he
  split at ay
  ·rename_i z cF
   split at ay
   ·simp at ay
   ·rename_i bj
    simp only [not_or,Nat.not_lt,Decidable.not_not] at bj
    obtain ⟨na,zk,zl⟩:=bj
    split at ay
    ·rename_i es hH
     simp only [Option.some.injEq] at ay;subst ay
     obtain ⟨it,eN,Cw,lg,fc,hcs⟩:=Ry (w:=w) (s:=s) (g:=g) (aB:=aB) cF
     have kd:P.cellsOf e=it.size:=by simp [Program.cellsOf,Cw]
     have SS : ∀x∈List.replicate len z,x.length=z.length:=fun x U=>by rw [List.eq_of_mem_replicate U]
     obtain ⟨f1,f2,f3⟩:=P6 _ _ _ SS hH
     have rk:zN w (s.ok g aB w) s.a9 (s.bm aB) (List.replicate len z).flatten ((Array.range (len*it.size)).map (eN.cells[· % eN.cells.size]!)):=by
      have Fz:0<z.length:=by omega
      have l8 : ∀j,j<len*it.size→((Array.range (len*it.size)).map (eN.cells[· % eN.cells.size]!))[j]? = eN.cells[j % z.length]? := by
       intro j aE
       rw [Array.getElem?_map,Array.getElem?_range]
       simp only [aE,if_true,Option.map_some]
       have hm:j % eN.cells.size<eN.cells.size:=Nat.mod_lt _ (by omega)
       rw [getElem!_pos eN.cells _ hm,← fc,Array.getElem?_eq_getElem hm]
      have d3 : ∀(j:Nat) u,((Array.range (len*it.size)).map (eN.cells[· % eN.cells.size]!))[j]? = some u→j<len*it.size:=by
       intro j u hu
       have:=(Array.getElem?_eq_some_iff.1 hu).1
       simpa using this
      refine ⟨by simp [← kd,← zk],fun j u hu=> ?_,fun j x u U hu=> ?_⟩
      ·have aE:=d3 j u hu
       rw [l8 j aE] at hu
       exact hcs.2.1 _ _ hu
      ·have aE:=d3 j u hu
       rw [l8 j aE] at hu
       rw [pq Fz _ SS,List.getElem?_replicate] at U
       split at U
       ·exact hcs.2.2 _ _ _ U hu
       ·simp at U
     obtain ⟨m9,g1,g2⟩:=P5 (w:=w) (ok:=s.ok g aB w) (a9:=s.a9) (bm:=s.bm aB) (fun i=>some (i*it.size,it.size)) ((parts.toList.map fun p=>(p.1,fq s.E p.2)).map fun p=>(p.1*z.length,z.length,p.2)) (parts.map fun (i,x)=>(i,a.eval x)).toList _ _ es.flatten rk (by simp) (by
      intro j off size x i v aE bk
      simp only [Array.toList_map,List.getElem?_map,Option.map_eq_some_iff,List.map_map] at bk aE
      obtain ⟨⟨eO,cR⟩,ak,bk⟩:=bk
      obtain ⟨⟨pE,ef⟩,Cq,aE⟩:=aE
      rw [ak] at Cq
      simp only [Option.some.injEq,Prod.mk.injEq] at Cq bk
      obtain ⟨rfl,rfl⟩:=Cq
      obtain ⟨rfl,rfl⟩:=bk
      simp only [Function.comp,Prod.mk.injEq] at aE
      obtain ⟨rfl,rfl,rfl⟩:=aE
      exact ⟨by rw [← kd,← zk],h.eval cR⟩) f1
     have jb:(Instr.buildSlice t len (parts.map fun (i,x)=>(i,a.eval x))).run P w = .ok (.slice (some ⟨w.heap.size,0,none⟩) len len) (w.alloc (.cells m9 e)):=by
      have h1 : ¬len*it.size>2 ^ 24:=by rw [← kd,← zk];omega
      by_cases h0:len*it.size=0
      ·have nF:len=0:=by
        rcases Nat.eq_zero_or_pos len with cP|cP
        ·exact cP
        ·have:0<len*it.size:=Nat.mul_pos cP (by omega)
         omega
       subst nF
       have e0:((Array.range (0*it.size)).map (eN.cells[· % eN.cells.size]!)) = #[]:=by simp
       rw [e0] at g1
       have ak:parts = #[]:=by
        obtain ⟨l⟩:=parts
        match l,hH with
        | [],_=>rfl
        | p::l,hH=>simp [y4] at hH
       subst ak
       have aex:m9 = #[]:=by simpa [Instr.fill] using g1.symm
       subst aex
       simp [Instr.buildSlice,run_underlying (rQ he),sizeOf,typeInfo,Cw,newRow,Instr.fill]
       rw [Array.range_zero',Array.map_empty]
      ·simp only [Instr.buildSlice,run_underlying (rQ he),sizeOf,typeInfo,Cw,newRow,zeroValue,lg,Sem.run_bind,Result.andThen_ok,run_program,Sem.run_pure,Sem.run_ite,h1,h0,if_false]
       rw [g1];rfl
     refine ET (v:= .slice (some ⟨w.heap.size,0,none⟩) len len) (an:=⟨z.length,es,.live⟩) (c:=m9) (eQ:=e) h e7 rfl ?_ rfl f2 ?_ ?_
     ·simp [execOp,aq,jb]
     ·intro j x U
      have aE:j<m9.size:=by
       rw [g2.1]
       rcases Nat.lt_or_ge j es.flatten.length with cP|cP
       ·exact cP
       ·rw [List.getElem?_eq_none cP] at U;simp at U
      have hu:m9[j]? = some m9[j]:=Array.getElem?_eq_getElem aE
      exact ⟨_,hu,g2.2.1 _ _ hu,g2.2.2 _ _ _ U hu⟩
     ·intro bT k3 m6 mq hu cj
      refine Rel.bh hu cj (Nat.le_refl _) ?_ ⟨?_,.inr (by simp)⟩
      ·have:len≤len*z.length:=Nat.le_mul_of_pos_right _ (by omega)
       omega
      ·rw [g2.1]
       have bb : ∀(es:List (List aF)),(∀e∈es,e.length=z.length)→es.flatten.length=es.length*z.length:=by
        intro es
        induction es with
        | nil=>simp
        | cons e es ih =>
         intro h
         rw [List.flatten_cons,List.length_append,ih fun x U=>h x (by simp [U]),h e (by simp),List.length_cons,Nat.add_mul];omega
       rw [bb es f2,f3];simp
    ·simp at ay
  ·simp at ay
 ·simp at ay
theorem Ez (h:cW g s aB a w)(e7:s.a0 aW=none)(ay:e5 P s.E s.a0 aW I cY=some bH)(cH:∀p∈bH.fH,p):Fin P g s a w I bH:=by
 cases aq:I.op with
 | move x=>exact Rw h (.inl aq) ay
 | assign x=>exact Rw h (.inr aq) ay
 | pick c x y=>exact ac2 h aq ay cH
 | alloc t=>exact ab3 h e7 aq ay
 | box t x=>exact adB h e7 aq ay
 | load t x=>exact ac3 h aq ay cH
 | store t x y=>exact ab4 h aq ay cH
 | nilCheck x=>exact aag h aq ay cH
 | binOp op t x y dw=>exact ab5 h aq ay cH
 | unOp op t x=>exact ac4 h aq ay
 | convert t dw x=>exact aaF h aq ay
 | makeFunc f Dd cv=>exact aah h aq ay
 | makeSlice t x y=>exact ZV h e7 aq ay cH
 | fieldAddr t x f=>exact ZW h aq ay cH
 | field t x f=>exact ab9 h aq ay
 | indexAddr t x y=>exact ZX h aq ay cH
 | index t x y=>exact ab7 h aq ay cH
 | extract x i=>exact aaG h aq ay
 | slice t x b3 ah NI =>
  cases NI with
  | none=>exact ab8 h aq ay cH
  | some m=>simp [e5,aq] at ay
 | build t j2=>exact acb h aq ay
 | buildSlice t n j2=>exact ZD h e7 aq ay
 | call c =>
  obtain ⟨FA,args,m8⟩:=c
  cases FA with
  | builtin b=>cases b<;>first|exact adC h aq rfl ay cH|simp [e5,aq] at ay
  | value f=>simp [e5,aq] at ay
  | invoke r m=>simp [e5,aq] at ay
 | _=>simp [e5,aq] at ay
end
end Go.VL
namespace Go.VL
set_option linter.unusedVariables false
set_option linter.unusedSimpArgs false
open Go
def adD:Option ae→fL
 | some I=> .gv I []
 | none=> .none
def q7 (sz:Nat)(a0:Nat→Option (List ae))(a:fL):aF→Option (List (List aF)×List Prop)
 | .isl FB es=>if FB=sz then some (es,[]) else none
 | .bh r k b3 len=>match o6 (a0 r) k a with
  | some (an,b9)=>if an.sz=sz then some ((an.es.drop b3).take len,b9++[b3+len≤an.es.length]) else none
  | none=>none
 | .ek=>some ([],[])
 | .iF=>some ([],[])
 | _=>none
def vu (P:Program)(sz:Nat)(z:List aF)(a0:Nat→Option (List ae))(a:fL)(t dw:TypeId)(y:aF):Option (List (List aF)×List Prop) :=
 if t=dw then q7 sz a0 a y else
 match P.underlying dw,y with
 | some (.int _),.n .i64 n=>some (List.replicate n.toNat z,[0≤n,n<9223372036854775808])
 | _,_=>none
def nZ (P:Program)(E:Nat→aF)(a0:Nat→Option (List ae))(aW:Nat)(b:Builtin)(args:List aF)(m8:List TypeId)(cY:fL):Option ir :=
 match b,args,m8,cY with
 | .append,[x,y],[t,dw],.aI m I =>
  match pQ P t with
  | none=>none
  | some e=>match P.info? e,qS P e with
   | some i,some z =>
    if z.length≠i.size∨i.size=0∨i.bytes=0 then none else
    match vu P i.size z a0 (adD I) t dw y with
    | none=>none
    | some (bG,b9)=>match x with
     | .ek=>some {val:= .bh aW 0 0 m,fU:=[(aW,[⟨i.size,bG,.live⟩])],fH:=b9++[m=bG.length,m*i.bytes≤140737488355328]}
     | .bh r k 0 len=>match a0 r with
      | none=>none
      | some row=>match dx (some row) k with
       | none=>none
       | some an=>if an.cz = .live∧an.sz=i.size∧aW≠r then
        some {val:= .bh aW 0 0 m,fU:=[(aW,[⟨i.size,an.es.take len++bG,.live⟩]),(r,row.set k {an with cz:= .gone})],fH:=b9++[len≤an.es.length,m=len+bG.length,m*i.bytes≤140737488355328]} else none
     | _=>none
   | _,_=>none
 | .append,[x,y],[t,dw],.fZ =>
  match pQ P t with
  | none=>none
  | some e=>match P.info? e,qS P e with
   | some i,some z =>
    if z.length≠i.size∨i.size=0∨i.bytes=0 then none else
    match vu P i.size z a0 .none t dw y with
    | none=>none
    | some (bG,b9)=>match x with
     | .bh r k 0 len=>match a0 r with
      | none=>none
      | some row=>match dx (some row) k with
       | none=>none
       | some an=>if an.cz = .live∧an.sz=i.size then
        some {val:= .bh r k 0 (len+bG.length),fU:=[(r,row.set k {an with es:=an.es.take len++bG})],fH:=b9++[len+bG.length≤an.es.length,bG.length*i.bytes≤140737488355328]} else none
     | _=>none
   | _,_=>none
 | .copy,[.bh r k 0 len,y],[t,_],_ =>
  match pQ P t with
  | none=>none
  | some e=>match P.info? e with
   | none=>none
   | some i=>match q7 i.size a0 .none y with
    | none=>none
    | some (bG,b9)=>match a0 r with
     | none=>none
     | some row=>match dx (some row) k with
      | none=>none
      | some an=>if an.cz = .live∧an.sz=i.size∧i.size≠0 then
       some {val:= .n .i64 bG.length,fU:=[(r,row.set k {an with es:=bG++an.es.drop bG.length})],fH:=b9++[bG.length≤len,len≤an.es.length]} else none
 | .clear,[.bh r k 0 len],[t],_ =>
  match pQ P t with
  | none=>none
  | some e=>match P.info? e,qS P e with
   | some i,some z=>match a0 r with
    | none=>none
    | some row=>match dx (some row) k with
     | none=>none
     | some an=>if an.cz = .live∧an.sz=i.size∧z.length=i.size∧i.size≠0 then
      some {val:= .ee [],fU:=[(r,row.set k {an with es:=List.replicate len z})],fH:=[an.es.length=len]} else none
   | _,_=>none
 | .min,[.n k x,.n dD y],_,_=>if k=dD then some {val:= .n k (if y<x then y else x)} else none
 | _,_,_,_=>none
section
variable {g:G} {s:S} {aB:fy} {a:Act} {w bT:World}
theorem cW.gone (h:cW g s aB a w){r k:Nat}{l:List ae}{I:ae}(ap:s.a0 r=some l)(aq:s.an r k=some I):
 cW g (s.setRow r (l.set k {I with cz:= .gone})) aB a w ∧
  ∀x v,Rel w (s.ok g aB w) s.a9 (s.bm aB) x v→Rel w ((s.setRow r (l.set k {I with cz:= .gone})).ok g aB w) (s.setRow r (l.set k {I with cz:= .gone})).a9 ((s.setRow r (l.set k {I with cz:= .gone})).bm aB) x v:=by
 have bt : ∀q j p,(s.setRow r (l.set k {I with cz:= .gone})).an q j=some p→s.an q j=some p∧ ¬(q=r∧j=k):=by
  intro q j p ak
  rw [lJ] at ak
  by_cases e:q=r
  ·subst e
   rw [if_pos rfl] at ak
   unfold dx at ak
   simp only [List.getElem?_set] at ak
   by_cases aD:k=j
   ·subst aD
    by_cases ba:k<l.length
    ·simp [ba] at ak
    ·simp [ba] at ak
   ·rw [if_neg aD] at ak
    refine ⟨?_,fun fY=>aD fY.2.symm⟩
    unfold S.an;rw [ap];exact ak
  ·rw [if_neg e] at ak
   exact ⟨ak,fun fY=>e fY.1⟩
 have di:Step g s aB w (s.setRow r (l.set k {I with cz:= .gone})) aB w:=by
  refine ⟨El s ap (by simp),fun q j bb=> ?_,fun b aU=> ?_,fun _ _ _=>rfl,Nat.le_refl _⟩
  ·cases ak:(s.setRow r (l.set k {I with cz:= .gone})).an q j with
   | none=>right;simp [S.bm,ak]
   | some p=>left;simp [S.bm,ak,(bt q j p ak).1]
  ·obtain ⟨q,j,p,m,h1,o,af⟩:=aU
   exact .inl ⟨q,j,p,m,(bt q j p h1).1,o,af⟩
 refine ⟨{toiq:=⟨?_,?_,?_,h.gL,h.mlt,h.nA,di.stay h.stay,h.low⟩,env:=fun t=>di.rel (h.env t),defers:=h.defers,jY:=h.jY},fun x v=>di.rel⟩
 ·intro q j p ak
  exact di.obj (fun b m _=>rfl) (h.obj q j p (bt q j p ak).1)
 ·intro q j p hR h5 ku b m bE h1 o af av
  exact h.inj q j p hR h5 ku b m bE (bt q j p h1).1 (bt hR h5 ku o).1 af av
 ·intro q j p b m h1 o
  exact h.own q j p b m (bt q j p h1).1 o
theorem cW.Rz (h:cW g s aB a w){aW sz:Nat}(e7:s.a0 aW=none):
 ∃bQ,bQ aW 0=none∧cW g (s.setRow aW [⟨sz,[],.live⟩]) bQ a w:=by
 have bt : ∀q k,q≠aW→(s.setRow aW [⟨sz,[],.live⟩]).an q k=s.an q k:=fun q k bb=>by rw [lJ,if_neg bb]
 let bQ:fy:=fun q k=>if q=aW then none else aB q k
 have c8 : ∀q k,s.a9 q k→q≠aW:=by
  rintro q k bb rfl;exact yi e7 k bb
 have Ms : ∀k I,(s.setRow aW [⟨sz,[],.live⟩]).an aW k=some I→I=⟨sz,[],.live⟩:=by
  intro k I aq
  rw [lJ,if_pos rfl,mg] at aq
  split at aq
  ·simp at aq;exact aq.symm
  ·simp at aq
 have di:Step g s aB w (s.setRow aW [⟨sz,[],.live⟩]) bQ w:=by
  refine ⟨fun q k bb=>(nq _ _ _ _ _).2 (by rw [if_neg (c8 q k bb)];exact bb),fun q k bb=> .inl ?_,fun b aU=> ?_,fun _ _ _=>rfl,Nat.le_refl _⟩
  ·simp [S.bm,bt q k (c8 q k bb),bQ,c8 q k bb]
  ·obtain ⟨q,k,I,m,h1,o,af⟩:=aU
   by_cases e:q=aW
   ·subst e;simp [bQ] at af
   ·rw [bt q k e] at h1
    simp only [bQ,if_neg e] at af
    exact .inl ⟨q,k,I,m,h1,o,af⟩
 refine ⟨bQ,by simp [bQ],{toiq:=⟨?_,?_,?_,h.gL,h.mlt,h.nA,di.stay h.stay,h.low⟩,env:=fun t=>di.rel (h.env t),defers:=h.defers,jY:=h.jY}⟩
 ·intro q k I aq
  by_cases e:q=aW
  ·subst e
   rw [Ms k I aq]
   simp [bQ,jC]
  ·rw [bt q k e] at aq
   have:=di.obj (fun b m _=>rfl) (h.obj q k I aq)
   simpa [bQ,e] using this
 ·intro q k I hR dD cc b m bE h1 o af av
  have e:q≠aW:=by rintro rfl;simp [bQ] at af
  have ey:hR≠aW:=by rintro rfl;simp [bQ] at av
  rw [bt q k e] at h1
  rw [bt hR dD ey] at o
  simp only [bQ,if_neg e] at af
  simp only [bQ,if_neg ey] at av
  exact h.inj q k I hR dD cc b m bE h1 o af av
 ·intro q k I b m h1 o
  have e:q≠aW:=by rintro rfl;simp [bQ] at o
  rw [bt q k e] at h1
  simp only [bQ,if_neg e] at o
  exact h.own q k I b m h1 o
theorem cW.turn (h:cW g s aB a w){r k b m aW:Nat}{l:List ae}{I:ae}(ap:s.a0 r=some l)(aq:s.an r k=some I)(ba:I.cz = .live)(ak:aB r k=some (b,m))
 (e7:s.a0 aW=none) (cc:ae) (nb:cc.cz = .live) (c:Array Value) (eQ:TypeId)
 (hw:bT.heap[b]? = some (.cells c eQ (0,0))) (fc:bT.heap.size=w.heap.size) (vt : ∀q,q≠b→bT.heap[q]? = w.heap[q]?)
 (qD:bT.os=w.os) (MM:bT.tape=w.tape) (Mp:bT.output=w.output) (hm:c.size=m) (hlen : ∀e∈cc.es,e.length=cc.sz)
 (bj : ∀(j:Nat) x,cc.es.flatten[j]? = some x→ ∃v,c[j]? = some v∧km v=true∧Rel w (s.ok g aB w) s.a9 (s.bm aB) x v) :
 ∃bQ,bQ aW 0=some (b,m)∧cW g ((s.setRow aW [cc]).setRow r (l.set k {I with cz:= .gone})) bQ a bT:=by
 have c8:r≠aW:=by rintro rfl;rw [e7] at ap;simp at ap
 have SU : ∀k,¬s.a9 aW k:=yi e7
 let bW:=(s.setRow aW [cc]).setRow r (l.set k {I with cz:= .gone})
 let bQ:fy:=aB.set aW 0 (some (b,m))
 have bt : ∀q j p,bW.an q j=some p→(q=aW∧j=0∧p=cc)∨(q≠aW∧s.an q j=some p∧ ¬(q=r∧j=k)):=by
  intro q j p bb
  rw [lJ] at bb
  by_cases e:q=r
  ·subst e
   rw [if_pos rfl] at bb
   unfold dx at bb
   simp only [List.getElem?_set] at bb
   by_cases aD:k=j
   ·subst aD
    by_cases ba:k<l.length<;>simp [ba] at bb
   ·rw [if_neg aD] at bb
    refine .inr ⟨c8,?_,fun fY=>aD fY.2.symm⟩
    unfold S.an;rw [ap];exact bb
  ·rw [if_neg e,lJ] at bb
   by_cases aD:q=aW
   ·subst aD
    rw [if_pos rfl,mg] at bb
    split at bb
    ·rename_i h0;simp at bb;exact .inl ⟨rfl,h0.1,bb.symm⟩
    ·simp at bb
   ·rw [if_neg aD] at bb
    exact .inr ⟨aD,bb,fun fY=>e fY.1⟩
 have lR : ∀q j,q≠aW→bQ q j=aB q j:=fun q j bb=>by simp [bQ,fy.set,bb]
 have zm:bQ aW 0=some (b,m):=by simp [bQ,fy.set]
 have pP:s.l1 aB b:=⟨r,k,I,m,aq,ba,ak⟩
 have jG : ∀q j,s.a9 q j→bW.a9 q j:=fun q j bb=>by
  have e:q≠aW:=fun e=>SU j (e▸bb)
  rw [nq,nq,if_neg e]
  by_cases aD:q=r
  ·subst aD;rw [if_pos rfl];simpa [S.a9,ap] using bb
  ·rw [if_neg aD];exact bb
 have di:Step g s aB w bW bQ bT:=by
  refine ⟨jG,fun q j bb=> ?_,fun q aU=> ?_,fun q bb aU=>vt q fun e=>aU (e▸pP),Nat.le_of_eq fc.symm⟩
  ·have nD:q≠aW:=fun e=>SU j (e▸bb)
   cases kE:bW.an q j with
   | none=>right;simp [S.bm,kE]
   | some p =>
    left
    rcases bt q j p kE with ⟨e,-⟩|⟨-,aD,-⟩
    ·exact absurd e nD
    ·simp [S.bm,kE,aD,lR q j nD]
  ·obtain ⟨hR,j,p,bE,h1,o,af⟩:=aU
   rcases bt hR j p h1 with ⟨rfl,rfl,rfl⟩|⟨e1,aD,-⟩
   ·rw [zm] at af;simp at af;exact .inl (af.1▸pP)
   ·rw [lR hR j e1] at af;exact .inl ⟨hR,j,p,bE,aD,o,af⟩
 refine ⟨bQ,zm,{toiq:=⟨?_,?_,?_,?_,h.mlt,h.nA,di.stay h.stay,h.low⟩,env:=fun t=>di.rel (h.env t),defers:=h.defers,jY:=h.jY}⟩
 ·intro q j p kE
  rcases bt q j p kE with ⟨rfl,rfl,rfl⟩|⟨e1,aD,bP⟩
  ·rw [zm]
   exact ⟨c,eQ,hw,hm,hlen,fun i x U=>let ⟨v,f1,f2,f3⟩:=bj i x U;⟨v,f1,f2,di.rel f3⟩⟩
  ·rw [lR q j e1]
   refine di.obj (fun kv bE lf=>vt kv ?_) (h.obj q j p aD)
   rintro rfl
   exact bP (h.inj q j p r k I kv bE m aD aq lf ak)
 ·intro q j p hR h5 ku kv ix hx h1 o af av
  rcases bt q j p h1 with ⟨rfl,rfl,rfl⟩|⟨e1,aD,bP⟩<;>rcases bt hR h5 ku o with ⟨rfl,rfl,rfl⟩|⟨nc,pz,Cx⟩
  ·exact ⟨rfl,rfl⟩
  ·rw [zm] at af;simp at af
   rw [lR hR h5 nc] at av
   obtain ⟨rfl,rfl⟩:=af
   exact absurd (h.inj hR h5 ku r k I b hx m pz aq av ak) Cx
  ·rw [zm] at av;simp at av
   rw [lR q j e1] at af
   obtain ⟨rfl,rfl⟩:=av
   exact absurd (h.inj q j p r k I b ix m aD aq af ak) bP
  ·rw [lR q j e1] at af;rw [lR hR h5 nc] at av
   exact h.inj q j p hR h5 ku kv ix hx aD pz af av
 ·intro q j p kv bE h1 o
  rcases bt q j p h1 with ⟨rfl,rfl,rfl⟩|⟨e1,aD,-⟩
  ·rw [zm] at o;simp at o
   rw [← o.1]
   exact h.own r k I b m aq ak
  ·rw [lR q j e1] at o;exact h.own q j p kv bE aD o
 ·refine h.gL.step qD MM Mp (Nat.le_of_eq fc.symm) fun kv py lf=>vt kv ?_
  rintro rfl
  rcases h.own r k I kv m aq ak with h1|h1
  ·omega
  ·exact lf h1
theorem oG.nX {ok:Nat→Prop}{a9:js}{bm:jh}{eg I sz:Nat}{es:List (List aF)}(h:oG w ok a9 bm eg I sz es):
 ∃vs:List Value,vs.length=es.length*sz∧(∀(j:Nat) u,vs[j]? = some u→w.cell? ((⟨eg,I,none⟩:Addr).add j)=some u)∧(∀u∈vs,u.oneCell'=true) ∧
  ∀(j:Nat) x u,es.flatten[j]? = some x→vs[j]? = some u→Rel w ok a9 bm x u:=by
 have jZ:es.flatten.length=es.length*sz:=by
  have : ∀(es:List (List aF)),(∀e∈es,e.length=sz)→es.flatten.length=es.length*sz:=by
   intro es
   induction es with
   | nil=>intro _;simp
   | cons e es ih =>
    intro fY
    rw [List.flatten_cons,List.length_append,ih fun x U=>fY x (by simp [U]),fY e (by simp),List.length_cons,Nat.add_mul];omega
  exact this es h.1
 have U : ∀i,i<es.length*sz→ ∃v,∀x,es.flatten[i]? = some x→w.cell? ⟨eg,I+i,none⟩=some v∧km v=true∧Rel w ok a9 bm x v:=by
  intro i ah
  have aE:=List.getElem?_eq_getElem (l:=es.flatten) (i:=i) (by omega)
  obtain ⟨v,h1⟩:=h.2 i _ aE
  exact ⟨v,fun x U=>by rw [aE] at U;simp at U;subst U;exact h1⟩
 let vs:List Value:=(List.range (es.length*sz)).map fun i=>if ah:i<es.length*sz then (U i ah).choose else undef
 have pV:vs.length=es.length*sz:=by simp [vs]
 have l8 : ∀(i:Nat) u x,vs[i]? = some u→es.flatten[i]? = some x→w.cell? ⟨eg,I+i,none⟩=some u∧km u=true∧Rel w ok a9 bm x u:=by
  intro i u x hu Cy
  have ah:i<es.length*sz:=by
   rcases Nat.lt_or_ge i vs.length with cP|cP
   ·omega
   ·rw [List.getElem?_eq_none cP] at hu;simp at hu
  simp only [vs,List.getElem?_map,List.getElem?_range ah,Option.map_some,dif_pos ah,Option.some.injEq] at hu
  subst hu
  exact (U i ah).choose_spec x Cy
 have hex : ∀(i:Nat) u,vs[i]? = some u→ ∃x,es.flatten[i]? = some x:=by
  intro i u hu
  have ah:i<es.flatten.length:=by
   rcases Nat.lt_or_ge i vs.length with cP|cP
   ·omega
   ·rw [List.getElem?_eq_none cP] at hu;simp at hu
  exact ⟨_,List.getElem?_eq_getElem ah⟩
 refine ⟨vs,pV,fun j u hu=> ?_,fun u hu=> ?_,fun j x u dV hu=>(l8 j u x hu dV).2.2⟩
 ·obtain ⟨x,Cy⟩:=hex j u hu
  rw [rP];exact (l8 j u x hu Cy).1
 ·obtain ⟨j,aE⟩:=List.getElem?_of_mem hu
  obtain ⟨x,Cy⟩:=hex j u aE
  exact (l8 j u x aE Cy).2.1
theorem Zl {es bG:List (List aF)}{sz:Nat}{xs news:List Value}(U:xs.length=es.length*sz)(he:∀e∈es,e.length=sz){j:Nat}{x:aF}(h:(es++bG).flatten[j]? = some x)
 {ok:Nat→Prop} {a9:js} {bm:jh} (h1 : ∀(j:Nat) x u,es.flatten[j]? = some x→xs[j]? = some u→Rel w ok a9 bm x u) (o : ∀(j:Nat) x u,bG.flatten[j]? = some x→news[j]? = some u→Rel w ok a9 bm x u)
 {u:Value} (hu:(xs++news)[j]? = some u):Rel w ok a9 bm x u:=by
 have jZ:es.flatten.length=es.length*sz:=by
  have : ∀(es:List (List aF)),(∀e∈es,e.length=sz)→es.flatten.length=es.length*sz:=by
   intro es
   induction es with
   | nil=>intro _;simp
   | cons e es ih =>
    intro fY
    rw [List.flatten_cons,List.length_append,ih fun x U=>fY x (by simp [U]),fY e (by simp),List.length_cons,Nat.add_mul];omega
  exact this es he
 rw [List.flatten_append,List.getElem?_append] at h
 rw [List.getElem?_append] at hu
 by_cases aE:j<es.flatten.length
 ·rw [if_pos aE] at h
  rw [if_pos (by omega)] at hu
  exact h1 j x u h hu
 ·rw [if_neg aE] at h
  rw [if_neg (by omega)] at hu
  rw [jZ] at h
  rw [U] at hu
  exact o _ x u h hu
variable {P:Program}
theorem QY (h:cW g s aB a w){sz:Nat}{x:aF}{fD:fL}{bG:List (List aF)}{an:List Prop}(he:q7 sz s.a0 fD x=some (bG,an))(bt:∀p∈an,p){v:Value}(bk:Rel w (s.ok g aB w) s.a9 (s.bm aB) x v):
 ∃A c,v = .slice A bG.length c∧(∀e∈bG,e.length=sz)∧(bG.length=0∨ ∃eg off,A=some ⟨eg,off,none⟩∧oG w (s.ok g aB w) s.a9 (s.bm aB) eg off sz bG):=by
 cases x with
 | isl FB es =>
  simp only [q7] at he
  split at he
  ·rename_i b6
   subst b6
   simp only [Option.some.injEq,Prod.mk.injEq] at he
   obtain ⟨rfl,rfl⟩:=he
   rcases bk.sw with ⟨rfl,A,c,rfl,-⟩|⟨eg,off,c,-,rfl,-,iG⟩
   ·exact ⟨A,c,rfl,by simp,.inl rfl⟩
   ·exact ⟨_,c,rfl,iG.1,.inr ⟨eg,off,rfl,iG⟩⟩
  ·simp at he
 | bh r k b3 len =>
  simp only [q7] at he
  split at he
  ·rename_i nG b9 ko
   split at he
   ·rename_i b6
    simp only [Option.some.injEq,Prod.mk.injEq] at he
    obtain ⟨rfl,rfl⟩:=he
    have iD:b3+len≤nG.es.length:=bt _ (by simp)
    have aq:s.an r k=some nG:=tC ko (fun p ak=>bt p (by simp [ak]))
    have fG:=h.obj r k nG aq
    have aU:((nG.es.drop b3).take len).length=len:=by simp;omega
    rcases bk.Bp (iN aq) with ⟨-,rfl,rfl,rfl⟩|⟨b,m,A,c,ak,rfl,rj,-,hm⟩
    ·exact ⟨none,0,by simp,by simp,.inl (by simp)⟩
    ·rw [ak] at fG
     have iG:=fG.rd
     subst b6
     have vI:=Em iG b3 len (by omega)
     refine ⟨A,c,by rw [aU],vI.1,?_⟩
     rcases hm with rfl|⟨rfl,-⟩
     ·left;rw [aU];omega
     ·right
      rw [Nat.zero_add] at vI
      exact ⟨b,_,rfl,vI⟩
   ·simp at he
  ·simp at he
 | ek =>
  simp only [q7,Option.some.injEq,Prod.mk.injEq] at he
  obtain ⟨rfl,rfl⟩:=he
  rw [bk.pJ]
  exact ⟨none,0,rfl,by simp,.inl rfl⟩
 | iF =>
  simp only [q7,Option.some.injEq,Prod.mk.injEq] at he
  obtain ⟨rfl,rfl⟩:=he
  obtain ⟨A,c,rfl⟩:=bk.ES
  exact ⟨some A,c,rfl,by simp,.inl rfl⟩
 | _=>simp [q7] at he
structure Mt (P:Program) (w:World) (t dw eQ e:TypeId) (i:TypeInfo) (eN nL:Value) (n:Nat) (vs:List Value):Prop where
 zero:n=0→ ∀(B:Option Addr) (len cap:Nat),len≤cap→(Builtin.append_ #[t,dw] eQ #[.slice B len cap,nL]).run P w = .ok (.slice B len cap) w
 nil:0<n→(n:Int)≤9223372036854775807→n*i.bytes≤140737488355328 →
  (Builtin.append_ #[t,dw] eQ #[.slice none 0 0,nL]).run P w = .ok (.slice (some ⟨w.heap.size,0,none⟩) n (grownCap w n 0 e)) (w.drew.alloc (.cells (vs.toArray++Builtin.zeroCells eN.cells (grownCap w n 0 e-n)) e))
 room:0<n→ ∀(g i4 l4:Nat) (lO:Array Value) (ey:TypeId),w.heap[g]? = some (.cells lO ey (0,0))→i4+n≤l4→i4*i.size+vs.length≤lO.size→n*i.bytes≤140737488355328 →
  (Builtin.append_ #[t,dw] eQ #[.slice (some ⟨g,0,none⟩) i4 l4,nL]).run P w = .ok (.slice (some ⟨g,0,none⟩) (i4+n) l4) (w.setRow g (lO.toList.take (i4*i.size)++vs++lO.toList.drop (i4*i.size+vs.length)).toArray)
 grow:0<n→ ∀(b:Addr) (i4 l4:Nat) (vJ:List Value),vJ.length=i4*i.size→(∀(j:Nat) v,vJ[j]? = some v→w.cell? (b.add j)=some v)→l4<i4+n→((i4+n:Nat):Int)≤9223372036854775807→Builtin.nextslicecap (i4+n) l4*i.bytes≤281474976710656→n*i.bytes≤140737488355328 →
  (Builtin.append_ #[t,dw] eQ #[.slice (some b) i4 l4,nL]).run P w = .ok (.slice (some ⟨w.heap.size,0,none⟩) (i4+n) (grownCap w (i4+n) l4 e))
    (w.drew.alloc (.cells (vJ.toArray++vs.toArray++Builtin.zeroCells eN.cells (grownCap w (i4+n) l4 e-(i4+n))) e))
theorem Yv (t eQ e:TypeId)(i:TypeInfo)(cj:P.underlying t=some (.slice e))(ah:P.info? e=some i)
 (g i4 l4:Nat) (lO:Array Value) (ey:TypeId) (dF:w.heap[g]? = some (.cells lO ey (0,0)))
 (a:Addr) (m c:Nat) (news:List Value) (aU:news.length=m*i.size) (ad6 : ∀j u,news[j]? = some u→w.cell? (a.add j)=some u) (h1 : ∀u∈news,u.oneCell'=true)
 (sF:i4+m≤l4) (iD:i4*i.size+news.length≤lO.size) :
 (Builtin.append_ #[t,t] eQ #[.slice (some ⟨g,0,none⟩) i4 l4,.slice (some a) m c]).run P w =
   .ok (.slice (some ⟨g,0,none⟩) (i4+m) l4) (w.setRow g (lO.toList.take (i4*i.size)++news++lO.toList.drop (i4*i.size+news.length)).toArray):=by
 have ch:=run_firstCells_some (P:=P) w i.size m a m c news aU ad6
 have mr:=run_storeCells_at P g (i4*i.size) ey news 0 lO w dF (by simpa using iD) h1
 simp only [Nat.add_zero] at mr
 simp [Builtin.append_,run_underlying cj,sizeOf,typeInfo,ah,Builtin.lenOf,sF,ch,Addr.add_lit,mr]
theorem P7 {t eQ e:TypeId}{i:TypeInfo}{eN:Value}(cj:P.underlying t=some (.slice e))(ah:P.info? e=some i)(cF:i.zero=some eN){A:Option Addr}{n c:Nat}{vs:List Value}(aU:vs.length=n*i.size)
 (hA:n=0∨ ∃a,A=some a∧ ∀(j:Nat) u,vs[j]? = some u→w.cell? (a.add j)=some u) (h1 : ∀u∈vs,u.oneCell'=true):Mt P w t t eQ e i eN (.slice A n c) n vs where
 zero:=fun h0 B len cap B4=>by
  subst h0
  cases A<;>cases B<;>simp [Builtin.append_,run_underlying cj,sizeOf,typeInfo,ah,Builtin.lenOf,B4,Builtin.firstCells,loadCells,loadCellsFrom,storeCells]
 nil:=fun h0 vO zn=>by
  obtain ⟨a,rfl,bJ⟩:=hA.resolve_left (by omega)
  exact run_append_nil (P:=P) w t eQ e i eN cj ah cF a n c vs aU bJ h0 vO (by omega)
 room:=fun a5 g i4 l4 lO ey dF sF iD _=>by
  obtain ⟨a,rfl,bJ⟩:=hA.resolve_left (by omega)
  exact Yv t eQ e i cj ah g i4 l4 lO ey dF a n c vs aU bJ h1 sF iD
 grow:=fun a5 b i4 l4 vJ aq hold dF vO iD _=>by
  obtain ⟨a,rfl,bJ⟩:=hA.resolve_left (by omega)
  exact run_append_grow (P:=P) w t eQ e i eN cj ah cF b i4 l4 vJ aq hold a n c vs aU bJ dF vO iD
theorem aaJ {t dw eQ e:TypeId}{i:TypeInfo}{eN:Value}{k:IntKind}(cj:P.underlying t=some (.slice e))(nY:P.underlying dw=some (.int k))(ah:P.info? e=some i)(cF:i.zero=some eN)(lP:eN.cells.size=i.size){m:Nat}(ahL:(m:Int)<9223372036854775808)
 (h1 : ∀u∈(Builtin.zeroCells eN.cells m).toList,u.oneCell'=true):Mt P w t dw eQ e i eN (.int .i64 m) m (Builtin.zeroCells eN.cells m).toList:=by
 have hw:IntKind.i64.wrap (m:Int)=m:=by simp [IntKind.wrap,IntKind.bits,IntKind.signed];omega
 have ny : ¬((m:Int)<0):=by omega
 have rk : ∀bE,bE*i.size=0→Builtin.zeroCells eN.cells bE = #[]:=fun bE hm=>by
  apply Array.eq_empty_of_size_eq_zero
  rw [size_zeroCells,lP,hm]
 have FC : ∀bT:World,(if m*i.size=0 then (pure #[]:Sem (Array Value)) else do pure (Builtin.zeroCells (← zeroValue e).cells m)).run P bT = .ok (Builtin.zeroCells eN.cells m) bT:=fun bT=>by
  split
  ·rename_i hm;rw [rk _ hm];rfl
  ·simp [zeroValue,typeInfo,ah,cF]
 have Mu : ∀b:Nat,m*b≤140737488355328→ ¬(281474976710656<(m:Int)*(b:Int)):=fun b aT=>by
  have:((m*b:Nat):Int)≤140737488355328:=by omega
  rw [Int.natCast_mul] at this
  omega
 refine ⟨fun a5 B len cap B4=> ?_,fun a5 vO zn=> ?_,fun a5 g i4 l4 lO ey dF sF iD zn=> ?_,fun a5 b i4 l4 vJ aq hold dF vO iD zn=> ?_⟩
 ·subst a5
  have MQ:IntKind.i64.wrap 0=0:=by simpa using hw
  cases B<;>simp [Builtin.append_,run_underlying cj,run_underlying nY,sizeOf,typeInfo,ah,B4,asInt,asIntOf,MQ,storeCells]
 ·have FD : ¬m=0:=by omega
  have B5 : ¬(9223372036854775807<(m:Int)):=by omega
  have tO:=Mu _ zn
  have B6 : ¬(281474976710656<Builtin.nextslicecap m 0*i.bytes):=by rw [nextslicecap_zero a5];omega
  have o:=FC w.drew
  by_cases hm:m*i.size=0
  ·simp [Builtin.append_,run_underlying cj,run_underlying nY,sizeOf,typeInfo,zeroValue,ah,cF,asInt,asIntOf,hw,ny,tO,FD,B5,B6,Question.forced,run_firstCells_none,newRow,grownCap,hm,rk _ hm]
  ·simp [Builtin.append_,run_underlying cj,run_underlying nY,sizeOf,typeInfo,zeroValue,ah,cF,asInt,asIntOf,hw,ny,tO,FD,B5,B6,Question.forced,run_firstCells_none,newRow,grownCap,hm]
 ·have tO:=Mu _ zn
  have mr:=run_storeCells_at P g (i4*i.size) ey (Builtin.zeroCells eN.cells m).toList 0 lO w dF (by simpa using iD) h1
  simp only [Nat.add_zero] at mr
  by_cases hm:m*i.size=0
  ·rw [rk _ hm] at mr
   have aey:(storeCells ⟨g,i4*i.size,none⟩ []).run P w = .ok () (w.setRow g lO):=by simpa using mr
   simp [Builtin.append_,run_underlying cj,run_underlying nY,sizeOf,typeInfo,zeroValue,ah,cF,asInt,asIntOf,hw,ny,tO,sF,hm,rk _ hm,Addr.add_lit,aey]
  ·simp [Builtin.append_,run_underlying cj,run_underlying nY,sizeOf,typeInfo,zeroValue,ah,cF,asInt,asIntOf,hw,ny,tO,sF,hm,Addr.add_lit,mr]
 ·have tO:=Mu _ zn
  have qE : ¬(i4+m≤l4):=by omega
  have B5 : ¬(9223372036854775807<((i4:Int)+(m:Int))):=by omega
  have B6 : ¬(281474976710656<Builtin.nextslicecap (i4+m) l4*i.bytes):=by omega
  have Tj:=run_firstCells_some (P:=P) w.drew i.size i4 b i4 l4 vJ aq (by simpa using hold)
  by_cases hm:m*i.size=0
  ·simp [Builtin.append_,run_underlying cj,run_underlying nY,sizeOf,typeInfo,zeroValue,ah,cF,asInt,asIntOf,hw,ny,tO,qE,B5,B6,Question.forced,Tj,newRow,grownCap,hm,rk _ hm]
  ·simp [Builtin.append_,run_underlying cj,run_underlying nY,sizeOf,typeInfo,zeroValue,ah,cF,asInt,asIntOf,hw,ny,tO,qE,B5,B6,Question.forced,Tj,newRow,grownCap,hm]
theorem Kv {aW:Nat}{e:TypeId}{v:Value}{i:TypeInfo}{m:Nat}(h:cW g s aB a w)(e7:s.a0 aW=none){es:List (List aF)}(hlen:∀x∈es,x.length=i.size)(hm:m=es.length)
 {nX:List Value} {td:Array Value} {cap:Nat} (pV:nX.length=es.length*i.size) (l3 : ∀u∈nX,u.oneCell'=true) (ae9:td.size=(cap-m)*i.size) (B4:m≤cap) (aez:cap<9223372036854775808)
 (fG : ∀(j:Nat) x u,es.flatten[j]? = some x→nX[j]? = some u→Rel w (s.ok g aB w) s.a9 (s.bm aB) x u)
 (bk:v = .slice (some ⟨w.heap.size,0,none⟩) m cap) :
 ∃bQ,cW g (s.setRow aW [⟨i.size,es,.live⟩]) bQ a (w.drew.alloc (.cells (nX.toArray++td) e)) ∧
  Rel (w.drew.alloc (.cells (nX.toArray++td) e)) ((s.setRow aW [⟨i.size,es,.live⟩]).ok g bQ (w.drew.alloc (.cells (nX.toArray++td) e))) (s.setRow aW [⟨i.size,es,.live⟩]).a9 ((s.setRow aW [⟨i.size,es,.live⟩]).bm bQ) (.bh aW 0 0 m) v:=by
 have bK:=h.drew
 have jZ:es.flatten.length=es.length*i.size:=by
  have : ∀(es:List (List aF)),(∀e∈es,e.length=i.size)→es.flatten.length=es.length*i.size:=by
   intro es
   induction es with
   | nil=>intro _;simp
   | cons e es ih =>
    intro fY
    rw [List.flatten_cons,List.length_append,ih fun x U=>fY x (by simp [U]),fY e (by simp),List.length_cons,Nat.add_mul];omega
  exact this es hlen
 obtain ⟨bQ,p1,hE,-⟩:=bK.alloc e7 ⟨i.size,es,.live⟩ rfl (nX.toArray++td) e hlen (fun j x U=>by
  have aE:j<nX.length:=by
   rcases Nat.lt_or_ge j es.flatten.length with cP|cP
   ·omega
   ·rw [List.getElem?_eq_none cP] at U;simp at U
  refine ⟨nX[j],?_,l3 _ (List.getElem_mem aE),?_⟩
  ·rw [Array.getElem?_append_left (by simpa using aE)]
   simp [aE]
  ·exact (fG j x _ U (List.getElem?_eq_getElem aE)).drew)
 refine ⟨bQ,hE,?_⟩
 subst bk
 have aq:(s.setRow aW [⟨i.size,es,.live⟩]).an aW 0=some ⟨i.size,es,.live⟩:=by rw [lJ,if_pos rfl,mg];simp
 refine Rel.bh (sz:=i.size) (eg:=w.heap.size) (m:=(nX.toArray++td).size) ((nq _ _ _ _ _).2 (by simp)) ?_ B4 aez ⟨?_,.inr (by simp)⟩
 ·rw [iN aq,p1];rfl
 ·simp only [Array.size_append,List.size_toArray,ae9,pV,Nat.zero_add]
  rw [← hm,← Nat.add_mul]
  congr 1;omega
section
variable {I:Oper} {cY:fL} {aW:Nat} {bH:ir}
theorem Qy (h:cW g s aB a w){t dw eQ e:TypeId}{i:TypeInfo}{z:List aF}(hu:P.underlying t=some (.slice e))(ah:P.info? e=some i)(cF:qS P e=some z)(nE:z.length=i.size)(kg:i.size≠0)
 {y:aF} {fD:fL} {bG:List (List aF)} {an:List Prop} (he:vu P i.size z s.a0 fD t dw y=some (bG,an)) (bt : ∀p∈an,p) {nL:Value} (aZ:Rel w (s.ok g aB w) s.a9 (s.bm aB) y nL) :
 ∃eN vs,i.zero=some eN∧eN.cells.size=i.size∧Mt P w t dw eQ e i eN nL bG.length vs∧(∀x∈bG,x.length=i.size)∧vs.length=bG.length*i.size∧(∀u∈vs,u.oneCell'=true) ∧
  ∀(j:Nat) x u,bG.flatten[j]? = some x→vs[j]? = some u→Rel w (s.ok g aB w) s.a9 (s.bm aB) x u:=by
 obtain ⟨eO,eN,jS,lg,qa,tX⟩:=A6 cF
 rw [ah] at jS;simp at jS;subst jS
 have lP:eN.cells.size=i.size:=by rw [← nE,qa];simp
 unfold vu at he
 split at he
 ·rename_i afa
  subst afa
  obtain ⟨A,c,rfl,hlen,MR⟩:=QY h he bt aZ
  rcases MR with h0|⟨eg,off,rfl,iG⟩
  ·have:bG=[]:=List.length_eq_zero_iff.1 h0
   subst this
   exact ⟨eN,[],lg,lP,P7 hu ah lg (by simp) (.inl rfl) (by simp),hlen,by simp,by simp,by simp⟩
  ·obtain ⟨vs,v1,v2,v3,v4⟩:=iG.nX
   exact ⟨eN,vs,lg,lP,P7 hu ah lg v1 (.inr ⟨_,rfl,v2⟩) v3,hlen,v1,v3,v4⟩
 ·split at he
  ·rename_i k n ba
   simp only [Option.some.injEq,Prod.mk.injEq] at he
   obtain ⟨rfl,rfl⟩:=he
   have h0:0≤n:=bt _ (by simp)
   have vO:n<9223372036854775808:=bt _ (by simp)
   obtain ⟨m,rfl⟩:=Int.eq_ofNat_of_zero_le h0
   have afb:nL = .int .i64 m:=by cases aZ;rfl
   subst afb
   have l8 : ∀(j:Nat) u,(Builtin.zeroCells eN.cells m).toList[j]? = some u→eN.cells[j % i.size]? = some u:=by
    intro j u n0
    have aE:=(List.getElem?_eq_some_iff.1 n0).1
    rw [Array.length_toList,size_zeroCells,lP] at aE
    have d3:j % i.size<eN.cells.size:=by rw [lP];exact Nat.mod_lt _ (by omega)
    rw [Array.getElem?_toList,Builtin.zeroCells,Array.getElem?_map,lP,Array.getElem?_range] at n0
    rw [if_pos aE] at n0
    simp only [Option.map_some,Option.some.injEq] at n0
    rw [← n0,Array.getElem?_eq_getElem d3,getElem!_pos eN.cells _ d3]
   refine ⟨eN,(Builtin.zeroCells eN.cells m).toList,lg,lP,?_,?_,?_,?_,?_⟩
   ·simp only [List.length_replicate,Int.toNat_natCast]
    refine aaJ hu ba ah lg lP (by omega) fun u rl=> ?_
    obtain ⟨j,aE⟩:=List.getElem?_of_mem rl
    have h1:=l8 j u aE
    have d3:j % i.size<z.length:=by rw [nE];exact Nat.mod_lt _ (by omega)
    obtain ⟨v,v1,v2,-⟩:=tX _ _ (List.getElem?_eq_getElem d3)
    rw [h1] at v1
    obtain rfl:=Option.some.inj v1
    exact v2
   ·intro x U
    rw [List.mem_replicate] at U
    rw [U.2,nE]
   ·rw [Array.length_toList,size_zeroCells,lP];simp
   ·intro u rl
    obtain ⟨j,aE⟩:=List.getElem?_of_mem rl
    have h1:=l8 j u aE
    have d3:j % i.size<z.length:=by rw [nE];exact Nat.mod_lt _ (by omega)
    obtain ⟨v,v1,v2,-⟩:=tX _ _ (List.getElem?_eq_getElem d3)
    rw [h1] at v1
    obtain rfl:=Option.some.inj v1
    exact v2
   ·intro j x u U n0
    rw [pq (sz:=i.size) (by omega) _ (fun ey l5=>by rw [List.mem_replicate] at l5;rw [l5.2,nE])] at U
    have h1:=l8 j u n0
    cases bb:(List.replicate (Int.toNat (m:Int)) z)[j / i.size]? with
    | none=>rw [bb] at U;simp at U
    | some ey =>
     have:=List.mem_of_getElem? bb
     rw [List.mem_replicate] at this
     rw [bb,this.2] at U
     simp only [Option.bind_some] at U
     obtain ⟨v,v1,-,v3⟩:=tX _ _ U
     rw [h1] at v1
     obtain rfl:=Option.some.inj v1
     exact v3 _ _ _ _
  ·simp at he
theorem aaK (h:cW g s aB a w)(e7:s.a0 aW=none){x y:aF}{ry nL:Value}{t dw:TypeId}{m:Nat}{NJ:Option ae}{eQ:TypeId}(ay:nZ P s.E s.a0 aW .append [x,y] [t,dw] (.aI m NJ)=some bH)(cH:∀p∈bH.fH,p)
 (U:Rel w (s.ok g aB w) s.a9 (s.bm aB) x ry) (aZ:Rel w (s.ok g aB w) s.a9 (s.bm aB) y nL) :
 ∃v bT bQ,(Builtin.append_ #[t,dw] eQ #[ry,nL]).run P w = .ok v bT∧cW g (s.ic bH.fU) bQ a bT∧Rel bT ((s.ic bH.fU).ok g bQ bT) (s.ic bH.fU).a9 ((s.ic bH.fU).bm bQ) bH.val v:=by
 simp only [nZ] at ay
 split at ay
 ·simp at ay
 ·rename_i e he
  have hu:=rQ he
  split at ay
  ·rename_i i z ah cF
   split at ay
   ·simp at ay
   ·rename_i bj
    simp only [not_or,Decidable.not_not] at bj
    obtain ⟨nE,kg,zi⟩:=bj
    split at ay
    ·simp at ay
    ·rename_i bG b9 rh
     have FE:=fun ak=>Qy (eQ:=eQ) h hu ah cF nE kg rh ak aZ
     by_cases adE:True
     ·
      split at ay
      ·
       simp only [Option.some.injEq] at ay
       subst ay
       have hm:m=bG.length:=cH _ (by simp)
       have Cz:m*i.bytes≤140737488355328:=cH _ (by simp)
       obtain ⟨eN,vs,lg,lP,hA,hlen,v1,v3,v4⟩:=FE (fun p ak=>cH p (by simp [ak]))
       clear FE
       rw [U.pJ]
       by_cases h0:bG.length=0
       ·have:bG=[]:=List.length_eq_zero_iff.1 h0
        subst this
        obtain ⟨bQ,p1,hE⟩:=h.Rz (sz:=i.size) e7
        refine ⟨_,w,bQ,hA.zero h0 none 0 0 (Nat.le_refl _),hE,?_⟩
        subst hm
        have aq:(s.setRow aW [⟨i.size,[],.live⟩]).an aW 0=some ⟨i.size,[],.live⟩:=by rw [lJ,if_pos rfl,mg];simp
        exact .nO (sz:=i.size) ((nq _ _ _ _ _).2 (by simp)) (by show (s.setRow aW [⟨i.size,[],.live⟩]).bm bQ aW 0=_;rw [iN aq,p1])
       ··have tY:bG.length*1≤bG.length*i.bytes:=Nat.mul_le_mul_left _ (by omega)
         rw [hm] at Cz
         have jb:=hA.nil (by omega) (by omega) (by omega)
         have Tk:=grownCap_ge w bG.length 0 e
         have hle:=grownCap_le_maxLen w bG.length 0 e (by simp only [maxLen];omega)
         simp only [maxLen] at hle
         obtain ⟨bQ,q1,a7⟩:=Kv (e:=e) (i:=i) (m:=m) (nX:=vs) (td:=Builtin.zeroCells eN.cells (grownCap w bG.length 0 e-bG.length)) (cap:=grownCap w bG.length 0 e) h e7 hlen hm v1 v3
          (by rw [size_zeroCells,lP,hm]) (by omega) (by omega) v4 rfl
         refine ⟨.slice (some ⟨w.heap.size,0,none⟩) m (grownCap w bG.length 0 e),_,bQ,?_,q1,a7⟩
         rw [hm];exact jb
      ·
       rename_i r k len
       split at ay
       ·simp at ay
       ·rename_i row dN
        split at ay
        ·simp at ay
        ·rename_i an bt
         split at ay
         ·rename_i vP
          obtain ⟨n2,fc,c8⟩:=vP
          simp only [Option.some.injEq] at ay
          subst ay
          have aq:s.an r k=some an:=by unfold S.an;rw [dN];exact bt
          have iD:len≤an.es.length:=cH _ (by simp)
          have hm:m=len+bG.length:=cH _ (by simp)
          have Cz:m*i.bytes≤140737488355328:=cH _ (by simp)
          have tY:m*1≤m*i.bytes:=Nat.mul_le_mul_left _ (Nat.one_le_iff_ne_zero.2 zi)
          obtain ⟨eN,vs,lg,lP,hA,hlen,v1,v3,v4⟩:=FE (fun p ak=>cH p (by simp [ak]))
          clear FE
          have ahV:bG.length*i.bytes≤m*i.bytes:=Nat.mul_le_mul_right _ (by omega)
          have fG:=h.obj r k an aq
          have MS:(an.es.take len).length=len:=by simp;omega
          have rV:(s.setRow aW [⟨i.size,an.es.take len++bG,.live⟩]).a0 r=some row:=by simp [S.setRow,Ne.symm c8,dN]
          have pW : ∀bQ:fy,((s.setRow aW [⟨i.size,an.es.take len++bG,.live⟩]).setRow r (row.set k {an with cz:= .gone})).an aW 0=some ⟨i.size,an.es.take len++bG,.live⟩:=by
           intro _
           rw [lJ,if_neg c8,lJ,if_pos rfl,mg];simp
          have B7:((s.setRow aW [⟨i.size,an.es.take len++bG,.live⟩]).setRow r (row.set k {an with cz:= .gone})).a9 aW 0:=by rw [nq,if_neg c8,nq,if_pos rfl];simp
          show ∃v bT bQ,_∧cW g ((s.setRow aW [⟨i.size,an.es.take len++bG,.live⟩]).setRow r (row.set k {an with cz:= .gone})) bQ a bT∧_
          rcases U.vj (iN aq) with ⟨ak,-,rfl,rfl⟩|⟨b,M,lS,kJ,ak,rfl,rj,sU,eo,ms⟩
          ·
           rw [ak] at fG
           simp only [jC] at fG
           have hH:an.es.take 0++bG=bG:=by simp
           by_cases h0:bG.length=0
           ·have:bG=[]:=List.length_eq_zero_iff.1 h0
            subst this
            obtain ⟨bQ,p1,hE⟩:=h.Rz (sz:=i.size) e7
            have pX:(s.setRow aW [⟨i.size,[],.live⟩]).an r k=some an:=by rw [lJ,if_neg (Ne.symm c8)];exact aq
            have ad7:(s.setRow aW [⟨i.size,[],.live⟩]).a0 r=some row:=by simp [S.setRow,Ne.symm c8,dN]
            obtain ⟨r9,-⟩:=hE.gone ad7 pX
            have B8:an.es.take 0++([]:List (List aF))=[]:=by simp
            rw [B8]
            rw [B8] at B7 pW
            refine ⟨_,w,bQ,hA.zero h0 none 0 0 (Nat.le_refl _),r9,?_⟩
            subst hm
            exact .nO (sz:=i.size) B7 ((iN (pW bQ)).trans (by rw [p1]))
           ··have lf:m=bG.length:=by omega
             have jb:=hA.nil (by omega) (by omega) (by omega)
             have Tk:=grownCap_ge w bG.length 0 e
             have hle:=grownCap_le_maxLen w bG.length 0 e (by simp only [maxLen];omega)
             simp only [maxLen] at hle
             obtain ⟨bQ,q1,a7⟩:=Kv (e:=e) (i:=i) (m:=m) (nX:=vs) (td:=Builtin.zeroCells eN.cells (grownCap w bG.length 0 e-bG.length)) (cap:=grownCap w bG.length 0 e) h e7 hlen lf v1 v3
              (by rw [size_zeroCells,lP,lf]) (by omega) (by omega) v4 rfl
             rw [hH]
             rw [hH] at rV
             have pX:(s.setRow aW [⟨i.size,bG,.live⟩]).an r k=some an:=by rw [lJ,if_neg (Ne.symm c8)];exact aq
             obtain ⟨r9,De⟩:=q1.gone rV pX
             refine ⟨.slice (some ⟨w.heap.size,0,none⟩) m (grownCap w bG.length 0 e),_,bQ,?_,r9,De _ _ a7⟩
             rw [lf];exact jb
          ·
           rw [ak] at fG
           have ad8:=fG
           obtain ⟨cv,mH,g1,g2,g3,g4⟩:=fG
           have B9 : ∀e∈an.es.take len++bG,e.length=i.size:=by
            intro ey l5
            rw [List.mem_append] at l5
            rcases l5 with cP|cP
            ·rw [g3 ey (List.mem_of_mem_take cP),fc]
            ·exact hlen ey cP
           have jZ : ∀(es:List (List aF)),(∀e∈es,e.length=i.size)→es.flatten.length=es.length*i.size:=by
            intro es
            induction es with
            | nil=>intro _;simp
            | cons e es ih =>
             intro fY
             rw [List.flatten_cons,List.length_append,ih fun x U=>fY x (by simp [U]),fY e (by simp),List.length_cons,Nat.add_mul];omega
           by_cases h0:bG.length=0
           ·
            have:bG=[]:=List.length_eq_zero_iff.1 h0
            subst this
            have B8:an.es.take len++([]:List (List aF))=an.es.take len:=by simp
            rw [B8]
            rw [B8] at B7 pW B9
            obtain ⟨bQ,p1,hE⟩:=h.turn dN aq n2 ak e7 ⟨i.size,an.es.take len,.live⟩ rfl cv mH g1 rfl (fun _ _=>rfl) rfl rfl rfl g2 B9 (fun j q bb=>by
             refine g4 j q ?_
             have aE:j<(an.es.take len).flatten.length:=by
              rcases Nat.lt_or_ge j (an.es.take len).flatten.length with cP|cP
              ·exact cP
              ·rw [List.getElem?_eq_none cP] at bb;simp at bb
             have Tl:an.es.flatten=(an.es.take len).flatten++(an.es.drop len).flatten:=by rw [← List.flatten_append,List.take_append_drop]
             rw [Tl,List.getElem?_append_left aE];exact bb)
            refine ⟨_,w,bQ,hA.zero h0 lS len kJ rj,hE,?_⟩
            have lf:m=len:=by simpa using hm
            subst lf
            refine .bh (sz:=i.size) (eg:=b) (m:=M) B7 ((iN (pW bQ)).trans (by rw [p1])) rj sU ?_
            rw [← fc];exact ⟨eo,ms⟩
           ··
             have hold : ∃xs:List Value,xs.length=len*i.size∧(∀(j:Nat) u,xs[j]? = some u→w.cell? ((⟨b,0,none⟩:Addr).add j)=some u)∧(∀u∈xs,u.oneCell'=true) ∧
              ∀(j:Nat) x u,(an.es.take len).flatten[j]? = some x→xs[j]? = some u→Rel w (s.ok g aB w) s.a9 (s.bm aB) x u:=by
              have SV:=Em ad8.rd 0 len (by omega)
              simp only [List.drop_zero,Nat.zero_mul,Nat.add_zero] at SV
              obtain ⟨xs,x1,ef,az,fE⟩:=SV.nX
              exact ⟨xs,by rw [x1,MS,fc],ef,az,fE⟩
             obtain ⟨xs,x1,ef,az,fE⟩:=hold
             have afc:xs.length=(an.es.take len).length*i.size:=by rw [MS];exact x1
             have RA : ∀(j:Nat) x u,(an.es.take len++bG).flatten[j]? = some x→(xs++vs)[j]? = some u→Rel w (s.ok g aB w) s.a9 (s.bm aB) x u :=
              fun j x u sV n0=>Zl afc (fun ey l5=>by rw [g3 ey (List.mem_of_mem_take l5),fc]) sV fE v4 n0
             have Ca:(an.es.take len++bG).length=m:=by rw [List.length_append,MS];exact hm.symm
             by_cases sF:len+bG.length≤kJ
             ·
              rcases ms with rfl|rfl
              ·omega
              ·rw [Nat.zero_mul] at *
               rw [Nat.zero_add] at eo
               have adF:len*i.size+vs.length≤cv.size:=by
                rw [v1,g2,← eo,fc,← Nat.add_mul];exact Nat.mul_le_mul_right _ sF
               have jb:=hA.room (by omega) b len kJ cv mH g1 sF adF (by omega)
               have aeA:(w.setRow b (cv.toList.take (len*i.size)++vs++cv.toList.drop (len*i.size+vs.length)).toArray).heap.size=w.heap.size:=size_setRow _ _ _
               have Tm:xs=cv.toList.take (len*i.size):=by
                apply List.ext_getElem?
                intro j
                rw [List.getElem?_take]
                by_cases aE:j<len*i.size
                ·rw [if_pos aE]
                 have tZ:j<xs.length:=by omega
                 have:=ef j _ (List.getElem?_eq_getElem tZ)
                 rw [rP,cell_of_row w b (0+j) cv mH (0,0) g1,Nat.zero_add] at this
                 rw [List.getElem?_eq_getElem tZ,← this,Array.getElem?_toList]
                ·rw [if_neg aE,List.getElem?_eq_none (by omega)]
               obtain ⟨bQ,p1,hE⟩:=h.turn dN aq n2 ak e7 ⟨i.size,an.es.take len++bG,.live⟩ rfl _ mH (setRow_heap w b cv _ mH _ g1) aeA (fun q bb=>setRow_other w b q _ bb) rfl rfl rfl
                (by rw [← g2];simp;omega) B9 (fun j q bb=>by
                  have aE:j<(xs++vs).length:=by
                   have:j<(an.es.take len++bG).flatten.length:=by
                    rcases Nat.lt_or_ge j (an.es.take len++bG).flatten.length with cP|cP
                    ·exact cP
                    ·rw [List.getElem?_eq_none cP] at bb;simp at bb
                   rw [jZ _ B9,Ca] at this
                   rw [List.length_append,x1,v1,← Nat.add_mul,← hm];exact this
                  refine ⟨(xs++vs)[j],?_,?_,RA j q _ bb (List.getElem?_eq_getElem aE)⟩
                  ·rw [List.getElem?_toArray,List.getElem?_append_left (by rw [← Tm];exact aE),← Tm]
                   exact List.getElem?_eq_getElem aE
                  ·have:=List.getElem_mem aE
                   rw [List.mem_append] at this
                   rcases this with cP|cP
                   ·exact az _ cP
                   ·exact v3 _ cP)
               refine ⟨_,_,bQ,jb,hE,?_⟩
               rw [← hm]
               refine .bh (sz:=i.size) (eg:=b) (m:=M) B7 ((iN (pW bQ)).trans (by rw [p1])) (by omega) sU ⟨?_,.inr (by simp)⟩
               rw [Nat.zero_add,← fc];exact eo
             ·
              have hA : ∃wv:Addr,(lS=some wv∧ ∀(j:Nat) u,xs[j]? = some u→w.cell? (wv.add j)=some u)∨(lS=none∧len=0∧kJ=0):=by
               cases lS with
               | none =>
                refine ⟨⟨0,0,none⟩,.inr ⟨rfl,?_⟩⟩
                rcases ms with cP|cP
                ·omega
                ·simp at cP
               | some wv =>
                refine ⟨wv,.inl ⟨rfl,?_⟩⟩
                rcases ms with cP|cP
                ·have:len=0:=by omega
                 have:xs=[]:=List.length_eq_zero_iff.1 (by rw [x1,this];simp)
                 intro j u aE
                 rw [this] at aE;simp at aE
                ·simp at cP;subst cP;exact ef
              have Tk:=grownCap_ge w (len+bG.length) kJ e
              have hle:=grownCap_le_maxLen w (len+bG.length) kJ e (by simp only [maxLen];omega)
              simp only [maxLen] at hle
              have jb:(Builtin.append_ #[t,dw] eQ #[.slice lS len kJ,nL]).run P w = .ok (.slice (some ⟨w.heap.size,0,none⟩) (len+bG.length) (grownCap w (len+bG.length) kJ e))
               (w.drew.alloc (.cells ((xs++vs).toArray++Builtin.zeroCells eN.cells (grownCap w (len+bG.length) kJ e-(len+bG.length))) e)):=by
               have aeB:(xs++vs).toArray=xs.toArray++vs.toArray:=by apply Array.ext';simp
               rw [aeB]
               obtain ⟨wv,⟨rfl,afd⟩|⟨rfl,nF,mI⟩⟩:=hA
               ·exact hA.grow (by omega) wv len kJ xs x1 afd (by omega) (by omega) (growslice_fits (by omega) (by rw [← hm];exact Cz)) (by omega)
               ·subst nF;subst mI
                have afe:xs=[]:=List.length_eq_zero_iff.1 (by rw [x1];simp)
                subst afe
                have:=hA.nil (by omega) (by omega) (by omega)
                simpa using this
              obtain ⟨bQ,q1,a7⟩:=Kv (e:=e) (i:=i) (m:=m) (nX:=xs++vs) (td:=Builtin.zeroCells eN.cells (grownCap w (len+bG.length) kJ e-(len+bG.length))) (cap:=grownCap w (len+bG.length) kJ e) h e7 B9 Ca.symm
               (by rw [List.length_append,x1,v1,Ca,hm,Nat.add_mul]) (fun u hu=>by
                 rw [List.mem_append] at hu
                 rcases hu with cP|cP
                 ·exact az _ cP
                 ·exact v3 _ cP) (by rw [size_zeroCells,lP,hm]) (by omega) (by omega) RA rfl
              have pX:(s.setRow aW [⟨i.size,an.es.take len++bG,.live⟩]).an r k=some an:=by rw [lJ,if_neg (Ne.symm c8)];exact aq
              obtain ⟨r9,De⟩:=q1.gone rV pX
              refine ⟨.slice (some ⟨w.heap.size,0,none⟩) m (grownCap w (len+bG.length) kJ e),_,bQ,?_,r9,De _ _ a7⟩
              rw [hm];exact jb
         ·simp at ay
      ·simp at ay
     ·exact absurd trivial adE
  ·simp at ay
end
end
section
variable {P:Program} {g:G} {s:S} {aB:fy} {a:Act} {w:World}
theorem Bi {sz:Nat}: ∀ {es:List (List aF)},(∀e∈es,e.length=sz)→es.flatten.length=es.length*sz
 | [],_=>by simp
 | e::es,h=>by
  rw [List.flatten_cons,List.length_append,Bi fun x U=>h x (by simp [U]),h e (by simp),List.length_cons,Nat.add_mul];omega
theorem cW.putAt (h:cW g s aB a w){r k p b M:Nat}{row:List ae}{an:ae}(ap:s.a0 r=some row)(aq:s.an r k=some an)(ba:an.cz = .live)(lR:aB r k=some (b,M)){bG gx:List (List aF)}{vs:List Value}
 (hlen : ∀x∈bG,x.length=an.sz) (v1:vs.length=bG.length*an.sz) (v3 : ∀u∈vs,u.oneCell'=true) (v4 : ∀(j:Nat) x u,bG.flatten[j]? = some x→vs[j]? = some u→Rel w (s.ok g aB w) s.a9 (s.bm aB) x u)
 (ak:p+bG.length≤an.es.length) (q:Nat) (hH:gx=(an.es.take p++bG++an.es.drop (p+bG.length)).take q) :
 ∃cv mH,w.heap[b]? = some (.cells cv mH (0,0))∧cv.size=M∧an.es.length*an.sz≤M∧p*an.sz+vs.length≤cv.size ∧
  cW g (s.setRow r (row.set k {an with es:=gx})) aB a (w.setRow b (cv.toList.take (p*an.sz)++vs++cv.toList.drop (p*an.sz+vs.length)).toArray) ∧
  ∀x v,Rel w (s.ok g aB w) s.a9 (s.bm aB) x v→Rel (w.setRow b (cv.toList.take (p*an.sz)++vs++cv.toList.drop (p*an.sz+vs.length)).toArray) ((s.setRow r (row.set k {an with es:=gx})).ok g aB (w.setRow b (cv.toList.take (p*an.sz)++vs++cv.toList.drop (p*an.sz+vs.length)).toArray)) (s.setRow r (row.set k {an with es:=gx})).a9 ((s.setRow r (row.set k {an with es:=gx})).bm aB) x v:=by
 have fG:=h.obj r k an aq
 rw [lR] at fG
 obtain ⟨cv,mH,g1,g2,g3,g4⟩:=fG
 have jZ:=Bi g3
 have eo:an.es.length*an.sz≤M:=by
  rcases Nat.eq_zero_or_pos an.es.flatten.length with h0|kg
  ·omega
  ·obtain ⟨v,e1,-⟩:=g4 (an.es.flatten.length-1) _ (List.getElem?_eq_getElem (by omega))
   have:=(Array.getElem?_eq_some_iff.1 e1).1
   omega
 have hmul:p*an.sz+bG.length*an.sz≤an.es.length*an.sz:=by rw [← Nat.add_mul];exact Nat.mul_le_mul_right _ ak
 have iD:p*an.sz+vs.length≤cv.size:=by omega
 refine ⟨cv,mH,g1,g2,eo,iD,?_⟩
 have aeC : ∀e∈an.es.take p++bG++an.es.drop (p+bG.length),e.length=an.sz:=by
  intro e he
  simp only [List.mem_append] at he
  rcases he with (he|he)|he
  ·exact g3 e (List.mem_of_mem_take he)
  ·exact hlen e he
  ·exact g3 e (List.mem_of_mem_drop he)
 have hA:(an.es.take p).flatten.length=p*an.sz:=by rw [Bi fun e he=>g3 e (List.mem_of_mem_take he),List.length_take];congr 1;omega
 have gU:(an.es.take (p+bG.length)).flatten.length=p*an.sz+bG.length*an.sz:=by rw [Bi fun e he=>g3 e (List.mem_of_mem_take he),List.length_take,← Nat.add_mul];congr 1;omega
 have agn:bG.flatten.length=bG.length*an.sz:=Bi hlen
 have h1 : ∀j,j<p*an.sz→(an.es.take p).flatten[j]? = an.es.flatten[j]? := fun j aE=>by
  conv=>rhs;rw [← List.take_append_drop p an.es,List.flatten_append,List.getElem?_append_left (by omega)]
 have o : ∀j,(an.es.drop (p+bG.length)).flatten[j]? = an.es.flatten[p*an.sz+bG.length*an.sz+j]? := fun j=>by
  conv=>rhs;rw [← List.take_append_drop (p+bG.length) an.es,List.flatten_append,List.getElem?_append_right (by omega),gU]
  congr 1;omega
 refine h.write ap aq ba lR gx _ mH (setRow_heap w b cv _ mH _ g1) (size_setRow _ _ _) (fun q bb=>setRow_other w b q _ bb) rfl rfl rfl (by rw [← g2];simp;omega) ?_ ?_
 ·intro e he
  rw [hH] at he
  exact aeC e (List.mem_of_mem_take he)
 ·intro j x U
  have dV:(an.es.take p++bG++an.es.drop (p+bG.length)).flatten[j]? = some x:=by
   rw [hH] at U
   have aE:=(List.getElem?_eq_some_iff.1 U).1
   conv=>lhs;rw [← List.take_append_drop q (an.es.take p++bG++an.es.drop (p+bG.length)),List.flatten_append,List.getElem?_append_left aE]
   exact U
  rw [List.flatten_append,List.flatten_append] at dV
  simp only [List.getElem?_toArray]
  have iO:(cv.toList.take (p*an.sz)).length=p*an.sz:=by rw [List.length_take,Array.length_toList];omega
  by_cases bp:j<p*an.sz
  ·rw [List.append_assoc,List.getElem?_append_left (by omega),h1 j bp] at dV
   obtain ⟨v,e1,aD,bP⟩:=g4 j x dV
   refine ⟨v,?_,aD,bP⟩
   rw [List.append_assoc,List.getElem?_append_left (by omega),List.getElem?_take,if_pos bp,Array.getElem?_toList];exact e1
  ·by_cases ck:j<p*an.sz+vs.length
   ·rw [List.append_assoc,List.getElem?_append_right (by omega),hA,List.getElem?_append_left (by omega)] at dV
    have bk:j-p*an.sz<vs.length:=by omega
    refine ⟨vs[j-p*an.sz],?_,v3 _ (List.getElem_mem bk),v4 _ _ _ dV (List.getElem?_eq_getElem bk)⟩
    rw [List.append_assoc,List.getElem?_append_right (by omega),iO,List.getElem?_append_left (by omega)]
    exact List.getElem?_eq_getElem bk
   ·rw [List.getElem?_append_right (by rw [List.length_append];omega),List.length_append,hA,agn,o] at dV
    rw [show p*an.sz+bG.length*an.sz+(j-(p*an.sz+bG.length*an.sz))=j by omega] at dV
    obtain ⟨v,e1,aD,bP⟩:=g4 j x dV
    refine ⟨v,?_,aD,bP⟩
    rw [List.getElem?_append_right (by rw [List.length_append];omega),List.length_append,iO,List.getElem?_drop,Array.getElem?_toList]
    rw [show p*an.sz+vs.length+(j-(p*an.sz+vs.length))=j by omega];exact e1
end
section
variable {P:Program} {g:G} {s:S} {aB:fy} {a:Act} {w:World} {aW:Nat} {bH:ir}
theorem ac5 (h:cW g s aB a w){x y:aF}{ry nL:Value}{t dw eQ:TypeId}(ay:nZ P s.E s.a0 aW .append [x,y] [t,dw] .fZ=some bH)(cH:∀p∈bH.fH,p)
 (U:Rel w (s.ok g aB w) s.a9 (s.bm aB) x ry) (aZ:Rel w (s.ok g aB w) s.a9 (s.bm aB) y nL) :
 ∃v bT,(Builtin.append_ #[t,dw] eQ #[ry,nL]).run P w = .ok v bT∧cW g (s.ic bH.fU) aB a bT∧Rel bT ((s.ic bH.fU).ok g aB bT) (s.ic bH.fU).a9 ((s.ic bH.fU).bm aB) bH.val v:=by
 simp only [nZ] at ay
 split at ay
 ·simp at ay
 ·rename_i e he
  have hu:=rQ he
  split at ay
  ·rename_i i z ah cF
   split at ay
   ·simp at ay
   ·rename_i bj
    simp only [not_or,Decidable.not_not] at bj
    obtain ⟨nE,kg,zi⟩:=bj
    split at ay
    ·simp at ay
    ·rename_i bG b9 rh
     split at ay
     ·rename_i r k len
      split at ay
      ·simp at ay
      ·rename_i row dN
       split at ay
       ·simp at ay
       ·rename_i an bt
        split at ay
        ·rename_i vP
         obtain ⟨n2,fc⟩:=vP
         simp only [Option.some.injEq] at ay
         subst ay
         have aq:s.an r k=some an:=by unfold S.an;rw [dN];exact bt
         have iD:len+bG.length≤an.es.length:=cH _ (by simp)
         have Cz:bG.length*i.bytes≤140737488355328:=cH _ (by simp)
         obtain ⟨eN,vs,lg,lP,hA,hlen,v1,v3,v4⟩:=Qy (eQ:=eQ) h hu ah cF nE kg rh (fun p ak=>cH p (by simp [ak])) aZ
         rw [← fc] at v1
         have Sw : ∀x∈bG,x.length=an.sz:=fun x U=>by rw [hlen x U,fc]
         have hH:an.es.take len++bG=(an.es.take len++bG++an.es.drop (len+bG.length)).take (len+bG.length) :=
          (List.take_left' (by rw [List.length_append,List.length_take];omega)).symm
         rcases U.vj (iN aq) with ⟨ak,-,rfl,rfl⟩|⟨b,M,lS,kJ,ak,rfl,rj,sU,eo,ms⟩
         ·have fG:=h.obj r k an aq
          rw [ak] at fG
          simp only [jC] at fG
          rw [fG] at iD
          have h0:bG.length=0:=by simp at iD;exact List.length_eq_zero_iff.2 iD
          have vQ:bG=[]:=List.length_eq_zero_iff.1 h0
          subst vQ
          have lr:row.set k {an with es:=an.es.take 0++[]}=row:=by
           have h1:({an with es:=an.es.take 0++[]}:ae)=an:=by cases an;simp only [] at fG;subst fG;rfl
           rw [h1]
           have o:row[k]? = some an:=by
            unfold dx at bt
            simp only at bt
            split at bt
            ·rename_i cc d9
             split at bt
             ·simp at bt
             ·simp at bt;rw [← bt];exact d9
            ·simp at bt
           exact List.ext_getElem? fun j=>by
            rw [List.getElem?_set]
            split
            ·rename_i e;subst e
             have:=(List.getElem?_eq_some_iff.1 o).1
             rw [if_pos this,o]
            ·rfl
          refine ⟨_,w,hA.zero h0 none 0 0 (Nat.le_refl _),?_⟩
          have ez:s.setRow r row=s:=by
           have:(fun q=>if q=r then some row else s.a0 q)=s.a0:=by
            funext q;split
            ·rename_i e;rw [e,dN]
            ·rfl
           show ({s with a0:=_}:S)=s
           rw [this]
          show cW g (s.setRow r (row.set k {an with es:=an.es.take 0++[]})) aB a w∧Rel w ((s.setRow r (row.set k {an with es:=an.es.take 0++[]})).ok g aB w) (s.setRow r (row.set k {an with es:=an.es.take 0++[]})).a9 ((s.setRow r (row.set k {an with es:=an.es.take 0++[]})).bm aB) (.bh r k 0 0) (.slice none 0 0)
          rw [lr,ez]
          exact ⟨h,U⟩
         ·obtain ⟨cv,mH,bp,ck,jJ,qb,oH,te⟩:=h.putAt dN aq n2 ak Sw v1 v3 v4 iD (len+bG.length) hH
          have hle:an.es.length≤kJ:=by
           rw [Nat.zero_add] at eo
           rw [← eo] at jJ
           exact Nat.le_of_mul_le_mul_right jJ (by omega)
          by_cases mI:kJ=0
          ·have h0:bG.length=0:=by omega
           have nF:len=0:=by omega
           subst nF
           have vQ:bG=[]:=List.length_eq_zero_iff.1 h0
           subst vQ
           have MT:vs=[]:=List.length_eq_zero_iff.1 (by simpa using v1)
           subst MT
           have hw:w.setRow b (cv.toList.take (0*an.sz)++[]++cv.toList.drop (0*an.sz+0)).toArray=w:=by
            simp only [Nat.zero_mul,List.take_zero,List.nil_append,Nat.zero_add,List.drop_zero,Array.toArray_toList]
            exact setRow_self w b cv mH (0,0) bp
           simp only [List.length_nil] at oH te
           rw [hw] at oH te
           exact ⟨_,w,hA.zero h0 lS 0 kJ (Nat.zero_le _),oH,te _ _ U⟩
          ·have CA:lS=some ⟨b,0,none⟩:=by
            rcases ms with cP|cP
            ·exact absurd cP mI
            ·simpa using cP
           subst CA
           by_cases h0:bG.length=0
           ·have vQ:bG=[]:=List.length_eq_zero_iff.1 h0
            subst vQ
            have MT:vs=[]:=List.length_eq_zero_iff.1 (by simpa using v1)
            subst MT
            have hw:w.setRow b (cv.toList.take (len*an.sz)++[]++cv.toList.drop (len*an.sz+0)).toArray=w:=by
             simp only [List.append_nil,Nat.add_zero,List.take_append_drop,Array.toArray_toList]
             exact setRow_self w b cv mH (0,0) bp
            simp only [List.length_nil] at oH te
            rw [hw] at oH te
            exact ⟨_,w,hA.zero h0 _ len kJ rj,oH,te _ _ U⟩
           ·have jb:=hA.room (by omega) b len kJ cv mH bp (by omega) (by rw [← fc];exact qb) Cz
            rw [← fc] at jb
            refine ⟨_,_,jb,oH,?_⟩
            have B2:(s.setRow r (row.set k {an with es:=an.es.take len++bG})).an r k=some {an with es:=an.es.take len++bG}:=by
             rw [lJ,if_pos rfl,QW row k an _ bt (by simp [n2]),if_pos rfl]
            show Rel _ ((s.setRow r (row.set k {an with es:=an.es.take len++bG})).ok g aB _) (s.setRow r (row.set k {an with es:=an.es.take len++bG})).a9 ((s.setRow r (row.set k {an with es:=an.es.take len++bG})).bm aB) (.bh r k 0 (len+bG.length)) _
            refine .bh (sz:=an.sz) (eg:=b) (m:=M) (EH B2) ((iN B2).trans (by rw [ak])) (by omega) sU ⟨eo,.inr (by simp)⟩
        ·simp at ay
     ·simp at ay
  ·simp at ay
end
section
variable {P:Program} {g:G} {s:S} {aB:fy} {a:Act} {w:World} {aW:Nat} {bH:ir}
theorem PR {s:S}{r k:Nat}{row:List ae}{an:ae}(ap:s.a0 r=some row)(aq:dx (some row) k=some an):s.setRow r (row.set k an)=s:=by
 have o:row[k]? = some an:=by
  unfold dx at aq
  simp only at aq
  split at aq
  ·rename_i cc d9
   split at aq
   ·simp at aq
   ·simp at aq;rw [← aq];exact d9
  ·simp at aq
 have af:row.set k an=row:=List.ext_getElem? fun j=>by
  rw [List.getElem?_set]
  split
  ·rename_i e;subst e
   have:=(List.getElem?_eq_some_iff.1 o).1
   rw [if_pos this,o]
  ·rfl
 rw [af]
 have:(fun q=>if q=r then some row else s.a0 q)=s.a0:=by
  funext q;split
  ·rename_i e;rw [e,ap]
  ·rfl
 show ({s with a0:=_}:S)=s
 rw [this]
theorem aaL {e:TypeId}{i:TypeInfo}{z:List aF}{eN:Value}(lP:eN.cells.size=i.size)(nE:z.length=i.size)(kg:i.size≠0)
 (tX : ∀(j:Nat) x,z[j]? = some x→ ∃v,eN.cells[j]? = some v∧km v=true∧ ∀(w:World) (ok:Nat→Prop) (a9:js) (bm:jh),Rel w ok a9 bm x v) (m:Nat) :
 (Builtin.zeroCells eN.cells m).toList.length=m*i.size∧(∀u∈(Builtin.zeroCells eN.cells m).toList,u.oneCell'=true) ∧
   ∀(j:Nat) x u,(List.replicate m z).flatten[j]? = some x→(Builtin.zeroCells eN.cells m).toList[j]? = some u→ ∀(w:World) (ok:Nat→Prop) (a9:js) (bm:jh),Rel w ok a9 bm x u:=by
 have l8 : ∀(j:Nat) u,(Builtin.zeroCells eN.cells m).toList[j]? = some u→eN.cells[j % i.size]? = some u:=by
  intro j u n0
  have aE:=(List.getElem?_eq_some_iff.1 n0).1
  rw [Array.length_toList,size_zeroCells,lP] at aE
  have d3:j % i.size<eN.cells.size:=by rw [lP];exact Nat.mod_lt _ (by omega)
  rw [Array.getElem?_toList,Builtin.zeroCells,Array.getElem?_map,lP,Array.getElem?_range] at n0
  rw [if_pos aE] at n0
  simp only [Option.map_some,Option.some.injEq] at n0
  rw [← n0,Array.getElem?_eq_getElem d3,getElem!_pos eN.cells _ d3]
 refine ⟨?_,?_,?_⟩
 ·rw [Array.length_toList,size_zeroCells,lP]
 ·intro u rl
  obtain ⟨j,aE⟩:=List.getElem?_of_mem rl
  have h1:=l8 j u aE
  have d3:j % i.size<z.length:=by rw [nE];exact Nat.mod_lt _ (by omega)
  obtain ⟨v,v1,v2,-⟩:=tX _ _ (List.getElem?_eq_getElem d3)
  rw [h1] at v1
  obtain rfl:=Option.some.inj v1
  exact v2
 ·intro j x u U n0
  rw [pq (sz:=i.size) (by omega) _ (fun ey l5=>by rw [List.mem_replicate] at l5;rw [l5.2,nE])] at U
  have h1:=l8 j u n0
  cases bb:(List.replicate m z)[j / i.size]? with
  | none=>rw [bb] at U;simp at U
  | some ey =>
   have:=List.mem_of_getElem? bb
   rw [List.mem_replicate] at this
   rw [bb,this.2] at U
   simp only [Option.bind_some] at U
   obtain ⟨v,v1,-,v3⟩:=tX _ _ U
   rw [h1] at v1
   obtain rfl:=Option.some.inj v1
   exact v3
theorem acd (h:cW g s aB a w){r k len:Nat}{y:aF}{ry nL:Value}{t dw eQ:TypeId}{cY:fL}(ay:nZ P s.E s.a0 aW .copy [.bh r k 0 len,y] [t,dw] cY=some bH)(cH:∀p∈bH.fH,p)
 (U:Rel w (s.ok g aB w) s.a9 (s.bm aB) (.bh r k 0 len) ry) (aZ:Rel w (s.ok g aB w) s.a9 (s.bm aB) y nL) :
 ∃n bT,(Builtin.copy_ #[t,dw] eQ #[ry,nL]).run P w = .ok (goInt n) bT∧cW g (s.ic bH.fU) aB a bT∧bH.val = .n .i64 n:=by
 simp only [nZ] at ay
 split at ay
 ·simp at ay
 ·rename_i e he
  have hu:=rQ he
  split at ay
  ·simp at ay
  ·rename_i i ah
   split at ay
   ·simp at ay
   ·rename_i bG b9 rh
    split at ay
    ·simp at ay
    ·rename_i row dN
     split at ay
     ·simp at ay
     ·rename_i an bt
      split at ay
      ·rename_i vP
       obtain ⟨n2,fc,kg⟩:=vP
       simp only [Option.some.injEq] at ay
       subst ay
       have aq:s.an r k=some an:=by unfold S.an;rw [dN];exact bt
       have iD:bG.length≤len:=cH _ (by simp)
       have hle:len≤an.es.length:=cH _ (by simp)
       obtain ⟨A,c,rfl,hlen,MR⟩:=QY h rh (fun p ak=>cH p (by simp [ak])) aZ
       show ∃n bT,_∧cW g (s.setRow r (row.set k {an with es:=bG++an.es.drop bG.length})) aB a bT∧_
       by_cases h0:bG.length=0
       ·have vQ:bG=[]:=List.length_eq_zero_iff.1 h0
        subst vQ
        refine ⟨0,w,?_,?_,rfl⟩
        ·rcases U.vj (iN aq) with ⟨-,-,rfl,rfl⟩|⟨b,M,lS,kJ,-,rfl,-,-,-,-⟩
         ·cases A<;>simp [Builtin.copy_,run_underlying hu,sizeOf,typeInfo,ah,Builtin.lenOf,Builtin.firstCells,loadCells,loadCellsFrom]
         ·cases A<;>cases lS<;>simp [Builtin.copy_,run_underlying hu,sizeOf,typeInfo,ah,Builtin.lenOf,Builtin.firstCells,loadCells,loadCellsFrom,storeCells]
        ·rw [show ({an with es:=[]++an.es.drop ([]:List (List aF)).length}:ae)=an from rfl,PR dN bt];exact h
       ·obtain ⟨eg,off,rfl,iG⟩:=MR.resolve_left h0
        obtain ⟨vs,v1,v2,v3,v4⟩:=iG.nX
        rw [← fc] at v1
        rcases U.vj (iN aq) with ⟨-,-,rfl,-⟩|⟨b,M,lS,kJ,ak,rfl,rj,sU,eo,ms⟩
        ·exact absurd (Nat.le_zero.1 iD) h0
        ·have CA:lS=some ⟨b,0,none⟩:=by
          rcases ms with cP|cP
          ·exact absurd (show bG.length=0 by omega) h0
          ·simpa using cP
         subst CA
         obtain ⟨cv,mH,bp,ck,jJ,qb,oH,-⟩:=h.putAt (p:=0) dN aq n2 ak (fun x U=>by rw [hlen x U,fc]) v1 v3 v4 (by omega) an.es.length (gx:=bG++an.es.drop bG.length)
          (by rw [List.take_zero,List.nil_append,Nat.zero_add];exact (List.take_of_length_le (by simp;omega)).symm)
         simp only [Nat.zero_mul,Nat.zero_add,List.take_zero,List.nil_append] at qb oH
         have aU:=run_firstCells_some (P:=P) w i.size bG.length ⟨eg,off,none⟩ bG.length c vs (by rw [v1,fc]) v2
         have mr:=run_storeCells_at P b 0 mH vs 0 cv w bp (by simpa using qb) v3
         simp only [Nat.add_zero,List.take_zero,List.nil_append,Nat.zero_add] at mr
         refine ⟨bG.length,_,?_,oH,rfl⟩
         simp [Builtin.copy_,run_underlying hu,sizeOf,typeInfo,ah,Builtin.lenOf,Nat.min_eq_left iD,aU,mr]
      ·simp at ay
theorem abm (h:cW g s aB a w){r k len:Nat}{ry:Value}{t eQ:TypeId}{cY:fL}(ay:nZ P s.E s.a0 aW .clear [.bh r k 0 len] [t] cY=some bH)(cH:∀p∈bH.fH,p)
 (U:Rel w (s.ok g aB w) s.a9 (s.bm aB) (.bh r k 0 len) ry) :
 ∃bT,(Builtin.clear_ #[t] eQ #[ry]).run P w = .ok (.tuple #[]) bT∧cW g (s.ic bH.fU) aB a bT∧bH.val = .ee []:=by
 simp only [nZ] at ay
 split at ay
 ·simp at ay
 ·rename_i e he
  have hu:=rQ he
  split at ay
  ·rename_i i z ah cF
   split at ay
   ·simp at ay
   ·rename_i row dN
    split at ay
    ·simp at ay
    ·rename_i an bt
     split at ay
     ·rename_i vP
      obtain ⟨n2,fc,nE,kg⟩:=vP
      simp only [Option.some.injEq] at ay
      subst ay
      have aq:s.an r k=some an:=by unfold S.an;rw [dN];exact bt
      have hle:an.es.length=len:=cH _ (by simp)
      show ∃bT,_∧cW g (s.setRow r (row.set k {an with es:=List.replicate len z})) aB a bT∧_
      by_cases h0:len=0
      ·subst h0
       refine ⟨w,?_,?_,rfl⟩
       ·rcases U.vj (iN aq) with ⟨-,-,-,rfl⟩|⟨b,M,lS,kJ,-,rfl,-,-,-,-⟩
        ·simp [Builtin.clear_,run_underlying hu]
        ·cases lS<;>simp [Builtin.clear_,run_underlying hu]
       ·rw [show ({an with es:=List.replicate 0 z}:ae)=an by rw [List.replicate_zero,← List.length_eq_zero_iff.1 hle],PR dN bt];exact h
      ·obtain ⟨eO,eN,jS,lg,qa,tX⟩:=A6 cF
       rw [ah] at jS;simp at jS;subst jS
       have lP:eN.cells.size=i.size:=by rw [← nE,qa];simp
       rcases U.vj (iN aq) with ⟨-,-,rfl,-⟩|⟨b,M,lS,kJ,ak,rfl,rj,sU,eo,ms⟩
       ·exact absurd rfl h0
       ·have CA:lS=some ⟨b,0,none⟩:=by
         rcases ms with cP|cP
         ·exact absurd (show len=0 by omega) h0
         ·simpa using cP
        subst CA
        obtain ⟨v1,v3,v4⟩:=aaL (e:=e) lP nE kg tX len
        rw [← fc] at v1
        obtain ⟨cv,mH,bp,ck,jJ,qb,oH,-⟩:=h.putAt (p:=0) (bG:=List.replicate len z) dN aq n2 ak (fun x U=>by rw [List.mem_replicate] at U;rw [U.2,nE,fc]) (by simpa using v1) v3 (fun j x u h1 o=>v4 j x u h1 o _ _ _ _)
         (by simp;omega) len (gx:=List.replicate len z)
         (by simp [hle])
        simp only [Nat.zero_mul,Nat.zero_add,List.take_zero,List.nil_append] at qb oH
        have mr:=run_storeCells_at P b 0 mH (Builtin.zeroCells eN.cells len).toList 0 cv w bp (by simpa using qb) v3
        simp only [Nat.add_zero,List.take_zero,List.nil_append,Nat.zero_add] at mr
        refine ⟨_,?_,oH,rfl⟩
        cases len with
        | zero=>exact absurd rfl h0
        | succ n=>simp [Builtin.clear_,run_underlying hu,zeroValue,typeInfo,ah,lg,mr]
     ·simp at ay
  ·simp at ay
end
section
variable {g:G} {s:S} {aB:fy} {a:Act} {w:World}
def l2 (row:List ae):List ae:=row.map fun I=>if I.cz = .live then {I with cz:= .jd} else I
theorem QZ (row:List ae)(k:Nat):dx (some (l2 row)) k=(dx (some row) k).map fun I=>if I.cz = .live then {I with cz:= .jd} else I:=by
 simp only [dx,l2,List.getElem?_map]
 cases row[k]? with
 | none=>rfl
 | some I =>
  obtain ⟨sz,es,cz⟩:=I
  cases cz<;>simp
theorem cW.freeze (h:cW g s aB a w){r:Nat}{row:List ae}(ap:s.a0 r=some row):cW g (s.setRow r (l2 row)) aB a w:=by
 have bt : ∀q k I,(s.setRow r (l2 row)).an q k=some I→ ∃p,s.an q k=some p∧I.sz=p.sz∧I.es=p.es∧(I.cz = .live→p.cz = .live∧q≠r):=by
  intro q k I aq
  by_cases e:q=r
  ·subst e
   have:(s.setRow q (l2 row)).a0 q=some (l2 row):=by simp [S.setRow]
   unfold S.an at aq
   rw [this,QZ] at aq
   rw [Option.map_eq_some_iff] at aq
   obtain ⟨p,ak,rfl⟩:=aq
   refine ⟨p,by unfold S.an;rw [ap];exact ak,?_⟩
   split<;>simp_all
  ·have:(s.setRow r (l2 row)).a0 q=s.a0 q:=by simp [S.setRow,e]
   unfold S.an at aq
   rw [this] at aq
   exact ⟨I,aq,rfl,rfl,fun aU=>⟨aU,e⟩⟩
 have jG : ∀q k,s.a9 q k→(s.setRow r (l2 row)).a9 q k:=El s ap (by simp [l2])
 have lu : ∀q k,(s.setRow r (l2 row)).bm aB q k=s.bm aB q k:=by
  intro q k
  by_cases e:q=r
  ·subst e
   simp only [S.bm,S.an]
   have:(s.setRow q (l2 row)).a0 q=some (l2 row):=by simp [S.setRow]
   rw [this,QZ,ap]
   cases dx (some row) k with
   | none=>rfl
   | some I=>simp only [Option.map_some,Option.some.injEq,Prod.mk.injEq,and_true];split<;>rfl
  ·have:(s.setRow r (l2 row)).a0 q=s.a0 q:=by simp [S.setRow,e]
   simp [S.bm,S.an,this]
 have di:Step g s aB w (s.setRow r (l2 row)) aB w:=⟨jG,fun q k _=> .inl (lu q k),fun b aU=>by
  obtain ⟨q,k,I,m,h1,o,af⟩:=aU
  obtain ⟨p,p1,hE,r9,De⟩:=bt q k I h1
  exact .inl ⟨q,k,p,m,p1,(De o).1,af⟩,fun _ _ _=>rfl,Nat.le_refl _⟩
 refine {toiq:=⟨?_,?_,?_,h.gL,h.mlt,h.nA,?_,h.low⟩,env:=fun t=>di.rel (h.env t),defers:=h.defers,jY:=h.jY}
 ·intro q k I aq
  obtain ⟨p,p1,hE,r9,-⟩:=bt q k I aq
  have ak:=di.obj (fun b m _=>rfl) (h.obj q k p p1)
  cases lR:aB q k with
  | none=>rw [lR] at ak;simp only [jC] at ak ⊢;rw [r9];exact ak
  | some x =>
   obtain ⟨b,m⟩:=x
   rw [lR] at ak
   obtain ⟨c,eQ,e1,aD,bP,c4⟩:=ak
   exact ⟨c,eQ,e1,aD,by rw [hE,r9];exact bP,by rw [r9];exact c4⟩
 ·intro q k I hR dD cc b m bE h1 o af av
  obtain ⟨p,p1,-⟩:=bt q k I h1
  obtain ⟨ku,aff,-⟩:=bt hR dD cc o
  exact h.inj q k p hR dD ku b m bE p1 aff af av
 ·intro q k I b m h1 o
  obtain ⟨p,p1,-⟩:=bt q k I h1
  exact h.own q k p b m p1 o
 ·intro j k aE
  obtain ⟨e1,aD⟩:=h.stay j k aE
  exact ⟨jG j k e1,by rw [lu];exact aD⟩
end
def yX (P:Program)(t:TypeId):Bool :=
 match P.underlying t with
 | some (.pointer _)=>true
 | _=>false
def zo (P:Program)(E:Nat→aF)(a0:Nat→Option (List ae))(aW:Nat)(I:Oper)(cY:fL):Option ir :=
 match I.op with
 | .call {callee:= .builtin b,args,argTypes}=>match b with
  | .len=>e5 P E a0 aW I cY
  | b=>nZ P E a0 aW b (args.toList.map (fq E)) argTypes.toList cY
 | .binOp op t x y _=>match cY,op,fq E x,fq E y with
  | .fZ,.eql,.isl _ es,.ek=>if (pQ P t).isSome then some {val:= .b false,fH:=[es≠[]]} else none
  | .fZ,.neq,.isl _ es,.ek=>if (pQ P t).isSome then some {val:= .b true,fH:=[es≠[]]} else none
  | .fZ,.eql,.kh _ none,.im=>if yX P t then some {val:= .b true} else none
  | .fZ,.neq,.kh _ none,.im=>if yX P t then some {val:= .b false} else none
  | .fZ,.eql,.kh _ (some _),.im=>if yX P t then some {val:= .b false} else none
  | .fZ,.neq,.kh _ (some _),.im=>if yX P t then some {val:= .b true} else none
  | .fZ,_,_,_=>none
  | _,_,_,_=>e5 P E a0 aW I cY
 | .nilCheck x=>match cY,fq E x with
  | .fZ,.kh sz (some c)=>some {val:= .dS sz [c] 0 0}
  | .fZ,_=>none
  | _,_=>e5 P E a0 aW I cY
 | _=>e5 P E a0 aW I cY
section
variable {P:Program} {g:G} {s:S} {aB:fy} {a:Act} {w:World} {I:Oper} {cY:fL} {aW:Nat} {bH:ir}
theorem EU {args:Array Operand}{E:Nat→aF}{x y:aF}(h:args.toList.map (fq E)=[x,y]): ∃p q,args = #[p,q]∧fq E p=x∧fq E q=y:=by
 obtain ⟨l⟩:=args
 match l,h with
 | [p,q],h=>simp at h;exact ⟨p,q,rfl,h.1,h.2⟩
theorem ac6 {args:Array Operand}{E:Nat→aF}{x:aF}(h:args.toList.map (fq E)=[x]): ∃p,args = #[p]∧fq E p=x:=by
 obtain ⟨l⟩:=args
 match l,h with
 | [p],h=>simp at h;exact ⟨p,rfl,h⟩
theorem EA {t:TypeId}(h:yX P t=true): ∃e,P.underlying t=some (.pointer e):=by
 unfold yX at h
 split at h
 ·rename_i e he;exact ⟨e,he⟩
 ·simp at h
theorem abn (h:cW g s aB a w)(e7:s.a0 aW=none)(ay:zo P s.E s.a0 aW I cY=some bH)(cH:∀p∈bH.fH,p):Fin P g s a w I bH:=by
 unfold zo at ay
 split at ay
 ·rename_i b args m8 aq
  split at ay
  ·exact Ez h e7 ay cH
  ·rename_i b aT
   unfold nZ at ay
   split at ay
   ·rename_i x y t dw m NJ hargs oy
    have vA:nZ P s.E s.a0 aW .append [x,y] [t,dw] (.aI m NJ)=some bH:=ay
    obtain ⟨p,q,rfl,rfl,rfl⟩:=EU hargs
    obtain ⟨l⟩:=m8
    simp only at oy
    subst oy
    obtain ⟨v,bT,bQ,h1,o,af⟩:=aaK (eQ:=I.type) h e7 vA cH (h.eval p) (h.eval q)
    exact ⟨v,bT,bQ,.inl (by simp [execOp,aq,resolve,invoke,builtin,h1]),o,af⟩
   ·rename_i x y t dw hargs oy
    have vA:nZ P s.E s.a0 aW .append [x,y] [t,dw] .fZ=some bH:=ay
    obtain ⟨p,q,rfl,rfl,rfl⟩:=EU hargs
    obtain ⟨l⟩:=m8
    simp only at oy
    subst oy
    obtain ⟨v,bT,h1,o,af⟩:=ac5 (eQ:=I.type) h vA cH (h.eval p) (h.eval q)
    exact ⟨v,bT,aB,.inl (by simp [execOp,aq,resolve,invoke,builtin,h1]),o,af⟩
   ·rename_i cY r k len y t dw hargs oy
    have vA:nZ P s.E s.a0 aW .copy [.bh r k 0 len,y] [t,dw] cY=some bH:=ay
    obtain ⟨p,q,rfl,ak,rfl⟩:=EU hargs
    obtain ⟨l⟩:=m8
    simp only at oy
    subst oy
    have U:=h.eval p
    rw [ak] at U
    obtain ⟨n,bT,h1,o,af⟩:=acd (eQ:=I.type) h vA cH U (h.eval q)
    refine ⟨goInt n,bT,aB,.inl (by simp [execOp,aq,resolve,invoke,builtin,h1]),o,?_⟩
    rw [af];exact .n _ _
   ·rename_i cY r k len t hargs oy
    have vA:nZ P s.E s.a0 aW .clear [.bh r k 0 len] [t] cY=some bH:=ay
    obtain ⟨p,rfl,ak⟩:=ac6 hargs
    obtain ⟨l⟩:=m8
    simp only at oy
    subst oy
    have U:=h.eval p
    rw [ak] at U
    obtain ⟨bT,h1,o,af⟩:=abm (eQ:=I.type) h vA cH U
    refine ⟨.tuple #[],bT,aB,.inl (by simp [execOp,aq,resolve,invoke,builtin,h1]),o,?_⟩
    rw [af];exact .ee [] rfl (fun j x u aE=>by simp at aE)
   ·rename_i k x dD y hargs
    split at ay
    ·rename_i ba
     simp only [Option.some.injEq] at ay
     subst ay;subst ba
     obtain ⟨p,q,rfl,ak,bb⟩:=EU hargs
     have U:=h.eval p
     have aZ:=h.eval q
     rw [ak] at U;rw [bb] at aZ
     refine iM (v:= .int k (if y<x then y else x)) h ?_ rfl (.n _ _)
     simp [execOp,aq,resolve,invoke,builtin,Builtin.min_,U.pt,aZ.pt,Builtin.min2]
    ·simp at ay
   ·simp at ay
 ·rename_i op t x y dw aq
  split at ay
  ·rename_i sz es U aZ
   split at ay
   ·rename_i he
    obtain ⟨e,he⟩:=Option.isSome_iff_exists.1 he
    simp only [Option.some.injEq] at ay
    subst ay
    have h1:=h.eval x
    have o:=h.eval y
    rw [U] at h1;rw [aZ] at o
    have c8:es≠[]:=cH _ (by simp)
    refine iM (v:= .bool false) h ?_ rfl (.b _)
    simp only [execOp,aq]
    rw [Sem.run_bind,(R2 (w:=w) (rQ he) c8 h1 o x y).1];rfl
   ·simp at ay
  ·rename_i sz es U aZ
   split at ay
   ·rename_i he
    obtain ⟨e,he⟩:=Option.isSome_iff_exists.1 he
    simp only [Option.some.injEq] at ay
    subst ay
    have h1:=h.eval x
    have o:=h.eval y
    rw [U] at h1;rw [aZ] at o
    have c8:es≠[]:=cH _ (by simp)
    refine iM (v:= .bool true) h ?_ rfl (.b _)
    simp only [execOp,aq]
    rw [Sem.run_bind,(R2 (w:=w) (rQ he) c8 h1 o x y).2];rfl
   ·simp at ay
  ·rename_i sz U aZ
   split at ay
   ·rename_i cj
    obtain ⟨e,he⟩:=EA cj
    simp only [Option.some.injEq] at ay
    subst ay
    have h1:=h.eval x
    have o:=h.eval y
    rw [U] at h1;rw [aZ] at o
    have qF:Rel w (s.ok g aB w) s.a9 (s.bm aB) .im (a.eval x):=by rw [h1.QX];exact .im
    refine iM (v:= .bool true) h ?_ rfl (.b _)
    simp only [execOp,aq]
    rw [Sem.run_bind,(yI (w:=w) (r:=true) (by simp [rZ,he]) qF o x y).1];rfl
   ·simp at ay
  ·rename_i sz U aZ
   split at ay
   ·rename_i cj
    obtain ⟨e,he⟩:=EA cj
    simp only [Option.some.injEq] at ay
    subst ay
    have h1:=h.eval x
    have o:=h.eval y
    rw [U] at h1;rw [aZ] at o
    have qF:Rel w (s.ok g aB w) s.a9 (s.bm aB) .im (a.eval x):=by rw [h1.QX];exact .im
    refine iM (v:= .bool false) h ?_ rfl (.b _)
    simp only [execOp,aq]
    rw [Sem.run_bind,(yI (w:=w) (r:=true) (by simp [rZ,he]) qF o x y).2];rfl
   ·simp at ay
  ·rename_i sz c U aZ
   split at ay
   ·rename_i cj
    obtain ⟨e,he⟩:=EA cj
    simp only [Option.some.injEq] at ay
    subst ay
    have h1:=h.eval x
    have o:=h.eval y
    rw [U] at h1;rw [aZ] at o
    refine iM (v:= .bool false) h ?_ rfl (.b _)
    simp only [execOp,aq]
    rw [Sem.run_bind,(yI (w:=w) (r:=false) (by simp [rZ,he]) h1.Ls o x y).1];rfl
   ·simp at ay
  ·rename_i sz c U aZ
   split at ay
   ·rename_i cj
    obtain ⟨e,he⟩:=EA cj
    simp only [Option.some.injEq] at ay
    subst ay
    have h1:=h.eval x
    have o:=h.eval y
    rw [U] at h1;rw [aZ] at o
    refine iM (v:= .bool true) h ?_ rfl (.b _)
    simp only [execOp,aq]
    rw [Sem.run_bind,(yI (w:=w) (r:=false) (by simp [rZ,he]) h1.Ls o x y).2];rfl
   ·simp at ay
  ·simp at ay
  ·exact Ez h e7 ay cH
 ·rename_i x aq
  split at ay
  ·rename_i sz c U
   simp only [Option.some.injEq] at ay
   subst ay
   have h1:=h.eval x
   rw [U] at h1
   have o:=h1.Ls
   obtain ⟨eg,off,aT,hval,iG⟩:=o.yP
   refine iM (v:=a.eval x) h ?_ rfl o
   rw [hval]
   simp only [execOp,aq,hval]
   rfl
  ·simp at ay
  ·exact Ez h e7 ay cH
 ·exact Ez h e7 ay cH
end
end Go.VL
namespace Go.VL
set_option linter.unusedVariables false
set_option linter.unusedSimpArgs false
open Go
theorem sl {es:List (List aF)}{j:Nat}{x:aF}(h:es.flatten[j]? = some x): ∃e∈es,x∈e:=by
 have:=List.mem_of_getElem? h
 rw [List.mem_flatten] at this
 obtain ⟨e,he,U⟩:=this
 exact ⟨e,he,U⟩
theorem Rel.pure {w:World}{ok k3:Nat→Prop}{a9 m6:js}{bm mq:jh}{x:aF}{v:Value}(h:Rel w ok a9 bm x v)(ak:Pure x)(m7:∀b,ok b→k3 b):Rel w k3 m6 mq x v:=by
 induction h with
 | dead v=>exact .dead v
 | b x=>exact .b x
 | n k x=>exact .n k x
 | s x=>exact .s x
 | im=>exact .im
 | ek=>exact .ek
 | iF a c=>exact .iF a c
 | pM=>cases ak
 | ref=>cases ak
 | ns=>cases ak
 | nO=>cases ak
 | bh=>cases ak
 | m1=>cases ak
 | nV=>cases ak
 | kf sz a c h=>exact .kf sz a c h
 | isl cs aT n3 aU bj hw iO ap ih =>
  cases ak with
  | isl h=>exact .isl cs (m7 _ aT) n3 aU bj hw iO fun j x U=>ih j x U (by obtain ⟨e,he,qG⟩:=sl U;exact h e he x qG)
 | dS cs aT n3 aU hw iO ap ih =>
  cases ak with
  | dS h=>exact .dS cs (m7 _ aT) n3 aU hw iO fun j x U=>ih j x U (by obtain ⟨e,he,qG⟩:=sl U;exact h e he x qG)
 | pv sz=>exact .pv sz
 | o5 h ih =>
  cases ak with
  | o5 ak=>exact .o5 (ih (.dS fun e he x U=>by rw [List.mem_singleton] at he;subst he;exact ak x U))
 | agg vs aU iO ap ih =>
  cases ak with
  | agg h=>exact .agg vs aU iO fun j x v U bk=>ih j x v U bk (h x (List.mem_of_getElem? U))
 | ee vs aU ap ih =>
  cases ak with
  | ee h=>exact .ee vs aU fun j x v U bk=>ih j x v U bk (h x (List.mem_of_getElem? U))
 | fn vs aU ap ih =>
  cases ak with
  | fn h=>exact .fn vs aU fun j x v U bk=>ih j x v U bk (h x (List.mem_of_getElem? U))
abbrev gO:=Nat→Nat→Option (Nat×Nat)
structure Down (q:aF→Prop):Prop where
 agg : ∀c x,q (.agg c)→x∈c→q x
 ee : ∀c x,q (.ee c)→x∈c→q x
 fn : ∀f c x,q (.fn f c)→x∈c→q x
inductive hS (s:S) (a2:gO) (b8:gm→Bool) (q:aF→Prop):aF→aF→Prop
 | dead (x:aF):hS s a2 b8 q x .dead
 | pure {x:aF} (h:Pure x) (bb:q x):hS s a2 b8 q x x
 | ek (sz:Nat):hS s a2 b8 q .ek (.isl sz [])
 | iF (sz:Nat):hS s a2 b8 q .iF (.isl sz [])
 | Fc (sz:Nat):hS s a2 b8 q .im (.kh sz none)
 | kh {sz:Nat} {x:aF} {c:List aF} (h:hS s a2 b8 q x (.dS sz [c] 0 0)):hS s a2 b8 q x (.kh sz (some c))
 | ref {r k j eO:Nat} (i off:Nat) (h:a2 j eO=some (r,k)) (hu:s.a9 r k):hS s a2 b8 q (.ref r k i off) (.ref j eO i off)
 | bh {r k j eO:Nat} (b3 len:Nat) (h:a2 j eO=some (r,k)) (hu:s.a9 r k):hS s a2 b8 q (.bh r k b3 len) (.bh j eO b3 len)
 | m1 (r c sz:Nat):hS s a2 b8 q (.i5 r c sz none) (.isl sz [])
 | nV {r c sz k n:Nat} {cR:aF} (h:hS s a2 b8 q (.bh r (k+c) 0 n) cR):hS s a2 b8 q (.i5 r c sz (some (k,n))) cR
 | i5 {r eR c d7 sz:Nat} (h:Option (Nat×Nat)) (hm : ∀k,a2 eR (k+d7)=some (r,k+c)):hS s a2 b8 q (.i5 r c sz h) (.i5 eR d7 sz h)
 | dS {r k:Nat} {I:ae} {gx:List (List aF)} (i off:Nat) (aq:s.an r k=some I) (bJ:b8 I.cz=true) (ap:(∀j i,a2 j i≠some (r,k))) (c8:I.es≠[]) (ak:iY gx) (hle : ∀e∈gx,e.length=I.sz) (aU:gx.length=I.es.length)
  (h : ∀(j:Nat) x cR,I.es.flatten[j]? = some x→gx.flatten[j]? = some cR→hS s a2 b8 q x cR):hS s a2 b8 q (.ref r k i off) (.dS I.sz gx i off)
 | isl {r k b3 len:Nat} {I:ae} {gx:List (List aF)} (aq:s.an r k=some I) (bJ:b8 I.cz=true) (ap:(∀j i,a2 j i≠some (r,k))) (iD:b3+len≤I.es.length) (ak:iY gx) (hle : ∀e∈gx,e.length=I.sz) (aU:gx.length=len)
  (h : ∀(j:Nat) x cR,((I.es.drop b3).take len).flatten[j]? = some x→gx.flatten[j]? = some cR→hS s a2 b8 q x cR):hS s a2 b8 q (.bh r k b3 len) (.isl I.sz gx)
 | agg {c d7:List aF} (aU:d7.length=c.length) (h : ∀(j:Nat) x cR,c[j]? = some x→d7[j]? = some cR→hS s a2 b8 q x cR):hS s a2 b8 q (.agg c) (.agg d7)
 | ee {c d7:List aF} (aU:d7.length=c.length) (h : ∀(j:Nat) x cR,c[j]? = some x→d7[j]? = some cR→hS s a2 b8 q x cR):hS s a2 b8 q (.ee c) (.ee d7)
 | fn {f:Nat} {c d7:List aF} (aU:d7.length=c.length) (h : ∀(j:Nat) x cR,c[j]? = some x→d7[j]? = some cR→hS s a2 b8 q x cR):hS s a2 b8 q (.fn f c) (.fn f d7)
theorem rI {sz:Nat}: ∀(es:List (List aF)),(∀e∈es,e.length=sz)→es.flatten.length=es.length*sz
 | [],_=>by simp
 | e::es,h=>by
  rw [List.flatten_cons,List.length_append,rI es fun x U=>h x (by simp [U]),h e (by simp),List.length_cons,Nat.add_mul];omega
theorem gb {α:Type}{l:List α}{j:Nat}{x:α}(h:l[j]? = some x):j<l.length:=by
 rcases Nat.lt_or_ge j l.length with cP|cP
 ·exact cP
 ·rw [List.getElem?_eq_none cP] at h;simp at h
theorem hS.rel {g:G}{s:S}{aB:fy}{w:World}{a2:gO}{b8:gm→Bool}{q:aF→Prop}(eo:iq g s aB w){k3:Nat→Prop}{m6:js}{mq:jh}
 (H1 : ∀x v,q x→Pure x→Rel w (s.ok g aB w) s.a9 (s.bm aB) x v→Rel w k3 m6 mq x v)
 (Gc : ∀r k I b m,s.an r k=some I→b8 I.cz=true→(∀j i,a2 j i≠some (r,k))→aB r k=some (b,m)→k3 b)
 (Df : ∀j i r k,a2 j i=some (r,k)→s.a9 r k→m6 j i∧(mq j i=s.bm aB r k∨mq j i=none)) {x cR:aF} (b6:hS s a2 b8 q x cR) :
 ∀ {v:Value},Rel w (s.ok g aB w) s.a9 (s.bm aB) x v→Rel w k3 m6 mq cR v:=by
 induction b6 with
 | dead x=>intro v _;exact .dead v
 | pure ak bb=>intro v ap;exact H1 _ v bb ak ap
 | ek sz=>intro v ap;rw [ap.pJ];exact .kf sz none 0 (fun _=>rfl)
 | iF sz=>intro v ap;obtain ⟨a,c,rfl⟩:=ap.ES;exact .kf sz (some a) c (fun h=>by simp at h)
 | Fc sz=>intro v ap;rw [ap.vi];exact .pv sz
 | kh h ih=>intro v ap;exact .o5 (ih ap)
 | @ref r k j eO i off aE hu =>
  intro v ap
  obtain ⟨h1,o⟩:=Df j eO r k aE hu
  cases ap with
  | pM a oA a5 =>
   refine .pM a h1 fun sz p=> ?_
   rcases o with e|e<;>rw [e]
   ·exact a5 sz p
   ·simp
  | ref oA cj =>
   rcases o with e|e
   ·exact .ref h1 (e.trans cj)
   ·exact .pM _ h1 fun sz p=>by rw [e];simp
 | @bh r k j eO b3 len aE hu =>
  intro v ap
  obtain ⟨h1,o⟩:=Df j eO r k aE hu
  cases ap with
  | ns a l c oA a5 =>
   refine .ns a l c h1 ?_
   rcases o with e|e<;>rw [e]
   exact a5
  | nO oA cj =>
   rcases o with e|e
   ·exact .nO h1 (e.trans cj)
   ·exact .ns _ _ _ h1 e
  | bh oA cj aU bj hm =>
   rcases o with e|e
   ·exact .bh h1 (e.trans cj) aU bj hm
   ·exact .ns _ _ _ h1 e
 | m1 r c sz =>
  intro v ap
  cases ap with
  | m1 h0 =>
   rcases h0.sw with ⟨-,a,c,rfl,bJ⟩|⟨eg,off,c,-,rfl,-⟩
   ·exact .kf sz a c bJ
   ·exact .kf sz _ c (fun h=>by simp at h)
 | nV h ih =>
  intro v ap
  cases ap with
  | nV h0=>exact ih h0
 | @i5 r eR c d7 sz h hm =>
  intro v ap
  cases ap with
  | m1 h0 =>
   rcases h0.sw with ⟨-,a,c,rfl,bJ⟩|⟨eg,off,c,-,rfl,-⟩
   ·exact .m1 (.kf sz a c bJ)
   ·exact .m1 (.kf sz _ c (fun h=>by simp at h))
  | @nV _ _ _ k n _ h0 =>
   refine .nV ?_
   cases h0 with
   | ns a l bp oA a5 =>
    obtain ⟨h1,o⟩:=Df _ _ _ _ (hm k) oA
    refine .ns a l bp h1 ?_
    rcases o with e|e<;>rw [e]
    exact a5
   | nO oA cj =>
    obtain ⟨h1,o⟩:=Df _ _ _ _ (hm k) oA
    rcases o with e|e
    ·exact .nO h1 (e.trans cj)
    ·exact .ns _ _ _ h1 e
   | bh oA cj aU bj ms =>
    obtain ⟨h1,o⟩:=Df _ _ _ _ (hm k) oA
    rcases o with e|e
    ·exact .bh h1 (e.trans cj) aU bj ms
    ·exact .ns _ _ _ h1 e
 | @dS r k I gx i off aq bJ ap c8 MU hle aU h ih =>
  intro v bk
  have fG:=eo.obj r k I aq
  rcases bk.yO (iN aq) with h0|⟨b,m,ak,hval⟩
  ·rw [h0] at fG;exact absurd fG c8
  ·rw [ak] at fG
   have iG:=fG.rd
   rw [hval]
   have jZ:gx.flatten.length=I.es.flatten.length:=by rw [rI gx hle,rI I.es iG.1,aU]
   have vI:oG w k3 m6 mq b 0 I.sz gx:=by
    refine ⟨hle,fun j cR dV=> ?_⟩
    have d3:j<I.es.flatten.length:=by rw [← jZ];exact gb dV
    have U:I.es.flatten[j]? = some I.es.flatten[j]:=List.getElem?_eq_getElem d3
    obtain ⟨u,e1,aD,bP⟩:=iG.2 j _ U
    exact ⟨u,e1,aD,ih j _ cR U dV bP⟩
   have:=vI.dS (i:=i) (off:=off) ⟨Gc r k I b m aq bJ ap ak,MU⟩
   rw [Nat.zero_add] at this
   exact this
 | @isl r k b3 len I gx aq bJ ap iD MU hle aU h ih =>
  intro v bk
  have fG:=eo.obj r k I aq
  rcases bk.Bp (iN aq) with ⟨ak,rfl,rfl,hval⟩|⟨b,m,A,c,ak,hval,rj,sU,hm⟩
  ·have:gx=[]:=List.length_eq_zero_iff.1 aU
   subst this
   rw [hval];exact .kf _ none 0 (fun _=>rfl)
  ·rw [ak] at fG
   rw [hval]
   rcases Nat.eq_zero_or_pos len with h0|kg
   ·subst h0
    have:gx=[]:=List.length_eq_zero_iff.1 aU
    subst this
    exact .kf _ A c (fun a5=>by rcases hm with h1|⟨h1,-⟩<;>simp_all)
   ·rcases hm with hm|⟨hA,hm⟩
    ·omega
    ·subst hA
     have iG:=Em fG.rd b3 len (by omega)
     rw [Nat.zero_add] at iG
     have jZ:gx.flatten.length=((I.es.drop b3).take len).flatten.length:=by
      rw [rI gx hle,rI _ iG.1,aU,List.length_take,List.length_drop,Nat.min_eq_left (by omega)]
     have vI:oG w k3 m6 mq b (b3*I.sz) I.sz gx:=by
      refine ⟨hle,fun j cR dV=> ?_⟩
      have d3:j<((I.es.drop b3).take len).flatten.length:=by rw [← jZ];exact gb dV
      have U:=List.getElem?_eq_getElem d3
      obtain ⟨u,e1,aD,bP⟩:=iG.2 j _ U
      exact ⟨u,e1,aD,ih j _ cR U dV bP⟩
     have:=vI.isl (c:=c) ⟨Gc r k I b m aq bJ ap ak,MU⟩ (by omega)
     rw [aU] at this
     exact this
 | @agg c d7 aU h ih =>
  intro v bk
  obtain ⟨vs,rfl,h1,o,af⟩:=bk.Bo
  refine .agg vs (by omega) o fun j cR u dV hu=> ?_
  have d3:j<c.length:=by have:=gb dV;omega
  exact ih j _ cR (List.getElem?_eq_getElem d3) dV (af j _ u (List.getElem?_eq_getElem d3) hu)
 | @ee c d7 aU h ih =>
  intro v bk
  obtain ⟨vs,rfl,h1,af⟩:=bk.yN
  refine .ee vs (by omega) fun j cR u dV hu=> ?_
  have d3:j<c.length:=by have:=gb dV;omega
  exact ih j _ cR (List.getElem?_eq_getElem d3) dV (af j _ u (List.getElem?_eq_getElem d3) hu)
 | @fn f c d7 aU h ih =>
  intro v bk
  obtain ⟨vs,rfl,h1,af⟩:=bk.E3
  refine .fn vs (by omega) fun j cR u dV hu=> ?_
  have d3:j<c.length:=by have:=gb dV;omega
  exact ih j _ cR (List.getElem?_eq_getElem d3) dV (af j _ u (List.getElem?_eq_getElem d3) hu)
structure oB (s:S) (a2:gO) (b8:gm→Bool) (q:aF→Prop) (I cc:ae):Prop where
 sz:cc.sz=I.sz
 cz:cc.cz=I.cz∨(cc.cz = .jd∧I.cz = .live)∨cc.cz = .gone
 len:cc.es.length=I.es.length
 each : ∀e∈cc.es,e.length=I.sz
 at_ : ∀(j:Nat) x cR,I.es.flatten[j]? = some x→cc.es.flatten[j]? = some cR→hS s a2 b8 q x cR
structure pY (s:S) (a2:gO) (b8:gm→Bool) (q:aF→Prop) (hX:Nat→Option (List ae)):Prop where
 inj : ∀j i h5 eO p,a2 j i=some p→a2 h5 eO=some p→j=h5∧i=eO
 at_ : ∀j i cc,dx (hX j) i=some cc→ ∃r k I,a2 j i=some (r,k)∧s.an r k=some I∧oB s a2 b8 q I cc
 a9 : ∀j i r k,a2 j i=some (r,k)→s.a9 r k→i<((hX j).getD []).length
def j0 (aB:fy)(a2:gO):fy:=fun j i=>match a2 j i with
 | some (r,k)=>aB r k
 | none=>none
theorem yY {aB:fy}{a2:gO}{j i r k:Nat}(h:a2 j i=some (r,k)):j0 aB a2 j i=aB r k:=by simp [j0,h]
def l9 (_:aF):Prop:=True
theorem ad9:Down l9:=⟨fun _ _ _ _=>trivial,fun _ _ _ _=>trivial,fun _ _ _ _ _=>trivial⟩
section
variable {g:G} {s:S} {aB:fy} {w:World} {a2:gO} {b8:gm→Bool} {q:aF→Prop} {bW:S}
theorem pY.an (h:pY s a2 b8 q bW.a0){j i:Nat}{cc:ae}(aq:bW.an j i=some cc): ∃r k I,a2 j i=some (r,k)∧s.an r k=some I∧oB s a2 b8 q I cc:=h.at_ j i cc aq
theorem RB {I cc:ae}(h:oB s a2 b8 q I cc)(aU:cc.cz = .live):I.cz = .live:=by
 rcases h.cz with e|⟨e,-⟩|e
 ·exact e.symm.trans aU
 ·rw [e] at aU;simp at aU
 ·rw [e] at aU;simp at aU
theorem pY.live (h:pY s a2 b8 q bW.a0)(b:Nat)(aU:bW.l1 (j0 aB a2) b): ∃r k I m,s.an r k=some I∧I.cz = .live∧aB r k=some (b,m)∧ ∃j i,a2 j i=some (r,k):=by
 obtain ⟨j,i,cc,m,h1,o,af⟩:=aU
 obtain ⟨r,k,I,e1,aD,bP⟩:=h.an h1
 rw [yY e1] at af
 exact ⟨r,k,I,m,aD,RB bP o,af,j,i,e1⟩
theorem pY.FF (h:pY s a2 b8 q bW.a0){j i r k:Nat}(aE:a2 j i=some (r,k)):bW.bm (j0 aB a2) j i=s.bm aB r k∨bW.bm (j0 aB a2) j i=none:=by
 cases aq:bW.an j i with
 | none=>right;simp [S.bm,aq]
 | some cc =>
  obtain ⟨eR,dD,I,e1,aD,bP⟩:=h.an aq
  rw [aE] at e1;simp only [Option.some.injEq,Prod.mk.injEq] at e1
  obtain ⟨rfl,rfl⟩:=e1
  left
  rw [iN aq,iN aD,bP.sz,yY aE]
theorem iq.NK (eo:iq g s aB w)(h:pY s a2 b8 q bW.a0){gd:G}(ba:B1 gd w)(BN:∀j k,gd.pc j k→bW.a9 j k∧(bW.bm (j0 aB a2) j k=gd.ri j k∨bW.bm (j0 aB a2) j k=none))(Cb:∀j k,gd.pc j k→j<gd.m)
 (aeD : ∀b,gd.pD b→b<gd.mO.heap.size) (halt : ∀b,gd.A b→b<gd.mO.heap.size)
 (Mv : ∀r k I b m,(∃j i,a2 j i=some (r,k))→s.an r k=some I→aB r k=some (b,m)→gd.mO.heap.size≤b∨gd.pD b)
 (H1 : ∀b,s.ok g aB w b→bW.ok gd (j0 aB a2) w b)
 (Gc : ∀r k I b m,s.an r k=some I→b8 I.cz=true→(∀j i,a2 j i≠some (r,k))→aB r k=some (b,m)→bW.ok gd (j0 aB a2) w b) :
 iq gd bW (j0 aB a2) w∧ ∀ {x cR:aF} {v:Value},hS s a2 b8 q x cR→Rel w (s.ok g aB w) s.a9 (s.bm aB) x v→Rel w (bW.ok gd (j0 aB a2) w) bW.a9 (bW.bm (j0 aB a2)) cR v:=by
 have fG : ∀ {x cR:aF} {v:Value},hS s a2 b8 q x cR→Rel w (s.ok g aB w) s.a9 (s.bm aB) x v→Rel w (bW.ok gd (j0 aB a2) w) bW.a9 (bW.bm (j0 aB a2)) cR v :=
  fun b6 ap=>b6.rel eo (fun x v _ ak ap=>ap.pure ak H1) Gc (fun j i r k aE hu=>⟨h.a9 j i r k aE hu,h.FF aE⟩) ap
 refine ⟨⟨?_,?_,?_,ba,aeD,halt,BN,Cb⟩,fG⟩
 ·intro j k cc d9
  obtain ⟨r,dD,I,e1,aD,bP⟩:=h.an d9
  have bt:=eo.obj r dD I aD
  rw [yY e1]
  cases ak:aB r dD with
  | none =>
   rw [ak] at bt
   simp only [jC] at bt ⊢
   apply List.length_eq_zero_iff.1
   rw [bP.len,bt];rfl
  | some q =>
   obtain ⟨b,m⟩:=q
   rw [ak] at bt
   obtain ⟨c,eQ,h1,o,af,av⟩:=bt
   have jZ:cc.es.flatten.length=I.es.flatten.length:=by rw [rI _ bP.each,rI _ af,bP.len]
   refine ⟨c,eQ,h1,o,by rw [bP.sz];exact bP.each,fun i cR dV=> ?_⟩
   have d3:i<I.es.flatten.length:=by rw [← jZ];exact gb dV
   have U:=List.getElem?_eq_getElem d3
   obtain ⟨u,f1,f2,f3⟩:=av i _ U
   exact ⟨u,f1,f2,fG (bP.at_ i _ cR U dV) f3⟩
 ·intro j k I h5 dD cc b m bE h1 o af av
  obtain ⟨r,lk,p,e1,aD,-⟩:=h.an h1
  obtain ⟨eR,afg,ku,nc,pz,-⟩:=h.an o
  rw [yY e1] at af
  rw [yY nc] at av
  obtain ⟨rfl,rfl⟩:=eo.inj r lk p eR afg ku b m bE aD pz af av
  exact h.inj _ _ _ _ _ e1 nc
 ·intro j k I b m h1 o
  obtain ⟨r,lk,p,e1,aD,-⟩:=h.an h1
  rw [yY e1] at o
  exact Mv r lk p b m ⟨j,k,e1⟩ aD o
theorem cW.RC {a:Act}(h:cW g s aB a w)(c5:pY s a2 (fun _=>true) q bW.a0)(ez:∀t,hS s a2 (fun _=>true) q (s.E t) (bW.E t))(Cc:∀j k,g.pc j k→a2 j k=some (j,k)):cW g bW (j0 aB a2) a w:=by
 have hU : ∀b,bW.l1 (j0 aB a2) b→s.l1 aB b:=fun b aU=>by
  obtain ⟨r,k,I,m,h1,o,af,-⟩:=c5.live b aU
  exact ⟨r,k,I,m,h1,o,af⟩
 have BN : ∀j k,g.pc j k→bW.a9 j k∧(bW.bm (j0 aB a2) j k=g.ri j k∨bW.bm (j0 aB a2) j k=none):=by
  intro j k aE
  obtain ⟨e1,aD⟩:=h.stay j k aE
  refine ⟨c5.a9 j k j k (Cc j k aE) e1,?_⟩
  rcases c5.FF (aB:=aB) (Cc j k aE) with e|e
  ·rw [e];exact aD
  ·exact .inr e
 obtain ⟨h1,o⟩:=h.toiq.NK c5 h.gL BN h.low h.mlt h.nA (fun r k I b m _ aq ak=>h.own r k I b m aq ak)
  (fun b aT=>⟨aT.1,aT.2.1,fun aU=>aT.2.2 (hU b aU)⟩)
  (fun r k I b m aq _ ap ak=>by
    have bt:=h.obj r k I aq
    rw [ak] at bt
    obtain ⟨c,eQ,e1,-⟩:=bt
    refine ⟨(Array.getElem?_eq_some_iff.1 e1).1,?_,fun aU=> ?_⟩
    ·rcases h.own r k I b m aq ak with e|e
     ·exact .inr (.inl e)
     ·exact .inr (.inr e)
    ·obtain ⟨eR,dD,cc,bE,f1,f2,f3,⟨NL,Dg,f4⟩⟩:=c5.live b aU
     obtain ⟨rfl,rfl⟩:=h.inj r k I eR dD cc b m bE aq f1 ak f3
     exact ap NL Dg f4)
 exact {toiq:=h1,env:=fun t=>o (ez t) (h.env t),defers:=h.defers,jY:=h.jY}
end
end Go.VL
namespace Go.VL
set_option linter.unusedVariables false
set_option linter.unusedSimpArgs false
open Go
def fh (T:List (List ae)):S:={E:=fun _=> .dead,a0:=fun r=>T[r]?}
def aea (P:Program)(f:FuncId)(args:List aF)(T:List (List ae))(r:aF)(iL:List (List ae)):Prop :=
 ∀(g:G) (aB:fy) (w:World) (vs:Array Value),g.mO=w→g.m=T.length→g.pc=(fh T).a9→g.ri=(fh T).bm aB→iq g (fh T) aB w→vs.size=args.length →
  (∀(j:Nat) x v,args[j]? = some x→vs[j]? = some v→Rel w ((fh T).ok g aB w) (fh T).a9 ((fh T).bm aB) x v) →
  Calls P f vs w fun e bT=> ∃v bQ,e = .returned v∧iq g (fh iL) bQ bT∧Rel bT ((fh iL).ok g bQ bT) (fh iL).a9 ((fh iL).bm bQ) r v
inductive bR:aF→Prop
 | dead:bR .dead
 | b (x:Bool):bR (.b x)
 | n (k:IntKind) (x:Int):bR (.n k x)
 | s (x:ByteArray):bR (.s x)
 | im:bR .im
 | ek:bR .ek
 | iF:bR .iF
 | kf (sz:Nat):bR (.isl sz [])
 | ref (r k i off:Nat):bR (.ref r k i off)
 | bh (r k b3 len:Nat):bR (.bh r k b3 len)
 | i5 (r c sz:Nat) (h:Option (Nat×Nat)):bR (.i5 r c sz h)
 | agg {c:List aF} (h : ∀x∈c,bR x):bR (.agg c)
 | ee {c:List aF} (h : ∀x∈c,bR x):bR (.ee c)
theorem aeb:Down bR:=⟨fun _ _ h U=>by cases h with|agg h=>exact h _ U,fun _ _ h U=>by cases h with|ee h=>exact h _ U,fun _ _ _ h=>by cases h⟩
theorem Rel.ej {w bT:World}{ok k3:Nat→Prop}{a9 m6:js}{bm mq:jh}{x:aF}(b6:bR x): ∀ {v:Value},Pure x→Rel w ok a9 bm x v→Rel bT k3 m6 mq x v:=by
 induction b6 with
 | dead=>intro v _ h;exact .dead v
 | b x=>intro v _ h;rw [h.tJ];exact .b x
 | n k x=>intro v _ h;rw [h.pt];exact .n k x
 | s x=>intro v _ h;rw [h.y5];exact .s x
 | im=>intro v _ h;rw [h.vi];exact .im
 | ek=>intro v _ h;rw [h.pJ];exact .ek
 | iF=>intro v _ h;obtain ⟨a,c,rfl⟩:=h.ES;exact .iF a c
 | kf sz =>
  intro v _ h
  rcases h.sw with ⟨-,a,c,rfl,bJ⟩|⟨eg,off,c,-,rfl,-⟩
  ·exact .kf sz a c bJ
  ·exact .kf sz _ c (fun h=>by simp at h)
 | ref=>intro v ak;cases ak
 | bh=>intro v ak;cases ak
 | i5=>intro v ak;cases ak
 | @agg c bj ih =>
  intro v ak h
  obtain ⟨vs,rfl,h1,o,af⟩:=h.Bo
  cases ak with
  | agg ak=>exact .agg vs h1 o fun j x u U hu=>ih x (List.mem_of_getElem? U) (ak x (List.mem_of_getElem? U)) (af j x u U hu)
 | @ee c bj ih =>
  intro v ak h
  obtain ⟨vs,rfl,h1,af⟩:=h.yN
  cases ak with
  | ee ak=>exact .ee vs h1 fun j x u U hu=>ih x (List.mem_of_getElem? U) (ak x (List.mem_of_getElem? U)) (af j x u U hu)
section
variable {P:Program} {g:G} {s:S} {aB:fy} {a:Act} {w:World}
theorem BC (h:iq g s aB w){r k b m:Nat}{I:ae}(aq:s.an r k=some I)(ak:aB r k=some (b,m)):b<w.heap.size:=by
 have:=h.obj r k I aq
 rw [ak] at this
 obtain ⟨c,eQ,e,-⟩:=this
 exact (Array.getElem?_eq_some_iff.1 e).1
theorem adG (h:iq g s aB w){r k b m:Nat}{I:ae}(aq:s.an r k=some I)(ba:I.cz = .jd)(ak:aB r k=some (b,m)):s.ok g aB w b:=by
 refine ⟨BC h aq ak,?_,?_⟩
 ·rcases h.own r k I b m aq ak with e|e
  ·exact .inr (.inl e)
  ·exact .inr (.inr e)
 ·rintro ⟨eR,dD,cc,bE,h1,o,af⟩
  obtain ⟨rfl,rfl⟩:=h.inj r k I eR dD cc b m bE aq h1 ak af
  rw [aq] at h1;simp at h1;subst h1;rw [ba] at o;simp at o
theorem enter (h:iq g s aB w){a2:gO}{b8:gm→Bool}{q:aF→Prop}{T:List (List ae)}(A:Nat→Prop)
 (hA : ∀b,A b→b<w.heap.size) (MV : ∀b,s.ok g aB w b→A b)
 (MW : ∀r k I b m,s.an r k=some I→b8 I.cz=true→aB r k=some (b,m)→A b)
 (c5:pY s a2 b8 q (fh T).a0) (pP : ∀r k I,(∃j i,a2 j i=some (r,k))→s.an r k=some I→I.cz = .live) :
 ∃gd:G,gd.mO=w∧gd.A=A∧gd.m=T.length∧gd.pc=(fh T).a9∧gd.ri=(fh T).bm (j0 aB a2) ∧
  (gd.pD=fun b=> ∃r k I m,(∃j i,a2 j i=some (r,k))∧s.an r k=some I∧aB r k=some (b,m))∧iq gd (fh T) (j0 aB a2) w ∧
  ∀ {x cR:aF} {v:Value},hS s a2 b8 q x cR→Rel w (s.ok g aB w) s.a9 (s.bm aB) x v→Rel w ((fh T).ok gd (j0 aB a2) w) (fh T).a9 ((fh T).bm (j0 aB a2)) cR v:=by
 let gd:G:={mO:=w,A:=A,pD:=fun b=> ∃r k I m,(∃j i,a2 j i=some (r,k))∧s.an r k=some I∧aB r k=some (b,m),N:=0,m:=T.length,pc:=(fh T).a9,ri:=(fh T).bm (j0 aB a2)}
 refine ⟨gd,rfl,rfl,rfl,rfl,rfl,rfl,?_⟩
 have hU : ∀b,(fh T).l1 (j0 aB a2) b→ ∃r k I m,s.an r k=some I∧I.cz = .live∧aB r k=some (b,m)∧ ∃j i,a2 j i=some (r,k):=fun b aU=>c5.live b aU
 refine iq.NK (bW:=fh T) (gd:=gd) h c5 ⟨rfl,rfl,rfl,Nat.le_refl _,fun _ _ _=>rfl⟩ (fun j k aE=>⟨aE,.inl rfl⟩) ?_ ?_ hA ?_ ?_ ?_
 ·intro j k aE
  have aE:k<((T[j]?).getD []).length:=aE
  rcases Nat.lt_or_ge j T.length with h1|h1
  ·exact h1
  ·rw [List.getElem?_eq_none h1] at aE;simp at aE
 ·rintro b ⟨r,k,I,m,-,aq,ak⟩
  exact BC h aq ak
 ·intro r k I b m hm aq ak
  exact .inr ⟨r,k,I,m,hm,aq,ak⟩
 ·intro b aT
  refine ⟨aT.1,.inl (MV b aT),fun aU=> ?_⟩
  obtain ⟨r,k,I,m,h1,o,af,-⟩:=hU b aU
  exact aT.2.2 ⟨r,k,I,m,h1,o,af⟩
 ·intro r k I b m aq bJ ap ak
  refine ⟨BC h aq ak,.inl (MW r k I b m aq bJ ak),fun aU=> ?_⟩
  obtain ⟨eR,dD,cc,bE,h1,o,af,⟨j,i,aE⟩⟩:=hU b aU
  obtain ⟨rfl,rfl⟩:=h.inj r k I eR dD cc b m bE aq h1 ak af
  exact ap j i aE
theorem leave (h:cW g s aB a w){bT:World}{a2 kU:gO}{b8:gm→Bool}{q0 q:aF→Prop}{gd:G}{T eV:List (List ae)}{k4:fy}
 (dF:gd.mO=w) (hA:(∀b,gd.A b→s.ok g aB w b)∨(∀x,q x→bR x)) (vR:gd.pc=(fh T).a9) (lu:gd.ri=(fh T).bm (j0 aB a2))
 (eo:gd.pD=fun b=> ∃r k I m,(∃j i,a2 j i=some (r,k))∧s.an r k=some I∧aB r k=some (b,m))
 (pP : ∀r k I,(∃j i,a2 j i=some (r,k))→s.an r k=some I→I.cz = .live)
 (c5:pY s a2 b8 q0 (fh T).a0) (h1:iq gd (fh eV) k4 bT)
 (BO : ∀j i r k,a2 j i=some (r,k)→kU r k=some (j,i)) (Fm : ∀r k j i,kU r k=some (j,i)→a2 j i=some (r,k)∨ ¬s.a9 r k)
 (aeE : ∀r k eR dD p,kU r k=some p→kU eR dD=some p→r=eR∧k=dD)
 {s2:S} (ez:s2.E=s.E)
 (bt : ∀r k I,s2.an r k=some I→(∃j i p,kU r k=some (j,i)∧(fh eV).an j i=some p∧oB (fh eV) kU (fun _=>false) q p I)∨(kU r k=none∧s.an r k=some I))
 (jG : ∀r k,s.a9 r k→s2.a9 r k) (aeF : ∀r k j i,kU r k=some (j,i)→(fh eV).a9 j i→s2.a9 r k)
 {x cR:aF} {v:Value} (U:hS (fh eV) kU (fun _=>false) q x cR) (bk:Rel bT ((fh eV).ok gd k4 bT) (fh eV).a9 ((fh eV).bm k4) x v) :
 ∃lD,cW g s2 lD a bT∧Rel bT (s2.ok g lD bT) s2.a9 (s2.bm lD) cR v:=by
 let lD:fy:=fun r k=>match kU r k with|some (j,i)=>k4 j i|none=>aB r k
 have p1 : ∀r k j i,kU r k=some (j,i)→lD r k=k4 j i:=fun r k j i e=>by simp [lD,e]
 have hE : ∀r k,kU r k=none→lD r k=aB r k:=fun r k e=>by simp [lD,e]
 have ba:=h1.gL
 have fc:w.heap.size≤bT.heap.size:=by have:=ba.size;rw [dF] at this;exact this
 have sN : ∀b,b<w.heap.size→ ¬gd.pD b→bT.heap[b]? = w.heap[b]? := fun b aT lf=>by
  have:=ba.block b (by rw [dF];exact aT) lf
  rw [dF] at this;exact this
 have FG : ∀j k p b m,(fh eV).an j k=some p→k4 j k=some (b,m)→w.heap.size≤b∨ ∃r dD I bE,(∃j i,a2 j i=some (r,dD))∧s.an r dD=some I∧aB r dD=some (b,bE):=by
  intro j k p b m ak aT
  rcases h1.own j k p b m ak aT with e|e
  ·rw [dF] at e;exact .inl e
  ·rw [eo] at e;exact .inr e
 have hold : ∀q k I b m,kU q k=none→s.an q k=some I→aB q k=some (b,m)→b<w.heap.size∧ ¬gd.pD b:=by
  intro q k I b m bb aq ak
  refine ⟨BC h.toiq aq ak,fun lf=> ?_⟩
  rw [eo] at lf
  obtain ⟨r,dD,cc,bE,⟨j,i,ap⟩,d9,n3⟩:=lf
  obtain ⟨rfl,rfl⟩:=h.inj q k I r dD cc b m bE aq d9 ak n3
  rw [BO _ _ _ _ ap] at bb;simp at bb
 have R4 : ∀b,s2.l1 lD b→(fh eV).l1 k4 b∨(∃q k I m,kU q k=none∧s.an q k=some I∧I.cz = .live∧aB q k=some (b,m)):=by
  rintro b ⟨q,k,I,m,aq,n2,ak⟩
  rcases bt q k I aq with ⟨j,i,p,e1,aD,bP⟩|⟨e1,aD⟩
  ·rw [p1 _ _ _ _ e1] at ak
   exact .inl ⟨j,i,p,m,aD,RB bP n2,ak⟩
  ·rw [hE _ _ e1] at ak
   exact .inr ⟨q,k,I,m,e1,aD,n2,ak⟩
 have m7 : ∀b,s.ok g aB w b→s2.ok g lD bT b:=by
  intro b aT
  refine ⟨Nat.lt_of_lt_of_le aT.1 fc,aT.2.1,fun aU=> ?_⟩
  rcases R4 b aU with ⟨j,k,p,m,e1,aD,bP⟩|⟨q,k,I,m,e1,aD,bP,c4⟩
  ·rcases FG j k p b m e1 bP with e|⟨r,dD,I,bE,ap,aq,ak⟩
   ·have:=aT.1;omega
   ·exact aT.2.2 ⟨r,dD,I,bE,aq,pP r dD I ap aq,ak⟩
  ·exact aT.2.2 ⟨q,k,I,m,aD,bP,c4⟩
 have SW : ∀r k,s.a9 r k→s2.bm lD r k=s.bm aB r k∨s2.bm lD r k=none:=by
  intro r k ap
  cases aq:s2.an r k with
  | none=>right;simp [S.bm,aq]
  | some I =>
   left
   rcases bt r k I aq with ⟨j,i,p,e1,aD,bP⟩|⟨e1,aD⟩
   ·rcases Fm r k j i e1 with aE|aE
    ·have mr:=(h1.stay j i (by rw [vR];exact c5.a9 _ _ _ _ aE ap)).2
     rw [lu,iN aD] at mr
     have mr:some (p.sz,k4 j i)=(fh T).bm (j0 aB a2) j i:=by
      rcases mr with e|e
      ·exact e
      ·simp at e
     have:=c5.FF (bW:=fh T) (aB:=aB) aE
     rw [← mr] at this
     rw [iN aq,bP.sz,p1 _ _ _ _ e1]
     rcases this with e|e
     ·exact e
     ·simp at e
    ·exact absurd ap aE
   ·rw [iN aq,iN aD,hE _ _ e1]
 have aec : ∀b,s.ok g aB w b→bT.heap[b]? = w.heap[b]? := by
  intro b aT
  refine sN b aT.1 fun lf=> ?_
  rw [eo] at lf
  obtain ⟨r,dD,I,bE,ap,aq,ak⟩:=lf
  exact aT.2.2 ⟨r,dD,I,bE,aq,pP r dD I ap aq,ak⟩
 have fG : ∀ {y:aF} {u:Value},Rel w (s.ok g aB w) s.a9 (s.bm aB) y u→Rel bT (s2.ok g lD bT) s2.a9 (s2.bm lD) y u :=
  fun ap=>ap.mono m7 aec jG SW
 have aeG:(∀b,gd.A b→s.ok g aB w b)→ ∀b,(fh eV).ok gd k4 bT b→s2.ok g lD bT b:=by
  intro hA b aT
  have Mv:g.A b∨g.mO.heap.size≤b∨g.pD b:=by
   rcases aT.2.1 with e|e|e
   ·exact (hA b e).2.1
   ·rw [dF] at e;exact .inr (.inl (Nat.le_trans h.gL.size e))
   ·rw [eo] at e
    obtain ⟨r,k,I,m,-,aq,ak⟩:=e
    rcases h.own r k I b m aq ak with e|e
    ·exact .inr (.inl e)
    ·exact .inr (.inr e)
  refine ⟨aT.1,Mv,fun aU=> ?_⟩
  rcases R4 b aU with e|⟨q,k,I,m,e1,aD,bP,c4⟩
  ·exact aT.2.2 e
  ·have bb:=hold q k I b m e1 aD c4
   rcases aT.2.1 with e|e|e
   ·exact (hA b e).2.2 ⟨q,k,I,m,aD,bP,c4⟩
   ·rw [dF] at e;omega
   ·exact bb.2 e
 have Sx : ∀ {y mc:aF} {u:Value},hS (fh eV) kU (fun _=>false) q y mc→Rel bT ((fh eV).ok gd k4 bT) (fh eV).a9 ((fh eV).bm k4) y u→Rel bT (s2.ok g lD bT) s2.a9 (s2.bm lD) mc u:=by
  intro y mc u b6 ap
  refine b6.rel h1 (fun x v bb ak ap=> ?_) (fun _ _ _ _ _ _ bJ _ _=>by simp at bJ) ?_ ap
  ·rcases hA with hA|hA
   ·exact ap.pure ak (aeG hA)
   ·exact ap.ej (hA x bb) ak
  ·intro r k j i bb aE
   refine ⟨aeF r k j i bb aE,?_⟩
   cases aq:s2.an r k with
   | none=>right;simp [S.bm,aq]
   | some I =>
    left
    rcases bt r k I aq with ⟨h5,eO,p,e1,aD,bP⟩|⟨e1,-⟩
    ·rw [bb] at e1;simp only [Option.some.injEq,Prod.mk.injEq] at e1
     obtain ⟨rfl,rfl⟩:=e1
     rw [iN aq,iN aD,bP.sz,p1 _ _ _ _ bb]
    ·rw [bb] at e1;simp at e1
 refine ⟨lD,{toiq:=⟨?_,?_,?_,?_,h.mlt,h.nA,?_,h.low⟩,env:=fun t=>by rw [ez];exact fG (h.env t),defers:=h.defers,jY:=h.jY},Sx U bk⟩
 ·intro q k I aq
  rcases bt q k I aq with ⟨j,i,p,e1,aD,bP⟩|⟨e1,aD⟩
  ·have ak:=h1.obj j i p aD
   rw [p1 _ _ _ _ e1]
   cases kE:k4 j i with
   | none =>
    rw [kE] at ak
    simp only [jC] at ak ⊢
    apply List.length_eq_zero_iff.1
    rw [bP.len,ak];rfl
   | some tf =>
    obtain ⟨b,m⟩:=tf
    rw [kE] at ak
    obtain ⟨c,eQ,f1,f2,f3,f4⟩:=ak
    have jZ:I.es.flatten.length=p.es.flatten.length:=by rw [rI _ bP.each,rI _ f3,bP.len]
    refine ⟨c,eQ,f1,f2,by rw [bP.sz];exact bP.each,fun i cR dV=> ?_⟩
    have d3:i<p.es.flatten.length:=by rw [← jZ];exact gb dV
    have kF:=List.getElem?_eq_getElem d3
    obtain ⟨u,lE,n9,gZ⟩:=f4 i _ kF
    exact ⟨u,lE,n9,Sx (bP.at_ i _ cR kF dV) gZ⟩
  ·have ak:=h.obj q k I aD
   rw [hE _ _ e1]
   cases kE:aB q k with
   | none=>rw [kE] at ak;exact ak
   | some tf =>
    obtain ⟨b,m⟩:=tf
    rw [kE] at ak
    obtain ⟨c,eQ,f1,f2,f3,f4⟩:=ak
    obtain ⟨tY,MX⟩:=hold q k I b m e1 aD kE
    refine ⟨c,eQ,(sN b tY MX).trans f1,f2,f3,fun i cR dV=> ?_⟩
    obtain ⟨u,lE,n9,gZ⟩:=f4 i cR dV
    exact ⟨u,lE,n9,fG gZ⟩
 ·intro q k I hR dD cc b m bE o af av aA
  rcases bt q k I o with ⟨j,i,p,e1,aD,bP⟩|⟨e1,aD⟩<;>rcases bt hR dD cc af with ⟨h5,eO,ku,nc,pz,Cx⟩|⟨nc,pz⟩
  ·rw [p1 _ _ _ _ e1] at av;rw [p1 _ _ _ _ nc] at aA
   obtain ⟨rfl,rfl⟩:=h1.inj j i p h5 eO ku b m bE aD pz av aA
   exact aeE _ _ _ _ _ e1 nc
  ·rw [p1 _ _ _ _ e1] at av;rw [hE _ _ nc] at aA
   obtain ⟨f1,f2⟩:=hold hR dD cc b bE nc pz aA
   rcases FG j i p b m aD av with e|e
   ·omega
   ·exact absurd (by rw [eo];exact e) f2
  ·rw [hE _ _ e1] at av;rw [p1 _ _ _ _ nc] at aA
   obtain ⟨f1,f2⟩:=hold q k I b m e1 aD av
   rcases FG h5 eO ku b bE pz aA with e|e
   ·omega
   ·exact absurd (by rw [eo];exact e) f2
  ·rw [hE _ _ e1] at av;rw [hE _ _ nc] at aA
   exact h.inj q k I hR dD cc b m bE aD pz av aA
 ·intro q k I b m o av
  rcases bt q k I o with ⟨j,i,p,e1,aD,bP⟩|⟨e1,aD⟩
  ·rw [p1 _ _ _ _ e1] at av
   rcases FG j i p b m aD av with e|⟨r,dD,cc,bE,ap,aq,ak⟩
   ·exact .inl (Nat.le_trans h.gL.size e)
   ·exact h.own r dD cc b bE aq ak
  ·rw [hE _ _ e1] at av;exact h.own q k I b m aD av
 ·have e1:=ba.os;have aD:=ba.tape;have bP:=ba.output
  rw [dF] at e1 aD bP
  refine h.gL.step e1 aD bP fc fun b aT n4=>sN b (Nat.lt_of_lt_of_le aT h.gL.size) fun lf=> ?_
  rw [eo] at lf
  obtain ⟨r,k,I,m,-,aq,ak⟩:=lf
  rcases h.own r k I b m aq ak with e|e
  ·omega
  ·exact n4 e
 ·intro j k aE
  obtain ⟨e1,aD⟩:=h.stay j k aE
  refine ⟨jG j k e1,?_⟩
  rcases SW j k e1 with e|e
  ·rw [e];exact aD
  ·exact .inr e
def kR (a b n:Nat):aF→aF
 | .ref r k i off=>if r=a then .ref b (n+k) i off else .ref r k i off
 | .bh r k b3 len=>if r=a then .bh b (n+k) b3 len else .bh r k b3 len
 | .i5 r c sz h=>if r=a then .i5 b (n+c) sz h else .i5 r c sz h
 | .agg c=> .agg (zp c)
 | .ee c=> .ee (zp c)
 | x=>x
where zp:List aF→List aF
 | []=>[]
 | x::l=>kR a b n x::zp l
def mu (a b n:Nat)(I:ae):ae:={I with es:=I.es.map fun e=>e.map (kR a b n)}
def q8 (I:ae):ae:=⟨0,[],.gone⟩
theorem E4 (a b n:Nat): ∀l:List aF,kR.zp a b n l=l.map (kR a b n)
 | []=>rfl
 | x::l=>by rw [kR.zp,E4 a b n l];rfl
theorem kB (l:List ae)(k:Nat):dx (some l) k=(l[k]?).bind fun I=>if I.cz = .gone then none else some I:=by
 unfold dx
 cases h:l[k]? <;> simp [h]
theorem map_flatten {es:List (List aF)}(f:aF→aF):(es.map fun e=>e.map f).flatten=es.flatten.map f:=by
 induction es with
 | nil=>rfl
 | cons e es ih=>rw [List.map_cons,List.flatten_cons,List.flatten_cons,List.map_append,ih]
theorem cW.merge (h:cW g s aB a w){r eR:Nat}{l fC:List ae}(ap:s.a0 r=some l)(hI:s.a0 eR=some fC)(c8:eR≠r):
 ∃bQ,cW g ((s.setRow eR (fC.map q8)).setRow r (l++fC.map (mu eR r l.length))) bQ a w ∧
  ∀x v,Rel w (s.ok g aB w) s.a9 (s.bm aB) x v→Rel w (((s.setRow eR (fC.map q8)).setRow r (l++fC.map (mu eR r l.length))).ok g bQ w)
   ((s.setRow eR (fC.map q8)).setRow r (l++fC.map (mu eR r l.length))).a9 (((s.setRow eR (fC.map q8)).setRow r (l++fC.map (mu eR r l.length))).bm bQ) (kR eR r l.length x) v:=by
 generalize sW:(s.setRow eR (fC.map q8)).setRow r (l++fC.map (mu eR r l.length))=s2
 let bQ:fy:=fun q k=>if q=r∧l.length≤k then aB eR (k-l.length) else aB q k
 have bt : ∀q k I,s2.an q k=some I→(q=r∧l.length≤k∧ ∃p,s.an eR (k-l.length)=some p∧I=mu eR r l.length p∧bQ q k=aB eR (k-l.length)) ∨
  (q≠eR∧s.an q k=some I∧bQ q k=aB q k∧ ¬(q=r∧l.length≤k)):=by
  intro q k I aq
  subst sW
  rw [lJ] at aq
  by_cases e:q=r
  ·subst e
   rw [if_pos rfl] at aq
   by_cases ba:l.length≤k
   ·left
    refine ⟨rfl,ba,?_⟩
    rw [kB,List.getElem?_append_right ba,List.getElem?_map] at aq
    cases ak:fC[k-l.length]? with
    | none=>rw [ak] at aq;simp at aq
    | some p =>
     rw [ak] at aq
     simp only [Option.map_some,Option.bind_some] at aq
     split at aq
     ·simp at aq
     ·rename_i dF
      simp only [Option.some.injEq] at aq
      refine ⟨p,?_,aq.symm,by simp [bQ,ba]⟩
      unfold S.an
      rw [hI,kB,ak,Option.bind_some,if_neg (by simpa [mu] using dF)]
   ·right
    refine ⟨Ne.symm c8,?_,by simp [bQ,ba],fun fY=>ba fY.2⟩
    unfold S.an
    rw [ap,kB]
    rw [kB,List.getElem?_append_left (by omega)] at aq
    exact aq
  ·rw [if_neg e,lJ] at aq
   by_cases aD:q=eR
   ·subst aD
    rw [if_pos rfl,kB,List.getElem?_map] at aq
    cases ak:fC[k]? with
    | none=>rw [ak] at aq;simp at aq
    | some p=>rw [ak] at aq;simp [q8] at aq
   ·rw [if_neg aD] at aq
    exact .inr ⟨aD,aq,by simp [bQ,e],fun fY=>e fY.1⟩
 have jG : ∀q k,s.a9 q k→s2.a9 q k:=by
  intro q k bb
  subst sW
  rw [nq]
  by_cases e:q=r
  ·subst e;rw [if_pos rfl];simp [S.a9,ap] at bb;simp;omega
  ·rw [if_neg e,nq]
   by_cases aD:q=eR
   ·subst aD;rw [if_pos rfl];simpa [S.a9,hI] using bb
   ·rw [if_neg aD];exact bb
 have Cd : ∀k,s.a9 eR k→s2.a9 r (l.length+k):=by
  intro k bb
  subst sW
  rw [nq,if_pos rfl]
  simp [S.a9,hI] at bb
  simp;omega
 have Ce : ∀k,s2.bm bQ r (l.length+k)=s.bm aB eR k:=by
  intro k
  subst sW
  simp only [S.bm]
  rw [lJ,if_pos rfl]
  unfold S.an
  rw [hI,kB,kB,List.getElem?_append_right (by omega),List.getElem?_map,show l.length+k-l.length=k by omega]
  cases ak:fC[k]? with
  | none=>simp
  | some p =>
   simp only [Option.map_some,Option.bind_some]
   by_cases dF:p.cz = .gone
   ·rw [if_pos dF,if_pos (by simpa [mu] using dF)];rfl
   ·rw [if_neg dF,if_neg (by simpa [mu] using dF)]
    simp [bQ,mu]
 have lu : ∀q k,s.a9 q k→s2.bm bQ q k=s.bm aB q k∨s2.bm bQ q k=none:=by
  intro q k bb
  cases aq:s2.an q k with
  | none=>right;simp [S.bm,aq]
  | some I =>
   left
   rcases bt q k I aq with ⟨rfl,aD,-⟩|⟨-,aD,bP,-⟩
   ·simp [S.a9,ap] at bb;omega
   ·rw [iN aq,iN aD,bP]
 have pP : ∀b,s2.l1 bQ b→s.l1 aB b:=by
  rintro b ⟨q,k,I,m,h1,o,af⟩
  rcases bt q k I h1 with ⟨-,-,p,e1,aD,bP⟩|⟨-,e1,aD,-⟩
  ·rw [bP] at af;subst aD;exact ⟨eR,_,p,m,e1,o,af⟩
  ·rw [aD] at af;exact ⟨q,k,I,m,e1,o,af⟩
 have di:Step g s aB w s2 bQ w:=⟨jG,lu,fun b aU=> .inl (pP b aU),fun _ _ _=>rfl,Nat.le_refl _⟩
 have CB : ∀x v,Rel w (s.ok g aB w) s.a9 (s.bm aB) x v→Rel w (s2.ok g bQ w) s2.a9 (s2.bm bQ) (kR eR r l.length x) v:=by
  intro x v lv
  induction lv with
  | dead v=>exact .dead v
  | b x=>exact .b x
  | n k x=>exact .n k x
  | s x=>exact .s x
  | im=>exact .im
  | ek=>exact .ek
  | iF a c=>exact .iF a c
  | @pM r1 k i off a hu fY =>
   unfold kR
   split
   ·rename_i e;subst e
    exact .pM a (Cd k hu) (by rw [Ce];exact fY)
   ·exact di.rel (.pM a hu fY)
  | @ref r1 k i off sz eg m hu fY =>
   unfold kR
   split
   ·rename_i e;subst e
    exact .ref (Cd k hu) (by rw [Ce];exact fY)
   ·exact di.rel (.ref hu fY)
  | @ns r1 k b3 len a bp ck hu fY =>
   unfold kR
   split
   ·rename_i e;subst e
    exact .ns a bp ck (Cd k hu) (by rw [Ce];exact fY)
   ·exact di.rel (.ns a bp ck hu fY)
  | @nO r1 k sz hu fY =>
   unfold kR
   split
   ·rename_i e;subst e
    exact .nO (Cd k hu) (by rw [Ce];exact fY)
   ·exact di.rel (.nO hu fY)
  | @bh r1 k b3 len sz eg m c a hu fY aU bj ms =>
   unfold kR
   split
   ·rename_i e;subst e
    exact .bh (Cd k hu) (by rw [Ce];exact fY) aU bj ms
   ·exact di.rel (.bh hu fY aU bj ms)
  | @m1 r1 c sz v h0 ih =>
   unfold kR
   split
   ·exact .m1 (di.rel h0)
   ·exact di.rel (.m1 h0)
  | @nV r1 c sz k n v h0 ih =>
   unfold kR
   split
   ·rename_i e;subst e
    unfold kR at ih
    rw [if_pos rfl] at ih
    exact .nV (by rw [show k+(l.length+c)=l.length+(k+c) by omega];exact ih)
   ·exact di.rel (.nV h0)
  | kf sz a c h=>exact .kf sz a c h
  | isl cs aT ak aU bj hw iO lv ih=>exact di.rel (.isl cs aT ak aU bj hw iO lv)
  | dS cs aT ak aU hw iO lv ih=>exact di.rel (.dS cs aT ak aU hw iO lv)
  | pv sz=>exact .pv sz
  | o5 h0 ih=>exact di.rel (.o5 h0)
  | agg vs aU iO lv ih =>
   unfold kR
   rw [E4]
   refine .agg vs (by simpa using aU) iO fun j x v U bk=> ?_
   rw [List.getElem?_map,Option.map_eq_some_iff] at U
   obtain ⟨y,aZ,rfl⟩:=U
   exact ih j y v aZ bk
  | ee vs aU lv ih =>
   unfold kR
   rw [E4]
   refine .ee vs (by simpa using aU) fun j x v U bk=> ?_
   rw [List.getElem?_map,Option.map_eq_some_iff] at U
   obtain ⟨y,aZ,rfl⟩:=U
   exact ih j y v aZ bk
  | fn vs aU lv ih=>exact di.rel (.fn vs aU lv)
 refine ⟨bQ,{toiq:=⟨?_,?_,?_,h.gL,h.mlt,h.nA,?_,h.low⟩,env:=fun t=>by rw [show s2.E=s.E by rw [← sW];rfl];exact di.rel (h.env t),defers:=h.defers,jY:=h.jY},CB⟩
 ·intro q k I aq
  rcases bt q k I aq with ⟨-,-,p,e1,aD,bP⟩|⟨-,e1,aD,-⟩
  ·rw [bP]
   subst aD
   have ak:=h.obj eR _ p e1
   cases kE:aB eR (k-l.length) with
   | none=>rw [kE] at ak;simp only [jC] at ak ⊢;simp [mu,ak]
   | some tf =>
    obtain ⟨b,m⟩:=tf
    rw [kE] at ak
    obtain ⟨c,eQ,f1,f2,f3,f4⟩:=ak
    refine ⟨c,eQ,f1,f2,?_,fun j x U=> ?_⟩
    ·intro e he
     simp only [mu,List.mem_map] at he
     obtain ⟨ey,l5,rfl⟩:=he
     simpa [mu] using f3 ey l5
    ·simp only [mu] at U
     rw [map_flatten,List.getElem?_map,Option.map_eq_some_iff] at U
     obtain ⟨y,aZ,rfl⟩:=U
     obtain ⟨u,lE,n9,gZ⟩:=f4 j y aZ
     exact ⟨u,lE,n9,CB y u gZ⟩
  ·rw [aD]
   exact di.obj (fun b m _=>rfl) (h.obj q k I e1)
 ·intro q k I q1 lk b9 b m bE h1 o af av
  rcases bt q k I h1 with ⟨rfl,f1,p,e1,aD,bP⟩|⟨f1,e1,aD,f2⟩<;>rcases bt q1 lk b9 o with ⟨rfl,zq,ku,nc,pz,Cx⟩|⟨zq,nc,pz,ahW⟩
  ·rw [bP] at af;rw [Cx] at av
   obtain ⟨-,e⟩:=h.inj _ _ _ _ _ _ b m bE e1 nc af av
   exact ⟨rfl,by omega⟩
  ·rw [bP] at af;rw [pz] at av
   obtain ⟨e,-⟩:=h.inj _ _ _ _ _ _ b m bE e1 nc af av
   exact absurd e.symm zq
  ·rw [aD] at af;rw [Cx] at av
   obtain ⟨e,-⟩:=h.inj _ _ _ _ _ _ b m bE e1 nc af av
   exact absurd e f1
  ·rw [aD] at af;rw [pz] at av
   exact h.inj _ _ _ _ _ _ b m bE e1 nc af av
 ·intro q k I b m h1 o
  rcases bt q k I h1 with ⟨-,-,p,e1,aD,bP⟩|⟨-,e1,aD,-⟩
  ·rw [bP] at o;exact h.own eR _ p b m e1 o
  ·rw [aD] at o;exact h.own q k I b m e1 o
 ·exact di.stay h.stay
end
end Go.VL
namespace Go.VL
set_option linter.unusedVariables false
set_option linter.unusedSimpArgs false
open Go
def aF.iZ:aF→Bool
 | .dead | .b _ | .n .. | .s _ | .im | .ek | .iF | .isl .. | .dS .. | .kh .. => true
 | _=>false
def aF.BD:aF→Bool
 | .agg c=>c.all aF.iZ
 | .fn _ c=>c.all aF.iZ
 | x=>x.iZ
def aF.Sy:aF→Bool
 | .ee c=>c.all aF.BD
 | x=>x.BD
section
variable {w:World} {ok:Nat→Prop} {a9:js} {bm:jh}
theorem Rel.y6 {x:aF}{v:Value}(h:Rel w ok a9 bm x v)(a5:x.iZ=true):Pure x:=by
 cases h with
 | dead=>exact .dead
 | b=>exact .b _
 | n=>exact .n _ _
 | s=>exact .s _
 | im=>exact .im
 | ek=>exact .ek
 | iF=>exact .iF
 | kf=>exact .isl (by simp)
 | isl cs aT ak=>exact .isl ak
 | dS cs aT ak=>exact .dS ak
 | pv sz=>exact .pv sz
 | o5 h=>cases h with|dS cs aT ak=>exact .o5 fun x U=>ak _ (List.mem_singleton.2 rfl) x U
 | _=>simp [aF.iZ] at a5
theorem P8 {c:List aF}{vs:List Value}(aU:vs.length=c.length)(ap:∀(j:Nat) x u,c[j]? = some x→vs[j]? = some u→Rel w ok a9 bm x u)
 (a5:c.all aF.iZ=true) : ∀x∈c,Pure x:=by
 intro x U
 obtain ⟨j,aE⟩:=List.getElem?_of_mem U
 have d3:j<vs.length:=by have:=gb aE;omega
 exact (ap j x _ aE (List.getElem?_eq_getElem d3)).y6 (List.all_eq_true.1 a5 x U)
theorem Rel.Fe {x:aF}{v:Value}(h:Rel w ok a9 bm x v)(a5:x.BD=true):Pure x:=by
 cases h with
 | agg vs aU bj ap=>exact .agg (P8 aU ap a5)
 | fn vs aU ap=>exact .fn (P8 aU ap a5)
 | dead=>exact .dead
 | b=>exact .b _
 | n=>exact .n _ _
 | s=>exact .s _
 | im=>exact .im
 | ek=>exact .ek
 | iF=>exact .iF
 | kf=>exact .isl (by simp)
 | isl cs aT ak=>exact .isl ak
 | dS cs aT ak=>exact .dS ak
 | pv sz=>exact .pv sz
 | o5 h=>cases h with|dS cs aT ak=>exact .o5 fun x U=>ak _ (List.mem_singleton.2 rfl) x U
 | _=>simp [aF.BD,aF.iZ] at a5
theorem Rel.aed {x:aF}{v:Value}(h:Rel w ok a9 bm x v)(a5:x.Sy=true):Pure x:=by
 by_cases cj : ∃c,x = .ee c
 ·obtain ⟨c,rfl⟩:=cj
  obtain ⟨vs,rfl,aU,ap⟩:=h.yN
  refine .ee fun x U=> ?_
  obtain ⟨j,aE⟩:=List.getElem?_of_mem U
  have d3:j<vs.length:=by have:=gb aE;omega
  exact (ap j x _ aE (List.getElem?_eq_getElem d3)).Fe (List.all_eq_true.1 a5 x U)
 ·refine h.Fe ?_
  cases x<;>first|exact a5|exact absurd ⟨_,rfl⟩ cj
end
def b2:List Nat→Nat→Option Nat
 | [],_=>none
 | x::l,r=>if x=r then some 0 else (b2 l r).map (· + 1)
theorem P9 : ∀ {l:List Nat} {r j:Nat},b2 l r=some j→l[j]? = some r
 | x::l,r,j,h=>by
  unfold b2 at h
  split at h
  ·simp at h;subst h;simp [*]
  ·rw [Option.map_eq_some_iff] at h
   obtain ⟨i,ah,rfl⟩:=h
   simpa using P9 ah
theorem Qa : ∀ {l:List Nat} {r j:Nat},l.Nodup→l[j]? = some r→b2 l r=some j
 | x::l,r,j,a5,h=>by
  rw [List.nodup_cons] at a5
  unfold b2
  cases j with
  | zero=>simp at h;simp [h]
  | succ j =>
   simp at h
   have:x≠r:=by rintro rfl;exact a5.1 (List.mem_of_getElem? h)
   rw [if_neg this,Qa a5.2 h];rfl
def CC (ea:Nat)(jF:List ae)(b8:gm→Bool)(x cR:aF):Prop :=
 (cR=x∧x.iZ=true)∨(∃c sz,x = .i5 ea c sz none∧cR = .isl sz [])∨ ∃k b3 len I,(x = .bh ea k b3 len∨ ∃c sz ju,k=ju+c∧b3=0∧x = .i5 ea c sz (some (ju,len)))∧dx (some jF) k=some I∧b8 I.cz=true∧b3+len≤I.es.length ∧
   iY ((I.es.drop b3).take len)∧cR = .isl I.sz ((I.es.drop b3).take len)
def Dh (ea:Nat)(jF:List ae)(b8:gm→Bool)(sz:Nat)(es gx:List (List aF)):Prop :=
 gx.length=es.length∧(∀e∈gx,e.length=sz)∧ ∀(j:Nat) x cR,es.flatten[j]? = some x→gx.flatten[j]? = some cR→CC ea jF b8 x cR
def lK (a0:Nat→Option (List ae))(cd:Nat→Option Nat)(a2:gO)(b8:gm→Bool):tb→aF→Option (aF×List Prop)
 | .id,x=>if x.iZ then some (x,[]) else
  match x with
  | .ref r k i off=>match cd r with
   | some j=>some (.ref j k i off,[])
   | none=>none
  | .bh r k b3 len=>match cd r with
   | some j=>some (.bh j k b3 len,[])
   | none=>none
  | .i5 r c sz h=>match cd r with
   | some j=>some (.i5 j c sz h,[])
   | none=>none
  | _=>none
 | .iJ sz,.ek=>some (.isl sz [],[])
 | .iJ sz,.iF=>some (.isl sz [],[])
 | .dL gx,.bh r k b3 len=>match dx (a0 r) k with
  | some I=>if b8 I.cz && (cd r).isNone then some (.isl I.sz gx,[gx=(I.es.drop b3).take len,b3+len≤I.es.length,iY gx]) else none
  | none=>none
 | .j2,_=>some (.dead,[])
 | .cG y,x=>if x.iZ then some (y,[x=y]) else none
 | .len n,.bh r k b3 len=>match cd r with
  | some j=>some (.bh j k b3 n,[len=n])
  | none=>none
 | .NH sz,x=>match x with
  | .im=>some (.kh sz none,[])
  | .dS FB [c] 0 0=>if FB=sz then some (.kh sz (some c),[]) else none
  | _=>none
 | .at_ j i n,.bh r k b3 len=>some (.bh j i b3 n,[a2 j i=some (r,k),len=n])
 | .at_ j i _,.ref r k x y=>some (.ref j i x y,[a2 j i=some (r,k)])
 | .view ea I gx,.bh r k b3 len=>match a0 r,a0 ea with
  | some row,some jF=>if (cd r).isNone && (cd ea).isNone then
   some (.isl I.sz gx,[dx (some row) k=some I,b8 I.cz=true,b3+len≤I.es.length,iY gx,Dh ea jF b8 I.sz ((I.es.drop b3).take len) gx]) else none
  | _,_=>none
 | _,_=>none
def lL {α β:Type}(f:α→β→Option (β×List Prop)):List α→List β→Option (List β×List Prop)
 | [],[]=>some ([],[])
 | a::l,b::m=>match f a b,lL f l m with
  | some (kv,b9),some (bE,aV)=>some (kv::bE,b9++aV)
  | _,_=>none
 | _,_=>none
def oq (a0:Nat→Option (List ae))(cd:Nat→Option Nat)(a2:gO)(b8:gm→Bool):zM→aF→Option (aF×List Prop)
 | .cJ c,x=>if x.BD then (match c with | .id=>some (x,[]) | .j2=>some (.dead,[]) | .cG y=>some (y,[x=y])|c=>lK a0 cd a2 b8 c x) else lK a0 cd a2 b8 c x
 | .agg l,.agg c=>match lL (lK a0 cd a2 b8) l c with
  | some (d7,an)=>some (.agg d7,an)
  | none=>none
 | .ptr l,.ref r k i off=>match dx (a0 r) k with
  | some I=>match I.es with
   | [c]=>if b8 I.cz && (cd r).isNone then
    match lL (lK a0 cd a2 b8) l c with
    | some (d7,an)=>some (.dS I.sz [d7] i off,an++[iY [d7]])
    | none=>none
    else none
   | _=>none
  | none=>none
 | .Mq l,x=>match x with
  | .ref r k 0 0=>match dx (a0 r) k with
   | some I=>match I.es with
    | [c]=>if b8 I.cz && (cd r).isNone then
     match lL (lK a0 cd a2 b8) l c with
     | some (d7,an)=>some (.kh I.sz (some d7),an++[iY [d7]])
     | none=>none
     else none
    | _=>none
   | none=>none
  | _=>none
 | _,_=>none
def nR (a0:Nat→Option (List ae))(cd:Nat→Option Nat)(a2:gO)(b8:gm→Bool):lB→aF→Option (aF×List Prop)
 | .bp c,x=>if x.Sy then (match c with | .cJ .id=>some (x,[])|c=>oq a0 cd a2 b8 c x) else oq a0 cd a2 b8 c x
 | .comp l,.ee c=>match lL (oq a0 cd a2 b8) l c with
  | some (d7,an)=>some (.ee d7,an)
  | none=>none
 | .comp l,.fn f c=>match lL (oq a0 cd a2 b8) l c with
  | some (d7,an)=>some (.fn f d7,an)
  | none=>none
 | _,_=>none
def tB (row:List ae):Prop:= ∀I∈row,iY I.es∧I.cz = .live
def lM (row:List ae):Prop:= ∀I∈row,I.cz = .live∨I.cz = .gone
def n5 (cd:Nat→Option Nat):aF→aF
 | .ref r k i off=>match cd r with|some j=> .ref j k i off|none=> .dead
 | .bh r k b3 len=>match cd r with|some j=> .bh j k b3 len|none=> .dead
 | .i5 r c sz h=>match cd r with|some j=> .i5 j c sz h|none=> .dead
 | x=>if x.iZ then x else .dead
def gT (cd:Nat→Option Nat)(I:ae):ae:={I with es:=I.es.map fun e=>e.map (n5 cd)}
def jn (a0:Nat→Option (List ae))(cd:Nat→Option Nat)(a2:gO)(b8:gm→Bool):iR→List ae→Option (List ae×List Prop)
 | .pure,row=>some (row,[tB row])
 | .cG dR,row=>some (dR,[row=dR,tB dR])
 | .bM dR,row=>some (dR,[dR=row.map (gT cd),lM row])
 | .box l,[I]=>match I.es with
  | [c]=>if I.cz = .live then match lL (lK a0 cd a2 b8) l c with
   | some (d7,an)=>some ([{I with es:=[d7]}],an)
   | none=>none
   else none
  | _=>none
 | _,_=>none
structure tg (q:aF→Prop) (b8:gm→Bool):Prop extends Down q where
 all : ∀k,b8 k=true→ ∀x,q x
theorem t0 (b8:gm→Bool):tg l9 b8:={toDown:=ad9,all:=fun _ _ _=>trivial}
theorem afh:tg bR (fun _=>false):={toDown:=aeb,all:=fun _ h=>by simp at h}
structure mQ (s:S) (a2:gO) (cd:Nat→Option Nat) (b8:gm→Bool):Prop where
 ah : ∀r j,cd r=some j→ ∀k,a2 j k=some (r,k)
 a5 : ∀r,cd r=none→ ∀k I,s.an r k=some I→b8 I.cz=true→ ∀j i,a2 j i≠some (r,k)
section
variable {g:G} {s:S} {aB:fy} {w:World} {a2:gO} {cd:Nat→Option Nat} {b8:gm→Bool} {q:aF→Prop}
theorem EI {α β:Type}(f:α→β→Option (β×List Prop)): ∀(l:List α) (m bE:List β) (an:List Prop),lL f l m=some (bE,an) →
 bE.length=m.length∧l.length=m.length∧ ∀(j:Nat) b kv,m[j]? = some b→bE[j]? = some kv→ ∃x cc,l[j]? = some x∧f x b=some (kv,cc)∧ ∀p∈cc,p∈an
 | [],[],bE,an,h=>by
  simp [lL] at h;obtain ⟨rfl,rfl⟩:=h
  exact ⟨rfl,rfl,fun j b kv aT=>by simp at aT⟩
 | [],_::_,_,_,h=>by simp [lL] at h
 | _::_,[],_,_,h=>by simp [lL] at h
 | x::l,b::m,bE,an,h=>by
  simp only [lL] at h
  split at h
  ·rename_i kv b9 hx aV h1 o
   simp only [Option.some.injEq,Prod.mk.injEq] at h
   obtain ⟨rfl,rfl⟩:=h
   obtain ⟨e1,aD,bP⟩:=EI f l m hx aV o
   refine ⟨by simp [e1],by simp [aD],fun j c d7 bj sT=> ?_⟩
   cases j with
   | zero =>
    simp at bj sT;subst bj;subst sT
    exact ⟨x,b9,rfl,h1,fun p ak=>by simp [ak]⟩
   | succ j =>
    simp at bj sT
    obtain ⟨y,cc,f1,f2,f3⟩:=bP j c d7 bj sT
    exact ⟨y,cc,by simpa using f1,f2,fun p ak=>by simp [f3 p ak]⟩
  ·simp at h
theorem Lt (eo:iq g s aB w)(H:mQ s a2 cd b8)(bK:tg q b8){c:tb}{x cR:aF}{an:List Prop}(h:lK s.a0 cd a2 b8 c x=some (cR,an))(bt:∀p∈an,p)
 (bb:q x) {v:Value} (ap:Rel w (s.ok g aB w) s.a9 (s.bm aB) x v):hS s a2 b8 q x cR:=by
 have jG : ∀ {r k b3 len:Nat},x = .bh r k b3 len→s.a9 r k:=by
  intro r k b3 len e;subst e;cases ap<;>assumption
 cases c with
 | id =>
  simp only [lK] at h
  split at h
  ·rename_i a5
   simp only [Option.some.injEq,Prod.mk.injEq] at h
   obtain ⟨rfl,rfl⟩:=h
   exact .pure (ap.y6 a5) bb
  ·split at h
   ·rename_i r k i off _
    split at h
    ·rename_i j aE
     simp only [Option.some.injEq,Prod.mk.injEq] at h
     obtain ⟨rfl,rfl⟩:=h
     exact .ref i off (H.ah r j aE k) (by cases ap<;>assumption)
    ·simp at h
   ·rename_i r k b3 len _
    split at h
    ·rename_i j aE
     simp only [Option.some.injEq,Prod.mk.injEq] at h
     obtain ⟨rfl,rfl⟩:=h
     exact .bh b3 len (H.ah r j aE k) (jG rfl)
    ·simp at h
   ·rename_i r c sz fY _
    split at h
    ·rename_i j aE
     simp only [Option.some.injEq,Prod.mk.injEq] at h
     obtain ⟨rfl,rfl⟩:=h
     exact .i5 fY (fun k=>H.ah r j aE _)
    ·simp at h
   ·simp at h
 | iJ sz =>
  cases x<;>simp [lK] at h
  ·obtain ⟨rfl,rfl⟩:=h
   exact .ek sz
  ·obtain ⟨rfl,rfl⟩:=h
   exact .iF sz
 | dL gx =>
  cases x<;>simp only [lK,reduceCtorEq] at h
  rename_i r k b3 len
  split at h
  ·rename_i I aq
   split at h
   ·rename_i bj
    simp only [Bool.and_eq_true,Option.isNone_iff_eq_none] at bj
    simp only [Option.some.injEq,Prod.mk.injEq] at h
    obtain ⟨rfl,rfl⟩:=h
    have h1:gx=(I.es.drop b3).take len:=bt _ (by simp)
    have o:b3+len≤I.es.length:=bt _ (by simp)
    have af:iY gx:=bt _ (by simp)
    have d9:s.an r k=some I:=aq
    have hlen : ∀e∈I.es,e.length=I.sz:=by
     have fK:=eo.obj r k I d9
     cases ak:aB r k with
     | none=>rw [ak] at fK;simp only [jC] at fK;rw [fK];simp
     | some q=>rw [ak] at fK;obtain ⟨_,_,_,_,e,_⟩:=fK;exact e
    refine .isl d9 bj.1 (H.a5 r bj.2 k I d9 bj.1) o af ?_ ?_ ?_
    ·rw [h1];exact fun e he=>hlen e (List.mem_of_mem_drop (List.mem_of_mem_take he))
    ·rw [h1];simp;omega
    ·intro j y mc aZ n6
     rw [h1] at n6
     rw [aZ] at n6;simp at n6;subst n6
     rw [h1] at af
     obtain ⟨e,he,CD⟩:=sl aZ
     exact .pure (af e he y CD) (bK.all _ bj.1 y)
   ·simp at h
  ·simp at h
 | j2 =>
  simp only [lK,Option.some.injEq,Prod.mk.injEq] at h
  obtain ⟨rfl,rfl⟩:=h
  exact .dead x
 | cG y =>
  simp only [lK] at h
  split at h
  ·rename_i a5
   simp only [Option.some.injEq,Prod.mk.injEq] at h
   obtain ⟨rfl,rfl⟩:=h
   have e:x=y:=bt _ (by simp)
   subst e
   exact .pure (ap.y6 a5) bb
  ·simp at h
 | len n =>
  cases x<;>simp only [lK,reduceCtorEq] at h
  rename_i r k b3 len
  split at h
  ·rename_i j aE
   simp only [Option.some.injEq,Prod.mk.injEq] at h
   obtain ⟨rfl,rfl⟩:=h
   have e:len=n:=bt _ (by simp)
   subst e
   exact .bh b3 len (H.ah r j aE k) (jG rfl)
  ·simp at h
 | at_ j i n =>
  cases x<;>simp only [lK,reduceCtorEq] at h
  ·rename_i r k x y
   simp only [Option.some.injEq,Prod.mk.injEq] at h
   obtain ⟨rfl,rfl⟩:=h
   exact .ref x y (bt _ (List.mem_cons_self)) (by cases ap<;>assumption)
  ·rename_i r k b3 len
   simp only [Option.some.injEq,Prod.mk.injEq] at h
   obtain ⟨rfl,rfl⟩:=h
   have e:len=n:=bt _ (by simp)
   subst e
   exact .bh b3 len (bt _ (List.mem_cons_self)) (jG rfl)
 | view ea I gx =>
  cases x<;>simp only [lK,reduceCtorEq] at h
  rename_i r k b3 len
  split at h
  ·rename_i row jF dN aee
   split at h
   ·rename_i bj
    simp only [Bool.and_eq_true,Option.isNone_iff_eq_none] at bj
    simp only [Option.some.injEq,Prod.mk.injEq] at h
    obtain ⟨rfl,rfl⟩:=h
    have h1:dx (some row) k=some I:=bt _ (by simp)
    have o:b8 I.cz=true:=bt _ (by simp)
    have af:b3+len≤I.es.length:=bt _ (by simp)
    have av:iY gx:=bt _ (by simp)
    have aA:Dh ea jF b8 I.sz ((I.es.drop b3).take len) gx:=bt _ (by simp)
    have d9:s.an r k=some I:=by unfold S.an;rw [dN];exact h1
    obtain ⟨d1,d2,uh⟩:=aA
    refine .isl d9 o (H.a5 r bj.1 k I d9 o) af av d2 (by rw [d1];simp;omega) fun j y mc aZ n6=> ?_
    rcases uh j y mc aZ n6 with ⟨rfl,a5⟩|⟨ck,Tn,rfl,rfl⟩|⟨kx,FH,Fo,p,CE,e1,aD,bP,c4,rfl⟩
    ·obtain ⟨e,he,CD⟩:=sl n6
     exact .pure (av e he mc CD) (bK.all _ o _)
    ·exact .m1 _ _ _
    ·have n3:s.an ea kx=some p:=by unfold S.an;rw [aee];exact e1
     have hlen : ∀e∈p.es,e.length=p.sz:=by
      have fK:=eo.obj ea kx p n3
      cases ak:aB ea kx with
      | none=>rw [ak] at fK;simp only [jC] at fK;rw [fK];simp
      | some q=>rw [ak] at fK;obtain ⟨_,_,_,_,e,_⟩:=fK;exact e
     have Sz:hS s a2 b8 q (.bh ea kx FH Fo) (.isl p.sz ((p.es.drop FH).take Fo)):=by
      refine .isl n3 aD (H.a5 ea bj.2 kx p n3 aD) bP c4 (fun e he=>hlen e (List.mem_of_mem_drop (List.mem_of_mem_take he))) (by simp;omega) fun j z aiD cF vS=> ?_
      rw [cF] at vS;simp at vS;subst vS
      obtain ⟨e,he,afi⟩:=sl cF
      exact .pure (c4 e he z afi) (bK.all _ aD _)
     rcases CE with rfl|⟨cJ,ahX,ju,rfl,rfl,rfl⟩
     ·exact Sz
     ·exact .nV Sz
   ·simp at h
  ·simp at h
 | NH sz =>
  simp only [lK] at h
  split at h
  ·simp only [Option.some.injEq,Prod.mk.injEq] at h
   obtain ⟨rfl,rfl⟩:=h
   exact .Fc _
  ·split at h
   ·rename_i e;subst e
    simp only [Option.some.injEq,Prod.mk.injEq] at h
    obtain ⟨rfl,rfl⟩:=h
    exact .kh (.pure (ap.y6 rfl) bb)
   ·simp at h
  ·simp at h
theorem Be (eo:iq g s aB w)(H:mQ s a2 cd b8)(bK:tg q b8){l:List tb}{c d7:List aF}{an:List Prop}(h:lL (lK s.a0 cd a2 b8) l c=some (d7,an))(bt:∀p∈an,p)
 (bb : ∀x∈c,q x) {vs:List Value} (aU:vs.length=c.length) (ap : ∀(j:Nat) x u,c[j]? = some x→vs[j]? = some u→Rel w (s.ok g aB w) s.a9 (s.bm aB) x u) :
 d7.length=c.length∧ ∀(j:Nat) x cR,c[j]? = some x→d7[j]? = some cR→hS s a2 b8 q x cR:=by
 obtain ⟨e1,aD,bP⟩:=EI _ l c d7 an h
 refine ⟨e1,fun j x cR U dV=> ?_⟩
 obtain ⟨y,cc,f1,f2,f3⟩:=bP j x cR U dV
 have d3:j<vs.length:=by have:=gb U;omega
 exact Lt eo H bK f2 (fun p ak=>bt p (f3 p ak)) (bb x (List.mem_of_getElem? U)) (ap j x _ U (List.getElem?_eq_getElem d3))
theorem Lu (eo:iq g s aB w)(H:mQ s a2 cd b8)(bK:tg q b8){c:zM}{x cR:aF}{an:List Prop}(h:oq s.a0 cd a2 b8 c x=some (cR,an))(bt:∀p∈an,p)
 (bb:q x) {v:Value} (ap:Rel w (s.ok g aB w) s.a9 (s.bm aB) x v):hS s a2 b8 q x cR:=by
 cases c with
 | cJ c =>
  simp only [oq] at h
  split at h
  ·rename_i a5
   split at h
   ·simp only [Option.some.injEq,Prod.mk.injEq] at h
    obtain ⟨rfl,rfl⟩:=h
    exact .pure (ap.Fe a5) bb
   ·simp only [Option.some.injEq,Prod.mk.injEq] at h
    obtain ⟨rfl,rfl⟩:=h
    exact .dead _
   ·simp only [Option.some.injEq,Prod.mk.injEq] at h
    obtain ⟨rfl,rfl⟩:=h
    have e:=bt _ (List.mem_singleton.2 rfl)
    subst e
    exact .pure (ap.Fe a5) bb
   ·exact Lt eo H bK h bt bb ap
  ·exact Lt eo H bK h bt bb ap
 | agg l =>
  cases x<;>simp only [oq,reduceCtorEq] at h
  rename_i c
  split at h
  ·rename_i d7 nG bj
   simp only [Option.some.injEq,Prod.mk.injEq] at h
   obtain ⟨rfl,rfl⟩:=h
   obtain ⟨vs,rfl,aU,-,CF⟩:=ap.Bo
   obtain ⟨e1,aD⟩:=Be eo H bK bj bt (fun y aZ=>bK.agg _ _ bb aZ) aU CF
   exact .agg e1 aD
  ·simp at h
 | ptr l =>
  cases x<;>simp only [oq,reduceCtorEq] at h
  rename_i r k i off
  split at h
  ·rename_i I aq
   split at h
   ·rename_i c hH
    split at h
    ·rename_i bj
     simp only [Bool.and_eq_true,Option.isNone_iff_eq_none] at bj
     split at h
     ·rename_i d7 nG iO
      simp only [Option.some.injEq,Prod.mk.injEq] at h
      obtain ⟨rfl,rfl⟩:=h
      have d9:s.an r k=some I:=aq
      have fK:=eo.obj r k I d9
      cases ak:aB r k with
      | none=>rw [ak] at fK;simp only [jC] at fK;rw [hH] at fK;simp at fK
      | some q =>
       obtain ⟨b,m⟩:=q
       rw [ak] at fK
       obtain ⟨cv,eQ,g1,g2,g3,g4⟩:=fK
       have Mw:c.length=I.sz:=g3 c (by rw [hH];simp)
       have jZ:I.es.flatten=c:=by rw [hH];simp
       have hcs : ∀j:Nat,j<c.length→ ∃u,cv[j]? = some u∧Rel w (s.ok g aB w) s.a9 (s.bm aB) c[j]! u:=by
        intro j aE
        obtain ⟨u,lE,-,gZ⟩:=g4 j c[j] (by rw [jZ];exact List.getElem?_eq_getElem aE)
        exact ⟨u,lE,by rw [getElem!_pos c j aE];exact gZ⟩
       obtain ⟨e1,aD⟩:=Be (vs:=(List.range c.length).map fun j=>(cv[j]?).getD undef) eo H bK iO (fun p ak=>bt p (by simp [ak])) (fun y _=>bK.all _ bj.1 y) (by simp) (by
        intro j y u aZ hu
        have aE:=gb aZ
        rw [List.getElem?_map,List.getElem?_range aE] at hu
        simp only [Option.map_some,Option.some.injEq] at hu
        obtain ⟨qc,lE,gZ⟩:=hcs j aE
        rw [lE] at hu;simp at hu;subst hu
        rw [List.getElem?_eq_getElem aE] at aZ;simp at aZ;subst aZ
        rw [getElem!_pos c j aE] at gZ;exact gZ)
       have sG:iY [d7]:=bt _ (by simp)
       refine .dS i off d9 bj.1 (H.a5 r bj.2 k I d9 bj.1) (by rw [hH];simp) sG (by simp;omega) (by rw [hH];rfl) ?_
       ·intro j y mc aZ n6
        rw [jZ] at aZ
        simp only [List.flatten_cons,List.flatten_nil,List.append_nil] at n6
        exact aD j y mc aZ n6
     ·simp at h
    ·simp at h
   ·simp at h
  ·simp at h
 | Mq l =>
  simp only [oq] at h
  split at h
  ·rename_i r k
   split at h
   ·rename_i I aq
    split at h
    ·rename_i c hH
     split at h
     ·rename_i bj
      simp only [Bool.and_eq_true,Option.isNone_iff_eq_none] at bj
      split at h
      ·rename_i d7 nG iO
       simp only [Option.some.injEq,Prod.mk.injEq] at h
       obtain ⟨rfl,rfl⟩:=h
       have d9:s.an r k=some I:=aq
       have fK:=eo.obj r k I d9
       cases ak:aB r k with
       | none=>rw [ak] at fK;simp only [jC] at fK;rw [hH] at fK;simp at fK
       | some q =>
        obtain ⟨b,m⟩:=q
        rw [ak] at fK
        obtain ⟨cv,eQ,g1,g2,g3,g4⟩:=fK
        have Mw:c.length=I.sz:=g3 c (by rw [hH];simp)
        have jZ:I.es.flatten=c:=by rw [hH];simp
        have hcs : ∀j:Nat,j<c.length→ ∃u,cv[j]? = some u∧Rel w (s.ok g aB w) s.a9 (s.bm aB) c[j]! u:=by
         intro j aE
         obtain ⟨u,lE,-,gZ⟩:=g4 j c[j] (by rw [jZ];exact List.getElem?_eq_getElem aE)
         exact ⟨u,lE,by rw [getElem!_pos c j aE];exact gZ⟩
        obtain ⟨e1,aD⟩:=Be (vs:=(List.range c.length).map fun j=>(cv[j]?).getD undef) eo H bK iO (fun p ak=>bt p (by simp [ak])) (fun y _=>bK.all _ bj.1 y) (by simp) (by
         intro j y u aZ hu
         have aE:=gb aZ
         rw [List.getElem?_map,List.getElem?_range aE] at hu
         simp only [Option.map_some,Option.some.injEq] at hu
         obtain ⟨qc,lE,gZ⟩:=hcs j aE
         rw [lE] at hu;simp at hu;subst hu
         rw [List.getElem?_eq_getElem aE] at aZ;simp at aZ;subst aZ
         rw [getElem!_pos c j aE] at gZ;exact gZ)
        have sG:iY [d7]:=bt _ (by simp)
        refine .kh (.dS 0 0 d9 bj.1 (H.a5 r bj.2 k I d9 bj.1) (by rw [hH];simp) sG (by simp;omega) (by rw [hH];rfl) ?_)
        ·intro j y mc aZ n6
         rw [jZ] at aZ
         simp only [List.flatten_cons,List.flatten_nil,List.append_nil] at n6
         exact aD j y mc aZ n6
      ·simp at h
     ·simp at h
    ·simp at h
   ·simp at h
  ·simp at h
theorem Bj (eo:iq g s aB w)(H:mQ s a2 cd b8)(bK:tg q b8){c:lB}{x cR:aF}{an:List Prop}(h:nR s.a0 cd a2 b8 c x=some (cR,an))(bt:∀p∈an,p)
 (bb:q x) {v:Value} (ap:Rel w (s.ok g aB w) s.a9 (s.bm aB) x v):hS s a2 b8 q x cR:=by
 have key : ∀(l:List zM) (c d7:List aF) (nG:List Prop) (vs:List Value),lL (oq s.a0 cd a2 b8) l c=some (d7,nG)→(∀p∈nG,p)→(∀x∈c,q x)→vs.length=c.length →
  (∀(j:Nat) x u,c[j]? = some x→vs[j]? = some u→Rel w (s.ok g aB w) s.a9 (s.bm aB) x u)→d7.length=c.length∧ ∀(j:Nat) x cR,c[j]? = some x→d7[j]? = some cR→hS s a2 b8 q x cR:=by
  intro l c d7 nG vs h bt bb aU ap
  obtain ⟨e1,aD,bP⟩:=EI _ l c d7 nG h
  refine ⟨e1,fun j x cR U dV=> ?_⟩
  obtain ⟨y,cc,f1,f2,f3⟩:=bP j x cR U dV
  have d3:j<vs.length:=by have:=gb U;omega
  exact Lu eo H bK f2 (fun p ak=>bt p (f3 p ak)) (bb x (List.mem_of_getElem? U)) (ap j x _ U (List.getElem?_eq_getElem d3))
 cases c with
 | bp c =>
  simp only [nR] at h
  split at h
  ·rename_i a5
   split at h
   ·simp only [Option.some.injEq,Prod.mk.injEq] at h
    obtain ⟨rfl,rfl⟩:=h
    exact .pure (ap.aed a5) bb
   ·exact Lu eo H bK h bt bb ap
  ·exact Lu eo H bK h bt bb ap
 | comp l =>
  cases x<;>simp only [nR,reduceCtorEq] at h
  ·rename_i c
   split at h
   ·rename_i d7 nG bj
    simp only [Option.some.injEq,Prod.mk.injEq] at h
    obtain ⟨rfl,rfl⟩:=h
    obtain ⟨vs,rfl,aU,CF⟩:=ap.yN
    obtain ⟨e1,aD⟩:=key l c d7 nG vs bj bt (fun y aZ=>bK.ee _ _ bb aZ) aU CF
    exact .ee e1 aD
   ·simp at h
  ·rename_i f c
   split at h
   ·rename_i d7 nG bj
    simp only [Option.some.injEq,Prod.mk.injEq] at h
    obtain ⟨rfl,rfl⟩:=h
    obtain ⟨vs,rfl,aU,CF⟩:=ap.E3
    obtain ⟨e1,aD⟩:=key l c d7 nG vs bj bt (fun y aZ=>bK.fn _ _ _ bb aZ) aU CF
    exact .fn e1 aD
   ·simp at h
theorem SA (eo:iq g s aB w)(H:mQ s a2 cd b8){r:Nat}{kk:Nat→Nat}{row:List ae}(dN:∀k I,dx (some row) k=some I→s.an r (kk k)=some I)
 (bb : ∀k I,dx (some row) k=some I→ ∀e∈I.es,∀x∈e,q x) :
 ∀(k:Nat) cc,dx (some (row.map (gT cd))) k=some cc→ ∃I,dx (some row) k=some I∧oB s a2 b8 q I cc:=by
 intro k cc d9
 rw [kB,List.getElem?_map] at d9
 cases ba:row[k]? with
 | none=>rw [ba] at d9;simp at d9
 | some I =>
  rw [ba] at d9
  simp only [Option.map_some,Option.bind_some] at d9
  split at d9
  ·simp at d9
  ·rename_i dF
   simp only [Option.some.injEq] at d9
   subst d9
   have aq:dx (some row) k=some I:=by rw [kB,ba,Option.bind_some,if_neg (by simpa [gT] using dF)]
   have b6:s.an r (kk k)=some I:=dN k I aq
   refine ⟨I,aq,?_⟩
   have fK:=eo.obj r (kk k) I b6
   have hlen : ∀e∈I.es,e.length=I.sz:=by
    cases ak:aB r (kk k) with
    | none=>rw [ak] at fK;simp only [jC] at fK;rw [fK];simp
    | some q=>rw [ak] at fK;obtain ⟨_,_,_,_,e,_⟩:=fK;exact e
   refine ⟨rfl,.inl rfl,by simp [gT],?_,fun j x cR U dV=> ?_⟩
   ·intro e he
    simp only [gT,List.mem_map] at he
    obtain ⟨ey,l5,rfl⟩:=he
    simpa using hlen ey l5
   ·simp only [gT] at dV
    rw [map_flatten,List.getElem?_map,U] at dV
    simp only [Option.map_some,Option.some.injEq] at dV
    subst dV
    obtain ⟨e,he,qG⟩:=sl U
    have afj:=bb k I aq e he x qG
    cases ak:aB r (kk k) with
    | none=>rw [ak] at fK;simp only [jC] at fK;rw [fK] at U;simp at U
    | some tf =>
     obtain ⟨b,m⟩:=tf
     rw [ak] at fK
     obtain ⟨c,eQ,f1,f2,f3,f4⟩:=fK
     obtain ⟨u,lE,n9,gZ⟩:=f4 j x U
     cases x with
     | ref bV kx pE aeH =>
      cases cj:cd bV with
      | none=>simp only [n5,cj];exact .dead _
      | some wx=>simp only [n5,cj];exact .ref pE aeH (H.ah _ _ cj _) (by cases gZ<;>assumption)
     | bh bV kx FH Fo =>
      cases cj:cd bV with
      | none=>simp only [n5,cj];exact .dead _
      | some wx=>simp only [n5,cj];exact .bh FH Fo (H.ah _ _ cj _) (by cases gZ<;>assumption)
     | i5 bV ck Tn o =>
      cases cj:cd bV with
      | none=>simp only [n5,cj];exact .dead _
      | some wx=>simp only [n5,cj];exact .i5 o (fun k=>H.ah _ _ cj _)
     | _ =>
      simp only [n5]
      split
      ·rename_i a5;exact .pure (gZ.y6 a5) afj
      ·exact .dead _
theorem EJ (eo:iq g s aB w)(H:mQ s a2 cd b8)(bK:tg q b8){c:iR}{r:Nat}{kk:Nat→Nat}{row dR:List ae}{an:List Prop}(dN:∀k I,dx (some row) k=some I→s.an r (kk k)=some I)
 (h:jn s.a0 cd a2 b8 c row=some (dR,an)) (bt : ∀p∈an,p) (bb : ∀k I,dx (some row) k=some I→ ∀e∈I.es,∀x∈e,q x) :
 dR.length=row.length∧(∀k I,dx (some row) k=some I→I.cz = .live) ∧
 ∀(k:Nat) cc,dx (some dR) k=some cc→ ∃I,dx (some row) k=some I∧oB s a2 b8 q I cc:=by
 have hlen : ∀k I,dx (some row) k=some I→ ∀e∈I.es,e.length=I.sz:=by
  intro k I aq
  have d9:s.an r (kk k)=some I:=dN k I aq
  have fK:=eo.obj r (kk k) I d9
  cases ak:aB r (kk k) with
  | none=>rw [ak] at fK;simp only [jC] at fK;rw [fK];simp
  | some q=>rw [ak] at fK;obtain ⟨_,_,_,_,e,_⟩:=fK;exact e
 have sG:tB row→(∀k I,dx (some row) k=some I→I.cz = .live) ∧
  ∀(k:Nat) cc,dx (some row) k=some cc→ ∃I,dx (some row) k=some I∧oB s a2 b8 q I cc:=by
  intro ak
  have qB : ∀k I,dx (some row) k=some I→I∈row:=by
   intro k I aq
   unfold dx at aq
   simp only at aq
   split at aq
   ·rename_i cc d9
    split at aq
    ·simp at aq
    ·simp at aq;subst aq;exact List.mem_of_getElem? d9
   ·simp at aq
  refine ⟨fun k I aq=>(ak I (qB k I aq)).2,fun k I aq=>⟨I,aq,rfl,.inl rfl,rfl,hlen k I aq,fun j x cR U dV=> ?_⟩⟩
  rw [U] at dV;simp at dV;subst dV
  obtain ⟨e,he,qG⟩:=sl U
  exact .pure ((ak I (qB k I aq)).1 e he x qG) (bb k I aq e he x qG)
 cases c with
 | pure =>
  simp only [jn,Option.some.injEq,Prod.mk.injEq] at h
  obtain ⟨rfl,rfl⟩:=h
  exact ⟨rfl,sG (bt _ (by simp))⟩
 | cG aC =>
  simp only [jn,Option.some.injEq,Prod.mk.injEq] at h
  obtain ⟨rfl,rfl⟩:=h
  have e:row=aC:=bt _ (by simp)
  subst e
  exact ⟨rfl,sG (bt _ (by simp))⟩
 | bM aC =>
  simp only [jn,Option.some.injEq,Prod.mk.injEq] at h
  obtain ⟨rfl,rfl⟩:=h
  have e:aC=row.map (gT cd):=bt _ (by simp)
  have MY:lM row:=bt _ (by simp)
  subst e
  refine ⟨by simp,fun k I aq=>by
   unfold dx at aq
   simp only at aq
   split at aq
   ·rename_i cc d9
    split at aq
    ·simp at aq
    ·rename_i dF
     simp at aq;subst aq
     exact (MY _ (List.mem_of_getElem? d9)).resolve_right dF
   ·simp at aq,SA eo H dN bb⟩
 | rx aC=>cases row with
  | nil=>simp [jn] at h
  | cons I l=>cases l<;>simp [jn] at h
 | drop=>cases row with
  | nil=>simp [jn] at h
  | cons I l=>cases l<;>simp [jn] at h
 | box l =>
  match row,h with
  | [I],h =>
   simp only [jn] at h
   split at h
   ·rename_i c hH
    split at h
    ·rename_i n2
     split at h
     ·rename_i d7 nG bj
      simp only [Option.some.injEq,Prod.mk.injEq] at h
      obtain ⟨rfl,rfl⟩:=h
      have h0:dx (some [I]) 0=some I:=by rw [mg];simp [n2]
      refine ⟨rfl,fun k p ak=> ?_,fun k p ak=> ?_⟩
      ·rw [mg] at ak
       split at ak
       ·simp at ak;subst ak;exact n2
       ·simp at ak
      ·rw [mg] at ak
       split at ak
       ·rename_i sX
        obtain ⟨rfl,-⟩:=sX
        simp only [Option.some.injEq] at ak;subst ak
        refine ⟨I,h0,?_⟩
        have d9:s.an r (kk 0)=some I:=dN 0 I h0
        have fK:=eo.obj r (kk 0) I d9
        cases kE:aB r (kk 0) with
        | none=>rw [kE] at fK;simp only [jC] at fK;rw [hH] at fK;simp at fK
        | some q =>
         obtain ⟨b,m⟩:=q
         rw [kE] at fK
         obtain ⟨cv,eQ,g1,g2,g3,g4⟩:=fK
         have Mw:c.length=I.sz:=g3 c (by rw [hH];simp)
         have jZ:I.es.flatten=c:=by rw [hH];simp
         obtain ⟨e1,aD⟩:=Be (vs:=(List.range c.length).map fun j=>(cv[j]?).getD undef) eo H bK bj bt (fun y aZ=>bb 0 I h0 c (by rw [hH];simp) y aZ) (by simp) (by
          intro j y u aZ hu
          have aE:=gb aZ
          rw [List.getElem?_map,List.getElem?_range aE] at hu
          simp only [Option.map_some,Option.some.injEq] at hu
          obtain ⟨qc,lE,-,gZ⟩:=g4 j y (by rw [jZ];exact aZ)
          rw [lE] at hu;simp at hu;subst hu
          exact gZ)
         refine ⟨rfl,.inl rfl,by simp [hH],by simp;omega,fun j x cR U dV=> ?_⟩
         rw [jZ] at U
         simp only [List.flatten_cons,List.flatten_nil,List.append_nil] at dV
         exact aD j x cR U dV
       ·simp at ak
     ·simp at h
    ·simp at h
   ·simp at h
  | [],h=>simp [jn] at h
  | _::_::_,h=>simp [jn] at h
end
end Go.VL
namespace Go.VL
set_option linter.unusedVariables false
set_option linter.unusedSimpArgs false
open Go
def EK (P:Program)(f:FuncId):Prop:= ∃fn,P.funcs[f]? = some fn∧(fn.name == "runtime.NumGoroutine")=false∧fn.body.isSome=true
def Con (P:Program)(f:FuncId)(args:List aF)(T:List (List ae))(r:aF)(iL:List (List ae)):Prop:=EK P f∧aea P f args T r iL
def sH (k:gm):Bool:=k = .jd
def kO (_:gm):Bool:=true
def k1 (_:gm):Bool:=false
def Src.r:Src→Nat
 | .row r=>r
 | .an r _ _=>r
def Src.has:Src→Nat→Nat→Prop
 | .row r,q,_=>q=r
 | .an r k _,q,dD=>q=r∧dD=k
def Src.mP:Src→Nat→Nat
 | .row _,k=>k
 | .an ..,_=>0
def kG (l:List Src):gO:=fun j i=>match l[j]? with
 | some (.row r)=>some (r,i)
 | some (.an r k _)=>if i=0 then some (r,k) else none
 | none=>none
def o7 (n:Nat):List Src→Nat→Option Nat
 | [],_=>none
 | .row r::l,q=>if r=q then some n else o7 (n+1) l q
 | .an .. :: l,q=>o7 (n+1) l q
def jH (n:Nat):List Src→gO
 | [],_,_=>none
 | .row r::l,q,k=>if q=r then some (n,k) else jH (n+1) l q k
 | .an r dD _::l,q,k=>if q=r∧k=dD then some (n,0) else jH (n+1) l q k
def sI (l:List Src):Nat→Option Nat:=fun j=>match l[j]? with
 | some (.row r)=>some r
 | _=>none
def apart:Src→Src→Option (List Prop)
 | .an r k _,.an eR dD _=>if r=eR then some [k≠dD] else some []
 | a,b=>if a.r=b.r then none else some []
def E5 (a:Src):List Src→Option (List Prop)
 | []=>some []
 | b::l=>match apart a b,E5 a l with
  | some x,some y=>some (x++y)
  | _,_=>none
def Ff:List Src→Option (List Prop)
 | []=>some []
 | a::l=>match E5 a l,Ff l with
  | some x,some y=>some (x++y)
  | _,_=>none
def Cf (l:List Src):Prop:=l.Pairwise fun a b=> ∀r k,¬(a.has r k∧b.has r k)
theorem ace {a b:Src}{an:List Prop}(h:apart a b=some an)(bt:∀p∈an,p): ∀r k,¬(a.has r k∧b.has r k):=by
 rintro r k ⟨h1,o⟩
 have ap : ∀c:Src,c.has r k→c.r=r:=fun c bj=>by
  cases c with
  | row r0=>exact Eq.symm bj
  | an r0 ju lF=>exact Eq.symm bj.1
 have e:=(ap a h1).trans (ap b o).symm
 cases a with
 | row r0=>simp only [apart] at h;rw [if_pos e] at h;simp at h
 | an r0 ju lF =>
  cases b with
  | row r1=>simp only [apart] at h;rw [if_pos e] at h;simp at h
  | an r1 lk b9 =>
   simp only [apart] at h
   rw [if_pos (show r0=r1 from e)] at h
   simp only [Option.some.injEq] at h
   subst h
   exact bt _ (List.mem_singleton.2 rfl) (h1.2.symm.trans o.2)
theorem Qz {a:Src}: ∀ {l:List Src} {an:List Prop},E5 a l=some an→(∀p∈an,p)→ ∀b∈l,∀r k,¬(a.has r k∧b.has r k)
 | [],_,_,_,_,aT=>by simp at aT
 | b::l,an,h,bt,c,bj=>by
  simp only [E5] at h
  split at h
  ·rename_i x y h1 o
   simp only [Option.some.injEq] at h;subst h
   rcases List.mem_cons.1 bj with rfl|bj
   ·exact ace h1 fun p ak=>bt p (by simp [ak])
   ·exact Qz o (fun p ak=>bt p (by simp [ak])) c bj
  ·simp at h
theorem Q0 : ∀ {l:List Src} {an:List Prop},Ff l=some an→(∀p∈an,p)→Cf l
 | [],_,_,_=>List.Pairwise.nil
 | a::l,an,h,bt=>by
  simp only [Ff] at h
  split at h
  ·rename_i x y h1 o
   simp only [Option.some.injEq] at h;subst h
   exact List.pairwise_cons.2 ⟨Qz h1 fun p ak=>bt p (by simp [ak]),Q0 o fun p ak=>bt p (by simp [ak])⟩
  ·simp at h
theorem tD {l:List Src}{j i r k:Nat}:kG l j i=some (r,k)↔ ∃a,l[j]? = some a∧a.has r k∧i=a.mP k:=by
 unfold kG
 cases h:l[j]? with
 | none=>simp
 | some a =>
  cases a with
  | row r0 =>
   simp only [Option.some.injEq,Prod.mk.injEq,exists_eq_left',Src.has,Src.mP]
   constructor<;>rintro ⟨a,b⟩<;>exact ⟨a.symm,b⟩
  | an r0 ju I =>
   simp only [Option.some.injEq,exists_eq_left',Src.has,Src.mP]
   by_cases e:i=0
   ·rw [if_pos e];simp only [Option.some.injEq,Prod.mk.injEq,e,and_true];constructor<;>rintro ⟨a,b⟩<;>exact ⟨a.symm,b.symm⟩
   ·rw [if_neg e];simp [e]
theorem vk : ∀ {l:List Src} {n r k j i:Nat},jH n l r k=some (j,i)→ ∃a,n≤j∧l[j-n]? = some a∧a.has r k∧i=a.mP k
 | [],_,_,_,_,_,h=>by simp [jH] at h
 | .row r0::l,n,r,k,j,i,h=>by
  simp only [jH] at h
  split at h
  ·rename_i e
   simp only [Option.some.injEq,Prod.mk.injEq] at h
   obtain ⟨rfl,rfl⟩:=h
   exact ⟨.row r0,Nat.le_refl _,by simp,e,rfl⟩
  ·obtain ⟨a,h1,o,af,av⟩:=vk h
   exact ⟨a,by omega,by rw [show j-n=(j-(n+1))+1 by omega,List.getElem?_cons_succ];exact o,af,av⟩
 | .an r0 ju I::l,n,r,k,j,i,h=>by
  simp only [jH] at h
  split at h
  ·rename_i e
   simp only [Option.some.injEq,Prod.mk.injEq] at h
   obtain ⟨rfl,rfl⟩:=h
   exact ⟨.an r0 ju I,Nat.le_refl _,by simp,e,rfl⟩
  ·obtain ⟨a,h1,o,af,av⟩:=vk h
   exact ⟨a,by omega,by rw [show j-n=(j-(n+1))+1 by omega,List.getElem?_cons_succ];exact o,af,av⟩
theorem rR (n:Nat)(a:Src)(l:List Src)(r k:Nat)(h:¬a.has r k):jH n (a::l) r k=jH (n+1) l r k:=by
 cases a<;>simp only [jH,Src.has] at h ⊢ <;> rw [if_neg h]
theorem acf (n:Nat)(a:Src)(l:List Src)(r k:Nat)(h:a.has r k):jH n (a::l) r k=some (n,a.mP k):=by
 cases a<;>simp only [jH,Src.has,Src.mP] at h ⊢ <;> rw [if_pos h]
theorem BE : ∀ {l:List Src} {n r k j:Nat} {a:Src},Cf l→l[j]? = some a→a.has r k→jH n l r k=some (n+j,a.mP k)
 | b::l,n,r,k,0,a,_,h,bJ=>by
  simp at h;subst h
  exact acf n b l r k bJ
 | b::l,n,r,k,j+1,a,bK,h,bJ=>by
  simp at h
  have bK:=List.pairwise_cons.1 bK
  rw [rR n b l r k fun aT=>bK.1 a (List.mem_of_getElem? h) r k ⟨aT,bJ⟩,BE (j:=j) bK.2 h bJ]
  congr 2;omega
theorem adI {a:Src}{r k eR dD:Nat}(h:a.has r k)(cP:a.has eR dD)(e:a.mP k=a.mP dD):r=eR∧k=dD:=by
 cases a<;>simp only [Src.has,Src.mP] at h cP e<;>omega
theorem ac7 {l:List Src}{n r k eR dD:Nat}{p:Nat×Nat}(h:jH n l r k=some p)(cP:jH n l eR dD=some p):r=eR∧k=dD:=by
 obtain ⟨j,i⟩:=p
 obtain ⟨a,h1,o,af,av⟩:=vk h
 obtain ⟨dT,qF,MZ,afk,ahY⟩:=vk cP
 rw [o] at MZ;simp at MZ;subst MZ
 exact adI af afk (by omega)
theorem Lh : ∀ {l:List Src} {n r j:Nat},o7 n l r=some j→n≤j∧l[j-n]? = some (.row r)
 | [],_,_,_,h=>by simp [o7] at h
 | .row r0::l,n,r,j,h=>by
  simp only [o7] at h
  split at h
  ·rename_i e;simp at h;subst h;subst e;exact ⟨Nat.le_refl _,by simp⟩
  ·obtain ⟨h1,o⟩:=Lh h
   exact ⟨by omega,by rw [show j-n=(j-(n+1))+1 by omega,List.getElem?_cons_succ];exact o⟩
 | .an r0 ju I::l,n,r,j,h=>by
  simp only [o7] at h
  obtain ⟨h1,o⟩:=Lh h
  exact ⟨by omega,by rw [show j-n=(j-(n+1))+1 by omega,List.getElem?_cons_succ];exact o⟩
theorem QA : ∀ {l:List Src} {n r:Nat},o7 n l r=none→Src.row r ∉ l
 | [],_,_,_=>by simp
 | .row r0::l,n,r,h=>by
  simp only [o7] at h
  split at h
  ·simp at h
  ·rename_i e
   simp only [List.mem_cons,Src.row.injEq,not_or]
   exact ⟨fun h=>e h.symm,QA h⟩
 | .an r0 ju I::l,n,r,h=>by
  simp only [o7] at h
  simp only [List.mem_cons,reduceCtorEq,false_or]
  exact QA h
def mj (a0:Nat→Option (List ae))(cd:Nat→Option Nat)(a2:gO):List Src→List iR→Option (List (List ae)×List Prop)
 | [],[]=>some ([],[])
 | .row r::l,c::dc=>match a0 r with
  | some row=>match jn a0 cd a2 sH c row,mj a0 cd a2 l dc with
   | some (dR,b9),some (T,aV)=>some (dR::T,b9++aV)
   | _,_=>none
  | none=>none
 | .an r k I::l,c::dc=>match a0 r with
  | some row=>match jn a0 cd a2 sH c [I],mj a0 cd a2 l dc with
   | some (dR,b9),some (T,aV)=>some (dR::T,(dx (some row) k=some I)::(b9++aV))
   | _,_=>none
  | none=>none
 | _,_=>none
def k9 (wy:Nat→Option (List ae))(cd:Nat→Option Nat)(kU:gO):(Nat→Option (List ae))→List Src→List iR→List (List ae)→Option (List (Nat×List ae)×List Prop)
 | _,[],[],[]=>some ([],[])
 | a0,.row q::l,c::dc,row::T=>match jn wy cd kU k1 c row with
  | some (dR,b9)=>match k9 wy cd kU (fun x=>if x=q then some dR else a0 x) l dc T with
   | some (u,aV)=>some ((q,dR)::u,b9++aV)
   | none=>none
  | none=>none
 | a0,.an q k _::l,c::dc,row::T=>match a0 q with
  | some lO=>match jn wy cd kU k1 c row with
   | some ([cc],b9)=>match k9 wy cd kU (fun x=>if x=q then some (lO.set k cc) else a0 x) l dc T with
    | some (u,aV)=>some ((q,lO.set k cc)::u,b9++aV)
    | none=>none
   | _=>none
  | none=>none
 | _,_,_,_=>none
def lx (T:List (List ae)):Prop:= ∀row∈T,∀I∈row,∀e∈I.es,∀x∈e,bR x
def y7 (P:Program)(a0:Nat→Option (List ae))(aW:Nat)(f:FuncId)(args:List aF)(cv:Dc):Option ir :=
 let l:=if cv.eV.length=cv.a2.length then cv.a2 else cv.a2++[.row aW]
 match Ff cv.a2 with
 | none=>none
 | some lF =>
  if cv.a2.any (fun a=>decide (a.r=aW)) then none else
  if cv.ej then
   match cv.a2 with
   | [] =>
    match lL (nR a0 (fun _=>none) (kG []) kO) cv.ac args,nR (fun j=>cv.eV[j]?) (sI l) (jH 0 l) k1 cv.gr cv.r,
     k9 (fun j=>cv.eV[j]?) (sI l) (jH 0 l) a0 l cv.hC cv.eV with
    | some (qw,b9),some (eR,fI),some (u,eA)=>some {val:=eR,fU:=u,fH:=b9++fI++eA++[Con P f qw [] cv.r cv.eV,bR cv.r]++(if cv.eV.isEmpty then [] else [lx cv.eV])}
    | _,_,_=>none
   | _=>none
  else
   match lL (nR a0 (o7 0 cv.a2) (kG cv.a2) sH) cv.ac args,mj a0 (o7 0 cv.a2) (kG cv.a2) cv.a2 cv.dc,
    nR (fun j=>cv.eV[j]?) (sI l) (jH 0 l) k1 cv.gr cv.r,k9 (fun j=>cv.eV[j]?) (sI l) (jH 0 l) a0 l cv.hC cv.eV with
   | some (qw,b9),some (T,aV),some (eR,fI),some (u,eA) =>
    some {val:=eR,fU:=u,fH:=lF++b9++aV++fI++eA++[Con P f qw T cv.r cv.eV]}
   | _,_,_,_=>none
theorem Qb {a0:Nat→Option (List ae)}{cd:Nat→Option Nat}{a2:gO}{b8:gm→Bool}{c:iR}{row dR:List ae}{an:List Prop}(h:jn a0 cd a2 b8 c row=some (dR,an))(bt:∀p∈an,p):
 ∀k I,dx (some row) k=some I→I.cz = .live:=by
 have qB : ∀k I,dx (some row) k=some I→I∈row∧I.cz≠ .gone:=by
  intro k I aq
  rw [kB] at aq
  cases ba:row[k]? with
  | none=>rw [ba] at aq;simp at aq
  | some p =>
   rw [ba,Option.bind_some] at aq
   split at aq
   ·simp at aq
   ·rename_i e;simp at aq;subst aq;exact ⟨List.mem_of_getElem? ba,e⟩
 intro k I aq
 obtain ⟨h1,o⟩:=qB k I aq
 cases c with
 | pure =>
  simp only [jn,Option.some.injEq,Prod.mk.injEq] at h
  obtain ⟨rfl,rfl⟩:=h
  exact ((bt _ (List.mem_singleton.2 rfl):tB row) I h1).2
 | cG aC =>
  simp only [jn,Option.some.injEq,Prod.mk.injEq] at h
  obtain ⟨rfl,rfl⟩:=h
  have e:row=aC:=bt _ (by simp)
  have ak:tB aC:=bt _ (by simp)
  exact (ak I (e▸h1)).2
 | bM aC =>
  simp only [jn,Option.some.injEq,Prod.mk.injEq] at h
  obtain ⟨rfl,rfl⟩:=h
  have ak:lM row:=bt _ (by simp)
  exact (ak I h1).resolve_right o
 | rx aC=>cases row with
  | nil=>simp [jn] at h
  | cons I l=>cases l<;>simp [jn] at h
 | drop=>cases row with
  | nil=>simp [jn] at h
  | cons I l=>cases l<;>simp [jn] at h
 | box l =>
  match row,h,h1 with
  | [p],h,h1 =>
   simp only [jn] at h
   rw [List.mem_singleton] at h1;subst h1
   split at h
   ·split at h
    ·rename_i e;exact e
    ·simp at h
   ·simp at h
  | [],h,_=>simp [jn] at h
  | _::_::_,h,_=>simp [jn] at h
section
variable {P:Program} {g:G} {s:S} {aB:fy} {a:Act} {w:World}
theorem Li (eo:iq g s aB w){a2:gO}{cd:Nat→Option Nat}(H:mQ s a2 cd sH): ∀(l:List Src) (dc:List iR) (T:List (List ae)) (an:List Prop),
 mj s.a0 cd a2 l dc=some (T,an)→(∀p∈an,p)→T.length=l.length∧ ∀(j:Nat) dR b,T[j]? = some dR→l[j]? = some b →
  (∀r k I,b.has r k→s.an r k=some I→I.cz = .live)∧(∀r k,b.has r k→s.a9 r k→b.mP k<dR.length) ∧
  (∀r k I,b = .an r k I→s.an r k=some I) ∧
  ∀(i:Nat) cc,dx (some dR) i=some cc→ ∃r k I,b.has r k∧i=b.mP k∧s.an r k=some I∧oB s a2 sH l9 I cc
 | [],[],T,an,h,_=>by
  simp [mj] at h;obtain ⟨rfl,rfl⟩:=h
  exact ⟨rfl,fun j dR r aE=>by simp at aE⟩
 | .row r::l,c::dc,T,an,h,bt=>by
  simp only [mj] at h
  split at h
  ·rename_i row dN
   split at h
   ·rename_i ao b9 nh aV h1 o
    simp only [Option.some.injEq,Prod.mk.injEq] at h
    obtain ⟨rfl,rfl⟩:=h
    obtain ⟨e1,aD⟩:=Li eo H l dc nh aV o (fun p ak=>bt p (by simp [ak]))
    have ko : ∀k,s.an r k=dx (some row) k:=fun k=>by unfold S.an;rw [dN]
    obtain ⟨f0,f1,f2⟩:=EJ (q:=l9) (kk:=id) eo H (t0 _) (fun k I aq=>(ko k).trans aq) h1 (fun p ak=>bt p (by simp [ak])) (fun _ _ _ _ _ _ _=>trivial)
    refine ⟨by simp [e1],fun j dR b aE aT=> ?_⟩
    cases j with
    | zero =>
     simp at aE aT;subst aE;subst aT
     refine ⟨fun q k I bb aq=> ?_,fun q k bb hu=> ?_,fun _ _ _ e=>by simp at e,fun i cc d9=> ?_⟩
     ·have bb:q=r:=bb
      subst bb;rw [ko] at aq;exact f1 k I aq
     ·have bb:q=r:=bb
      subst bb;rw [f0];simpa [S.a9,dN,Src.mP] using hu
     ·obtain ⟨I,g1,g2⟩:=f2 i cc d9
      exact ⟨r,i,I,rfl,rfl,(ko i).trans g1,g2⟩
    | succ j=>simp at aE aT;exact aD j dR b aE aT
   ·simp at h
  ·simp at h
 | .an r ju lF::l,c::dc,T,an,h,bt=>by
  simp only [mj] at h
  split at h
  ·rename_i row dN
   split at h
   ·rename_i ao b9 nh aV h1 o
    simp only [Option.some.injEq,Prod.mk.injEq] at h
    obtain ⟨rfl,rfl⟩:=h
    obtain ⟨e1,aD⟩:=Li eo H l dc nh aV o (fun p ak=>bt p (by simp [ak]))
    have aq:s.an r ju=some lF:=by unfold S.an;rw [dN];exact bt _ (by simp)
    have l3 : ∀k I,dx (some [lF]) k=some I→k=0∧I=lF:=fun k I ba=>by
     rw [mg] at ba;split at ba
     ·rename_i e;simp at ba;exact ⟨e.1,ba.symm⟩
     ·simp at ba
    have M0:lF.cz≠ .gone:=by
     unfold S.an at aq;rw [dN,kB] at aq
     cases ba:row[ju]? with
     | none=>rw [ba] at aq;simp at aq
     | some p =>
      rw [ba,Option.bind_some] at aq;split at aq
      ·simp at aq
      ·rename_i e;simp at aq;subst aq;exact e
    obtain ⟨f0,f1,f2⟩:=EJ (q:=l9) (kk:=fun _=>ju) (r:=r) eo H (t0 _) (fun k I ba=>by rw [(l3 k I ba).2];exact aq) h1 (fun p ak=>bt p (by simp [ak])) (fun _ _ _ _ _ _ _=>trivial)
    refine ⟨by simp [e1],fun j dR b aE aT=> ?_⟩
    cases j with
    | zero =>
     simp at aE aT;subst aE;subst aT
     refine ⟨fun q k I bb pX=> ?_,fun q k bb hu=> ?_,fun eR dD cc e=> ?_,fun i cc d9=> ?_⟩
     ·obtain ⟨rfl,rfl⟩:q=r∧k=ju:=bb
      rw [aq] at pX;simp at pX;subst pX
      exact f1 0 lF (by rw [mg];simp [M0])
     ·rw [f0];simp [Src.mP]
     ·cases e;exact aq
     ·obtain ⟨I,g1,g2⟩:=f2 i cc d9
      obtain ⟨rfl,rfl⟩:=l3 i I g1
      exact ⟨r,ju,I,⟨rfl,rfl⟩,rfl,aq,g2⟩
    | succ j=>simp at aE aT;exact aD j dR b aE aT
   ·simp at h
  ·simp at h
 | [],_::_,_,_,h,_=>by simp [mj] at h
 | .row _::_,[],_,_,h,_=>by simp [mj] at h
 | .an .. :: _,[],_,_,h,_=>by simp [mj] at h
theorem La {gd:G}{s1:S}{k4:fy}{bT:World}(eo:iq gd s1 k4 bT){kU:gO}{q:aF→Prop}{cd:Nat→Option Nat}(H:mQ s1 kU cd k1)(bK:tg q k1)
 (bb : ∀j i I,s1.an j i=some I→ ∀e∈I.es,∀x∈e,q x) :
 ∀(l:List Src) (dc:List iR) (T:List (List ae)) (u:List (Nat×List ae)) (an:List Prop) (n:Nat) (s:S),Cf l→(∀j row,T[j]? = some row→s1.a0 (n+j)=some row) →
 (∀r k j i,jH n l r k=some (j,i)→s.a9 r k→s1.a9 j i)→(∀r k I,Src.an r k I∈l→s.a9 r k) →
 k9 s1.a0 cd kU s.a0 l dc T=some (u,an)→(∀p∈an,p)→T.length=l.length∧(s.ic u).E=s.E ∧
  (∀r k I,(s.ic u).an r k=some I→(∃j i p,jH n l r k=some (j,i)∧s1.an j i=some p∧oB s1 kU k1 q p I)∨(jH n l r k=none∧s.an r k=some I)) ∧
  (∀r k,s.a9 r k→(s.ic u).a9 r k)∧(∀r k j i,jH n l r k=some (j,i)→s1.a9 j i→(s.ic u).a9 r k)
 | [],[],[],u,an,n,s,_,_,_,_,h,_=>by
  simp [k9] at h;obtain ⟨rfl,rfl⟩:=h
  exact ⟨rfl,rfl,fun r k I aq=> .inr ⟨rfl,aq⟩,fun r k h=>h,fun r k j i h=>by simp [jH] at h⟩
 | .row q0::l,c::dc,row::T,u,an,n,s,sa,iy,hu,rl,h,bt=>by
  simp only [k9] at h
  split at h
  ·rename_i dR b9 h1
   split at h
   ·rename_i n9 aV o
    simp only [Option.some.injEq,Prod.mk.injEq] at h
    obtain ⟨rfl,rfl⟩:=h
    have CG:=List.pairwise_cons.1 sa
    have ie:s1.a0 n=some row:=iy 0 row rfl
    have vK : ∀k,s1.an n k=dx (some row) k:=fun k=>by unfold S.an;rw [ie]
    obtain ⟨f0,f1,f2⟩:=EJ (q:=q) (kk:=id) (r:=n) eo H bK (fun k I aq=>(vK k).trans aq) h1 (fun p ak=>bt p (by simp [ak])) (fun k I aq=>bb n k I ((vK k).trans aq))
    have hU : ∀k j i,jH (n+1) l q0 k≠some (j,i):=fun k j i hm=>by
     obtain ⟨b,ix,hx,qO,NM⟩:=vk hm
     exact CG.1 b (List.mem_of_getElem? hx) q0 k ⟨rfl,qO⟩
    have ze : ∀r k,s.a9 r k→(s.setRow q0 dR).a9 r k:=fun r k ba=>by
     rw [nq]
     by_cases e:r=q0
     ·subst e;rw [if_pos rfl,f0]
      have:=hu r k n k (by simp [jH]) ba
      simpa [S.a9,ie] using this
     ·rw [if_neg e];exact ba
    obtain ⟨e1,aD,bP,c4,dh⟩:=La eo H bK bb l dc T n9 aV (n+1) (s.setRow q0 dR) CG.2 (fun j row aE=>by rw [Nat.add_assoc,Nat.add_comm 1 j];exact iy (j+1) row (by simpa using aE))
     (fun r k j i hm ba=>by
       have c8:r≠q0:=by rintro rfl;exact hU _ _ _ hm
       refine hu r k j i ?_ (by rw [nq,if_neg c8] at ba;exact ba)
       rw [rR n (.row q0) l r k c8];exact hm)
     (fun r k I hm=>ze r k (rl r k I (by simp [hm]))) o (fun p ak=>bt p (by simp [ak]))
    refine ⟨by simp [e1],aD,fun r k I aq=> ?_,fun r k ba=>c4 r k (ze r k ba),fun r k j i hm ba=> ?_⟩
    ·rcases bP r k I aq with ⟨j,i,p,ix,hx,qO⟩|⟨ix,hx⟩
     ·have c8:r≠q0:=by rintro rfl;exact hU _ _ _ ix
      exact .inl ⟨j,i,p,by rw [rR n (.row q0) l r k c8];exact ix,hx,qO⟩
     ·rw [lJ] at hx
      by_cases e:r=q0
      ·subst e
       rw [if_pos rfl] at hx
       obtain ⟨p,g1,g2⟩:=f2 k I hx
       exact .inl ⟨n,k,p,by simp [jH],(vK k).trans g1,g2⟩
      ·rw [if_neg e] at hx
       exact .inr ⟨by rw [rR n (.row q0) l r k e];exact ix,hx⟩
    ·by_cases e:r=q0
     ·subst e
      simp only [jH,if_true] at hm
      simp only [Option.some.injEq,Prod.mk.injEq] at hm
      obtain ⟨rfl,rfl⟩:=hm
      refine c4 r k ?_
      rw [nq,if_pos rfl,f0]
      simpa [S.a9,ie] using ba
     ·rw [rR n (.row q0) l r k e] at hm
      exact dh r k j i hm ba
   ·simp at h
  ·simp at h
 | .an q0 ju lF::l,c::dc,row::T,u,an,n,s,sa,iy,hu,rl,h,bt=>by
  simp only [k9] at h
  split at h
  ·rename_i lO Fp
   split at h
   ·rename_i cc b9 h1
    split at h
    ·rename_i n9 aV o
     simp only [Option.some.injEq,Prod.mk.injEq] at h
     obtain ⟨rfl,rfl⟩:=h
     have CG:=List.pairwise_cons.1 sa
     have ie:s1.a0 n=some row:=iy 0 row rfl
     have vK : ∀k,s1.an n k=dx (some row) k:=fun k=>by unfold S.an;rw [ie]
     obtain ⟨f0,f1,f2⟩:=EJ (q:=q) (kk:=id) (r:=n) eo H bK (fun k I aq=>(vK k).trans aq) h1 (fun p ak=>bt p (by simp [ak])) (fun k I aq=>bb n k I ((vK k).trans aq))
     have hU : ∀j i,jH (n+1) l q0 ju≠some (j,i):=fun j i hm=>by
      obtain ⟨b,ix,hx,qO,NM⟩:=vk hm
      exact CG.1 b (List.mem_of_getElem? hx) q0 ju ⟨⟨rfl,rfl⟩,qO⟩
     have ze : ∀r k,s.a9 r k→(s.setRow q0 (lO.set ju cc)).a9 r k:=El s Fp (by simp)
     have sX:ju<lO.length:=by have:=rl q0 ju lF (by simp);simpa [S.a9,Fp] using this
     obtain ⟨e1,aD,bP,c4,dh⟩:=La eo H bK bb l dc T n9 aV (n+1) (s.setRow q0 (lO.set ju cc)) CG.2 (fun j row aE=>by rw [Nat.add_assoc,Nat.add_comm 1 j];exact iy (j+1) row (by simpa using aE))
      (fun r k j i hm ba=>by
        have c8 : ¬(Src.an q0 ju lF).has r k:=by rintro ⟨rfl,rfl⟩;exact hU _ _ hm
        refine hu r k j i (by rw [rR n _ l r k c8];exact hm) ?_
        rw [nq] at ba
        split at ba
        ·rename_i e;subst e;simpa [S.a9,Fp] using ba
        ·exact ba)
      (fun r k I hm=>ze r k (rl r k I (by simp [hm]))) o (fun p ak=>bt p (by simp [ak]))
     refine ⟨by simp [e1],aD,fun r k I aq=> ?_,fun r k ba=>c4 r k (ze r k ba),fun r k j i hm ba=> ?_⟩
     ·rcases bP r k I aq with ⟨j,i,p,ix,hx,qO⟩|⟨ix,hx⟩
      ·have c8 : ¬(Src.an q0 ju lF).has r k:=by rintro ⟨rfl,rfl⟩;exact hU _ _ ix
       exact .inl ⟨j,i,p,by rw [rR n _ l r k c8];exact ix,hx,qO⟩
      ·rw [lJ] at hx
       by_cases e:r=q0
       ·subst e
        rw [if_pos rfl,kB,List.getElem?_set] at hx
        by_cases aD:ju=k
        ·subst aD
         rw [if_pos rfl,if_pos sX,Option.bind_some] at hx
         have qO:dx (some [cc]) 0=some I:=by rw [kB];exact hx
         obtain ⟨p,g1,g2⟩:=f2 0 I qO
         exact .inl ⟨n,0,p,by simp [jH],(vK 0).trans g1,g2⟩
        ·rw [if_neg aD] at hx
         have c8 : ¬(Src.an r ju lF).has r k:=by rintro ⟨-,rfl⟩;exact aD rfl
         exact .inr ⟨by rw [rR n _ l r k c8];exact ix,by unfold S.an;rw [Fp,kB];exact hx⟩
       ·rw [if_neg e] at hx
        have c8 : ¬(Src.an q0 ju lF).has r k:=by rintro ⟨rfl,-⟩;exact e rfl
        exact .inr ⟨by rw [rR n _ l r k c8];exact ix,hx⟩
     ·by_cases e:(Src.an q0 ju lF).has r k
      ·obtain ⟨rfl,rfl⟩:=e
       exact c4 r k (ze r k (rl r k lF (by simp)))
      ·rw [rR n _ l r k e] at hm
       exact dh r k j i hm ba
    ·simp at h
   ·simp at h
  ·simp at h
 | [],[],_::_,_,_,_,_,_,_,_,_,h,_=>by simp [k9] at h
 | [],_::_,_,_,_,_,_,_,_,_,_,h,_=>by simp [k9] at h
 | .row _::_,[],_,_,_,_,_,_,_,_,_,h,_=>by simp [k9] at h
 | .an .. :: _,[],_,_,_,_,_,_,_,_,_,h,_=>by simp [k9] at h
 | .row _::_,_::_,[],_,_,_,_,_,_,_,_,h,_=>by simp [k9] at h
 | .an .. :: _,_::_,[],_,_,_,_,_,_,_,_,h,_=>by simp [k9] at h
theorem Q1 (h:cW g s aB a w){aW:Nat}(e7:s.a0 aW=none){f:FuncId}{args:List aF}{cv:Dc}{l:List Src}(nF:l=if cv.eV.length=cv.a2.length then cv.a2 else cv.a2++[.row aW])
 (sa:Cf cv.a2) (vT : ∀a∈cv.a2,a.r≠aW) {b8:gm→Bool} {A:Nat→Prop} {q:aF→Prop} {T:List (List ae)} {cd:Nat→Option Nat}
 (hA : ∀b,A b→b<w.heap.size) (MV : ∀b,s.ok g aB w b→A b) (MW : ∀r k I b m,s.an r k=some I→b8 I.cz=true→aB r k=some (b,m)→A b)
 (afl:(∀b,A b→s.ok g aB w b)∨(∀x,q x→bR x)) (bK:tg q k1) (Gd:mQ s (kG cv.a2) cd b8)
 (c5:pY s (kG cv.a2) b8 l9 (fh T).a0) (pP : ∀r k I,(∃j i,kG cv.a2 j i=some (r,k))→s.an r k=some I→I.cz = .live) (hex : ∀r k I,Src.an r k I∈cv.a2→s.a9 r k)
 {qw:List aF} {b9:List Prop} (na:lL (nR s.a0 cd (kG cv.a2) b8) cv.ac args=some (qw,b9)) (rm : ∀p∈b9,p)
 {eR:aF} {fI:List Prop} (zl:nR (fun j=>cv.eV[j]?) (sI l) (jH 0 l) k1 cv.gr cv.r=some (eR,fI)) (M1 : ∀p∈fI,p)
 {u:List (Nat×List ae)} {eA:List Prop} (CH:k9 (fun j=>cv.eV[j]?) (sI l) (jH 0 l) s.a0 l cv.hC cv.eV=some (u,eA)) (afm : ∀p∈eA,p)
 (zf:Con P f qw T cv.r cv.eV) (afn:q cv.r) (afo : ∀j i I,(fh cv.eV).an j i=some I→ ∀e∈I.es,∀x∈e,q x)
 {vs:List Value} (aU:vs.length=args.length) (hargs : ∀(j:Nat) x v,args[j]? = some x→vs[j]? = some v→Rel w (s.ok g aB w) s.a9 (s.bm aB) x v) :
 EK P f∧Calls P f vs.toArray w fun e bT=> ∃v bQ,e = .returned v∧cW g (s.ic u) bQ a bT∧Rel bT ((s.ic u).ok g bQ bT) (s.ic u).a9 ((s.ic u).bm bQ) eR v:=by
 have M2:Cf l:=by
  subst nF
  split
  ·exact sa
  ·refine List.pairwise_append.2 ⟨sa,List.pairwise_singleton _ _,fun b aT c bj r k fY=> ?_⟩
   rw [List.mem_singleton] at bj;subst bj
   have h1:r=aW:=fY.2
   subst h1
   cases b with
   | row r0=>exact vT _ aT (Eq.symm fY.1)
   | an r0 ju lF=>exact vT _ aT (Eq.symm fY.1.1)
 have To : ∀(j:Nat) b,cv.a2[j]? = some b→l[j]? = some b:=by
  intro j b aE
  subst nF
  split
  ·exact aE
  ·rw [List.getElem?_append_left (gb aE)];exact aE
 have Tp : ∀(j:Nat) b,l[j]? = some b→cv.a2[j]? = some b∨b = .row aW:=by
  intro j b aE
  subst nF
  split at aE
  ·exact .inl aE
  ·rw [List.getElem?_append] at aE
   split at aE
   ·exact .inl aE
   ·right
    have:=gb aE
    simp at this
    rw [show j-cv.a2.length=0 by omega] at aE
    simpa using aE.symm
 refine ⟨zf.1,?_⟩
 obtain ⟨gd,q1,a7,bZ,NN,cC,dr,f8,h7⟩:=enter h.toiq A hA MV MW c5 pP
 obtain ⟨e1,aD,bP⟩:=EI _ _ _ _ _ na
 have:=zf.2 gd (j0 aB (kG cv.a2)) w vs.toArray q1 bZ NN cC f8 (by simp [aU,e1]) (by
  intro j cR v dV bk
  have aE:j<args.length:=by have:=gb dV;omega
  have U:=List.getElem?_eq_getElem aE
  obtain ⟨c,cc,f1,f2,f3⟩:=bP j _ cR U dV
  have Cr:vs[j]? = some v:=by simpa using bk
  exact h7 (Bj h.toiq Gd (t0 _) f2 (fun p ak=>rm p (f3 p ak)) trivial (hargs j _ v U Cr)) (hargs j _ v U Cr))
 refine this.mono fun e bT Cp=> ?_
 obtain ⟨v,k4,rfl,FI,bk⟩:=Cp
 have Ul:mQ (fh cv.eV) (jH 0 l) (sI l) k1:=by
  refine ⟨fun j r aE k=> ?_,fun _ _ _ _ _ bJ=>by simp [k1] at bJ⟩
  unfold sI at aE
  split at aE
  ·rename_i r0 lv
   simp at aE;subst aE
   have:=BE (n:=0) (r:=r0) (k:=k) M2 lv rfl
   simpa [Src.mP] using this
  ·simp at aE
 have BO : ∀j i r k,kG cv.a2 j i=some (r,k)→jH 0 l r k=some (j,i):=fun j i r k hm=>by
  obtain ⟨b,ix,hx,rfl⟩:=tD.1 hm
  have:=BE (n:=0) M2 (To j b ix) hx
  simpa using this
 have Fm : ∀r k j i,jH 0 l r k=some (j,i)→kG cv.a2 j i=some (r,k)∨ ¬s.a9 r k:=fun r k j i hm=>by
  obtain ⟨b,-,hx,qO,NM⟩:=vk hm
  rcases Tp j b (by simpa using hx) with e|e
  ·exact .inl (tD.2 ⟨b,e,qO,NM⟩)
  ·subst e
   have:r=aW:=qO
   subst this
   exact .inr (yi e7 k)
 obtain ⟨lE,n9,gZ,ago,agp⟩:=La (s1:=fh cv.eV) FI Ul bK afo l cv.hC cv.eV u eA 0 s M2 (fun j row aE=>by simpa [fh] using aE)
  (fun r k j i hm ba=>by
    rcases Fm r k j i hm with e|e
    ·exact (FI.stay j i (by rw [NN];exact c5.a9 _ _ _ _ e ba)).1
    ·exact absurd ba e)
  (fun r k I hm=>by
    obtain ⟨j,aE⟩:=List.getElem?_of_mem hm
    rcases Tp j _ aE with e|e
    ·exact hex r k I (List.mem_of_getElem? e)
    ·cases e) CH afm
 obtain ⟨lD,f1,f2⟩:=leave (q0:=l9) (q:=q) h q1 (by rw [a7];exact afl) NN cC dr pP c5 FI BO Fm (fun r k eR dD p=>ac7) (s2:=s.ic u) n9 gZ ago agp
  (Bj FI Ul bK zl M1 afn bk) bk
 exact ⟨v,lD,rfl,f1,f2⟩
theorem aai (h:cW g s aB a w){aW:Nat}(e7:s.a0 aW=none){f:FuncId}{args:List aF}{cv:Dc}{bH:ir}(ay:y7 P s.a0 aW f args cv=some bH)(cH:∀p∈bH.fH,p)
 {vs:List Value} (aU:vs.length=args.length) (hargs : ∀(j:Nat) x v,args[j]? = some x→vs[j]? = some v→Rel w (s.ok g aB w) s.a9 (s.bm aB) x v) :
 EK P f∧Calls P f vs.toArray w fun e bT=> ∃v bQ,e = .returned v∧cW g (s.ic bH.fU) bQ a bT∧Rel bT ((s.ic bH.fU).ok g bQ bT) (s.ic bH.fU).a9 ((s.ic bH.fU).bm bQ) bH.val v:=by
 unfold y7 at ay
 simp only at ay
 generalize nF:(if cv.eV.length=cv.a2.length then cv.a2 else cv.a2++[.row aW])=l at ay
 split at ay
 ·simp at ay
 ·rename_i lF sY
  split at ay
  ·simp at ay
  ·rename_i aeI
   have vT : ∀a∈cv.a2,a.r≠aW:=fun b aT e=>aeI (List.any_eq_true.2 ⟨b,aT,by simpa using e⟩)
   split at ay
   ·
    split at ay
    ·rename_i t8
     split at ay
     ·rename_i qw b9 eR fI u eA na zl CH
      simp only [Option.some.injEq] at ay
      subst ay
      have zf:Con P f qw [] cv.r cv.eV:=cH _ (by simp)
      have CI:bR cv.r:=cH _ (by simp)
      have aeJ:lx cv.eV:=by
       by_cases e:cv.eV=[]
       ·rw [e];intro row dN;simp at dN
       ·exact cH _ (by
         have:cv.eV.isEmpty=false:=by simpa [List.isEmpty_iff] using e
         simp [this])
      refine Q1 (b8:=kO) (A:=fun b=>b<w.heap.size) (q:=bR) (T:=[]) (cd:=fun _=>none) h e7 nF.symm (by rw [t8];exact List.Pairwise.nil) vT (fun _ aT=>aT) (fun b aT=>aT.1)
       (fun r k I b m aq _ ak=>BC h.toiq aq ak) (.inr fun _ U=>U) afh ?_ ?_ ?_ ?_ (by rw [t8];exact na) (fun p ak=>cH p (by simp [ak])) zl (fun p ak=>cH p (by simp [ak])) CH (fun p ak=>cH p (by simp [ak])) zf CI ?_ aU hargs
      ·refine ⟨fun _ _ e=>by simp at e,fun r _ k I _ _ j i e=> ?_⟩
       rw [t8] at e;simp [kG] at e
      ·refine ⟨fun j i h5 eO p e=> ?_,fun j i cc e=> ?_,fun j i r k e=> ?_⟩
       ·rw [t8] at e;simp [kG] at e
       ·simp [fh,dx] at e
       ·rw [t8] at e;simp [kG] at e
      ·rintro r k I ⟨j,i,e⟩
       rw [t8] at e;simp [kG] at e
      ·rintro r k I e
       rw [t8] at e;simp at e
      ·intro j i I aq e he x U
       have aq:dx (cv.eV[j]?) i=some I:=aq
       cases ap:cv.eV[j]? with
       | none=>rw [ap] at aq;simp [dx] at aq
       | some row =>
        rw [ap,kB] at aq
        cases ba:row[i]? with
        | none=>rw [ba] at aq;simp at aq
        | some p =>
         rw [ba,Option.bind_some] at aq
         split at aq
         ·simp at aq
         ·simp at aq;subst aq
          exact aeJ row (List.mem_of_getElem? ap) p (List.mem_of_getElem? ba) e he x U
     ·simp at ay
    ·simp at ay
   ·split at ay
    ·rename_i qw b9 T aV eR fI u eA na zk zl CH
     simp only [Option.some.injEq] at ay
     subst ay
     have sa:=Q0 sY fun p ak=>cH p (by simp [ak])
     have zf:Con P f qw T cv.r cv.eV:=cH _ (by simp)
     have ah : ∀r j,o7 0 cv.a2 r=some j→ ∀k,kG cv.a2 j k=some (r,k):=fun r j aE k=>by
      obtain ⟨-,o⟩:=Lh aE
      simp only [kG,show cv.a2[j]? = some (.row r) by simpa using o]
     have MY : ∀(l:List Src) (dc:List iR) (T:List (List ae)) (an:List Prop),mj s.a0 (o7 0 cv.a2) (kG cv.a2) l dc=some (T,an)→(∀p∈an,p) →
      ∀b∈l,∀r k I,b.has r k→s.an r k=some I→I.cz≠ .jd:=by
      intro l
      induction l with
      | nil=>intro _ _ _ _ _ b aT;simp at aT
      | cons b l ih =>
       intro dc T an h0 bt c bj r k I fY aq
       cases dc with
       | nil=>cases b<;>simp [mj] at h0
       | cons cJ dc =>
        cases b with
        | row r0 =>
         simp only [mj] at h0
         split at h0
         ·rename_i row dN
          split at h0
          ·rename_i ao p1 nh hE h1 o
           simp only [Option.some.injEq,Prod.mk.injEq] at h0
           obtain ⟨rfl,rfl⟩:=h0
           rcases List.mem_cons.1 bj with rfl|bj
           ·have e:r=r0:=fY
            subst e
            have d9:dx (some row) k=some I:=by unfold S.an at aq;rw [dN] at aq;exact aq
            have:=Qb h1 (fun p ak=>bt p (by simp [ak])) k I d9
            rw [this];simp
           ·exact ih dc nh hE o (fun p ak=>bt p (by simp [ak])) c bj r k I fY aq
          ·simp at h0
         ·simp at h0
        | an r0 ju lF =>
         simp only [mj] at h0
         split at h0
         ·rename_i row dN
          split at h0
          ·rename_i ao p1 nh hE h1 o
           simp only [Option.some.injEq,Prod.mk.injEq] at h0
           obtain ⟨rfl,rfl⟩:=h0
           rcases List.mem_cons.1 bj with rfl|bj
           ·obtain ⟨rfl,rfl⟩:=fY
            have rm:dx (some row) k=some lF:=bt _ (by simp)
            have d9:dx (some row) k=some I:=by unfold S.an at aq;rw [dN] at aq;exact aq
            rw [rm] at d9;simp at d9;subst d9
            have M0:lF.cz≠ .gone:=by
             rw [kB] at rm
             cases ba:row[k]? with
             | none=>rw [ba] at rm;simp at rm
             | some p =>
              rw [ba,Option.bind_some] at rm;split at rm
              ·simp at rm
              ·rename_i e;simp at rm;subst rm;exact e
            have:=Qb h1 (fun p ak=>bt p (by simp [ak])) 0 lF (by rw [mg];simp [M0])
            rw [this];simp
           ·exact ih dc nh hE o (fun p ak=>bt p (by simp [ak])) c bj r k I fY aq
          ·simp at h0
         ·simp at h0
     have Gd:mQ s (kG cv.a2) (o7 0 cv.a2) sH:=by
      refine ⟨ah,fun r ap k I aq bJ j i hm=> ?_⟩
      obtain ⟨b,ix,hx,-⟩:=tD.1 hm
      exact MY cv.a2 cv.dc T aV zk (fun p ak=>cH p (by simp [ak])) b (List.mem_of_getElem? ix) r k I hx aq (by simpa [sH] using bJ)
     obtain ⟨t1,t2⟩:=Li h.toiq Gd cv.a2 cv.dc T aV zk (fun p ak=>cH p (by simp [ak]))
     have l8 : ∀j b,cv.a2[j]? = some b→ ∃dR,T[j]? = some dR:=fun j b aE=>by
      have:j<T.length:=by have:=gb aE;omega
      exact ⟨_,List.getElem?_eq_getElem this⟩
     refine Q1 (b8:=sH) (A:=s.ok g aB w) (q:=l9) (T:=T) h e7 nF.symm sa vT (fun b aT=>aT.1) (fun b aT=>aT)
      (fun r k I b m aq ba ak=>adG h.toiq aq (by simpa [sH] using ba) ak) (.inl fun _ aT=>aT) (t0 _) Gd ?_ ?_ ?_ na (fun p ak=>cH p (by simp [ak])) zl (fun p ak=>cH p (by simp [ak])) CH
      (fun p ak=>cH p (by simp [ak])) zf trivial (fun _ _ _ _ _ _ _ _=>trivial) aU hargs
     ·refine ⟨fun j i h5 eO p e ey=> ?_,fun j i cc d9=> ?_,fun j i r k e hu=> ?_⟩
      ·obtain ⟨r,k⟩:=p
       obtain ⟨b,ix,hx,rfl⟩:=tD.1 e
       obtain ⟨kv,afp,afq,rfl⟩:=tD.1 ey
       have e1:=BE (n:=0) sa ix hx
       have aD:=BE (n:=0) sa afp afq
       rw [e1] at aD
       simpa using aD
      ·have aE:j<T.length:=by
        rcases Nat.lt_or_ge j T.length with e|e
        ·exact e
        ·have:(fh T).a0 j=none:=List.getElem?_eq_none e
         rw [this] at d9;simp [dx] at d9
       have Tq:T[j]? = some T[j]:=List.getElem?_eq_getElem aE
       have Tr:cv.a2[j]? = some (cv.a2[j]'(by omega)):=List.getElem?_eq_getElem (by omega)
       have pX:dx (some T[j]) i=some cc:=by have:(fh T).a0 j=some T[j]:=Tq;rw [this] at d9;exact d9
       obtain ⟨r,k,I,n1,ky,agq,agr⟩:=(t2 j _ _ Tq Tr).2.2.2 i cc pX
       exact ⟨r,k,I,tD.2 ⟨_,Tr,n1,ky⟩,agq,agr⟩
      ·obtain ⟨b,ix,hx,rfl⟩:=tD.1 e
       obtain ⟨dR,rV⟩:=l8 j b ix
       have:=(t2 j dR b rV ix).2.1 r k hx hu
       show b.mP k<((T[j]?).getD []).length
       rw [rV];exact this
     ·rintro r k I ⟨j,i,e⟩ aq
      obtain ⟨b,ix,hx,-⟩:=tD.1 e
      obtain ⟨dR,rV⟩:=l8 j b ix
      exact (t2 j dR b rV ix).1 r k I hx aq
     ·intro r k I hm
      obtain ⟨j,aE⟩:=List.getElem?_of_mem hm
      obtain ⟨dR,rV⟩:=l8 j _ aE
      exact EH ((t2 j dR _ rV aE).2.2.1 r k I rfl)
    ·simp at ay
end
end Go.VL
