/- Lemmas, plain functions of the program, and what they answer. No condition. -/
import Derived.Below
import Derived.Eval
import Derived.KernelRfl
import Derived.Laws.Append
import Derived.Laws.AppendOwn
import Derived.Laws.BytesString
import Derived.Laws.Cells
import Derived.Laws.CopyRow
import Derived.Laws.Entries
import Derived.Laws.MakeOwn
import Derived.Laws.OwnMore
import Derived.Laws.Rows
import Derived.Laws.Slices
import Derived.Laws.Tables
import Derived.Orders
namespace Go.VL
set_option linter.unusedVariables false
set_option linter.unusedSimpArgs false
open Go
inductive aD where
 | dead
 | b (x:Bool)
 | n (k:IntKind) (x:Int)
 | s (x:ByteArray)
 | ij
 | ei
 | iB
 | ref (r k i off:Nat)
 | bf (r k b0 len:Nat)
 | i2 (r c sz:Nat) (h:Option (Nat×Nat))
 | isl (sz:Nat) (es:List (List aD))
 | ej (sz:Nat) (es:List (List aD)) (i off:Nat)
 | kh (sz:Nat) (c:Option (List aD))
 | agg (c:List aD)
 | ea (vs:List aD)
 | fn (f:Nat) (cap:List aD)
 deriving Inhabited
inductive gg where
 | live|i9|gone
 deriving DecidableEq,Inhabited
structure ae where
 sz:Nat
 es:List (List aD)
 cv:gg
 deriving Inhabited
structure S where
 E:Nat→aD
 aX:Nat→Option (List ae)
abbrev kn (v:Value):Bool:=v.oneCell'
abbrev fx:=Nat→Nat→Option (Nat×Nat)
abbrev jd:=Nat→Nat→Option (Nat×Option (Nat×Nat))
abbrev jn:=Nat→Nat→Prop
inductive Pure:aD→Prop
 | dead:Pure .dead
 | b (x:Bool):Pure (.b x)
 | n (k:IntKind) (x:Int):Pure (.n k x)
 | s (x:ByteArray):Pure (.s x)
 | ij:Pure .ij
 | ei:Pure .ei
 | iB:Pure .iB
 | isl {sz:Nat} {es:List (List aD)} (h : ∀e∈es,∀x∈e,Pure x):Pure (.isl sz es)
 | ej {sz i off:Nat} {es:List (List aD)} (h : ∀e∈es,∀x∈e,Pure x):Pure (.ej sz es i off)
 | pk (sz:Nat):Pure (.kh sz none)
 | o0 {sz:Nat} {c:List aD} (h : ∀x∈c,Pure x):Pure (.kh sz (some c))
 | agg {c:List aD} (h : ∀x∈c,Pure x):Pure (.agg c)
 | ea {c:List aD} (h : ∀x∈c,Pure x):Pure (.ea c)
 | fn {f:Nat} {c:List aD} (h : ∀x∈c,Pure x):Pure (.fn f c)
def jU (es:List (List aD)):Prop:= ∀e∈es,∀x∈e,Pure x
inductive Rel (w:World) (ok:Nat→Prop) (a7:jn) (bj:jd):aD→Value→Prop
 | dead (v:Value):Rel w ok a7 bj .dead v
 | b (x:Bool):Rel w ok a7 bj (.b x) (.bool x)
 | n (k:IntKind) (x:Int):Rel w ok a7 bj (.n k x) (.int k x)
 | s (x:ByteArray):Rel w ok a7 bj (.s x) (.string x)
 | ij:Rel w ok a7 bj .ij (.pointer none)
 | ei:Rel w ok a7 bj .ei (.slice none 0 0)
 | iB (a:Addr) (c:Nat):Rel w ok a7 bj .iB (.slice (some a) 0 c)
 | pz {r k i off:Nat} (a:Option Addr) (hu:a7 r k) (h : ∀sz p,bj r k≠some (sz,some p)):Rel w ok a7 bj (.ref r k i off) (.pointer a)
 | ref {r k i off sz ec m:Nat} (hu:a7 r k) (h:bj r k=some (sz,some (ec,m))):Rel w ok a7 bj (.ref r k i off) (.pointer (some ⟨ec,i*sz+off,none⟩))
 | nm {r k b0 len:Nat} (a:Option Addr) (l c:Nat) (hu:a7 r k) (h:bj r k=none):Rel w ok a7 bj (.bf r k b0 len) (.slice a l c)
 | nK {r k sz:Nat} (hu:a7 r k) (h:bj r k=some (sz,none)):Rel w ok a7 bj (.bf r k 0 0) (.slice none 0 0)
 | bf {r k b0 len sz ec m c:Nat} {a:Option Addr} (hu:a7 r k) (h:bj r k=some (sz,some (ec,m))) (aV:len≤c) (bh:c<9223372036854775808)
  (hm:(b0+c)*sz=m∧(c=0∨a=some ⟨ec,b0*sz,none⟩)):Rel w ok a7 bj (.bf r k b0 len) (.slice a len c)
 | mW {r c sz:Nat} {v:Value} (h:Rel w ok a7 bj (.isl sz []) v):Rel w ok a7 bj (.i2 r c sz none) v
 | nS {r c sz k n:Nat} {v:Value} (h:Rel w ok a7 bj (.bf r (k+c) 0 n) v):Rel w ok a7 bj (.i2 r c sz (some (k,n))) v
 | kf (sz:Nat) (a:Option Addr) (c:Nat) (h:a=none→c=0):Rel w ok a7 bj (.isl sz []) (.slice a 0 c)
 | isl {sz:Nat} {es:List (List aD)} {ec off c:Nat} (cs:Nat→Value) (aU:ok ec) (ak:jU es) (aV : ∀e∈es,e.length=sz) (bh:es.length≤c)
  (hw : ∀(j:Nat) x,es.flatten[j]? = some x→w.cell? ⟨ec,off+j,none⟩=some (cs j)) (kd : ∀(j:Nat) x,es.flatten[j]? = some x→kn (cs j)=true)
  (aq : ∀(j:Nat) x,es.flatten[j]? = some x→Rel w ok a7 bj x (cs j)):Rel w ok a7 bj (.isl sz es) (.slice (some ⟨ec,off,none⟩) es.length c)
 | ej {sz:Nat} {es:List (List aD)} {ec I i off:Nat} (cs:Nat→Value) (aU:ok ec) (ak:jU es) (aV : ∀e∈es,e.length=sz)
  (hw : ∀(j:Nat) x,es.flatten[j]? = some x→w.cell? ⟨ec,I+j,none⟩=some (cs j)) (kd : ∀(j:Nat) x,es.flatten[j]? = some x→kn (cs j)=true)
  (aq : ∀(j:Nat) x,es.flatten[j]? = some x→Rel w ok a7 bj x (cs j)):Rel w ok a7 bj (.ej sz es i off) (.pointer (some ⟨ec,I+(i*sz+off),none⟩))
 | pk (sz:Nat):Rel w ok a7 bj (.kh sz none) (.pointer none)
 | o0 {sz:Nat} {c:List aD} {v:Value} (h:Rel w ok a7 bj (.ej sz [c] 0 0) v):Rel w ok a7 bj (.kh sz (some c)) v
 | agg {c:List aD} (vs:List Value) (aV:vs.length=c.length) (kd : ∀(j:Nat) v,vs[j]? = some v→kn v=true)
  (aq : ∀(j:Nat) x v,c[j]? = some x→vs[j]? = some v→Rel w ok a7 bj x v):Rel w ok a7 bj (.agg c) (.agg vs.toArray)
 | ea {c:List aD} (vs:List Value) (aV:vs.length=c.length)
  (aq : ∀(j:Nat) x v,c[j]? = some x→vs[j]? = some v→Rel w ok a7 bj x v):Rel w ok a7 bj (.ea c) (.tuple vs.toArray)
 | fn {f:Nat} {c:List aD} (vs:List Value) (aV:vs.length=c.length)
  (aq : ∀(j:Nat) x v,c[j]? = some x→vs[j]? = some v→Rel w ok a7 bj x v):Rel w ok a7 bj (.fn f c) (.func (.func f) #[] vs.toArray)
theorem Rel.mono {w bS:World}{ok k1:Nat→Prop}{a7 m1:jn}{bj ml:jd}{a:aD}{v:Value}(h:Rel w ok a7 bj a v)
 (m2 : ∀b,ok b→k1 b) (hw : ∀b,ok b→bS.heap[b]? = w.heap[b]?)
 (jC : ∀r k,a7 r k→m1 r k) (ls : ∀r k,a7 r k→ml r k=bj r k∨ml r k=none):Rel bS k1 m1 ml a v:=by
 have kd : ∀b I,ok b→bS.cell? ⟨b,I,none⟩=w.cell? ⟨b,I,none⟩:=fun b I aU=>World.cell?_of_block (hw b aU)
 induction h with
 | dead v=>exact .dead v
 | b x=>exact .b x
 | n k x=>exact .n k x
 | s x=>exact .s x
 | ij=>exact .ij
 | ei=>exact .ei
 | iB a c=>exact .iB a c
 | @pz r k i off a hu h =>
  refine .pz a (jC r k hu) fun sz p=> ?_
  rcases ls r k hu with e|e<;>rw [e]
  ·exact h sz p
  ·simp
 | @ref r k i off sz ec m hu h =>
  rcases ls r k hu with e|e
  ·exact .ref (jC r k hu) (e.trans h)
  ·exact .pz _ (jC r k hu) fun sz p=>by rw [e];simp
 | @nm r k b0 len a l c hu h=>exact .nm a l c (jC r k hu) (by rcases ls r k hu with e|e<;>rw [e];exact h)
 | @nK r k sz hu h =>
  rcases ls r k hu with e|e
  ·exact .nK (jC r k hu) (e.trans h)
  ·exact .nm _ _ _ (jC r k hu) e
 | @bf r k b0 len sz ec m c a hu h aV bh hm =>
  rcases ls r k hu with e|e
  ·exact .bf (jC r k hu) (e.trans h) aV bh hm
  ·exact .nm _ _ _ (jC r k hu) e
 | mW h ih=>exact .mW ih
 | nS h ih=>exact .nS ih
 | kf sz a c h=>exact .kf sz a c h
 | isl cs aU ak aV bh B1 iL aq ih=>exact .isl cs (m2 _ aU) ak aV bh (fun j x U=>(kd _ _ aU).trans (B1 j x U)) iL ih
 | ej cs aU ak aV B1 iL aq ih=>exact .ej cs (m2 _ aU) ak aV (fun j x U=>(kd _ _ aU).trans (B1 j x U)) iL ih
 | pk sz=>exact .pk sz
 | o0 h ih=>exact .o0 ih
 | agg vs aV iL aq ih=>exact .agg vs aV iL ih
 | ea vs aV aq ih=>exact .ea vs aV ih
 | fn vs aV aq ih=>exact .fn vs aV ih
structure G where
 mM:World
 A:Nat→Prop
 pr:Nat→Prop
 N:Nat
 m:Nat
 o5:jn
 q7:jd
def S.a7 (s:S)(r k:Nat):Prop:=k<((s.aX r).getD []).length
def dn (row:Option (List ae))(k:Nat):Option ae :=
 match row with
 | some l=>match l[k]? with
  | some I=>if I.cv = .gone then none else some I
  | none=>none
 | none=>none
def S.ao (s:S)(r k:Nat):Option ae:=dn (s.aX r) k
def S.bj (s:S)(az:fx):jd:=fun r k=>(s.ao r k).map fun I=>(I.sz,az r k)
def S.lX (s:S)(az:fx)(b:Nat):Prop:= ∃r k I m,s.ao r k=some I∧I.cv = .live∧az r k=some (b,m)
def S.ok (s:S)(g:G)(az:fx)(w:World)(b:Nat):Prop :=
 b<w.heap.size∧(g.A b∨g.mM.heap.size≤b∨g.pr b)∧ ¬s.lX az b
def jy (w:World)(ok:Nat→Prop)(a7:jn)(bj:jd)(I:ae):Option (Nat×Nat)→Prop
 | none=>I.es=[]
 | some (ec,m)=> ∃c eO,w.heap[ec]? = some (.cells c eO (0,0))∧c.size=m∧(∀e∈I.es,e.length=I.sz) ∧
  ∀(j:Nat) x,I.es.flatten[j]? = some x→ ∃v,c[j]? = some v∧kn v=true∧Rel w ok a7 bj x v
structure BD (g:G) (w:World):Prop where
 os:w.os=g.mM.os
 tape:w.tape=g.mM.tape
 output:w.output=g.mM.output
 size:g.mM.heap.size≤w.heap.size
 block : ∀b,b<g.mM.heap.size→ ¬g.pr b→w.heap[b]? = g.mM.heap[b]?
structure ik (g:G) (s:S) (az:fx) (w:World):Prop where
 obj : ∀r k I,s.ao r k=some I→jy w (s.ok g az w) s.a7 (s.bj az) I (az r k)
 inj : ∀r k I eP dx cb b m bO,s.ao r k=some I→s.ao eP dx=some cb→az r k=some (b,m)→az eP dx=some (b,bO)→r=eP∧k=dx
 own : ∀r k I b m,s.ao r k=some I→az r k=some (b,m)→g.mM.heap.size≤b∨g.pr b
 gY:BD g w
 mlt : ∀b,g.pr b→b<g.mM.heap.size
 nw : ∀b,g.A b→b<g.mM.heap.size
 stay : ∀j k,g.o5 j k→s.a7 j k∧(s.bj az j k=g.q7 j k∨s.bj az j k=none)
 low : ∀j k,g.o5 j k→j<g.m
structure cO (g:G) (s:S) (az:fx) (a:Act) (w:World):Prop extends ik g s az w where
 env : ∀t,Rel w (s.ok g az w) s.a7 (s.bj az) (s.E t) (a.tmps.getD t undef)
 defers:a.defers=[]
 jW:g.N≤a.tmps.size
def ofValue:Value→aD
 | .bool x=> .b x
 | .int k x=> .n k x
 | .string x=> .s x
 | .pointer none=> .ij
 | .slice none 0 0=> .ei
 | _=> .dead
theorem Pb {w:World}{ok:Nat→Prop}{a7:jn}{bj:jd}(v:Value):Rel w ok a7 bj (ofValue v) v:=by
 unfold ofValue
 split<;>constructor
def fp (E:Nat→aD):Operand→aD
 | .tmp t=>E t
 | .const v=>ofValue v
 | .global _=> .dead
 | .func f=> .fn f []
theorem cO.eval {g:G}{s:S}{az:fx}{a:Act}{w:World}(h:cO g s az a w)(x:Operand):
 Rel w (s.ok g az w) s.a7 (s.bj az) (fp s.E x) (a.eval x):=by
 cases x with
 | tmp t=>exact h.env t
 | const v=>exact Pb v
 | global g=>exact .dead _
 | func f=>exact .fn [] rfl (fun j x v U=>by simp at U)
def aD.cells:aD→List aD
 | .agg c=>c
 | x=>[x]
def aD.one:aD→Bool
 | .dead | .agg _ | .ea _=>false
 | _=>true
def aD.yj:aD→Bool
 | .dead | .ea _=>false
 | _=>true
theorem aD.Pc {v:aD}(h:v.yj=true):v.one=true∨ ∃c,v = .agg c:=by
 cases v<;>first|exact .inl rfl|exact .inr ⟨_,rfl⟩|simp [aD.yj] at h
theorem Rel.kn {w:World}{ok:Nat→Prop}{a7:jn}{bj:jd}{a:aD}{v:Value}(h:Rel w ok a7 bj a v)(bH:a.one=true):kn v=true:=by
 cases h with
 | o0 h=>cases h;rfl
 | mW h=>cases h<;>rfl
 | nS h=>cases h<;>rfl
 | _=>first|rfl|simp [aD.one] at bH
theorem Rel.cellsOf {w:World}{ok:Nat→Prop}{a7:jn}{bj:jd}{a:aD}{v:Value}(h:Rel w ok a7 bj a v)(bH:a.one=true∨ ∃c,a = .agg c):
 ∃vs:List Value,v.cells=vs.toArray∧vs.length=a.cells.length∧(∀(j:Nat) x,vs[j]? = some x→VL.kn x=true) ∧
  ∀(j:Nat) x u,a.cells[j]? = some x→vs[j]? = some u→Rel w ok a7 bj x u:=by
 rcases bH with bH|⟨c,rfl⟩
 ·have bh:=h.kn bH
  refine ⟨[v],?_,?_,?_,?_⟩
  ·cases v<;>first|rfl|simp [VL.kn,Value.oneCell'] at bh
  ·cases a<;>first|rfl|simp [aD.one] at bH
  ·intro j x U
   cases j with
   | zero=>simp at U;subst U;exact bh
   | succ j=>simp at U
  ·intro j x u U hu
   have e:a.cells=[a]:=by cases a<;>first|rfl|simp [aD.one] at bH
   rw [e] at U
   cases j with
   | zero=>simp at U hu;subst U;subst hu;exact h
   | succ j=>simp at U
 ·cases h with
  | agg vs aV kd aq=>exact ⟨vs,rfl,aV,kd,aq⟩
end Go.VL
namespace Go.VL
set_option linter.unusedVariables false
set_option linter.unusedSimpArgs false
open Go
def S.put (s:S)(dst:Option Tmp)(v:aD):S :=
 match dst with
 | some t=>{s with E:=fun u=>if u=t then v else s.E u}
 | none=>s
def S.setRow (s:S)(r:Nat)(row:List ae):S:={s with aX:=fun q=>if q=r then some row else s.aX q}
@[simp] theorem S.tu (s:S) (dst:Option Tmp) (v:aD):(s.put dst v).aX=s.aX:=by cases dst<;>rfl
@[simp] theorem S.agf (s:S) (r:Nat) (row:List ae):(s.setRow r row).E=s.E:=rfl
theorem AV {s bV:S}(h:bV.aX=s.aX):bV.ao=s.ao:=by funext r k;simp [S.ao,h]
theorem yk {s bV:S}(h:bV.aX=s.aX):bV.a7=s.a7:=by funext r k;simp [S.a7,h]
theorem yl {s bV:S}(h:bV.aX=s.aX)(az:fx):bV.bj az=s.bj az:=by unfold S.bj;rw [AV h]
theorem Za {s bV:S}(h:bV.aX=s.aX)(az:fx):bV.lX az=s.lX az:=by unfold S.lX;rw [AV h]
theorem AW {s bV:S}(h:bV.aX=s.aX)(g:G)(az:fx)(w:World):bV.ok g az w=s.ok g az w:=by
 funext b;unfold S.ok;rw [Za h]
theorem ik.congr {g:G}{s bV:S}{az:fx}{w:World}(h:ik g s az w)(e:bV.aX=s.aX):ik g bV az w where
 obj:=by rw [AV e,yk e,yl e,AW e];exact h.obj
 inj:=by rw [AV e];exact h.inj
 own:=by rw [AV e];exact h.own
 gY:=h.gY
 mlt:=h.mlt
 nw:=h.nw
 stay:=by rw [yk e,yl e];exact h.stay
 low:=h.low
theorem abg (a:Act)(dst:Option Tmp)(v:Value)(t:Nat)(fa:∀d,dst=some d→d<a.tmps.size):
 (a.put dst v).tmps.getD t undef=if dst=some t then v else a.tmps.getD t undef:=by
 cases dst with
 | none=>simp [Act.put]
 | some d =>
  have:=fa d rfl
  simp only [Act.put,Array.getD_eq_getD_getElem?,Array.getElem?_setIfInBounds,Option.some.injEq]
  by_cases e:d=t
  ·subst e;simp [this]
  ·simp [e]
theorem cO.put {g:G}{s:S}{az:fx}{a:Act}{w:World}(h:cO g s az a w)(dst:Option Tmp){x:aD}{v:Value}
 (bL : ∀d,dst=some d→d<g.N) (aq:Rel w (s.ok g az w) s.a7 (s.bj az) x v):cO g (s.put dst x) az (a.put dst v) w where
 toik:=h.toik.congr (S.tu s dst x)
 env:=by
  have e:=S.tu s dst x
  rw [AW e,yk e,yl e]
  intro t
  rw [abg a dst v t fun d qp=>Nat.lt_of_lt_of_le (bL d qp) h.jW]
  cases dst with
  | none=>simpa [S.put] using h.env t
  | some d =>
   simp only [S.put,Option.some.injEq]
   by_cases e:t=d
   ·subst e;simpa using aq
   ·rw [if_neg e,if_neg (Ne.symm e)];exact h.env t
 defers:=by cases dst<;>exact h.defers
 jW:=by cases dst<;>simpa [Act.put] using h.jW
structure Step (g:G) (s:S) (az:fx) (w:World) (bV:S) (bR:fx) (bS:World):Prop where
 a7 : ∀r k,s.a7 r k→bV.a7 r k
 bj : ∀r k,s.a7 r k→bV.bj bR r k=s.bj az r k∨bV.bj bR r k=none
 live : ∀b,bV.lX bR b→s.lX az b∨w.heap.size≤b
 heap : ∀b,b<w.heap.size→ ¬s.lX az b→bS.heap[b]? = w.heap[b]?
 size:w.heap.size≤bS.heap.size
theorem Step.ok {g:G}{s bV:S}{az bR:fx}{w bS:World}(h:Step g s az w bV bR bS)(b:Nat)(aU:s.ok g az w b):bV.ok g bR bS b :=
 ⟨Nat.lt_of_lt_of_le aU.1 h.size,aU.2.1,fun aV=>by
  rcases h.live b aV with h1|h1
  ·exact aU.2.2 h1
  ·exact absurd aU.1 (by omega)⟩
theorem Step.rel {g:G}{s bV:S}{az bR:fx}{w bS:World}(h:Step g s az w bV bR bS){x:aD}{v:Value}
 (aq:Rel w (s.ok g az w) s.a7 (s.bj az) x v):Rel bS (bV.ok g bR bS) bV.a7 (bV.bj bR) x v :=
 aq.mono h.ok (fun b aU=>h.heap b aU.1 aU.2.2) h.a7 h.bj
theorem Step.obj {g:G}{s bV:S}{az bR:fx}{w bS:World}(h:Step g s az w bV bR bS){I:ae}{p:Option (Nat×Nat)}
 (ak : ∀b m,p=some (b,m)→bS.heap[b]? = w.heap[b]?) (ap:jy w (s.ok g az w) s.a7 (s.bj az) I p) :
 jy bS (bV.ok g bR bS) bV.a7 (bV.bj bR) I p:=by
 cases p with
 | none=>exact ap
 | some q =>
  obtain ⟨b,m⟩:=q
  obtain ⟨c,eO,h1,o,af,au⟩:=ap
  refine ⟨c,eO,(ak b m rfl).trans h1,o,af,fun j x U=> ?_⟩
  obtain ⟨v,e1,aE,bP⟩:=au j x U
  exact ⟨v,e1,aE,h.rel bP⟩
theorem Step.stay {g:G}{s bV:S}{az bR:fx}{w bS:World}(h:Step g s az w bV bR bS)
 (b6 : ∀j k,g.o5 j k→s.a7 j k∧(s.bj az j k=g.q7 j k∨s.bj az j k=none)) : ∀j k,g.o5 j k→bV.a7 j k∧(bV.bj bR j k=g.q7 j k∨bV.bj bR j k=none):=by
 intro j k aG
 obtain ⟨h1,o⟩:=b6 j k aG
 refine ⟨h.a7 j k h1,?_⟩
 rcases h.bj j k h1 with e|e
 ·rw [e];exact o
 ·exact .inr e
theorem BD.step {g:G}{w bS:World}(h:BD g w)(h1:bS.os=w.os)(o:bS.tape=w.tape)(af:bS.output=w.output)(au:w.heap.size≤bS.heap.size)
 (aA : ∀b,b<g.mM.heap.size→ ¬g.pr b→bS.heap[b]? = w.heap[b]?):BD g bS :=
 ⟨h1.trans h.os,o.trans h.tape,af.trans h.output,Nat.le_trans h.size au,fun b aU hm=>(aA b aU hm).trans (h.block b aU hm)⟩
theorem lG (s:S)(r:Nat)(row:List ae)(q k:Nat):(s.setRow r row).ao q k=if q=r then dn (some row) k else s.ao q k:=by
 unfold S.ao S.setRow
 by_cases e:q=r<;>simp [e]
theorem nj (s:S)(r:Nat)(row:List ae)(q k:Nat):(s.setRow r row).a7 q k↔(if q=r then k<row.length else s.a7 q k):=by
 unfold S.a7 S.setRow
 by_cases e:q=r<;>simp [e]
theorem Ed {s:S}{r k:Nat}{I:ae}(h:s.ao r k=some I):s.a7 r k:=by
 unfold S.ao dn at h
 unfold S.a7
 cases aq:s.aX r with
 | none=>rw [aq] at h;simp at h
 | some l =>
  rw [aq] at h
  simp only at h
  rcases Nat.lt_or_ge k l.length with h1|h1
  ·simpa using h1
  ·rw [List.getElem?_eq_none h1] at h;simp at h
theorem xT {s:S}{r:Nat}(h:s.aX r=none)(k:Nat): ¬s.a7 r k:=by simp [S.a7,h]
theorem DS (s:S){r:Nat}{l row:List ae}(aq:s.aX r=some l)(aV:l.length≤row.length)(q k:Nat)(h:s.a7 q k):(s.setRow r row).a7 q k:=by
 rw [nj]
 by_cases e:q=r
 ·subst e;rw [if_pos rfl];simp [S.a7,aq] at h;omega
 ·rw [if_neg e];exact h
theorem afY {s:S}{r:Nat}(h:s.aX r=none)(k:Nat):s.ao r k=none:=by simp [S.ao,h,dn]
def fx.set (az:fx)(r k:Nat)(p:Option (Nat×Nat)):fx:=fun q j=>if q=r∧j=k then p else az q j
theorem mc (I:ae)(k:Nat):dn (some [I]) k=if k=0∧I.cv≠ .gone then some I else none:=by
 unfold dn
 cases k with
 | zero=>by_cases h:I.cv = .gone<;>simp [h]
 | succ k=>simp
theorem Rel.drew {w:World}{ok:Nat→Prop}{a7:jn}{bj:jd}{x:aD}{v:Value}(h:Rel w ok a7 bj x v):Rel w.drew ok a7 bj x v :=
 h.mono (fun _ h=>h) (fun _ _=>rfl) (fun _ _ h=>h) (fun _ _ _=> .inl rfl)
theorem jy.drew {w:World}{ok:Nat→Prop}{a7:jn}{bj:jd}{I:ae}{p:Option (Nat×Nat)}(h:jy w ok a7 bj I p):jy w.drew ok a7 bj I p:=by
 cases p with
 | none=>exact h
 | some q =>
  obtain ⟨c,eO,h1,o,af,au⟩:=h
  exact ⟨c,eO,h1,o,af,fun j x U=>let ⟨v,a,b,c⟩:=au j x U;⟨v,a,b,c.drew⟩⟩
theorem ik.drew {g:G}{s:S}{az:fx}{w:World}(h:ik g s az w):ik g s az w.drew :=
 {obj:=fun r k I ap=>(h.obj r k I ap).drew,inj:=h.inj,own:=h.own,gY:=⟨h.gY.os,h.gY.tape,h.gY.output,h.gY.size,h.gY.block⟩,mlt:=h.mlt,nw:=h.nw,stay:=h.stay,low:=h.low}
theorem cO.drew {g:G}{s:S}{az:fx}{a:Act}{w:World}(h:cO g s az a w):cO g s az a w.drew where
 toik:=h.toik.drew
 env:=fun t=>(h.env t).drew
 defers:=h.defers
 jW:=h.jW
theorem cO.alloc {g:G}{s:S}{az:fx}{a:Act}{w:World}(h:cO g s az a w){r:Nat}(aq:s.aX r=none)(I:ae)(a9:I.cv = .live)
 (c:Array Value) (eO:TypeId) (hlen : ∀e∈I.es,e.length=I.sz)
 (bh : ∀(j:Nat) x,I.es.flatten[j]? = some x→ ∃v,c[j]? = some v∧kn v=true∧Rel w (s.ok g az w) s.a7 (s.bj az) x v) :
 ∃bR,bR r 0=some (w.heap.size,c.size)∧cO g (s.setRow r [I]) bR a (w.alloc (.cells c eO)) ∧
  ∀x v,Rel w (s.ok g az w) s.a7 (s.bj az) x v→Rel (w.alloc (.cells c eO)) ((s.setRow r [I]).ok g bR (w.alloc (.cells c eO))) (s.setRow r [I]).a7 ((s.setRow r [I]).bj bR) x v:=by
 have lP : ∀q k,q≠r→(az.set r 0 (some (w.heap.size,c.size))) q k=az q k:=fun q k bd=>by simp [fx.set,bd]
 have br : ∀q k,q≠r→(s.setRow r [I]).ao q k=s.ao q k:=fun q k bd=>by rw [lG,if_neg bd]
 have yQ : ∀k,(s.setRow r [I]).ao r k=if k=0 then some I else none:=fun k=>by
  rw [lG,if_pos rfl,mc];simp [a9]
 have sD : ∀q k p b m,s.ao q k=some p→az q k=some (b,m)→b<w.heap.size:=fun q k p b m ak bd=>by
  have:=h.obj q k p ak
  rw [bd] at this
  obtain ⟨dX,mE,fW,_⟩:=this
  exact (Array.getElem?_eq_some_iff.1 fW).1
 have dH:Step g s az w (s.setRow r [I]) (az.set r 0 (some (w.heap.size,c.size))) (w.alloc (.cells c eO)):=by
  refine ⟨fun q k bd=>(nj _ _ _ _ _).2 (by rw [if_neg (by rintro rfl;exact xT aq k bd)];exact bd),fun q k bd=> ?_,fun b aU=> ?_,fun b aU _=>heap_alloc_old w _ b aU,by simp⟩
  ·have c6:q≠r:=by rintro rfl;exact xT aq k bd
   left
   simp only [S.bj,br q k c6,lP q k c6]
  ·obtain ⟨q,k,p,m,h1,o,af⟩:=aU
   by_cases e:q=r
   ·subst e
    rw [yQ] at h1
    by_cases e0:k=0
    ·subst e0;simp [fx.set] at af;right;omega
    ·simp [e0] at h1
   ·rw [br q k e] at h1;rw [lP q k e] at af
    exact .inl ⟨q,k,p,m,h1,o,af⟩
 refine ⟨az.set r 0 (some (w.heap.size,c.size)),by simp [fx.set],?_,fun x v=>dH.rel⟩
 refine {toik:=⟨?_,?_,?_,?_,h.mlt,h.nw,dH.stay h.stay,h.low⟩,env:=fun t=>dH.rel (h.env t),defers:=h.defers,jW:=h.jW}
 ·intro q k p ak
  by_cases e:q=r
  ·subst e
   rw [yQ] at ak
   by_cases e0:k=0
   ·subst e0
    simp at ak
    subst ak
    simp only [fx.set,and_self,if_true]
    exact ⟨c,eO,heap_alloc_new w _,rfl,hlen,fun j x U=>let ⟨v,e1,aE,bP⟩:=bh j x U;⟨v,e1,aE,dH.rel bP⟩⟩
   ·simp [e0] at ak
  ·rw [br q k e] at ak
   rw [lP q k e]
   exact dH.obj (fun b m hm=>heap_alloc_old w _ b (sD q k p b m ak hm)) (h.obj q k p ak)
 ·intro q k p hO dx ku b m bO h1 o af au
  by_cases e:q=r<;>by_cases ex:hO=r
  ·subst e;subst ex
   rw [yQ] at h1 o
   by_cases e0:k=0<;>by_cases e1:dx=0<;>simp [e0,e1] at h1 o
   exact ⟨rfl,by omega⟩
  ·subst e
   rw [yQ] at h1;rw [br _ _ ex] at o;rw [lP _ _ ex] at au
   by_cases e0:k=0<;>simp [e0] at h1
   subst e0
   simp [fx.set] at af
   have:=sD hO dx ku b bO o au
   omega
  ·subst ex
   rw [br _ _ e] at h1;rw [yQ] at o;rw [lP _ _ e] at af
   by_cases e0:dx=0<;>simp [e0] at o
   subst e0
   simp [fx.set] at au
   have:=sD q k p b m h1 af
   omega
  ·rw [br _ _ e] at h1;rw [br _ _ ex] at o;rw [lP _ _ e] at af;rw [lP _ _ ex] at au
   exact h.inj q k p hO dx ku b m bO h1 o af au
 ·intro q k p b m h1 o
  by_cases e:q=r
  ·subst e
   rw [yQ] at h1
   by_cases e0:k=0<;>simp [e0] at h1
   subst e0
   simp [fx.set] at o
   left
   have:=h.gY.size
   omega
  ·rw [br _ _ e] at h1;rw [lP _ _ e] at o
   exact h.own q k p b m h1 o
 ·exact h.gY.step rfl rfl rfl (by simp) fun b aU _=>heap_alloc_old w _ b (Nat.lt_of_lt_of_le aU h.gY.size)
theorem Qm (l:List ae)(k:Nat)(I cb:ae)(h:dn (some l) k=some I)(a9:cb.cv≠ .gone)(j:Nat):
 dn (some (l.set k cb)) j=if j=k then some cb else dn (some l) j:=by
 unfold dn at *
 have dU:k<l.length:=by
  rcases Nat.lt_or_ge k l.length with h1|h1
  ·exact h1
  ·simp [List.getElem?_eq_none h1] at h
 by_cases e:j=k
 ·subst e;simp [dU,a9]
 ·simp only [List.getElem?_set,if_neg (Ne.symm e),if_neg e]
theorem cO.write {g:G}{s:S}{az:fx}{a:Act}{w bS:World}(h:cO g s az a w){r k b m:Nat}{l:List ae}{I:ae}(aq:s.aX r=some l)(ap:s.ao r k=some I)
 (a9:I.cv = .live) (ak:az r k=some (b,m)) (es:List (List aD)) (c:Array Value) (eO:TypeId)
 (hw:bS.heap[b]? = some (.cells c eO (0,0))) (fa:bS.heap.size=w.heap.size) (ve : ∀q,q≠b→bS.heap[q]? = w.heap[q]?)
 (qq:bS.os=w.os) (Me:bS.tape=w.tape) (LP:bS.output=w.output) (hm:c.size=m)
 (hlen : ∀e∈es,e.length=I.sz)
 (bh : ∀(j:Nat) x,es.flatten[j]? = some x→ ∃v,c[j]? = some v∧kn v=true∧Rel w (s.ok g az w) s.a7 (s.bj az) x v) :
 cO g (s.setRow r (l.set k {I with es})) az a bS ∧
  ∀x v,Rel w (s.ok g az w) s.a7 (s.bj az) x v→Rel bS ((s.setRow r (l.set k {I with es})).ok g az bS) (s.setRow r (l.set k {I with es})).a7 ((s.setRow r (l.set k {I with es})).bj az) x v:=by
 have jO:({I with es}:ae).cv≠ .gone:=by rw [a9];simp
 have br : ∀q j,(s.setRow r (l.set k {I with es})).ao q j=if q=r∧j=k then some {I with es} else s.ao q j:=by
  intro q j
  rw [lG]
  by_cases e:q=r
  ·subst e
   have d4:dn (some l) k=some I:=by rw [← aq];exact ap
   rw [if_pos rfl,Qm l k I _ d4 jO]
   by_cases aE:j=k<;>simp [aE,S.ao,aq]
  ·simp [e]
 have pB:s.lX az b:=⟨r,k,I,m,ap,a9,ak⟩
 have dH:Step g s az w (s.setRow r (l.set k {I with es})) az bS:=by
  refine ⟨DS s aq (by simp),fun q j bd=> .inl ?_,fun q bd=> ?_,fun q bd aV=>ve q fun e=>aV (e▸pB),Nat.le_of_eq fa.symm⟩
  ·simp only [S.bj,br]
   by_cases e:q=r∧j=k
   ·obtain ⟨rfl,rfl⟩:=e;simp [ap]
   ·rw [if_neg e]
  ·obtain ⟨hO,j,p,bO,h1,o,af⟩:=bd
   rw [br] at h1
   by_cases e:hO=r∧j=k
   ·obtain ⟨rfl,rfl⟩:=e
    exact .inl ⟨hO,j,I,bO,ap,a9,af⟩
   ·rw [if_neg e] at h1
    exact .inl ⟨hO,j,p,bO,h1,o,af⟩
 refine ⟨{toik:=⟨?_,?_,?_,?_,h.mlt,h.nw,dH.stay h.stay,h.low⟩,env:=fun t=>dH.rel (h.env t),defers:=h.defers,jW:=h.jW},fun x v=>dH.rel⟩
 ·intro q j p kE
  rw [br] at kE
  by_cases e:q=r∧j=k
  ·obtain ⟨rfl,rfl⟩:=e
   simp at kE
   subst kE
   rw [ak]
   exact ⟨c,eO,hw,hm,hlen,fun j x U=>let ⟨v,e1,aE,bP⟩:=bh j x U;⟨v,e1,aE,dH.rel bP⟩⟩
  ·rw [if_neg e] at kE
   refine dH.obj (fun kv bO lb=>ve kv ?_) (h.obj q j p kE)
   rintro rfl
   exact e (h.inj q j p r k I kv bO m kE ap lb ak)
 ·intro q j p hO h2 ku kv iu ht h1 o af au
  have key : ∀q j p,(s.setRow r (l.set k {I with es})).ao q j=some p→ ∃ku,s.ao q j=some ku:=by
   intro q j p bd
   rw [br] at bd
   by_cases e:q=r∧j=k
   ·obtain ⟨rfl,rfl⟩:=e;exact ⟨I,ap⟩
   ·rw [if_neg e] at bd;exact ⟨p,bd⟩
  obtain ⟨p1,SC⟩:=key q j p h1
  obtain ⟨hz,B2⟩:=key hO h2 ku o
  exact h.inj q j p1 hO h2 hz kv iu ht SC B2 af au
 ·intro q j p kv bO h1 o
  rw [br] at h1
  by_cases e:q=r∧j=k
  ·obtain ⟨rfl,rfl⟩:=e;exact h.own q j I kv bO ap o
  ·rw [if_neg e] at h1;exact h.own q j p kv bO h1 o
 ·refine h.gY.step qq Me LP (Nat.le_of_eq fa.symm) fun kv q8 lb=>ve kv ?_
  rintro rfl
  rcases h.own r k I kv m ap ak with h1|h1
  ·omega
  ·exact lb h1
end Go.VL
namespace Go.VL
set_option linter.unusedVariables false
set_option linter.unusedSimpArgs false
open Go
inductive sX where
 | id
 | dF (es:List (List aD))
 | iF (sz:Nat)
 | j0
 | cE (x:aD)
 | len (n:Nat)
 | Na (sz:Nat)
 | at_ (j i n:Nat)
 | view (d5:Nat) (I:ae) (es:List (List aD))
 deriving Inhabited
inductive zs where
 | c9 (c:sX)
 | ptr (l:List sX)
 | LQ (l:List sX)
 | agg (l:List sX)
 deriving Inhabited
inductive lz where
 | bs (c:zs)
 | comp (l:List zs)
 deriving Inhabited
inductive iO where
 | pure
 | box (l:List sX)
 | cE (row:List ae)
 | bK (row:List ae)
 | rx (row:List ae)
 | drop
 deriving Inhabited
structure nx where
 bL:List (Nat×Nat):=[]
 iP:Option (Nat×Nat):=none
 deriving DecidableEq
inductive Src where
 | row (r:Nat)
 | ao (r k:Nat) (I:ae)
 deriving Inhabited
structure CN where
 a2:List Src:=[]
 da:List iO:=[]
 ac:List lz
 r:aD
 eV:List (List ae):=[]
 gr:lz:= .bs (.c9 .id)
 hD:List iO:=[]
 eN:List Nat:=[]
 er:Bool:=true
inductive fI where
 | none
 | aa (t:Bool)
 | b5 (c:List aD)
 | gm (I:ae) (c:List aD)
 | fX
 | call (c:CN)
 | aH (m:Nat) (I:Option ae:=Option.none)
 | kw (t:Nat) (v:aD) (a:fI)
 | rn (r:Nat) (a:fI)
 | vZ (r n:Nat) (a:fI)
structure il where
 val:aD
 fS:List (Nat×List ae):=[]
 fF:List Prop:=[]
def Bc (P:Program)(t:TypeId):Bool :=
 match P.underlying t with
 | some (.struct _)|some (.array _ _)=>true
 | _=>false
def rO (nE:List Int):ByteArray:=nE.foldl (fun r n=>r.push (UInt8.ofNat n.toNat)) ByteArray.empty
def bytesOf:List (List aD)→Option (List Int)
 | []=>some []
 | [.n .u8 n]::es=>(bytesOf es).map (n :: ·)
 | _=>none
def elemAt (es:List (List aD))(i:Nat):fI→Option (List aD×List Prop)
 | .b5 c=>some (c,[es[i]? = some c])
 | .gm _ c=>some (c,[es[i]? = some c])
 | _=>match es[i]? with
  | some c=>some (c,[])
  | none=>none
def o1 (row:Option (List ae))(k:Nat):fI→Option (ae×List Prop)
 | .gm I _=>match row with
  | some row=>some (I,[dn (some row) k=some I])
  | none=>none
 | _=>match dn row k with
  | some I=>some (I,[])
  | none=>none
def ss (P:Program)(t:TypeId)(c:List aD)(off:Nat):Option aD :=
 if !((P.underlying t).isSome && (P.info? t).isSome) then none else
 if Bc P t then (if off+P.cellsOf t≤c.length then some (.agg ((c.drop off).take (P.cellsOf t))) else none)
 else match c[off]? with
  | some x=>if x.one then some x else none
  | none=>none
def LR (op:BinOp)(x y:aD):Option (aD×List Prop) :=
 match x,y with
 | .n k a,.n dx b =>
  match op with
  | .shl=>some (.n k (k.wrap (a*2 ^ (min b.toNat k.bits))),[0≤b])
  | .shr=>some (.n k (a.fdiv (2 ^ (min b.toNat k.bits))),[0≤b])
  | _=>if k≠dx then none else
   match op with
   | .add=>some (.n k (k.wrap (a+b)),[])
   | .sub=>some (.n k (k.wrap (a-b)),[])
   | .mul=>some (.n k (k.wrap (a*b)),[])
   | .quo=>some (.n k (k.wrap (a.tdiv b)),[b≠0])
   | .rem=>some (.n k (a.tmod b),[b≠0])
   | .and=>some (.n k (k.wrap ((BitVec.ofInt k.bits a &&& BitVec.ofInt k.bits b).toNat)),[])
   | .or=>some (.n k (k.wrap ((BitVec.ofInt k.bits a ||| BitVec.ofInt k.bits b).toNat)),[])
   | .xor=>some (.n k (k.wrap ((BitVec.ofInt k.bits a ^^^ BitVec.ofInt k.bits b).toNat)),[])
   | .eql=>some (.b (a == b),[])
   | .neq=>some (.b (a != b),[])
   | .lss=>some (.b (decide (a<b)),[])
   | .leq=>some (.b (decide (a≤b)),[])
   | .gtr=>some (.b (decide (b<a)),[])
   | .geq=>some (.b (decide (b≤a)),[])
   | _=>none
 | .s a,.s b =>
  match op with
  | .add=>some (.s (a++b),[a.size+b.size<9223372036854775808])
  | .eql=>some (.b (a.toList == b.toList),[])
  | .neq=>some (.b (!(a.toList == b.toList)),[])
  | _=>none
 | _,_=>none
def rP (P:Program)(t:TypeId)(x y:aD):Option Bool :=
 match P.underlying t,x,y with
 | some .bool,.b a,.b c=>some (a == c)
 | some (.pointer _),.ij,.ij=>some true
 | some (.pointer _),.ej ..,.ij=>some false
 | some (.pointer _),.ij,.ej .. => some false
 | some (.slice _),.ei,.ei=>some true
 | some (.slice _),.iB,.ei=>some false
 | _,_,_=>none
def Mf (op:UnOp)(x:aD):Option aD :=
 match op,x with
 | .neg,.n k a=>some (.n k (k.wrap (0-a)))
 | .not,.b a=>some (.b (!a))
 | _,_=>none
def fieldsOf (P:Program)(t:TypeId):Option (Array Field) :=
 match P.underlying t with
 | some (.struct kU)=>some kU
 | _=>none
def pC (P:Program)(t:TypeId):Option TypeId :=
 match P.underlying t with
 | some (.slice e)=>some e
 | _=>none
def qG (P:Program)(t:TypeId):Option (List aD) :=
 match P.info? t with
 | some i=>match i.zero with
  | some v=>if v.cells.toList.all (·.oneCell') then some (v.cells.toList.map ofValue) else none
  | none=>none
 | none=>none
def Bd:aD→aD→aD
 | .ei,.isl sz []=> .isl sz []
 | .ij,.kh sz none=> .kh sz none
 | .ei,.i2 r c sz none=> .i2 r c sz none
 | x,_=>x
def qS:List aD→List aD→List aD
 | x::z,y::c=>Bd x y::qS z c
 | z,_=>z
def st (z:List aD):fI→List aD
 | .b5 c=>qS z c
 | _=>z
def setCells (c:List aD)(off:Nat)(vs:List aD):List aD:=c.take off++vs++c.drop (off+vs.length)
def tv:List aD→List (Nat×Nat×aD)→Option (List aD)
 | c,[]=>some c
 | c,(off,size,x)::rest =>
  if x.yj && x.cells.length=size && decide (off+size≤c.length) then tv (setCells c off x.cells) rest else none
def yI (sz:Nat):List (List aD)→List (Nat×aD)→Option (List (List aD))
 | es,[]=>some es
 | es,(i,x)::rest=>if x.yj && x.cells.length=sz && decide (i<es.length) then yI sz (es.set i x.cells) rest else none
def ar:Option aD→Nat→Option (Nat×List Prop)
 | none,d=>some (d,[])
 | some (.n _ x),_=>some (x.toNat,[0≤x])
 | _,_=>none
def e2 (P:Program)(E:Nat→aD)(aX:Nat→Option (List ae))(aW:Nat)(I:Oper)(cP:fI):Option il :=
 let iG:=fp E
 match I.op with
 | .move x | .assign x=>some {val:=iG x}
 | .pick c a b =>
  match iG c,cP with
  | .b x,.aa t=>some {val:=if t then iG a else iG b,fF:=[x=t]}
  | .b true,_=>some {val:=iG a}
  | .b false,_=>some {val:=iG b}
  | _,_=>none
 | .alloc t =>
  match qG P t with
  | some c=>some {val:= .ref aW 0 0 0,fS:=[(aW,[⟨c.length,[c],.live⟩])]}
  | none=>none
 | .box _ x =>
  match iG x with
  | .agg c=>some {val:= .ref aW 0 0 0,fS:=[(aW,[⟨c.length,[c],.live⟩])]}
  | v=>if v.one then some {val:= .ref aW 0 0 0,fS:=[(aW,[⟨1,[[v]],.live⟩])]} else none
 | .load t x =>
  match iG x with
  | .ref r k i off =>
   match o1 (aX r) k cP with
   | some (ao,b8)=>match elemAt ao.es i cP with
    | some (c,aT)=>match ss P t c off with
     | some v=>some {val:=v,fF:=b8++aT}
     | none=>none
    | none=>none
   | none=>none
  | .ej _ es i off =>
   match elemAt es i cP with
   | some (c,aT)=>match ss P t c off with
    | some v=>some {val:=v,fF:=aT}
    | none=>none
   | none=>none
  | _=>none
 | .store t x y =>
  match iG x with
  | .ref r k i off =>
   match aX r with
   | none=>none
   | some row =>
   match o1 (some row) k cP with
   | some (ao,b8) =>
    if ao.cv≠ .live then none else
    let v:=iG y
    if v.yj=false then none else
    if v.cells.length≠P.cellsOf t∨(P.info? t).isSome=false then none else
    match cP with
    | .fX=>if off=0 then some {val:= .dead,fS:=[(r,row.set k {ao with es:=ao.es.set i v.cells})],fF:=b8++[i<ao.es.length,v.cells.length=ao.sz]} else none
    | _=>match elemAt ao.es i cP with
     | some (c,aT)=>if off+v.cells.length≤c.length then some {val:= .dead,fS:=[(r,row.set k {ao with es:=ao.es.set i (setCells c off v.cells)})],fF:=b8++aT} else none
     | none=>none
   | none=>none
  | _=>none
 | .nilCheck x =>
  match iG x with
  | .ref r k i off=>match o1 (aX r) k cP with
   | some (ao,b8)=>match elemAt ao.es i cP with
    | some (_,aT)=>some {val:= .ref r k i off,fF:=b8++aT}
    | none=>none
   | none=>none
  | .ej sz es i off=>some {val:= .ej sz es i off}
  | .fn f c=>some {val:= .fn f c}
  | _=>none
 | .binOp op t x y _ =>
  match LR op (iG x) (iG y) with
  | some (v,ao)=>some {val:=v,fF:=ao}
  | none=>match op with
   | .eql=>(rP P t (iG x) (iG y)).map fun r=>{val:= .b r}
   | .neq=>(rP P t (iG x) (iG y)).map fun r=>{val:= .b (!r)}
   | _=>none
 | .unOp op _ x=>(Mf op (iG x)).map fun v=>{val:=v}
 | .convert src dst x =>
  match P.underlying dst,iG x with
  | some (.int k),.n _ a=>if (P.underlying src).isSome then some {val:= .n k (k.wrap a)} else none
  | some .string,.bf r k b0 len =>
   match (pC P src).bind P.underlying,dn (aX r) k with
   | some (.int .u8),some ao=>match bytesOf ((ao.es.drop b0).take len) with
    | some nE=>if b0+len≤ao.es.length∧ao.sz=1 then some {val:= .s (rO nE)} else none
    | none=>none
   | _,_=>none
  | _,_=>none
 | .makeFunc (.func f) first captured =>
  if first.size=0 then some {val:= .fn f (captured.toList.map iG)} else none
 | .makeSlice t l c =>
  match pC P t,iG l,iG c with
  | some e,.n _ l,.n _ c =>
   match P.info? e,qG P e with
   | some i,some z=>if z.length=i.size then some {val:= .bf aW 0 0 l.toNat,fS:=[(aW,[⟨z.length,List.replicate l.toNat (st z cP),.live⟩])],fF:=[0≤l,l≤c,(i.bytes:Int)*c≤281474976710656,c<9223372036854775808]} else none
   | _,_=>none
  | _,_,_=>none
 | .fieldAddr t x f =>
  match fieldsOf P t with
  | some kU=>match kU[f]? with
   | some fd=>if P.cellsOf fd.type=0 then none else
    match iG x with
    | .ref r k i off=>match o1 (aX r) k cP with
     | some (ao,b8)=>match elemAt ao.es i cP with
      | some (_,aT)=>some {val:= .ref r k i (off+fd.offset),fF:=b8++aT}
      | none=>none
     | none=>none
    | .ej sz es i off=>some {val:= .ej sz es i (off+fd.offset)}
    | _=>none
   | none=>none
  | none=>none
 | .field t x f =>
  match fieldsOf P t with
  | some kU=>match kU[f]?,iG x with
   | some fd,.agg c=>(ss P fd.type c fd.offset).map fun v=>{val:=v}
   | _,_=>none
  | none=>none
 | .indexAddr t x mN =>
  match pC P t,iG mN with
  | some e,.n _ j =>
   match iG x with
   | .isl sz es=>if sz=P.cellsOf e∧sz≠0 then some {val:= .ej sz es j.toNat 0,fF:=[0≤j,j<es.length]} else none
   | .bf r k b0 len=>match aX r with
    | some row=>match o1 (some row) k cP with
     | some (ao,b8)=>if ao.sz=P.cellsOf e∧ao.sz≠0 then some {val:= .ref r k (b0+j.toNat) 0,fF:=b8++[0≤j,j<len]} else none
     | none=>none
    | none=>none
   | _=>none
  | _,_=>none
 | .index t x mN =>
  match P.underlying t,iG x,iG mN with
  | some .string,.s s,.n _ j=>some {val:= .n .u8 (s.data.toList.getD j.toNat 0).toNat,fF:=[0≤j,j<s.size]}
  | _,_,_=>none
 | .extract x i =>
  match iG x with
  | .ea vs=>(vs[i]?).map fun v=>{val:=v}
  | _=>none
 | .slice t x b0 aj none =>
  match P.underlying t,iG x with
  | some (.slice e),.isl sz es =>
   match ar (b0.map iG) 0,ar (aj.map iG) es.length with
   | some (l,b8),some (h,aT)=>if sz=P.cellsOf e∧sz≠0 then some {val:= .isl sz ((es.drop l).take (h-l)),fF:=b8++aT++[l≤h,h≤es.length]} else none
   | _,_=>none
  | some (.slice e),.bf r k TH len =>
   match aX r with
   | none=>none
   | some row=>match o1 (some row) k cP with
    | none=>none
    | some (ao,TI) =>
     match ar (b0.map iG) 0,ar (aj.map iG) len with
     | some (l,b8),some (h,aT)=>if ao.sz=P.cellsOf e∧ao.sz≠0 then some {val:= .bf r k (TH+l) (h-l),fF:=TI++b8++aT++[l≤h,h≤len]} else none
     | _,_=>none
  | some .string,.s s =>
   match ar (b0.map iG) 0,ar (aj.map iG) s.size with
   | some (l,b8),some (h,aT)=>some {val:= .s (s.extract l h),fF:=b8++aT++[l≤h,h≤s.size]}
   | _,_=>none
  | _,_=>none
 | .build t parts =>
  match fieldsOf P t,qG P t with
  | some kU,some z =>
   if kU.toList.all (fun f=>(P.info? f.type).isSome)=false then none else
   match parts.toList.mapM fun (p:Nat×Operand)=>(kU[p.1]?).map fun fd=>(fd.offset,P.cellsOf fd.type,iG p.2) with
   | some l=>(tv z l).map fun c=>{val:= .agg c}
   | none=>none
  | _,_=>none
 | .buildSlice t len parts =>
  match pC P t with
  | some e=>match qG P e with
   | some z =>
    if len*z.length>16777216∨z.length≠P.cellsOf e∨z.length=0 then none else
    match yI z.length (List.replicate len z) (parts.toList.map fun p=>(p.1,iG p.2)) with
    | some es=>some {val:= .bf aW 0 0 len,fS:=[(aW,[⟨z.length,es,.live⟩])]}
    | none=>none
   | none=>none
  | none=>none
 | .call {callee:= .builtin .len,args,argTypes} =>
  match args.toList.map iG,P.underlying (argTypes.getD 0 0),decide (argTypes.size=1) with
  | [.isl _ es],some (.slice _),true=>some {val:= .n .i64 es.length}
  | [.bf r k _ len],some (.slice _),true=>match aX r with
   | some row=>match o1 (some row) k cP with
    | some (_,b8)=>some {val:= .n .i64 len,fF:=b8}
    | none=>none
   | none=>none
  | [.ei],some (.slice _),true=>some {val:= .n .i64 0}
  | [.s x],some .string,true=>some {val:= .n .i64 x.size}
  | _,_,_=>none
 | _=>none
end Go.VL
namespace Go.VL
set_option linter.unusedVariables false
set_option linter.unusedSimpArgs false
open Go
theorem pf {α:Type}{sz:Nat}(b6:0<sz): ∀(es:List (List α)) (_ : ∀e∈es,e.length=sz) (j:Nat),
 es.flatten[j]? = (es[j / sz]?).bind (·[j % sz]?)
 | [],_,j=>by simp
 | e::es,h,j=>by
  have he:e.length=sz:=h e (by simp)
  rw [List.flatten_cons,List.getElem?_append]
  by_cases aG:j<sz
  ·rw [if_pos (by omega),Nat.div_eq_of_lt aG,Nat.mod_eq_of_lt aG];simp
  ·rw [if_neg (by omega),he,pf b6 es (fun ex l2=>h ex (by simp [l2])) (j-sz)]
   have h1:j / sz=(j-sz) / sz+1:=Nat.div_eq_sub_div b6 (by omega)
   have o:j % sz=(j-sz) % sz:=Nat.mod_eq_sub_mod (by omega)
   rw [h1,o];simp
theorem AJ {α:Type}{sz:Nat}{es:List (List α)}(aV:∀e∈es,e.length=sz){i:Nat}{c:List α}(he:es[i]? = some c){j:Nat}(aG:j<sz):
 es.flatten[i*sz+j]? = c[j]? := by
 have b6:0<sz:=by omega
 rw [pf b6 es aV]
 have h1:(i*sz+j) / sz=i:=by
  rw [Nat.mul_comm,Nat.mul_add_div b6,Nat.div_eq_of_lt aG];omega
 have o:(i*sz+j) % sz=j:=by
  rw [Nat.mul_comm,Nat.mul_add_mod,Nat.mod_eq_of_lt aG]
 rw [h1,o,he];rfl
theorem Pd {α:Type}{sz:Nat}{es:List (List α)}(aV:∀e∈es,e.length=sz){i:Nat}{c dX:List α}(he:es[i]? = some c)(bh:dX.length=sz)(j:Nat):
 (es.set i dX).flatten[j]? = if i*sz≤j∧j<i*sz+sz then dX[j-i*sz]? else es.flatten[j]? := by
 rcases Nat.eq_zero_or_pos sz with h0|b6
 ·subst h0
  have e1 : ∀(l:List (List α)),(∀e∈l,e.length=0)→l.flatten=[]:=by
   intro l aV;induction l with
   | nil=>rfl
   | cons a l ih=>rw [List.flatten_cons,ih fun e he=>aV e (by simp [he])];have:=aV a (by simp);simp_all
  rw [e1 _ aV,e1 (es.set i dX) (by
   intro e hm
   rcases List.mem_or_eq_of_mem_set hm with h|h
   ·exact aV e h
   ·exact h▸bh)]
  simp
 ·have Mg : ∀e∈es.set i dX,e.length=sz:=by
   intro e hm
   rcases List.mem_or_eq_of_mem_set hm with h|h
   ·exact aV e h
   ·exact h▸bh
  have aj:i<es.length:=by
   rcases Nat.lt_or_ge i es.length with h|h
   ·exact h
   ·rw [List.getElem?_eq_none h] at he;simp at he
  rw [pf b6 _ Mg,pf b6 _ aV]
  by_cases bd:j / sz=i
  ·have h1:i*sz≤j∧j<i*sz+sz:=by
    subst bd
    constructor
    ·exact Nat.div_mul_le_self j sz
    ·have:=Nat.lt_div_mul_add (a:=j) b6;omega
   rw [if_pos h1,bd,List.getElem?_set_self aj]
   have:j % sz=j-i*sz:=by
    subst bd;have:=Nat.div_add_mod j sz;rw [Nat.mul_comm] at this;omega
   simp [this]
  ·have h1 : ¬(i*sz≤j∧j<i*sz+sz):=by
    rintro ⟨a,b⟩
    apply bd
    obtain ⟨d,rfl⟩ : ∃d,j=i*sz+d:=⟨j-i*sz,by omega⟩
    rw [Nat.mul_comm i sz,Nat.mul_add_div b6,Nat.div_eq_of_lt (by omega)]
    omega
   rw [if_neg h1,List.getElem?_set_ne (Ne.symm bd)]
def oC (w:World)(ok:Nat→Prop)(a7:jn)(bj:jd)(ec I sz:Nat)(es:List (List aD)):Prop :=
 (∀e∈es,e.length=sz)∧ ∀(j:Nat) x,es.flatten[j]? = some x→ ∃v,w.cell? ⟨ec,I+j,none⟩=some v∧kn v=true∧Rel w ok a7 bj x v
theorem jy.rd {w:World}{ok:Nat→Prop}{a7:jn}{bj:jd}{I:ae}{ec m:Nat}(h:jy w ok a7 bj I (some (ec,m))):oC w ok a7 bj ec 0 I.sz I.es:=by
 obtain ⟨c,eO,h1,o,af,au⟩:=h
 refine ⟨af,fun j x U=> ?_⟩
 obtain ⟨v,e1,aE,bP⟩:=au j x U
 exact ⟨v,by rw [cell_of_row w ec (0+j) c eO (0,0) h1,Nat.zero_add];exact e1,aE,bP⟩
theorem af6 {w:World}{ok:Nat→Prop}{a7:jn}{bj:jd}{x:aD}{v:Value}(h:Rel w ok a7 bj x v)(ap:x.one=true):v.oneCell'=true:=h.kn ap
theorem PU {P:Program}{t:TypeId}(h:(P.underlying t).isSome=true)(w:World):(isAgg t).run P w = .ok (Bc P t) w:=by
 cases bL:P.underlying t with
 | none=>simp [bL] at h
 | some d=>cases d<;>simp [isAgg,Bc,run_underlying bL,bL]
theorem uM {P:Program}{t:TypeId}(h:(P.info? t).isSome=true)(w:World):(sizeOf t).run P w = .ok (P.cellsOf t) w:=by
 cases aj:P.info? t with
 | none=>simp [aj] at h
 | some i=>simp [sizeOf,typeInfo,aj,Program.cellsOf]
theorem rF (b I n:Nat):(⟨b,I,none⟩:Addr).add n=⟨b,I+n,none⟩:=by unfold Addr.add;split<;>simp_all
theorem KC {P:Program}{w:World}{ok:Nat→Prop}{a7:jn}{bj:jd}{ec I sz i off:Nat}{es:List (List aD)}{c:List aD}{t:TypeId}{x:aD}
 (iC:oC w ok a7 bj ec I sz es) (he:es[i]? = some c) (cm:ss P t c off=some x) :
 ∃v,(Instr.loadAt t (.pointer (some ⟨ec,I+(i*sz+off),none⟩))).run P w = .ok v w∧Rel w ok a7 bj x v:=by
 have hlen:c.length=sz:=iC.1 c (List.mem_of_getElem? he)
 unfold ss at cm
 split at cm
 ·simp at cm
 ·rename_i aj
  simp only [Bool.not_eq_true',Bool.not_eq_false,Bool.and_eq_true] at aj
  have kd : ∀j,j<sz→ ∃y v,c[j]? = some y∧w.cell? ⟨ec,I+(i*sz+j),none⟩=some v∧kn v=true∧Rel w ok a7 bj y v:=by
   intro j aG
   have a1:c[j]? = some c[j]:=List.getElem?_eq_getElem (by omega)
   obtain ⟨v,e1,aE,bP⟩:=iC.2 (i*sz+j) c[j] (by rw [AJ iC.1 he aG,a1])
   exact ⟨_,v,a1,e1,aE,bP⟩
  simp only [Instr.loadAt,Instr.sureAddr,loadVar,Sem.run_bind,Sem.run_pure,Result.andThen,PU aj.1,uM aj.2]
  split at cm
  ·rename_i q3
   rw [q3]
   split at cm
   ·rename_i hle
    simp at cm;subst cm
    have aV:=run_loadCells (P:=P) w ⟨ec,I+(i*sz+off),none⟩ (P.cellsOf t) (fun j=>(w.cell? ⟨ec,I+(i*sz+(off+j)),none⟩).getD undef) (by
     intro j aG
     obtain ⟨y,v,-,e1,-,-⟩:=kd (off+j) (by omega)
     rw [rF,show I+(i*sz+off)+j=I+(i*sz+(off+j)) by omega,e1];rfl)
    refine ⟨.agg (List.map (fun j=>(w.cell? ⟨ec,I+(i*sz+(off+j)),none⟩).getD undef) (List.range (P.cellsOf t))).toArray,by simp [aV,Result.andThen,uM aj.2],?_⟩
    refine .agg _ (by simp;omega) ?_ ?_
    ·intro j v bk
     rw [List.getElem?_map,Option.map_eq_some_iff] at bk
     obtain ⟨q,l3,rfl⟩:=bk
     obtain ⟨ow,yY⟩:=List.getElem?_eq_some_iff.1 l3
     have bd:j<P.cellsOf t:=by simpa using ow
     obtain rfl:j=q:=by simpa using yY
     obtain ⟨y,v,-,e1,aE,-⟩:=kd (off+j) (by omega)
     rw [e1];exact aE
    ·intro j y v a1 bk
     rw [List.getElem?_map,Option.map_eq_some_iff] at bk
     obtain ⟨q,l3,rfl⟩:=bk
     obtain ⟨ow,yY⟩:=List.getElem?_eq_some_iff.1 l3
     have bd:j<P.cellsOf t:=by simpa using ow
     obtain rfl:j=q:=by simpa using yY
     rw [List.getElem?_take,if_pos bd,List.getElem?_drop] at a1
     obtain ⟨l9,v,h0,e1,aE,bP⟩:=kd (off+j) (by omega)
     rw [h0] at a1;simp at a1;subst a1
     rw [e1];exact bP
   ·simp at cm
  ·rename_i q3
   have q3:Bc P t=false:=by simpa using q3
   rw [q3]
   split at cm
   ·rename_i y a1
    split at cm
    ·simp at cm;subst cm
     have yR:off<sz:=by
      rcases Nat.lt_or_ge off c.length with h|h
      ·omega
      ·rw [List.getElem?_eq_none h] at a1;simp at a1
     obtain ⟨l9,v,h0,e1,aE,bP⟩:=kd off yR
     rw [h0] at a1;simp at a1;subst a1
     exact ⟨v,by simp [e1],bP⟩
    ·simp at cm
   ·simp at cm
theorem OC {c:List aD}{off:Nat}{vs:List aD}(h:off+vs.length≤c.length):(setCells c off vs).length=c.length:=by
 simp [setCells];omega
theorem Ku {c:List aD}{off:Nat}{vs:List aD}(h:off+vs.length≤c.length)(j:Nat):
 (setCells c off vs)[j]? = if off≤j∧j<off+vs.length then vs[j-off]? else c[j]? := by
 unfold setCells
 rw [List.append_assoc,List.getElem?_append]
 have h1:(c.take off).length=off:=by simp;omega
 rw [h1]
 by_cases a:j<off
 ·rw [if_pos a,if_neg (by omega),List.getElem?_take,if_pos a]
 ·rw [if_neg a,List.getElem?_append]
  by_cases b:j<off+vs.length
  ·rw [if_pos (by omega),if_pos ⟨by omega,b⟩]
  ·rw [if_neg (by omega),if_neg (by omega),List.getElem?_drop]
   congr 1;omega
theorem acH {c:Array Value}{p:Nat}{vs:List Value}(h:p+vs.length≤c.size)(j:Nat):
 (c.toList.take p++vs++c.toList.drop (p+vs.length)).toArray[j]? = if p≤j∧j<p+vs.length then vs[j-p]? else c[j]? := by
 rw [List.getElem?_toArray,List.append_assoc,List.getElem?_append]
 have h1:(c.toList.take p).length=p:=by simp;omega
 rw [h1]
 by_cases a:j<p
 ·rw [if_pos a,if_neg (by omega),List.getElem?_take,if_pos a,Array.getElem?_toList]
 ·rw [if_neg a,List.getElem?_append]
  by_cases b:j<p+vs.length
  ·rw [if_pos (by omega),if_pos ⟨by omega,b⟩]
  ·rw [if_neg (by omega),if_neg (by omega),List.getElem?_drop,Array.getElem?_toList]
   congr 1;omega
theorem Zw {P:Program}{g:G}{s:S}{az:fx}{a:Act}{w:World}(h:cO g s az a w){r k b m i off:Nat}{l:List ae}{I:ae}{c:List aD}
 (aq:s.aX r=some l) (ap:s.ao r k=some I) (a9:I.cv = .live) (ak:az r k=some (b,m)) (he:I.es[i]? = some c)
 {t:TypeId} (Mh:(P.info? t).isSome=true) {x:aD} {v:Value} (U:Rel w (s.ok g az w) s.a7 (s.bj az) x v) (l0:x.one=true∨ ∃c,x = .agg c)
 (fa:x.cells.length=P.cellsOf t) (iz:off+x.cells.length≤c.length) :
 ∃bS,(Instr.storeAt t (.pointer (some ⟨b,i*I.sz+off,none⟩)) v).run P w = .ok () bS ∧
  cO g (s.setRow r (l.set k {I with es:=I.es.set i (setCells c off x.cells)})) az a bS:=by
 obtain ⟨vs,bk,pJ,kd,fE⟩:=U.cellsOf l0
 have br:=h.obj r k I ap
 rw [ak] at br
 obtain ⟨cr,eO,h1,o,af,au⟩:=br
 have hlen:c.length=I.sz:=af c (List.mem_of_getElem? he)
 have yS:i*I.sz+off+vs.length≤cr.size:=by
  rcases Nat.eq_zero_or_pos I.sz with cD|cD
  ·have:off=0:=by omega
   have:vs.length=0:=by omega
   rw [cD];omega
  ·have aV:I.es.flatten[i*I.sz+(I.sz-1)]? = some (c[I.sz-1]'(by omega)):=by
    rw [AJ af he (by omega)];exact List.getElem?_eq_getElem (by omega)
   obtain ⟨TJ,e1,-,-⟩:=au _ _ aV
   have:=(Array.getElem?_eq_some_iff.1 e1).1
   omega
 have mm:=run_storeCells_at P b (i*I.sz+off) eO vs 0 cr w h1 (by simpa using yS) (fun TJ B3=>by
  obtain ⟨q,bd⟩:=List.getElem?_of_mem B3
  exact kd q TJ bd)
 simp only [Nat.add_zero] at mm
 have i7:(Instr.storeAt t (.pointer (some ⟨b,i*I.sz+off,none⟩)) v).run P w =
  .ok () (w.setRow b (cr.toList.take (i*I.sz+off)++vs++cr.toList.drop (i*I.sz+off+vs.length)).toArray):=by
  have b6:v.cells.size=P.cellsOf t:=by rw [bk];simpa using pJ.trans fa
  simp only [Instr.storeAt,Instr.sureAddr,storeVar,Sem.run_bind,Sem.run_pure,Result.andThen,uM Mh,b6,ne_eq,not_true_eq_false,if_false]
  rw [bk]
  simpa using mm
 refine ⟨_,i7,?_⟩
 have adB:(w.setRow b (cr.toList.take (i*I.sz+off)++vs++cr.toList.drop (i*I.sz+off+vs.length)).toArray).heap.size=w.heap.size:=size_setRow _ _ _
 have sI:(setCells c off x.cells).length=I.sz:=by rw [OC iz];exact hlen
 refine (h.write aq ap a9 ak _ _ eO (setRow_heap w b cr _ eO _ h1) adB (fun q bd=>setRow_other w b q _ bd) rfl rfl rfl ?_ ?_ ?_).1
 ·simp;omega
 ·intro e hm
  rcases List.mem_or_eq_of_mem_set hm with cK|cK
  ·exact af e cK
  ·exact cK▸sI
 ·intro j y a1
  rw [acH yS]
  rw [Pd af he sI] at a1
  by_cases l4:i*I.sz≤j∧j<i*I.sz+I.sz
  ·rw [if_pos l4,Ku iz] at a1
   by_cases Sf:off≤j-i*I.sz∧j-i*I.sz<off+x.cells.length
   ·rw [if_pos Sf] at a1
    rw [if_pos ⟨by omega,by omega⟩]
    have bd:j-(i*I.sz+off)<vs.length:=by omega
    refine ⟨vs[j-(i*I.sz+off)],List.getElem?_eq_getElem bd,kd _ _ (List.getElem?_eq_getElem bd),fE (j-i*I.sz-off) y _ a1 ?_⟩
    rw [show j-i*I.sz-off=j-(i*I.sz+off) by omega]
    exact List.getElem?_eq_getElem bd
   ·rw [if_neg Sf] at a1
    rw [if_neg (by omega)]
    refine au j y ?_
    rw [show j=i*I.sz+(j-i*I.sz) by omega,AJ af he (by omega)]
    exact a1
  ·rw [if_neg l4] at a1
   rw [if_neg (by rw [pJ];omega)]
   exact au j y a1
end Go.VL
namespace Go.VL
set_option linter.unusedVariables false
set_option linter.unusedSimpArgs false
open Go
def S.h9 (s:S)(u:List (Nat×List ae)):S:=u.foldl (fun s p=>s.setRow p.1 p.2) s
@[simp] theorem S.agh (s:S):s.h9 []=s:=rfl
@[simp] theorem S.agi (s:S) (p:Nat×List ae):s.h9 [p]=s.setRow p.1 p.2:=rfl
section
variable {w:World} {ok:Nat→Prop} {a7:jn} {bj:jd} {v:Value}
theorem Rel.tw {x:Bool}(h:Rel w ok a7 bj (.b x) v):v = .bool x:=by cases h;rfl
theorem Rel.pi {k:IntKind}{x:Int}(h:Rel w ok a7 bj (.n k x) v):v = .int k x:=by cases h;rfl
theorem Rel.yJ {x:ByteArray}(h:Rel w ok a7 bj (.s x) v):v = .string x:=by cases h;rfl
theorem Rel.u3 (h:Rel w ok a7 bj .ij v):v = .pointer none:=by cases h;rfl
theorem Rel.px (h:Rel w ok a7 bj .ei v):v = .slice none 0 0:=by cases h;rfl
theorem Rel.Eo (h:Rel w ok a7 bj .iB v): ∃a c,v = .slice (some a) 0 c:=by cases h;exact ⟨_,_,rfl⟩
theorem Rel.Qn {sz:Nat}(h:Rel w ok a7 bj (.kh sz none) v):v = .pointer none:=by cases h;rfl
theorem Rel.KT {sz:Nat}{c:List aD}(h:Rel w ok a7 bj (.kh sz (some c)) v):Rel w ok a7 bj (.ej sz [c] 0 0) v:=by cases h;assumption
theorem Rel.Ez {f:Nat}{c:List aD}(h:Rel w ok a7 bj (.fn f c) v): ∃vs:List Value,v = .func (.func f) #[] vs.toArray∧vs.length=c.length ∧
 ∀(j:Nat) x u,c[j]? = some x→vs[j]? = some u→Rel w ok a7 bj x u:=by
 cases h with|fn vs aV aq=>exact ⟨vs,rfl,aV,aq⟩
theorem Rel.A2 {c:List aD}(h:Rel w ok a7 bj (.agg c) v): ∃vs:List Value,v = .agg vs.toArray∧vs.length=c.length∧(∀(j:Nat) u,vs[j]? = some u→VL.kn u=true) ∧
 ∀(j:Nat) x u,c[j]? = some x→vs[j]? = some u→Rel w ok a7 bj x u:=by
 cases h with|agg vs aV bh aq=>exact ⟨vs,rfl,aV,bh,aq⟩
theorem Rel.yr {c:List aD}(h:Rel w ok a7 bj (.ea c) v): ∃vs:List Value,v = .tuple vs.toArray∧vs.length=c.length ∧
 ∀(j:Nat) x u,c[j]? = some x→vs[j]? = some u→Rel w ok a7 bj x u:=by
 cases h with|ea vs aV aq=>exact ⟨vs,rfl,aV,aq⟩
theorem Rel.ys {r k i off sz:Nat}{p:Option (Nat×Nat)}(h:Rel w ok a7 bj (.ref r k i off) v)(cm:bj r k=some (sz,p)):
 p=none∨ ∃b m,p=some (b,m)∧v = .pointer (some ⟨b,i*sz+off,none⟩):=by
 cases h with
 | pz a hu a4 =>
  cases p with
  | none=>exact .inl rfl
  | some q=>exact absurd cm (a4 _ _)
 | ref hu h =>
  rw [cm] at h
  simp only [Option.some.injEq,Prod.mk.injEq] at h
  obtain ⟨rfl,rfl⟩:=h
  exact .inr ⟨_,_,rfl,rfl⟩
theorem Rel.ago {r k i off:Nat}(h:Rel w ok a7 bj (.ref r k i off) v): ∃a,v = .pointer a:=by
 cases h with
 | pz a=>exact ⟨a,rfl⟩
 | ref=>exact ⟨_,rfl⟩
theorem Rel.aay {r k i off sz b m:Nat}(h:Rel w ok a7 bj (.ref r k i off) v)(cm:bj r k=some (sz,some (b,m)))(Sg:Nat):
 Rel w ok a7 bj (.ref r k i Sg) (.pointer (some ⟨b,i*sz+Sg,none⟩)):=by
 cases h with
 | pz a hu a4=>exact absurd cm (a4 _ _)
 | ref hu h=>exact .ref hu cm
theorem Rel.yt {sz i off:Nat}{es:List (List aD)}(h:Rel w ok a7 bj (.ej sz es i off) v): ∃ec I,(ok ec∧jU es)∧v = .pointer (some ⟨ec,I+(i*sz+off),none⟩)∧oC w ok a7 bj ec I sz es:=by
 cases h with
 | ej cs aU ak aV hw bh aq=>exact ⟨_,_,⟨aU,ak⟩,rfl,aV,fun j x U=>⟨cs j,hw j x U,bh j x U,aq j x U⟩⟩
theorem Rel.A3 {r k b0 len sz:Nat}{p:Option (Nat×Nat)}(h:Rel w ok a7 bj (.bf r k b0 len) v)(cm:bj r k=some (sz,p)):
 (p=none∧b0=0∧len=0∧v = .slice none 0 0)∨ ∃b m a c,p=some (b,m)∧v = .slice a len c∧len≤c∧c<9223372036854775808∧(c=0∨(a=some ⟨b,b0*sz,none⟩∧(b0+c)*sz=m)):=by
 cases h with
 | nm a l c hu a4=>rw [cm] at a4;simp at a4
 | nK hu h =>
  rw [cm] at h
  simp only [Option.some.injEq,Prod.mk.injEq] at h
  exact .inl ⟨h.2,rfl,rfl,rfl⟩
 | bf hu h aV bh hm =>
  rw [cm] at h
  simp only [Option.some.injEq,Prod.mk.injEq] at h
  obtain ⟨rfl,rfl⟩:=h
  exact .inr ⟨_,_,_,_,rfl,rfl,aV,bh,hm.2.imp id fun e=>⟨e,hm.1⟩⟩
theorem Rel.u4 {r k b0 len sz:Nat}{p:Option (Nat×Nat)}(h:Rel w ok a7 bj (.bf r k b0 len) v)(cm:bj r k=some (sz,p)):
 (p=none∧b0=0∧len=0∧v = .slice none 0 0)∨ ∃b m a c,p=some (b,m)∧v = .slice a len c∧len≤c∧c<9223372036854775808∧(b0+c)*sz=m∧(c=0∨a=some ⟨b,b0*sz,none⟩):=by
 cases h with
 | nm a l c hu a4=>rw [cm] at a4;simp at a4
 | nK hu h =>
  rw [cm] at h
  simp only [Option.some.injEq,Prod.mk.injEq] at h
  exact .inl ⟨h.2,rfl,rfl,rfl⟩
 | bf hu h aV bh hm =>
  rw [cm] at h
  simp only [Option.some.injEq,Prod.mk.injEq] at h
  obtain ⟨rfl,rfl⟩:=h
  exact .inr ⟨_,_,_,_,rfl,rfl,aV,bh,hm⟩
theorem Rel.af7 {r k b0 len:Nat}(h:Rel w ok a7 bj (.bf r k b0 len) v): ∃a l c,v = .slice a l c:=by
 cases h<;>exact ⟨_,_,_,rfl⟩
theorem Rel.sl {sz:Nat}{es:List (List aD)}(h:Rel w ok a7 bj (.isl sz es) v):
 (es=[]∧ ∃a c,v = .slice a 0 c∧(a=none→c=0))∨ ∃ec off c,(ok ec∧jU es)∧v = .slice (some ⟨ec,off,none⟩) es.length c∧es.length≤c∧oC w ok a7 bj ec off sz es:=by
 cases h with
 | kf sz a c h=>exact .inl ⟨rfl,a,c,rfl,h⟩
 | isl cs aU ak aV bh hw iL aq=>exact .inr ⟨_,_,_,⟨aU,ak⟩,rfl,bh,aV,fun j x U=>⟨cs j,hw j x U,iL j x U,aq j x U⟩⟩
theorem oC.isl {ec off c sz:Nat}{es:List (List aD)}(h:oC w ok a7 bj ec off sz es)(aU:ok ec∧jU es)(bh:es.length≤c):Rel w ok a7 bj (.isl sz es) (.slice (some ⟨ec,off,none⟩) es.length c):=by
 have U : ∀j:Nat,∃v,∀x,es.flatten[j]? = some x→w.cell? ⟨ec,off+j,none⟩=some v∧VL.kn v=true∧Rel w ok a7 bj x v:=by
  intro j
  cases aG:es.flatten[j]? with
  | none=>exact ⟨undef,fun x U=>by simp at U⟩
  | some y =>
   obtain ⟨v,h1⟩:=h.2 j y aG
   exact ⟨v,fun x U=>by simp at U;subst U;exact h1⟩
 exact .isl (fun j=>(U j).choose) aU.1 aU.2 h.1 bh (fun j x aG=>((U j).choose_spec x aG).1) (fun j x aG=>((U j).choose_spec x aG).2.1) (fun j x aG=>((U j).choose_spec x aG).2.2)
theorem oC.ej {ec I i off sz:Nat}{es:List (List aD)}(h:oC w ok a7 bj ec I sz es)(aU:ok ec∧jU es):Rel w ok a7 bj (.ej sz es i off) (.pointer (some ⟨ec,I+(i*sz+off),none⟩)):=by
 have U : ∀j:Nat,∃v,∀x,es.flatten[j]? = some x→w.cell? ⟨ec,I+j,none⟩=some v∧VL.kn v=true∧Rel w ok a7 bj x v:=by
  intro j
  cases aG:es.flatten[j]? with
  | none=>exact ⟨undef,fun x U=>by simp at U⟩
  | some y =>
   obtain ⟨v,h1⟩:=h.2 j y aG
   exact ⟨v,fun x U=>by simp at U;subst U;exact h1⟩
 exact .ej (fun j=>(U j).choose) aU.1 aU.2 h.1 (fun j x aG=>((U j).choose_spec x aG).1) (fun j x aG=>((U j).choose_spec x aG).2.1) (fun j x aG=>((U j).choose_spec x aG).2.2)
end
def Fin (P:Program)(g:G)(s:S)(a:Act)(w:World)(I:Oper)(bG:il):Prop :=
 ∃v bS bR,((execOp a.eval I).run P w = .ok (.value v) bS∨((execOp a.eval I).run P w = .ok .skip bS∧v=undef)) ∧
  cO g (s.h9 bG.fS) bR a bS∧Rel bS ((s.h9 bG.fS).ok g bR bS) (s.h9 bG.fS).a7 ((s.h9 bG.fS).bj bR) bG.val v
section
variable {P:Program} {g:G} {s:S} {az:fx} {a:Act} {w:World} {I:Oper} {cP:fI} {aW:Nat} {bG:il}
theorem iJ (h:cO g s az a w){v:Value}(i7:(execOp a.eval I).run P w = .ok (.value v) w)(hu:bG.fS=[])
 (aq:Rel w (s.ok g az w) s.a7 (s.bj az) bG.val v):Fin P g s a w I bG :=
 ⟨v,w,az,.inl i7,by rw [hu];exact h,by rw [hu];exact aq⟩
theorem QV {x:Operand}(h:cO g s az a w)(ap:I.op = .move x∨I.op = .assign x)(ay:e2 P s.E s.aX aW I cP=some bG):Fin P g s a w I bG:=by
 have:bG={val:=fp s.E x}:=by rcases ap with ap|ap<;>simp [e2,ap] at ay<;>exact ay.symm
 subst this
 refine iJ (v:=a.eval x) h ?_ rfl (h.eval x)
 rcases ap with ap|ap<;>simp [execOp,ap]
theorem acb {c x y:Operand}(h:cO g s az a w)(ap:I.op = .pick c x y)(ay:e2 P s.E s.aX aW I cP=some bG)(cG:∀p∈bG.fF,p):Fin P g s a w I bG:=by
 have bh:=h.eval c
 simp only [e2,ap] at ay
 have key : ∀t:Bool,fp s.E c = .b t→bG.fS=[]→bG.val=(if t then fp s.E x else fp s.E y)→Fin P g s a w I bG:=by
  intro t cm hu bk
  rw [cm] at bh
  have e:a.eval c = .bool t:=bh.tw
  refine iJ (v:=if t then a.eval x else a.eval y) h (by simp [execOp,ap,e,asBool]) hu ?_
  rw [bk];cases t
  ·exact h.eval y
  ·exact h.eval x
 split at ay
 ·rename_i z t cD
  simp at ay;subst ay
  have e:z=t:=cG _ (by simp)
  subst e
  exact key z cD rfl rfl
 ·rename_i cD _;simp at ay;subst ay;exact key true cD rfl rfl
 ·rename_i cD _;simp at ay;subst ay;exact key false cD rfl rfl
 ·simp at ay
theorem Ep (h:cO g s az a w)(e5:s.aX aW=none){v:Value}{ao:ae}{c:Array Value}{eO:TypeId}(a9:ao.cv = .live)
 (i7:(execOp a.eval I).run P w = .ok (.value v) (w.alloc (.cells c eO))) (hu:bG.fS=[(aW,[ao])]) (hlen : ∀e∈ao.es,e.length=ao.sz)
 (bh : ∀(j:Nat) x,ao.es.flatten[j]? = some x→ ∃v,c[j]? = some v∧kn v=true∧Rel w (s.ok g az w) s.a7 (s.bj az) x v)
 (hval : ∀(bS:World) (k1:Nat→Prop) (m1:jn) (ml:jd),m1 aW 0→ml aW 0=some (ao.sz,some (w.heap.size,c.size))→Rel bS k1 m1 ml bG.val v):Fin P g s a w I bG:=by
 obtain ⟨bR,ak,b6,-⟩:=h.alloc e5 ao a9 c eO hlen bh
 have h1:(s.setRow aW [ao]).a7 aW 0:=by rw [nj];simp
 have o:(s.setRow aW [ao]).bj bR aW 0=some (ao.sz,some (w.heap.size,c.size)):=by simp [S.bj,lG,mc,a9,ak]
 exact ⟨v,_,bR,.inl i7,by rw [hu];exact b6,by rw [hu];exact hval _ _ _ _ h1 o⟩
theorem AK {t:TypeId}{z:List aD}(cD:qG P t=some z): ∃i eL,P.info? t=some i∧i.zero=some eL∧z=eL.cells.toList.map ofValue ∧
 ∀(j:Nat) x,z[j]? = some x→ ∃v,eL.cells[j]? = some v∧kn v=true∧ ∀(w:World) (ok:Nat→Prop) (a7:jn) (bj:jd),Rel w ok a7 bj x v:=by
 unfold qG at cD
 cases aj:P.info? t with
 | none=>simp [aj] at cD
 | some i =>
  cases lc:i.zero with
  | none=>simp [aj,lc] at cD
  | some eL =>
   simp only [aj,lc] at cD
   split at cD
   ·rename_i nT
    simp only [Option.some.injEq] at cD
    refine ⟨i,eL,rfl,lc,cD.symm,fun j x U=> ?_⟩
    subst cD
    rw [List.getElem?_map,Option.map_eq_some_iff] at U
    obtain ⟨v,bk,rfl⟩:=U
    refine ⟨v,by rw [← Array.getElem?_toList];exact bk,?_,fun w ok a7 bj=>Pb v⟩
    exact List.all_eq_true.1 nT v (List.mem_of_getElem? bk)
   ·simp at cD
theorem abh {t:TypeId}(h:cO g s az a w)(e5:s.aX aW=none)(ap:I.op = .alloc t)(ay:e2 P s.E s.aX aW I cP=some bG):Fin P g s a w I bG:=by
 simp only [e2,ap] at ay
 split at ay
 ·rename_i z cD
  obtain ⟨i,eL,aj,lc,e,kd⟩:=AK cD
  simp only [Option.some.injEq] at ay
  subst ay
  refine Ep (v:= .pointer (some ⟨w.heap.size,0,none⟩)) (c:=eL.cells) (eO:=t) (ao:=⟨z.length,[z],.live⟩) h e5 rfl ?_ rfl (by simp) ?_ ?_
  ·simp [execOp,ap,Instr.alloc,zeroValue,typeInfo,aj,lc,newVar,newRow]
  ·intro j x U
   simp only [List.flatten_cons,List.flatten_nil,List.append_nil] at U
   obtain ⟨v,h1,o,af⟩:=kd j x U
   exact ⟨v,h1,o,af _ _ _ _⟩
  ·intro bS k1 m1 ml hu cm
   have:=Rel.ref (w:=bS) (ok:=k1) (i:=0) (off:=0) hu cm
   simpa using this
 ·simp at ay
theorem acI {t:TypeId}{x:Operand}(h:cO g s az a w)(e5:s.aX aW=none)(ap:I.op = .box t x)(ay:e2 P s.E s.aX aW I cP=some bG):Fin P g s a w I bG:=by
 simp only [e2,ap] at ay
 have U:=h.eval x
 have key : ∀ao:ae,ao.cv = .live→ao.es=[(fp s.E x).cells]→ao.sz=(fp s.E x).cells.length→((fp s.E x).one=true∨ ∃c,fp s.E x = .agg c) →
  bG.fS=[(aW,[ao])]→bG.val = .ref aW 0 0 0→Fin P g s a w I bG:=by
  intro ao a9 hE fa l0 hu bk
  obtain ⟨vs,e1,aE,bP,c3⟩:=U.cellsOf l0
  refine Ep (v:= .pointer (some ⟨w.heap.size,0,none⟩)) (c:=(a.eval x).cells) (eO:=t) h e5 a9 ?_ hu ?_ ?_ ?_
  ·simp [execOp,ap,Instr.box,newVar,newRow]
  ·intro e he;rw [hE] at he;simp at he;rw [he,fa]
  ·intro j y a1
   rw [hE] at a1
   simp only [List.flatten_cons,List.flatten_nil,List.append_nil] at a1
   have aG:j<vs.length:=by
    rcases Nat.lt_or_ge j (fp s.E x).cells.length with cK|cK
    ·omega
    ·rw [List.getElem?_eq_none cK] at a1;simp at a1
   refine ⟨vs[j],by rw [e1];simp [aG],bP j _ (List.getElem?_eq_getElem aG),c3 j y _ a1 (List.getElem?_eq_getElem aG)⟩
  ·intro bS k1 m1 ml ox cm
   have:=Rel.ref (w:=bS) (ok:=k1) (i:=0) (off:=0) ox cm
   rw [bk];simpa using this
 split at ay
 ·rename_i c bh
  simp only [Option.some.injEq] at ay
  subst ay
  exact key _ rfl (by rw [bh];rfl) (by rw [bh];rfl) (.inr ⟨c,bh⟩) rfl rfl
 ·split at ay
  ·rename_i l0
   simp only [Option.some.injEq] at ay
   subst ay
   have e:(fp s.E x).cells=[fp s.E x]:=by
    generalize fp s.E x=y at l0
    cases y<;>first|rfl|simp [aD.one] at l0
   exact key _ rfl (by rw [e]) (by rw [e];rfl) (.inl l0) rfl rfl
  ·simp at ay
theorem iK {s:S}{az:fx}{r k:Nat}{ao:ae}(h:s.ao r k=some ao):s.bj az r k=some (ao.sz,az r k):=by simp [S.bj,h]
theorem tp {row:Option (List ae)}{k:Nat}{ao:ae}{b8:List Prop}(h:o1 row k cP=some (ao,b8))(cG:∀p∈b8,p):dn row k=some ao:=by
 unfold o1 at h
 split at h
 ·split at h
  ·simp at h;obtain ⟨rfl,rfl⟩:=h;exact cG _ (by simp)
  ·simp at h
 ·split at h
  ·rename_i cK;simp at h;obtain ⟨rfl,rfl⟩:=h;exact cK
  ·simp at h
theorem AR {es:List (List aD)}{i:Nat}{c:List aD}{b8:List Prop}(h:elemAt es i cP=some (c,b8))(cG:∀p∈b8,p):es[i]? = some c:=by
 unfold elemAt at h
 split at h
 ·simp at h;obtain ⟨rfl,rfl⟩:=h;exact cG _ (by simp)
 ·simp at h;obtain ⟨rfl,rfl⟩:=h;exact cG _ (by simp)
 ·split at h
  ·rename_i cK;simp at h;obtain ⟨rfl,rfl⟩:=h;exact cK
  ·simp at h
theorem acd {t:TypeId}{x:Operand}(h:cO g s az a w)(ap:I.op = .load t x)(ay:e2 P s.E s.aX aW I cP=some bG)(cG:∀p∈bG.fF,p):Fin P g s a w I bG:=by
 simp only [e2,ap] at ay
 have U:=h.eval x
 split at ay
 ·rename_i r k i off gU
  rw [gU] at U
  split at ay
  ·rename_i ao b8 br
   split at ay
   ·rename_i c aT ny
    split at ay
    ·rename_i v bk
     simp only [Option.some.injEq] at ay
     subst ay
     have kp:s.ao r k=some ao:=tp br fun p ak=>cG p (by simp [ak])
     have q4:=AR ny fun p ak=>cG p (by simp [ak])
     have fE:=h.obj r k ao kp
     rcases U.ys (iK kp) with h0|⟨b,m,ak,hval⟩
     ·rw [h0] at fE
      simp only [jy] at fE
      rw [fE] at q4;simp at q4
     ·rw [ak] at fE
      obtain ⟨u,h1,o⟩:=KC (P:=P) fE.rd q4 bk
      refine iJ (v:=u) h ?_ rfl o
      rw [Nat.zero_add] at h1
      simp [execOp,ap,hval,h1]
    ·simp at ay
   ·simp at ay
  ·simp at ay
 ·rename_i sz es i off gU
  rw [gU] at U
  split at ay
  ·rename_i c aT ny
   split at ay
   ·rename_i v bk
    simp only [Option.some.injEq] at ay
    subst ay
    have q4:=AR ny fun p ak=>cG p (by simp [ak])
    obtain ⟨ec,cb,aU,hval,iC⟩:=U.yt
    obtain ⟨u,h1,o⟩:=KC (P:=P) iC q4 bk
    refine iJ (v:=u) h ?_ rfl o
    simp [execOp,ap,hval,h1]
   ·simp at ay
  ·simp at ay
 ·simp at ay
end
end Go.VL
namespace Go.VL
set_option linter.unusedVariables false
set_option linter.unusedSimpArgs false
open Go
section
variable {P:Program} {g:G} {s:S} {az:fx} {a:Act} {w:World} {I:Oper} {cP:fI} {aW:Nat} {bG:il}
theorem PV (h:cO g s az a w){r k i off:Nat}{row:List ae}{ao:ae}{c:List aD}{t:TypeId}{x y:Operand}(ap:I.op = .store t x y)
 (gU:fp s.E x = .ref r k i off) (dG:s.aX r=some row) (br:s.ao r k=some ao) (a9:ao.cv = .live) (ny:ao.es[i]? = some c)
 (l0:(fp s.E y).one=true∨ ∃c,fp s.E y = .agg c) (fa:(fp s.E y).cells.length=P.cellsOf t) (Mh:(P.info? t).isSome=true)
 (iz:off+(fp s.E y).cells.length≤c.length) (ay:bG.val = .dead) (hu:bG.fS=[(r,row.set k {ao with es:=ao.es.set i (setCells c off (fp s.E y).cells)})]):Fin P g s a w I bG:=by
 have U:=h.eval x
 rw [gU] at U
 have fE:=h.obj r k ao br
 rcases U.ys (iK br) with h0|⟨b,m,ak,hval⟩
 ·rw [h0] at fE;simp only [jy] at fE;rw [fE] at ny;simp at ny
 ·obtain ⟨bS,h1,o⟩:=Zw (P:=P) h dG br a9 ak ny Mh (h.eval y) l0 fa iz
  refine ⟨undef,bS,az,.inr ⟨?_,rfl⟩,by rw [hu];exact o,by rw [ay];exact .dead _⟩
  simp [execOp,ap,hval,h1]
theorem abi {t:TypeId}{x y:Operand}(h:cO g s az a w)(ap:I.op = .store t x y)(ay:e2 P s.E s.aX aW I cP=some bG)(cG:∀p∈bG.fF,p):Fin P g s a w I bG:=by
 simp only [e2,ap] at ay
 split at ay
 ·rename_i r k i off gU
  split at ay
  ·simp at ay
  ·rename_i row dG
   split at ay
   ·rename_i ao b8 adC
    split at ay
    ·simp at ay
    ·rename_i a9
     have a9:ao.cv = .live:=by simpa using a9
     split at ay
     ·simp at ay
     ·rename_i l0
      have l0:=aD.Pc (by simpa using l0)
      split at ay
      ·simp at ay
      ·rename_i fa
       simp only [not_or,Decidable.not_not,Bool.not_eq_false] at fa
       have kp:(∀p∈b8,p)→s.ao r k=some ao:=fun bH=>by
        have:=tp adC bH
        unfold S.ao;rw [dG];exact this
       split at ay
       ·split at ay
        ·rename_i yR
         simp only [Option.some.injEq] at ay
         subst ay;subst yR
         have dU:i<ao.es.length:=cG _ (by simp)
         have iL:(fp s.E y).cells.length=ao.sz:=cG _ (by simp)
         have BE:=kp fun p ak=>cG p (by simp [ak])
         have hlen:(ao.es[i]).length=ao.sz:=by
          have fE:=h.obj r k ao BE
          cases ak:az r k with
          | none=>rw [ak] at fE;simp only [jy] at fE;rw [fE] at dU;simp at dU
          | some q =>
           rw [ak] at fE
           obtain ⟨_,_,_,_,af,_⟩:=fE
           exact af _ (List.getElem_mem dU)
         refine PV h ap gU dG BE a9 (c:=ao.es[i]) (List.getElem?_eq_getElem dU) l0 fa.1 fa.2 (by omega) rfl ?_
         have e:setCells ao.es[i] 0 (fp s.E y).cells=(fp s.E y).cells:=by
          simp [setCells,hlen,iL]
         rw [e]
        ·simp at ay
       ·split at ay
        ·rename_i c aT ny
         split at ay
         ·rename_i iz
          simp only [Option.some.injEq] at ay
          subst ay
          exact PV h ap gU dG (kp fun p ak=>cG p (by simp [ak])) a9 (AR ny fun p ak=>cG p (by simp [ak])) l0 fa.1 fa.2 iz rfl rfl
         ·simp at ay
        ·simp at ay
   ·simp at ay
 ·simp at ay
theorem Zx {x:Operand}(h:cO g s az a w)(ap:I.op = .nilCheck x)(ay:e2 P s.E s.aX aW I cP=some bG)(cG:∀p∈bG.fF,p):Fin P g s a w I bG:=by
 simp only [e2,ap] at ay
 have U:=h.eval x
 split at ay
 ·rename_i r k i off gU
  rw [gU] at U
  split at ay
  ·rename_i ao b8 br
   split at ay
   ·rename_i c aT ny
    simp only [Option.some.injEq] at ay
    subst ay
    have kp:s.ao r k=some ao:=tp br fun p ak=>cG p (by simp [ak])
    have q4:=AR ny fun p ak=>cG p (by simp [ak])
    have fE:=h.obj r k ao kp
    rcases U.ys (iK kp) with h0|⟨b,m,ak,hval⟩
    ·rw [h0] at fE;simp only [jy] at fE;rw [fE] at q4;simp at q4
    ·refine iJ (v:=a.eval x) h ?_ rfl U
     simp [execOp,ap,hval]
   ·simp at ay
  ·simp at ay
 ·rename_i sz es i off gU
  rw [gU] at U
  simp only [Option.some.injEq] at ay
  subst ay
  obtain ⟨ec,cb,aU,hval,iC⟩:=U.yt
  refine iJ (v:=a.eval x) h ?_ rfl U
  simp [execOp,ap,hval]
 ·rename_i f c gU
  rw [gU] at U
  simp only [Option.some.injEq] at ay
  subst ay
  obtain ⟨vs,hval,-⟩:=U.Ez
  refine iJ (v:=a.eval x) h ?_ rfl U
  simp [execOp,ap,hval]
 ·simp at ay
theorem aaz {op:BinOp}{t:TypeId}{x y z:aD}{ao:List Prop}(ay:LR op x y=some (z,ao))(cG:∀p∈ao,p)
 {ok:Nat→Prop} {a7:jn} {bj:jd} {ld lf:Value} (U:Rel w ok a7 bj x ld) (a1:Rel w ok a7 bj y lf) (p q:Operand) :
 ∃v,((do eqGuard op t p q ld lf;binOp op t ld lf):Sem Value).run P w = .ok v w∧Rel w ok a7 bj z v:=by
 unfold LR at ay
 split at ay
 ·rename_i k n dx nF
  have h3:=U.pi;have je:=a1.pi
  subst h3;subst je
  have dB : ∀op,eqGuard op t p q (.int k n) (.int dx nF)=pure ():=fun op=>eqGuard_at_int ..
  simp only [Sem.run_bind,dB,Sem.run_pure,Result.andThen_ok]
  split at ay
  ·simp only [Option.some.injEq,Prod.mk.injEq] at ay
   obtain ⟨rfl,rfl⟩:=ay
   have h0:0≤nF:=cG _ (by simp)
   exact ⟨_,by simp [binOp,Op.shift,show ¬nF<0 by omega],.n _ _⟩
  ·simp only [Option.some.injEq,Prod.mk.injEq] at ay
   obtain ⟨rfl,rfl⟩:=ay
   have h0:0≤nF:=cG _ (by simp)
   exact ⟨_,by simp [binOp,Op.shift,show ¬nF<0 by omega],.n _ _⟩
  ·split at ay
   ·simp at ay
   ·rename_i a9
    have a9:k=dx:=by simpa using a9
    subst a9
    split at ay<;>simp only [Option.some.injEq,Prod.mk.injEq,reduceCtorEq] at ay
    all_goals (obtain ⟨rfl,rfl⟩:=ay)
    case h_4|h_5 =>
     have h0:nF≠0:=cG _ (by simp)
     exact ⟨_,by simp [binOp,Op.intDiv,h0],.n _ _⟩
    all_goals first
     | (refine ⟨_,?_,.n _ _⟩;rw [binOp_add];rfl)
     | (refine ⟨_,?_,.n _ _⟩;rw [binOp_sub];rfl)
     | (refine ⟨_,?_,.n _ _⟩;rw [binOp_mul];rfl)
     | (refine ⟨_,?_,.n _ _⟩;rw [binOp_and];rfl)
     | (refine ⟨_,?_,.n _ _⟩;rw [binOp_or];rfl)
     | (refine ⟨_,?_,.n _ _⟩;rw [binOp_xor];rfl)
     | (refine ⟨_,?_,.b _⟩;simp [binOp,Op.intCmp];done)
 ·rename_i cL l9
  have h3:=U.yJ;have je:=a1.yJ
  subst h3;subst je
  have dB : ∀op,eqGuard op t p q (.string cL) (.string l9)=pure ():=fun op=>eqGuard_at_string ..
  simp only [Sem.run_bind,dB,Sem.run_pure,Result.andThen_ok]
  split at ay<;>simp only [Option.some.injEq,Prod.mk.injEq,reduceCtorEq] at ay
  all_goals (obtain ⟨rfl,rfl⟩:=ay)
  ·have h0:cL.size+l9.size<9223372036854775808:=cG _ (by simp)
   refine ⟨_,?_,.s _⟩
   have h1 : ¬((cL.size+l9.size:Nat):Int)>IntKind.i64.max:=by rw [IntKind.max_i64];omega
   rw [IntKind.max_i64] at h1
   simp [binOp,Op.stringOp]
   omega
  ·exact ⟨_,by simp [binOp,Op.stringOp],.b _⟩
  ·exact ⟨_,by simp [binOp,Op.stringOp],.b _⟩
 ·simp at ay
theorem uV (t:TypeId)(x y:Value):Op.equal t x y=Op.equalIn (9999+1) t x y:=rfl
theorem Ar {t:TypeId}{a b:Bool}(d:Nat)(bL:P.underlying t=some .bool):(Op.equalIn (d+1) t (.bool a) (.bool b)).run P w = .ok (a == b) w:=by
 unfold Op.equalIn;simp [run_underlying bL]
theorem AL {t e:TypeId}(d:Nat)(bL:P.underlying t=some (.pointer e)):(Op.equalIn (d+1) t (.pointer none) (.pointer none)).run P w = .ok true w:=by
 unfold Op.equalIn;simp [run_underlying bL]
theorem AM {t e:TypeId}{a:Addr}(d:Nat)(bL:P.underlying t=some (.pointer e)):(Op.equalIn (d+1) t (.pointer (some a)) (.pointer none)).run P w = .ok false w:=by
 unfold Op.equalIn;simp [run_underlying bL]
theorem AN {t e:TypeId}{a:Addr}(d:Nat)(bL:P.underlying t=some (.pointer e)):(Op.equalIn (d+1) t (.pointer none) (.pointer (some a))).run P w = .ok false w:=by
 unfold Op.equalIn;simp [run_underlying bL]
theorem AO {t e:TypeId}(d:Nat)(bL:P.underlying t=some (.slice e)):(Op.equalIn (d+1) t (.slice none 0 0) (.slice none 0 0)).run P w = .ok true w:=by
 unfold Op.equalIn;simp [run_underlying bL]
theorem Pt {t e:TypeId}{a:Addr}{c:Nat}(d:Nat)(bL:P.underlying t=some (.slice e))(n:Nat):(Op.equalIn (d+1) t (.slice (some a) n c) (.slice none 0 0)).run P w = .ok false w:=by
 unfold Op.equalIn;simp [run_underlying bL]
theorem ym {t:TypeId}{x y:aD}{r:Bool}(ay:rP P t x y=some r)
 {ok:Nat→Prop} {a7:jn} {bj:jd} {ld lf:Value} (U:Rel w ok a7 bj x ld) (a1:Rel w ok a7 bj y lf) (p q:Operand) :
 ((do eqGuard .eql t p q ld lf;binOp .eql t ld lf):Sem Value).run P w = .ok (.bool r) w ∧
 ((do eqGuard .neq t p q ld lf;binOp .neq t ld lf):Sem Value).run P w = .ok (.bool !r) w:=by
 have key : ∀b:Bool,(∀op,eqGuard op t p q ld lf=pure ())→binOp .eql t ld lf=(do pure (.bool (← Op.equal t ld lf)))→binOp .neq t ld lf=(do pure (.bool (!(← Op.equal t ld lf)))) →
  (Op.equal t ld lf).run P w = .ok b w→((do eqGuard .eql t p q ld lf;binOp .eql t ld lf):Sem Value).run P w = .ok (.bool b) w ∧
  ((do eqGuard .neq t p q ld lf;binOp .neq t ld lf):Sem Value).run P w = .ok (.bool !b) w:=by
  intro b dB h1 o af
  constructor
  ·rw [dB,h1];simp [af]
  ·rw [dB,o];simp [af]
 unfold rP at ay
 split at ay
 ·rename_i cL l9 bL
  simp only [Option.some.injEq] at ay;subst ay
  have h3:=U.tw;have je:=a1.tw
  subst h3;subst je
  exact key _ (fun op=>eqGuard_at_bool ..) rfl rfl (by rw [uV];first|exact Ar _ bL|exact AL _ bL|exact AM _ bL|exact AN _ bL|exact AO _ bL)
 ·rename_i e bL
  simp only [Option.some.injEq] at ay;subst ay
  have h3:=U.u3;have je:=a1.u3
  subst h3;subst je
  exact key _ (fun op=>eqGuard_at_pointer ..) rfl rfl (by rw [uV];first|exact Ar _ bL|exact AL _ bL|exact AM _ bL|exact AN _ bL|exact AO _ bL)
 ·rename_i e sz es i off bL
  simp only [Option.some.injEq] at ay;subst ay
  obtain ⟨ec,cb,-,h3,-⟩:=U.yt
  have je:=a1.u3
  subst h3;subst je
  exact key _ (fun op=>eqGuard_at_pointer ..) rfl rfl (by rw [uV];first|exact Ar _ bL|exact AL _ bL|exact AM _ bL|exact AN _ bL|exact AO _ bL)
 ·rename_i e sz es i off bL
  simp only [Option.some.injEq] at ay;subst ay
  obtain ⟨ec,cb,-,je,-⟩:=a1.yt
  have h3:=U.u3
  subst h3;subst je
  exact key _ (fun op=>eqGuard_at_pointer ..) rfl rfl (by rw [uV];first|exact Ar _ bL|exact AL _ bL|exact AM _ bL|exact AN _ bL|exact AO _ bL)
 ·rename_i e bL
  simp only [Option.some.injEq] at ay;subst ay
  have h3:=U.px;have je:=a1.px
  subst h3;subst je
  exact key _ (fun op=>eqGuard_at_slice ..) rfl rfl (by rw [uV];first|exact Ar _ bL|exact AL _ bL|exact AM _ bL|exact AN _ bL|exact AO _ bL)
 ·rename_i e bL
  simp only [Option.some.injEq] at ay;subst ay
  obtain ⟨v5,c,h3⟩:=U.Eo
  have je:=a1.px
  subst h3;subst je
  exact key _ (fun op=>eqGuard_at_slice ..) rfl rfl (by rw [uV];exact Pt _ bL 0)
 ·simp at ay
theorem Rr {t e:TypeId}(bL:P.underlying t=some (.slice e)){sz:Nat}{es:List (List aD)}(c6:es≠[])
 {ok:Nat→Prop} {a7:jn} {bj:jd} {ld lf:Value} (U:Rel w ok a7 bj (.isl sz es) ld) (a1:Rel w ok a7 bj .ei lf) (p q:Operand) :
 ((do eqGuard .eql t p q ld lf;binOp .eql t ld lf):Sem Value).run P w = .ok (.bool false) w ∧
 ((do eqGuard .neq t p q ld lf;binOp .neq t ld lf):Sem Value).run P w = .ok (.bool true) w:=by
 rcases U.sl with ⟨h0,-⟩|⟨ec,off,c,-,h3,-⟩
 ·exact absurd h0 c6
 ·have je:=a1.px
  subst h3;subst je
  have af:(Op.equal t (.slice (some ⟨ec,off,none⟩) es.length c) (.slice none 0 0)).run P w = .ok false w:=by rw [uV];exact Pt _ bL _
  have dB : ∀op,eqGuard op t p q (.slice (some ⟨ec,off,none⟩) es.length c) (.slice none 0 0)=pure ():=fun op=>eqGuard_at_slice ..
  have h1:binOp .eql t (.slice (some ⟨ec,off,none⟩) es.length c) (.slice none 0 0)=(do pure (.bool (← Op.equal t (.slice (some ⟨ec,off,none⟩) es.length c) (.slice none 0 0)))):=rfl
  have o:binOp .neq t (.slice (some ⟨ec,off,none⟩) es.length c) (.slice none 0 0)=(do pure (.bool (!(← Op.equal t (.slice (some ⟨ec,off,none⟩) es.length c) (.slice none 0 0))))):=rfl
  constructor
  ·rw [dB,h1];simp [af]
  ·rw [dB,o];simp [af]
theorem abj {op:BinOp}{t dm:TypeId}{x y:Operand}(h:cO g s az a w)(ap:I.op = .binOp op t x y dm)(ay:e2 P s.E s.aX aW I cP=some bG)(cG:∀p∈bG.fF,p):Fin P g s a w I bG:=by
 simp only [e2,ap] at ay
 have U:=h.eval x
 have a1:=h.eval y
 split at ay
 ·rename_i v ao aU
  simp only [Option.some.injEq] at ay
  subst ay
  obtain ⟨u,h1,o⟩:=aaz (P:=P) (t:=t) aU cG U a1 x y
  refine iJ (v:=u) h ?_ rfl o
  simp only [execOp,ap]
  rw [Sem.run_bind,h1];rfl
 ·split at ay
  ·cases he:rP P t (fp s.E x) (fp s.E y) with
   | none=>simp [he] at ay
   | some r =>
    simp [he] at ay;subst ay
    refine iJ (v:= .bool r) h ?_ rfl (.b r)
    simp only [execOp,ap]
    rw [Sem.run_bind,(ym (w:=w) he U a1 x y).1];rfl
  ·cases he:rP P t (fp s.E x) (fp s.E y) with
   | none=>simp [he] at ay
   | some r =>
    simp [he] at ay;subst ay
    refine iJ (v:= .bool !r) h ?_ rfl (.b _)
    simp only [execOp,ap]
    rw [Sem.run_bind,(ym (w:=w) he U a1 x y).2];rfl
  ·simp at ay
theorem ace {op:UnOp}{t:TypeId}{x:Operand}(h:cO g s az a w)(ap:I.op = .unOp op t x)(ay:e2 P s.E s.aX aW I cP=some bG):Fin P g s a w I bG:=by
 simp only [e2,ap] at ay
 have U:=h.eval x
 cases he:Mf op (fp s.E x) with
 | none=>simp [he] at ay
 | some v =>
  simp [he] at ay;subst ay
  unfold Mf at he
  split at he
  ·rename_i k n gU
   rw [gU] at U
   simp only [Option.some.injEq] at he;subst he
   refine iJ (v:= .int k (k.wrap (0-n))) h ?_ rfl (.n _ _)
   simp [execOp,ap,U.pi,Op.unary,Op.intArith]
  ·rename_i b gU
   rw [gU] at U
   simp only [Option.some.injEq] at he;subst he
   refine iJ (v:= .bool !b) h ?_ rfl (.b _)
   simp [execOp,ap,U.tw,Op.unary]
  ·simp at he
theorem ZV {t dm:TypeId}{x:Operand}(h:cO g s az a w)(ap:I.op = .convert t dm x)(ay:e2 P s.E s.aX aW I cP=some bG):Fin P g s a w I bG:=by
 simp only [e2,ap] at ay
 have U:=h.eval x
 split at ay
 ·rename_i k dx n bL gU
  rw [gU] at U
  split at ay
  case isFalse=>simp at ay
  rename_i b6
  simp only [Option.some.injEq] at ay
  subst ay
  refine iJ (v:= .int k (k.wrap n)) h ?_ rfl (.n _ _)
  cases SD:P.underlying t with
  | none=>simp [SD] at b6
  | some d=>simp [execOp,ap,U.pi,convert,run_underlying bL,run_underlying SD,Conv.intToInt]
 ·rename_i r k b0 len bL gU
  rw [gU] at U
  split at ay
  ·rename_i ao EQ br
   split at ay
   ·rename_i nE B4
    split at ay
    ·rename_i bh
     simp only [Option.some.injEq] at ay
     subst ay
     obtain ⟨e,b6,he⟩ : ∃e,P.underlying t=some (.slice e)∧P.underlying e=some (.int .u8):=by
      unfold pC at EQ
      split at EQ
      ·rename_i e b6;exact ⟨e,b6,EQ⟩
      ·simp at EQ
     have d4:s.ao r k=some ao:=br
     have fE:=h.obj r k ao d4
     have hzero : ∀(lg:Option Addr) (c:Nat),len=0→(convert t dm (.slice lg 0 c)).run P w = .ok (.string (rO nE)) w:=by
      intro lg c h0
      subst h0
      have:nE=[]:=by simpa [bytesOf] using B4
      subst this
      cases lg with
      | none=>rw [run_convert_bytes_string w t dm e none 0 c b6 he bL];simp [Conv.bytesToString,rO]
      | some lg =>
       rw [run_convert_bytes_string w t dm e (some lg) 0 c b6 he bL,run_bytesToString w lg 0 c [] (by
        have:=run_loadCells_list (P:=P) w lg [] (fun j v aG=>by simp at aG)
        simpa using this)]
       rfl
     rcases U.A3 (iK d4) with ⟨ak,rfl,rfl,hval⟩|⟨b,m,A,c,ak,hval,q9,sJ,hm⟩
     ·refine iJ (v:= .string (rO nE)) h ?_ rfl (.s _)
      simp [execOp,ap,hval,hzero none 0 rfl]
     ·refine iJ (v:= .string (rO nE)) h ?_ rfl (.s _)
      by_cases h0:len=0
      ·subst h0;simp [execOp,ap,hval,hzero A c rfl]
      ·rcases hm with hm|⟨hA,hm⟩
       ·omega
       ·subst hA
        rw [ak] at fE
        have iC:=fE.rd
        have yZ : ∀(es:List (List aD)) (nE:List Int),bytesOf es=some nE→es.length=nE.length∧ ∀(i:Nat) n,nE[i]? = some n→es[i]? = some [.n .u8 n]:=by
         intro es
         induction es with
         | nil=>intro nE h;simp [bytesOf] at h;subst h;exact ⟨rfl,fun i n aj=>by simp at aj⟩
         | cons x es ih =>
          intro nE h
          unfold bytesOf at h
          split at h
          ·simp at *
          ·rename_i lA ag1 y0
           simp only [List.cons.injEq] at y0
           obtain ⟨rfl,rfl⟩:=y0
           rw [Option.map_eq_some_iff] at h
           obtain ⟨eg,E1,rfl⟩:=h
           obtain ⟨e1,aE⟩:=ih eg E1
           refine ⟨by simp [e1],fun i n aj=> ?_⟩
           cases i with
           | zero=>simp at aj;subst aj;rfl
           | succ i=>simpa using aE i n (by simpa using aj)
          ·simp at h
        obtain ⟨e1,aE⟩:=yZ _ _ B4
        have hlen:nE.length=len:=by rw [← e1];simp;omega
        have adf:(loadCells ⟨b,b0*ao.sz,none⟩ len).run P w = .ok (nE.map (Value.int .u8)).toArray w:=by
         have:=run_loadCells_list (P:=P) w ⟨b,b0*ao.sz,none⟩ (nE.map (Value.int .u8)) (fun j v aG=>by
          rw [List.getElem?_map,Option.map_eq_some_iff] at aG
          obtain ⟨n,a4,rfl⟩:=aG
          have l4:=aE j n a4
          have vx:j<len:=by rw [← hlen];exact (List.getElem?_eq_some_iff.1 a4).1
          rw [List.getElem?_take_of_lt vx,List.getElem?_drop] at l4
          obtain ⟨v,v1,v2,v3⟩:=iC.2 ((b0+j)*ao.sz+0) (.n .u8 n) (by rw [AJ iC.1 l4 (by omega)];rfl)
          have bk:=v3.pi
          subst bk
          rw [rF,← v1,bh.2]
          congr 2
          omega)
         rw [List.length_map,hlen] at this
         exact this
        have o:=run_bytesToString w ⟨b,b0*ao.sz,none⟩ len c nE adf
        rw [← run_convert_bytes_string w t dm e _ len c b6 he bL] at o
        simp [execOp,ap,hval,o,rO]
    ·simp at ay
   ·simp at ay
  ·simp at ay
 ·simp at ay
theorem Zy {f:Fn}{CO cr:Array Operand}(h:cO g s az a w)(ap:I.op = .makeFunc f CO cr)(ay:e2 P s.E s.aX aW I cP=some bG):Fin P g s a w I bG:=by
 cases f with
 | func n =>
  simp only [e2,ap] at ay
  split at ay
  ·rename_i aeh
   simp only [Option.some.injEq] at ay;subst ay
   refine iJ (v:= .func (.func n) #[] (cr.map a.eval)) h ?_ rfl ?_
   ·have:CO = #[]:=by simpa using aeh
    subst this
    simp [execOp,ap,Instr.makeFunc]
   ·have:=Rel.fn (f:=n) (c:=cr.toList.map (fp s.E)) (w:=w) (ok:=s.ok g az w) (a7:=s.a7) (bj:=s.bj az) (cr.toList.map a.eval) (by simp) (by
     intro j x v U bk
     rw [List.getElem?_map,Option.map_eq_some_iff] at U bk
     obtain ⟨p,ak,rfl⟩:=U
     obtain ⟨q,bd,rfl⟩:=bk
     rw [ak] at bd;simp at bd;subst bd
     exact h.eval p)
    have e:(cr.toList.map a.eval).toArray=cr.map a.eval:=by apply Array.ext';rw [Array.toList_map]
    rw [e] at this
    exact this
  ·simp at ay
 | _=>simp [e2,ap] at ay
theorem ZW {i:Nat}{x:Operand}(h:cO g s az a w)(ap:I.op = .extract x i)(ay:e2 P s.E s.aX aW I cP=some bG):Fin P g s a w I bG:=by
 simp only [e2,ap] at ay
 have U:=h.eval x
 split at ay
 ·rename_i vs gU
  rw [gU] at U
  cases aj:vs[i]? with
  | none=>simp [aj] at ay
  | some v =>
   simp [aj] at ay;subst ay
   obtain ⟨a7,hval,aV,aq⟩:=U.yr
   have dU:i<a7.length:=by
    rcases Nat.lt_or_ge i vs.length with cK|cK
    ·omega
    ·rw [List.getElem?_eq_none cK] at aj;simp at aj
   have hu:a7[i]? = some a7[i]:=List.getElem?_eq_getElem dU
   refine iJ (v:=a7[i]) h ?_ rfl (aq i v _ aj hu)
   simp [execOp,ap,hval,Instr.extract,hu]
 ·simp at ay
end
end Go.VL
namespace Go.VL
set_option linter.unusedVariables false
set_option linter.unusedSimpArgs false
open Go
section
variable {P:Program} {g:G} {s:S} {az:fx} {a:Act} {w:World} {I:Oper} {cP:fI} {aW:Nat} {bG:il}
theorem rG {t e:TypeId}(h:pC P t=some e):P.underlying t=some (.slice e):=by
 unfold pC at h
 split at h
 ·rename_i ex he;simp at h;subst h;exact he
 ·simp at h
theorem Kv {t:TypeId}{kU:Array Field}(h:fieldsOf P t=some kU):P.underlying t=some (.struct kU):=by
 unfold fieldsOf at h
 split at h
 ·rename_i ex he;simp at h;subst h;exact he
 ·simp at h
theorem OZ : ∀(z c:List aD),(qS z c).length=z.length
 | x::z,y::c=>by simp [qS,OZ z c]
 | [],_=>by simp [qS]
 | _::_,[]=>by simp [qS]
theorem Zb (z:List aD)(cP:fI):(st z cP).length=z.length:=by
 unfold st
 split
 ·exact OZ z _
 ·rfl
theorem ZX (x y:aD){w:World}{ok:Nat→Prop}{a7:jn}{bj:jd}{v:Value}(h:Rel w ok a7 bj x v):Rel w ok a7 bj (Bd x y) v:=by
 unfold Bd
 split
 ·rw [h.px];exact .kf _ _ _ (fun _=>rfl)
 ·rw [h.u3];exact .pk _
 ·rw [h.px];exact .mW (.kf _ _ _ (fun _=>rfl))
 ·exact h
theorem PW : ∀(z c:List aD) (j:Nat) q,(qS z c)[j]? = some q→ ∃x,z[j]? = some x∧(q=x∨ ∃y,q=Bd x y)
 | x::z,y::c,0,q,h=>by simp [qS] at h;exact ⟨x,rfl,.inr ⟨y,h.symm⟩⟩
 | x::z,y::c,j+1,q,h=>by
  simp only [qS,List.getElem?_cons_succ] at h
  simpa using PW z c j q h
 | [],c,j,q,h=>by simp [qS] at h
 | x::z,[],j,q,h=>⟨q,by simpa [qS] using h,.inl rfl⟩
theorem abk (z:List aD)(cP:fI)(j:Nat)(q:aD)(h:(st z cP)[j]? = some q): ∃x,z[j]? = some x∧(q=x∨ ∃y,q=Bd x y):=by
 unfold st at h
 split at h
 ·exact PW z _ j q h
 ·exact ⟨q,h,.inl rfl⟩
theorem Zc {t:TypeId}{x y:Operand}(h:cO g s az a w)(e5:s.aX aW=none)(ap:I.op = .makeSlice t x y)(ay:e2 P s.E s.aX aW I cP=some bG)(cG:∀p∈bG.fF,p):Fin P g s a w I bG:=by
 simp only [e2,ap] at ay
 have U:=h.eval x
 have a1:=h.eval y
 split at ay
 ·rename_i e lh l kx c he adD adE
  rw [adD] at U;rw [adE] at a1
  split at ay
  ·rename_i i z aj cD
   obtain ⟨eM,eL,jP,lc,pW,Rs⟩:=AK cD
   rw [aj] at jP;simp at jP;subst jP
   simp only [Option.ite_none_right_eq_some,Option.some.injEq] at ay
   obtain ⟨fa,ay⟩:=ay
   subst ay
   have ny:=Zb z cP
   have kd : ∀(j:Nat) q,(st z cP)[j]? = some q→ ∃v,eL.cells[j]? = some v∧VL.kn v=true∧ ∀w ok a7 bj,Rel w ok a7 bj q v:=by
    intro j q bd
    obtain ⟨x,dP,nz⟩:=abk z cP j q bd
    obtain ⟨v,v1,v2,v3⟩:=Rs j x dP
    refine ⟨v,v1,v2,fun w ok a7 bj=> ?_⟩
    rcases nz with rfl|⟨y,rfl⟩
    ·exact v3 w ok a7 bj
    ·exact ZX x y (v3 w ok a7 bj)
   clear Rs
   have h0:0≤l:=cG _ (by simp)
   have h1:l≤c:=cG _ (by simp)
   have o:(i.bytes:Int)*c≤281474976710656:=cG _ (by simp)
   have af:c<9223372036854775808:=cG _ (by simp)
   have nA:z.length=eL.cells.size:=by rw [pW];simp
   have i7:=run_make (P:=P) w t e i eL (rG he) aj lc lh kx l c h0 h1 o (by omega)
   refine Ep (v:= .slice (some ⟨w.heap.size,0,none⟩) l.toNat c.toNat) (ao:=⟨z.length,List.replicate l.toNat (st z cP),.live⟩) (c:=madeCells eL.cells (c.toNat*i.size)) (eO:=e) h e5 rfl ?_ rfl ?_ ?_ ?_
   ·simp [execOp,ap,U.pi,a1.pi,i7]
   ·intro ex l2;rw [List.eq_of_mem_replicate l2];exact ny
   ·intro j q bd
    have aV : ∀ex∈List.replicate l.toNat (st z cP),ex.length=z.length:=fun ex l2=>by rw [List.eq_of_mem_replicate l2];exact ny
    rcases Nat.eq_zero_or_pos z.length with ra|E2
    ·have:st z cP=[]:=List.length_eq_zero_iff.1 (by omega)
     rw [this] at bd
     simp at bd
    ·rw [pf E2 _ aV,List.getElem?_replicate] at bd
     by_cases aG:j / z.length<l.toNat
     ·rw [if_pos aG] at bd
      simp only [Option.bind_some] at bd
      obtain ⟨v,e1,aE,bP⟩:=kd _ _ bd
      refine ⟨v,?_,aE,bP _ _ _ _⟩
      have dU:j<c.toNat*i.size:=by
       rw [← fa]
       have:j<l.toNat*z.length:=(Nat.div_lt_iff_lt_mul E2).1 aG
       exact Nat.lt_of_lt_of_le this (Nat.mul_le_mul_right _ (by omega))
      simp only [madeCells]
      rw [Array.getElem?_map,Array.getElem?_range]
      simp only [dU,if_true,Option.map_some]
      rw [nA] at e1
      have hm:j % eL.cells.size<eL.cells.size:=Nat.mod_lt _ (by omega)
      rw [Array.getElem?_eq_getElem hm] at e1
      rw [getElem!_pos eL.cells _ hm];exact e1
     ·rw [if_neg aG] at bd;simp at bd
   ·intro bS k1 m1 ml hu cm
    refine Rel.bf hu cm (by omega) (by omega) ⟨?_,.inr (by simp)⟩
    rw [size_madeCells]
    simp only [Nat.zero_add,fa]
  ·simp at ay
 ·simp at ay
theorem Zd {t:TypeId}{x:Operand}{f:Nat}(h:cO g s az a w)(ap:I.op = .fieldAddr t x f)(ay:e2 P s.E s.aX aW I cP=some bG)(cG:∀p∈bG.fF,p):Fin P g s a w I bG:=by
 simp only [e2,ap] at ay
 have U:=h.eval x
 split at ay
 ·rename_i kU B5
  split at ay
  ·rename_i fd tJ
   split at ay
   ·simp at ay
   ·rename_i SE
    have aj:(P.info? fd.type).isSome=true:=by
     cases aj:P.info? fd.type with
     | none=>simp [Program.cellsOf,aj] at SE
     | some i=>rfl
    have i7 : ∀A:Addr,A.spot=none→(Instr.fieldAt t (.pointer (some A)) f).run P w = .ok (.pointer (some ⟨A.block,A.off+fd.offset,none⟩)) w:=by
     intro A hA
     have e:A.add fd.offset=⟨A.block,A.off+fd.offset,none⟩:=by
      obtain ⟨b,I,sp⟩:=A
      simp only at hA;subst hA
      exact rF b I _
     simp [Instr.fieldAt,run_underlying (Kv B5),tJ,Instr.sureAddr,fieldPlace,uM aj,SE,e]
    split at ay
    ·rename_i r k i off gU
     rw [gU] at U
     split at ay
     ·rename_i ao b8 br
      split at ay
      ·rename_i c aT ny
       simp only [Option.some.injEq] at ay;subst ay
       have kp:s.ao r k=some ao:=tp br fun p ak=>cG p (by simp [ak])
       have q4:=AR ny fun p ak=>cG p (by simp [ak])
       have fE:=h.obj r k ao kp
       rcases U.ys (iK kp) with h0|⟨b,m,ak,hval⟩
       ·rw [h0] at fE;simp only [jy] at fE;rw [fE] at q4;simp at q4
       ·refine iJ (v:= .pointer (some ⟨b,i*ao.sz+(off+fd.offset),none⟩)) h ?_ rfl ?_
        ·simp [execOp,ap,hval,i7,Nat.add_assoc]
        ·exact U.aay ((iK kp).trans (by rw [ak])) _
      ·simp at ay
     ·simp at ay
    ·rename_i sz es i off gU
     rw [gU] at U
     simp only [Option.some.injEq] at ay;subst ay
     obtain ⟨ec,cb,aU,hval,iC⟩:=U.yt
     refine iJ (v:= .pointer (some ⟨ec,cb+(i*sz+(off+fd.offset)),none⟩)) h ?_ rfl (iC.ej aU)
     simp [execOp,ap,hval,i7,Nat.add_assoc]
    ·simp at ay
  ·simp at ay
 ·simp at ay
theorem Ze {t:TypeId}{x y:Operand}(h:cO g s az a w)(ap:I.op = .indexAddr t x y)(ay:e2 P s.E s.aX aW I cP=some bG)(cG:∀p∈bG.fF,p):Fin P g s a w I bG:=by
 simp only [e2,ap] at ay
 have U:=h.eval x
 have a1:=h.eval y
 split at ay
 ·rename_i e k j he gU
  rw [gU] at a1
  have hu:=rG he
  have i7 : ∀(b I len cap:Nat),0≤j→j<len→(P.info? e).isSome=true →
   (Instr.indexAt t (.slice (some ⟨b,I,none⟩) len cap) (.int k j)).run P w = .ok (.pointer (some ⟨b,I+j.toNat*P.cellsOf e,none⟩)) w:=by
   intro b I len cap h0 h1 aj
   have ex:=rF b I (j.toNat*P.cellsOf e)
   simp [Instr.indexAt,asIntOf,run_underlying hu,h0,h1,uM aj,ex]
  have vk : ∀sz,sz=P.cellsOf e→sz≠0→(P.info? e).isSome=true:=by
   intro sz b6 cD
   cases aj:P.info? e with
   | none=>simp [Program.cellsOf,aj] at b6;exact absurd b6 cD
   | some i=>rfl
  split at ay
  ·rename_i sz es BF
   rw [BF] at U
   simp only [Option.ite_none_right_eq_some,Option.some.injEq] at ay
   obtain ⟨⟨b6,cD⟩,ay⟩:=ay
   subst ay
   have h0:0≤j:=cG _ (by simp)
   have h1:j<es.length:=cG _ (by simp)
   rcases U.sl with ⟨B6,-⟩|⟨ec,off,c,aU,hval,bh,iC⟩
   ·subst B6;simp at h1;omega
   ·refine iJ (v:= .pointer (some ⟨ec,off+(j.toNat*sz+0),none⟩)) h ?_ rfl (iC.ej aU)
    simp [execOp,ap,hval,a1.pi,i7 _ _ _ _ h0 h1 (vk sz b6 cD),b6]
  ·rename_i r q b0 len BF
   rw [BF] at U
   split at ay
   ·rename_i row dG
    split at ay
    ·rename_i ao b8 br
     simp only [Option.ite_none_right_eq_some,Option.some.injEq] at ay
     obtain ⟨⟨b6,cD⟩,ay⟩:=ay
     subst ay
     have kp:s.ao r q=some ao:=by
      unfold S.ao;rw [dG];exact tp br fun p ak=>cG p (by simp [ak])
     have h0:0≤j:=cG _ (by simp)
     have h1:j<len:=cG _ (by simp)
     rcases U.A3 (iK kp) with ⟨-,-,o,-⟩|⟨b,m,A,c,ak,hval,aV,-,hm⟩
     ·subst o;simp at h1;omega
     ·rcases hm with hm|⟨hA,hm⟩
      ·omega
      ·subst hA
       have jC:=Ed kp
       refine iJ (v:= .pointer (some ⟨b,(b0+j.toNat)*ao.sz+0,none⟩)) h ?_ rfl (.ref jC ((iK kp).trans (by rw [ak])))
       simp [execOp,ap,hval,a1.pi,i7 _ _ _ _ h0 h1 (vk _ b6 cD),b6,Nat.add_mul]
    ·simp at ay
   ·simp at ay
  ·simp at ay
 ·simp at ay
theorem abl {t:TypeId}{x y:Operand}(h:cO g s az a w)(ap:I.op = .index t x y)(ay:e2 P s.E s.aX aW I cP=some bG)(cG:∀p∈bG.fF,p):Fin P g s a w I bG:=by
 simp only [e2,ap] at ay
 have U:=h.eval x
 have a1:=h.eval y
 split at ay
 ·rename_i b k j hu BF adF
  rw [BF] at U;rw [adF] at a1
  simp only [Option.some.injEq] at ay;subst ay
  have h0:0≤j:=cG _ (by simp)
  have h1:j<b.size:=cG _ (by simp)
  have o:j.toNat<b.size:=by omega
  refine iJ (v:= .int .u8 (b[j.toNat]).toNat) h ?_ rfl ?_
  ·simp [execOp,ap,U.yJ,a1.pi,Instr.index,asIntOf,run_underlying hu,h0,o]
  ·have e:b.data.toList.getD j.toNat 0=b[j.toNat]:=by
    rw [List.getD_eq_getElem?_getD,Array.getElem?_toList,Array.getElem?_eq_getElem (by simpa using o)];rfl
   show Rel _ _ _ _ (.n .u8 _) _
   rw [e];exact .n _ _
 ·simp at ay
theorem acJ {c:Call}(h:cO g s az a w)(ap:I.op = .call c)(bh:c.callee = .builtin .len)(ay:e2 P s.E s.aX aW I cP=some bG)(cG:∀p∈bG.fF,p):Fin P g s a w I bG:=by
 obtain ⟨E3,args,m3⟩:=c
 simp only at bh;subst bh
 simp only [e2,ap] at ay
 have key : ∀(x:Operand) (n:Nat) (t:TypeId) (v:Value),args.toList=[x]→m3 = #[t]→bG.val = .n .i64 n→bG.fS=[]→a.eval x=v →
  (Builtin.len_ #[t] I.type #[v]).run P w = .ok (goInt n) w→Fin P g s a w I bG:=by
  intro x n t v hargs l5 aq hF bk i7
  subst l5
  refine iJ (v:=goInt n) h ?_ hF (by rw [aq];exact .n _ _)
  have bH:args = #[x]:=by apply Array.ext';simpa using hargs
  subst bH
  simp [execOp,ap,resolve,invoke,builtin,bk,i7]
 have hargs : ∀y,args.toList.map (fp s.E)=[y]→ ∃x,args.toList=[x]∧fp s.E x=y:=by
  intro y a1
  match aV:args.toList,a1 with
  | [x],a1=>simp at a1;exact ⟨x,rfl,a1⟩
 have ou:decide (m3.size=1)=true→ ∃t,m3 = #[t]∧m3.getD 0 0=t:=by
  intro fa
  have fa:m3.size=1:=by simpa using fa
  obtain ⟨l⟩:=m3
  match l,fa with
  | [t],_=>exact ⟨t,rfl,rfl⟩
 split at ay
 ·rename_i sz es e hm hu fa
  obtain ⟨x,U,gU⟩:=hargs _ hm
  obtain ⟨t,cm,nV⟩:=ou fa
  rw [nV] at hu
  simp only [Option.some.injEq] at ay
  have aq:=h.eval x
  rw [gU] at aq
  rcases aq.sl with ⟨B6,A,c,hval,hA⟩|⟨ec,off,c,aU,hval,-⟩
  ·exact key x es.length t _ U cm (by rw [← ay]) (by rw [← ay]) hval (by subst B6;simp [Builtin.len_,run_underlying hu])
  ·exact key x es.length t _ U cm (by rw [← ay]) (by rw [← ay]) hval (by simp [Builtin.len_,run_underlying hu])
 ·rename_i r k b0 len e hm hu fa
  obtain ⟨x,U,gU⟩:=hargs _ hm
  obtain ⟨t,cm,nV⟩:=ou fa
  rw [nV] at hu
  split at ay
  ·rename_i row dG
   split at ay
   ·rename_i ao b8 br
    simp only [Option.some.injEq] at ay
    have aq:=h.eval x
    rw [gU] at aq
    have kp:s.ao r k=some ao:=by
     unfold S.ao;rw [dG];exact tp br fun p ak=>cG p (by rw [← ay];exact ak)
    rcases aq.A3 (iK kp) with ⟨-,-,o,hval⟩|⟨b,m,A,c,ak,hval,-⟩
    ·exact key x len t _ U cm (by rw [← ay]) (by rw [← ay]) hval (by subst o;simp [Builtin.len_,run_underlying hu])
    ·exact key x len t _ U cm (by rw [← ay]) (by rw [← ay]) hval (by simp [Builtin.len_,run_underlying hu])
   ·simp at ay
  ·simp at ay
 ·rename_i e hm hu fa
  obtain ⟨x,U,gU⟩:=hargs _ hm
  obtain ⟨t,cm,nV⟩:=ou fa
  rw [nV] at hu
  simp only [Option.some.injEq] at ay
  have aq:=h.eval x
  rw [gU] at aq
  exact key x 0 t _ U cm (by rw [← ay];rfl) (by rw [← ay]) aq.px (by simp [Builtin.len_,run_underlying hu])
 ·rename_i b hm hu fa
  obtain ⟨x,U,gU⟩:=hargs _ hm
  obtain ⟨t,cm,nV⟩:=ou fa
  rw [nV] at hu
  simp only [Option.some.injEq] at ay
  have aq:=h.eval x
  rw [gU] at aq
  exact key x b.size t _ U cm (by rw [← ay]) (by rw [← ay]) aq.yJ (by simp [Builtin.len_,run_underlying hu])
 ·simp at ay
theorem DT {ok:Nat→Prop}{a7:jn}{bj:jd}{ec off sz:Nat}{es:List (List aD)}(h:oC w ok a7 bj ec off sz es)(l n:Nat)(aV:l≤es.length):
 oC w ok a7 bj ec (off+l*sz) sz ((es.drop l).take n):=by
 have qo : ∀e∈(es.drop l).take n,e.length=sz:=fun e he=>h.1 e (List.mem_of_mem_drop (List.mem_of_mem_take he))
 refine ⟨qo,fun j x U=> ?_⟩
 rcases Nat.eq_zero_or_pos sz with h0|b6
 ·have e1 : ∀(l:List (List aD)),(∀e∈l,e.length=0)→l.flatten=[]:=by
   intro l aV;induction l with
   | nil=>rfl
   | cons a l ih=>rw [List.flatten_cons,ih fun e he=>aV e (by simp [he])];have:=aV a (by simp);simp_all
  rw [e1 _ (fun e he=>(qo e he).trans h0)] at U;simp at U
 ·rw [pf b6 _ qo] at U
  have aG:j / sz<n:=by
   rcases Nat.lt_or_ge (j / sz) n with cK|cK
   ·exact cK
   ·rw [List.getElem?_eq_none (by simp;omega)] at U;simp at U
  rw [List.getElem?_take,if_pos aG,List.getElem?_drop] at U
  obtain ⟨v,e1,aE,bP⟩:=h.2 (l*sz+j) x (by
   rw [pf b6 es h.1]
   have gF:(l*sz+j) / sz=l+j / sz:=by rw [Nat.mul_comm,Nat.mul_add_div b6]
   have hI:(l*sz+j) % sz=j % sz:=by rw [Nat.mul_comm,Nat.mul_add_mod]
   rw [gF,hI];exact U)
  exact ⟨v,by rw [Nat.add_assoc];exact e1,aE,bP⟩
theorem DP {t e:TypeId}(hu:P.underlying t=some (.slice e))(aj:(P.info? e).isSome=true)(A:Option Addr)(len cap:Nat)(b0 jP:Option Value)(l h:Nat)
 (SF:(b0=none∧l=0)∨ ∃k,b0=some (.int k l)) (SG:(jP=none∧h=len)∨ ∃k,jP=some (.int k h)) (h1:l≤h) (o:h≤len) (af:len≤cap) :
 (Instr.sliceAt t (.slice A len cap) b0 jP none).run P w = .ok (.slice (if cap=l then A else A.map (·.add (l*P.cellsOf e))) (h-l) (cap-l)) w:=by
 have aU : ∀(k:IntKind) (n y:Nat) (code:BoundsCode),n≤y→(Instr.sliceBound (.int k n) y code).run P w = .ok n w:=by
  intro k n y code a4
  simp [Instr.sliceBound,asIntOf,a4]
 rcases SF with ⟨rfl,rfl⟩|⟨lh,rfl⟩<;>rcases SG with ⟨rfl,rfl⟩|⟨kx,rfl⟩ <;>
  simp [Instr.sliceAt,Instr.slice,run_underlying hu,Instr.sliceBounds,uM aj,aU,h1,o,af,Nat.le_trans o af]
theorem yA {x:Option Operand}(h:cO g s az a w){d n:Nat}{ao:List Prop}(aU:ar (x.map (fp s.E)) d=some (n,ao))(cG:∀p∈ao,p):
 (x.map a.eval=none∧n=d)∨ ∃k,x.map a.eval=some (.int k n):=by
 cases x with
 | none=>simp [ar] at aU;exact .inl ⟨rfl,aU.1.symm⟩
 | some x =>
  have U:=h.eval x
  simp only [Option.map_some] at aU ⊢
  unfold ar at aU
  split at aU
  ·rename_i he;simp at he
  ·rename_i _ k y he
   simp only [Option.some.injEq] at he
   rw [he] at U
   simp only [Option.some.injEq,Prod.mk.injEq] at aU
   obtain ⟨rfl,rfl⟩:=aU
   have h0:0≤y:=cG _ (by simp)
   refine .inr ⟨k,?_⟩
   rw [U.pi,Int.toNat_of_nonneg h0]
  ·simp at aU
theorem abm {t:TypeId}{x:Operand}{b0 aj:Option Operand}(h:cO g s az a w)(ap:I.op = .slice t x b0 aj none)(ay:e2 P s.E s.aX aW I cP=some bG)(cG:∀p∈bG.fF,p):Fin P g s a w I bG:=by
 simp only [e2,ap] at ay
 have U:=h.eval x
 have vk : ∀sz e,sz=P.cellsOf e→sz≠0→(P.info? e).isSome=true:=by
  intro sz e b6 cD
  cases aj:P.info? e with
  | none=>simp [Program.cellsOf,aj] at b6;exact absurd b6 cD
  | some i=>rfl
 split at ay
 ·rename_i e sz es hu gU
  rw [gU] at U
  split at ay
  ·rename_i l b8 n aT aV a4
   simp only [Option.ite_none_right_eq_some,Option.some.injEq] at ay
   obtain ⟨⟨b6,cD⟩,ay⟩:=ay
   subst ay
   have jo:=yA h aV fun p ak=>cG p (by simp [ak])
   have kJ:=yA h a4 fun p ak=>cG p (by simp [ak])
   have h1:l≤n:=cG _ (by simp)
   have o:n≤es.length:=cG _ (by simp)
   rcases U.sl with ⟨B6,A,c,hval,hA⟩|⟨ec,off,c,aU,hval,bh,iC⟩
   ·subst B6
    have B7:n=0:=by simpa using o
    subst B7
    have nB:l=0:=by omega
    subst nB
    refine iJ (v:= .slice (if c=0 then A else A.map (·.add (0*P.cellsOf e))) (0-0) (c-0)) h ?_ rfl ?_
    ·have:=DP (w:=w) hu (vk sz e b6 cD) A 0 c (b0.map a.eval) (aj.map a.eval) 0 0 jo kJ (Nat.le_refl _) (Nat.le_refl _) (Nat.zero_le _)
     simp only [execOp,ap,hval]
     simp only [Option.map_none,Sem.run_bind,this];rfl
    ·refine .kf sz _ _ fun a4=> ?_
     split at a4
     ·rename_i mF;omega
     ·have:=hA (by simpa using a4)
      omega
   ·have hlen:((es.drop l).take (n-l)).length=n-l:=by simp;omega
    refine iJ (v:= .slice (if c=l then some ⟨ec,off,none⟩ else (some (⟨ec,off,none⟩:Addr)).map (·.add (l*P.cellsOf e))) (n-l) (c-l)) h ?_ rfl ?_
    ·have:=DP (w:=w) hu (vk sz e b6 cD) (some ⟨ec,off,none⟩) es.length c (b0.map a.eval) (aj.map a.eval) l n jo kJ h1 o bh
     simp only [execOp,ap,hval]
     simp only [Option.map_none,Sem.run_bind,this];rfl
    ·by_cases iL:c=l
     ·have:n-l=0:=by omega
      rw [this]
      show Rel _ _ _ _ (.isl sz ((es.drop l).take 0)) _
      rw [List.take_zero]
      exact .kf sz _ _ (fun _=>by omega)
     ·rw [if_neg iL]
      simp only [Option.map_some,rF,← b6]
      have aq:=(DT iC l (n-l) (by omega)).isl (c:=c-l) ⟨aU.1,fun e he=>aU.2 e (List.mem_of_mem_drop (List.mem_of_mem_take he))⟩ (by rw [hlen];omega)
      rw [hlen] at aq
      exact aq
  ·simp at ay
 ·rename_i e r k TH len hu gU
  rw [gU] at U
  split at ay
  ·simp at ay
  ·rename_i row dG
   split at ay
   ·simp at ay
   ·rename_i ao TI br
    split at ay
    ·rename_i l b8 n aT aV a4
     simp only [Option.ite_none_right_eq_some,Option.some.injEq] at ay
     obtain ⟨⟨b6,cD⟩,ay⟩:=ay
     subst ay
     have kp:s.ao r k=some ao:=by
      unfold S.ao;rw [dG];exact tp br fun p ak=>cG p (by simp [ak])
     have jo:=yA h aV fun p ak=>cG p (by simp [ak])
     have kJ:=yA h a4 fun p ak=>cG p (by simp [ak])
     have h1:l≤n:=cG _ (by simp)
     have o:n≤len:=cG _ (by simp)
     have jC:=Ed kp
     rcases U.u4 (iK kp) with ⟨ak,rfl,rfl,hval⟩|⟨b,m,A,c,ak,hval,q9,sJ,mn,hm⟩
     ·have B7:n=0:=by omega
      subst B7
      have nB:l=0:=by omega
      subst nB
      refine iJ (v:= .slice none 0 0) h ?_ rfl (.nK jC ((iK kp).trans (by rw [ak])))
      have:=DP (w:=w) hu (vk _ e b6 cD) none 0 0 (b0.map a.eval) (aj.map a.eval) 0 0 jo kJ (Nat.le_refl _) (Nat.le_refl _) (Nat.le_refl _)
      simp only [execOp,ap,hval]
      simp only [Option.map_none,Sem.run_bind,this];rfl
     ·refine iJ (v:= .slice (if c=l then A else A.map (·.add (l*P.cellsOf e))) (n-l) (c-l)) h ?_ rfl ?_
      ·have:=DP (w:=w) hu (vk _ e b6 cD) A len c (b0.map a.eval) (aj.map a.eval) l n jo kJ h1 o q9
       simp only [execOp,ap,hval]
       simp only [Option.map_none,Sem.run_bind,this];rfl
      ·refine Rel.bf jC ((iK kp).trans (by rw [ak])) (by omega) (by omega) ?_
       refine ⟨by rw [← mn];congr 1;omega,?_⟩
       by_cases iL:c=l
       ·exact .inl (by omega)
       ·rcases hm with hm|hA
        ·exact .inl (by omega)
        ·refine .inr ?_
         rw [if_neg iL,hA]
         simp only [Option.map_some,rF,← b6,Nat.add_mul]
    ·simp at ay
 ·rename_i b hu gU
  rw [gU] at U
  split at ay
  ·rename_i l b8 n aT aV a4
   simp only [Option.some.injEq] at ay
   subst ay
   have jo:=yA h aV fun p ak=>cG p (by simp [ak])
   have kJ:=yA h a4 fun p ak=>cG p (by simp [ak])
   have h1:l≤n:=cG _ (by simp)
   have o:n≤b.size:=cG _ (by simp)
   refine iJ (v:= .string (b.extract l n)) h ?_ rfl (.s _)
   have aU : ∀(k:IntKind) (n y:Nat) (code:BoundsCode),n≤y→(Instr.sliceBound (.int k n) y code).run P w = .ok n w:=by
    intro k n y code a4
    simp [Instr.sliceBound,asIntOf,a4]
   simp only [execOp,ap,U.yJ,Option.map_none]
   rcases jo with ⟨e1,rfl⟩|⟨lh,e1⟩<;>rcases kJ with ⟨aE,rfl⟩|⟨kx,aE⟩<;>rw [e1,aE] <;>
    simp [Instr.sliceAt,Instr.slice,run_underlying hu,Instr.sliceBounds,aU,h1,o]
  ·simp at ay
 ·simp at ay
end
end Go.VL
namespace Go.VL
set_option linter.unusedVariables false
set_option linter.unusedSimpArgs false
open Go
section
variable {P:Program} {g:G} {s:S} {az:fx} {a:Act} {w:World} {I:Oper} {cP:fI} {aW:Nat} {bG:il}
theorem ZY {ok:Nat→Prop}{a7:jn}{bj:jd}{t:TypeId}{c:List aD}{off:Nat}{x:aD}{vs:List Value}(aV:vs.length=c.length)
 (kd : ∀(j:Nat) u,vs[j]? = some u→kn u=true) (aq : ∀(j:Nat) x u,c[j]? = some x→vs[j]? = some u→Rel w ok a7 bj x u)
 (cm:ss P t c off=some x) : ∃v,(part t vs.toArray off).run P w = .ok v w∧Rel w ok a7 bj x v:=by
 unfold ss at cm
 split at cm
 ·simp at cm
 ·rename_i aj
  simp only [Bool.not_eq_true',Bool.not_eq_false,Bool.and_eq_true] at aj
  simp only [part,Sem.run_bind,PU aj.1,Result.andThen]
  split at cm
  ·rename_i q3
   rw [q3]
   split at cm
   ·rename_i hle
    simp at cm;subst cm
    have e:(vs.toArray.extract off (off+P.cellsOf t))=((vs.drop off).take (P.cellsOf t)).toArray:=by
     apply Array.ext'
     simp [List.extract_eq_take_drop]
    refine ⟨.agg ((vs.drop off).take (P.cellsOf t)).toArray,by simp [uM aj.2],?_⟩
    refine .agg _ (by simp;omega) ?_ ?_
    ·intro j v bk
     rw [List.getElem?_take] at bk
     split at bk
     ·rw [List.getElem?_drop] at bk;exact kd _ _ bk
     ·simp at bk
    ·intro j y v a1 bk
     rw [List.getElem?_take] at bk a1
     split at bk
     ·rename_i aG
      rw [if_pos aG] at a1
      rw [List.getElem?_drop] at bk a1;exact aq _ _ _ a1 bk
     ·simp at bk
   ·simp at cm
  ·rename_i q3
   have q3:Bc P t=false:=by simpa using q3
   rw [q3]
   split at cm
   ·rename_i y a1
    split at cm
    ·simp at cm;subst cm
     have yR:off<vs.length:=by
      rcases Nat.lt_or_ge off c.length with h|h
      ·omega
      ·rw [List.getElem?_eq_none h] at a1;simp at a1
     exact ⟨vs[off],by simp [yR],aq off y _ a1 (List.getElem?_eq_getElem yR)⟩
    ·simp at cm
   ·simp at cm
theorem abn {t:TypeId}{x:Operand}{f:Nat}(h:cO g s az a w)(ap:I.op = .field t x f)(ay:e2 P s.E s.aX aW I cP=some bG):Fin P g s a w I bG:=by
 simp only [e2,ap] at ay
 have U:=h.eval x
 split at ay
 ·rename_i kU B5
  split at ay
  ·rename_i fd c tJ gU
   rw [gU] at U
   cases cm:ss P fd.type c fd.offset with
   | none=>simp [cm] at ay
   | some v =>
    simp [cm] at ay;subst ay
    obtain ⟨vs,hval,aV,bh,aq⟩:=U.A2
    obtain ⟨u,h1,o⟩:=ZY aV bh aq cm
    refine iJ (v:=u) h ?_ rfl o
    simp [execOp,ap,hval,Instr.field,run_underlying (Kv B5),tJ,asAgg,h1]
  ·simp at ay
 ·simp at ay
theorem aaA (off:Nat): ∀(vs:List Value) (n:Nat) (cs:Array Value) (j:Nat),off+n+vs.length≤cs.size →
 ((vs.zipIdx n).foldl (fun cs (x:Value×Nat)=>cs.setIfInBounds (off+x.2) x.1) cs)[j]? = if off+n≤j∧j<off+n+vs.length then vs[j-(off+n)]? else cs[j]? := by
 intro vs
 induction vs with
 | nil=>intro n cs j h;simp;intro h1 o;omega
 | cons v vs ih =>
  intro n cs j h
  simp only [List.length_cons] at h
  simp only [List.zipIdx_cons,List.foldl_cons]
  rw [ih (n+1) _ j (by simp;omega)]
  simp only [List.length_cons,Array.getElem?_setIfInBounds]
  by_cases h1:j=off+n
  ·subst h1
   rw [if_neg (by omega),if_pos rfl,if_pos (by omega),if_pos (by omega)]
   simp
  ·by_cases o:off+(n+1)≤j∧j<off+(n+1)+vs.length
   ·rw [if_pos o,if_pos (by omega)]
    rw [show j-(off+n)=(j-(off+(n+1)))+1 by omega];rfl
   ·rw [if_neg o,if_neg (fun e=>h1 e.symm),if_neg (by omega)]
theorem YB (off:Nat): ∀(vs:List (Value×Nat)) (cs:Array Value),(vs.foldl (fun cs (x:Value×Nat)=>cs.setIfInBounds (off+x.2) x.1) cs).size=cs.size:=by
 intro vs
 induction vs with
 | nil=>intro cs;rfl
 | cons v vs ih=>intro cs;simp only [List.foldl_cons];rw [ih];simp
def zt (w:World)(ok:Nat→Prop)(a7:jn)(bj:jd)(c:List aD)(cs:Array Value):Prop :=
 cs.size=c.length∧(∀(j:Nat) u,cs[j]? = some u→kn u=true)∧ ∀(j:Nat) x u,c[j]? = some x→cs[j]? = some u→Rel w ok a7 bj x u
theorem abo {ok:Nat→Prop}{a7:jn}{bj:jd}{c:List aD}{cs:Array Value}(h:zt w ok a7 bj c cs){x:aD}{v:Value}{off:Nat}(U:Rel w ok a7 bj x v)(bh:x.yj=true)
 (iz:off+x.cells.length≤c.length):v.cells.size=x.cells.length ∧
   zt w ok a7 bj (setCells c off x.cells) (v.cells.zipIdx.foldl (fun cs (y:Value×Nat)=>cs.setIfInBounds (off+y.2) y.1) cs):=by
 obtain ⟨vs,bk,aV,kd,aq⟩:=U.cellsOf (aD.Pc bh)
 have l5 : ∀j,(v.cells.zipIdx.foldl (fun cs (y:Value×Nat)=>cs.setIfInBounds (off+y.2) y.1) cs)[j]? = if off≤j∧j<off+vs.length then vs[j-off]? else cs[j]? := by
  intro j
  rw [bk]
  have:=aaA off vs 0 cs j (by rw [h.1];omega)
  simp only [Nat.add_zero] at this
  rw [← this,← Array.foldl_toList,Array.toList_zipIdx]
 refine ⟨by rw [bk];simpa using aV,?_,?_,?_⟩
 ·rw [OC iz,← h.1,← Array.foldl_toList,YB]
 ·intro j u hu
  rw [l5] at hu
  split at hu
  ·exact kd _ _ hu
  ·exact h.2.1 _ _ hu
 ·intro j y u a1 hu
  rw [l5] at hu
  rw [Ku iz] at a1
  by_cases l4:off≤j∧j<off+x.cells.length
  ·rw [if_pos l4] at a1
   rw [if_pos (by rw [aV];exact l4)] at hu
   exact aq _ _ _ a1 hu
  ·rw [if_neg l4] at a1
   rw [if_neg (by rw [aV];exact l4)] at hu
   exact h.2.2 _ _ _ a1 hu
theorem Pu {ok:Nat→Prop}{a7:jn}{bj:jd}(place:Nat→Option (Nat×Nat)): ∀(l:List (Nat×Nat×aD)) (j0:List (Nat×Value)) (c:List aD) (cs:Array Value) (dX:List aD),
 zt w ok a7 bj c cs→l.length=j0.length →
 (∀(j:Nat) off size x i v,l[j]? = some (off,size,x)→j0[j]? = some (i,v)→place i=some (off,size)∧Rel w ok a7 bj x v) →
 tv c l=some dX→ ∃m4,Instr.fill place cs j0=some m4∧zt w ok a7 bj dX m4:=by
 intro l
 induction l with
 | nil =>
  intro j0 c cs dX h aV _ ck
  have:j0=[]:=List.length_eq_zero_iff.1 (by simpa using aV.symm)
  subst this
  simp [tv] at ck;subst ck
  exact ⟨cs,rfl,h⟩
 | cons q l ih =>
  intro j0 c cs dX h aV ak ck
  obtain ⟨off,size,x⟩:=q
  match j0,aV with
  | (i,v)::j0,aV =>
   obtain ⟨aei,U⟩:=ak 0 off size x i v rfl rfl
   simp only [tv] at ck
   split at ck
   ·rename_i bh
    simp only [Bool.and_eq_true,decide_eq_true_eq] at bh
    obtain ⟨⟨h1,o⟩,af⟩:=bh
    obtain ⟨e1,aE⟩:=abo h U h1 (off:=off) (by omega)
    obtain ⟨m4,f1,f2⟩:=ih j0 _ _ dX aE (by simpa using aV) (fun j off size x i v a b=>ak (j+1) off size x i v a b) ck
    refine ⟨m4,?_,f2⟩
    rw [Instr.fill]
    simp only [aei]
    have jO : ¬(decide (v.cells.size≠size) || decide (off+v.cells.size>cs.size))=true:=by simp;rw [e1,h.1];omega
    rw [if_neg jO]
    exact f1
   ·simp at ck
theorem mapM_some {α β:Type}(f:α→β)(p:α→Option β): ∀(l:List α),(∀x∈l,p x=some (f x))→l.mapM p=some (l.map f)
 | [],_=>rfl
 | x::l,h=>by
  rw [List.mapM_cons,h x (by simp),mapM_some f p l fun y a1=>h y (by simp [a1])];rfl
theorem QW {α β:Type}(p:α→Option β): ∀(l:List α) (fB:List β),l.mapM p=some fB→fB.length=l.length∧ ∀(j:Nat) x y,l[j]? = some x→fB[j]? = some y→p x=some y
 | [],fB,h=>by simp at h;subst h;exact ⟨rfl,fun j x y U=>by simp at U⟩
 | a::l,fB,h=>by
  rw [List.mapM_cons] at h
  cases bH:p a with
  | none=>simp [bH] at h
  | some b =>
   cases aV:l.mapM p with
   | none=>simp [bH,aV] at h
   | some r =>
    simp [bH,aV] at h;subst h
    obtain ⟨h1,o⟩:=QW p l r aV
    refine ⟨by simp [h1],fun j x y U a1=> ?_⟩
    cases j with
    | zero=>simp at U a1;subst U;subst a1;exact bH
    | succ j=>simp at U a1;exact o j x y U a1
theorem QX {t:TypeId}{z:List aD}(cD:qG P t=some z): ∃i eL,P.info? t=some i∧i.zero=some eL∧eL.cells.size=z.length∧zt w (s.ok g az w) s.a7 (s.bj az) z eL.cells:=by
 obtain ⟨i,eL,aj,lc,pW,kd⟩:=AK cD
 have b6:eL.cells.size=z.length:=by rw [pW];simp
 refine ⟨i,eL,aj,lc,b6,b6,fun j u hu=> ?_,fun j x u U hu=> ?_⟩
 ·have aG:j<z.length:=by
   have:=(Array.getElem?_eq_some_iff.1 hu).1;omega
  obtain ⟨v,e1,aE,-⟩:=kd j z[j] (List.getElem?_eq_getElem aG)
  rw [hu] at e1;simp at e1;subst e1;exact aE
 ·obtain ⟨v,e1,-,bP⟩:=kd j x U
  rw [hu] at e1;simp at e1;subst e1;exact bP _ _ _ _
theorem abp {t:TypeId}{parts:Array (Nat×Operand)}(h:cO g s az a w)(ap:I.op = .build t parts)(ay:e2 P s.E s.aX aW I cP=some bG):Fin P g s a w I bG:=by
 simp only [e2,ap] at ay
 split at ay
 ·rename_i kU z B5 cD
  split at ay
  ·simp at ay
  ·rename_i nT
   have nT : ∀f∈kU.toList,(P.info? f.type).isSome=true:=by
    rw [Bool.not_eq_false] at nT
    exact List.all_eq_true.1 nT
   split at ay
   ·rename_i l aV
    cases ck:tv z l with
    | none=>simp [ck] at ay
    | some c =>
     simp [ck] at ay;subst ay
     obtain ⟨it,eL,B8,lc,fa,hcs⟩:=QX (w:=w) (s:=s) (g:=g) (az:=az) cD
     obtain ⟨nG,qB⟩:=QW _ _ _ aV
     have adG:kU.toList.mapM (fun f=>(P.info? f.type).map fun i=>(f.offset,i.size))=some (kU.toList.map fun f=>(f.offset,P.cellsOf f.type)):=by
      refine mapM_some (fun f:Field=>(f.offset,P.cellsOf f.type)) _ _ fun f ck=> ?_
      have:=nT f ck
      cases aj:P.info? f.type with
      | none=>simp [aj] at this
      | some i=>simp [Program.cellsOf,aj]
     obtain ⟨m4,f1,f2⟩:=Pu (w:=w) (ok:=s.ok g az w) (a7:=s.a7) (bj:=s.bj az) ((kU.toList.map fun f=>(f.offset,P.cellsOf f.type)).toArray[·]?) l (parts.map fun (i,x)=>(i,a.eval x)).toList z eL.cells c hcs (by simpa using nG) (by
      intro j off size x i v aG bk
      simp only [Array.toList_map,List.getElem?_map,Option.map_eq_some_iff] at bk
      obtain ⟨⟨eM,cL⟩,ak,bk⟩:=bk
      simp only [Prod.mk.injEq] at bk
      obtain ⟨rfl,rfl⟩:=bk
      have:=qB j _ _ ak aG
      simp only [Option.map_eq_some_iff,Prod.mk.injEq] at this
      obtain ⟨fd,h1,o,af,au⟩:=this
      subst o;subst af;subst au
      refine ⟨?_,h.eval cL⟩
      rw [List.getElem?_toArray,List.getElem?_map,Array.getElem?_toList,h1];rfl) ck
     have aU:P.built t (parts.map fun (i,x)=>(i,a.eval x)).toList=some m4:=by
      unfold Program.built
      simp only [B8,Kv B5,lc,adG]
      exact f1
     refine iJ (v:= .agg m4) h ?_ rfl ?_
     ·have:=run_build w t _ m4 aU
      simp [execOp,ap,this]
     ·have:=Rel.agg (w:=w) (ok:=s.ok g az w) (a7:=s.a7) (bj:=s.bj az) (c:=c) m4.toList (by simpa using f2.1) (fun j u hu=>f2.2.1 j u (by simpa using hu)) (fun j x u U hu=>f2.2.2 j x u U (by simpa using hu))
      simpa using this
   ·simp at ay
 ·simp at ay
theorem XM {sz:Nat}{es:List (List aD)}(aV:∀e∈es,e.length=sz){i:Nat}(aj:i<es.length){c:List aD}(bh:c.length=sz):
 setCells es.flatten (i*sz) c=(es.set i c).flatten:=by
 have hlen : ∀(es:List (List aD)),(∀e∈es,e.length=sz)→es.flatten.length=es.length*sz:=by
  intro es
  induction es with
  | nil=>simp
  | cons e es ih =>
   intro h
   rw [List.flatten_cons,List.length_append,ih fun x U=>h x (by simp [U]),h e (by simp),List.length_cons,Nat.add_mul];omega
 have iz:i*sz+c.length≤es.flatten.length:=by
  rw [hlen es aV,bh]
  have:=Nat.mul_le_mul_right sz (show i+1≤es.length by omega)
  rw [Nat.add_mul] at this;omega
 apply List.ext_getElem?
 intro j
 rw [Ku iz,Pd aV (List.getElem?_eq_getElem aj) bh,bh]
theorem Pv {sz:Nat}: ∀(l:List (Nat×aD)) (es gp:List (List aD)),(∀e∈es,e.length=sz)→yI sz es l=some gp →
 tv es.flatten (l.map fun p=>(p.1*sz,sz,p.2))=some gp.flatten∧(∀e∈gp,e.length=sz)∧gp.length=es.length
 | [],es,gp,aV,h=>by simp [yI] at h;subst h;exact ⟨rfl,aV,rfl⟩
 | (i,x)::l,es,gp,aV,h=>by
  simp only [yI] at h
  split at h
  ·rename_i bh
   simp only [Bool.and_eq_true,decide_eq_true_eq] at bh
   obtain ⟨⟨h1,o⟩,af⟩:=bh
   have Mg : ∀e∈es.set i x.cells,e.length=sz:=by
    intro e hm
    rcases List.mem_or_eq_of_mem_set hm with cK|cK
    ·exact aV e cK
    ·exact cK▸o
   obtain ⟨gF,hI,dt⟩:=Pv l (es.set i x.cells) gp Mg h
   have e:=XM aV af o
   have iz:i*sz+sz≤es.flatten.length:=by
    have:(setCells es.flatten (i*sz) x.cells).length=(es.set i x.cells).flatten.length:=by rw [e]
    have bd : ∀(es:List (List aD)),(∀e∈es,e.length=sz)→es.flatten.length=es.length*sz:=by
     intro es
     induction es with
     | nil=>simp
     | cons e es ih =>
      intro h
      rw [List.flatten_cons,List.length_append,ih fun x U=>h x (by simp [U]),h e (by simp),List.length_cons,Nat.add_mul];omega
    rw [bd es aV]
    have:=Nat.mul_le_mul_right sz (show i+1≤es.length by omega)
    rw [Nat.add_mul] at this;omega
   refine ⟨?_,hI,by simpa using dt⟩
   simp only [List.map_cons,tv,h1,o,iz,decide_true,Bool.and_self,if_true]
   rw [e];exact gF
  ·simp at h
theorem YT {t:TypeId}{len:Nat}{parts:Array (Nat×Operand)}(h:cO g s az a w)(e5:s.aX aW=none)(ap:I.op = .buildSlice t len parts)(ay:e2 P s.E s.aX aW I cP=some bG):Fin P g s a w I bG:=by
 simp only [e2,ap] at ay
 split at ay
 ·rename_i e he
  split at ay
  ·rename_i z cD
   split at ay
   ·simp at ay
   ·rename_i bh
    simp only [not_or,Nat.not_lt,Decidable.not_not] at bh
    obtain ⟨m5,y1,y2⟩:=bh
    split at ay
    ·rename_i es hE
     simp only [Option.some.injEq] at ay;subst ay
     obtain ⟨it,eL,B8,lc,fa,hcs⟩:=QX (w:=w) (s:=s) (g:=g) (az:=az) cD
     have kd:P.cellsOf e=it.size:=by simp [Program.cellsOf,B8]
     have Sh : ∀x∈List.replicate len z,x.length=z.length:=fun x U=>by rw [List.eq_of_mem_replicate U]
     obtain ⟨f1,f2,f3⟩:=Pv _ _ _ Sh hE
     have ra:zt w (s.ok g az w) s.a7 (s.bj az) (List.replicate len z).flatten ((Array.range (len*it.size)).map (eL.cells[· % eL.cells.size]!)):=by
      have E2:0<z.length:=by omega
      have l5 : ∀j,j<len*it.size→((Array.range (len*it.size)).map (eL.cells[· % eL.cells.size]!))[j]? = eL.cells[j % z.length]? := by
       intro j aG
       rw [Array.getElem?_map,Array.getElem?_range]
       simp only [aG,if_true,Option.map_some]
       have hm:j % eL.cells.size<eL.cells.size:=Nat.mod_lt _ (by omega)
       rw [getElem!_pos eL.cells _ hm,← fa,Array.getElem?_eq_getElem hm]
      have dU : ∀(j:Nat) u,((Array.range (len*it.size)).map (eL.cells[· % eL.cells.size]!))[j]? = some u→j<len*it.size:=by
       intro j u hu
       have:=(Array.getElem?_eq_some_iff.1 hu).1
       simpa using this
      refine ⟨by simp [← kd,← y1],fun j u hu=> ?_,fun j x u U hu=> ?_⟩
      ·have aG:=dU j u hu
       rw [l5 j aG] at hu
       exact hcs.2.1 _ _ hu
      ·have aG:=dU j u hu
       rw [l5 j aG] at hu
       rw [pf E2 _ Sh,List.getElem?_replicate] at U
       split at U
       ·exact hcs.2.2 _ _ _ U hu
       ·simp at U
     obtain ⟨m4,g1,g2⟩:=Pu (w:=w) (ok:=s.ok g az w) (a7:=s.a7) (bj:=s.bj az) (fun i=>some (i*it.size,it.size)) ((parts.toList.map fun p=>(p.1,fp s.E p.2)).map fun p=>(p.1*z.length,z.length,p.2)) (parts.map fun (i,x)=>(i,a.eval x)).toList _ _ es.flatten ra (by simp) (by
      intro j off size x i v aG bk
      simp only [Array.toList_map,List.getElem?_map,Option.map_eq_some_iff,List.map_map] at bk aG
      obtain ⟨⟨eM,cL⟩,ak,bk⟩:=bk
      obtain ⟨⟨ps,eb⟩,B2,aG⟩:=aG
      rw [ak] at B2
      simp only [Option.some.injEq,Prod.mk.injEq] at B2 bk
      obtain ⟨rfl,rfl⟩:=B2
      obtain ⟨rfl,rfl⟩:=bk
      simp only [Function.comp,Prod.mk.injEq] at aG
      obtain ⟨rfl,rfl,rfl⟩:=aG
      exact ⟨by rw [← kd,← y1],h.eval cL⟩) f1
     have i7:(Instr.buildSlice t len (parts.map fun (i,x)=>(i,a.eval x))).run P w = .ok (.slice (some ⟨w.heap.size,0,none⟩) len len) (w.alloc (.cells m4 e)):=by
      have h1 : ¬len*it.size>2 ^ 24:=by rw [← kd,← y1];omega
      by_cases h0:len*it.size=0
      ·have nB:len=0:=by
        rcases Nat.eq_zero_or_pos len with cK|cK
        ·exact cK
        ·have:0<len*it.size:=Nat.mul_pos cK (by omega)
         omega
       subst nB
       have e0:((Array.range (0*it.size)).map (eL.cells[· % eL.cells.size]!)) = #[]:=by simp
       rw [e0] at g1
       have ak:parts = #[]:=by
        obtain ⟨l⟩:=parts
        match l,hE with
        | [],_=>rfl
        | p::l,hE=>simp [yI] at hE
       subst ak
       have adH:m4 = #[]:=by simpa [Instr.fill] using g1.symm
       subst adH
       simp [Instr.buildSlice,run_underlying (rG he),sizeOf,typeInfo,B8,newRow,Instr.fill]
       rw [Array.range_zero',Array.map_empty]
      ·simp only [Instr.buildSlice,run_underlying (rG he),sizeOf,typeInfo,B8,newRow,zeroValue,lc,Sem.run_bind,Result.andThen_ok,run_program,Sem.run_pure,Sem.run_ite,h1,h0,if_false]
       rw [g1];rfl
     refine Ep (v:= .slice (some ⟨w.heap.size,0,none⟩) len len) (ao:=⟨z.length,es,.live⟩) (c:=m4) (eO:=e) h e5 rfl ?_ rfl f2 ?_ ?_
     ·simp [execOp,ap,i7]
     ·intro j x U
      have aG:j<m4.size:=by
       rw [g2.1]
       rcases Nat.lt_or_ge j es.flatten.length with cK|cK
       ·exact cK
       ·rw [List.getElem?_eq_none cK] at U;simp at U
      have hu:m4[j]? = some m4[j]:=Array.getElem?_eq_getElem aG
      exact ⟨_,hu,g2.2.1 _ _ hu,g2.2.2 _ _ _ U hu⟩
     ·intro bS k1 m1 ml hu cm
      refine Rel.bf hu cm (Nat.le_refl _) ?_ ⟨?_,.inr (by simp)⟩
      ·have:len≤len*z.length:=Nat.le_mul_of_pos_right _ (by omega)
       omega
      ·rw [g2.1]
       have bd : ∀(es:List (List aD)),(∀e∈es,e.length=z.length)→es.flatten.length=es.length*z.length:=by
        intro es
        induction es with
        | nil=>simp
        | cons e es ih =>
         intro h
         rw [List.flatten_cons,List.length_append,ih fun x U=>h x (by simp [U]),h e (by simp),List.length_cons,Nat.add_mul];omega
       rw [bd es f2,f3];simp
    ·simp at ay
  ·simp at ay
 ·simp at ay
theorem D5 (h:cO g s az a w)(e5:s.aX aW=none)(ay:e2 P s.E s.aX aW I cP=some bG)(cG:∀p∈bG.fF,p):Fin P g s a w I bG:=by
 cases ap:I.op with
 | move x=>exact QV h (.inl ap) ay
 | assign x=>exact QV h (.inr ap) ay
 | pick c x y=>exact acb h ap ay cG
 | alloc t=>exact abh h e5 ap ay
 | box t x=>exact acI h e5 ap ay
 | load t x=>exact acd h ap ay cG
 | store t x y=>exact abi h ap ay cG
 | nilCheck x=>exact Zx h ap ay cG
 | binOp op t x y dm=>exact abj h ap ay cG
 | unOp op t x=>exact ace h ap ay
 | convert t dm x=>exact ZV h ap ay
 | makeFunc f CO cr=>exact Zy h ap ay
 | makeSlice t x y=>exact Zc h e5 ap ay cG
 | fieldAddr t x f=>exact Zd h ap ay cG
 | field t x f=>exact abn h ap ay
 | indexAddr t x y=>exact Ze h ap ay cG
 | index t x y=>exact abl h ap ay cG
 | extract x i=>exact ZW h ap ay
 | slice t x b0 aj Nb =>
  cases Nb with
  | none=>exact abm h ap ay cG
  | some m=>simp [e2,ap] at ay
 | build t j0=>exact abp h ap ay
 | buildSlice t n j0=>exact YT h e5 ap ay
 | call c =>
  obtain ⟨E3,args,m3⟩:=c
  cases E3 with
  | builtin b=>cases b<;>first|exact acJ h ap rfl ay cG|simp [e2,ap] at ay
  | value f=>simp [e2,ap] at ay
  | invoke r m=>simp [e2,ap] at ay
 | _=>simp [e2,ap] at ay
end
end Go.VL
namespace Go.VL
set_option linter.unusedVariables false
set_option linter.unusedSimpArgs false
open Go
def acK:Option ae→fI
 | some I=> .gm I []
 | none=> .none
def qV (sz:Nat)(aX:Nat→Option (List ae))(a:fI):aD→Option (List (List aD)×List Prop)
 | .isl E4 es=>if E4=sz then some (es,[]) else none
 | .bf r k b0 len=>match o1 (aX r) k a with
  | some (ao,b8)=>if ao.sz=sz then some ((ao.es.drop b0).take len,b8++[b0+len≤ao.es.length]) else none
  | none=>none
 | .ei=>some ([],[])
 | .iB=>some ([],[])
 | _=>none
def vf (P:Program)(sz:Nat)(z:List aD)(aX:Nat→Option (List ae))(a:fI)(t dm:TypeId)(y:aD):Option (List (List aD)×List Prop) :=
 if t=dm then qV sz aX a y else
 match P.underlying dm,y with
 | some (.int _),.n .i64 n=>some (List.replicate n.toNat z,[0≤n,n<9223372036854775808])
 | _,_=>none
def nW (P:Program)(E:Nat→aD)(aX:Nat→Option (List ae))(aW:Nat)(b:Builtin)(args:List aD)(m3:List TypeId)(cP:fI):Option il :=
 match b,args,m3,cP with
 | .append,[x,y],[t,dm],.aH m I =>
  match pC P t with
  | none=>none
  | some e=>match P.info? e,qG P e with
   | some i,some z =>
    if z.length≠i.size∨i.size=0∨i.bytes=0 then none else
    match vf P i.size z aX (acK I) t dm y with
    | none=>none
    | some (bF,b8)=>match x with
     | .ei=>some {val:= .bf aW 0 0 m,fS:=[(aW,[⟨i.size,bF,.live⟩])],fF:=b8++[m=bF.length,m*i.bytes≤140737488355328]}
     | .bf r k 0 len=>match aX r with
      | none=>none
      | some row=>match dn (some row) k with
       | none=>none
       | some ao=>if ao.cv = .live∧ao.sz=i.size∧aW≠r then
        some {val:= .bf aW 0 0 m,fS:=[(aW,[⟨i.size,ao.es.take len++bF,.live⟩]),(r,row.set k {ao with cv:= .gone})],fF:=b8++[len≤ao.es.length,m=len+bF.length,m*i.bytes≤140737488355328]} else none
     | _=>none
   | _,_=>none
 | .append,[x,y],[t,dm],.fX =>
  match pC P t with
  | none=>none
  | some e=>match P.info? e,qG P e with
   | some i,some z =>
    if z.length≠i.size∨i.size=0∨i.bytes=0 then none else
    match vf P i.size z aX .none t dm y with
    | none=>none
    | some (bF,b8)=>match x with
     | .bf r k 0 len=>match aX r with
      | none=>none
      | some row=>match dn (some row) k with
       | none=>none
       | some ao=>if ao.cv = .live∧ao.sz=i.size then
        some {val:= .bf r k 0 (len+bF.length),fS:=[(r,row.set k {ao with es:=ao.es.take len++bF})],fF:=b8++[len+bF.length≤ao.es.length,bF.length*i.bytes≤140737488355328]} else none
     | _=>none
   | _,_=>none
 | .copy,[.bf r k 0 len,y],[t,_],_ =>
  match pC P t with
  | none=>none
  | some e=>match P.info? e with
   | none=>none
   | some i=>match qV i.size aX .none y with
    | none=>none
    | some (bF,b8)=>match aX r with
     | none=>none
     | some row=>match dn (some row) k with
      | none=>none
      | some ao=>if ao.cv = .live∧ao.sz=i.size∧i.size≠0 then
       some {val:= .n .i64 bF.length,fS:=[(r,row.set k {ao with es:=bF++ao.es.drop bF.length})],fF:=b8++[bF.length≤len,len≤ao.es.length]} else none
 | .clear,[.bf r k 0 len],[t],_ =>
  match pC P t with
  | none=>none
  | some e=>match P.info? e,qG P e with
   | some i,some z=>match aX r with
    | none=>none
    | some row=>match dn (some row) k with
     | none=>none
     | some ao=>if ao.cv = .live∧ao.sz=i.size∧z.length=i.size∧i.size≠0 then
      some {val:= .ea [],fS:=[(r,row.set k {ao with es:=List.replicate len z})],fF:=[ao.es.length=len]} else none
   | _,_=>none
 | .min,[.n k x,.n dx y],_,_=>if k=dx then some {val:= .n k (if y<x then y else x)} else none
 | _,_,_,_=>none
section
variable {g:G} {s:S} {az:fx} {a:Act} {w bS:World}
theorem cO.gone (h:cO g s az a w){r k:Nat}{l:List ae}{I:ae}(aq:s.aX r=some l)(ap:s.ao r k=some I):
 cO g (s.setRow r (l.set k {I with cv:= .gone})) az a w ∧
  ∀x v,Rel w (s.ok g az w) s.a7 (s.bj az) x v→Rel w ((s.setRow r (l.set k {I with cv:= .gone})).ok g az w) (s.setRow r (l.set k {I with cv:= .gone})).a7 ((s.setRow r (l.set k {I with cv:= .gone})).bj az) x v:=by
 have br : ∀q j p,(s.setRow r (l.set k {I with cv:= .gone})).ao q j=some p→s.ao q j=some p∧ ¬(q=r∧j=k):=by
  intro q j p ak
  rw [lG] at ak
  by_cases e:q=r
  ·subst e
   rw [if_pos rfl] at ak
   unfold dn at ak
   simp only [List.getElem?_set] at ak
   by_cases aE:k=j
   ·subst aE
    by_cases a9:k<l.length
    ·simp [a9] at ak
    ·simp [a9] at ak
   ·rw [if_neg aE] at ak
    refine ⟨?_,fun fW=>aE fW.2.symm⟩
    unfold S.ao;rw [aq];exact ak
  ·rw [if_neg e] at ak
   exact ⟨ak,fun fW=>e fW.1⟩
 have dH:Step g s az w (s.setRow r (l.set k {I with cv:= .gone})) az w:=by
  refine ⟨DS s aq (by simp),fun q j bd=> ?_,fun b aV=> ?_,fun _ _ _=>rfl,Nat.le_refl _⟩
  ·cases ak:(s.setRow r (l.set k {I with cv:= .gone})).ao q j with
   | none=>right;simp [S.bj,ak]
   | some p=>left;simp [S.bj,ak,(br q j p ak).1]
  ·obtain ⟨q,j,p,m,h1,o,af⟩:=aV
   exact .inl ⟨q,j,p,m,(br q j p h1).1,o,af⟩
 refine ⟨{toik:=⟨?_,?_,?_,h.gY,h.mlt,h.nw,dH.stay h.stay,h.low⟩,env:=fun t=>dH.rel (h.env t),defers:=h.defers,jW:=h.jW},fun x v=>dH.rel⟩
 ·intro q j p ak
  exact dH.obj (fun b m _=>rfl) (h.obj q j p (br q j p ak).1)
 ·intro q j p hO h2 ku b m bO h1 o af au
  exact h.inj q j p hO h2 ku b m bO (br q j p h1).1 (br hO h2 ku o).1 af au
 ·intro q j p b m h1 o
  exact h.own q j p b m (br q j p h1).1 o
theorem cO.QY (h:cO g s az a w){aW sz:Nat}(e5:s.aX aW=none):
 ∃bR,bR aW 0=none∧cO g (s.setRow aW [⟨sz,[],.live⟩]) bR a w:=by
 have br : ∀q k,q≠aW→(s.setRow aW [⟨sz,[],.live⟩]).ao q k=s.ao q k:=fun q k bd=>by rw [lG,if_neg bd]
 let bR:fx:=fun q k=>if q=aW then none else az q k
 have c6 : ∀q k,s.a7 q k→q≠aW:=by
  rintro q k bd rfl;exact xT e5 k bd
 have LS : ∀k I,(s.setRow aW [⟨sz,[],.live⟩]).ao aW k=some I→I=⟨sz,[],.live⟩:=by
  intro k I ap
  rw [lG,if_pos rfl,mc] at ap
  split at ap
  ·simp at ap;exact ap.symm
  ·simp at ap
 have dH:Step g s az w (s.setRow aW [⟨sz,[],.live⟩]) bR w:=by
  refine ⟨fun q k bd=>(nj _ _ _ _ _).2 (by rw [if_neg (c6 q k bd)];exact bd),fun q k bd=> .inl ?_,fun b aV=> ?_,fun _ _ _=>rfl,Nat.le_refl _⟩
  ·simp [S.bj,br q k (c6 q k bd),bR,c6 q k bd]
  ·obtain ⟨q,k,I,m,h1,o,af⟩:=aV
   by_cases e:q=aW
   ·subst e;simp [bR] at af
   ·rw [br q k e] at h1
    simp only [bR,if_neg e] at af
    exact .inl ⟨q,k,I,m,h1,o,af⟩
 refine ⟨bR,by simp [bR],{toik:=⟨?_,?_,?_,h.gY,h.mlt,h.nw,dH.stay h.stay,h.low⟩,env:=fun t=>dH.rel (h.env t),defers:=h.defers,jW:=h.jW}⟩
 ·intro q k I ap
  by_cases e:q=aW
  ·subst e
   rw [LS k I ap]
   simp [bR,jy]
  ·rw [br q k e] at ap
   have:=dH.obj (fun b m _=>rfl) (h.obj q k I ap)
   simpa [bR,e] using this
 ·intro q k I hO dx cb b m bO h1 o af au
  have e:q≠aW:=by rintro rfl;simp [bR] at af
  have ex:hO≠aW:=by rintro rfl;simp [bR] at au
  rw [br q k e] at h1
  rw [br hO dx ex] at o
  simp only [bR,if_neg e] at af
  simp only [bR,if_neg ex] at au
  exact h.inj q k I hO dx cb b m bO h1 o af au
 ·intro q k I b m h1 o
  have e:q≠aW:=by rintro rfl;simp [bR] at o
  rw [br q k e] at h1
  simp only [bR,if_neg e] at o
  exact h.own q k I b m h1 o
theorem cO.turn (h:cO g s az a w){r k b m aW:Nat}{l:List ae}{I:ae}(aq:s.aX r=some l)(ap:s.ao r k=some I)(a9:I.cv = .live)(ak:az r k=some (b,m))
 (e5:s.aX aW=none) (cb:ae) (m6:cb.cv = .live) (c:Array Value) (eO:TypeId)
 (hw:bS.heap[b]? = some (.cells c eO (0,0))) (fa:bS.heap.size=w.heap.size) (ve : ∀q,q≠b→bS.heap[q]? = w.heap[q]?)
 (qq:bS.os=w.os) (Me:bS.tape=w.tape) (LP:bS.output=w.output) (hm:c.size=m) (hlen : ∀e∈cb.es,e.length=cb.sz)
 (bh : ∀(j:Nat) x,cb.es.flatten[j]? = some x→ ∃v,c[j]? = some v∧kn v=true∧Rel w (s.ok g az w) s.a7 (s.bj az) x v) :
 ∃bR,bR aW 0=some (b,m)∧cO g ((s.setRow aW [cb]).setRow r (l.set k {I with cv:= .gone})) bR a bS:=by
 have c6:r≠aW:=by rintro rfl;rw [e5] at aq;simp at aq
 have Si : ∀k,¬s.a7 aW k:=xT e5
 let bV:=(s.setRow aW [cb]).setRow r (l.set k {I with cv:= .gone})
 let bR:fx:=az.set aW 0 (some (b,m))
 have br : ∀q j p,bV.ao q j=some p→(q=aW∧j=0∧p=cb)∨(q≠aW∧s.ao q j=some p∧ ¬(q=r∧j=k)):=by
  intro q j p bd
  rw [lG] at bd
  by_cases e:q=r
  ·subst e
   rw [if_pos rfl] at bd
   unfold dn at bd
   simp only [List.getElem?_set] at bd
   by_cases aE:k=j
   ·subst aE
    by_cases a9:k<l.length<;>simp [a9] at bd
   ·rw [if_neg aE] at bd
    refine .inr ⟨c6,?_,fun fW=>aE fW.2.symm⟩
    unfold S.ao;rw [aq];exact bd
  ·rw [if_neg e,lG] at bd
   by_cases aE:q=aW
   ·subst aE
    rw [if_pos rfl,mc] at bd
    split at bd
    ·rename_i h0;simp at bd;exact .inl ⟨rfl,h0.1,bd.symm⟩
    ·simp at bd
   ·rw [if_neg aE] at bd
    exact .inr ⟨aE,bd,fun fW=>e fW.1⟩
 have lP : ∀q j,q≠aW→bR q j=az q j:=fun q j bd=>by simp [bR,fx.set,bd]
 have y3:bR aW 0=some (b,m):=by simp [bR,fx.set]
 have pB:s.lX az b:=⟨r,k,I,m,ap,a9,ak⟩
 have jC : ∀q j,s.a7 q j→bV.a7 q j:=fun q j bd=>by
  have e:q≠aW:=fun e=>Si j (e▸bd)
  rw [nj,nj,if_neg e]
  by_cases aE:q=r
  ·subst aE;rw [if_pos rfl];simpa [S.a7,aq] using bd
  ·rw [if_neg aE];exact bd
 have dH:Step g s az w bV bR bS:=by
  refine ⟨jC,fun q j bd=> ?_,fun q aV=> ?_,fun q bd aV=>ve q fun e=>aV (e▸pB),Nat.le_of_eq fa.symm⟩
  ·have nz:q≠aW:=fun e=>Si j (e▸bd)
   cases kE:bV.ao q j with
   | none=>right;simp [S.bj,kE]
   | some p =>
    left
    rcases br q j p kE with ⟨e,-⟩|⟨-,aE,-⟩
    ·exact absurd e nz
    ·simp [S.bj,kE,aE,lP q j nz]
  ·obtain ⟨hO,j,p,bO,h1,o,af⟩:=aV
   rcases br hO j p h1 with ⟨rfl,rfl,rfl⟩|⟨e1,aE,-⟩
   ·rw [y3] at af;simp at af;exact .inl (af.1▸pB)
   ·rw [lP hO j e1] at af;exact .inl ⟨hO,j,p,bO,aE,o,af⟩
 refine ⟨bR,y3,{toik:=⟨?_,?_,?_,?_,h.mlt,h.nw,dH.stay h.stay,h.low⟩,env:=fun t=>dH.rel (h.env t),defers:=h.defers,jW:=h.jW}⟩
 ·intro q j p kE
  rcases br q j p kE with ⟨rfl,rfl,rfl⟩|⟨e1,aE,bP⟩
  ·rw [y3]
   exact ⟨c,eO,hw,hm,hlen,fun i x U=>let ⟨v,f1,f2,f3⟩:=bh i x U;⟨v,f1,f2,dH.rel f3⟩⟩
  ·rw [lP q j e1]
   refine dH.obj (fun kv bO lb=>ve kv ?_) (h.obj q j p aE)
   rintro rfl
   exact bP (h.inj q j p r k I kv bO m aE ap lb ak)
 ·intro q j p hO h2 ku kv iu ht h1 o af au
  rcases br q j p h1 with ⟨rfl,rfl,rfl⟩|⟨e1,aE,bP⟩<;>rcases br hO h2 ku o with ⟨rfl,rfl,rfl⟩|⟨m7,po,B9⟩
  ·exact ⟨rfl,rfl⟩
  ·rw [y3] at af;simp at af
   rw [lP hO h2 m7] at au
   obtain ⟨rfl,rfl⟩:=af
   exact absurd (h.inj hO h2 ku r k I b ht m po ap au ak) B9
  ·rw [y3] at au;simp at au
   rw [lP q j e1] at af
   obtain ⟨rfl,rfl⟩:=au
   exact absurd (h.inj q j p r k I b iu m aE ap af ak) bP
  ·rw [lP q j e1] at af;rw [lP hO h2 m7] at au
   exact h.inj q j p hO h2 ku kv iu ht aE po af au
 ·intro q j p kv bO h1 o
  rcases br q j p h1 with ⟨rfl,rfl,rfl⟩|⟨e1,aE,-⟩
  ·rw [y3] at o;simp at o
   rw [← o.1]
   exact h.own r k I b m ap ak
  ·rw [lP q j e1] at o;exact h.own q j p kv bO aE o
 ·refine h.gY.step qq Me LP (Nat.le_of_eq fa.symm) fun kv q8 lb=>ve kv ?_
  rintro rfl
  rcases h.own r k I kv m ap ak with h1|h1
  ·omega
  ·exact lb h1
theorem oC.nU {ok:Nat→Prop}{a7:jn}{bj:jd}{ec I sz:Nat}{es:List (List aD)}(h:oC w ok a7 bj ec I sz es):
 ∃vs:List Value,vs.length=es.length*sz∧(∀(j:Nat) u,vs[j]? = some u→w.cell? ((⟨ec,I,none⟩:Addr).add j)=some u)∧(∀u∈vs,u.oneCell'=true) ∧
  ∀(j:Nat) x u,es.flatten[j]? = some x→vs[j]? = some u→Rel w ok a7 bj x u:=by
 have jX:es.flatten.length=es.length*sz:=by
  have : ∀(es:List (List aD)),(∀e∈es,e.length=sz)→es.flatten.length=es.length*sz:=by
   intro es
   induction es with
   | nil=>intro _;simp
   | cons e es ih =>
    intro fW
    rw [List.flatten_cons,List.length_append,ih fun x U=>fW x (by simp [U]),fW e (by simp),List.length_cons,Nat.add_mul];omega
  exact this es h.1
 have U : ∀i,i<es.length*sz→ ∃v,∀x,es.flatten[i]? = some x→w.cell? ⟨ec,I+i,none⟩=some v∧kn v=true∧Rel w ok a7 bj x v:=by
  intro i aj
  have aG:=List.getElem?_eq_getElem (l:=es.flatten) (i:=i) (by omega)
  obtain ⟨v,h1⟩:=h.2 i _ aG
  exact ⟨v,fun x U=>by rw [aG] at U;simp at U;subst U;exact h1⟩
 let vs:List Value:=(List.range (es.length*sz)).map fun i=>if aj:i<es.length*sz then (U i aj).choose else undef
 have pJ:vs.length=es.length*sz:=by simp [vs]
 have l5 : ∀(i:Nat) u x,vs[i]? = some u→es.flatten[i]? = some x→w.cell? ⟨ec,I+i,none⟩=some u∧kn u=true∧Rel w ok a7 bj x u:=by
  intro i u x hu Ca
  have aj:i<es.length*sz:=by
   rcases Nat.lt_or_ge i vs.length with cK|cK
   ·omega
   ·rw [List.getElem?_eq_none cK] at hu;simp at hu
  simp only [vs,List.getElem?_map,List.getElem?_range aj,Option.map_some,dif_pos aj,Option.some.injEq] at hu
  subst hu
  exact (U i aj).choose_spec x Ca
 have hex : ∀(i:Nat) u,vs[i]? = some u→ ∃x,es.flatten[i]? = some x:=by
  intro i u hu
  have aj:i<es.flatten.length:=by
   rcases Nat.lt_or_ge i vs.length with cK|cK
   ·omega
   ·rw [List.getElem?_eq_none cK] at hu;simp at hu
  exact ⟨_,List.getElem?_eq_getElem aj⟩
 refine ⟨vs,pJ,fun j u hu=> ?_,fun u hu=> ?_,fun j x u dP hu=>(l5 j u x hu dP).2.2⟩
 ·obtain ⟨x,Ca⟩:=hex j u hu
  rw [rF];exact (l5 j u x hu Ca).1
 ·obtain ⟨j,aG⟩:=List.getElem?_of_mem hu
  obtain ⟨x,Ca⟩:=hex j u aG
  exact (l5 j u x aG Ca).2.1
theorem YC {es bF:List (List aD)}{sz:Nat}{xs news:List Value}(U:xs.length=es.length*sz)(he:∀e∈es,e.length=sz){j:Nat}{x:aD}(h:(es++bF).flatten[j]? = some x)
 {ok:Nat→Prop} {a7:jn} {bj:jd} (h1 : ∀(j:Nat) x u,es.flatten[j]? = some x→xs[j]? = some u→Rel w ok a7 bj x u) (o : ∀(j:Nat) x u,bF.flatten[j]? = some x→news[j]? = some u→Rel w ok a7 bj x u)
 {u:Value} (hu:(xs++news)[j]? = some u):Rel w ok a7 bj x u:=by
 have jX:es.flatten.length=es.length*sz:=by
  have : ∀(es:List (List aD)),(∀e∈es,e.length=sz)→es.flatten.length=es.length*sz:=by
   intro es
   induction es with
   | nil=>intro _;simp
   | cons e es ih =>
    intro fW
    rw [List.flatten_cons,List.length_append,ih fun x U=>fW x (by simp [U]),fW e (by simp),List.length_cons,Nat.add_mul];omega
  exact this es he
 rw [List.flatten_append,List.getElem?_append] at h
 rw [List.getElem?_append] at hu
 by_cases aG:j<es.flatten.length
 ·rw [if_pos aG] at h
  rw [if_pos (by omega)] at hu
  exact h1 j x u h hu
 ·rw [if_neg aG] at h
  rw [if_neg (by omega)] at hu
  rw [jX] at h
  rw [U] at hu
  exact o _ x u h hu
variable {P:Program}
theorem Qo (h:cO g s az a w){sz:Nat}{x:aD}{fC:fI}{bF:List (List aD)}{ao:List Prop}(he:qV sz s.aX fC x=some (bF,ao))(br:∀p∈ao,p){v:Value}(bk:Rel w (s.ok g az w) s.a7 (s.bj az) x v):
 ∃A c,v = .slice A bF.length c∧(∀e∈bF,e.length=sz)∧(bF.length=0∨ ∃ec off,A=some ⟨ec,off,none⟩∧oC w (s.ok g az w) s.a7 (s.bj az) ec off sz bF):=by
 cases x with
 | isl E4 es =>
  simp only [qV] at he
  split at he
  ·rename_i b6
   subst b6
   simp only [Option.some.injEq,Prod.mk.injEq] at he
   obtain ⟨rfl,rfl⟩:=he
   rcases bk.sl with ⟨rfl,A,c,rfl,-⟩|⟨ec,off,c,-,rfl,-,iC⟩
   ·exact ⟨A,c,rfl,by simp,.inl rfl⟩
   ·exact ⟨_,c,rfl,iC.1,.inr ⟨ec,off,rfl,iC⟩⟩
  ·simp at he
 | bf r k b0 len =>
  simp only [qV] at he
  split at he
  ·rename_i nC b8 kp
   split at he
   ·rename_i b6
    simp only [Option.some.injEq,Prod.mk.injEq] at he
    obtain ⟨rfl,rfl⟩:=he
    have iz:b0+len≤nC.es.length:=br _ (by simp)
    have ap:s.ao r k=some nC:=tp kp (fun p ak=>br p (by simp [ak]))
    have fE:=h.obj r k nC ap
    have aV:((nC.es.drop b0).take len).length=len:=by simp;omega
    rcases bk.A3 (iK ap) with ⟨-,rfl,rfl,rfl⟩|⟨b,m,A,c,ak,rfl,q9,-,hm⟩
    ·exact ⟨none,0,by simp,by simp,.inl (by simp)⟩
    ·rw [ak] at fE
     have iC:=fE.rd
     subst b6
     have vt:=DT iC b0 len (by omega)
     refine ⟨A,c,by rw [aV],vt.1,?_⟩
     rcases hm with rfl|⟨rfl,-⟩
     ·left;rw [aV];omega
     ·right
      rw [Nat.zero_add] at vt
      exact ⟨b,_,rfl,vt⟩
   ·simp at he
  ·simp at he
 | ei =>
  simp only [qV,Option.some.injEq,Prod.mk.injEq] at he
  obtain ⟨rfl,rfl⟩:=he
  rw [bk.px]
  exact ⟨none,0,rfl,by simp,.inl rfl⟩
 | iB =>
  simp only [qV,Option.some.injEq,Prod.mk.injEq] at he
  obtain ⟨rfl,rfl⟩:=he
  obtain ⟨A,c,rfl⟩:=bk.Eo
  exact ⟨some A,c,rfl,by simp,.inl rfl⟩
 | _=>simp [qV] at he
structure LU (P:Program) (w:World) (t dm eO e:TypeId) (i:TypeInfo) (eL nH:Value) (n:Nat) (vs:List Value):Prop where
 zero:n=0→ ∀(B:Option Addr) (len cap:Nat),len≤cap→(Builtin.append_ #[t,dm] eO #[.slice B len cap,nH]).run P w = .ok (.slice B len cap) w
 nil:0<n→(n:Int)≤9223372036854775807→n*i.bytes≤140737488355328 →
  (Builtin.append_ #[t,dm] eO #[.slice none 0 0,nH]).run P w = .ok (.slice (some ⟨w.heap.size,0,none⟩) n (grownCap w n 0 e)) (w.drew.alloc (.cells (vs.toArray++Builtin.zeroCells eL.cells (grownCap w n 0 e-n)) e))
 room:0<n→ ∀(g iZ l1:Nat) (lL:Array Value) (ex:TypeId),w.heap[g]? = some (.cells lL ex (0,0))→iZ+n≤l1→iZ*i.size+vs.length≤lL.size→n*i.bytes≤140737488355328 →
  (Builtin.append_ #[t,dm] eO #[.slice (some ⟨g,0,none⟩) iZ l1,nH]).run P w = .ok (.slice (some ⟨g,0,none⟩) (iZ+n) l1) (w.setRow g (lL.toList.take (iZ*i.size)++vs++lL.toList.drop (iZ*i.size+vs.length)).toArray)
 grow:0<n→ ∀(b:Addr) (iZ l1:Nat) (vu:List Value),vu.length=iZ*i.size→(∀(j:Nat) v,vu[j]? = some v→w.cell? (b.add j)=some v)→l1<iZ+n→((iZ+n:Nat):Int)≤9223372036854775807→Builtin.nextslicecap (iZ+n) l1*i.bytes≤281474976710656→n*i.bytes≤140737488355328 →
  (Builtin.append_ #[t,dm] eO #[.slice (some b) iZ l1,nH]).run P w = .ok (.slice (some ⟨w.heap.size,0,none⟩) (iZ+n) (grownCap w (iZ+n) l1 e))
    (w.drew.alloc (.cells (vu.toArray++vs.toArray++Builtin.zeroCells eL.cells (grownCap w (iZ+n) l1 e-(iZ+n))) e))
theorem XN (t eO e:TypeId)(i:TypeInfo)(cm:P.underlying t=some (.slice e))(aj:P.info? e=some i)
 (g iZ l1:Nat) (lL:Array Value) (ex:TypeId) (dB:w.heap[g]? = some (.cells lL ex (0,0)))
 (a:Addr) (m c:Nat) (news:List Value) (aV:news.length=m*i.size) (adg : ∀j u,news[j]? = some u→w.cell? (a.add j)=some u) (h1 : ∀u∈news,u.oneCell'=true)
 (su:iZ+m≤l1) (iz:iZ*i.size+news.length≤lL.size) :
 (Builtin.append_ #[t,t] eO #[.slice (some ⟨g,0,none⟩) iZ l1,.slice (some a) m c]).run P w =
   .ok (.slice (some ⟨g,0,none⟩) (iZ+m) l1) (w.setRow g (lL.toList.take (iZ*i.size)++news++lL.toList.drop (iZ*i.size+news.length)).toArray):=by
 have ck:=run_firstCells_some (P:=P) w i.size m a m c news aV adg
 have mm:=run_storeCells_at P g (iZ*i.size) ex news 0 lL w dB (by simpa using iz) h1
 simp only [Nat.add_zero] at mm
 simp [Builtin.append_,run_underlying cm,sizeOf,typeInfo,aj,Builtin.lenOf,su,ck,Addr.add_lit,mm]
theorem Pw {t eO e:TypeId}{i:TypeInfo}{eL:Value}(cm:P.underlying t=some (.slice e))(aj:P.info? e=some i)(cD:i.zero=some eL){A:Option Addr}{n c:Nat}{vs:List Value}(aV:vs.length=n*i.size)
 (hA:n=0∨ ∃a,A=some a∧ ∀(j:Nat) u,vs[j]? = some u→w.cell? (a.add j)=some u) (h1 : ∀u∈vs,u.oneCell'=true):LU P w t t eO e i eL (.slice A n c) n vs where
 zero:=fun h0 B len cap BG=>by
  subst h0
  cases A<;>cases B<;>simp [Builtin.append_,run_underlying cm,sizeOf,typeInfo,aj,Builtin.lenOf,BG,Builtin.firstCells,loadCells,loadCellsFrom,storeCells]
 nil:=fun h0 vy y4=>by
  obtain ⟨a,rfl,bH⟩:=hA.resolve_left (by omega)
  exact run_append_nil (P:=P) w t eO e i eL cm aj cD a n c vs aV bH h0 vy (by omega)
 room:=fun a4 g iZ l1 lL ex dB su iz _=>by
  obtain ⟨a,rfl,bH⟩:=hA.resolve_left (by omega)
  exact XN t eO e i cm aj g iZ l1 lL ex dB a n c vs aV bH h1 su iz
 grow:=fun a4 b iZ l1 vu ap hold dB vy iz _=>by
  obtain ⟨a,rfl,bH⟩:=hA.resolve_left (by omega)
  exact run_append_grow (P:=P) w t eO e i eL cm aj cD b iZ l1 vu ap hold a n c vs aV bH dB vy iz
theorem ZZ {t dm eO e:TypeId}{i:TypeInfo}{eL:Value}{k:IntKind}(cm:P.underlying t=some (.slice e))(nV:P.underlying dm=some (.int k))(aj:P.info? e=some i)(cD:i.zero=some eL)(lM:eL.cells.size=i.size){m:Nat}(agS:(m:Int)<9223372036854775808)
 (h1 : ∀u∈(Builtin.zeroCells eL.cells m).toList,u.oneCell'=true):LU P w t dm eO e i eL (.int .i64 m) m (Builtin.zeroCells eL.cells m).toList:=by
 have hw:IntKind.i64.wrap (m:Int)=m:=by simp [IntKind.wrap,IntKind.bits,IntKind.signed];omega
 have nu : ¬((m:Int)<0):=by omega
 have ra : ∀bO,bO*i.size=0→Builtin.zeroCells eL.cells bO = #[]:=fun bO hm=>by
  apply Array.eq_empty_of_size_eq_zero
  rw [size_zeroCells,lM,hm]
 have E5 : ∀bS:World,(if m*i.size=0 then (pure #[]:Sem (Array Value)) else do pure (Builtin.zeroCells (← zeroValue e).cells m)).run P bS = .ok (Builtin.zeroCells eL.cells m) bS:=fun bS=>by
  split
  ·rename_i hm;rw [ra _ hm];rfl
  ·simp [zeroValue,typeInfo,aj,cD]
 have LV : ∀b:Nat,m*b≤140737488355328→ ¬(281474976710656<(m:Int)*(b:Int)):=fun b aU=>by
  have:((m*b:Nat):Int)≤140737488355328:=by omega
  rw [Int.natCast_mul] at this
  omega
 refine ⟨fun a4 B len cap BG=> ?_,fun a4 vy y4=> ?_,fun a4 g iZ l1 lL ex dB su iz y4=> ?_,fun a4 b iZ l1 vu ap hold dB vy iz y4=> ?_⟩
 ·subst a4
  have Mi:IntKind.i64.wrap 0=0:=by simpa using hw
  cases B<;>simp [Builtin.append_,run_underlying cm,run_underlying nV,sizeOf,typeInfo,aj,BG,asInt,asIntOf,Mi,storeCells]
 ·have E6 : ¬m=0:=by omega
  have BH : ¬(9223372036854775807<(m:Int)):=by omega
  have tB:=LV _ y4
  have BI : ¬(281474976710656<Builtin.nextslicecap m 0*i.bytes):=by rw [nextslicecap_zero a4];omega
  have o:=E5 w.drew
  by_cases hm:m*i.size=0
  ·simp [Builtin.append_,run_underlying cm,run_underlying nV,sizeOf,typeInfo,zeroValue,aj,cD,asInt,asIntOf,hw,nu,tB,E6,BH,BI,Question.forced,run_firstCells_none,newRow,grownCap,hm,ra _ hm]
  ·simp [Builtin.append_,run_underlying cm,run_underlying nV,sizeOf,typeInfo,zeroValue,aj,cD,asInt,asIntOf,hw,nu,tB,E6,BH,BI,Question.forced,run_firstCells_none,newRow,grownCap,hm]
 ·have tB:=LV _ y4
  have mm:=run_storeCells_at P g (iZ*i.size) ex (Builtin.zeroCells eL.cells m).toList 0 lL w dB (by simpa using iz) h1
  simp only [Nat.add_zero] at mm
  by_cases hm:m*i.size=0
  ·rw [ra _ hm] at mm
   have adI:(storeCells ⟨g,iZ*i.size,none⟩ []).run P w = .ok () (w.setRow g lL):=by simpa using mm
   simp [Builtin.append_,run_underlying cm,run_underlying nV,sizeOf,typeInfo,zeroValue,aj,cD,asInt,asIntOf,hw,nu,tB,su,hm,ra _ hm,Addr.add_lit,adI]
  ·simp [Builtin.append_,run_underlying cm,run_underlying nV,sizeOf,typeInfo,zeroValue,aj,cD,asInt,asIntOf,hw,nu,tB,su,hm,Addr.add_lit,mm]
 ·have tB:=LV _ y4
  have qs : ¬(iZ+m≤l1):=by omega
  have BH : ¬(9223372036854775807<((iZ:Int)+(m:Int))):=by omega
  have BI : ¬(281474976710656<Builtin.nextslicecap (iZ+m) l1*i.bytes):=by omega
  have SH:=run_firstCells_some (P:=P) w.drew i.size iZ b iZ l1 vu ap (by simpa using hold)
  by_cases hm:m*i.size=0
  ·simp [Builtin.append_,run_underlying cm,run_underlying nV,sizeOf,typeInfo,zeroValue,aj,cD,asInt,asIntOf,hw,nu,tB,qs,BH,BI,Question.forced,SH,newRow,grownCap,hm,ra _ hm]
  ·simp [Builtin.append_,run_underlying cm,run_underlying nV,sizeOf,typeInfo,zeroValue,aj,cD,asInt,asIntOf,hw,nu,tB,qs,BH,BI,Question.forced,SH,newRow,grownCap,hm]
theorem JX {aW:Nat}{e:TypeId}{v:Value}{i:TypeInfo}{m:Nat}(h:cO g s az a w)(e5:s.aX aW=none){es:List (List aD)}(hlen:∀x∈es,x.length=i.size)(hm:m=es.length)
 {nU:List Value} {sY:Array Value} {cap:Nat} (pJ:nU.length=es.length*i.size) (l0 : ∀u∈nU,u.oneCell'=true) (aej:sY.size=(cap-m)*i.size) (BG:m≤cap) (adJ:cap<9223372036854775808)
 (fE : ∀(j:Nat) x u,es.flatten[j]? = some x→nU[j]? = some u→Rel w (s.ok g az w) s.a7 (s.bj az) x u)
 (bk:v = .slice (some ⟨w.heap.size,0,none⟩) m cap) :
 ∃bR,cO g (s.setRow aW [⟨i.size,es,.live⟩]) bR a (w.drew.alloc (.cells (nU.toArray++sY) e)) ∧
  Rel (w.drew.alloc (.cells (nU.toArray++sY) e)) ((s.setRow aW [⟨i.size,es,.live⟩]).ok g bR (w.drew.alloc (.cells (nU.toArray++sY) e))) (s.setRow aW [⟨i.size,es,.live⟩]).a7 ((s.setRow aW [⟨i.size,es,.live⟩]).bj bR) (.bf aW 0 0 m) v:=by
 have bL:=h.drew
 have jX:es.flatten.length=es.length*i.size:=by
  have : ∀(es:List (List aD)),(∀e∈es,e.length=i.size)→es.flatten.length=es.length*i.size:=by
   intro es
   induction es with
   | nil=>intro _;simp
   | cons e es ih =>
    intro fW
    rw [List.flatten_cons,List.length_append,ih fun x U=>fW x (by simp [U]),fW e (by simp),List.length_cons,Nat.add_mul];omega
  exact this es hlen
 obtain ⟨bR,p1,hz,-⟩:=bL.alloc e5 ⟨i.size,es,.live⟩ rfl (nU.toArray++sY) e hlen (fun j x U=>by
  have aG:j<nU.length:=by
   rcases Nat.lt_or_ge j es.flatten.length with cK|cK
   ·omega
   ·rw [List.getElem?_eq_none cK] at U;simp at U
  refine ⟨nU[j],?_,l0 _ (List.getElem_mem aG),?_⟩
  ·rw [Array.getElem?_append_left (by simpa using aG)]
   simp [aG]
  ·exact (fE j x _ U (List.getElem?_eq_getElem aG)).drew)
 refine ⟨bR,hz,?_⟩
 subst bk
 have ap:(s.setRow aW [⟨i.size,es,.live⟩]).ao aW 0=some ⟨i.size,es,.live⟩:=by rw [lG,if_pos rfl,mc];simp
 refine Rel.bf (sz:=i.size) (ec:=w.heap.size) (m:=(nU.toArray++sY).size) ((nj _ _ _ _ _).2 (by simp)) ?_ BG adJ ⟨?_,.inr (by simp)⟩
 ·rw [iK ap,p1];rfl
 ·simp only [Array.size_append,List.size_toArray,aej,pJ,Nat.zero_add]
  rw [← hm,← Nat.add_mul]
  congr 1;omega
section
variable {I:Oper} {cP:fI} {aW:Nat} {bG:il}
theorem PX (h:cO g s az a w){t dm eO e:TypeId}{i:TypeInfo}{z:List aD}(hu:P.underlying t=some (.slice e))(aj:P.info? e=some i)(cD:qG P e=some z)(nA:z.length=i.size)(kg:i.size≠0)
 {y:aD} {fC:fI} {bF:List (List aD)} {ao:List Prop} (he:vf P i.size z s.aX fC t dm y=some (bF,ao)) (br : ∀p∈ao,p) {nH:Value} (a1:Rel w (s.ok g az w) s.a7 (s.bj az) y nH) :
 ∃eL vs,i.zero=some eL∧eL.cells.size=i.size∧LU P w t dm eO e i eL nH bF.length vs∧(∀x∈bF,x.length=i.size)∧vs.length=bF.length*i.size∧(∀u∈vs,u.oneCell'=true) ∧
  ∀(j:Nat) x u,bF.flatten[j]? = some x→vs[j]? = some u→Rel w (s.ok g az w) s.a7 (s.bj az) x u:=by
 obtain ⟨eM,eL,jP,lc,pW,tK⟩:=AK cD
 rw [aj] at jP;simp at jP;subst jP
 have lM:eL.cells.size=i.size:=by rw [← nA,pW];simp
 unfold vf at he
 split at he
 ·rename_i aek
  subst aek
  obtain ⟨A,c,rfl,hlen,Mj⟩:=Qo h he br a1
  rcases Mj with h0|⟨ec,off,rfl,iC⟩
  ·have:bF=[]:=List.length_eq_zero_iff.1 h0
   subst this
   exact ⟨eL,[],lc,lM,Pw hu aj lc (by simp) (.inl rfl) (by simp),hlen,by simp,by simp,by simp⟩
  ·obtain ⟨vs,v1,v2,v3,v4⟩:=iC.nU
   exact ⟨eL,vs,lc,lM,Pw hu aj lc v1 (.inr ⟨_,rfl,v2⟩) v3,hlen,v1,v3,v4⟩
 ·split at he
  ·rename_i k n a9
   simp only [Option.some.injEq,Prod.mk.injEq] at he
   obtain ⟨rfl,rfl⟩:=he
   have h0:0≤n:=br _ (by simp)
   have vy:n<9223372036854775808:=br _ (by simp)
   obtain ⟨m,rfl⟩:=Int.eq_ofNat_of_zero_le h0
   have ael:nH = .int .i64 m:=by cases a1;rfl
   subst ael
   have l5 : ∀(j:Nat) u,(Builtin.zeroCells eL.cells m).toList[j]? = some u→eL.cells[j % i.size]? = some u:=by
    intro j u nX
    have aG:=(List.getElem?_eq_some_iff.1 nX).1
    rw [Array.length_toList,size_zeroCells,lM] at aG
    have dU:j % i.size<eL.cells.size:=by rw [lM];exact Nat.mod_lt _ (by omega)
    rw [Array.getElem?_toList,Builtin.zeroCells,Array.getElem?_map,lM,Array.getElem?_range] at nX
    rw [if_pos aG] at nX
    simp only [Option.map_some,Option.some.injEq] at nX
    rw [← nX,Array.getElem?_eq_getElem dU,getElem!_pos eL.cells _ dU]
   refine ⟨eL,(Builtin.zeroCells eL.cells m).toList,lc,lM,?_,?_,?_,?_,?_⟩
   ·simp only [List.length_replicate,Int.toNat_natCast]
    refine ZZ hu a9 aj lc lM (by omega) fun u rb=> ?_
    obtain ⟨j,aG⟩:=List.getElem?_of_mem rb
    have h1:=l5 j u aG
    have dU:j % i.size<z.length:=by rw [nA];exact Nat.mod_lt _ (by omega)
    obtain ⟨v,v1,v2,-⟩:=tK _ _ (List.getElem?_eq_getElem dU)
    rw [h1] at v1
    obtain rfl:=Option.some.inj v1
    exact v2
   ·intro x U
    rw [List.mem_replicate] at U
    rw [U.2,nA]
   ·rw [Array.length_toList,size_zeroCells,lM];simp
   ·intro u rb
    obtain ⟨j,aG⟩:=List.getElem?_of_mem rb
    have h1:=l5 j u aG
    have dU:j % i.size<z.length:=by rw [nA];exact Nat.mod_lt _ (by omega)
    obtain ⟨v,v1,v2,-⟩:=tK _ _ (List.getElem?_eq_getElem dU)
    rw [h1] at v1
    obtain rfl:=Option.some.inj v1
    exact v2
   ·intro j x u U nX
    rw [pf (sz:=i.size) (by omega) _ (fun ex l2=>by rw [List.mem_replicate] at l2;rw [l2.2,nA])] at U
    have h1:=l5 j u nX
    cases bd:(List.replicate (Int.toNat (m:Int)) z)[j / i.size]? with
    | none=>rw [bd] at U;simp at U
    | some ex =>
     have:=List.mem_of_getElem? bd
     rw [List.mem_replicate] at this
     rw [bd,this.2] at U
     simp only [Option.bind_some] at U
     obtain ⟨v,v1,-,v3⟩:=tK _ _ U
     rw [h1] at v1
     obtain rfl:=Option.some.inj v1
     exact v3 _ _ _ _
  ·simp at he
theorem Z0 (h:cO g s az a w)(e5:s.aX aW=none){x y:aD}{rp nH:Value}{t dm:TypeId}{m:Nat}{Nc:Option ae}{eO:TypeId}(ay:nW P s.E s.aX aW .append [x,y] [t,dm] (.aH m Nc)=some bG)(cG:∀p∈bG.fF,p)
 (U:Rel w (s.ok g az w) s.a7 (s.bj az) x rp) (a1:Rel w (s.ok g az w) s.a7 (s.bj az) y nH) :
 ∃v bS bR,(Builtin.append_ #[t,dm] eO #[rp,nH]).run P w = .ok v bS∧cO g (s.h9 bG.fS) bR a bS∧Rel bS ((s.h9 bG.fS).ok g bR bS) (s.h9 bG.fS).a7 ((s.h9 bG.fS).bj bR) bG.val v:=by
 simp only [nW] at ay
 split at ay
 ·simp at ay
 ·rename_i e he
  have hu:=rG he
  split at ay
  ·rename_i i z aj cD
   split at ay
   ·simp at ay
   ·rename_i bh
    simp only [not_or,Decidable.not_not] at bh
    obtain ⟨nA,kg,yZ⟩:=bh
    split at ay
    ·simp at ay
    ·rename_i bF b8 q5
     have E7:=fun ak=>PX (eO:=eO) h hu aj cD nA kg q5 ak a1
     by_cases acL:True
     ·
      split at ay
      ·
       simp only [Option.some.injEq] at ay
       subst ay
       have hm:m=bF.length:=cG _ (by simp)
       have Cb:m*i.bytes≤140737488355328:=cG _ (by simp)
       obtain ⟨eL,vs,lc,lM,hA,hlen,v1,v3,v4⟩:=E7 (fun p ak=>cG p (by simp [ak]))
       clear E7
       rw [U.px]
       by_cases h0:bF.length=0
       ·have:bF=[]:=List.length_eq_zero_iff.1 h0
        subst this
        obtain ⟨bR,p1,hz⟩:=h.QY (sz:=i.size) e5
        refine ⟨_,w,bR,hA.zero h0 none 0 0 (Nat.le_refl _),hz,?_⟩
        subst hm
        have ap:(s.setRow aW [⟨i.size,[],.live⟩]).ao aW 0=some ⟨i.size,[],.live⟩:=by rw [lG,if_pos rfl,mc];simp
        exact .nK (sz:=i.size) ((nj _ _ _ _ _).2 (by simp)) (by show (s.setRow aW [⟨i.size,[],.live⟩]).bj bR aW 0=_;rw [iK ap,p1])
       ··have tL:bF.length*1≤bF.length*i.bytes:=Nat.mul_le_mul_left _ (by omega)
         rw [hm] at Cb
         have i7:=hA.nil (by omega) (by omega) (by omega)
         have SI:=grownCap_ge w bF.length 0 e
         have hle:=grownCap_le_maxLen w bF.length 0 e (by simp only [maxLen];omega)
         simp only [maxLen] at hle
         obtain ⟨bR,q1,a6⟩:=JX (e:=e) (i:=i) (m:=m) (nU:=vs) (sY:=Builtin.zeroCells eL.cells (grownCap w bF.length 0 e-bF.length)) (cap:=grownCap w bF.length 0 e) h e5 hlen hm v1 v3
          (by rw [size_zeroCells,lM,hm]) (by omega) (by omega) v4 rfl
         refine ⟨.slice (some ⟨w.heap.size,0,none⟩) m (grownCap w bF.length 0 e),_,bR,?_,q1,a6⟩
         rw [hm];exact i7
      ·
       rename_i r k len
       split at ay
       ·simp at ay
       ·rename_i row dG
        split at ay
        ·simp at ay
        ·rename_i ao br
         split at ay
         ·rename_i vz
          obtain ⟨nY,fa,c6⟩:=vz
          simp only [Option.some.injEq] at ay
          subst ay
          have ap:s.ao r k=some ao:=by unfold S.ao;rw [dG];exact br
          have iz:len≤ao.es.length:=cG _ (by simp)
          have hm:m=len+bF.length:=cG _ (by simp)
          have Cb:m*i.bytes≤140737488355328:=cG _ (by simp)
          have tL:m*1≤m*i.bytes:=Nat.mul_le_mul_left _ (Nat.one_le_iff_ne_zero.2 yZ)
          obtain ⟨eL,vs,lc,lM,hA,hlen,v1,v3,v4⟩:=E7 (fun p ak=>cG p (by simp [ak]))
          clear E7
          have ag2:bF.length*i.bytes≤m*i.bytes:=Nat.mul_le_mul_right _ (by omega)
          have fE:=h.obj r k ao ap
          have Mk:(ao.es.take len).length=len:=by simp;omega
          have rL:(s.setRow aW [⟨i.size,ao.es.take len++bF,.live⟩]).aX r=some row:=by simp [S.setRow,Ne.symm c6,dG]
          have pK : ∀bR:fx,((s.setRow aW [⟨i.size,ao.es.take len++bF,.live⟩]).setRow r (row.set k {ao with cv:= .gone})).ao aW 0=some ⟨i.size,ao.es.take len++bF,.live⟩:=by
           intro _
           rw [lG,if_neg c6,lG,if_pos rfl,mc];simp
          have BJ:((s.setRow aW [⟨i.size,ao.es.take len++bF,.live⟩]).setRow r (row.set k {ao with cv:= .gone})).a7 aW 0:=by rw [nj,if_neg c6,nj,if_pos rfl];simp
          show ∃v bS bR,_∧cO g ((s.setRow aW [⟨i.size,ao.es.take len++bF,.live⟩]).setRow r (row.set k {ao with cv:= .gone})) bR a bS∧_
          rcases U.u4 (iK ap) with ⟨ak,-,rfl,rfl⟩|⟨b,M,oD,kK,ak,rfl,q9,sJ,en,mn⟩
          ·
           rw [ak] at fE
           simp only [jy] at fE
           have hE:ao.es.take 0++bF=bF:=by simp
           by_cases h0:bF.length=0
           ·have:bF=[]:=List.length_eq_zero_iff.1 h0
            subst this
            obtain ⟨bR,p1,hz⟩:=h.QY (sz:=i.size) e5
            have pL:(s.setRow aW [⟨i.size,[],.live⟩]).ao r k=some ao:=by rw [lG,if_neg (Ne.symm c6)];exact ap
            have adh:(s.setRow aW [⟨i.size,[],.live⟩]).aX r=some row:=by simp [S.setRow,Ne.symm c6,dG]
            obtain ⟨rW,-⟩:=hz.gone adh pL
            have BK:ao.es.take 0++([]:List (List aD))=[]:=by simp
            rw [BK]
            rw [BK] at BJ pK
            refine ⟨_,w,bR,hA.zero h0 none 0 0 (Nat.le_refl _),rW,?_⟩
            subst hm
            exact .nK (sz:=i.size) BJ ((iK (pK bR)).trans (by rw [p1]))
           ··have lb:m=bF.length:=by omega
             have i7:=hA.nil (by omega) (by omega) (by omega)
             have SI:=grownCap_ge w bF.length 0 e
             have hle:=grownCap_le_maxLen w bF.length 0 e (by simp only [maxLen];omega)
             simp only [maxLen] at hle
             obtain ⟨bR,q1,a6⟩:=JX (e:=e) (i:=i) (m:=m) (nU:=vs) (sY:=Builtin.zeroCells eL.cells (grownCap w bF.length 0 e-bF.length)) (cap:=grownCap w bF.length 0 e) h e5 hlen lb v1 v3
              (by rw [size_zeroCells,lM,lb]) (by omega) (by omega) v4 rfl
             rw [hE]
             rw [hE] at rL
             have pL:(s.setRow aW [⟨i.size,bF,.live⟩]).ao r k=some ao:=by rw [lG,if_neg (Ne.symm c6)];exact ap
             obtain ⟨rW,CP⟩:=q1.gone rL pL
             refine ⟨.slice (some ⟨w.heap.size,0,none⟩) m (grownCap w bF.length 0 e),_,bR,?_,rW,CP _ _ a6⟩
             rw [lb];exact i7
          ·
           rw [ak] at fE
           have adi:=fE
           obtain ⟨cr,mE,g1,g2,g3,g4⟩:=fE
           have BL : ∀e∈ao.es.take len++bF,e.length=i.size:=by
            intro ex l2
            rw [List.mem_append] at l2
            rcases l2 with cK|cK
            ·rw [g3 ex (List.mem_of_mem_take cK),fa]
            ·exact hlen ex cK
           have jX : ∀(es:List (List aD)),(∀e∈es,e.length=i.size)→es.flatten.length=es.length*i.size:=by
            intro es
            induction es with
            | nil=>intro _;simp
            | cons e es ih =>
             intro fW
             rw [List.flatten_cons,List.length_append,ih fun x U=>fW x (by simp [U]),fW e (by simp),List.length_cons,Nat.add_mul];omega
           by_cases h0:bF.length=0
           ·
            have:bF=[]:=List.length_eq_zero_iff.1 h0
            subst this
            have BK:ao.es.take len++([]:List (List aD))=ao.es.take len:=by simp
            rw [BK]
            rw [BK] at BJ pK BL
            obtain ⟨bR,p1,hz⟩:=h.turn dG ap nY ak e5 ⟨i.size,ao.es.take len,.live⟩ rfl cr mE g1 rfl (fun _ _=>rfl) rfl rfl rfl g2 BL (fun j q bd=>by
             refine g4 j q ?_
             have aG:j<(ao.es.take len).flatten.length:=by
              rcases Nat.lt_or_ge j (ao.es.take len).flatten.length with cK|cK
              ·exact cK
              ·rw [List.getElem?_eq_none cK] at bd;simp at bd
             have SJ:ao.es.flatten=(ao.es.take len).flatten++(ao.es.drop len).flatten:=by rw [← List.flatten_append,List.take_append_drop]
             rw [SJ,List.getElem?_append_left aG];exact bd)
            refine ⟨_,w,bR,hA.zero h0 oD len kK q9,hz,?_⟩
            have lb:m=len:=by simpa using hm
            subst lb
            refine .bf (sz:=i.size) (ec:=b) (m:=M) BJ ((iK (pK bR)).trans (by rw [p1])) q9 sJ ?_
            rw [← fa];exact ⟨en,mn⟩
           ··
             have hold : ∃xs:List Value,xs.length=len*i.size∧(∀(j:Nat) u,xs[j]? = some u→w.cell? ((⟨b,0,none⟩:Addr).add j)=some u)∧(∀u∈xs,u.oneCell'=true) ∧
              ∀(j:Nat) x u,(ao.es.take len).flatten[j]? = some x→xs[j]? = some u→Rel w (s.ok g az w) s.a7 (s.bj az) x u:=by
              have Sj:=DT adi.rd 0 len (by omega)
              simp only [List.drop_zero,Nat.zero_mul,Nat.add_zero] at Sj
              obtain ⟨xs,x1,eb,aB,fM⟩:=Sj.nU
              exact ⟨xs,by rw [x1,Mk,fa],eb,aB,fM⟩
             obtain ⟨xs,x1,eb,aB,fM⟩:=hold
             have aem:xs.length=(ao.es.take len).length*i.size:=by rw [Mk];exact x1
             have QZ : ∀(j:Nat) x u,(ao.es.take len++bF).flatten[j]? = some x→(xs++vs)[j]? = some u→Rel w (s.ok g az w) s.a7 (s.bj az) x u :=
              fun j x u aen nX=>YC aem (fun ex l2=>by rw [g3 ex (List.mem_of_mem_take l2),fa]) aen fM v4 nX
             have BM:(ao.es.take len++bF).length=m:=by rw [List.length_append,Mk];exact hm.symm
             by_cases su:len+bF.length≤kK
             ·
              rcases mn with rfl|rfl
              ·omega
              ·rw [Nat.zero_mul] at *
               rw [Nat.zero_add] at en
               have acM:len*i.size+vs.length≤cr.size:=by
                rw [v1,g2,← en,fa,← Nat.add_mul];exact Nat.mul_le_mul_right _ su
               have i7:=hA.room (by omega) b len kK cr mE g1 su acM (by omega)
               have adK:(w.setRow b (cr.toList.take (len*i.size)++vs++cr.toList.drop (len*i.size+vs.length)).toArray).heap.size=w.heap.size:=size_setRow _ _ _
               have SK:xs=cr.toList.take (len*i.size):=by
                apply List.ext_getElem?
                intro j
                rw [List.getElem?_take]
                by_cases aG:j<len*i.size
                ·rw [if_pos aG]
                 have tM:j<xs.length:=by omega
                 have:=eb j _ (List.getElem?_eq_getElem tM)
                 rw [rF,cell_of_row w b (0+j) cr mE (0,0) g1,Nat.zero_add] at this
                 rw [List.getElem?_eq_getElem tM,← this,Array.getElem?_toList]
                ·rw [if_neg aG,List.getElem?_eq_none (by omega)]
               obtain ⟨bR,p1,hz⟩:=h.turn dG ap nY ak e5 ⟨i.size,ao.es.take len++bF,.live⟩ rfl _ mE (setRow_heap w b cr _ mE _ g1) adK (fun q bd=>setRow_other w b q _ bd) rfl rfl rfl
                (by rw [← g2];simp;omega) BL (fun j q bd=>by
                  have aG:j<(xs++vs).length:=by
                   have:j<(ao.es.take len++bF).flatten.length:=by
                    rcases Nat.lt_or_ge j (ao.es.take len++bF).flatten.length with cK|cK
                    ·exact cK
                    ·rw [List.getElem?_eq_none cK] at bd;simp at bd
                   rw [jX _ BL,BM] at this
                   rw [List.length_append,x1,v1,← Nat.add_mul,← hm];exact this
                  refine ⟨(xs++vs)[j],?_,?_,QZ j q _ bd (List.getElem?_eq_getElem aG)⟩
                  ·rw [List.getElem?_toArray,List.getElem?_append_left (by rw [← SK];exact aG),← SK]
                   exact List.getElem?_eq_getElem aG
                  ·have:=List.getElem_mem aG
                   rw [List.mem_append] at this
                   rcases this with cK|cK
                   ·exact aB _ cK
                   ·exact v3 _ cK)
               refine ⟨_,_,bR,i7,hz,?_⟩
               rw [← hm]
               refine .bf (sz:=i.size) (ec:=b) (m:=M) BJ ((iK (pK bR)).trans (by rw [p1])) (by omega) sJ ⟨?_,.inr (by simp)⟩
               rw [Nat.zero_add,← fa];exact en
             ·
              have hA : ∃v5:Addr,(oD=some v5∧ ∀(j:Nat) u,xs[j]? = some u→w.cell? (v5.add j)=some u)∨(oD=none∧len=0∧kK=0):=by
               cases oD with
               | none =>
                refine ⟨⟨0,0,none⟩,.inr ⟨rfl,?_⟩⟩
                rcases mn with cK|cK
                ·omega
                ·simp at cK
               | some v5 =>
                refine ⟨v5,.inl ⟨rfl,?_⟩⟩
                rcases mn with cK|cK
                ·have:len=0:=by omega
                 have:xs=[]:=List.length_eq_zero_iff.1 (by rw [x1,this];simp)
                 intro j u aG
                 rw [this] at aG;simp at aG
                ·simp at cK;subst cK;exact eb
              have SI:=grownCap_ge w (len+bF.length) kK e
              have hle:=grownCap_le_maxLen w (len+bF.length) kK e (by simp only [maxLen];omega)
              simp only [maxLen] at hle
              have i7:(Builtin.append_ #[t,dm] eO #[.slice oD len kK,nH]).run P w = .ok (.slice (some ⟨w.heap.size,0,none⟩) (len+bF.length) (grownCap w (len+bF.length) kK e))
               (w.drew.alloc (.cells ((xs++vs).toArray++Builtin.zeroCells eL.cells (grownCap w (len+bF.length) kK e-(len+bF.length))) e)):=by
               have adL:(xs++vs).toArray=xs.toArray++vs.toArray:=by apply Array.ext';simp
               rw [adL]
               obtain ⟨v5,⟨rfl,aeo⟩|⟨rfl,nB,mF⟩⟩:=hA
               ·exact hA.grow (by omega) v5 len kK xs x1 aeo (by omega) (by omega) (growslice_fits (by omega) (by rw [← hm];exact Cb)) (by omega)
               ·subst nB;subst mF
                have aep:xs=[]:=List.length_eq_zero_iff.1 (by rw [x1];simp)
                subst aep
                have:=hA.nil (by omega) (by omega) (by omega)
                simpa using this
              obtain ⟨bR,q1,a6⟩:=JX (e:=e) (i:=i) (m:=m) (nU:=xs++vs) (sY:=Builtin.zeroCells eL.cells (grownCap w (len+bF.length) kK e-(len+bF.length))) (cap:=grownCap w (len+bF.length) kK e) h e5 BL BM.symm
               (by rw [List.length_append,x1,v1,BM,hm,Nat.add_mul]) (fun u hu=>by
                 rw [List.mem_append] at hu
                 rcases hu with cK|cK
                 ·exact aB _ cK
                 ·exact v3 _ cK) (by rw [size_zeroCells,lM,hm]) (by omega) (by omega) QZ rfl
              have pL:(s.setRow aW [⟨i.size,ao.es.take len++bF,.live⟩]).ao r k=some ao:=by rw [lG,if_neg (Ne.symm c6)];exact ap
              obtain ⟨rW,CP⟩:=q1.gone rL pL
              refine ⟨.slice (some ⟨w.heap.size,0,none⟩) m (grownCap w (len+bF.length) kK e),_,bR,?_,rW,CP _ _ a6⟩
              rw [hm];exact i7
         ·simp at ay
      ·simp at ay
     ·exact absurd trivial acL
  ·simp at ay
end
end
section
variable {P:Program} {g:G} {s:S} {az:fx} {a:Act} {w:World}
theorem AX {sz:Nat}: ∀ {es:List (List aD)},(∀e∈es,e.length=sz)→es.flatten.length=es.length*sz
 | [],_=>by simp
 | e::es,h=>by
  rw [List.flatten_cons,List.length_append,AX fun x U=>h x (by simp [U]),h e (by simp),List.length_cons,Nat.add_mul];omega
theorem cO.putAt (h:cO g s az a w){r k p b M:Nat}{row:List ae}{ao:ae}(aq:s.aX r=some row)(ap:s.ao r k=some ao)(a9:ao.cv = .live)(lP:az r k=some (b,M)){bF gp:List (List aD)}{vs:List Value}
 (hlen : ∀x∈bF,x.length=ao.sz) (v1:vs.length=bF.length*ao.sz) (v3 : ∀u∈vs,u.oneCell'=true) (v4 : ∀(j:Nat) x u,bF.flatten[j]? = some x→vs[j]? = some u→Rel w (s.ok g az w) s.a7 (s.bj az) x u)
 (ak:p+bF.length≤ao.es.length) (q:Nat) (hE:gp=(ao.es.take p++bF++ao.es.drop (p+bF.length)).take q) :
 ∃cr mE,w.heap[b]? = some (.cells cr mE (0,0))∧cr.size=M∧ao.es.length*ao.sz≤M∧p*ao.sz+vs.length≤cr.size ∧
  cO g (s.setRow r (row.set k {ao with es:=gp})) az a (w.setRow b (cr.toList.take (p*ao.sz)++vs++cr.toList.drop (p*ao.sz+vs.length)).toArray) ∧
  ∀x v,Rel w (s.ok g az w) s.a7 (s.bj az) x v→Rel (w.setRow b (cr.toList.take (p*ao.sz)++vs++cr.toList.drop (p*ao.sz+vs.length)).toArray) ((s.setRow r (row.set k {ao with es:=gp})).ok g az (w.setRow b (cr.toList.take (p*ao.sz)++vs++cr.toList.drop (p*ao.sz+vs.length)).toArray)) (s.setRow r (row.set k {ao with es:=gp})).a7 ((s.setRow r (row.set k {ao with es:=gp})).bj az) x v:=by
 have fE:=h.obj r k ao ap
 rw [lP] at fE
 obtain ⟨cr,mE,g1,g2,g3,g4⟩:=fE
 have jX:=AX g3
 have en:ao.es.length*ao.sz≤M:=by
  rcases Nat.eq_zero_or_pos ao.es.flatten.length with h0|kg
  ·omega
  ·obtain ⟨v,e1,-⟩:=g4 (ao.es.flatten.length-1) _ (List.getElem?_eq_getElem (by omega))
   have:=(Array.getElem?_eq_some_iff.1 e1).1
   omega
 have hmul:p*ao.sz+bF.length*ao.sz≤ao.es.length*ao.sz:=by rw [← Nat.add_mul];exact Nat.mul_le_mul_right _ ak
 have iz:p*ao.sz+vs.length≤cr.size:=by omega
 refine ⟨cr,mE,g1,g2,en,iz,?_⟩
 have adM : ∀e∈ao.es.take p++bF++ao.es.drop (p+bF.length),e.length=ao.sz:=by
  intro e he
  simp only [List.mem_append] at he
  rcases he with (he|he)|he
  ·exact g3 e (List.mem_of_mem_take he)
  ·exact hlen e he
  ·exact g3 e (List.mem_of_mem_drop he)
 have hA:(ao.es.take p).flatten.length=p*ao.sz:=by rw [AX fun e he=>g3 e (List.mem_of_mem_take he),List.length_take];congr 1;omega
 have ho:(ao.es.take (p+bF.length)).flatten.length=p*ao.sz+bF.length*ao.sz:=by rw [AX fun e he=>g3 e (List.mem_of_mem_take he),List.length_take,← Nat.add_mul];congr 1;omega
 have afw:bF.flatten.length=bF.length*ao.sz:=AX hlen
 have h1 : ∀j,j<p*ao.sz→(ao.es.take p).flatten[j]? = ao.es.flatten[j]? := fun j aG=>by
  conv=>rhs;rw [← List.take_append_drop p ao.es,List.flatten_append,List.getElem?_append_left (by omega)]
 have o : ∀j,(ao.es.drop (p+bF.length)).flatten[j]? = ao.es.flatten[p*ao.sz+bF.length*ao.sz+j]? := fun j=>by
  conv=>rhs;rw [← List.take_append_drop (p+bF.length) ao.es,List.flatten_append,List.getElem?_append_right (by omega),ho]
  congr 1;omega
 refine h.write aq ap a9 lP gp _ mE (setRow_heap w b cr _ mE _ g1) (size_setRow _ _ _) (fun q bd=>setRow_other w b q _ bd) rfl rfl rfl (by rw [← g2];simp;omega) ?_ ?_
 ·intro e he
  rw [hE] at he
  exact adM e (List.mem_of_mem_take he)
 ·intro j x U
  have dP:(ao.es.take p++bF++ao.es.drop (p+bF.length)).flatten[j]? = some x:=by
   rw [hE] at U
   have aG:=(List.getElem?_eq_some_iff.1 U).1
   conv=>lhs;rw [← List.take_append_drop q (ao.es.take p++bF++ao.es.drop (p+bF.length)),List.flatten_append,List.getElem?_append_left aG]
   exact U
  rw [List.flatten_append,List.flatten_append] at dP
  simp only [List.getElem?_toArray]
  have iL:(cr.toList.take (p*ao.sz)).length=p*ao.sz:=by rw [List.length_take,Array.length_toList];omega
  by_cases bs:j<p*ao.sz
  ·rw [List.append_assoc,List.getElem?_append_left (by omega),h1 j bs] at dP
   obtain ⟨v,e1,aE,bP⟩:=g4 j x dP
   refine ⟨v,?_,aE,bP⟩
   rw [List.append_assoc,List.getElem?_append_left (by omega),List.getElem?_take,if_pos bs,Array.getElem?_toList];exact e1
  ·by_cases cn:j<p*ao.sz+vs.length
   ·rw [List.append_assoc,List.getElem?_append_right (by omega),hA,List.getElem?_append_left (by omega)] at dP
    have bk:j-p*ao.sz<vs.length:=by omega
    refine ⟨vs[j-p*ao.sz],?_,v3 _ (List.getElem_mem bk),v4 _ _ _ dP (List.getElem?_eq_getElem bk)⟩
    rw [List.append_assoc,List.getElem?_append_right (by omega),iL,List.getElem?_append_left (by omega)]
    exact List.getElem?_eq_getElem bk
   ·rw [List.getElem?_append_right (by rw [List.length_append];omega),List.length_append,hA,afw,o] at dP
    rw [show p*ao.sz+bF.length*ao.sz+(j-(p*ao.sz+bF.length*ao.sz))=j by omega] at dP
    obtain ⟨v,e1,aE,bP⟩:=g4 j x dP
    refine ⟨v,?_,aE,bP⟩
    rw [List.getElem?_append_right (by rw [List.length_append];omega),List.length_append,iL,List.getElem?_drop,Array.getElem?_toList]
    rw [show p*ao.sz+vs.length+(j-(p*ao.sz+vs.length))=j by omega];exact e1
end
section
variable {P:Program} {g:G} {s:S} {az:fx} {a:Act} {w:World} {aW:Nat} {bG:il}
theorem acf (h:cO g s az a w){x y:aD}{rp nH:Value}{t dm eO:TypeId}(ay:nW P s.E s.aX aW .append [x,y] [t,dm] .fX=some bG)(cG:∀p∈bG.fF,p)
 (U:Rel w (s.ok g az w) s.a7 (s.bj az) x rp) (a1:Rel w (s.ok g az w) s.a7 (s.bj az) y nH) :
 ∃v bS,(Builtin.append_ #[t,dm] eO #[rp,nH]).run P w = .ok v bS∧cO g (s.h9 bG.fS) az a bS∧Rel bS ((s.h9 bG.fS).ok g az bS) (s.h9 bG.fS).a7 ((s.h9 bG.fS).bj az) bG.val v:=by
 simp only [nW] at ay
 split at ay
 ·simp at ay
 ·rename_i e he
  have hu:=rG he
  split at ay
  ·rename_i i z aj cD
   split at ay
   ·simp at ay
   ·rename_i bh
    simp only [not_or,Decidable.not_not] at bh
    obtain ⟨nA,kg,yZ⟩:=bh
    split at ay
    ·simp at ay
    ·rename_i bF b8 q5
     split at ay
     ·rename_i r k len
      split at ay
      ·simp at ay
      ·rename_i row dG
       split at ay
       ·simp at ay
       ·rename_i ao br
        split at ay
        ·rename_i vz
         obtain ⟨nY,fa⟩:=vz
         simp only [Option.some.injEq] at ay
         subst ay
         have ap:s.ao r k=some ao:=by unfold S.ao;rw [dG];exact br
         have iz:len+bF.length≤ao.es.length:=cG _ (by simp)
         have Cb:bF.length*i.bytes≤140737488355328:=cG _ (by simp)
         obtain ⟨eL,vs,lc,lM,hA,hlen,v1,v3,v4⟩:=PX (eO:=eO) h hu aj cD nA kg q5 (fun p ak=>cG p (by simp [ak])) a1
         rw [← fa] at v1
         have RV : ∀x∈bF,x.length=ao.sz:=fun x U=>by rw [hlen x U,fa]
         have hE:ao.es.take len++bF=(ao.es.take len++bF++ao.es.drop (len+bF.length)).take (len+bF.length) :=
          (List.take_left' (by rw [List.length_append,List.length_take];omega)).symm
         rcases U.u4 (iK ap) with ⟨ak,-,rfl,rfl⟩|⟨b,M,oD,kK,ak,rfl,q9,sJ,en,mn⟩
         ·have fE:=h.obj r k ao ap
          rw [ak] at fE
          simp only [jy] at fE
          rw [fE] at iz
          have h0:bF.length=0:=by simp at iz;exact List.length_eq_zero_iff.2 iz
          have vA:bF=[]:=List.length_eq_zero_iff.1 h0
          subst vA
          have lp:row.set k {ao with es:=ao.es.take 0++[]}=row:=by
           have h1:({ao with es:=ao.es.take 0++[]}:ae)=ao:=by cases ao;simp only [] at fE;subst fE;rfl
           rw [h1]
           have o:row[k]? = some ao:=by
            unfold dn at br
            simp only at br
            split at br
            ·rename_i cb d4
             split at br
             ·simp at br
             ·simp at br;rw [← br];exact d4
            ·simp at br
           exact List.ext_getElem? fun j=>by
            rw [List.getElem?_set]
            split
            ·rename_i e;subst e
             have:=(List.getElem?_eq_some_iff.1 o).1
             rw [if_pos this,o]
            ·rfl
          refine ⟨_,w,hA.zero h0 none 0 0 (Nat.le_refl _),?_⟩
          have ey:s.setRow r row=s:=by
           have:(fun q=>if q=r then some row else s.aX q)=s.aX:=by
            funext q;split
            ·rename_i e;rw [e,dG]
            ·rfl
           show ({s with aX:=_}:S)=s
           rw [this]
          show cO g (s.setRow r (row.set k {ao with es:=ao.es.take 0++[]})) az a w∧Rel w ((s.setRow r (row.set k {ao with es:=ao.es.take 0++[]})).ok g az w) (s.setRow r (row.set k {ao with es:=ao.es.take 0++[]})).a7 ((s.setRow r (row.set k {ao with es:=ao.es.take 0++[]})).bj az) (.bf r k 0 0) (.slice none 0 0)
          rw [lp,ey]
          exact ⟨h,U⟩
         ·obtain ⟨cr,mE,bs,cn,jF,pX,oE,sZ⟩:=h.putAt dG ap nY ak RV v1 v3 v4 iz (len+bF.length) hE
          have hle:ao.es.length≤kK:=by
           rw [Nat.zero_add] at en
           rw [← en] at jF
           exact Nat.le_of_mul_le_mul_right jF (by omega)
          by_cases mF:kK=0
          ·have h0:bF.length=0:=by omega
           have nB:len=0:=by omega
           subst nB
           have vA:bF=[]:=List.length_eq_zero_iff.1 h0
           subst vA
           have Ml:vs=[]:=List.length_eq_zero_iff.1 (by simpa using v1)
           subst Ml
           have hw:w.setRow b (cr.toList.take (0*ao.sz)++[]++cr.toList.drop (0*ao.sz+0)).toArray=w:=by
            simp only [Nat.zero_mul,List.take_zero,List.nil_append,Nat.zero_add,List.drop_zero,Array.toArray_toList]
            exact setRow_self w b cr mE (0,0) bs
           simp only [List.length_nil] at oE sZ
           rw [hw] at oE sZ
           exact ⟨_,w,hA.zero h0 oD 0 kK (Nat.zero_le _),oE,sZ _ _ U⟩
          ·have Cc:oD=some ⟨b,0,none⟩:=by
            rcases mn with cK|cK
            ·exact absurd cK mF
            ·simpa using cK
           subst Cc
           by_cases h0:bF.length=0
           ·have vA:bF=[]:=List.length_eq_zero_iff.1 h0
            subst vA
            have Ml:vs=[]:=List.length_eq_zero_iff.1 (by simpa using v1)
            subst Ml
            have hw:w.setRow b (cr.toList.take (len*ao.sz)++[]++cr.toList.drop (len*ao.sz+0)).toArray=w:=by
             simp only [List.append_nil,Nat.add_zero,List.take_append_drop,Array.toArray_toList]
             exact setRow_self w b cr mE (0,0) bs
            simp only [List.length_nil] at oE sZ
            rw [hw] at oE sZ
            exact ⟨_,w,hA.zero h0 _ len kK q9,oE,sZ _ _ U⟩
           ·have i7:=hA.room (by omega) b len kK cr mE bs (by omega) (by rw [← fa];exact pX) Cb
            rw [← fa] at i7
            refine ⟨_,_,i7,oE,?_⟩
            have BE:(s.setRow r (row.set k {ao with es:=ao.es.take len++bF})).ao r k=some {ao with es:=ao.es.take len++bF}:=by
             rw [lG,if_pos rfl,Qm row k ao _ br (by simp [nY]),if_pos rfl]
            show Rel _ ((s.setRow r (row.set k {ao with es:=ao.es.take len++bF})).ok g az _) (s.setRow r (row.set k {ao with es:=ao.es.take len++bF})).a7 ((s.setRow r (row.set k {ao with es:=ao.es.take len++bF})).bj az) (.bf r k 0 (len+bF.length)) _
            refine .bf (sz:=ao.sz) (ec:=b) (m:=M) (Ed BE) ((iK BE).trans (by rw [ak])) (by omega) sJ ⟨en,.inr (by simp)⟩
        ·simp at ay
     ·simp at ay
  ·simp at ay
end
section
variable {P:Program} {g:G} {s:S} {az:fx} {a:Act} {w:World} {aW:Nat} {bG:il}
theorem Pe {s:S}{r k:Nat}{row:List ae}{ao:ae}(aq:s.aX r=some row)(ap:dn (some row) k=some ao):s.setRow r (row.set k ao)=s:=by
 have o:row[k]? = some ao:=by
  unfold dn at ap
  simp only at ap
  split at ap
  ·rename_i cb d4
   split at ap
   ·simp at ap
   ·simp at ap;rw [← ap];exact d4
  ·simp at ap
 have af:row.set k ao=row:=List.ext_getElem? fun j=>by
  rw [List.getElem?_set]
  split
  ·rename_i e;subst e
   have:=(List.getElem?_eq_some_iff.1 o).1
   rw [if_pos this,o]
  ·rfl
 rw [af]
 have:(fun q=>if q=r then some row else s.aX q)=s.aX:=by
  funext q;split
  ·rename_i e;rw [e,aq]
  ·rfl
 show ({s with aX:=_}:S)=s
 rw [this]
theorem Z1 {e:TypeId}{i:TypeInfo}{z:List aD}{eL:Value}(lM:eL.cells.size=i.size)(nA:z.length=i.size)(kg:i.size≠0)
 (tK : ∀(j:Nat) x,z[j]? = some x→ ∃v,eL.cells[j]? = some v∧kn v=true∧ ∀(w:World) (ok:Nat→Prop) (a7:jn) (bj:jd),Rel w ok a7 bj x v) (m:Nat) :
 (Builtin.zeroCells eL.cells m).toList.length=m*i.size∧(∀u∈(Builtin.zeroCells eL.cells m).toList,u.oneCell'=true) ∧
   ∀(j:Nat) x u,(List.replicate m z).flatten[j]? = some x→(Builtin.zeroCells eL.cells m).toList[j]? = some u→ ∀(w:World) (ok:Nat→Prop) (a7:jn) (bj:jd),Rel w ok a7 bj x u:=by
 have l5 : ∀(j:Nat) u,(Builtin.zeroCells eL.cells m).toList[j]? = some u→eL.cells[j % i.size]? = some u:=by
  intro j u nX
  have aG:=(List.getElem?_eq_some_iff.1 nX).1
  rw [Array.length_toList,size_zeroCells,lM] at aG
  have dU:j % i.size<eL.cells.size:=by rw [lM];exact Nat.mod_lt _ (by omega)
  rw [Array.getElem?_toList,Builtin.zeroCells,Array.getElem?_map,lM,Array.getElem?_range] at nX
  rw [if_pos aG] at nX
  simp only [Option.map_some,Option.some.injEq] at nX
  rw [← nX,Array.getElem?_eq_getElem dU,getElem!_pos eL.cells _ dU]
 refine ⟨?_,?_,?_⟩
 ·rw [Array.length_toList,size_zeroCells,lM]
 ·intro u rb
  obtain ⟨j,aG⟩:=List.getElem?_of_mem rb
  have h1:=l5 j u aG
  have dU:j % i.size<z.length:=by rw [nA];exact Nat.mod_lt _ (by omega)
  obtain ⟨v,v1,v2,-⟩:=tK _ _ (List.getElem?_eq_getElem dU)
  rw [h1] at v1
  obtain rfl:=Option.some.inj v1
  exact v2
 ·intro j x u U nX
  rw [pf (sz:=i.size) (by omega) _ (fun ex l2=>by rw [List.mem_replicate] at l2;rw [l2.2,nA])] at U
  have h1:=l5 j u nX
  cases bd:(List.replicate m z)[j / i.size]? with
  | none=>rw [bd] at U;simp at U
  | some ex =>
   have:=List.mem_of_getElem? bd
   rw [List.mem_replicate] at this
   rw [bd,this.2] at U
   simp only [Option.bind_some] at U
   obtain ⟨v,v1,-,v3⟩:=tK _ _ U
   rw [h1] at v1
   obtain rfl:=Option.some.inj v1
   exact v3
theorem abq (h:cO g s az a w){r k len:Nat}{y:aD}{rp nH:Value}{t dm eO:TypeId}{cP:fI}(ay:nW P s.E s.aX aW .copy [.bf r k 0 len,y] [t,dm] cP=some bG)(cG:∀p∈bG.fF,p)
 (U:Rel w (s.ok g az w) s.a7 (s.bj az) (.bf r k 0 len) rp) (a1:Rel w (s.ok g az w) s.a7 (s.bj az) y nH) :
 ∃n bS,(Builtin.copy_ #[t,dm] eO #[rp,nH]).run P w = .ok (goInt n) bS∧cO g (s.h9 bG.fS) az a bS∧bG.val = .n .i64 n:=by
 simp only [nW] at ay
 split at ay
 ·simp at ay
 ·rename_i e he
  have hu:=rG he
  split at ay
  ·simp at ay
  ·rename_i i aj
   split at ay
   ·simp at ay
   ·rename_i bF b8 q5
    split at ay
    ·simp at ay
    ·rename_i row dG
     split at ay
     ·simp at ay
     ·rename_i ao br
      split at ay
      ·rename_i vz
       obtain ⟨nY,fa,kg⟩:=vz
       simp only [Option.some.injEq] at ay
       subst ay
       have ap:s.ao r k=some ao:=by unfold S.ao;rw [dG];exact br
       have iz:bF.length≤len:=cG _ (by simp)
       have hle:len≤ao.es.length:=cG _ (by simp)
       obtain ⟨A,c,rfl,hlen,Mj⟩:=Qo h q5 (fun p ak=>cG p (by simp [ak])) a1
       show ∃n bS,_∧cO g (s.setRow r (row.set k {ao with es:=bF++ao.es.drop bF.length})) az a bS∧_
       by_cases h0:bF.length=0
       ·have vA:bF=[]:=List.length_eq_zero_iff.1 h0
        subst vA
        refine ⟨0,w,?_,?_,rfl⟩
        ·rcases U.u4 (iK ap) with ⟨-,-,rfl,rfl⟩|⟨b,M,oD,kK,-,rfl,-,-,-,-⟩
         ·cases A<;>simp [Builtin.copy_,run_underlying hu,sizeOf,typeInfo,aj,Builtin.lenOf,Builtin.firstCells,loadCells,loadCellsFrom]
         ·cases A<;>cases oD<;>simp [Builtin.copy_,run_underlying hu,sizeOf,typeInfo,aj,Builtin.lenOf,Builtin.firstCells,loadCells,loadCellsFrom,storeCells]
        ·rw [show ({ao with es:=[]++ao.es.drop ([]:List (List aD)).length}:ae)=ao from rfl,Pe dG br];exact h
       ·obtain ⟨ec,off,rfl,iC⟩:=Mj.resolve_left h0
        obtain ⟨vs,v1,v2,v3,v4⟩:=iC.nU
        rw [← fa] at v1
        rcases U.u4 (iK ap) with ⟨-,-,rfl,-⟩|⟨b,M,oD,kK,ak,rfl,q9,sJ,en,mn⟩
        ·exact absurd (Nat.le_zero.1 iz) h0
        ·have Cc:oD=some ⟨b,0,none⟩:=by
          rcases mn with cK|cK
          ·exact absurd (show bF.length=0 by omega) h0
          ·simpa using cK
         subst Cc
         obtain ⟨cr,mE,bs,cn,jF,pX,oE,-⟩:=h.putAt (p:=0) dG ap nY ak (fun x U=>by rw [hlen x U,fa]) v1 v3 v4 (by omega) ao.es.length (gp:=bF++ao.es.drop bF.length)
          (by rw [List.take_zero,List.nil_append,Nat.zero_add];exact (List.take_of_length_le (by simp;omega)).symm)
         simp only [Nat.zero_mul,Nat.zero_add,List.take_zero,List.nil_append] at pX oE
         have aV:=run_firstCells_some (P:=P) w i.size bF.length ⟨ec,off,none⟩ bF.length c vs (by rw [v1,fa]) v2
         have mm:=run_storeCells_at P b 0 mE vs 0 cr w bs (by simpa using pX) v3
         simp only [Nat.add_zero,List.take_zero,List.nil_append,Nat.zero_add] at mm
         refine ⟨bF.length,_,?_,oE,rfl⟩
         simp [Builtin.copy_,run_underlying hu,sizeOf,typeInfo,aj,Builtin.lenOf,Nat.min_eq_left iz,aV,mm]
      ·simp at ay
theorem aaB (h:cO g s az a w){r k len:Nat}{rp:Value}{t eO:TypeId}{cP:fI}(ay:nW P s.E s.aX aW .clear [.bf r k 0 len] [t] cP=some bG)(cG:∀p∈bG.fF,p)
 (U:Rel w (s.ok g az w) s.a7 (s.bj az) (.bf r k 0 len) rp) :
 ∃bS,(Builtin.clear_ #[t] eO #[rp]).run P w = .ok (.tuple #[]) bS∧cO g (s.h9 bG.fS) az a bS∧bG.val = .ea []:=by
 simp only [nW] at ay
 split at ay
 ·simp at ay
 ·rename_i e he
  have hu:=rG he
  split at ay
  ·rename_i i z aj cD
   split at ay
   ·simp at ay
   ·rename_i row dG
    split at ay
    ·simp at ay
    ·rename_i ao br
     split at ay
     ·rename_i vz
      obtain ⟨nY,fa,nA,kg⟩:=vz
      simp only [Option.some.injEq] at ay
      subst ay
      have ap:s.ao r k=some ao:=by unfold S.ao;rw [dG];exact br
      have hle:ao.es.length=len:=cG _ (by simp)
      show ∃bS,_∧cO g (s.setRow r (row.set k {ao with es:=List.replicate len z})) az a bS∧_
      by_cases h0:len=0
      ·subst h0
       refine ⟨w,?_,?_,rfl⟩
       ·rcases U.u4 (iK ap) with ⟨-,-,-,rfl⟩|⟨b,M,oD,kK,-,rfl,-,-,-,-⟩
        ·simp [Builtin.clear_,run_underlying hu]
        ·cases oD<;>simp [Builtin.clear_,run_underlying hu]
       ·rw [show ({ao with es:=List.replicate 0 z}:ae)=ao by rw [List.replicate_zero,← List.length_eq_zero_iff.1 hle],Pe dG br];exact h
      ·obtain ⟨eM,eL,jP,lc,pW,tK⟩:=AK cD
       rw [aj] at jP;simp at jP;subst jP
       have lM:eL.cells.size=i.size:=by rw [← nA,pW];simp
       rcases U.u4 (iK ap) with ⟨-,-,rfl,-⟩|⟨b,M,oD,kK,ak,rfl,q9,sJ,en,mn⟩
       ·exact absurd rfl h0
       ·have Cc:oD=some ⟨b,0,none⟩:=by
         rcases mn with cK|cK
         ·exact absurd (show len=0 by omega) h0
         ·simpa using cK
        subst Cc
        obtain ⟨v1,v3,v4⟩:=Z1 (e:=e) lM nA kg tK len
        rw [← fa] at v1
        obtain ⟨cr,mE,bs,cn,jF,pX,oE,-⟩:=h.putAt (p:=0) (bF:=List.replicate len z) dG ap nY ak (fun x U=>by rw [List.mem_replicate] at U;rw [U.2,nA,fa]) (by simpa using v1) v3 (fun j x u h1 o=>v4 j x u h1 o _ _ _ _)
         (by simp;omega) len (gp:=List.replicate len z)
         (by simp [hle])
        simp only [Nat.zero_mul,Nat.zero_add,List.take_zero,List.nil_append] at pX oE
        have mm:=run_storeCells_at P b 0 mE (Builtin.zeroCells eL.cells len).toList 0 cr w bs (by simpa using pX) v3
        simp only [Nat.add_zero,List.take_zero,List.nil_append,Nat.zero_add] at mm
        refine ⟨_,?_,oE,rfl⟩
        cases len with
        | zero=>exact absurd rfl h0
        | succ n=>simp [Builtin.clear_,run_underlying hu,zeroValue,typeInfo,aj,lc,mm]
     ·simp at ay
  ·simp at ay
end
section
variable {g:G} {s:S} {az:fx} {a:Act} {w:World}
def lY (row:List ae):List ae:=row.map fun I=>if I.cv = .live then {I with cv:= .i9} else I
theorem Qp (row:List ae)(k:Nat):dn (some (lY row)) k=(dn (some row) k).map fun I=>if I.cv = .live then {I with cv:= .i9} else I:=by
 simp only [dn,lY,List.getElem?_map]
 cases row[k]? with
 | none=>rfl
 | some I =>
  obtain ⟨sz,es,cv⟩:=I
  cases cv<;>simp
theorem cO.freeze (h:cO g s az a w){r:Nat}{row:List ae}(aq:s.aX r=some row):cO g (s.setRow r (lY row)) az a w:=by
 have br : ∀q k I,(s.setRow r (lY row)).ao q k=some I→ ∃p,s.ao q k=some p∧I.sz=p.sz∧I.es=p.es∧(I.cv = .live→p.cv = .live∧q≠r):=by
  intro q k I ap
  by_cases e:q=r
  ·subst e
   have:(s.setRow q (lY row)).aX q=some (lY row):=by simp [S.setRow]
   unfold S.ao at ap
   rw [this,Qp] at ap
   rw [Option.map_eq_some_iff] at ap
   obtain ⟨p,ak,rfl⟩:=ap
   refine ⟨p,by unfold S.ao;rw [aq];exact ak,?_⟩
   split<;>simp_all
  ·have:(s.setRow r (lY row)).aX q=s.aX q:=by simp [S.setRow,e]
   unfold S.ao at ap
   rw [this] at ap
   exact ⟨I,ap,rfl,rfl,fun aV=>⟨aV,e⟩⟩
 have jC : ∀q k,s.a7 q k→(s.setRow r (lY row)).a7 q k:=DS s aq (by simp [lY])
 have ls : ∀q k,(s.setRow r (lY row)).bj az q k=s.bj az q k:=by
  intro q k
  by_cases e:q=r
  ·subst e
   simp only [S.bj,S.ao]
   have:(s.setRow q (lY row)).aX q=some (lY row):=by simp [S.setRow]
   rw [this,Qp,aq]
   cases dn (some row) k with
   | none=>rfl
   | some I=>simp only [Option.map_some,Option.some.injEq,Prod.mk.injEq,and_true];split<;>rfl
  ·have:(s.setRow r (lY row)).aX q=s.aX q:=by simp [S.setRow,e]
   simp [S.bj,S.ao,this]
 have dH:Step g s az w (s.setRow r (lY row)) az w:=⟨jC,fun q k _=> .inl (ls q k),fun b aV=>by
  obtain ⟨q,k,I,m,h1,o,af⟩:=aV
  obtain ⟨p,p1,hz,rW,CP⟩:=br q k I h1
  exact .inl ⟨q,k,p,m,p1,(CP o).1,af⟩,fun _ _ _=>rfl,Nat.le_refl _⟩
 refine {toik:=⟨?_,?_,?_,h.gY,h.mlt,h.nw,?_,h.low⟩,env:=fun t=>dH.rel (h.env t),defers:=h.defers,jW:=h.jW}
 ·intro q k I ap
  obtain ⟨p,p1,hz,rW,-⟩:=br q k I ap
  have ak:=dH.obj (fun b m _=>rfl) (h.obj q k p p1)
  cases lP:az q k with
  | none=>rw [lP] at ak;simp only [jy] at ak ⊢;rw [rW];exact ak
  | some x =>
   obtain ⟨b,m⟩:=x
   rw [lP] at ak
   obtain ⟨c,eO,e1,aE,bP,c3⟩:=ak
   exact ⟨c,eO,e1,aE,by rw [hz,rW];exact bP,by rw [rW];exact c3⟩
 ·intro q k I hO dx cb b m bO h1 o af au
  obtain ⟨p,p1,-⟩:=br q k I h1
  obtain ⟨ku,aeq,-⟩:=br hO dx cb o
  exact h.inj q k p hO dx ku b m bO p1 aeq af au
 ·intro q k I b m h1 o
  obtain ⟨p,p1,-⟩:=br q k I h1
  exact h.own q k p b m p1 o
 ·intro j k aG
  obtain ⟨e1,aE⟩:=h.stay j k aG
  exact ⟨jC j k e1,by rw [ls];exact aE⟩
end
def yB (P:Program)(t:TypeId):Bool :=
 match P.underlying t with
 | some (.pointer _)=>true
 | _=>false
def y5 (P:Program)(E:Nat→aD)(aX:Nat→Option (List ae))(aW:Nat)(I:Oper)(cP:fI):Option il :=
 match I.op with
 | .call {callee:= .builtin b,args,argTypes}=>match b with
  | .len=>e2 P E aX aW I cP
  | b=>nW P E aX aW b (args.toList.map (fp E)) argTypes.toList cP
 | .binOp op t x y _=>match cP,op,fp E x,fp E y with
  | .fX,.eql,.isl _ es,.ei=>if (pC P t).isSome then some {val:= .b false,fF:=[es≠[]]} else none
  | .fX,.neq,.isl _ es,.ei=>if (pC P t).isSome then some {val:= .b true,fF:=[es≠[]]} else none
  | .fX,.eql,.kh _ none,.ij=>if yB P t then some {val:= .b true} else none
  | .fX,.neq,.kh _ none,.ij=>if yB P t then some {val:= .b false} else none
  | .fX,.eql,.kh _ (some _),.ij=>if yB P t then some {val:= .b false} else none
  | .fX,.neq,.kh _ (some _),.ij=>if yB P t then some {val:= .b true} else none
  | .fX,_,_,_=>none
  | _,_,_,_=>e2 P E aX aW I cP
 | .nilCheck x=>match cP,fp E x with
  | .fX,.kh sz (some c)=>some {val:= .ej sz [c] 0 0}
  | .fX,_=>none
  | _,_=>e2 P E aX aW I cP
 | _=>e2 P E aX aW I cP
section
variable {P:Program} {g:G} {s:S} {az:fx} {a:Act} {w:World} {I:Oper} {cP:fI} {aW:Nat} {bG:il}
theorem Er {args:Array Operand}{E:Nat→aD}{x y:aD}(h:args.toList.map (fp E)=[x,y]): ∃p q,args = #[p,q]∧fp E p=x∧fp E q=y:=by
 obtain ⟨l⟩:=args
 match l,h with
 | [p,q],h=>simp at h;exact ⟨p,q,rfl,h.1,h.2⟩
theorem acg {args:Array Operand}{E:Nat→aD}{x:aD}(h:args.toList.map (fp E)=[x]): ∃p,args = #[p]∧fp E p=x:=by
 obtain ⟨l⟩:=args
 match l,h with
 | [p],h=>simp at h;exact ⟨p,rfl,h⟩
theorem D6 {t:TypeId}(h:yB P t=true): ∃e,P.underlying t=some (.pointer e):=by
 unfold yB at h
 split at h
 ·rename_i e he;exact ⟨e,he⟩
 ·simp at h
theorem aaC (h:cO g s az a w)(e5:s.aX aW=none)(ay:y5 P s.E s.aX aW I cP=some bG)(cG:∀p∈bG.fF,p):Fin P g s a w I bG:=by
 unfold y5 at ay
 split at ay
 ·rename_i b args m3 ap
  split at ay
  ·exact D5 h e5 ay cG
  ·rename_i b aU
   unfold nW at ay
   split at ay
   ·rename_i x y t dm m Nc hargs ou
    have vl:nW P s.E s.aX aW .append [x,y] [t,dm] (.aH m Nc)=some bG:=ay
    obtain ⟨p,q,rfl,rfl,rfl⟩:=Er hargs
    obtain ⟨l⟩:=m3
    simp only at ou
    subst ou
    obtain ⟨v,bS,bR,h1,o,af⟩:=Z0 (eO:=I.type) h e5 vl cG (h.eval p) (h.eval q)
    exact ⟨v,bS,bR,.inl (by simp [execOp,ap,resolve,invoke,builtin,h1]),o,af⟩
   ·rename_i x y t dm hargs ou
    have vl:nW P s.E s.aX aW .append [x,y] [t,dm] .fX=some bG:=ay
    obtain ⟨p,q,rfl,rfl,rfl⟩:=Er hargs
    obtain ⟨l⟩:=m3
    simp only at ou
    subst ou
    obtain ⟨v,bS,h1,o,af⟩:=acf (eO:=I.type) h vl cG (h.eval p) (h.eval q)
    exact ⟨v,bS,az,.inl (by simp [execOp,ap,resolve,invoke,builtin,h1]),o,af⟩
   ·rename_i cP r k len y t dm hargs ou
    have vl:nW P s.E s.aX aW .copy [.bf r k 0 len,y] [t,dm] cP=some bG:=ay
    obtain ⟨p,q,rfl,ak,rfl⟩:=Er hargs
    obtain ⟨l⟩:=m3
    simp only at ou
    subst ou
    have U:=h.eval p
    rw [ak] at U
    obtain ⟨n,bS,h1,o,af⟩:=abq (eO:=I.type) h vl cG U (h.eval q)
    refine ⟨goInt n,bS,az,.inl (by simp [execOp,ap,resolve,invoke,builtin,h1]),o,?_⟩
    rw [af];exact .n _ _
   ·rename_i cP r k len t hargs ou
    have vl:nW P s.E s.aX aW .clear [.bf r k 0 len] [t] cP=some bG:=ay
    obtain ⟨p,rfl,ak⟩:=acg hargs
    obtain ⟨l⟩:=m3
    simp only at ou
    subst ou
    have U:=h.eval p
    rw [ak] at U
    obtain ⟨bS,h1,o,af⟩:=aaB (eO:=I.type) h vl cG U
    refine ⟨.tuple #[],bS,az,.inl (by simp [execOp,ap,resolve,invoke,builtin,h1]),o,?_⟩
    rw [af];exact .ea [] rfl (fun j x u aG=>by simp at aG)
   ·rename_i k x dx y hargs
    split at ay
    ·rename_i a9
     simp only [Option.some.injEq] at ay
     subst ay;subst a9
     obtain ⟨p,q,rfl,ak,bd⟩:=Er hargs
     have U:=h.eval p
     have a1:=h.eval q
     rw [ak] at U;rw [bd] at a1
     refine iJ (v:= .int k (if y<x then y else x)) h ?_ rfl (.n _ _)
     simp [execOp,ap,resolve,invoke,builtin,Builtin.min_,U.pi,a1.pi,Builtin.min2]
    ·simp at ay
   ·simp at ay
 ·rename_i op t x y dm ap
  split at ay
  ·rename_i sz es U a1
   split at ay
   ·rename_i he
    obtain ⟨e,he⟩:=Option.isSome_iff_exists.1 he
    simp only [Option.some.injEq] at ay
    subst ay
    have h1:=h.eval x
    have o:=h.eval y
    rw [U] at h1;rw [a1] at o
    have c6:es≠[]:=cG _ (by simp)
    refine iJ (v:= .bool false) h ?_ rfl (.b _)
    simp only [execOp,ap]
    rw [Sem.run_bind,(Rr (w:=w) (rG he) c6 h1 o x y).1];rfl
   ·simp at ay
  ·rename_i sz es U a1
   split at ay
   ·rename_i he
    obtain ⟨e,he⟩:=Option.isSome_iff_exists.1 he
    simp only [Option.some.injEq] at ay
    subst ay
    have h1:=h.eval x
    have o:=h.eval y
    rw [U] at h1;rw [a1] at o
    have c6:es≠[]:=cG _ (by simp)
    refine iJ (v:= .bool true) h ?_ rfl (.b _)
    simp only [execOp,ap]
    rw [Sem.run_bind,(Rr (w:=w) (rG he) c6 h1 o x y).2];rfl
   ·simp at ay
  ·rename_i sz U a1
   split at ay
   ·rename_i cm
    obtain ⟨e,he⟩:=D6 cm
    simp only [Option.some.injEq] at ay
    subst ay
    have h1:=h.eval x
    have o:=h.eval y
    rw [U] at h1;rw [a1] at o
    have qt:Rel w (s.ok g az w) s.a7 (s.bj az) .ij (a.eval x):=by rw [h1.Qn];exact .ij
    refine iJ (v:= .bool true) h ?_ rfl (.b _)
    simp only [execOp,ap]
    rw [Sem.run_bind,(ym (w:=w) (r:=true) (by simp [rP,he]) qt o x y).1];rfl
   ·simp at ay
  ·rename_i sz U a1
   split at ay
   ·rename_i cm
    obtain ⟨e,he⟩:=D6 cm
    simp only [Option.some.injEq] at ay
    subst ay
    have h1:=h.eval x
    have o:=h.eval y
    rw [U] at h1;rw [a1] at o
    have qt:Rel w (s.ok g az w) s.a7 (s.bj az) .ij (a.eval x):=by rw [h1.Qn];exact .ij
    refine iJ (v:= .bool false) h ?_ rfl (.b _)
    simp only [execOp,ap]
    rw [Sem.run_bind,(ym (w:=w) (r:=true) (by simp [rP,he]) qt o x y).2];rfl
   ·simp at ay
  ·rename_i sz c U a1
   split at ay
   ·rename_i cm
    obtain ⟨e,he⟩:=D6 cm
    simp only [Option.some.injEq] at ay
    subst ay
    have h1:=h.eval x
    have o:=h.eval y
    rw [U] at h1;rw [a1] at o
    refine iJ (v:= .bool false) h ?_ rfl (.b _)
    simp only [execOp,ap]
    rw [Sem.run_bind,(ym (w:=w) (r:=false) (by simp [rP,he]) h1.KT o x y).1];rfl
   ·simp at ay
  ·rename_i sz c U a1
   split at ay
   ·rename_i cm
    obtain ⟨e,he⟩:=D6 cm
    simp only [Option.some.injEq] at ay
    subst ay
    have h1:=h.eval x
    have o:=h.eval y
    rw [U] at h1;rw [a1] at o
    refine iJ (v:= .bool true) h ?_ rfl (.b _)
    simp only [execOp,ap]
    rw [Sem.run_bind,(ym (w:=w) (r:=false) (by simp [rP,he]) h1.KT o x y).2];rfl
   ·simp at ay
  ·simp at ay
  ·exact D5 h e5 ay cG
 ·rename_i x ap
  split at ay
  ·rename_i sz c U
   simp only [Option.some.injEq] at ay
   subst ay
   have h1:=h.eval x
   rw [U] at h1
   have o:=h1.KT
   obtain ⟨ec,off,aU,hval,iC⟩:=o.yt
   refine iJ (v:=a.eval x) h ?_ rfl o
   rw [hval]
   simp only [execOp,ap,hval]
   rfl
  ·simp at ay
  ·exact D5 h e5 ay cG
 ·exact D5 h e5 ay cG
end
end Go.VL
namespace Go.VL
set_option linter.unusedVariables false
set_option linter.unusedSimpArgs false
open Go
theorem r9 {es:List (List aD)}{j:Nat}{x:aD}(h:es.flatten[j]? = some x): ∃e∈es,x∈e:=by
 have:=List.mem_of_getElem? h
 rw [List.mem_flatten] at this
 obtain ⟨e,he,U⟩:=this
 exact ⟨e,he,U⟩
theorem Rel.pure {w:World}{ok k1:Nat→Prop}{a7 m1:jn}{bj ml:jd}{x:aD}{v:Value}(h:Rel w ok a7 bj x v)(ak:Pure x)(m2:∀b,ok b→k1 b):Rel w k1 m1 ml x v:=by
 induction h with
 | dead v=>exact .dead v
 | b x=>exact .b x
 | n k x=>exact .n k x
 | s x=>exact .s x
 | ij=>exact .ij
 | ei=>exact .ei
 | iB a c=>exact .iB a c
 | pz=>cases ak
 | ref=>cases ak
 | nm=>cases ak
 | nK=>cases ak
 | bf=>cases ak
 | mW=>cases ak
 | nS=>cases ak
 | kf sz a c h=>exact .kf sz a c h
 | isl cs aU nZ aV bh hw iL aq ih =>
  cases ak with
  | isl h=>exact .isl cs (m2 _ aU) nZ aV bh hw iL fun j x U=>ih j x U (by obtain ⟨e,he,qu⟩:=r9 U;exact h e he x qu)
 | ej cs aU nZ aV hw iL aq ih =>
  cases ak with
  | ej h=>exact .ej cs (m2 _ aU) nZ aV hw iL fun j x U=>ih j x U (by obtain ⟨e,he,qu⟩:=r9 U;exact h e he x qu)
 | pk sz=>exact .pk sz
 | o0 h ih =>
  cases ak with
  | o0 ak=>exact .o0 (ih (.ej fun e he x U=>by rw [List.mem_singleton] at he;subst he;exact ak x U))
 | agg vs aV iL aq ih =>
  cases ak with
  | agg h=>exact .agg vs aV iL fun j x v U bk=>ih j x v U bk (h x (List.mem_of_getElem? U))
 | ea vs aV aq ih =>
  cases ak with
  | ea h=>exact .ea vs aV fun j x v U bk=>ih j x v U bk (h x (List.mem_of_getElem? U))
 | fn vs aV aq ih =>
  cases ak with
  | fn h=>exact .fn vs aV fun j x v U bk=>ih j x v U bk (h x (List.mem_of_getElem? U))
abbrev gL:=Nat→Nat→Option (Nat×Nat)
structure Down (q:aD→Prop):Prop where
 agg : ∀c x,q (.agg c)→x∈c→q x
 ea : ∀c x,q (.ea c)→x∈c→q x
 fn : ∀f c x,q (.fn f c)→x∈c→q x
inductive hP (s:S) (a2:gL) (cc:gg→Bool) (q:aD→Prop):aD→aD→Prop
 | dead (x:aD):hP s a2 cc q x .dead
 | pure {x:aD} (h:Pure x) (bd:q x):hP s a2 cc q x x
 | ei (sz:Nat):hP s a2 cc q .ei (.isl sz [])
 | iB (sz:Nat):hP s a2 cc q .iB (.isl sz [])
 | EI (sz:Nat):hP s a2 cc q .ij (.kh sz none)
 | kh {sz:Nat} {x:aD} {c:List aD} (h:hP s a2 cc q x (.ej sz [c] 0 0)):hP s a2 cc q x (.kh sz (some c))
 | ref {r k j eM:Nat} (i off:Nat) (h:a2 j eM=some (r,k)) (hu:s.a7 r k):hP s a2 cc q (.ref r k i off) (.ref j eM i off)
 | bf {r k j eM:Nat} (b0 len:Nat) (h:a2 j eM=some (r,k)) (hu:s.a7 r k):hP s a2 cc q (.bf r k b0 len) (.bf j eM b0 len)
 | mW (r c sz:Nat):hP s a2 cc q (.i2 r c sz none) (.isl sz [])
 | nS {r c sz k n:Nat} {cL:aD} (h:hP s a2 cc q (.bf r (k+c) 0 n) cL):hP s a2 cc q (.i2 r c sz (some (k,n))) cL
 | i2 {r eP c dX sz:Nat} (h:Option (Nat×Nat)) (hm : ∀k,a2 eP (k+dX)=some (r,k+c)):hP s a2 cc q (.i2 r c sz h) (.i2 eP dX sz h)
 | ej {r k:Nat} {I:ae} {gp:List (List aD)} (i off:Nat) (ap:s.ao r k=some I) (bH:cc I.cv=true) (aq:(∀j i,a2 j i≠some (r,k))) (c6:I.es≠[]) (ak:jU gp) (hle : ∀e∈gp,e.length=I.sz) (aV:gp.length=I.es.length)
  (h : ∀(j:Nat) x cL,I.es.flatten[j]? = some x→gp.flatten[j]? = some cL→hP s a2 cc q x cL):hP s a2 cc q (.ref r k i off) (.ej I.sz gp i off)
 | isl {r k b0 len:Nat} {I:ae} {gp:List (List aD)} (ap:s.ao r k=some I) (bH:cc I.cv=true) (aq:(∀j i,a2 j i≠some (r,k))) (iz:b0+len≤I.es.length) (ak:jU gp) (hle : ∀e∈gp,e.length=I.sz) (aV:gp.length=len)
  (h : ∀(j:Nat) x cL,((I.es.drop b0).take len).flatten[j]? = some x→gp.flatten[j]? = some cL→hP s a2 cc q x cL):hP s a2 cc q (.bf r k b0 len) (.isl I.sz gp)
 | agg {c dX:List aD} (aV:dX.length=c.length) (h : ∀(j:Nat) x cL,c[j]? = some x→dX[j]? = some cL→hP s a2 cc q x cL):hP s a2 cc q (.agg c) (.agg dX)
 | ea {c dX:List aD} (aV:dX.length=c.length) (h : ∀(j:Nat) x cL,c[j]? = some x→dX[j]? = some cL→hP s a2 cc q x cL):hP s a2 cc q (.ea c) (.ea dX)
 | fn {f:Nat} {c dX:List aD} (aV:dX.length=c.length) (h : ∀(j:Nat) x cL,c[j]? = some x→dX[j]? = some cL→hP s a2 cc q x cL):hP s a2 cc q (.fn f c) (.fn f dX)
theorem rA {sz:Nat}: ∀(es:List (List aD)),(∀e∈es,e.length=sz)→es.flatten.length=es.length*sz
 | [],_=>by simp
 | e::es,h=>by
  rw [List.flatten_cons,List.length_append,rA es fun x U=>h x (by simp [U]),h e (by simp),List.length_cons,Nat.add_mul];omega
theorem f9 {α:Type}{l:List α}{j:Nat}{x:α}(h:l[j]? = some x):j<l.length:=by
 rcases Nat.lt_or_ge j l.length with cK|cK
 ·exact cK
 ·rw [List.getElem?_eq_none cK] at h;simp at h
theorem hP.rel {g:G}{s:S}{az:fx}{w:World}{a2:gL}{cc:gg→Bool}{q:aD→Prop}(en:ik g s az w){k1:Nat→Prop}{m1:jn}{ml:jd}
 (H1 : ∀x v,q x→Pure x→Rel w (s.ok g az w) s.a7 (s.bj az) x v→Rel w k1 m1 ml x v)
 (FH : ∀r k I b m,s.ao r k=some I→cc I.cv=true→(∀j i,a2 j i≠some (r,k))→az r k=some (b,m)→k1 b)
 (CQ : ∀j i r k,a2 j i=some (r,k)→s.a7 r k→m1 j i∧(ml j i=s.bj az r k∨ml j i=none)) {x cL:aD} (b6:hP s a2 cc q x cL) :
 ∀ {v:Value},Rel w (s.ok g az w) s.a7 (s.bj az) x v→Rel w k1 m1 ml cL v:=by
 induction b6 with
 | dead x=>intro v _;exact .dead v
 | pure ak bd=>intro v aq;exact H1 _ v bd ak aq
 | ei sz=>intro v aq;rw [aq.px];exact .kf sz none 0 (fun _=>rfl)
 | iB sz=>intro v aq;obtain ⟨a,c,rfl⟩:=aq.Eo;exact .kf sz (some a) c (fun h=>by simp at h)
 | EI sz=>intro v aq;rw [aq.u3];exact .pk sz
 | kh h ih=>intro v aq;exact .o0 (ih aq)
 | @ref r k j eM i off aG hu =>
  intro v aq
  obtain ⟨h1,o⟩:=CQ j eM r k aG hu
  cases aq with
  | pz a ox a4 =>
   refine .pz a h1 fun sz p=> ?_
   rcases o with e|e<;>rw [e]
   ·exact a4 sz p
   ·simp
  | ref ox cm =>
   rcases o with e|e
   ·exact .ref h1 (e.trans cm)
   ·exact .pz _ h1 fun sz p=>by rw [e];simp
 | @bf r k j eM b0 len aG hu =>
  intro v aq
  obtain ⟨h1,o⟩:=CQ j eM r k aG hu
  cases aq with
  | nm a l c ox a4 =>
   refine .nm a l c h1 ?_
   rcases o with e|e<;>rw [e]
   exact a4
  | nK ox cm =>
   rcases o with e|e
   ·exact .nK h1 (e.trans cm)
   ·exact .nm _ _ _ h1 e
  | bf ox cm aV bh hm =>
   rcases o with e|e
   ·exact .bf h1 (e.trans cm) aV bh hm
   ·exact .nm _ _ _ h1 e
 | mW r c sz =>
  intro v aq
  cases aq with
  | mW h0 =>
   rcases h0.sl with ⟨-,a,c,rfl,bH⟩|⟨ec,off,c,-,rfl,-⟩
   ·exact .kf sz a c bH
   ·exact .kf sz _ c (fun h=>by simp at h)
 | nS h ih =>
  intro v aq
  cases aq with
  | nS h0=>exact ih h0
 | @i2 r eP c dX sz h hm =>
  intro v aq
  cases aq with
  | mW h0 =>
   rcases h0.sl with ⟨-,a,c,rfl,bH⟩|⟨ec,off,c,-,rfl,-⟩
   ·exact .mW (.kf sz a c bH)
   ·exact .mW (.kf sz _ c (fun h=>by simp at h))
  | @nS _ _ _ k n _ h0 =>
   refine .nS ?_
   cases h0 with
   | nm a l bs ox a4 =>
    obtain ⟨h1,o⟩:=CQ _ _ _ _ (hm k) ox
    refine .nm a l bs h1 ?_
    rcases o with e|e<;>rw [e]
    exact a4
   | nK ox cm =>
    obtain ⟨h1,o⟩:=CQ _ _ _ _ (hm k) ox
    rcases o with e|e
    ·exact .nK h1 (e.trans cm)
    ·exact .nm _ _ _ h1 e
   | bf ox cm aV bh mn =>
    obtain ⟨h1,o⟩:=CQ _ _ _ _ (hm k) ox
    rcases o with e|e
    ·exact .bf h1 (e.trans cm) aV bh mn
    ·exact .nm _ _ _ h1 e
 | @ej r k I gp i off ap bH aq c6 Mm hle aV h ih =>
  intro v bk
  have fE:=en.obj r k I ap
  rcases bk.ys (iK ap) with h0|⟨b,m,ak,hval⟩
  ·rw [h0] at fE;exact absurd fE c6
  ·rw [ak] at fE
   have iC:=fE.rd
   rw [hval]
   have jX:gp.flatten.length=I.es.flatten.length:=by rw [rA gp hle,rA I.es iC.1,aV]
   have vt:oC w k1 m1 ml b 0 I.sz gp:=by
    refine ⟨hle,fun j cL dP=> ?_⟩
    have dU:j<I.es.flatten.length:=by rw [← jX];exact f9 dP
    have U:I.es.flatten[j]? = some I.es.flatten[j]:=List.getElem?_eq_getElem dU
    obtain ⟨u,e1,aE,bP⟩:=iC.2 j _ U
    exact ⟨u,e1,aE,ih j _ cL U dP bP⟩
   have:=vt.ej (i:=i) (off:=off) ⟨FH r k I b m ap bH aq ak,Mm⟩
   rw [Nat.zero_add] at this
   exact this
 | @isl r k b0 len I gp ap bH aq iz Mm hle aV h ih =>
  intro v bk
  have fE:=en.obj r k I ap
  rcases bk.A3 (iK ap) with ⟨ak,rfl,rfl,hval⟩|⟨b,m,A,c,ak,hval,q9,sJ,hm⟩
  ·have:gp=[]:=List.length_eq_zero_iff.1 aV
   subst this
   rw [hval];exact .kf _ none 0 (fun _=>rfl)
  ·rw [ak] at fE
   rw [hval]
   rcases Nat.eq_zero_or_pos len with h0|kg
   ·subst h0
    have:gp=[]:=List.length_eq_zero_iff.1 aV
    subst this
    exact .kf _ A c (fun a4=>by rcases hm with h1|⟨h1,-⟩<;>simp_all)
   ·rcases hm with hm|⟨hA,hm⟩
    ·omega
    ·subst hA
     have iC:=DT fE.rd b0 len (by omega)
     rw [Nat.zero_add] at iC
     have jX:gp.flatten.length=((I.es.drop b0).take len).flatten.length:=by
      rw [rA gp hle,rA _ iC.1,aV,List.length_take,List.length_drop,Nat.min_eq_left (by omega)]
     have vt:oC w k1 m1 ml b (b0*I.sz) I.sz gp:=by
      refine ⟨hle,fun j cL dP=> ?_⟩
      have dU:j<((I.es.drop b0).take len).flatten.length:=by rw [← jX];exact f9 dP
      have U:=List.getElem?_eq_getElem dU
      obtain ⟨u,e1,aE,bP⟩:=iC.2 j _ U
      exact ⟨u,e1,aE,ih j _ cL U dP bP⟩
     have:=vt.isl (c:=c) ⟨FH r k I b m ap bH aq ak,Mm⟩ (by omega)
     rw [aV] at this
     exact this
 | @agg c dX aV h ih =>
  intro v bk
  obtain ⟨vs,rfl,h1,o,af⟩:=bk.A2
  refine .agg vs (by omega) o fun j cL u dP hu=> ?_
  have dU:j<c.length:=by have:=f9 dP;omega
  exact ih j _ cL (List.getElem?_eq_getElem dU) dP (af j _ u (List.getElem?_eq_getElem dU) hu)
 | @ea c dX aV h ih =>
  intro v bk
  obtain ⟨vs,rfl,h1,af⟩:=bk.yr
  refine .ea vs (by omega) fun j cL u dP hu=> ?_
  have dU:j<c.length:=by have:=f9 dP;omega
  exact ih j _ cL (List.getElem?_eq_getElem dU) dP (af j _ u (List.getElem?_eq_getElem dU) hu)
 | @fn f c dX aV h ih =>
  intro v bk
  obtain ⟨vs,rfl,h1,af⟩:=bk.Ez
  refine .fn vs (by omega) fun j cL u dP hu=> ?_
  have dU:j<c.length:=by have:=f9 dP;omega
  exact ih j _ cL (List.getElem?_eq_getElem dU) dP (af j _ u (List.getElem?_eq_getElem dU) hu)
structure oy (s:S) (a2:gL) (cc:gg→Bool) (q:aD→Prop) (I cb:ae):Prop where
 sz:cb.sz=I.sz
 cv:cb.cv=I.cv∨(cb.cv = .i9∧I.cv = .live)∨cb.cv = .gone
 len:cb.es.length=I.es.length
 each : ∀e∈cb.es,e.length=I.sz
 at_ : ∀(j:Nat) x cL,I.es.flatten[j]? = some x→cb.es.flatten[j]? = some cL→hP s a2 cc q x cL
structure pM (s:S) (a2:gL) (cc:gg→Bool) (q:aD→Prop) (hS:Nat→Option (List ae)):Prop where
 inj : ∀j i h2 eM p,a2 j i=some p→a2 h2 eM=some p→j=h2∧i=eM
 at_ : ∀j i cb,dn (hS j) i=some cb→ ∃r k I,a2 j i=some (r,k)∧s.ao r k=some I∧oy s a2 cc q I cb
 a7 : ∀j i r k,a2 j i=some (r,k)→s.a7 r k→i<((hS j).getD []).length
def jY (az:fx)(a2:gL):fx:=fun j i=>match a2 j i with
 | some (r,k)=>az r k
 | none=>none
theorem yC {az:fx}{a2:gL}{j i r k:Nat}(h:a2 j i=some (r,k)):jY az a2 j i=az r k:=by simp [jY,h]
def l6 (_:aD):Prop:=True
theorem adj:Down l6:=⟨fun _ _ _ _=>trivial,fun _ _ _ _=>trivial,fun _ _ _ _ _=>trivial⟩
section
variable {g:G} {s:S} {az:fx} {w:World} {a2:gL} {cc:gg→Bool} {q:aD→Prop} {bV:S}
theorem pM.ao (h:pM s a2 cc q bV.aX){j i:Nat}{cb:ae}(ap:bV.ao j i=some cb): ∃r k I,a2 j i=some (r,k)∧s.ao r k=some I∧oy s a2 cc q I cb:=h.at_ j i cb ap
theorem Q0 {I cb:ae}(h:oy s a2 cc q I cb)(aV:cb.cv = .live):I.cv = .live:=by
 rcases h.cv with e|⟨e,-⟩|e
 ·exact e.symm.trans aV
 ·rw [e] at aV;simp at aV
 ·rw [e] at aV;simp at aV
theorem pM.live (h:pM s a2 cc q bV.aX)(b:Nat)(aV:bV.lX (jY az a2) b): ∃r k I m,s.ao r k=some I∧I.cv = .live∧az r k=some (b,m)∧ ∃j i,a2 j i=some (r,k):=by
 obtain ⟨j,i,cb,m,h1,o,af⟩:=aV
 obtain ⟨r,k,I,e1,aE,bP⟩:=h.ao h1
 rw [yC e1] at af
 exact ⟨r,k,I,m,aE,Q0 bP o,af,j,i,e1⟩
theorem pM.E8 (h:pM s a2 cc q bV.aX){j i r k:Nat}(aG:a2 j i=some (r,k)):bV.bj (jY az a2) j i=s.bj az r k∨bV.bj (jY az a2) j i=none:=by
 cases ap:bV.ao j i with
 | none=>right;simp [S.bj,ap]
 | some cb =>
  obtain ⟨eP,dx,I,e1,aE,bP⟩:=h.ao ap
  rw [aG] at e1;simp only [Option.some.injEq,Prod.mk.injEq] at e1
  obtain ⟨rfl,rfl⟩:=e1
  left
  rw [iK ap,iK aE,bP.sz,yC aG]
theorem ik.Nd (en:ik g s az w)(h:pM s a2 cc q bV.aX){f7:G}(a9:BD f7 w)(Bp:∀j k,f7.o5 j k→bV.a7 j k∧(bV.bj (jY az a2) j k=f7.q7 j k∨bV.bj (jY az a2) j k=none))(BN:∀j k,f7.o5 j k→j<f7.m)
 (adN : ∀b,f7.pr b→b<f7.mM.heap.size) (halt : ∀b,f7.A b→b<f7.mM.heap.size)
 (LW : ∀r k I b m,(∃j i,a2 j i=some (r,k))→s.ao r k=some I→az r k=some (b,m)→f7.mM.heap.size≤b∨f7.pr b)
 (H1 : ∀b,s.ok g az w b→bV.ok f7 (jY az a2) w b)
 (FH : ∀r k I b m,s.ao r k=some I→cc I.cv=true→(∀j i,a2 j i≠some (r,k))→az r k=some (b,m)→bV.ok f7 (jY az a2) w b) :
 ik f7 bV (jY az a2) w∧ ∀ {x cL:aD} {v:Value},hP s a2 cc q x cL→Rel w (s.ok g az w) s.a7 (s.bj az) x v→Rel w (bV.ok f7 (jY az a2) w) bV.a7 (bV.bj (jY az a2)) cL v:=by
 have fE : ∀ {x cL:aD} {v:Value},hP s a2 cc q x cL→Rel w (s.ok g az w) s.a7 (s.bj az) x v→Rel w (bV.ok f7 (jY az a2) w) bV.a7 (bV.bj (jY az a2)) cL v :=
  fun b6 aq=>b6.rel en (fun x v _ ak aq=>aq.pure ak H1) FH (fun j i r k aG hu=>⟨h.a7 j i r k aG hu,h.E8 aG⟩) aq
 refine ⟨⟨?_,?_,?_,a9,adN,halt,Bp,BN⟩,fE⟩
 ·intro j k cb d4
  obtain ⟨r,dx,I,e1,aE,bP⟩:=h.ao d4
  have br:=en.obj r dx I aE
  rw [yC e1]
  cases ak:az r dx with
  | none =>
   rw [ak] at br
   simp only [jy] at br ⊢
   apply List.length_eq_zero_iff.1
   rw [bP.len,br];rfl
  | some q =>
   obtain ⟨b,m⟩:=q
   rw [ak] at br
   obtain ⟨c,eO,h1,o,af,au⟩:=br
   have jX:cb.es.flatten.length=I.es.flatten.length:=by rw [rA _ bP.each,rA _ af,bP.len]
   refine ⟨c,eO,h1,o,by rw [bP.sz];exact bP.each,fun i cL dP=> ?_⟩
   have dU:i<I.es.flatten.length:=by rw [← jX];exact f9 dP
   have U:=List.getElem?_eq_getElem dU
   obtain ⟨u,f1,f2,f3⟩:=au i _ U
   exact ⟨u,f1,f2,fE (bP.at_ i _ cL U dP) f3⟩
 ·intro j k I h2 dx cb b m bO h1 o af au
  obtain ⟨r,lh,p,e1,aE,-⟩:=h.ao h1
  obtain ⟨eP,aer,ku,m7,po,-⟩:=h.ao o
  rw [yC e1] at af
  rw [yC m7] at au
  obtain ⟨rfl,rfl⟩:=en.inj r lh p eP aer ku b m bO aE po af au
  exact h.inj _ _ _ _ _ e1 m7
 ·intro j k I b m h1 o
  obtain ⟨r,lh,p,e1,aE,-⟩:=h.ao h1
  rw [yC e1] at o
  exact LW r lh p b m ⟨j,k,e1⟩ aE o
theorem cO.Q1 {a:Act}(h:cO g s az a w)(c1:pM s a2 (fun _=>true) q bV.aX)(ey:∀t,hP s a2 (fun _=>true) q (s.E t) (bV.E t))(BO:∀j k,g.o5 j k→a2 j k=some (j,k)):cO g bV (jY az a2) a w:=by
 have jO : ∀b,bV.lX (jY az a2) b→s.lX az b:=fun b aV=>by
  obtain ⟨r,k,I,m,h1,o,af,-⟩:=c1.live b aV
  exact ⟨r,k,I,m,h1,o,af⟩
 have Bp : ∀j k,g.o5 j k→bV.a7 j k∧(bV.bj (jY az a2) j k=g.q7 j k∨bV.bj (jY az a2) j k=none):=by
  intro j k aG
  obtain ⟨e1,aE⟩:=h.stay j k aG
  refine ⟨c1.a7 j k j k (BO j k aG) e1,?_⟩
  rcases c1.E8 (az:=az) (BO j k aG) with e|e
  ·rw [e];exact aE
  ·exact .inr e
 obtain ⟨h1,o⟩:=h.toik.Nd c1 h.gY Bp h.low h.mlt h.nw (fun r k I b m _ ap ak=>h.own r k I b m ap ak)
  (fun b aU=>⟨aU.1,aU.2.1,fun aV=>aU.2.2 (jO b aV)⟩)
  (fun r k I b m ap _ aq ak=>by
    have br:=h.obj r k I ap
    rw [ak] at br
    obtain ⟨c,eO,e1,-⟩:=br
    refine ⟨(Array.getElem?_eq_some_iff.1 e1).1,?_,fun aV=> ?_⟩
    ·rcases h.own r k I b m ap ak with e|e
     ·exact .inr (.inl e)
     ·exact .inr (.inr e)
    ·obtain ⟨eP,dx,cb,bO,f1,f2,f3,⟨Nf,CR,f4⟩⟩:=c1.live b aV
     obtain ⟨rfl,rfl⟩:=h.inj r k I eP dx cb b m bO ap f1 ak f3
     exact aq Nf CR f4)
 exact {toik:=h1,env:=fun t=>o (ey t) (h.env t),defers:=h.defers,jW:=h.jW}
end
end Go.VL
namespace Go.VL
set_option linter.unusedVariables false
set_option linter.unusedSimpArgs false
open Go
def fe (T:List (List ae)):S:={E:=fun _=> .dead,aX:=fun r=>T[r]?}
def adk (P:Program)(f:FuncId)(args:List aD)(T:List (List ae))(r:aD)(iH:List (List ae)):Prop :=
 ∀(g:G) (az:fx) (w:World) (vs:Array Value),g.mM=w→g.m=T.length→g.o5=(fe T).a7→g.q7=(fe T).bj az→ik g (fe T) az w→vs.size=args.length →
  (∀(j:Nat) x v,args[j]? = some x→vs[j]? = some v→Rel w ((fe T).ok g az w) (fe T).a7 ((fe T).bj az) x v) →
  Calls P f vs w fun e bS=> ∃v bR,e = .returned v∧ik g (fe iH) bR bS∧Rel bS ((fe iH).ok g bR bS) (fe iH).a7 ((fe iH).bj bR) r v
inductive bX:aD→Prop
 | dead:bX .dead
 | b (x:Bool):bX (.b x)
 | n (k:IntKind) (x:Int):bX (.n k x)
 | s (x:ByteArray):bX (.s x)
 | ij:bX .ij
 | ei:bX .ei
 | iB:bX .iB
 | kf (sz:Nat):bX (.isl sz [])
 | ref (r k i off:Nat):bX (.ref r k i off)
 | bf (r k b0 len:Nat):bX (.bf r k b0 len)
 | i2 (r c sz:Nat) (h:Option (Nat×Nat)):bX (.i2 r c sz h)
 | agg {c:List aD} (h : ∀x∈c,bX x):bX (.agg c)
 | ea {c:List aD} (h : ∀x∈c,bX x):bX (.ea c)
theorem adl:Down bX:=⟨fun _ _ h U=>by cases h with|agg h=>exact h _ U,fun _ _ h U=>by cases h with|ea h=>exact h _ U,fun _ _ _ h=>by cases h⟩
theorem Rel.er {w bS:World}{ok k1:Nat→Prop}{a7 m1:jn}{bj ml:jd}{x:aD}(b6:bX x): ∀ {v:Value},Pure x→Rel w ok a7 bj x v→Rel bS k1 m1 ml x v:=by
 induction b6 with
 | dead=>intro v _ h;exact .dead v
 | b x=>intro v _ h;rw [h.tw];exact .b x
 | n k x=>intro v _ h;rw [h.pi];exact .n k x
 | s x=>intro v _ h;rw [h.yJ];exact .s x
 | ij=>intro v _ h;rw [h.u3];exact .ij
 | ei=>intro v _ h;rw [h.px];exact .ei
 | iB=>intro v _ h;obtain ⟨a,c,rfl⟩:=h.Eo;exact .iB a c
 | kf sz =>
  intro v _ h
  rcases h.sl with ⟨-,a,c,rfl,bH⟩|⟨ec,off,c,-,rfl,-⟩
  ·exact .kf sz a c bH
  ·exact .kf sz _ c (fun h=>by simp at h)
 | ref=>intro v ak;cases ak
 | bf=>intro v ak;cases ak
 | i2=>intro v ak;cases ak
 | @agg c bh ih =>
  intro v ak h
  obtain ⟨vs,rfl,h1,o,af⟩:=h.A2
  cases ak with
  | agg ak=>exact .agg vs h1 o fun j x u U hu=>ih x (List.mem_of_getElem? U) (ak x (List.mem_of_getElem? U)) (af j x u U hu)
 | @ea c bh ih =>
  intro v ak h
  obtain ⟨vs,rfl,h1,af⟩:=h.yr
  cases ak with
  | ea ak=>exact .ea vs h1 fun j x u U hu=>ih x (List.mem_of_getElem? U) (ak x (List.mem_of_getElem? U)) (af j x u U hu)
section
variable {P:Program} {g:G} {s:S} {az:fx} {a:Act} {w:World}
theorem Be (h:ik g s az w){r k b m:Nat}{I:ae}(ap:s.ao r k=some I)(ak:az r k=some (b,m)):b<w.heap.size:=by
 have:=h.obj r k I ap
 rw [ak] at this
 obtain ⟨c,eO,e,-⟩:=this
 exact (Array.getElem?_eq_some_iff.1 e).1
theorem acN (h:ik g s az w){r k b m:Nat}{I:ae}(ap:s.ao r k=some I)(a9:I.cv = .i9)(ak:az r k=some (b,m)):s.ok g az w b:=by
 refine ⟨Be h ap ak,?_,?_⟩
 ·rcases h.own r k I b m ap ak with e|e
  ·exact .inr (.inl e)
  ·exact .inr (.inr e)
 ·rintro ⟨eP,dx,cb,bO,h1,o,af⟩
  obtain ⟨rfl,rfl⟩:=h.inj r k I eP dx cb b m bO ap h1 ak af
  rw [ap] at h1;simp at h1;subst h1;rw [a9] at o;simp at o
theorem enter (h:ik g s az w){a2:gL}{cc:gg→Bool}{q:aD→Prop}{T:List (List ae)}(A:Nat→Prop)
 (hA : ∀b,A b→b<w.heap.size) (Mn : ∀b,s.ok g az w b→A b)
 (Mo : ∀r k I b m,s.ao r k=some I→cc I.cv=true→az r k=some (b,m)→A b)
 (c1:pM s a2 cc q (fe T).aX) (pB : ∀r k I,(∃j i,a2 j i=some (r,k))→s.ao r k=some I→I.cv = .live) :
 ∃f7:G,f7.mM=w∧f7.A=A∧f7.m=T.length∧f7.o5=(fe T).a7∧f7.q7=(fe T).bj (jY az a2) ∧
  (f7.pr=fun b=> ∃r k I m,(∃j i,a2 j i=some (r,k))∧s.ao r k=some I∧az r k=some (b,m))∧ik f7 (fe T) (jY az a2) w ∧
  ∀ {x cL:aD} {v:Value},hP s a2 cc q x cL→Rel w (s.ok g az w) s.a7 (s.bj az) x v→Rel w ((fe T).ok f7 (jY az a2) w) (fe T).a7 ((fe T).bj (jY az a2)) cL v:=by
 let f7:G:={mM:=w,A:=A,pr:=fun b=> ∃r k I m,(∃j i,a2 j i=some (r,k))∧s.ao r k=some I∧az r k=some (b,m),N:=0,m:=T.length,o5:=(fe T).a7,q7:=(fe T).bj (jY az a2)}
 refine ⟨f7,rfl,rfl,rfl,rfl,rfl,rfl,?_⟩
 have jO : ∀b,(fe T).lX (jY az a2) b→ ∃r k I m,s.ao r k=some I∧I.cv = .live∧az r k=some (b,m)∧ ∃j i,a2 j i=some (r,k):=fun b aV=>c1.live b aV
 refine ik.Nd (bV:=fe T) (f7:=f7) h c1 ⟨rfl,rfl,rfl,Nat.le_refl _,fun _ _ _=>rfl⟩ (fun j k aG=>⟨aG,.inl rfl⟩) ?_ ?_ hA ?_ ?_ ?_
 ·intro j k aG
  have aG:k<((T[j]?).getD []).length:=aG
  rcases Nat.lt_or_ge j T.length with h1|h1
  ·exact h1
  ·rw [List.getElem?_eq_none h1] at aG;simp at aG
 ·rintro b ⟨r,k,I,m,-,ap,ak⟩
  exact Be h ap ak
 ·intro r k I b m hm ap ak
  exact .inr ⟨r,k,I,m,hm,ap,ak⟩
 ·intro b aU
  refine ⟨aU.1,.inl (Mn b aU),fun aV=> ?_⟩
  obtain ⟨r,k,I,m,h1,o,af,-⟩:=jO b aV
  exact aU.2.2 ⟨r,k,I,m,h1,o,af⟩
 ·intro r k I b m ap bH aq ak
  refine ⟨Be h ap ak,.inl (Mo r k I b m ap bH ak),fun aV=> ?_⟩
  obtain ⟨eP,dx,cb,bO,h1,o,af,⟨j,i,aG⟩⟩:=jO b aV
  obtain ⟨rfl,rfl⟩:=h.inj r k I eP dx cb b m bO ap h1 ak af
  exact aq j i aG
theorem leave (h:cO g s az a w){bS:World}{a2 kV:gL}{cc:gg→Bool}{q0 q:aD→Prop}{f7:G}{T eV:List (List ae)}{k2:fx}
 (dB:f7.mM=w) (hA:(∀b,f7.A b→s.ok g az w b)∨(∀x,q x→bX x)) (vB:f7.o5=(fe T).a7) (ls:f7.q7=(fe T).bj (jY az a2))
 (en:f7.pr=fun b=> ∃r k I m,(∃j i,a2 j i=some (r,k))∧s.ao r k=some I∧az r k=some (b,m))
 (pB : ∀r k I,(∃j i,a2 j i=some (r,k))→s.ao r k=some I→I.cv = .live)
 (c1:pM s a2 cc q0 (fe T).aX) (h1:ik f7 (fe eV) k2 bS)
 (Bq : ∀j i r k,a2 j i=some (r,k)→kV r k=some (j,i)) (ER : ∀r k j i,kV r k=some (j,i)→a2 j i=some (r,k)∨ ¬s.a7 r k)
 (adO : ∀r k eP dx p,kV r k=some p→kV eP dx=some p→r=eP∧k=dx)
 {s2:S} (ey:s2.E=s.E)
 (br : ∀r k I,s2.ao r k=some I→(∃j i p,kV r k=some (j,i)∧(fe eV).ao j i=some p∧oy (fe eV) kV (fun _=>false) q p I)∨(kV r k=none∧s.ao r k=some I))
 (jC : ∀r k,s.a7 r k→s2.a7 r k) (adP : ∀r k j i,kV r k=some (j,i)→(fe eV).a7 j i→s2.a7 r k)
 {x cL:aD} {v:Value} (U:hP (fe eV) kV (fun _=>false) q x cL) (bk:Rel bS ((fe eV).ok f7 k2 bS) (fe eV).a7 ((fe eV).bj k2) x v) :
 ∃lB,cO g s2 lB a bS∧Rel bS (s2.ok g lB bS) s2.a7 (s2.bj lB) cL v:=by
 let lB:fx:=fun r k=>match kV r k with|some (j,i)=>k2 j i|none=>az r k
 have p1 : ∀r k j i,kV r k=some (j,i)→lB r k=k2 j i:=fun r k j i e=>by simp [lB,e]
 have hz : ∀r k,kV r k=none→lB r k=az r k:=fun r k e=>by simp [lB,e]
 have a9:=h1.gY
 have fa:w.heap.size≤bS.heap.size:=by have:=a9.size;rw [dB] at this;exact this
 have sD : ∀b,b<w.heap.size→ ¬f7.pr b→bS.heap[b]? = w.heap[b]? := fun b aU lb=>by
  have:=a9.block b (by rw [dB];exact aU) lb
  rw [dB] at this;exact this
 have E9 : ∀j k p b m,(fe eV).ao j k=some p→k2 j k=some (b,m)→w.heap.size≤b∨ ∃r dx I bO,(∃j i,a2 j i=some (r,dx))∧s.ao r dx=some I∧az r dx=some (b,bO):=by
  intro j k p b m ak aU
  rcases h1.own j k p b m ak aU with e|e
  ·rw [dB] at e;exact .inl e
  ·rw [en] at e;exact .inr e
 have hold : ∀q k I b m,kV q k=none→s.ao q k=some I→az q k=some (b,m)→b<w.heap.size∧ ¬f7.pr b:=by
  intro q k I b m bd ap ak
  refine ⟨Be h.toik ap ak,fun lb=> ?_⟩
  rw [en] at lb
  obtain ⟨r,dx,cb,bO,⟨j,i,aq⟩,d4,nZ⟩:=lb
  obtain ⟨rfl,rfl⟩:=h.inj q k I r dx cb b m bO ap d4 ak nZ
  rw [Bq _ _ _ _ aq] at bd;simp at bd
 have Rt : ∀b,s2.lX lB b→(fe eV).lX k2 b∨(∃q k I m,kV q k=none∧s.ao q k=some I∧I.cv = .live∧az q k=some (b,m)):=by
  rintro b ⟨q,k,I,m,ap,nY,ak⟩
  rcases br q k I ap with ⟨j,i,p,e1,aE,bP⟩|⟨e1,aE⟩
  ·rw [p1 _ _ _ _ e1] at ak
   exact .inl ⟨j,i,p,m,aE,Q0 bP nY,ak⟩
  ·rw [hz _ _ e1] at ak
   exact .inr ⟨q,k,I,m,e1,aE,nY,ak⟩
 have m2 : ∀b,s.ok g az w b→s2.ok g lB bS b:=by
  intro b aU
  refine ⟨Nat.lt_of_lt_of_le aU.1 fa,aU.2.1,fun aV=> ?_⟩
  rcases Rt b aV with ⟨j,k,p,m,e1,aE,bP⟩|⟨q,k,I,m,e1,aE,bP,c3⟩
  ·rcases E9 j k p b m e1 bP with e|⟨r,dx,I,bO,aq,ap,ak⟩
   ·have:=aU.1;omega
   ·exact aU.2.2 ⟨r,dx,I,bO,ap,pB r dx I aq ap,ak⟩
  ·exact aU.2.2 ⟨q,k,I,m,aE,bP,c3⟩
 have Sk : ∀r k,s.a7 r k→s2.bj lB r k=s.bj az r k∨s2.bj lB r k=none:=by
  intro r k aq
  cases ap:s2.ao r k with
  | none=>right;simp [S.bj,ap]
  | some I =>
   left
   rcases br r k I ap with ⟨j,i,p,e1,aE,bP⟩|⟨e1,aE⟩
   ·rcases ER r k j i e1 with aG|aG
    ·have mm:=(h1.stay j i (by rw [vB];exact c1.a7 _ _ _ _ aG aq)).2
     rw [ls,iK aE] at mm
     have mm:some (p.sz,k2 j i)=(fe T).bj (jY az a2) j i:=by
      rcases mm with e|e
      ·exact e
      ·simp at e
     have:=c1.E8 (bV:=fe T) (az:=az) aG
     rw [← mm] at this
     rw [iK ap,bP.sz,p1 _ _ _ _ e1]
     rcases this with e|e
     ·exact e
     ·simp at e
    ·exact absurd aq aG
   ·rw [iK ap,iK aE,hz _ _ e1]
 have adm : ∀b,s.ok g az w b→bS.heap[b]? = w.heap[b]? := by
  intro b aU
  refine sD b aU.1 fun lb=> ?_
  rw [en] at lb
  obtain ⟨r,dx,I,bO,aq,ap,ak⟩:=lb
  exact aU.2.2 ⟨r,dx,I,bO,ap,pB r dx I aq ap,ak⟩
 have fE : ∀ {y:aD} {u:Value},Rel w (s.ok g az w) s.a7 (s.bj az) y u→Rel bS (s2.ok g lB bS) s2.a7 (s2.bj lB) y u :=
  fun aq=>aq.mono m2 adm jC Sk
 have adQ:(∀b,f7.A b→s.ok g az w b)→ ∀b,(fe eV).ok f7 k2 bS b→s2.ok g lB bS b:=by
  intro hA b aU
  have LW:g.A b∨g.mM.heap.size≤b∨g.pr b:=by
   rcases aU.2.1 with e|e|e
   ·exact (hA b e).2.1
   ·rw [dB] at e;exact .inr (.inl (Nat.le_trans h.gY.size e))
   ·rw [en] at e
    obtain ⟨r,k,I,m,-,ap,ak⟩:=e
    rcases h.own r k I b m ap ak with e|e
    ·exact .inr (.inl e)
    ·exact .inr (.inr e)
  refine ⟨aU.1,LW,fun aV=> ?_⟩
  rcases Rt b aV with e|⟨q,k,I,m,e1,aE,bP,c3⟩
  ·exact aU.2.2 e
  ·have bd:=hold q k I b m e1 aE c3
   rcases aU.2.1 with e|e|e
   ·exact (hA b e).2.2 ⟨q,k,I,m,aE,bP,c3⟩
   ·rw [dB] at e;omega
   ·exact bd.2 e
 have RW : ∀ {y l9:aD} {u:Value},hP (fe eV) kV (fun _=>false) q y l9→Rel bS ((fe eV).ok f7 k2 bS) (fe eV).a7 ((fe eV).bj k2) y u→Rel bS (s2.ok g lB bS) s2.a7 (s2.bj lB) l9 u:=by
  intro y l9 u b6 aq
  refine b6.rel h1 (fun x v bd ak aq=> ?_) (fun _ _ _ _ _ _ bH _ _=>by simp at bH) ?_ aq
  ·rcases hA with hA|hA
   ·exact aq.pure ak (adQ hA)
   ·exact aq.er (hA x bd) ak
  ·intro r k j i bd aG
   refine ⟨adP r k j i bd aG,?_⟩
   cases ap:s2.ao r k with
   | none=>right;simp [S.bj,ap]
   | some I =>
    left
    rcases br r k I ap with ⟨h2,eM,p,e1,aE,bP⟩|⟨e1,-⟩
    ·rw [bd] at e1;simp only [Option.some.injEq,Prod.mk.injEq] at e1
     obtain ⟨rfl,rfl⟩:=e1
     rw [iK ap,iK aE,bP.sz,p1 _ _ _ _ bd]
    ·rw [bd] at e1;simp at e1
 refine ⟨lB,{toik:=⟨?_,?_,?_,?_,h.mlt,h.nw,?_,h.low⟩,env:=fun t=>by rw [ey];exact fE (h.env t),defers:=h.defers,jW:=h.jW},RW U bk⟩
 ·intro q k I ap
  rcases br q k I ap with ⟨j,i,p,e1,aE,bP⟩|⟨e1,aE⟩
  ·have ak:=h1.obj j i p aE
   rw [p1 _ _ _ _ e1]
   cases kE:k2 j i with
   | none =>
    rw [kE] at ak
    simp only [jy] at ak ⊢
    apply List.length_eq_zero_iff.1
    rw [bP.len,ak];rfl
   | some s0 =>
    obtain ⟨b,m⟩:=s0
    rw [kE] at ak
    obtain ⟨c,eO,f1,f2,f3,f4⟩:=ak
    have jX:I.es.flatten.length=p.es.flatten.length:=by rw [rA _ bP.each,rA _ f3,bP.len]
    refine ⟨c,eO,f1,f2,by rw [bP.sz];exact bP.each,fun i cL dP=> ?_⟩
    have dU:i<p.es.flatten.length:=by rw [← jX];exact f9 dP
    have kF:=List.getElem?_eq_getElem dU
    obtain ⟨u,lC,n6,gV⟩:=f4 i _ kF
    exact ⟨u,lC,n6,RW (bP.at_ i _ cL kF dP) gV⟩
  ·have ak:=h.obj q k I aE
   rw [hz _ _ e1]
   cases kE:az q k with
   | none=>rw [kE] at ak;exact ak
   | some s0 =>
    obtain ⟨b,m⟩:=s0
    rw [kE] at ak
    obtain ⟨c,eO,f1,f2,f3,f4⟩:=ak
    obtain ⟨tL,Mp⟩:=hold q k I b m e1 aE kE
    refine ⟨c,eO,(sD b tL Mp).trans f1,f2,f3,fun i cL dP=> ?_⟩
    obtain ⟨u,lC,n6,gV⟩:=f4 i cL dP
    exact ⟨u,lC,n6,fE gV⟩
 ·intro q k I hO dx cb b m bO o af au aA
  rcases br q k I o with ⟨j,i,p,e1,aE,bP⟩|⟨e1,aE⟩<;>rcases br hO dx cb af with ⟨h2,eM,ku,m7,po,B9⟩|⟨m7,po⟩
  ·rw [p1 _ _ _ _ e1] at au;rw [p1 _ _ _ _ m7] at aA
   obtain ⟨rfl,rfl⟩:=h1.inj j i p h2 eM ku b m bO aE po au aA
   exact adO _ _ _ _ _ e1 m7
  ·rw [p1 _ _ _ _ e1] at au;rw [hz _ _ m7] at aA
   obtain ⟨f1,f2⟩:=hold hO dx cb b bO m7 po aA
   rcases E9 j i p b m aE au with e|e
   ·omega
   ·exact absurd (by rw [en];exact e) f2
  ·rw [hz _ _ e1] at au;rw [p1 _ _ _ _ m7] at aA
   obtain ⟨f1,f2⟩:=hold q k I b m e1 aE au
   rcases E9 h2 eM ku b bO po aA with e|e
   ·omega
   ·exact absurd (by rw [en];exact e) f2
  ·rw [hz _ _ e1] at au;rw [hz _ _ m7] at aA
   exact h.inj q k I hO dx cb b m bO aE po au aA
 ·intro q k I b m o au
  rcases br q k I o with ⟨j,i,p,e1,aE,bP⟩|⟨e1,aE⟩
  ·rw [p1 _ _ _ _ e1] at au
   rcases E9 j i p b m aE au with e|⟨r,dx,cb,bO,aq,ap,ak⟩
   ·exact .inl (Nat.le_trans h.gY.size e)
   ·exact h.own r dx cb b bO ap ak
  ·rw [hz _ _ e1] at au;exact h.own q k I b m aE au
 ·have e1:=a9.os;have aE:=a9.tape;have bP:=a9.output
  rw [dB] at e1 aE bP
  refine h.gY.step e1 aE bP fa fun b aU n0=>sD b (Nat.lt_of_lt_of_le aU h.gY.size) fun lb=> ?_
  rw [en] at lb
  obtain ⟨r,k,I,m,-,ap,ak⟩:=lb
  rcases h.own r k I b m ap ak with e|e
  ·omega
  ·exact n0 e
 ·intro j k aG
  obtain ⟨e1,aE⟩:=h.stay j k aG
  refine ⟨jC j k e1,?_⟩
  rcases Sk j k e1 with e|e
  ·rw [e];exact aE
  ·exact .inr e
def kS (a b n:Nat):aD→aD
 | .ref r k i off=>if r=a then .ref b (n+k) i off else .ref r k i off
 | .bf r k b0 len=>if r=a then .bf b (n+k) b0 len else .bf r k b0 len
 | .i2 r c sz h=>if r=a then .i2 b (n+c) sz h else .i2 r c sz h
 | .agg c=> .agg (y6 c)
 | .ea c=> .ea (y6 c)
 | x=>x
where y6:List aD→List aD
 | []=>[]
 | x::l=>kS a b n x::y6 l
def mo (a b n:Nat)(I:ae):ae:={I with es:=I.es.map fun e=>e.map (kS a b n)}
def qW (I:ae):ae:=⟨0,[],.gone⟩
theorem EA (a b n:Nat): ∀l:List aD,kS.y6 a b n l=l.map (kS a b n)
 | []=>rfl
 | x::l=>by rw [kS.y6,EA a b n l];rfl
theorem kB (l:List ae)(k:Nat):dn (some l) k=(l[k]?).bind fun I=>if I.cv = .gone then none else some I:=by
 unfold dn
 cases h:l[k]? <;> simp [h]
theorem map_flatten {es:List (List aD)}(f:aD→aD):(es.map fun e=>e.map f).flatten=es.flatten.map f:=by
 induction es with
 | nil=>rfl
 | cons e es ih=>rw [List.map_cons,List.flatten_cons,List.flatten_cons,List.map_append,ih]
theorem cO.merge (h:cO g s az a w){r eP:Nat}{l fB:List ae}(aq:s.aX r=some l)(hF:s.aX eP=some fB)(c6:eP≠r):
 ∃bR,cO g ((s.setRow eP (fB.map qW)).setRow r (l++fB.map (mo eP r l.length))) bR a w ∧
  ∀x v,Rel w (s.ok g az w) s.a7 (s.bj az) x v→Rel w (((s.setRow eP (fB.map qW)).setRow r (l++fB.map (mo eP r l.length))).ok g bR w)
   ((s.setRow eP (fB.map qW)).setRow r (l++fB.map (mo eP r l.length))).a7 (((s.setRow eP (fB.map qW)).setRow r (l++fB.map (mo eP r l.length))).bj bR) (kS eP r l.length x) v:=by
 generalize sK:(s.setRow eP (fB.map qW)).setRow r (l++fB.map (mo eP r l.length))=s2
 let bR:fx:=fun q k=>if q=r∧l.length≤k then az eP (k-l.length) else az q k
 have br : ∀q k I,s2.ao q k=some I→(q=r∧l.length≤k∧ ∃p,s.ao eP (k-l.length)=some p∧I=mo eP r l.length p∧bR q k=az eP (k-l.length)) ∨
  (q≠eP∧s.ao q k=some I∧bR q k=az q k∧ ¬(q=r∧l.length≤k)):=by
  intro q k I ap
  subst sK
  rw [lG] at ap
  by_cases e:q=r
  ·subst e
   rw [if_pos rfl] at ap
   by_cases a9:l.length≤k
   ·left
    refine ⟨rfl,a9,?_⟩
    rw [kB,List.getElem?_append_right a9,List.getElem?_map] at ap
    cases ak:fB[k-l.length]? with
    | none=>rw [ak] at ap;simp at ap
    | some p =>
     rw [ak] at ap
     simp only [Option.map_some,Option.bind_some] at ap
     split at ap
     ·simp at ap
     ·rename_i dB
      simp only [Option.some.injEq] at ap
      refine ⟨p,?_,ap.symm,by simp [bR,a9]⟩
      unfold S.ao
      rw [hF,kB,ak,Option.bind_some,if_neg (by simpa [mo] using dB)]
   ·right
    refine ⟨Ne.symm c6,?_,by simp [bR,a9],fun fW=>a9 fW.2⟩
    unfold S.ao
    rw [aq,kB]
    rw [kB,List.getElem?_append_left (by omega)] at ap
    exact ap
  ·rw [if_neg e,lG] at ap
   by_cases aE:q=eP
   ·subst aE
    rw [if_pos rfl,kB,List.getElem?_map] at ap
    cases ak:fB[k]? with
    | none=>rw [ak] at ap;simp at ap
    | some p=>rw [ak] at ap;simp [qW] at ap
   ·rw [if_neg aE] at ap
    exact .inr ⟨aE,ap,by simp [bR,e],fun fW=>e fW.1⟩
 have jC : ∀q k,s.a7 q k→s2.a7 q k:=by
  intro q k bd
  subst sK
  rw [nj]
  by_cases e:q=r
  ·subst e;rw [if_pos rfl];simp [S.a7,aq] at bd;simp;omega
  ·rw [if_neg e,nj]
   by_cases aE:q=eP
   ·subst aE;rw [if_pos rfl];simpa [S.a7,hF] using bd
   ·rw [if_neg aE];exact bd
 have BP : ∀k,s.a7 eP k→s2.a7 r (l.length+k):=by
  intro k bd
  subst sK
  rw [nj,if_pos rfl]
  simp [S.a7,hF] at bd
  simp;omega
 have BQ : ∀k,s2.bj bR r (l.length+k)=s.bj az eP k:=by
  intro k
  subst sK
  simp only [S.bj]
  rw [lG,if_pos rfl]
  unfold S.ao
  rw [hF,kB,kB,List.getElem?_append_right (by omega),List.getElem?_map,show l.length+k-l.length=k by omega]
  cases ak:fB[k]? with
  | none=>simp
  | some p =>
   simp only [Option.map_some,Option.bind_some]
   by_cases dB:p.cv = .gone
   ·rw [if_pos dB,if_pos (by simpa [mo] using dB)];rfl
   ·rw [if_neg dB,if_neg (by simpa [mo] using dB)]
    simp [bR,mo]
 have ls : ∀q k,s.a7 q k→s2.bj bR q k=s.bj az q k∨s2.bj bR q k=none:=by
  intro q k bd
  cases ap:s2.ao q k with
  | none=>right;simp [S.bj,ap]
  | some I =>
   left
   rcases br q k I ap with ⟨rfl,aE,-⟩|⟨-,aE,bP,-⟩
   ·simp [S.a7,aq] at bd;omega
   ·rw [iK ap,iK aE,bP]
 have pB : ∀b,s2.lX bR b→s.lX az b:=by
  rintro b ⟨q,k,I,m,h1,o,af⟩
  rcases br q k I h1 with ⟨-,-,p,e1,aE,bP⟩|⟨-,e1,aE,-⟩
  ·rw [bP] at af;subst aE;exact ⟨eP,_,p,m,e1,o,af⟩
  ·rw [aE] at af;exact ⟨q,k,I,m,e1,o,af⟩
 have dH:Step g s az w s2 bR w:=⟨jC,ls,fun b aV=> .inl (pB b aV),fun _ _ _=>rfl,Nat.le_refl _⟩
 have Cd : ∀x v,Rel w (s.ok g az w) s.a7 (s.bj az) x v→Rel w (s2.ok g bR w) s2.a7 (s2.bj bR) (kS eP r l.length x) v:=by
  intro x v lu
  induction lu with
  | dead v=>exact .dead v
  | b x=>exact .b x
  | n k x=>exact .n k x
  | s x=>exact .s x
  | ij=>exact .ij
  | ei=>exact .ei
  | iB a c=>exact .iB a c
  | @pz r1 k i off a hu fW =>
   unfold kS
   split
   ·rename_i e;subst e
    exact .pz a (BP k hu) (by rw [BQ];exact fW)
   ·exact dH.rel (.pz a hu fW)
  | @ref r1 k i off sz ec m hu fW =>
   unfold kS
   split
   ·rename_i e;subst e
    exact .ref (BP k hu) (by rw [BQ];exact fW)
   ·exact dH.rel (.ref hu fW)
  | @nm r1 k b0 len a bs cn hu fW =>
   unfold kS
   split
   ·rename_i e;subst e
    exact .nm a bs cn (BP k hu) (by rw [BQ];exact fW)
   ·exact dH.rel (.nm a bs cn hu fW)
  | @nK r1 k sz hu fW =>
   unfold kS
   split
   ·rename_i e;subst e
    exact .nK (BP k hu) (by rw [BQ];exact fW)
   ·exact dH.rel (.nK hu fW)
  | @bf r1 k b0 len sz ec m c a hu fW aV bh mn =>
   unfold kS
   split
   ·rename_i e;subst e
    exact .bf (BP k hu) (by rw [BQ];exact fW) aV bh mn
   ·exact dH.rel (.bf hu fW aV bh mn)
  | @mW r1 c sz v h0 ih =>
   unfold kS
   split
   ·exact .mW (dH.rel h0)
   ·exact dH.rel (.mW h0)
  | @nS r1 c sz k n v h0 ih =>
   unfold kS
   split
   ·rename_i e;subst e
    unfold kS at ih
    rw [if_pos rfl] at ih
    exact .nS (by rw [show k+(l.length+c)=l.length+(k+c) by omega];exact ih)
   ·exact dH.rel (.nS h0)
  | kf sz a c h=>exact .kf sz a c h
  | isl cs aU ak aV bh hw iL lu ih=>exact dH.rel (.isl cs aU ak aV bh hw iL lu)
  | ej cs aU ak aV hw iL lu ih=>exact dH.rel (.ej cs aU ak aV hw iL lu)
  | pk sz=>exact .pk sz
  | o0 h0 ih=>exact dH.rel (.o0 h0)
  | agg vs aV iL lu ih =>
   unfold kS
   rw [EA]
   refine .agg vs (by simpa using aV) iL fun j x v U bk=> ?_
   rw [List.getElem?_map,Option.map_eq_some_iff] at U
   obtain ⟨y,a1,rfl⟩:=U
   exact ih j y v a1 bk
  | ea vs aV lu ih =>
   unfold kS
   rw [EA]
   refine .ea vs (by simpa using aV) fun j x v U bk=> ?_
   rw [List.getElem?_map,Option.map_eq_some_iff] at U
   obtain ⟨y,a1,rfl⟩:=U
   exact ih j y v a1 bk
  | fn vs aV lu ih=>exact dH.rel (.fn vs aV lu)
 refine ⟨bR,{toik:=⟨?_,?_,?_,h.gY,h.mlt,h.nw,?_,h.low⟩,env:=fun t=>by rw [show s2.E=s.E by rw [← sK];rfl];exact dH.rel (h.env t),defers:=h.defers,jW:=h.jW},Cd⟩
 ·intro q k I ap
  rcases br q k I ap with ⟨-,-,p,e1,aE,bP⟩|⟨-,e1,aE,-⟩
  ·rw [bP]
   subst aE
   have ak:=h.obj eP _ p e1
   cases kE:az eP (k-l.length) with
   | none=>rw [kE] at ak;simp only [jy] at ak ⊢;simp [mo,ak]
   | some s0 =>
    obtain ⟨b,m⟩:=s0
    rw [kE] at ak
    obtain ⟨c,eO,f1,f2,f3,f4⟩:=ak
    refine ⟨c,eO,f1,f2,?_,fun j x U=> ?_⟩
    ·intro e he
     simp only [mo,List.mem_map] at he
     obtain ⟨ex,l2,rfl⟩:=he
     simpa [mo] using f3 ex l2
    ·simp only [mo] at U
     rw [map_flatten,List.getElem?_map,Option.map_eq_some_iff] at U
     obtain ⟨y,a1,rfl⟩:=U
     obtain ⟨u,lC,n6,gV⟩:=f4 j y a1
     exact ⟨u,lC,n6,Cd y u gV⟩
  ·rw [aE]
   exact dH.obj (fun b m _=>rfl) (h.obj q k I e1)
 ·intro q k I q1 lh b8 b m bO h1 o af au
  rcases br q k I h1 with ⟨rfl,f1,p,e1,aE,bP⟩|⟨f1,e1,aE,f2⟩<;>rcases br q1 lh b8 o with ⟨rfl,y7,ku,m7,po,B9⟩|⟨y7,m7,po,ag3⟩
  ·rw [bP] at af;rw [B9] at au
   obtain ⟨-,e⟩:=h.inj _ _ _ _ _ _ b m bO e1 m7 af au
   exact ⟨rfl,by omega⟩
  ·rw [bP] at af;rw [po] at au
   obtain ⟨e,-⟩:=h.inj _ _ _ _ _ _ b m bO e1 m7 af au
   exact absurd e.symm y7
  ·rw [aE] at af;rw [B9] at au
   obtain ⟨e,-⟩:=h.inj _ _ _ _ _ _ b m bO e1 m7 af au
   exact absurd e f1
  ·rw [aE] at af;rw [po] at au
   exact h.inj _ _ _ _ _ _ b m bO e1 m7 af au
 ·intro q k I b m h1 o
  rcases br q k I h1 with ⟨-,-,p,e1,aE,bP⟩|⟨-,e1,aE,-⟩
  ·rw [bP] at o;exact h.own eP _ p b m e1 o
  ·rw [aE] at o;exact h.own q k I b m e1 o
 ·exact dH.stay h.stay
end
end Go.VL
namespace Go.VL
set_option linter.unusedVariables false
set_option linter.unusedSimpArgs false
open Go
def aD.iW:aD→Bool
 | .dead | .b _ | .n .. | .s _ | .ij | .ei | .iB | .isl .. | .ej .. | .kh .. => true
 | _=>false
def aD.Bf:aD→Bool
 | .agg c=>c.all aD.iW
 | .fn _ c=>c.all aD.iW
 | x=>x.iW
def aD.RX:aD→Bool
 | .ea c=>c.all aD.Bf
 | x=>x.Bf
section
variable {w:World} {ok:Nat→Prop} {a7:jn} {bj:jd}
theorem Rel.yK {x:aD}{v:Value}(h:Rel w ok a7 bj x v)(a4:x.iW=true):Pure x:=by
 cases h with
 | dead=>exact .dead
 | b=>exact .b _
 | n=>exact .n _ _
 | s=>exact .s _
 | ij=>exact .ij
 | ei=>exact .ei
 | iB=>exact .iB
 | kf=>exact .isl (by simp)
 | isl cs aU ak=>exact .isl ak
 | ej cs aU ak=>exact .ej ak
 | pk sz=>exact .pk sz
 | o0 h=>cases h with|ej cs aU ak=>exact .o0 fun x U=>ak _ (List.mem_singleton.2 rfl) x U
 | _=>simp [aD.iW] at a4
theorem Px {c:List aD}{vs:List Value}(aV:vs.length=c.length)(aq:∀(j:Nat) x u,c[j]? = some x→vs[j]? = some u→Rel w ok a7 bj x u)
 (a4:c.all aD.iW=true) : ∀x∈c,Pure x:=by
 intro x U
 obtain ⟨j,aG⟩:=List.getElem?_of_mem U
 have dU:j<vs.length:=by have:=f9 aG;omega
 exact (aq j x _ aG (List.getElem?_eq_getElem dU)).yK (List.all_eq_true.1 a4 x U)
theorem Rel.EJ {x:aD}{v:Value}(h:Rel w ok a7 bj x v)(a4:x.Bf=true):Pure x:=by
 cases h with
 | agg vs aV bh aq=>exact .agg (Px aV aq a4)
 | fn vs aV aq=>exact .fn (Px aV aq a4)
 | dead=>exact .dead
 | b=>exact .b _
 | n=>exact .n _ _
 | s=>exact .s _
 | ij=>exact .ij
 | ei=>exact .ei
 | iB=>exact .iB
 | kf=>exact .isl (by simp)
 | isl cs aU ak=>exact .isl ak
 | ej cs aU ak=>exact .ej ak
 | pk sz=>exact .pk sz
 | o0 h=>cases h with|ej cs aU ak=>exact .o0 fun x U=>ak _ (List.mem_singleton.2 rfl) x U
 | _=>simp [aD.Bf,aD.iW] at a4
theorem Rel.adn {x:aD}{v:Value}(h:Rel w ok a7 bj x v)(a4:x.RX=true):Pure x:=by
 by_cases cm : ∃c,x = .ea c
 ·obtain ⟨c,rfl⟩:=cm
  obtain ⟨vs,rfl,aV,aq⟩:=h.yr
  refine .ea fun x U=> ?_
  obtain ⟨j,aG⟩:=List.getElem?_of_mem U
  have dU:j<vs.length:=by have:=f9 aG;omega
  exact (aq j x _ aG (List.getElem?_eq_getElem dU)).EJ (List.all_eq_true.1 a4 x U)
 ·refine h.EJ ?_
  cases x<;>first|exact a4|exact absurd ⟨_,rfl⟩ cm
end
def bZ:List Nat→Nat→Option Nat
 | [],_=>none
 | x::l,r=>if x=r then some 0 else (bZ l r).map (· + 1)
theorem Py : ∀ {l:List Nat} {r j:Nat},bZ l r=some j→l[j]? = some r
 | x::l,r,j,h=>by
  unfold bZ at h
  split at h
  ·simp at h;subst h;simp [*]
  ·rw [Option.map_eq_some_iff] at h
   obtain ⟨i,aj,rfl⟩:=h
   simpa using Py aj
theorem Pz : ∀ {l:List Nat} {r j:Nat},l.Nodup→l[j]? = some r→bZ l r=some j
 | x::l,r,j,a4,h=>by
  rw [List.nodup_cons] at a4
  unfold bZ
  cases j with
  | zero=>simp at h;simp [h]
  | succ j =>
   simp at h
   have:x≠r:=by rintro rfl;exact a4.1 (List.mem_of_getElem? h)
   rw [if_neg this,Pz a4.2 h];rfl
def Ce (d5:Nat)(jB:List ae)(cc:gg→Bool)(x cL:aD):Prop :=
 (cL=x∧x.iW=true)∨(∃c sz,x = .i2 d5 c sz none∧cL = .isl sz [])∨ ∃k b0 len I,(x = .bf d5 k b0 len∨ ∃c sz jq,k=jq+c∧b0=0∧x = .i2 d5 c sz (some (jq,len)))∧dn (some jB) k=some I∧cc I.cv=true∧b0+len≤I.es.length ∧
   jU ((I.es.drop b0).take len)∧cL = .isl I.sz ((I.es.drop b0).take len)
def CS (d5:Nat)(jB:List ae)(cc:gg→Bool)(sz:Nat)(es gp:List (List aD)):Prop :=
 gp.length=es.length∧(∀e∈gp,e.length=sz)∧ ∀(j:Nat) x cL,es.flatten[j]? = some x→gp.flatten[j]? = some cL→Ce d5 jB cc x cL
def lH (aX:Nat→Option (List ae))(cd:Nat→Option Nat)(a2:gL)(cc:gg→Bool):sX→aD→Option (aD×List Prop)
 | .id,x=>if x.iW then some (x,[]) else
  match x with
  | .ref r k i off=>match cd r with
   | some j=>some (.ref j k i off,[])
   | none=>none
  | .bf r k b0 len=>match cd r with
   | some j=>some (.bf j k b0 len,[])
   | none=>none
  | .i2 r c sz h=>match cd r with
   | some j=>some (.i2 j c sz h,[])
   | none=>none
  | _=>none
 | .iF sz,.ei=>some (.isl sz [],[])
 | .iF sz,.iB=>some (.isl sz [],[])
 | .dF gp,.bf r k b0 len=>match dn (aX r) k with
  | some I=>if cc I.cv && (cd r).isNone then some (.isl I.sz gp,[gp=(I.es.drop b0).take len,b0+len≤I.es.length,jU gp]) else none
  | none=>none
 | .j0,_=>some (.dead,[])
 | .cE y,x=>if x.iW then some (y,[x=y]) else none
 | .len n,.bf r k b0 len=>match cd r with
  | some j=>some (.bf j k b0 n,[len=n])
  | none=>none
 | .Na sz,x=>match x with
  | .ij=>some (.kh sz none,[])
  | .ej E4 [c] 0 0=>if E4=sz then some (.kh sz (some c),[]) else none
  | _=>none
 | .at_ j i n,.bf r k b0 len=>some (.bf j i b0 n,[a2 j i=some (r,k),len=n])
 | .at_ j i _,.ref r k x y=>some (.ref j i x y,[a2 j i=some (r,k)])
 | .view d5 I gp,.bf r k b0 len=>match aX r,aX d5 with
  | some row,some jB=>if (cd r).isNone && (cd d5).isNone then
   some (.isl I.sz gp,[dn (some row) k=some I,cc I.cv=true,b0+len≤I.es.length,jU gp,CS d5 jB cc I.sz ((I.es.drop b0).take len) gp]) else none
  | _,_=>none
 | _,_=>none
def lI {α β:Type}(f:α→β→Option (β×List Prop)):List α→List β→Option (List β×List Prop)
 | [],[]=>some ([],[])
 | a::l,b::m=>match f a b,lI f l m with
  | some (kv,b8),some (bO,aT)=>some (kv::bO,b8++aT)
  | _,_=>none
 | _,_=>none
def ol (aX:Nat→Option (List ae))(cd:Nat→Option Nat)(a2:gL)(cc:gg→Bool):zs→aD→Option (aD×List Prop)
 | .c9 c,x=>if x.Bf then (match c with | .id=>some (x,[]) | .j0=>some (.dead,[]) | .cE y=>some (y,[x=y])|c=>lH aX cd a2 cc c x) else lH aX cd a2 cc c x
 | .agg l,.agg c=>match lI (lH aX cd a2 cc) l c with
  | some (dX,ao)=>some (.agg dX,ao)
  | none=>none
 | .ptr l,.ref r k i off=>match dn (aX r) k with
  | some I=>match I.es with
   | [c]=>if cc I.cv && (cd r).isNone then
    match lI (lH aX cd a2 cc) l c with
    | some (dX,ao)=>some (.ej I.sz [dX] i off,ao++[jU [dX]])
    | none=>none
    else none
   | _=>none
  | none=>none
 | .LQ l,x=>match x with
  | .ref r k 0 0=>match dn (aX r) k with
   | some I=>match I.es with
    | [c]=>if cc I.cv && (cd r).isNone then
     match lI (lH aX cd a2 cc) l c with
     | some (dX,ao)=>some (.kh I.sz (some dX),ao++[jU [dX]])
     | none=>none
     else none
    | _=>none
   | none=>none
  | _=>none
 | _,_=>none
def nO (aX:Nat→Option (List ae))(cd:Nat→Option Nat)(a2:gL)(cc:gg→Bool):lz→aD→Option (aD×List Prop)
 | .bs c,x=>if x.RX then (match c with | .c9 .id=>some (x,[])|c=>ol aX cd a2 cc c x) else ol aX cd a2 cc c x
 | .comp l,.ea c=>match lI (ol aX cd a2 cc) l c with
  | some (dX,ao)=>some (.ea dX,ao)
  | none=>none
 | .comp l,.fn f c=>match lI (ol aX cd a2 cc) l c with
  | some (dX,ao)=>some (.fn f dX,ao)
  | none=>none
 | _,_=>none
def tn (row:List ae):Prop:= ∀I∈row,jU I.es∧I.cv = .live
def lJ (row:List ae):Prop:= ∀I∈row,I.cv = .live∨I.cv = .gone
def n2 (cd:Nat→Option Nat):aD→aD
 | .ref r k i off=>match cd r with|some j=> .ref j k i off|none=> .dead
 | .bf r k b0 len=>match cd r with|some j=> .bf j k b0 len|none=> .dead
 | .i2 r c sz h=>match cd r with|some j=> .i2 j c sz h|none=> .dead
 | x=>if x.iW then x else .dead
def gQ (cd:Nat→Option Nat)(I:ae):ae:={I with es:=I.es.map fun e=>e.map (n2 cd)}
def jj (aX:Nat→Option (List ae))(cd:Nat→Option Nat)(a2:gL)(cc:gg→Bool):iO→List ae→Option (List ae×List Prop)
 | .pure,row=>some (row,[tn row])
 | .cE dJ,row=>some (dJ,[row=dJ,tn dJ])
 | .bK dJ,row=>some (dJ,[dJ=row.map (gQ cd),lJ row])
 | .box l,[I]=>match I.es with
  | [c]=>if I.cv = .live then match lI (lH aX cd a2 cc) l c with
   | some (dX,ao)=>some ([{I with es:=[dX]}],ao)
   | none=>none
   else none
  | _=>none
 | _,_=>none
structure s3 (q:aD→Prop) (cc:gg→Bool):Prop extends Down q where
 all : ∀k,cc k=true→ ∀x,q x
theorem tN (cc:gg→Bool):s3 l6 cc:={toDown:=adj,all:=fun _ _ _=>trivial}
theorem aes:s3 bX (fun _=>false):={toDown:=adl,all:=fun _ h=>by simp at h}
structure mO (s:S) (a2:gL) (cd:Nat→Option Nat) (cc:gg→Bool):Prop where
 aj : ∀r j,cd r=some j→ ∀k,a2 j k=some (r,k)
 a4 : ∀r,cd r=none→ ∀k I,s.ao r k=some I→cc I.cv=true→ ∀j i,a2 j i≠some (r,k)
section
variable {g:G} {s:S} {az:fx} {w:World} {a2:gL} {cd:Nat→Option Nat} {cc:gg→Bool} {q:aD→Prop}
theorem Ee {α β:Type}(f:α→β→Option (β×List Prop)): ∀(l:List α) (m bO:List β) (ao:List Prop),lI f l m=some (bO,ao) →
 bO.length=m.length∧l.length=m.length∧ ∀(j:Nat) b kv,m[j]? = some b→bO[j]? = some kv→ ∃x cb,l[j]? = some x∧f x b=some (kv,cb)∧ ∀p∈cb,p∈ao
 | [],[],bO,ao,h=>by
  simp [lI] at h;obtain ⟨rfl,rfl⟩:=h
  exact ⟨rfl,rfl,fun j b kv aU=>by simp at aU⟩
 | [],_::_,_,_,h=>by simp [lI] at h
 | _::_,[],_,_,h=>by simp [lI] at h
 | x::l,b::m,bO,ao,h=>by
  simp only [lI] at h
  split at h
  ·rename_i kv b8 ht aT h1 o
   simp only [Option.some.injEq,Prod.mk.injEq] at h
   obtain ⟨rfl,rfl⟩:=h
   obtain ⟨e1,aE,bP⟩:=Ee f l m ht aT o
   refine ⟨by simp [e1],by simp [aE],fun j c dX bh sI=> ?_⟩
   cases j with
   | zero =>
    simp at bh sI;subst bh;subst sI
    exact ⟨x,b8,rfl,h1,fun p ak=>by simp [ak]⟩
   | succ j =>
    simp at bh sI
    obtain ⟨y,cb,f1,f2,f3⟩:=bP j c dX bh sI
    exact ⟨y,cb,by simpa using f1,f2,fun p ak=>by simp [f3 p ak]⟩
  ·simp at h
theorem KU (en:ik g s az w)(H:mO s a2 cd cc)(bL:s3 q cc){c:sX}{x cL:aD}{ao:List Prop}(h:lH s.aX cd a2 cc c x=some (cL,ao))(br:∀p∈ao,p)
 (bd:q x) {v:Value} (aq:Rel w (s.ok g az w) s.a7 (s.bj az) x v):hP s a2 cc q x cL:=by
 have jC : ∀ {r k b0 len:Nat},x = .bf r k b0 len→s.a7 r k:=by
  intro r k b0 len e;subst e;cases aq<;>assumption
 cases c with
 | id =>
  simp only [lH] at h
  split at h
  ·rename_i a4
   simp only [Option.some.injEq,Prod.mk.injEq] at h
   obtain ⟨rfl,rfl⟩:=h
   exact .pure (aq.yK a4) bd
  ·split at h
   ·rename_i r k i off _
    split at h
    ·rename_i j aG
     simp only [Option.some.injEq,Prod.mk.injEq] at h
     obtain ⟨rfl,rfl⟩:=h
     exact .ref i off (H.aj r j aG k) (by cases aq<;>assumption)
    ·simp at h
   ·rename_i r k b0 len _
    split at h
    ·rename_i j aG
     simp only [Option.some.injEq,Prod.mk.injEq] at h
     obtain ⟨rfl,rfl⟩:=h
     exact .bf b0 len (H.aj r j aG k) (jC rfl)
    ·simp at h
   ·rename_i r c sz fW _
    split at h
    ·rename_i j aG
     simp only [Option.some.injEq,Prod.mk.injEq] at h
     obtain ⟨rfl,rfl⟩:=h
     exact .i2 fW (fun k=>H.aj r j aG _)
    ·simp at h
   ·simp at h
 | iF sz =>
  cases x<;>simp [lH] at h
  ·obtain ⟨rfl,rfl⟩:=h
   exact .ei sz
  ·obtain ⟨rfl,rfl⟩:=h
   exact .iB sz
 | dF gp =>
  cases x<;>simp only [lH,reduceCtorEq] at h
  rename_i r k b0 len
  split at h
  ·rename_i I ap
   split at h
   ·rename_i bh
    simp only [Bool.and_eq_true,Option.isNone_iff_eq_none] at bh
    simp only [Option.some.injEq,Prod.mk.injEq] at h
    obtain ⟨rfl,rfl⟩:=h
    have h1:gp=(I.es.drop b0).take len:=br _ (by simp)
    have o:b0+len≤I.es.length:=br _ (by simp)
    have af:jU gp:=br _ (by simp)
    have d4:s.ao r k=some I:=ap
    have hlen : ∀e∈I.es,e.length=I.sz:=by
     have fH:=en.obj r k I d4
     cases ak:az r k with
     | none=>rw [ak] at fH;simp only [jy] at fH;rw [fH];simp
     | some q=>rw [ak] at fH;obtain ⟨_,_,_,_,e,_⟩:=fH;exact e
    refine .isl d4 bh.1 (H.a4 r bh.2 k I d4 bh.1) o af ?_ ?_ ?_
    ·rw [h1];exact fun e he=>hlen e (List.mem_of_mem_drop (List.mem_of_mem_take he))
    ·rw [h1];simp;omega
    ·intro j y l9 a1 n3
     rw [h1] at n3
     rw [a1] at n3;simp at n3;subst n3
     rw [h1] at af
     obtain ⟨e,he,Cf⟩:=r9 a1
     exact .pure (af e he y Cf) (bL.all _ bh.1 y)
   ·simp at h
  ·simp at h
 | j0 =>
  simp only [lH,Option.some.injEq,Prod.mk.injEq] at h
  obtain ⟨rfl,rfl⟩:=h
  exact .dead x
 | cE y =>
  simp only [lH] at h
  split at h
  ·rename_i a4
   simp only [Option.some.injEq,Prod.mk.injEq] at h
   obtain ⟨rfl,rfl⟩:=h
   have e:x=y:=br _ (by simp)
   subst e
   exact .pure (aq.yK a4) bd
  ·simp at h
 | len n =>
  cases x<;>simp only [lH,reduceCtorEq] at h
  rename_i r k b0 len
  split at h
  ·rename_i j aG
   simp only [Option.some.injEq,Prod.mk.injEq] at h
   obtain ⟨rfl,rfl⟩:=h
   have e:len=n:=br _ (by simp)
   subst e
   exact .bf b0 len (H.aj r j aG k) (jC rfl)
  ·simp at h
 | at_ j i n =>
  cases x<;>simp only [lH,reduceCtorEq] at h
  ·rename_i r k x y
   simp only [Option.some.injEq,Prod.mk.injEq] at h
   obtain ⟨rfl,rfl⟩:=h
   exact .ref x y (br _ (List.mem_cons_self)) (by cases aq<;>assumption)
  ·rename_i r k b0 len
   simp only [Option.some.injEq,Prod.mk.injEq] at h
   obtain ⟨rfl,rfl⟩:=h
   have e:len=n:=br _ (by simp)
   subst e
   exact .bf b0 len (br _ (List.mem_cons_self)) (jC rfl)
 | view d5 I gp =>
  cases x<;>simp only [lH,reduceCtorEq] at h
  rename_i r k b0 len
  split at h
  ·rename_i row jB dG ado
   split at h
   ·rename_i bh
    simp only [Bool.and_eq_true,Option.isNone_iff_eq_none] at bh
    simp only [Option.some.injEq,Prod.mk.injEq] at h
    obtain ⟨rfl,rfl⟩:=h
    have h1:dn (some row) k=some I:=br _ (by simp)
    have o:cc I.cv=true:=br _ (by simp)
    have af:b0+len≤I.es.length:=br _ (by simp)
    have au:jU gp:=br _ (by simp)
    have aA:CS d5 jB cc I.sz ((I.es.drop b0).take len) gp:=br _ (by simp)
    have d4:s.ao r k=some I:=by unfold S.ao;rw [dG];exact h1
    obtain ⟨d1,d2,tU⟩:=aA
    refine .isl d4 o (H.a4 r bh.1 k I d4 o) af au d2 (by rw [d1];simp;omega) fun j y l9 a1 n3=> ?_
    rcases tU j y l9 a1 n3 with ⟨rfl,a4⟩|⟨cn,SL,rfl,rfl⟩|⟨kx,Fa,ES,p,Cg,e1,aE,bP,c3,rfl⟩
    ·obtain ⟨e,he,Cf⟩:=r9 n3
     exact .pure (au e he l9 Cf) (bL.all _ o _)
    ·exact .mW _ _ _
    ·have nZ:s.ao d5 kx=some p:=by unfold S.ao;rw [ado];exact e1
     have hlen : ∀e∈p.es,e.length=p.sz:=by
      have fH:=en.obj d5 kx p nZ
      cases ak:az d5 kx with
      | none=>rw [ak] at fH;simp only [jy] at fH;rw [fH];simp
      | some q=>rw [ak] at fH;obtain ⟨_,_,_,_,e,_⟩:=fH;exact e
     have RY:hP s a2 cc q (.bf d5 kx Fa ES) (.isl p.sz ((p.es.drop Fa).take ES)):=by
      refine .isl nZ aE (H.a4 d5 bh.2 kx p nZ aE) bP c3 (fun e he=>hlen e (List.mem_of_mem_drop (List.mem_of_mem_take he))) (by simp;omega) fun j z ahJ cD vC=> ?_
      rw [cD] at vC;simp at vC;subst vC
      obtain ⟨e,he,aet⟩:=r9 cD
      exact .pure (c3 e he z aet) (bL.all _ aE _)
     rcases Cg with rfl|⟨c9,ag4,jq,rfl,rfl,rfl⟩
     ·exact RY
     ·exact .nS RY
   ·simp at h
  ·simp at h
 | Na sz =>
  simp only [lH] at h
  split at h
  ·simp only [Option.some.injEq,Prod.mk.injEq] at h
   obtain ⟨rfl,rfl⟩:=h
   exact .EI _
  ·split at h
   ·rename_i e;subst e
    simp only [Option.some.injEq,Prod.mk.injEq] at h
    obtain ⟨rfl,rfl⟩:=h
    exact .kh (.pure (aq.yK rfl) bd)
   ·simp at h
  ·simp at h
theorem AS (en:ik g s az w)(H:mO s a2 cd cc)(bL:s3 q cc){l:List sX}{c dX:List aD}{ao:List Prop}(h:lI (lH s.aX cd a2 cc) l c=some (dX,ao))(br:∀p∈ao,p)
 (bd : ∀x∈c,q x) {vs:List Value} (aV:vs.length=c.length) (aq : ∀(j:Nat) x u,c[j]? = some x→vs[j]? = some u→Rel w (s.ok g az w) s.a7 (s.bj az) x u) :
 dX.length=c.length∧ ∀(j:Nat) x cL,c[j]? = some x→dX[j]? = some cL→hP s a2 cc q x cL:=by
 obtain ⟨e1,aE,bP⟩:=Ee _ l c dX ao h
 refine ⟨e1,fun j x cL U dP=> ?_⟩
 obtain ⟨y,cb,f1,f2,f3⟩:=bP j x cL U dP
 have dU:j<vs.length:=by have:=f9 U;omega
 exact KU en H bL f2 (fun p ak=>br p (f3 p ak)) (bd x (List.mem_of_getElem? U)) (aq j x _ U (List.getElem?_eq_getElem dU))
theorem KV (en:ik g s az w)(H:mO s a2 cd cc)(bL:s3 q cc){c:zs}{x cL:aD}{ao:List Prop}(h:ol s.aX cd a2 cc c x=some (cL,ao))(br:∀p∈ao,p)
 (bd:q x) {v:Value} (aq:Rel w (s.ok g az w) s.a7 (s.bj az) x v):hP s a2 cc q x cL:=by
 cases c with
 | c9 c =>
  simp only [ol] at h
  split at h
  ·rename_i a4
   split at h
   ·simp only [Option.some.injEq,Prod.mk.injEq] at h
    obtain ⟨rfl,rfl⟩:=h
    exact .pure (aq.EJ a4) bd
   ·simp only [Option.some.injEq,Prod.mk.injEq] at h
    obtain ⟨rfl,rfl⟩:=h
    exact .dead _
   ·simp only [Option.some.injEq,Prod.mk.injEq] at h
    obtain ⟨rfl,rfl⟩:=h
    have e:=br _ (List.mem_singleton.2 rfl)
    subst e
    exact .pure (aq.EJ a4) bd
   ·exact KU en H bL h br bd aq
  ·exact KU en H bL h br bd aq
 | agg l =>
  cases x<;>simp only [ol,reduceCtorEq] at h
  rename_i c
  split at h
  ·rename_i dX nC bh
   simp only [Option.some.injEq,Prod.mk.injEq] at h
   obtain ⟨rfl,rfl⟩:=h
   obtain ⟨vs,rfl,aV,-,Ch⟩:=aq.A2
   obtain ⟨e1,aE⟩:=AS en H bL bh br (fun y a1=>bL.agg _ _ bd a1) aV Ch
   exact .agg e1 aE
  ·simp at h
 | ptr l =>
  cases x<;>simp only [ol,reduceCtorEq] at h
  rename_i r k i off
  split at h
  ·rename_i I ap
   split at h
   ·rename_i c hE
    split at h
    ·rename_i bh
     simp only [Bool.and_eq_true,Option.isNone_iff_eq_none] at bh
     split at h
     ·rename_i dX nC iL
      simp only [Option.some.injEq,Prod.mk.injEq] at h
      obtain ⟨rfl,rfl⟩:=h
      have d4:s.ao r k=some I:=ap
      have fH:=en.obj r k I d4
      cases ak:az r k with
      | none=>rw [ak] at fH;simp only [jy] at fH;rw [hE] at fH;simp at fH
      | some q =>
       obtain ⟨b,m⟩:=q
       rw [ak] at fH
       obtain ⟨cr,eO,g1,g2,g3,g4⟩:=fH
       have LX:c.length=I.sz:=g3 c (by rw [hE];simp)
       have jX:I.es.flatten=c:=by rw [hE];simp
       have hcs : ∀j:Nat,j<c.length→ ∃u,cr[j]? = some u∧Rel w (s.ok g az w) s.a7 (s.bj az) c[j]! u:=by
        intro j aG
        obtain ⟨u,lC,-,gV⟩:=g4 j c[j] (by rw [jX];exact List.getElem?_eq_getElem aG)
        exact ⟨u,lC,by rw [getElem!_pos c j aG];exact gV⟩
       obtain ⟨e1,aE⟩:=AS (vs:=(List.range c.length).map fun j=>(cr[j]?).getD undef) en H bL iL (fun p ak=>br p (by simp [ak])) (fun y _=>bL.all _ bh.1 y) (by simp) (by
        intro j y u a1 hu
        have aG:=f9 a1
        rw [List.getElem?_map,List.getElem?_range aG] at hu
        simp only [Option.map_some,Option.some.injEq] at hu
        obtain ⟨pY,lC,gV⟩:=hcs j aG
        rw [lC] at hu;simp at hu;subst hu
        rw [List.getElem?_eq_getElem aG] at a1;simp at a1;subst a1
        rw [getElem!_pos c j aG] at gV;exact gV)
       have sv:jU [dX]:=br _ (by simp)
       refine .ej i off d4 bh.1 (H.a4 r bh.2 k I d4 bh.1) (by rw [hE];simp) sv (by simp;omega) (by rw [hE];rfl) ?_
       ·intro j y l9 a1 n3
        rw [jX] at a1
        simp only [List.flatten_cons,List.flatten_nil,List.append_nil] at n3
        exact aE j y l9 a1 n3
     ·simp at h
    ·simp at h
   ·simp at h
  ·simp at h
 | LQ l =>
  simp only [ol] at h
  split at h
  ·rename_i r k
   split at h
   ·rename_i I ap
    split at h
    ·rename_i c hE
     split at h
     ·rename_i bh
      simp only [Bool.and_eq_true,Option.isNone_iff_eq_none] at bh
      split at h
      ·rename_i dX nC iL
       simp only [Option.some.injEq,Prod.mk.injEq] at h
       obtain ⟨rfl,rfl⟩:=h
       have d4:s.ao r k=some I:=ap
       have fH:=en.obj r k I d4
       cases ak:az r k with
       | none=>rw [ak] at fH;simp only [jy] at fH;rw [hE] at fH;simp at fH
       | some q =>
        obtain ⟨b,m⟩:=q
        rw [ak] at fH
        obtain ⟨cr,eO,g1,g2,g3,g4⟩:=fH
        have LX:c.length=I.sz:=g3 c (by rw [hE];simp)
        have jX:I.es.flatten=c:=by rw [hE];simp
        have hcs : ∀j:Nat,j<c.length→ ∃u,cr[j]? = some u∧Rel w (s.ok g az w) s.a7 (s.bj az) c[j]! u:=by
         intro j aG
         obtain ⟨u,lC,-,gV⟩:=g4 j c[j] (by rw [jX];exact List.getElem?_eq_getElem aG)
         exact ⟨u,lC,by rw [getElem!_pos c j aG];exact gV⟩
        obtain ⟨e1,aE⟩:=AS (vs:=(List.range c.length).map fun j=>(cr[j]?).getD undef) en H bL iL (fun p ak=>br p (by simp [ak])) (fun y _=>bL.all _ bh.1 y) (by simp) (by
         intro j y u a1 hu
         have aG:=f9 a1
         rw [List.getElem?_map,List.getElem?_range aG] at hu
         simp only [Option.map_some,Option.some.injEq] at hu
         obtain ⟨pY,lC,gV⟩:=hcs j aG
         rw [lC] at hu;simp at hu;subst hu
         rw [List.getElem?_eq_getElem aG] at a1;simp at a1;subst a1
         rw [getElem!_pos c j aG] at gV;exact gV)
        have sv:jU [dX]:=br _ (by simp)
        refine .kh (.ej 0 0 d4 bh.1 (H.a4 r bh.2 k I d4 bh.1) (by rw [hE];simp) sv (by simp;omega) (by rw [hE];rfl) ?_)
        ·intro j y l9 a1 n3
         rw [jX] at a1
         simp only [List.flatten_cons,List.flatten_nil,List.append_nil] at n3
         exact aE j y l9 a1 n3
      ·simp at h
     ·simp at h
    ·simp at h
   ·simp at h
  ·simp at h
theorem AY (en:ik g s az w)(H:mO s a2 cd cc)(bL:s3 q cc){c:lz}{x cL:aD}{ao:List Prop}(h:nO s.aX cd a2 cc c x=some (cL,ao))(br:∀p∈ao,p)
 (bd:q x) {v:Value} (aq:Rel w (s.ok g az w) s.a7 (s.bj az) x v):hP s a2 cc q x cL:=by
 have key : ∀(l:List zs) (c dX:List aD) (nC:List Prop) (vs:List Value),lI (ol s.aX cd a2 cc) l c=some (dX,nC)→(∀p∈nC,p)→(∀x∈c,q x)→vs.length=c.length →
  (∀(j:Nat) x u,c[j]? = some x→vs[j]? = some u→Rel w (s.ok g az w) s.a7 (s.bj az) x u)→dX.length=c.length∧ ∀(j:Nat) x cL,c[j]? = some x→dX[j]? = some cL→hP s a2 cc q x cL:=by
  intro l c dX nC vs h br bd aV aq
  obtain ⟨e1,aE,bP⟩:=Ee _ l c dX nC h
  refine ⟨e1,fun j x cL U dP=> ?_⟩
  obtain ⟨y,cb,f1,f2,f3⟩:=bP j x cL U dP
  have dU:j<vs.length:=by have:=f9 U;omega
  exact KV en H bL f2 (fun p ak=>br p (f3 p ak)) (bd x (List.mem_of_getElem? U)) (aq j x _ U (List.getElem?_eq_getElem dU))
 cases c with
 | bs c =>
  simp only [nO] at h
  split at h
  ·rename_i a4
   split at h
   ·simp only [Option.some.injEq,Prod.mk.injEq] at h
    obtain ⟨rfl,rfl⟩:=h
    exact .pure (aq.adn a4) bd
   ·exact KV en H bL h br bd aq
  ·exact KV en H bL h br bd aq
 | comp l =>
  cases x<;>simp only [nO,reduceCtorEq] at h
  ·rename_i c
   split at h
   ·rename_i dX nC bh
    simp only [Option.some.injEq,Prod.mk.injEq] at h
    obtain ⟨rfl,rfl⟩:=h
    obtain ⟨vs,rfl,aV,Ch⟩:=aq.yr
    obtain ⟨e1,aE⟩:=key l c dX nC vs bh br (fun y a1=>bL.ea _ _ bd a1) aV Ch
    exact .ea e1 aE
   ·simp at h
  ·rename_i f c
   split at h
   ·rename_i dX nC bh
    simp only [Option.some.injEq,Prod.mk.injEq] at h
    obtain ⟨rfl,rfl⟩:=h
    obtain ⟨vs,rfl,aV,Ch⟩:=aq.Ez
    obtain ⟨e1,aE⟩:=key l c dX nC vs bh br (fun y a1=>bL.fn _ _ _ bd a1) aV Ch
    exact .fn e1 aE
   ·simp at h
theorem RZ (en:ik g s az w)(H:mO s a2 cd cc){r:Nat}{kk:Nat→Nat}{row:List ae}(dG:∀k I,dn (some row) k=some I→s.ao r (kk k)=some I)
 (bd : ∀k I,dn (some row) k=some I→ ∀e∈I.es,∀x∈e,q x) :
 ∀(k:Nat) cb,dn (some (row.map (gQ cd))) k=some cb→ ∃I,dn (some row) k=some I∧oy s a2 cc q I cb:=by
 intro k cb d4
 rw [kB,List.getElem?_map] at d4
 cases a9:row[k]? with
 | none=>rw [a9] at d4;simp at d4
 | some I =>
  rw [a9] at d4
  simp only [Option.map_some,Option.bind_some] at d4
  split at d4
  ·simp at d4
  ·rename_i dB
   simp only [Option.some.injEq] at d4
   subst d4
   have ap:dn (some row) k=some I:=by rw [kB,a9,Option.bind_some,if_neg (by simpa [gQ] using dB)]
   have b6:s.ao r (kk k)=some I:=dG k I ap
   refine ⟨I,ap,?_⟩
   have fH:=en.obj r (kk k) I b6
   have hlen : ∀e∈I.es,e.length=I.sz:=by
    cases ak:az r (kk k) with
    | none=>rw [ak] at fH;simp only [jy] at fH;rw [fH];simp
    | some q=>rw [ak] at fH;obtain ⟨_,_,_,_,e,_⟩:=fH;exact e
   refine ⟨rfl,.inl rfl,by simp [gQ],?_,fun j x cL U dP=> ?_⟩
   ·intro e he
    simp only [gQ,List.mem_map] at he
    obtain ⟨ex,l2,rfl⟩:=he
    simpa using hlen ex l2
   ·simp only [gQ] at dP
    rw [map_flatten,List.getElem?_map,U] at dP
    simp only [Option.map_some,Option.some.injEq] at dP
    subst dP
    obtain ⟨e,he,qu⟩:=r9 U
    have aeu:=bd k I ap e he x qu
    cases ak:az r (kk k) with
    | none=>rw [ak] at fH;simp only [jy] at fH;rw [fH] at U;simp at U
    | some s0 =>
     obtain ⟨b,m⟩:=s0
     rw [ak] at fH
     obtain ⟨c,eO,f1,f2,f3,f4⟩:=fH
     obtain ⟨u,lC,n6,gV⟩:=f4 j x U
     cases x with
     | ref bT kx ps adR =>
      cases cm:cd bT with
      | none=>simp only [n2,cm];exact .dead _
      | some v7=>simp only [n2,cm];exact .ref ps adR (H.aj _ _ cm _) (by cases gV<;>assumption)
     | bf bT kx Fa ES =>
      cases cm:cd bT with
      | none=>simp only [n2,cm];exact .dead _
      | some v7=>simp only [n2,cm];exact .bf Fa ES (H.aj _ _ cm _) (by cases gV<;>assumption)
     | i2 bT cn SL o =>
      cases cm:cd bT with
      | none=>simp only [n2,cm];exact .dead _
      | some v7=>simp only [n2,cm];exact .i2 o (fun k=>H.aj _ _ cm _)
     | _ =>
      simp only [n2]
      split
      ·rename_i a4;exact .pure (gV.yK a4) aeu
      ·exact .dead _
theorem Ef (en:ik g s az w)(H:mO s a2 cd cc)(bL:s3 q cc){c:iO}{r:Nat}{kk:Nat→Nat}{row dJ:List ae}{ao:List Prop}(dG:∀k I,dn (some row) k=some I→s.ao r (kk k)=some I)
 (h:jj s.aX cd a2 cc c row=some (dJ,ao)) (br : ∀p∈ao,p) (bd : ∀k I,dn (some row) k=some I→ ∀e∈I.es,∀x∈e,q x) :
 dJ.length=row.length∧(∀k I,dn (some row) k=some I→I.cv = .live) ∧
 ∀(k:Nat) cb,dn (some dJ) k=some cb→ ∃I,dn (some row) k=some I∧oy s a2 cc q I cb:=by
 have hlen : ∀k I,dn (some row) k=some I→ ∀e∈I.es,e.length=I.sz:=by
  intro k I ap
  have d4:s.ao r (kk k)=some I:=dG k I ap
  have fH:=en.obj r (kk k) I d4
  cases ak:az r (kk k) with
  | none=>rw [ak] at fH;simp only [jy] at fH;rw [fH];simp
  | some q=>rw [ak] at fH;obtain ⟨_,_,_,_,e,_⟩:=fH;exact e
 have sv:tn row→(∀k I,dn (some row) k=some I→I.cv = .live) ∧
  ∀(k:Nat) cb,dn (some row) k=some cb→ ∃I,dn (some row) k=some I∧oy s a2 cc q I cb:=by
  intro ak
  have qo : ∀k I,dn (some row) k=some I→I∈row:=by
   intro k I ap
   unfold dn at ap
   simp only at ap
   split at ap
   ·rename_i cb d4
    split at ap
    ·simp at ap
    ·simp at ap;subst ap;exact List.mem_of_getElem? d4
   ·simp at ap
  refine ⟨fun k I ap=>(ak I (qo k I ap)).2,fun k I ap=>⟨I,ap,rfl,.inl rfl,rfl,hlen k I ap,fun j x cL U dP=> ?_⟩⟩
  rw [U] at dP;simp at dP;subst dP
  obtain ⟨e,he,qu⟩:=r9 U
  exact .pure ((ak I (qo k I ap)).1 e he x qu) (bd k I ap e he x qu)
 cases c with
 | pure =>
  simp only [jj,Option.some.injEq,Prod.mk.injEq] at h
  obtain ⟨rfl,rfl⟩:=h
  exact ⟨rfl,sv (br _ (by simp))⟩
 | cE aC =>
  simp only [jj,Option.some.injEq,Prod.mk.injEq] at h
  obtain ⟨rfl,rfl⟩:=h
  have e:row=aC:=br _ (by simp)
  subst e
  exact ⟨rfl,sv (br _ (by simp))⟩
 | bK aC =>
  simp only [jj,Option.some.injEq,Prod.mk.injEq] at h
  obtain ⟨rfl,rfl⟩:=h
  have e:aC=row.map (gQ cd):=br _ (by simp)
  have Mq:lJ row:=br _ (by simp)
  subst e
  refine ⟨by simp,fun k I ap=>by
   unfold dn at ap
   simp only at ap
   split at ap
   ·rename_i cb d4
    split at ap
    ·simp at ap
    ·rename_i dB
     simp at ap;subst ap
     exact (Mq _ (List.mem_of_getElem? d4)).resolve_right dB
   ·simp at ap,RZ en H dG bd⟩
 | rx aC=>cases row with
  | nil=>simp [jj] at h
  | cons I l=>cases l<;>simp [jj] at h
 | drop=>cases row with
  | nil=>simp [jj] at h
  | cons I l=>cases l<;>simp [jj] at h
 | box l =>
  match row,h with
  | [I],h =>
   simp only [jj] at h
   split at h
   ·rename_i c hE
    split at h
    ·rename_i nY
     split at h
     ·rename_i dX nC bh
      simp only [Option.some.injEq,Prod.mk.injEq] at h
      obtain ⟨rfl,rfl⟩:=h
      have h0:dn (some [I]) 0=some I:=by rw [mc];simp [nY]
      refine ⟨rfl,fun k p ak=> ?_,fun k p ak=> ?_⟩
      ·rw [mc] at ak
       split at ak
       ·simp at ak;subst ak;exact nY
       ·simp at ak
      ·rw [mc] at ak
       split at ak
       ·rename_i sL
        obtain ⟨rfl,-⟩:=sL
        simp only [Option.some.injEq] at ak;subst ak
        refine ⟨I,h0,?_⟩
        have d4:s.ao r (kk 0)=some I:=dG 0 I h0
        have fH:=en.obj r (kk 0) I d4
        cases kE:az r (kk 0) with
        | none=>rw [kE] at fH;simp only [jy] at fH;rw [hE] at fH;simp at fH
        | some q =>
         obtain ⟨b,m⟩:=q
         rw [kE] at fH
         obtain ⟨cr,eO,g1,g2,g3,g4⟩:=fH
         have LX:c.length=I.sz:=g3 c (by rw [hE];simp)
         have jX:I.es.flatten=c:=by rw [hE];simp
         obtain ⟨e1,aE⟩:=AS (vs:=(List.range c.length).map fun j=>(cr[j]?).getD undef) en H bL bh br (fun y a1=>bd 0 I h0 c (by rw [hE];simp) y a1) (by simp) (by
          intro j y u a1 hu
          have aG:=f9 a1
          rw [List.getElem?_map,List.getElem?_range aG] at hu
          simp only [Option.map_some,Option.some.injEq] at hu
          obtain ⟨pY,lC,-,gV⟩:=g4 j y (by rw [jX];exact a1)
          rw [lC] at hu;simp at hu;subst hu
          exact gV)
         refine ⟨rfl,.inl rfl,by simp [hE],by simp;omega,fun j x cL U dP=> ?_⟩
         rw [jX] at U
         simp only [List.flatten_cons,List.flatten_nil,List.append_nil] at dP
         exact aE j x cL U dP
       ·simp at ak
     ·simp at h
    ·simp at h
   ·simp at h
  | [],h=>simp [jj] at h
  | _::_::_,h=>simp [jj] at h
end
end Go.VL
namespace Go.VL
set_option linter.unusedVariables false
set_option linter.unusedSimpArgs false
open Go
def Eg (P:Program)(f:FuncId):Prop:= ∃fn,P.funcs[f]? = some fn∧(fn.name == "runtime.NumGoroutine")=false∧fn.body.isSome=true
def Con (P:Program)(f:FuncId)(args:List aD)(T:List (List ae))(r:aD)(iH:List (List ae)):Prop:=Eg P f∧adk P f args T r iH
def sw (k:gg):Bool:=k = .i9
def kP (_:gg):Bool:=true
def kZ (_:gg):Bool:=false
def Src.r:Src→Nat
 | .row r=>r
 | .ao r _ _=>r
def Src.has:Src→Nat→Nat→Prop
 | .row r,q,_=>q=r
 | .ao r k _,q,dx=>q=r∧dx=k
def Src.mN:Src→Nat→Nat
 | .row _,k=>k
 | .ao ..,_=>0
def kG (l:List Src):gL:=fun j i=>match l[j]? with
 | some (.row r)=>some (r,i)
 | some (.ao r k _)=>if i=0 then some (r,k) else none
 | none=>none
def o2 (n:Nat):List Src→Nat→Option Nat
 | [],_=>none
 | .row r::l,q=>if r=q then some n else o2 (n+1) l q
 | .ao .. :: l,q=>o2 (n+1) l q
def jD (n:Nat):List Src→gL
 | [],_,_=>none
 | .row r::l,q,k=>if q=r then some (n,k) else jD (n+1) l q k
 | .ao r dx _::l,q,k=>if q=r∧k=dx then some (n,0) else jD (n+1) l q k
def sx (l:List Src):Nat→Option Nat:=fun j=>match l[j]? with
 | some (.row r)=>some r
 | _=>none
def apart:Src→Src→Option (List Prop)
 | .ao r k _,.ao eP dx _=>if r=eP then some [k≠dx] else some []
 | a,b=>if a.r=b.r then none else some []
def EB (a:Src):List Src→Option (List Prop)
 | []=>some []
 | b::l=>match apart a b,EB a l with
  | some x,some y=>some (x++y)
  | _,_=>none
def EK:List Src→Option (List Prop)
 | []=>some []
 | a::l=>match EB a l,EK l with
  | some x,some y=>some (x++y)
  | _,_=>none
def BR (l:List Src):Prop:=l.Pairwise fun a b=> ∀r k,¬(a.has r k∧b.has r k)
theorem abr {a b:Src}{ao:List Prop}(h:apart a b=some ao)(br:∀p∈ao,p): ∀r k,¬(a.has r k∧b.has r k):=by
 rintro r k ⟨h1,o⟩
 have aq : ∀c:Src,c.has r k→c.r=r:=fun c bh=>by
  cases c with
  | row r0=>exact Eq.symm bh
  | ao r0 jq lD=>exact Eq.symm bh.1
 have e:=(aq a h1).trans (aq b o).symm
 cases a with
 | row r0=>simp only [apart] at h;rw [if_pos e] at h;simp at h
 | ao r0 jq lD =>
  cases b with
  | row r1=>simp only [apart] at h;rw [if_pos e] at h;simp at h
  | ao r1 lh b8 =>
   simp only [apart] at h
   rw [if_pos (show r0=r1 from e)] at h
   simp only [Option.some.injEq] at h
   subst h
   exact br _ (List.mem_singleton.2 rfl) (h1.2.symm.trans o.2)
theorem PY {a:Src}: ∀ {l:List Src} {ao:List Prop},EB a l=some ao→(∀p∈ao,p)→ ∀b∈l,∀r k,¬(a.has r k∧b.has r k)
 | [],_,_,_,_,aU=>by simp at aU
 | b::l,ao,h,br,c,bh=>by
  simp only [EB] at h
  split at h
  ·rename_i x y h1 o
   simp only [Option.some.injEq] at h;subst h
   rcases List.mem_cons.1 bh with rfl|bh
   ·exact abr h1 fun p ak=>br p (by simp [ak])
   ·exact PY o (fun p ak=>br p (by simp [ak])) c bh
  ·simp at h
theorem Qq : ∀ {l:List Src} {ao:List Prop},EK l=some ao→(∀p∈ao,p)→BR l
 | [],_,_,_=>List.Pairwise.nil
 | a::l,ao,h,br=>by
  simp only [EK] at h
  split at h
  ·rename_i x y h1 o
   simp only [Option.some.injEq] at h;subst h
   exact List.pairwise_cons.2 ⟨PY h1 fun p ak=>br p (by simp [ak]),Qq o fun p ak=>br p (by simp [ak])⟩
  ·simp at h
theorem tq {l:List Src}{j i r k:Nat}:kG l j i=some (r,k)↔ ∃a,l[j]? = some a∧a.has r k∧i=a.mN k:=by
 unfold kG
 cases h:l[j]? with
 | none=>simp
 | some a =>
  cases a with
  | row r0 =>
   simp only [Option.some.injEq,Prod.mk.injEq,exists_eq_left',Src.has,Src.mN]
   constructor<;>rintro ⟨a,b⟩<;>exact ⟨a.symm,b⟩
  | ao r0 jq I =>
   simp only [Option.some.injEq,exists_eq_left',Src.has,Src.mN]
   by_cases e:i=0
   ·rw [if_pos e];simp only [Option.some.injEq,Prod.mk.injEq,e,and_true];constructor<;>rintro ⟨a,b⟩<;>exact ⟨a.symm,b.symm⟩
   ·rw [if_neg e];simp [e]
theorem u5 : ∀ {l:List Src} {n r k j i:Nat},jD n l r k=some (j,i)→ ∃a,n≤j∧l[j-n]? = some a∧a.has r k∧i=a.mN k
 | [],_,_,_,_,_,h=>by simp [jD] at h
 | .row r0::l,n,r,k,j,i,h=>by
  simp only [jD] at h
  split at h
  ·rename_i e
   simp only [Option.some.injEq,Prod.mk.injEq] at h
   obtain ⟨rfl,rfl⟩:=h
   exact ⟨.row r0,Nat.le_refl _,by simp,e,rfl⟩
  ·obtain ⟨a,h1,o,af,au⟩:=u5 h
   exact ⟨a,by omega,by rw [show j-n=(j-(n+1))+1 by omega,List.getElem?_cons_succ];exact o,af,au⟩
 | .ao r0 jq I::l,n,r,k,j,i,h=>by
  simp only [jD] at h
  split at h
  ·rename_i e
   simp only [Option.some.injEq,Prod.mk.injEq] at h
   obtain ⟨rfl,rfl⟩:=h
   exact ⟨.ao r0 jq I,Nat.le_refl _,by simp,e,rfl⟩
  ·obtain ⟨a,h1,o,af,au⟩:=u5 h
   exact ⟨a,by omega,by rw [show j-n=(j-(n+1))+1 by omega,List.getElem?_cons_succ];exact o,af,au⟩
theorem rH (n:Nat)(a:Src)(l:List Src)(r k:Nat)(h:¬a.has r k):jD n (a::l) r k=jD (n+1) l r k:=by
 cases a<;>simp only [jD,Src.has] at h ⊢ <;> rw [if_neg h]
theorem abt (n:Nat)(a:Src)(l:List Src)(r k:Nat)(h:a.has r k):jD n (a::l) r k=some (n,a.mN k):=by
 cases a<;>simp only [jD,Src.has,Src.mN] at h ⊢ <;> rw [if_pos h]
theorem Bg : ∀ {l:List Src} {n r k j:Nat} {a:Src},BR l→l[j]? = some a→a.has r k→jD n l r k=some (n+j,a.mN k)
 | b::l,n,r,k,0,a,_,h,bH=>by
  simp at h;subst h
  exact abt n b l r k bH
 | b::l,n,r,k,j+1,a,bL,h,bH=>by
  simp at h
  have bL:=List.pairwise_cons.1 bL
  rw [rH n b l r k fun aU=>bL.1 a (List.mem_of_getElem? h) r k ⟨aU,bH⟩,Bg (j:=j) bL.2 h bH]
  congr 2;omega
theorem acP {a:Src}{r k eP dx:Nat}(h:a.has r k)(cK:a.has eP dx)(e:a.mN k=a.mN dx):r=eP∧k=dx:=by
 cases a<;>simp only [Src.has,Src.mN] at h cK e<;>omega
theorem ach {l:List Src}{n r k eP dx:Nat}{p:Nat×Nat}(h:jD n l r k=some p)(cK:jD n l eP dx=some p):r=eP∧k=dx:=by
 obtain ⟨j,i⟩:=p
 obtain ⟨a,h1,o,af,au⟩:=u5 h
 obtain ⟨dK,qt,Mr,aev,ag5⟩:=u5 cK
 rw [o] at Mr;simp at Mr;subst Mr
 exact acP af aev (by omega)
theorem KK : ∀ {l:List Src} {n r j:Nat},o2 n l r=some j→n≤j∧l[j-n]? = some (.row r)
 | [],_,_,_,h=>by simp [o2] at h
 | .row r0::l,n,r,j,h=>by
  simp only [o2] at h
  split at h
  ·rename_i e;simp at h;subst h;subst e;exact ⟨Nat.le_refl _,by simp⟩
  ·obtain ⟨h1,o⟩:=KK h
   exact ⟨by omega,by rw [show j-n=(j-(n+1))+1 by omega,List.getElem?_cons_succ];exact o⟩
 | .ao r0 jq I::l,n,r,j,h=>by
  simp only [o2] at h
  obtain ⟨h1,o⟩:=KK h
  exact ⟨by omega,by rw [show j-n=(j-(n+1))+1 by omega,List.getElem?_cons_succ];exact o⟩
theorem PZ : ∀ {l:List Src} {n r:Nat},o2 n l r=none→Src.row r ∉ l
 | [],_,_,_=>by simp
 | .row r0::l,n,r,h=>by
  simp only [o2] at h
  split at h
  ·simp at h
  ·rename_i e
   simp only [List.mem_cons,Src.row.injEq,not_or]
   exact ⟨fun h=>e h.symm,PZ h⟩
 | .ao r0 jq I::l,n,r,h=>by
  simp only [o2] at h
  simp only [List.mem_cons,reduceCtorEq,false_or]
  exact PZ h
def mg (aX:Nat→Option (List ae))(cd:Nat→Option Nat)(a2:gL):List Src→List iO→Option (List (List ae)×List Prop)
 | [],[]=>some ([],[])
 | .row r::l,c::da=>match aX r with
  | some row=>match jj aX cd a2 sw c row,mg aX cd a2 l da with
   | some (dJ,b8),some (T,aT)=>some (dJ::T,b8++aT)
   | _,_=>none
  | none=>none
 | .ao r k I::l,c::da=>match aX r with
  | some row=>match jj aX cd a2 sw c [I],mg aX cd a2 l da with
   | some (dJ,b8),some (T,aT)=>some (dJ::T,(dn (some row) k=some I)::(b8++aT))
   | _,_=>none
  | none=>none
 | _,_=>none
def k6 (v8:Nat→Option (List ae))(cd:Nat→Option Nat)(kV:gL):(Nat→Option (List ae))→List Src→List iO→List (List ae)→Option (List (Nat×List ae)×List Prop)
 | _,[],[],[]=>some ([],[])
 | aX,.row q::l,c::da,row::T=>match jj v8 cd kV kZ c row with
  | some (dJ,b8)=>match k6 v8 cd kV (fun x=>if x=q then some dJ else aX x) l da T with
   | some (u,aT)=>some ((q,dJ)::u,b8++aT)
   | none=>none
  | none=>none
 | aX,.ao q k _::l,c::da,row::T=>match aX q with
  | some lL=>match jj v8 cd kV kZ c row with
   | some ([cb],b8)=>match k6 v8 cd kV (fun x=>if x=q then some (lL.set k cb) else aX x) l da T with
    | some (u,aT)=>some ((q,lL.set k cb)::u,b8++aT)
    | none=>none
   | _=>none
  | none=>none
 | _,_,_,_=>none
def lN (T:List (List ae)):Prop:= ∀row∈T,∀I∈row,∀e∈I.es,∀x∈e,bX x
def yL (P:Program)(aX:Nat→Option (List ae))(aW:Nat)(f:FuncId)(args:List aD)(cr:CN):Option il :=
 let l:=if cr.eV.length=cr.a2.length then cr.a2 else cr.a2++[.row aW]
 match EK cr.a2 with
 | none=>none
 | some lD =>
  if cr.a2.any (fun a=>decide (a.r=aW)) then none else
  if cr.er then
   match cr.a2 with
   | [] =>
    match lI (nO aX (fun _=>none) (kG []) kP) cr.ac args,nO (fun j=>cr.eV[j]?) (sx l) (jD 0 l) kZ cr.gr cr.r,
     k6 (fun j=>cr.eV[j]?) (sx l) (jD 0 l) aX l cr.hD cr.eV with
    | some (qj,b8),some (eP,fO),some (u,e3)=>some {val:=eP,fS:=u,fF:=b8++fO++e3++[Con P f qj [] cr.r cr.eV,bX cr.r]++(if cr.eV.isEmpty then [] else [lN cr.eV])}
    | _,_,_=>none
   | _=>none
  else
   match lI (nO aX (o2 0 cr.a2) (kG cr.a2) sw) cr.ac args,mg aX (o2 0 cr.a2) (kG cr.a2) cr.a2 cr.da,
    nO (fun j=>cr.eV[j]?) (sx l) (jD 0 l) kZ cr.gr cr.r,k6 (fun j=>cr.eV[j]?) (sx l) (jD 0 l) aX l cr.hD cr.eV with
   | some (qj,b8),some (T,aT),some (eP,fO),some (u,e3) =>
    some {val:=eP,fS:=u,fF:=lD++b8++aT++fO++e3++[Con P f qj T cr.r cr.eV]}
   | _,_,_,_=>none
theorem PA {aX:Nat→Option (List ae)}{cd:Nat→Option Nat}{a2:gL}{cc:gg→Bool}{c:iO}{row dJ:List ae}{ao:List Prop}(h:jj aX cd a2 cc c row=some (dJ,ao))(br:∀p∈ao,p):
 ∀k I,dn (some row) k=some I→I.cv = .live:=by
 have qo : ∀k I,dn (some row) k=some I→I∈row∧I.cv≠ .gone:=by
  intro k I ap
  rw [kB] at ap
  cases a9:row[k]? with
  | none=>rw [a9] at ap;simp at ap
  | some p =>
   rw [a9,Option.bind_some] at ap
   split at ap
   ·simp at ap
   ·rename_i e;simp at ap;subst ap;exact ⟨List.mem_of_getElem? a9,e⟩
 intro k I ap
 obtain ⟨h1,o⟩:=qo k I ap
 cases c with
 | pure =>
  simp only [jj,Option.some.injEq,Prod.mk.injEq] at h
  obtain ⟨rfl,rfl⟩:=h
  exact ((br _ (List.mem_singleton.2 rfl):tn row) I h1).2
 | cE aC =>
  simp only [jj,Option.some.injEq,Prod.mk.injEq] at h
  obtain ⟨rfl,rfl⟩:=h
  have e:row=aC:=br _ (by simp)
  have ak:tn aC:=br _ (by simp)
  exact (ak I (e▸h1)).2
 | bK aC =>
  simp only [jj,Option.some.injEq,Prod.mk.injEq] at h
  obtain ⟨rfl,rfl⟩:=h
  have ak:lJ row:=br _ (by simp)
  exact (ak I h1).resolve_right o
 | rx aC=>cases row with
  | nil=>simp [jj] at h
  | cons I l=>cases l<;>simp [jj] at h
 | drop=>cases row with
  | nil=>simp [jj] at h
  | cons I l=>cases l<;>simp [jj] at h
 | box l =>
  match row,h,h1 with
  | [p],h,h1 =>
   simp only [jj] at h
   rw [List.mem_singleton] at h1;subst h1
   split at h
   ·split at h
    ·rename_i e;exact e
    ·simp at h
   ·simp at h
  | [],h,_=>simp [jj] at h
  | _::_::_,h,_=>simp [jj] at h
section
variable {P:Program} {g:G} {s:S} {az:fx} {a:Act} {w:World}
theorem KL (en:ik g s az w){a2:gL}{cd:Nat→Option Nat}(H:mO s a2 cd sw): ∀(l:List Src) (da:List iO) (T:List (List ae)) (ao:List Prop),
 mg s.aX cd a2 l da=some (T,ao)→(∀p∈ao,p)→T.length=l.length∧ ∀(j:Nat) dJ b,T[j]? = some dJ→l[j]? = some b →
  (∀r k I,b.has r k→s.ao r k=some I→I.cv = .live)∧(∀r k,b.has r k→s.a7 r k→b.mN k<dJ.length) ∧
  (∀r k I,b = .ao r k I→s.ao r k=some I) ∧
  ∀(i:Nat) cb,dn (some dJ) i=some cb→ ∃r k I,b.has r k∧i=b.mN k∧s.ao r k=some I∧oy s a2 sw l6 I cb
 | [],[],T,ao,h,_=>by
  simp [mg] at h;obtain ⟨rfl,rfl⟩:=h
  exact ⟨rfl,fun j dJ r aG=>by simp at aG⟩
 | .row r::l,c::da,T,ao,h,br=>by
  simp only [mg] at h
  split at h
  ·rename_i row dG
   split at h
   ·rename_i an b8 nb aT h1 o
    simp only [Option.some.injEq,Prod.mk.injEq] at h
    obtain ⟨rfl,rfl⟩:=h
    obtain ⟨e1,aE⟩:=KL en H l da nb aT o (fun p ak=>br p (by simp [ak]))
    have kp : ∀k,s.ao r k=dn (some row) k:=fun k=>by unfold S.ao;rw [dG]
    obtain ⟨f0,f1,f2⟩:=Ef (q:=l6) (kk:=id) en H (tN _) (fun k I ap=>(kp k).trans ap) h1 (fun p ak=>br p (by simp [ak])) (fun _ _ _ _ _ _ _=>trivial)
    refine ⟨by simp [e1],fun j dJ b aG aU=> ?_⟩
    cases j with
    | zero =>
     simp at aG aU;subst aG;subst aU
     refine ⟨fun q k I bd ap=> ?_,fun q k bd hu=> ?_,fun _ _ _ e=>by simp at e,fun i cb d4=> ?_⟩
     ·have bd:q=r:=bd
      subst bd;rw [kp] at ap;exact f1 k I ap
     ·have bd:q=r:=bd
      subst bd;rw [f0];simpa [S.a7,dG,Src.mN] using hu
     ·obtain ⟨I,g1,g2⟩:=f2 i cb d4
      exact ⟨r,i,I,rfl,rfl,(kp i).trans g1,g2⟩
    | succ j=>simp at aG aU;exact aE j dJ b aG aU
   ·simp at h
  ·simp at h
 | .ao r jq lD::l,c::da,T,ao,h,br=>by
  simp only [mg] at h
  split at h
  ·rename_i row dG
   split at h
   ·rename_i an b8 nb aT h1 o
    simp only [Option.some.injEq,Prod.mk.injEq] at h
    obtain ⟨rfl,rfl⟩:=h
    obtain ⟨e1,aE⟩:=KL en H l da nb aT o (fun p ak=>br p (by simp [ak]))
    have ap:s.ao r jq=some lD:=by unfold S.ao;rw [dG];exact br _ (by simp)
    have l0 : ∀k I,dn (some [lD]) k=some I→k=0∧I=lD:=fun k I a9=>by
     rw [mc] at a9;split at a9
     ·rename_i e;simp at a9;exact ⟨e.1,a9.symm⟩
     ·simp at a9
    have Ms:lD.cv≠ .gone:=by
     unfold S.ao at ap;rw [dG,kB] at ap
     cases a9:row[jq]? with
     | none=>rw [a9] at ap;simp at ap
     | some p =>
      rw [a9,Option.bind_some] at ap;split at ap
      ·simp at ap
      ·rename_i e;simp at ap;subst ap;exact e
    obtain ⟨f0,f1,f2⟩:=Ef (q:=l6) (kk:=fun _=>jq) (r:=r) en H (tN _) (fun k I a9=>by rw [(l0 k I a9).2];exact ap) h1 (fun p ak=>br p (by simp [ak])) (fun _ _ _ _ _ _ _=>trivial)
    refine ⟨by simp [e1],fun j dJ b aG aU=> ?_⟩
    cases j with
    | zero =>
     simp at aG aU;subst aG;subst aU
     refine ⟨fun q k I bd pL=> ?_,fun q k bd hu=> ?_,fun eP dx cb e=> ?_,fun i cb d4=> ?_⟩
     ·obtain ⟨rfl,rfl⟩:q=r∧k=jq:=bd
      rw [ap] at pL;simp at pL;subst pL
      exact f1 0 lD (by rw [mc];simp [Ms])
     ·rw [f0];simp [Src.mN]
     ·cases e;exact ap
     ·obtain ⟨I,g1,g2⟩:=f2 i cb d4
      obtain ⟨rfl,rfl⟩:=l0 i I g1
      exact ⟨r,jq,I,⟨rfl,rfl⟩,rfl,ap,g2⟩
    | succ j=>simp at aG aU;exact aE j dJ b aG aU
   ·simp at h
  ·simp at h
 | [],_::_,_,_,h,_=>by simp [mg] at h
 | .row _::_,[],_,_,h,_=>by simp [mg] at h
 | .ao .. :: _,[],_,_,h,_=>by simp [mg] at h
theorem KD {f7:G}{s1:S}{k2:fx}{bS:World}(en:ik f7 s1 k2 bS){kV:gL}{q:aD→Prop}{cd:Nat→Option Nat}(H:mO s1 kV cd kZ)(bL:s3 q kZ)
 (bd : ∀j i I,s1.ao j i=some I→ ∀e∈I.es,∀x∈e,q x) :
 ∀(l:List Src) (da:List iO) (T:List (List ae)) (u:List (Nat×List ae)) (ao:List Prop) (n:Nat) (s:S),BR l→(∀j row,T[j]? = some row→s1.aX (n+j)=some row) →
 (∀r k j i,jD n l r k=some (j,i)→s.a7 r k→s1.a7 j i)→(∀r k I,Src.ao r k I∈l→s.a7 r k) →
 k6 s1.aX cd kV s.aX l da T=some (u,ao)→(∀p∈ao,p)→T.length=l.length∧(s.h9 u).E=s.E ∧
  (∀r k I,(s.h9 u).ao r k=some I→(∃j i p,jD n l r k=some (j,i)∧s1.ao j i=some p∧oy s1 kV kZ q p I)∨(jD n l r k=none∧s.ao r k=some I)) ∧
  (∀r k,s.a7 r k→(s.h9 u).a7 r k)∧(∀r k j i,jD n l r k=some (j,i)→s1.a7 j i→(s.h9 u).a7 r k)
 | [],[],[],u,ao,n,s,_,_,_,_,h,_=>by
  simp [k6] at h;obtain ⟨rfl,rfl⟩:=h
  exact ⟨rfl,rfl,fun r k I ap=> .inr ⟨rfl,ap⟩,fun r k h=>h,fun r k j i h=>by simp [jD] at h⟩
 | .row q0::l,c::da,row::T,u,ao,n,s,rX,iI,hu,rb,h,br=>by
  simp only [k6] at h
  split at h
  ·rename_i dJ b8 h1
   split at h
   ·rename_i n6 aT o
    simp only [Option.some.injEq,Prod.mk.injEq] at h
    obtain ⟨rfl,rfl⟩:=h
    have Ci:=List.pairwise_cons.1 rX
    have ia:s1.aX n=some row:=iI 0 row rfl
    have vv : ∀k,s1.ao n k=dn (some row) k:=fun k=>by unfold S.ao;rw [ia]
    obtain ⟨f0,f1,f2⟩:=Ef (q:=q) (kk:=id) (r:=n) en H bL (fun k I ap=>(vv k).trans ap) h1 (fun p ak=>br p (by simp [ak])) (fun k I ap=>bd n k I ((vv k).trans ap))
    have jO : ∀k j i,jD (n+1) l q0 k≠some (j,i):=fun k j i hm=>by
     obtain ⟨b,iu,ht,qC,Ng⟩:=u5 hm
     exact Ci.1 b (List.mem_of_getElem? ht) q0 k ⟨rfl,qC⟩
    have yT : ∀r k,s.a7 r k→(s.setRow q0 dJ).a7 r k:=fun r k a9=>by
     rw [nj]
     by_cases e:r=q0
     ·subst e;rw [if_pos rfl,f0]
      have:=hu r k n k (by simp [jD]) a9
      simpa [S.a7,ia] using this
     ·rw [if_neg e];exact a9
    obtain ⟨e1,aE,bP,c3,dg⟩:=KD en H bL bd l da T n6 aT (n+1) (s.setRow q0 dJ) Ci.2 (fun j row aG=>by rw [Nat.add_assoc,Nat.add_comm 1 j];exact iI (j+1) row (by simpa using aG))
     (fun r k j i hm a9=>by
       have c6:r≠q0:=by rintro rfl;exact jO _ _ _ hm
       refine hu r k j i ?_ (by rw [nj,if_neg c6] at a9;exact a9)
       rw [rH n (.row q0) l r k c6];exact hm)
     (fun r k I hm=>yT r k (rb r k I (by simp [hm]))) o (fun p ak=>br p (by simp [ak]))
    refine ⟨by simp [e1],aE,fun r k I ap=> ?_,fun r k a9=>c3 r k (yT r k a9),fun r k j i hm a9=> ?_⟩
    ·rcases bP r k I ap with ⟨j,i,p,iu,ht,qC⟩|⟨iu,ht⟩
     ·have c6:r≠q0:=by rintro rfl;exact jO _ _ _ iu
      exact .inl ⟨j,i,p,by rw [rH n (.row q0) l r k c6];exact iu,ht,qC⟩
     ·rw [lG] at ht
      by_cases e:r=q0
      ·subst e
       rw [if_pos rfl] at ht
       obtain ⟨p,g1,g2⟩:=f2 k I ht
       exact .inl ⟨n,k,p,by simp [jD],(vv k).trans g1,g2⟩
      ·rw [if_neg e] at ht
       exact .inr ⟨by rw [rH n (.row q0) l r k e];exact iu,ht⟩
    ·by_cases e:r=q0
     ·subst e
      simp only [jD,if_true] at hm
      simp only [Option.some.injEq,Prod.mk.injEq] at hm
      obtain ⟨rfl,rfl⟩:=hm
      refine c3 r k ?_
      rw [nj,if_pos rfl,f0]
      simpa [S.a7,ia] using a9
     ·rw [rH n (.row q0) l r k e] at hm
      exact dg r k j i hm a9
   ·simp at h
  ·simp at h
 | .ao q0 jq lD::l,c::da,row::T,u,ao,n,s,rX,iI,hu,rb,h,br=>by
  simp only [k6] at h
  split at h
  ·rename_i lL ET
   split at h
   ·rename_i cb b8 h1
    split at h
    ·rename_i n6 aT o
     simp only [Option.some.injEq,Prod.mk.injEq] at h
     obtain ⟨rfl,rfl⟩:=h
     have Ci:=List.pairwise_cons.1 rX
     have ia:s1.aX n=some row:=iI 0 row rfl
     have vv : ∀k,s1.ao n k=dn (some row) k:=fun k=>by unfold S.ao;rw [ia]
     obtain ⟨f0,f1,f2⟩:=Ef (q:=q) (kk:=id) (r:=n) en H bL (fun k I ap=>(vv k).trans ap) h1 (fun p ak=>br p (by simp [ak])) (fun k I ap=>bd n k I ((vv k).trans ap))
     have jO : ∀j i,jD (n+1) l q0 jq≠some (j,i):=fun j i hm=>by
      obtain ⟨b,iu,ht,qC,Ng⟩:=u5 hm
      exact Ci.1 b (List.mem_of_getElem? ht) q0 jq ⟨⟨rfl,rfl⟩,qC⟩
     have yT : ∀r k,s.a7 r k→(s.setRow q0 (lL.set jq cb)).a7 r k:=DS s ET (by simp)
     have sL:jq<lL.length:=by have:=rb q0 jq lD (by simp);simpa [S.a7,ET] using this
     obtain ⟨e1,aE,bP,c3,dg⟩:=KD en H bL bd l da T n6 aT (n+1) (s.setRow q0 (lL.set jq cb)) Ci.2 (fun j row aG=>by rw [Nat.add_assoc,Nat.add_comm 1 j];exact iI (j+1) row (by simpa using aG))
      (fun r k j i hm a9=>by
        have c6 : ¬(Src.ao q0 jq lD).has r k:=by rintro ⟨rfl,rfl⟩;exact jO _ _ hm
        refine hu r k j i (by rw [rH n _ l r k c6];exact hm) ?_
        rw [nj] at a9
        split at a9
        ·rename_i e;subst e;simpa [S.a7,ET] using a9
        ·exact a9)
      (fun r k I hm=>yT r k (rb r k I (by simp [hm]))) o (fun p ak=>br p (by simp [ak]))
     refine ⟨by simp [e1],aE,fun r k I ap=> ?_,fun r k a9=>c3 r k (yT r k a9),fun r k j i hm a9=> ?_⟩
     ·rcases bP r k I ap with ⟨j,i,p,iu,ht,qC⟩|⟨iu,ht⟩
      ·have c6 : ¬(Src.ao q0 jq lD).has r k:=by rintro ⟨rfl,rfl⟩;exact jO _ _ iu
       exact .inl ⟨j,i,p,by rw [rH n _ l r k c6];exact iu,ht,qC⟩
      ·rw [lG] at ht
       by_cases e:r=q0
       ·subst e
        rw [if_pos rfl,kB,List.getElem?_set] at ht
        by_cases aE:jq=k
        ·subst aE
         rw [if_pos rfl,if_pos sL,Option.bind_some] at ht
         have qC:dn (some [cb]) 0=some I:=by rw [kB];exact ht
         obtain ⟨p,g1,g2⟩:=f2 0 I qC
         exact .inl ⟨n,0,p,by simp [jD],(vv 0).trans g1,g2⟩
        ·rw [if_neg aE] at ht
         have c6 : ¬(Src.ao r jq lD).has r k:=by rintro ⟨-,rfl⟩;exact aE rfl
         exact .inr ⟨by rw [rH n _ l r k c6];exact iu,by unfold S.ao;rw [ET,kB];exact ht⟩
       ·rw [if_neg e] at ht
        have c6 : ¬(Src.ao q0 jq lD).has r k:=by rintro ⟨rfl,-⟩;exact e rfl
        exact .inr ⟨by rw [rH n _ l r k c6];exact iu,ht⟩
     ·by_cases e:(Src.ao q0 jq lD).has r k
      ·obtain ⟨rfl,rfl⟩:=e
       exact c3 r k (yT r k (rb r k lD (by simp)))
      ·rw [rH n _ l r k e] at hm
       exact dg r k j i hm a9
    ·simp at h
   ·simp at h
  ·simp at h
 | [],[],_::_,_,_,_,_,_,_,_,_,h,_=>by simp [k6] at h
 | [],_::_,_,_,_,_,_,_,_,_,_,h,_=>by simp [k6] at h
 | .row _::_,[],_,_,_,_,_,_,_,_,_,h,_=>by simp [k6] at h
 | .ao .. :: _,[],_,_,_,_,_,_,_,_,_,h,_=>by simp [k6] at h
 | .row _::_,_::_,[],_,_,_,_,_,_,_,_,h,_=>by simp [k6] at h
 | .ao .. :: _,_::_,[],_,_,_,_,_,_,_,_,h,_=>by simp [k6] at h
theorem Qr (h:cO g s az a w){aW:Nat}(e5:s.aX aW=none){f:FuncId}{args:List aD}{cr:CN}{l:List Src}(nB:l=if cr.eV.length=cr.a2.length then cr.a2 else cr.a2++[.row aW])
 (rX:BR cr.a2) (vD : ∀a∈cr.a2,a.r≠aW) {cc:gg→Bool} {A:Nat→Prop} {q:aD→Prop} {T:List (List ae)} {cd:Nat→Option Nat}
 (hA : ∀b,A b→b<w.heap.size) (Mn : ∀b,s.ok g az w b→A b) (Mo : ∀r k I b m,s.ao r k=some I→cc I.cv=true→az r k=some (b,m)→A b)
 (aew:(∀b,A b→s.ok g az w b)∨(∀x,q x→bX x)) (bL:s3 q kZ) (FI:mO s (kG cr.a2) cd cc)
 (c1:pM s (kG cr.a2) cc l6 (fe T).aX) (pB : ∀r k I,(∃j i,kG cr.a2 j i=some (r,k))→s.ao r k=some I→I.cv = .live) (hex : ∀r k I,Src.ao r k I∈cr.a2→s.a7 r k)
 {qj:List aD} {b8:List Prop} (m5:lI (nO s.aX cd (kG cr.a2) cc) cr.ac args=some (qj,b8)) (rc : ∀p∈b8,p)
 {eP:aD} {fO:List Prop} (y2:nO (fun j=>cr.eV[j]?) (sx l) (jD 0 l) kZ cr.gr cr.r=some (eP,fO)) (Mt : ∀p∈fO,p)
 {u:List (Nat×List ae)} {e3:List Prop} (Cj:k6 (fun j=>cr.eV[j]?) (sx l) (jD 0 l) s.aX l cr.hD cr.eV=some (u,e3)) (aex : ∀p∈e3,p)
 (yU:Con P f qj T cr.r cr.eV) (aey:q cr.r) (aez : ∀j i I,(fe cr.eV).ao j i=some I→ ∀e∈I.es,∀x∈e,q x)
 {vs:List Value} (aV:vs.length=args.length) (hargs : ∀(j:Nat) x v,args[j]? = some x→vs[j]? = some v→Rel w (s.ok g az w) s.a7 (s.bj az) x v) :
 Eg P f∧Calls P f vs.toArray w fun e bS=> ∃v bR,e = .returned v∧cO g (s.h9 u) bR a bS∧Rel bS ((s.h9 u).ok g bR bS) (s.h9 u).a7 ((s.h9 u).bj bR) eP v:=by
 have Mu:BR l:=by
  subst nB
  split
  ·exact rX
  ·refine List.pairwise_append.2 ⟨rX,List.pairwise_singleton _ _,fun b aU c bh r k fW=> ?_⟩
   rw [List.mem_singleton] at bh;subst bh
   have h1:r=aW:=fW.2
   subst h1
   cases b with
   | row r0=>exact vD _ aU (Eq.symm fW.1)
   | ao r0 jq lD=>exact vD _ aU (Eq.symm fW.1.1)
 have SM : ∀(j:Nat) b,cr.a2[j]? = some b→l[j]? = some b:=by
  intro j b aG
  subst nB
  split
  ·exact aG
  ·rw [List.getElem?_append_left (f9 aG)];exact aG
 have SN : ∀(j:Nat) b,l[j]? = some b→cr.a2[j]? = some b∨b = .row aW:=by
  intro j b aG
  subst nB
  split at aG
  ·exact .inl aG
  ·rw [List.getElem?_append] at aG
   split at aG
   ·exact .inl aG
   ·right
    have:=f9 aG
    simp at this
    rw [show j-cr.a2.length=0 by omega] at aG
    simpa using aG.symm
 refine ⟨yU.1,?_⟩
 obtain ⟨f7,q1,a6,bY,Nh,cz,dj,f6,h4⟩:=enter h.toik A hA Mn Mo c1 pB
 obtain ⟨e1,aE,bP⟩:=Ee _ _ _ _ _ m5
 have:=yU.2 f7 (jY az (kG cr.a2)) w vs.toArray q1 bY Nh cz f6 (by simp [aV,e1]) (by
  intro j cL v dP bk
  have aG:j<args.length:=by have:=f9 dP;omega
  have U:=List.getElem?_eq_getElem aG
  obtain ⟨c,cb,f1,f2,f3⟩:=bP j _ cL U dP
  have B3:vs[j]? = some v:=by simpa using bk
  exact h4 (AY h.toik FI (tN _) f2 (fun p ak=>rc p (f3 p ak)) trivial (hargs j _ v U B3)) (hargs j _ v U B3))
 refine this.mono fun e bS B1=> ?_
 obtain ⟨v,k2,rfl,Fb,bk⟩:=B1
 have TK:mO (fe cr.eV) (jD 0 l) (sx l) kZ:=by
  refine ⟨fun j r aG k=> ?_,fun _ _ _ _ _ bH=>by simp [kZ] at bH⟩
  unfold sx at aG
  split at aG
  ·rename_i r0 lu
   simp at aG;subst aG
   have:=Bg (n:=0) (r:=r0) (k:=k) Mu lu rfl
   simpa [Src.mN] using this
  ·simp at aG
 have Bq : ∀j i r k,kG cr.a2 j i=some (r,k)→jD 0 l r k=some (j,i):=fun j i r k hm=>by
  obtain ⟨b,iu,ht,rfl⟩:=tq.1 hm
  have:=Bg (n:=0) Mu (SM j b iu) ht
  simpa using this
 have ER : ∀r k j i,jD 0 l r k=some (j,i)→kG cr.a2 j i=some (r,k)∨ ¬s.a7 r k:=fun r k j i hm=>by
  obtain ⟨b,-,ht,qC,Ng⟩:=u5 hm
  rcases SN j b (by simpa using ht) with e|e
  ·exact .inl (tq.2 ⟨b,e,qC,Ng⟩)
  ·subst e
   have:r=aW:=qC
   subst this
   exact .inr (xT e5 k)
 obtain ⟨lC,n6,gV,afx,afy⟩:=KD (s1:=fe cr.eV) Fb TK bL aez l cr.hD cr.eV u e3 0 s Mu (fun j row aG=>by simpa [fe] using aG)
  (fun r k j i hm a9=>by
    rcases ER r k j i hm with e|e
    ·exact (Fb.stay j i (by rw [Nh];exact c1.a7 _ _ _ _ e a9)).1
    ·exact absurd a9 e)
  (fun r k I hm=>by
    obtain ⟨j,aG⟩:=List.getElem?_of_mem hm
    rcases SN j _ aG with e|e
    ·exact hex r k I (List.mem_of_getElem? e)
    ·cases e) Cj aex
 obtain ⟨lB,f1,f2⟩:=leave (q0:=l6) (q:=q) h q1 (by rw [a6];exact aew) Nh cz dj pB c1 Fb Bq ER (fun r k eP dx p=>ach) (s2:=s.h9 u) n6 gV afx afy
  (AY Fb TK bL y2 Mt aey bk) bk
 exact ⟨v,lB,rfl,f1,f2⟩
theorem Zz (h:cO g s az a w){aW:Nat}(e5:s.aX aW=none){f:FuncId}{args:List aD}{cr:CN}{bG:il}(ay:yL P s.aX aW f args cr=some bG)(cG:∀p∈bG.fF,p)
 {vs:List Value} (aV:vs.length=args.length) (hargs : ∀(j:Nat) x v,args[j]? = some x→vs[j]? = some v→Rel w (s.ok g az w) s.a7 (s.bj az) x v) :
 Eg P f∧Calls P f vs.toArray w fun e bS=> ∃v bR,e = .returned v∧cO g (s.h9 bG.fS) bR a bS∧Rel bS ((s.h9 bG.fS).ok g bR bS) (s.h9 bG.fS).a7 ((s.h9 bG.fS).bj bR) bG.val v:=by
 unfold yL at ay
 simp only at ay
 generalize nB:(if cr.eV.length=cr.a2.length then cr.a2 else cr.a2++[.row aW])=l at ay
 split at ay
 ·simp at ay
 ·rename_i lD sM
  split at ay
  ·simp at ay
  ·rename_i adS
   have vD : ∀a∈cr.a2,a.r≠aW:=fun b aU e=>adS (List.any_eq_true.2 ⟨b,aU,by simpa using e⟩)
   split at ay
   ·
    split at ay
    ·rename_i tO
     split at ay
     ·rename_i qj b8 eP fO u e3 m5 y2 Cj
      simp only [Option.some.injEq] at ay
      subst ay
      have yU:Con P f qj [] cr.r cr.eV:=cG _ (by simp)
      have Ck:bX cr.r:=cG _ (by simp)
      have adT:lN cr.eV:=by
       by_cases e:cr.eV=[]
       ·rw [e];intro row dG;simp at dG
       ·exact cG _ (by
         have:cr.eV.isEmpty=false:=by simpa [List.isEmpty_iff] using e
         simp [this])
      refine Qr (cc:=kP) (A:=fun b=>b<w.heap.size) (q:=bX) (T:=[]) (cd:=fun _=>none) h e5 nB.symm (by rw [tO];exact List.Pairwise.nil) vD (fun _ aU=>aU) (fun b aU=>aU.1)
       (fun r k I b m ap _ ak=>Be h.toik ap ak) (.inr fun _ U=>U) aes ?_ ?_ ?_ ?_ (by rw [tO];exact m5) (fun p ak=>cG p (by simp [ak])) y2 (fun p ak=>cG p (by simp [ak])) Cj (fun p ak=>cG p (by simp [ak])) yU Ck ?_ aV hargs
      ·refine ⟨fun _ _ e=>by simp at e,fun r _ k I _ _ j i e=> ?_⟩
       rw [tO] at e;simp [kG] at e
      ·refine ⟨fun j i h2 eM p e=> ?_,fun j i cb e=> ?_,fun j i r k e=> ?_⟩
       ·rw [tO] at e;simp [kG] at e
       ·simp [fe,dn] at e
       ·rw [tO] at e;simp [kG] at e
      ·rintro r k I ⟨j,i,e⟩
       rw [tO] at e;simp [kG] at e
      ·rintro r k I e
       rw [tO] at e;simp at e
      ·intro j i I ap e he x U
       have ap:dn (cr.eV[j]?) i=some I:=ap
       cases aq:cr.eV[j]? with
       | none=>rw [aq] at ap;simp [dn] at ap
       | some row =>
        rw [aq,kB] at ap
        cases a9:row[i]? with
        | none=>rw [a9] at ap;simp at ap
        | some p =>
         rw [a9,Option.bind_some] at ap
         split at ap
         ·simp at ap
         ·simp at ap;subst ap
          exact adT row (List.mem_of_getElem? aq) p (List.mem_of_getElem? a9) e he x U
     ·simp at ay
    ·simp at ay
   ·split at ay
    ·rename_i qj b8 T aT eP fO u e3 m5 y1 y2 Cj
     simp only [Option.some.injEq] at ay
     subst ay
     have rX:=Qq sM fun p ak=>cG p (by simp [ak])
     have yU:Con P f qj T cr.r cr.eV:=cG _ (by simp)
     have aj : ∀r j,o2 0 cr.a2 r=some j→ ∀k,kG cr.a2 j k=some (r,k):=fun r j aG k=>by
      obtain ⟨-,o⟩:=KK aG
      simp only [kG,show cr.a2[j]? = some (.row r) by simpa using o]
     have Mq : ∀(l:List Src) (da:List iO) (T:List (List ae)) (ao:List Prop),mg s.aX (o2 0 cr.a2) (kG cr.a2) l da=some (T,ao)→(∀p∈ao,p) →
      ∀b∈l,∀r k I,b.has r k→s.ao r k=some I→I.cv≠ .i9:=by
      intro l
      induction l with
      | nil=>intro _ _ _ _ _ b aU;simp at aU
      | cons b l ih =>
       intro da T ao h0 br c bh r k I fW ap
       cases da with
       | nil=>cases b<;>simp [mg] at h0
       | cons c9 da =>
        cases b with
        | row r0 =>
         simp only [mg] at h0
         split at h0
         ·rename_i row dG
          split at h0
          ·rename_i an p1 nb hz h1 o
           simp only [Option.some.injEq,Prod.mk.injEq] at h0
           obtain ⟨rfl,rfl⟩:=h0
           rcases List.mem_cons.1 bh with rfl|bh
           ·have e:r=r0:=fW
            subst e
            have d4:dn (some row) k=some I:=by unfold S.ao at ap;rw [dG] at ap;exact ap
            have:=PA h1 (fun p ak=>br p (by simp [ak])) k I d4
            rw [this];simp
           ·exact ih da nb hz o (fun p ak=>br p (by simp [ak])) c bh r k I fW ap
          ·simp at h0
         ·simp at h0
        | ao r0 jq lD =>
         simp only [mg] at h0
         split at h0
         ·rename_i row dG
          split at h0
          ·rename_i an p1 nb hz h1 o
           simp only [Option.some.injEq,Prod.mk.injEq] at h0
           obtain ⟨rfl,rfl⟩:=h0
           rcases List.mem_cons.1 bh with rfl|bh
           ·obtain ⟨rfl,rfl⟩:=fW
            have rc:dn (some row) k=some lD:=br _ (by simp)
            have d4:dn (some row) k=some I:=by unfold S.ao at ap;rw [dG] at ap;exact ap
            rw [rc] at d4;simp at d4;subst d4
            have Ms:lD.cv≠ .gone:=by
             rw [kB] at rc
             cases a9:row[k]? with
             | none=>rw [a9] at rc;simp at rc
             | some p =>
              rw [a9,Option.bind_some] at rc;split at rc
              ·simp at rc
              ·rename_i e;simp at rc;subst rc;exact e
            have:=PA h1 (fun p ak=>br p (by simp [ak])) 0 lD (by rw [mc];simp [Ms])
            rw [this];simp
           ·exact ih da nb hz o (fun p ak=>br p (by simp [ak])) c bh r k I fW ap
          ·simp at h0
         ·simp at h0
     have FI:mO s (kG cr.a2) (o2 0 cr.a2) sw:=by
      refine ⟨aj,fun r aq k I ap bH j i hm=> ?_⟩
      obtain ⟨b,iu,ht,-⟩:=tq.1 hm
      exact Mq cr.a2 cr.da T aT y1 (fun p ak=>cG p (by simp [ak])) b (List.mem_of_getElem? iu) r k I ht ap (by simpa [sw] using bH)
     obtain ⟨t1,t2⟩:=KL h.toik FI cr.a2 cr.da T aT y1 (fun p ak=>cG p (by simp [ak]))
     have l5 : ∀j b,cr.a2[j]? = some b→ ∃dJ,T[j]? = some dJ:=fun j b aG=>by
      have:j<T.length:=by have:=f9 aG;omega
      exact ⟨_,List.getElem?_eq_getElem this⟩
     refine Qr (cc:=sw) (A:=s.ok g az w) (q:=l6) (T:=T) h e5 nB.symm rX vD (fun b aU=>aU.1) (fun b aU=>aU)
      (fun r k I b m ap a9 ak=>acN h.toik ap (by simpa [sw] using a9) ak) (.inl fun _ aU=>aU) (tN _) FI ?_ ?_ ?_ m5 (fun p ak=>cG p (by simp [ak])) y2 (fun p ak=>cG p (by simp [ak])) Cj
      (fun p ak=>cG p (by simp [ak])) yU trivial (fun _ _ _ _ _ _ _ _=>trivial) aV hargs
     ·refine ⟨fun j i h2 eM p e ex=> ?_,fun j i cb d4=> ?_,fun j i r k e hu=> ?_⟩
      ·obtain ⟨r,k⟩:=p
       obtain ⟨b,iu,ht,rfl⟩:=tq.1 e
       obtain ⟨kv,aeA,aeB,rfl⟩:=tq.1 ex
       have e1:=Bg (n:=0) rX iu ht
       have aE:=Bg (n:=0) rX aeA aeB
       rw [e1] at aE
       simpa using aE
      ·have aG:j<T.length:=by
        rcases Nat.lt_or_ge j T.length with e|e
        ·exact e
        ·have:(fe T).aX j=none:=List.getElem?_eq_none e
         rw [this] at d4;simp [dn] at d4
       have SO:T[j]? = some T[j]:=List.getElem?_eq_getElem aG
       have SP:cr.a2[j]? = some (cr.a2[j]'(by omega)):=List.getElem?_eq_getElem (by omega)
       have pL:dn (some T[j]) i=some cb:=by have:(fe T).aX j=some T[j]:=SO;rw [this] at d4;exact d4
       obtain ⟨r,k,I,n1,ky,afz,afA⟩:=(t2 j _ _ SO SP).2.2.2 i cb pL
       exact ⟨r,k,I,tq.2 ⟨_,SP,n1,ky⟩,afz,afA⟩
      ·obtain ⟨b,iu,ht,rfl⟩:=tq.1 e
       obtain ⟨dJ,rL⟩:=l5 j b iu
       have:=(t2 j dJ b rL iu).2.1 r k ht hu
       show b.mN k<((T[j]?).getD []).length
       rw [rL];exact this
     ·rintro r k I ⟨j,i,e⟩ ap
      obtain ⟨b,iu,ht,-⟩:=tq.1 e
      obtain ⟨dJ,rL⟩:=l5 j b iu
      exact (t2 j dJ b rL iu).1 r k I ht ap
     ·intro r k I hm
      obtain ⟨j,aG⟩:=List.getElem?_of_mem hm
      obtain ⟨dJ,rL⟩:=l5 j _ aG
      exact Ed ((t2 j dJ _ rL aG).2.2.1 r k I rfl)
    ·simp at ay
end
end Go.VL
