/- Lemmas, plain functions of the program, and what they answer. No condition. -/
import Derived.Below
import Derived.Eval
import Derived.KernelRfl
import Derived.Laws.Append
import Derived.Laws.AppendOwn
import Derived.Laws.BytesString
import Derived.Laws.Cells
import Derived.Laws.CopyRow
import Derived.Laws.Entries
import Derived.Laws.MakeOwn
import Derived.Laws.OwnMore
import Derived.Laws.Rows
import Derived.Laws.Slices
import Derived.Laws.Tables
import Derived.Orders
namespace Go.VL
set_option linter.unusedVariables false
set_option linter.unusedSimpArgs false
open Go
inductive ay where
 | dead
 | b (x:Bool)
 | n (k:IntKind) (x:Int)
 | s (x:ByteArray)
 | hJ
 | d7
 | h2
 | ref (r k i off:Nat)
 | bw (r k bV len:Nat)
 | h3 (r c sz:Nat) (h:Option (Nat×Nat))
 | isl (sz:Nat) (es:List (List ay))
 | ey (sz:Nat) (es:List (List ay)) (i off:Nat)
 | eb (sz:Nat) (c:Option (List ay))
 | agg (c:List ay)
 | cW (vs:List ay)
 | fn (f:Nat) (cap:List ay)
 deriving Inhabited
inductive fK where
 | live|im|gone
 deriving DecidableEq,Inhabited
structure aq where
 sz:Nat
 es:List (List ay)
 cm:fK
 deriving Inhabited
structure S where
 E:Nat→ay
 aK:Nat→Option (List aq)
abbrev jE (v:Value):Bool:=v.oneCell'
abbrev e9:=Nat→Nat→Option (Nat×Nat)
abbrev iu:=Nat→Nat→Option (Nat×Option (Nat×Nat))
abbrev iF:=Nat→Nat→Prop
inductive Pure:ay→Prop
 | dead:Pure .dead
 | b (x:Bool):Pure (.b x)
 | n (k:IntKind) (x:Int):Pure (.n k x)
 | s (x:ByteArray):Pure (.s x)
 | hJ:Pure .hJ
 | d7:Pure .d7
 | h2:Pure .h2
 | isl {sz:Nat} {es:List (List ay)} (h : ∀e∈es,∀x∈e,Pure x):Pure (.isl sz es)
 | ey {sz i off:Nat} {es:List (List ay)} (h : ∀e∈es,∀x∈e,Pure x):Pure (.ey sz es i off)
 | oN (sz:Nat):Pure (.eb sz none)
 | ov {sz:Nat} {c:List ay} (h : ∀x∈c,Pure x):Pure (.eb sz (some c))
 | agg {c:List ay} (h : ∀x∈c,Pure x):Pure (.agg c)
 | cW {c:List ay} (h : ∀x∈c,Pure x):Pure (.cW c)
 | fn {f:Nat} {c:List ay} (h : ∀x∈c,Pure x):Pure (.fn f c)
def hc (es:List (List ay)):Prop:= ∀e∈es,∀x∈e,Pure x
inductive Rel (w:World) (ok:Nat→Prop) (aY:iF) (a8:iu):ay→Value→Prop
 | dead (v:Value):Rel w ok aY a8 .dead v
 | b (x:Bool):Rel w ok aY a8 (.b x) (.bool x)
 | n (k:IntKind) (x:Int):Rel w ok aY a8 (.n k x) (.int k x)
 | s (x:ByteArray):Rel w ok aY a8 (.s x) (.string x)
 | hJ:Rel w ok aY a8 .hJ (.pointer none)
 | d7:Rel w ok aY a8 .d7 (.slice none 0 0)
 | h2 (a:Addr) (c:Nat):Rel w ok aY a8 .h2 (.slice (some a) 0 c)
 | pc {r k i off:Nat} (a:Option Addr) (hu:aY r k) (h : ∀sz p,a8 r k≠some (sz,some p)):Rel w ok aY a8 (.ref r k i off) (.pointer a)
 | ref {r k i off sz dJ m:Nat} (hu:aY r k) (h:a8 r k=some (sz,some (dJ,m))):Rel w ok aY a8 (.ref r k i off) (.pointer (some ⟨dJ,i*sz+off,none⟩))
 | mG {r k bV len:Nat} (a:Option Addr) (l c:Nat) (hu:aY r k) (h:a8 r k=none):Rel w ok aY a8 (.bw r k bV len) (.slice a l c)
 | m4 {r k sz:Nat} (hu:aY r k) (h:a8 r k=some (sz,none)):Rel w ok aY a8 (.bw r k 0 0) (.slice none 0 0)
 | bw {r k bV len sz dJ m c:Nat} {a:Option Addr} (hu:aY r k) (h:a8 r k=some (sz,some (dJ,m))) (aO:len≤c) (aN:c<9223372036854775808)
  (hm:(bV+c)*sz=m∧(c=0∨a=some ⟨dJ,bV*sz,none⟩)):Rel w ok aY a8 (.bw r k bV len) (.slice a len c)
 | l7 {r c sz:Nat} {v:Value} (h:Rel w ok aY a8 (.isl sz []) v):Rel w ok aY a8 (.h3 r c sz none) v
 | nc {r c sz k n:Nat} {v:Value} (h:Rel w ok aY a8 (.bw r (k+c) 0 n) v):Rel w ok aY a8 (.h3 r c sz (some (k,n))) v
 | jI (sz:Nat) (a:Option Addr) (c:Nat) (h:a=none→c=0):Rel w ok aY a8 (.isl sz []) (.slice a 0 c)
 | isl {sz:Nat} {es:List (List ay)} {dJ off c:Nat} (cs:Nat→Value) (aV:ok dJ) (af:hc es) (aO : ∀e∈es,e.length=sz) (aN:es.length≤c)
  (hw : ∀(j:Nat) x,es.flatten[j]? = some x→w.cell? ⟨dJ,off+j,none⟩=some (cs j)) (ju : ∀(j:Nat) x,es.flatten[j]? = some x→jE (cs j)=true)
  (al : ∀(j:Nat) x,es.flatten[j]? = some x→Rel w ok aY a8 x (cs j)):Rel w ok aY a8 (.isl sz es) (.slice (some ⟨dJ,off,none⟩) es.length c)
 | ey {sz:Nat} {es:List (List ay)} {dJ I i off:Nat} (cs:Nat→Value) (aV:ok dJ) (af:hc es) (aO : ∀e∈es,e.length=sz)
  (hw : ∀(j:Nat) x,es.flatten[j]? = some x→w.cell? ⟨dJ,I+j,none⟩=some (cs j)) (ju : ∀(j:Nat) x,es.flatten[j]? = some x→jE (cs j)=true)
  (al : ∀(j:Nat) x,es.flatten[j]? = some x→Rel w ok aY a8 x (cs j)):Rel w ok aY a8 (.ey sz es i off) (.pointer (some ⟨dJ,I+(i*sz+off),none⟩))
 | oN (sz:Nat):Rel w ok aY a8 (.eb sz none) (.pointer none)
 | ov {sz:Nat} {c:List ay} {v:Value} (h:Rel w ok aY a8 (.ey sz [c] 0 0) v):Rel w ok aY a8 (.eb sz (some c)) v
 | agg {c:List ay} (vs:List Value) (aO:vs.length=c.length) (ju : ∀(j:Nat) v,vs[j]? = some v→jE v=true)
  (al : ∀(j:Nat) x v,c[j]? = some x→vs[j]? = some v→Rel w ok aY a8 x v):Rel w ok aY a8 (.agg c) (.agg vs.toArray)
 | cW {c:List ay} (vs:List Value) (aO:vs.length=c.length)
  (al : ∀(j:Nat) x v,c[j]? = some x→vs[j]? = some v→Rel w ok aY a8 x v):Rel w ok aY a8 (.cW c) (.tuple vs.toArray)
 | fn {f:Nat} {c:List ay} (vs:List Value) (aO:vs.length=c.length)
  (al : ∀(j:Nat) x v,c[j]? = some x→vs[j]? = some v→Rel w ok aY a8 x v):Rel w ok aY a8 (.fn f c) (.func (.func f) #[] vs.toArray)
theorem Rel.mono {w bD:World}{ok ki:Nat→Prop}{aY mb:iF}{a8 lE:iu}{a:ay}{v:Value}(h:Rel w ok aY a8 a v)
 (mc : ∀b,ok b→ki b) (hw : ∀b,ok b→bD.heap[b]? = w.heap[b]?)
 (iK : ∀r k,aY r k→mb r k) (kG : ∀r k,aY r k→lE r k=a8 r k∨lE r k=none):Rel bD ki mb lE a v:=by
 have ju : ∀b I,ok b→bD.cell? ⟨b,I,none⟩=w.cell? ⟨b,I,none⟩:=fun b I aV=>World.cell?_of_block (hw b aV)
 induction h with
 | dead v=>exact .dead v
 | b x=>exact .b x
 | n k x=>exact .n k x
 | s x=>exact .s x
 | hJ=>exact .hJ
 | d7=>exact .d7
 | h2 a c=>exact .h2 a c
 | @pc r k i off a hu h =>
  refine .pc a (iK r k hu) fun sz p=> ?_
  rcases kG r k hu with e|e<;>rw [e]
  ·exact h sz p
  ·simp
 | @ref r k i off sz dJ m hu h =>
  rcases kG r k hu with e|e
  ·exact .ref (iK r k hu) (e.trans h)
  ·exact .pc _ (iK r k hu) fun sz p=>by rw [e];simp
 | @mG r k bV len a l c hu h=>exact .mG a l c (iK r k hu) (by rcases kG r k hu with e|e<;>rw [e];exact h)
 | @m4 r k sz hu h =>
  rcases kG r k hu with e|e
  ·exact .m4 (iK r k hu) (e.trans h)
  ·exact .mG _ _ _ (iK r k hu) e
 | @bw r k bV len sz dJ m c a hu h aO aN hm =>
  rcases kG r k hu with e|e
  ·exact .bw (iK r k hu) (e.trans h) aO aN hm
  ·exact .mG _ _ _ (iK r k hu) e
 | l7 h ih=>exact .l7 ih
 | nc h ih=>exact .nc ih
 | jI sz a c h=>exact .jI sz a c h
 | isl cs aV af aO aN AA hk al ih=>exact .isl cs (mc _ aV) af aO aN (fun j x aa=>(ju _ _ aV).trans (AA j x aa)) hk ih
 | ey cs aV af aO AA hk al ih=>exact .ey cs (mc _ aV) af aO (fun j x aa=>(ju _ _ aV).trans (AA j x aa)) hk ih
 | oN sz=>exact .oN sz
 | ov h ih=>exact .ov ih
 | agg vs aO hk al ih=>exact .agg vs aO hk ih
 | cW vs aO al ih=>exact .cW vs aO ih
 | fn vs aO al ih=>exact .fn vs aO ih
structure G where
 lX:World
 A:Nat→Prop
 o0:Nat→Prop
 N:Nat
 m:Nat
 oB:iF
 qE:iu
def S.aY (s:S)(r k:Nat):Prop:=k<((s.aK r).getD []).length
def c7 (row:Option (List aq))(k:Nat):Option aq :=
 match row with
 | some l=>match l[k]? with
  | some I=>if I.cm = .gone then none else some I
  | none=>none
 | none=>none
def S.ag (s:S)(r k:Nat):Option aq:=c7 (s.aK r) k
def S.a8 (s:S)(aw:e9):iu:=fun r k=>(s.ag r k).map fun I=>(I.sz,aw r k)
def S.lb (s:S)(aw:e9)(b:Nat):Prop:= ∃r k I m,s.ag r k=some I∧I.cm = .live∧aw r k=some (b,m)
def S.ok (s:S)(g:G)(aw:e9)(w:World)(b:Nat):Prop :=
 b<w.heap.size∧(g.A b∨g.lX.heap.size≤b∨g.o0 b)∧ ¬s.lb aw b
def iB (w:World)(ok:Nat→Prop)(aY:iF)(a8:iu)(I:aq):Option (Nat×Nat)→Prop
 | none=>I.es=[]
 | some (dJ,m)=> ∃c eh,w.heap[dJ]? = some (.cells c eh (0,0))∧c.size=m∧(∀e∈I.es,e.length=I.sz) ∧
  ∀(j:Nat) x,I.es.flatten[j]? = some x→ ∃v,c[j]? = some v∧jE v=true∧Rel w ok aY a8 x v
structure Ae (g:G) (w:World):Prop where
 os:w.os=g.lX.os
 tape:w.tape=g.lX.tape
 output:w.output=g.lX.output
 size:g.lX.heap.size≤w.heap.size
 block : ∀b,b<g.lX.heap.size→ ¬g.o0 b→w.heap[b]? = g.lX.heap[b]?
structure hy (g:G) (s:S) (aw:e9) (w:World):Prop where
 obj : ∀r k I,s.ag r k=some I→iB w (s.ok g aw w) s.aY (s.a8 aw) I (aw r k)
 inj : ∀r k I ei dt bY b m a1,s.ag r k=some I→s.ag ei dt=some bY→aw r k=some (b,m)→aw ei dt=some (b,a1)→r=ei∧k=dt
 own : ∀r k I b m,s.ag r k=some I→aw r k=some (b,m)→g.lX.heap.size≤b∨g.o0 b
 gD:Ae g w
 mlt : ∀b,g.o0 b→b<g.lX.heap.size
 mO : ∀b,g.A b→b<g.lX.heap.size
 stay : ∀j k,g.oB j k→s.aY j k∧(s.a8 aw j k=g.qE j k∨s.a8 aw j k=none)
 low : ∀j k,g.oB j k→j<g.m
structure cE (g:G) (s:S) (aw:e9) (a:Act) (w:World):Prop extends hy g s aw w where
 env : ∀t,Rel w (s.ok g aw w) s.aY (s.a8 aw) (s.E t) (a.tmps.getD t undef)
 defers:a.defers=[]
 i4:g.N≤a.tmps.size
def ofValue:Value→ay
 | .bool x=> .b x
 | .int k x=> .n k x
 | .string x=> .s x
 | .pointer none=> .hJ
 | .slice none 0 0=> .d7
 | _=> .dead
theorem Nc {w:World}{ok:Nat→Prop}{aY:iF}{a8:iu}(v:Value):Rel w ok aY a8 (ofValue v) v:=by
 unfold ofValue
 split<;>constructor
def eu (E:Nat→ay):Operand→ay
 | .tmp t=>E t
 | .const v=>ofValue v
 | .global _=> .dead
 | .func f=> .fn f []
theorem cE.eval {g:G}{s:S}{aw:e9}{a:Act}{w:World}(h:cE g s aw a w)(x:Operand):
 Rel w (s.ok g aw w) s.aY (s.a8 aw) (eu s.E x) (a.eval x):=by
 cases x with
 | tmp t=>exact h.env t
 | const v=>exact Nc v
 | global g=>exact .dead _
 | func f=>exact .fn [] rfl (fun j x v aa=>by simp at aa)
def ay.cells:ay→List ay
 | .agg c=>c
 | x=>[x]
def ay.one:ay→Bool
 | .dead | .agg _ | .cW _=>false
 | _=>true
def ay.xb:ay→Bool
 | .dead | .cW _=>false
 | _=>true
theorem ay.Nd {v:ay}(h:v.xb=true):v.one=true∨ ∃c,v = .agg c:=by
 cases v<;>first|exact .inl rfl|exact .inr ⟨_,rfl⟩|simp [ay.xb] at h
theorem Rel.jE {w:World}{ok:Nat→Prop}{aY:iF}{a8:iu}{a:ay}{v:Value}(h:Rel w ok aY a8 a v)(bE:a.one=true):jE v=true:=by
 cases h with
 | ov h=>cases h;rfl
 | l7 h=>cases h<;>rfl
 | nc h=>cases h<;>rfl
 | _=>first|rfl|simp [ay.one] at bE
theorem Rel.cellsOf {w:World}{ok:Nat→Prop}{aY:iF}{a8:iu}{a:ay}{v:Value}(h:Rel w ok aY a8 a v)(bE:a.one=true∨ ∃c,a = .agg c):
 ∃vs:List Value,v.cells=vs.toArray∧vs.length=a.cells.length∧(∀(j:Nat) x,vs[j]? = some x→VL.jE x=true) ∧
  ∀(j:Nat) x u,a.cells[j]? = some x→vs[j]? = some u→Rel w ok aY a8 x u:=by
 rcases bE with bE|⟨c,rfl⟩
 ·have aN:=h.jE bE
  refine ⟨[v],?_,?_,?_,?_⟩
  ·cases v<;>first|rfl|simp [VL.jE,Value.oneCell'] at aN
  ·cases a<;>first|rfl|simp [ay.one] at bE
  ·intro j x aa
   cases j with
   | zero=>simp at aa;subst aa;exact aN
   | succ j=>simp at aa
  ·intro j x u aa hu
   have e:a.cells=[a]:=by cases a<;>first|rfl|simp [ay.one] at bE
   rw [e] at aa
   cases j with
   | zero=>simp at aa hu;subst aa;subst hu;exact h
   | succ j=>simp at aa
 ·cases h with
  | agg vs aO ju al=>exact ⟨vs,rfl,aO,ju,al⟩
end Go.VL
namespace Go.VL
set_option linter.unusedVariables false
set_option linter.unusedSimpArgs false
open Go
def S.put (s:S)(dst:Option Tmp)(v:ay):S :=
 match dst with
 | some t=>{s with E:=fun u=>if u=t then v else s.E u}
 | none=>s
def S.setRow (s:S)(r:Nat)(row:List aq):S:={s with aK:=fun q=>if q=r then some row else s.aK q}
@[simp] theorem S.sT (s:S) (dst:Option Tmp) (v:ay):(s.put dst v).aK=s.aK:=by cases dst<;>rfl
@[simp] theorem S.adP (s:S) (r:Nat) (row:List aq):(s.setRow r row).E=s.E:=rfl
theorem zv {s bI:S}(h:bI.aK=s.aK):bI.ag=s.ag:=by funext r k;simp [S.ag,h]
theorem xc {s bI:S}(h:bI.aK=s.aK):bI.aY=s.aY:=by funext r k;simp [S.aY,h]
theorem xd {s bI:S}(h:bI.aK=s.aK)(aw:e9):bI.a8 aw=s.a8 aw:=by unfold S.a8;rw [zv h]
theorem Vn {s bI:S}(h:bI.aK=s.aK)(aw:e9):bI.lb aw=s.lb aw:=by unfold S.lb;rw [zv h]
theorem zw {s bI:S}(h:bI.aK=s.aK)(g:G)(aw:e9)(w:World):bI.ok g aw w=s.ok g aw w:=by
 funext b;unfold S.ok;rw [Vn h]
theorem hy.congr {g:G}{s bI:S}{aw:e9}{w:World}(h:hy g s aw w)(e:bI.aK=s.aK):hy g bI aw w where
 obj:=by rw [zv e,xc e,xd e,zw e];exact h.obj
 inj:=by rw [zv e];exact h.inj
 own:=by rw [zv e];exact h.own
 gD:=h.gD
 mlt:=h.mlt
 mO:=h.mO
 stay:=by rw [xc e,xd e];exact h.stay
 low:=h.low
theorem Xh (a:Act)(dst:Option Tmp)(v:Value)(t:Nat)(eB:∀d,dst=some d→d<a.tmps.size):
 (a.put dst v).tmps.getD t undef=if dst=some t then v else a.tmps.getD t undef:=by
 cases dst with
 | none=>simp [Act.put]
 | some d =>
  have:=eB d rfl
  simp only [Act.put,Array.getD_eq_getD_getElem?,Array.getElem?_setIfInBounds,Option.some.injEq]
  by_cases e:d=t
  ·subst e;simp [this]
  ·simp [e]
theorem cE.put {g:G}{s:S}{aw:e9}{a:Act}{w:World}(h:cE g s aw a w)(dst:Option Tmp){x:ay}{v:Value}
 (bg : ∀d,dst=some d→d<g.N) (al:Rel w (s.ok g aw w) s.aY (s.a8 aw) x v):cE g (s.put dst x) aw (a.put dst v) w where
 tohy:=h.tohy.congr (S.sT s dst x)
 env:=by
  have e:=S.sT s dst x
  rw [zw e,xc e,xd e]
  intro t
  rw [Xh a dst v t fun d sf=>Nat.lt_of_lt_of_le (bg d sf) h.i4]
  cases dst with
  | none=>simpa [S.put] using h.env t
  | some d =>
   simp only [S.put,Option.some.injEq]
   by_cases e:t=d
   ·subst e;simpa using al
   ·rw [if_neg e,if_neg (Ne.symm e)];exact h.env t
 defers:=by cases dst<;>exact h.defers
 i4:=by cases dst<;>simpa [Act.put] using h.i4
structure Step (g:G) (s:S) (aw:e9) (w:World) (bI:S) (bG:e9) (bD:World):Prop where
 aY : ∀r k,s.aY r k→bI.aY r k
 a8 : ∀r k,s.aY r k→bI.a8 bG r k=s.a8 aw r k∨bI.a8 bG r k=none
 live : ∀b,bI.lb bG b→s.lb aw b∨w.heap.size≤b
 heap : ∀b,b<w.heap.size→ ¬s.lb aw b→bD.heap[b]? = w.heap[b]?
 size:w.heap.size≤bD.heap.size
theorem Step.ok {g:G}{s bI:S}{aw bG:e9}{w bD:World}(h:Step g s aw w bI bG bD)(b:Nat)(aV:s.ok g aw w b):bI.ok g bG bD b :=
 ⟨Nat.lt_of_lt_of_le aV.1 h.size,aV.2.1,fun aO=>by
  rcases h.live b aO with o|o
  ·exact aV.2.2 o
  ·exact absurd aV.1 (by omega)⟩
theorem Step.rel {g:G}{s bI:S}{aw bG:e9}{w bD:World}(h:Step g s aw w bI bG bD){x:ay}{v:Value}
 (al:Rel w (s.ok g aw w) s.aY (s.a8 aw) x v):Rel bD (bI.ok g bG bD) bI.aY (bI.a8 bG) x v :=
 al.mono h.ok (fun b aV=>h.heap b aV.1 aV.2.2) h.aY h.a8
theorem Step.obj {g:G}{s bI:S}{aw bG:e9}{w bD:World}(h:Step g s aw w bI bG bD){I:aq}{p:Option (Nat×Nat)}
 (af : ∀b m,p=some (b,m)→bD.heap[b]? = w.heap[b]?) (ai:iB w (s.ok g aw w) s.aY (s.a8 aw) I p) :
 iB bD (bI.ok g bG bD) bI.aY (bI.a8 bG) I p:=by
 cases p with
 | none=>exact ai
 | some q =>
  obtain ⟨b,m⟩:=q
  obtain ⟨c,eh,o,R,ab,aA⟩:=ai
  refine ⟨c,eh,(af b m rfl).trans o,R,ab,fun j x aa=> ?_⟩
  obtain ⟨v,ax,aC,bZ⟩:=aA j x aa
  exact ⟨v,ax,aC,h.rel bZ⟩
theorem Step.stay {g:G}{s bI:S}{aw bG:e9}{w bD:World}(h:Step g s aw w bI bG bD)
 (bX : ∀j k,g.oB j k→s.aY j k∧(s.a8 aw j k=g.qE j k∨s.a8 aw j k=none)) : ∀j k,g.oB j k→bI.aY j k∧(bI.a8 bG j k=g.qE j k∨bI.a8 bG j k=none):=by
 intro j k aB
 obtain ⟨o,R⟩:=bX j k aB
 refine ⟨h.aY j k o,?_⟩
 rcases h.a8 j k o with e|e
 ·rw [e];exact R
 ·exact .inr e
theorem Ae.step {g:G}{w bD:World}(h:Ae g w)(o:bD.os=w.os)(R:bD.tape=w.tape)(ab:bD.output=w.output)(aA:w.heap.size≤bD.heap.size)
 (aF : ∀b,b<g.lX.heap.size→ ¬g.o0 b→bD.heap[b]? = w.heap[b]?):Ae g bD :=
 ⟨o.trans h.os,R.trans h.tape,ab.trans h.output,Nat.le_trans h.size aA,fun b aV hm=>(aF b aV hm).trans (h.block b aV hm)⟩
theorem kT (s:S)(r:Nat)(row:List aq)(q k:Nat):(s.setRow r row).ag q k=if q=r then c7 (some row) k else s.ag q k:=by
 unfold S.ag S.setRow
 by_cases e:q=r<;>simp [e]
theorem mF (s:S)(r:Nat)(row:List aq)(q k:Nat):(s.setRow r row).aY q k↔(if q=r then k<row.length else s.aY q k):=by
 unfold S.aY S.setRow
 by_cases e:q=r<;>simp [e]
theorem C2 {s:S}{r k:Nat}{I:aq}(h:s.ag r k=some I):s.aY r k:=by
 unfold S.ag c7 at h
 unfold S.aY
 cases al:s.aK r with
 | none=>rw [al] at h;simp at h
 | some l =>
  rw [al] at h
  simp only at h
  rcases Nat.lt_or_ge k l.length with o|o
  ·simpa using o
  ·rw [List.getElem?_eq_none o] at h;simp at h
theorem wI {s:S}{r:Nat}(h:s.aK r=none)(k:Nat): ¬s.aY r k:=by simp [S.aY,h]
theorem CE (s:S){r:Nat}{l row:List aq}(al:s.aK r=some l)(aO:l.length≤row.length)(q k:Nat)(h:s.aY q k):(s.setRow r row).aY q k:=by
 rw [mF]
 by_cases e:q=r
 ·subst e;rw [if_pos rfl];simp [S.aY,al] at h;omega
 ·rw [if_neg e];exact h
theorem adm {s:S}{r:Nat}(h:s.aK r=none)(k:Nat):s.ag r k=none:=by simp [S.ag,h,c7]
def e9.set (aw:e9)(r k:Nat)(p:Option (Nat×Nat)):e9:=fun q j=>if q=r∧j=k then p else aw q j
theorem ly (I:aq)(k:Nat):c7 (some [I]) k=if k=0∧I.cm≠ .gone then some I else none:=by
 unfold c7
 cases k with
 | zero=>by_cases h:I.cm = .gone<;>simp [h]
 | succ k=>simp
theorem Rel.drew {w:World}{ok:Nat→Prop}{aY:iF}{a8:iu}{x:ay}{v:Value}(h:Rel w ok aY a8 x v):Rel w.drew ok aY a8 x v :=
 h.mono (fun _ h=>h) (fun _ _=>rfl) (fun _ _ h=>h) (fun _ _ _=> .inl rfl)
theorem iB.drew {w:World}{ok:Nat→Prop}{aY:iF}{a8:iu}{I:aq}{p:Option (Nat×Nat)}(h:iB w ok aY a8 I p):iB w.drew ok aY a8 I p:=by
 cases p with
 | none=>exact h
 | some q =>
  obtain ⟨c,eh,o,R,ab,aA⟩:=h
  exact ⟨c,eh,o,R,ab,fun j x aa=>let ⟨v,a,b,c⟩:=aA j x aa;⟨v,a,b,c.drew⟩⟩
theorem hy.drew {g:G}{s:S}{aw:e9}{w:World}(h:hy g s aw w):hy g s aw w.drew :=
 {obj:=fun r k I ai=>(h.obj r k I ai).drew,inj:=h.inj,own:=h.own,gD:=⟨h.gD.os,h.gD.tape,h.gD.output,h.gD.size,h.gD.block⟩,mlt:=h.mlt,mO:=h.mO,stay:=h.stay,low:=h.low}
theorem cE.drew {g:G}{s:S}{aw:e9}{a:Act}{w:World}(h:cE g s aw a w):cE g s aw a w.drew where
 tohy:=h.tohy.drew
 env:=fun t=>(h.env t).drew
 defers:=h.defers
 i4:=h.i4
theorem cE.alloc {g:G}{s:S}{aw:e9}{a:Act}{w:World}(h:cE g s aw a w){r:Nat}(al:s.aK r=none)(I:aq)(aJ:I.cm = .live)
 (c:Array Value) (eh:TypeId) (hlen : ∀e∈I.es,e.length=I.sz)
 (aN : ∀(j:Nat) x,I.es.flatten[j]? = some x→ ∃v,c[j]? = some v∧jE v=true∧Rel w (s.ok g aw w) s.aY (s.a8 aw) x v) :
 ∃bG,bG r 0=some (w.heap.size,c.size)∧cE g (s.setRow r [I]) bG a (w.alloc (.cells c eh)) ∧
  ∀x v,Rel w (s.ok g aw w) s.aY (s.a8 aw) x v→Rel (w.alloc (.cells c eh)) ((s.setRow r [I]).ok g bG (w.alloc (.cells c eh))) (s.setRow r [I]).aY ((s.setRow r [I]).a8 bG) x v:=by
 have k5 : ∀q k,q≠r→(aw.set r 0 (some (w.heap.size,c.size))) q k=aw q k:=fun q k bb=>by simp [e9.set,bb]
 have bf : ∀q k,q≠r→(s.setRow r [I]).ag q k=s.ag q k:=fun q k bb=>by rw [kT,if_neg bb]
 have xM : ∀k,(s.setRow r [I]).ag r k=if k=0 then some I else none:=fun k=>by
  rw [kT,if_pos rfl,ly];simp [aJ]
 have r8 : ∀q k p b m,s.ag q k=some p→aw q k=some (b,m)→b<w.heap.size:=fun q k p b m af bb=>by
  have:=h.obj q k p af
  rw [bb] at this
  obtain ⟨dI,lP,fv,_⟩:=this
  exact (Array.getElem?_eq_some_iff.1 fv).1
 have cS:Step g s aw w (s.setRow r [I]) (aw.set r 0 (some (w.heap.size,c.size))) (w.alloc (.cells c eh)):=by
  refine ⟨fun q k bb=>(mF _ _ _ _ _).2 (by rw [if_neg (by rintro rfl;exact wI al k bb)];exact bb),fun q k bb=> ?_,fun b aV=> ?_,fun b aV _=>heap_alloc_old w _ b aV,by simp⟩
  ·have cH:q≠r:=by rintro rfl;exact wI al k bb
   left
   simp only [S.a8,bf q k cH,k5 q k cH]
  ·obtain ⟨q,k,p,m,o,R,ab⟩:=aV
   by_cases e:q=r
   ·subst e
    rw [xM] at o
    by_cases e0:k=0
    ·subst e0;simp [e9.set] at ab;right;omega
    ·simp [e0] at o
   ·rw [bf q k e] at o;rw [k5 q k e] at ab
    exact .inl ⟨q,k,p,m,o,R,ab⟩
 refine ⟨aw.set r 0 (some (w.heap.size,c.size)),by simp [e9.set],?_,fun x v=>cS.rel⟩
 refine {tohy:=⟨?_,?_,?_,?_,h.mlt,h.mO,cS.stay h.stay,h.low⟩,env:=fun t=>cS.rel (h.env t),defers:=h.defers,i4:=h.i4}
 ·intro q k p af
  by_cases e:q=r
  ·subst e
   rw [xM] at af
   by_cases e0:k=0
   ·subst e0
    simp at af
    subst af
    simp only [e9.set,and_self,if_true]
    exact ⟨c,eh,heap_alloc_new w _,rfl,hlen,fun j x aa=>let ⟨v,ax,aC,bZ⟩:=aN j x aa;⟨v,ax,aC,cS.rel bZ⟩⟩
   ·simp [e0] at af
  ·rw [bf q k e] at af
   rw [k5 q k e]
   exact cS.obj (fun b m hm=>heap_alloc_old w _ b (r8 q k p b m af hm)) (h.obj q k p af)
 ·intro q k p g8 dt jM b m a1 o R ab aA
  by_cases e:q=r<;>by_cases ec:g8=r
  ·subst e;subst ec
   rw [xM] at o R
   by_cases e0:k=0<;>by_cases ax:dt=0<;>simp [e0,ax] at o R
   exact ⟨rfl,by omega⟩
  ·subst e
   rw [xM] at o;rw [bf _ _ ec] at R;rw [k5 _ _ ec] at aA
   by_cases e0:k=0<;>simp [e0] at o
   subst e0
   simp [e9.set] at ab
   have:=r8 g8 dt jM b a1 R aA
   omega
  ·subst ec
   rw [bf _ _ e] at o;rw [xM] at R;rw [k5 _ _ e] at ab
   by_cases e0:dt=0<;>simp [e0] at R
   subst e0
   simp [e9.set] at aA
   have:=r8 q k p b m o ab
   omega
  ·rw [bf _ _ e] at o;rw [bf _ _ ec] at R;rw [k5 _ _ e] at ab;rw [k5 _ _ ec] at aA
   exact h.inj q k p g8 dt jM b m a1 o R ab aA
 ·intro q k p b m o R
  by_cases e:q=r
  ·subst e
   rw [xM] at o
   by_cases e0:k=0<;>simp [e0] at o
   subst e0
   simp [e9.set] at R
   left
   have:=h.gD.size
   omega
  ·rw [bf _ _ e] at o;rw [k5 _ _ e] at R
   exact h.own q k p b m o R
 ·exact h.gD.step rfl rfl rfl (by simp) fun b aV _=>heap_alloc_old w _ b (Nat.lt_of_lt_of_le aV h.gD.size)
theorem Ow (l:List aq)(k:Nat)(I bY:aq)(h:c7 (some l) k=some I)(aJ:bY.cm≠ .gone)(j:Nat):
 c7 (some (l.set k bY)) j=if j=k then some bY else c7 (some l) j:=by
 unfold c7 at *
 have du:k<l.length:=by
  rcases Nat.lt_or_ge k l.length with o|o
  ·exact o
  ·simp [List.getElem?_eq_none o] at h
 by_cases e:j=k
 ·subst e;simp [du,aJ]
 ·simp only [List.getElem?_set,if_neg (Ne.symm e),if_neg e]
theorem cE.write {g:G}{s:S}{aw:e9}{a:Act}{w bD:World}(h:cE g s aw a w){r k b m:Nat}{l:List aq}{I:aq}(al:s.aK r=some l)(ai:s.ag r k=some I)
 (aJ:I.cm = .live) (af:aw r k=some (b,m)) (es:List (List ay)) (c:Array Value) (eh:TypeId)
 (hw:bD.heap[b]? = some (.cells c eh (0,0))) (eB:bD.heap.size=w.heap.size) (ul : ∀q,q≠b→bD.heap[q]? = w.heap[q]?)
 (p1:bD.os=w.os) (JY:bD.tape=w.tape) (Jy:bD.output=w.output) (hm:c.size=m)
 (hlen : ∀e∈es,e.length=I.sz)
 (aN : ∀(j:Nat) x,es.flatten[j]? = some x→ ∃v,c[j]? = some v∧jE v=true∧Rel w (s.ok g aw w) s.aY (s.a8 aw) x v) :
 cE g (s.setRow r (l.set k {I with es})) aw a bD ∧
  ∀x v,Rel w (s.ok g aw w) s.aY (s.a8 aw) x v→Rel bD ((s.setRow r (l.set k {I with es})).ok g aw bD) (s.setRow r (l.set k {I with es})).aY ((s.setRow r (l.set k {I with es})).a8 aw) x v:=by
 have gM:({I with es}:aq).cm≠ .gone:=by rw [aJ];simp
 have bf : ∀q j,(s.setRow r (l.set k {I with es})).ag q j=if q=r∧j=k then some {I with es} else s.ag q j:=by
  intro q j
  rw [kT]
  by_cases e:q=r
  ·subst e
   have dA:c7 (some l) k=some I:=by rw [← al];exact ai
   rw [if_pos rfl,Ow l k I _ dA gM]
   by_cases aC:j=k<;>simp [aC,S.ag,al]
  ·simp [e]
 have pf:s.lb aw b:=⟨r,k,I,m,ai,aJ,af⟩
 have cS:Step g s aw w (s.setRow r (l.set k {I with es})) aw bD:=by
  refine ⟨CE s al (by simp),fun q j bb=> .inl ?_,fun q bb=> ?_,fun q bb aO=>ul q fun e=>aO (e▸pf),Nat.le_of_eq eB.symm⟩
  ·simp only [S.a8,bf]
   by_cases e:q=r∧j=k
   ·obtain ⟨rfl,rfl⟩:=e;simp [ai]
   ·rw [if_neg e]
  ·obtain ⟨g8,j,p,a1,o,R,ab⟩:=bb
   rw [bf] at o
   by_cases e:g8=r∧j=k
   ·obtain ⟨rfl,rfl⟩:=e
    exact .inl ⟨g8,j,I,a1,ai,aJ,ab⟩
   ·rw [if_neg e] at o
    exact .inl ⟨g8,j,p,a1,o,R,ab⟩
 refine ⟨{tohy:=⟨?_,?_,?_,?_,h.mlt,h.mO,cS.stay h.stay,h.low⟩,env:=fun t=>cS.rel (h.env t),defers:=h.defers,i4:=h.i4},fun x v=>cS.rel⟩
 ·intro q j p jS
  rw [bf] at jS
  by_cases e:q=r∧j=k
  ·obtain ⟨rfl,rfl⟩:=e
   simp at jS
   subst jS
   rw [af]
   exact ⟨c,eh,hw,hm,hlen,fun j x aa=>let ⟨v,ax,aC,bZ⟩:=aN j x aa;⟨v,ax,aC,cS.rel bZ⟩⟩
  ·rw [if_neg e] at jS
   refine cS.obj (fun jo a1 kj=>ul jo ?_) (h.obj q j p jS)
   rintro rfl
   exact e (h.inj q j p r k I jo a1 m jS ai kj af)
 ·intro q j p g8 hl jM jo hn fS o R ab aA
  have key : ∀q j p,(s.setRow r (l.set k {I with es})).ag q j=some p→ ∃jM,s.ag q j=some jM:=by
   intro q j p bb
   rw [bf] at bb
   by_cases e:q=r∧j=k
   ·obtain ⟨rfl,rfl⟩:=e;exact ⟨I,ai⟩
   ·rw [if_neg e] at bb;exact ⟨p,bb⟩
  obtain ⟨gN,aa0⟩:=key q j p o
  obtain ⟨h7,xU⟩:=key g8 hl jM R
  exact h.inj q j gN g8 hl h7 jo hn fS aa0 xU ab aA
 ·intro q j p jo a1 o R
  rw [bf] at o
  by_cases e:q=r∧j=k
  ·obtain ⟨rfl,rfl⟩:=e;exact h.own q j I jo a1 ai R
  ·rw [if_neg e] at o;exact h.own q j p jo a1 o R
 ·refine h.gD.step p1 JY Jy (Nat.le_of_eq eB.symm) fun jo p2 kj=>ul jo ?_
  rintro rfl
  rcases h.own r k I jo m ai af with o|o
  ·omega
  ·exact kj o
end Go.VL
namespace Go.VL
set_option linter.unusedVariables false
set_option linter.unusedSimpArgs false
open Go
inductive ss where
 | id
 | e5 (es:List (List ay))
 | iv (sz:Nat)
 | iN
 | dw (x:ay)
 | len (n:Nat)
 | o1 (sz:Nat)
 | at_ (j i n:Nat)
 | view (d3:Nat) (I:aq) (es:List (List ay))
 deriving Inhabited
inductive yt where
 | b9 (c:ss)
 | ptr (l:List ss)
 | r9 (l:List ss)
 | agg (l:List ss)
 deriving Inhabited
inductive kL where
 | bF (c:yt)
 | comp (l:List yt)
 deriving Inhabited
inductive hR where
 | pure
 | box (l:List ss)
 | dw (row:List aq)
 | bM (row:List aq)
 | rx (row:List aq)
 | drop
 deriving Inhabited
structure mP where
 bg:List (Nat×Nat):=[]
 da:Option (Nat×Nat):=none
 deriving DecidableEq
inductive Src where
 | row (r:Nat)
 | ag (r k:Nat) (I:aq)
 deriving Inhabited
structure Bl where
 aM:List Src:=[]
 cu:List hR:=[]
 ac:List kL
 r:ay
 db:List (List aq):=[]
 eo:kL:= .bF (.b9 .id)
 e4:List hR:=[]
 dd:List Nat:=[]
 c9:Bool:=true
inductive fi where
 | none
 | ao (t:Bool)
 | cB (c:List ay)
 | gT (I:aq) (c:List ay)
 | cT
 | call (c:Bl)
 | aZ (m:Nat) (I:Option aq:=Option.none)
 | eM (t:Nat) (v:ay) (a:fi)
 | va (r:Nat) (a:fi)
 | Bm (r n:Nat) (a:fi)
structure g7 where
 val:ay
 fr:List (Nat×List aq):=[]
 e6:List Prop:=[]
def zN (P:Program)(t:TypeId):Bool :=
 match P.underlying t with
 | some (.struct _)|some (.array _ _)=>true
 | _=>false
def xN (mW:List Int):ByteArray:=mW.foldl (fun r n=>r.push (UInt8.ofNat n.toNat)) ByteArray.empty
def bytesOf:List (List ay)→Option (List Int)
 | []=>some []
 | [.n .u8 n]::es=>(bytesOf es).map (n :: ·)
 | _=>none
def elemAt (es:List (List ay))(i:Nat):fi→Option (List ay×List Prop)
 | .cB c=>some (c,[es[i]? = some c])
 | .gT _ c=>some (c,[es[i]? = some c])
 | _=>match es[i]? with
  | some c=>some (c,[])
  | none=>none
def nK (row:Option (List aq))(k:Nat):fi→Option (aq×List Prop)
 | .gT I _=>match row with
  | some row=>some (I,[c7 (some row) k=some I])
  | none=>none
 | _=>match c7 row k with
  | some I=>some (I,[])
  | none=>none
def pR (P:Program)(t:TypeId)(c:List ay)(off:Nat):Option ay :=
 if !((P.underlying t).isSome && (P.info? t).isSome) then none else
 if zN P t then (if off+P.cellsOf t≤c.length then some (.agg ((c.drop off).take (P.cellsOf t))) else none)
 else match c[off]? with
  | some x=>if x.one then some x else none
  | none=>none
def Jz (op:BinOp)(x y:ay):Option (ay×List Prop) :=
 match x,y with
 | .n k a,.n dt b =>
  match op with
  | .shl=>some (.n k (k.wrap (a*2 ^ (min b.toNat k.bits))),[0≤b])
  | .shr=>some (.n k (a.fdiv (2 ^ (min b.toNat k.bits))),[0≤b])
  | _=>if k≠dt then none else
   match op with
   | .add=>some (.n k (k.wrap (a+b)),[])
   | .sub=>some (.n k (k.wrap (a-b)),[])
   | .mul=>some (.n k (k.wrap (a*b)),[])
   | .quo=>some (.n k (k.wrap (a.tdiv b)),[b≠0])
   | .rem=>some (.n k (a.tmod b),[b≠0])
   | .and=>some (.n k (k.wrap ((BitVec.ofInt k.bits a &&& BitVec.ofInt k.bits b).toNat)),[])
   | .or=>some (.n k (k.wrap ((BitVec.ofInt k.bits a ||| BitVec.ofInt k.bits b).toNat)),[])
   | .xor=>some (.n k (k.wrap ((BitVec.ofInt k.bits a ^^^ BitVec.ofInt k.bits b).toNat)),[])
   | .eql=>some (.b (a == b),[])
   | .neq=>some (.b (a != b),[])
   | .lss=>some (.b (decide (a<b)),[])
   | .leq=>some (.b (decide (a≤b)),[])
   | .gtr=>some (.b (decide (b<a)),[])
   | .geq=>some (.b (decide (b≤a)),[])
   | _=>none
 | .s a,.s b =>
  match op with
  | .add=>some (.s (a++b),[a.size+b.size<9223372036854775808])
  | .eql=>some (.b (a.toList == b.toList),[])
  | .neq=>some (.b (!(a.toList == b.toList)),[])
  | _=>none
 | _,_=>none
def rm (P:Program)(t:TypeId)(x y:ay):Option Bool :=
 match P.underlying t,x,y with
 | some .bool,.b a,.b c=>some (a == c)
 | some (.pointer _),.hJ,.hJ=>some true
 | some (.pointer _),.ey ..,.hJ=>some false
 | some (.pointer _),.hJ,.ey .. => some false
 | some (.slice _),.d7,.d7=>some true
 | some (.slice _),.h2,.d7=>some false
 | _,_,_=>none
def JZ (op:UnOp)(x:ay):Option ay :=
 match op,x with
 | .neg,.n k a=>some (.n k (k.wrap (0-a)))
 | .not,.b a=>some (.b (!a))
 | _,_=>none
def fieldsOf (P:Program)(t:TypeId):Option (Array Field) :=
 match P.underlying t with
 | some (.struct j9)=>some j9
 | _=>none
def pg (P:Program)(t:TypeId):Option TypeId :=
 match P.underlying t with
 | some (.slice e)=>some e
 | _=>none
def pH (P:Program)(t:TypeId):Option (List ay) :=
 match P.info? t with
 | some i=>match i.zero with
  | some v=>if v.cells.toList.all (·.oneCell') then some (v.cells.toList.map ofValue) else none
  | none=>none
 | none=>none
def Af (P:Program)(t:TypeId):Option (Nat×TypeId) :=
 match P.underlying t with
 | some (.array n e)=>if (P.info? e).isSome∧P.cellsOf e≠0∧1<n then some (n,e) else none
 | _=>none
def pk (j:Int):List ay→List ay→Option (List ay)
 | [],[]=>some []
 | .n k x::a,.n dt y::b=>if k=dt then (pk j a b).map (.n k (if j=0 then x else y) :: ·) else none
 | _,_=>none
def I6 (P:Program)(t:TypeId)(x jN:ay):Option g7 :=
 match Af P t,x,jN with
 | some (2,e),.agg cs,.n _ j=>match pR P e cs (0*P.cellsOf e),pR P e cs (1*P.cellsOf e) with
  | some (.agg a),some (.agg b)=>(pk j a b).map fun c=>{val:= .agg c,e6:=[0≤j,j<2]}
  | _,_=>none
 | _,_,_=>none
def xC (P:Program)(aK:Nat→Option (List aq))(t:TypeId)(x jN:ay)(cy:fi):Option g7 :=
 match Af P t,x,jN with
 | some (n,e),.ref r k i off,.n _ j=>match nK (aK r) k cy with
  | some (ag,b3)=>match elemAt ag.es i cy with
   | some (_,a6)=>some {val:= .ref r k i (off+j.toNat*P.cellsOf e),e6:=b3++a6++[0≤j,j<n]}
   | none=>none
  | none=>none
 | _,_,_=>none
def zO:ay→ay→ay
 | .d7,.isl sz []=> .isl sz []
 | .hJ,.eb sz none=> .eb sz none
 | .d7,.h3 r c sz none=> .h3 r c sz none
 | x,_=>x
def qu:List ay→List ay→List ay
 | x::z,y::c=>zO x y::qu z c
 | z,_=>z
def rY (z:List ay):fi→List ay
 | .cB c=>qu z c
 | _=>z
def setCells (c:List ay)(off:Nat)(vs:List ay):List ay:=c.take off++vs++c.drop (off+vs.length)
def rh:List ay→List (Nat×Nat×ay)→Option (List ay)
 | c,[]=>some c
 | c,(off,size,x)::rest =>
  if x.xb && x.cells.length=size && decide (off+size≤c.length) then rh (setCells c off x.cells) rest else none
def xD (sz:Nat):List (List ay)→List (Nat×ay)→Option (List (List ay))
 | es,[]=>some es
 | es,(i,x)::rest=>if x.xb && x.cells.length=sz && decide (i<es.length) then xD sz (es.set i x.cells) rest else none
def az:Option ay→Nat→Option (Nat×List Prop)
 | none,d=>some (d,[])
 | some (.n _ x),_=>some (x.toNat,[0≤x])
 | _,_=>none
def Iz (P:Program)(t:TypeId)(parts:List (Nat×ay)):Option g7 :=
 match Af P t,pH P t with
 | some (_,e),some z=>(rh z (parts.map fun p=>(p.1*P.cellsOf e,P.cellsOf e,p.2))).map fun c=>{val:= .agg c}
 | _,_=>none
def ez (P:Program)(E:Nat→ay)(aK:Nat→Option (List aq))(aS:Nat)(I:Oper)(cy:fi):Option g7 :=
 let g9:=eu E
 match I.op with
 | .move x | .assign x=>some {val:=g9 x}
 | .pick c a b =>
  match g9 c,cy with
  | .b x,.ao t=>some {val:=if t then g9 a else g9 b,e6:=[x=t]}
  | .b true,_=>some {val:=g9 a}
  | .b false,_=>some {val:=g9 b}
  | _,_=>none
 | .alloc t =>
  match pH P t with
  | some c=>some {val:= .ref aS 0 0 0,fr:=[(aS,[⟨c.length,[c],.live⟩])]}
  | none=>none
 | .box _ x =>
  match g9 x with
  | .agg c=>some {val:= .ref aS 0 0 0,fr:=[(aS,[⟨c.length,[c],.live⟩])]}
  | v=>if v.one then some {val:= .ref aS 0 0 0,fr:=[(aS,[⟨1,[[v]],.live⟩])]} else none
 | .load t x =>
  match g9 x with
  | .ref r k i off =>
   match nK (aK r) k cy with
   | some (ag,b3)=>match elemAt ag.es i cy with
    | some (c,a6)=>match pR P t c off with
     | some v=>some {val:=v,e6:=b3++a6}
     | none=>none
    | none=>none
   | none=>none
  | .ey _ es i off =>
   match elemAt es i cy with
   | some (c,a6)=>match pR P t c off with
    | some v=>some {val:=v,e6:=a6}
    | none=>none
   | none=>none
  | _=>none
 | .store t x y =>
  match g9 x with
  | .ref r k i off =>
   match aK r with
   | none=>none
   | some row =>
   match nK (some row) k cy with
   | some (ag,b3) =>
    if ag.cm≠ .live then none else
    let v:=g9 y
    if v.xb=false then none else
    if v.cells.length≠P.cellsOf t∨(P.info? t).isSome=false then none else
    match cy with
    | .cT=>if off=0 then some {val:= .dead,fr:=[(r,row.set k {ag with es:=ag.es.set i v.cells})],e6:=b3++[i<ag.es.length,v.cells.length=ag.sz]} else none
    | _=>match elemAt ag.es i cy with
     | some (c,a6)=>if off+v.cells.length≤c.length then some {val:= .dead,fr:=[(r,row.set k {ag with es:=ag.es.set i (setCells c off v.cells)})],e6:=b3++a6} else none
     | none=>none
   | none=>none
  | _=>none
 | .nilCheck x =>
  match g9 x with
  | .ref r k i off=>match nK (aK r) k cy with
   | some (ag,b3)=>match elemAt ag.es i cy with
    | some (_,a6)=>some {val:= .ref r k i off,e6:=b3++a6}
    | none=>none
   | none=>none
  | .ey sz es i off=>some {val:= .ey sz es i off}
  | .fn f c=>some {val:= .fn f c}
  | _=>none
 | .binOp op t x y _ =>
  match Jz op (g9 x) (g9 y) with
  | some (v,ag)=>some {val:=v,e6:=ag}
  | none=>match op with
   | .eql=>(rm P t (g9 x) (g9 y)).map fun r=>{val:= .b r}
   | .neq=>(rm P t (g9 x) (g9 y)).map fun r=>{val:= .b (!r)}
   | _=>none
 | .unOp op _ x=>(JZ op (g9 x)).map fun v=>{val:=v}
 | .convert src dst x =>
  match P.underlying dst,g9 x with
  | some (.int k),.n _ a=>if (P.underlying src).isSome then some {val:= .n k (k.wrap a)} else none
  | some .string,.bw r k bV len =>
   match (pg P src).bind P.underlying,c7 (aK r) k with
   | some (.int .u8),some ag=>match bytesOf ((ag.es.drop bV).take len) with
    | some mW=>if bV+len≤ag.es.length∧ag.sz=1 then some {val:= .s (xN mW)} else none
    | none=>none
   | _,_=>none
  | _,_=>none
 | .makeFunc (.func f) first captured =>
  if first.size=0 then some {val:= .fn f (captured.toList.map g9)} else none
 | .makeSlice t l c =>
  match pg P t,g9 l,g9 c with
  | some e,.n _ l,.n _ c =>
   match P.info? e,pH P e with
   | some i,some z=>if z.length=i.size then some {val:= .bw aS 0 0 l.toNat,fr:=[(aS,[⟨z.length,List.replicate l.toNat (rY z cy),.live⟩])],e6:=[0≤l,l≤c,(i.bytes:Int)*c≤281474976710656,c<9223372036854775808]} else none
   | _,_=>none
  | _,_,_=>none
 | .fieldAddr t x f =>
  match fieldsOf P t with
  | some j9=>match j9[f]? with
   | some fd=>if P.cellsOf fd.type=0 then none else
    match g9 x with
    | .ref r k i off=>match nK (aK r) k cy with
     | some (ag,b3)=>match elemAt ag.es i cy with
      | some (_,a6)=>some {val:= .ref r k i (off+fd.offset),e6:=b3++a6}
      | none=>none
     | none=>none
    | .ey sz es i off=>some {val:= .ey sz es i (off+fd.offset)}
    | _=>none
   | none=>none
  | none=>none
 | .field t x f =>
  match fieldsOf P t with
  | some j9=>match j9[f]?,g9 x with
   | some fd,.agg c=>(pR P fd.type c fd.offset).map fun v=>{val:=v}
   | _,_=>none
  | none=>none
 | .indexAddr t x jN =>
  match pg P t,g9 jN with
  | some e,.n _ j =>
   match g9 x with
   | .isl sz es=>if sz=P.cellsOf e∧sz≠0 then some {val:= .ey sz es j.toNat 0,e6:=[0≤j,j<es.length]} else none
   | .bw r k bV len=>match aK r with
    | some row=>match nK (some row) k cy with
     | some (ag,b3)=>if ag.sz=P.cellsOf e∧ag.sz≠0 then some {val:= .ref r k (bV+j.toNat) 0,e6:=b3++[0≤j,j<len]} else none
     | none=>none
    | none=>none
   | _=>none
  | _,_=>xC P aK t (g9 x) (g9 jN) cy
 | .index t x jN =>
  match P.underlying t,g9 x,g9 jN with
  | some .string,.s s,.n _ j=>some {val:= .n .u8 (s.data.toList.getD j.toNat 0).toNat,e6:=[0≤j,j<s.size]}
  | _,_,_=>I6 P t (g9 x) (g9 jN)
 | .extract x i =>
  match g9 x with
  | .cW vs=>(vs[i]?).map fun v=>{val:=v}
  | _=>none
 | .slice t x bV ah none =>
  match P.underlying t,g9 x with
  | some (.slice e),.isl sz es =>
   match az (bV.map g9) 0,az (ah.map g9) es.length with
   | some (l,b3),some (h,a6)=>if sz=P.cellsOf e∧sz≠0 then some {val:= .isl sz ((es.drop l).take (h-l)),e6:=b3++a6++[l≤h,h≤es.length]} else none
   | _,_=>none
  | some (.slice e),.bw r k RZ len =>
   match aK r with
   | none=>none
   | some row=>match nK (some row) k cy with
    | none=>none
    | some (ag,R0) =>
     match az (bV.map g9) 0,az (ah.map g9) len with
     | some (l,b3),some (h,a6)=>if ag.sz=P.cellsOf e∧ag.sz≠0 then some {val:= .bw r k (RZ+l) (h-l),e6:=R0++b3++a6++[l≤h,h≤len]} else none
     | _,_=>none
  | some .string,.s s =>
   match az (bV.map g9) 0,az (ah.map g9) s.size with
   | some (l,b3),some (h,a6)=>some {val:= .s (s.extract l h),e6:=b3++a6++[l≤h,h≤s.size]}
   | _,_=>none
  | _,_=>none
 | .build t parts =>
  match fieldsOf P t,pH P t with
  | some j9,some z =>
   if j9.toList.all (fun f=>(P.info? f.type).isSome)=false then none else
   match parts.toList.mapM fun (p:Nat×Operand)=>(j9[p.1]?).map fun fd=>(fd.offset,P.cellsOf fd.type,g9 p.2) with
   | some l=>(rh z l).map fun c=>{val:= .agg c}
   | none=>none
  | _,_=>Iz P t (parts.toList.map fun p=>(p.1,g9 p.2))
 | .buildSlice t len parts =>
  match pg P t with
  | some e=>match pH P e with
   | some z =>
    if len*z.length>16777216∨z.length≠P.cellsOf e∨z.length=0 then none else
    match xD z.length (List.replicate len z) (parts.toList.map fun p=>(p.1,g9 p.2)) with
    | some es=>some {val:= .bw aS 0 0 len,fr:=[(aS,[⟨z.length,es,.live⟩])]}
    | none=>none
   | none=>none
  | none=>none
 | .call {callee:= .builtin .len,args,argTypes} =>
  match args.toList.map g9,P.underlying (argTypes.getD 0 0),decide (argTypes.size=1) with
  | [.isl _ es],some (.slice _),true=>some {val:= .n .i64 es.length}
  | [.bw r k _ len],some (.slice _),true=>match aK r with
   | some row=>match nK (some row) k cy with
    | some (_,b3)=>some {val:= .n .i64 len,e6:=b3}
    | none=>none
   | none=>none
  | [.d7],some (.slice _),true=>some {val:= .n .i64 0}
  | [.s x],some .string,true=>some {val:= .n .i64 x.size}
  | _,_,_=>none
 | _=>none
end Go.VL
namespace Go.VL
set_option linter.unusedVariables false
set_option linter.unusedSimpArgs false
open Go
theorem oJ {α:Type}{sz:Nat}(bX:0<sz): ∀(es:List (List α)) (_ : ∀e∈es,e.length=sz) (j:Nat),
 es.flatten[j]? = (es[j / sz]?).bind (·[j % sz]?)
 | [],_,j=>by simp
 | e::es,h,j=>by
  have he:e.length=sz:=h e (by simp)
  rw [List.flatten_cons,List.getElem?_append]
  by_cases aB:j<sz
  ·rw [if_pos (by omega),Nat.div_eq_of_lt aB,Nat.mod_eq_of_lt aB];simp
  ·rw [if_neg (by omega),he,oJ bX es (fun ec li=>h ec (by simp [li])) (j-sz)]
   have o:j / sz=(j-sz) / sz+1:=Nat.div_eq_sub_div bX (by omega)
   have R:j % sz=(j-sz) % sz:=Nat.mod_eq_sub_mod (by omega)
   rw [o,R];simp
theorem zl {α:Type}{sz:Nat}{es:List (List α)}(aO:∀e∈es,e.length=sz){i:Nat}{c:List α}(he:es[i]? = some c){j:Nat}(aB:j<sz):
 es.flatten[i*sz+j]? = c[j]? := by
 have bX:0<sz:=by omega
 rw [oJ bX es aO]
 have o:(i*sz+j) / sz=i:=by
  rw [Nat.mul_comm,Nat.mul_add_div bX,Nat.div_eq_of_lt aB];omega
 have R:(i*sz+j) % sz=j:=by
  rw [Nat.mul_comm,Nat.mul_add_mod,Nat.mod_eq_of_lt aB]
 rw [o,R,he];rfl
theorem Nf {α:Type}{sz:Nat}{es:List (List α)}(aO:∀e∈es,e.length=sz){i:Nat}{c dI:List α}(he:es[i]? = some c)(aN:dI.length=sz)(j:Nat):
 (es.set i dI).flatten[j]? = if i*sz≤j∧j<i*sz+sz then dI[j-i*sz]? else es.flatten[j]? := by
 rcases Nat.eq_zero_or_pos sz with h0|bX
 ·subst h0
  have ax : ∀(l:List (List α)),(∀e∈l,e.length=0)→l.flatten=[]:=by
   intro l aO;induction l with
   | nil=>rfl
   | cons a l ih=>rw [List.flatten_cons,ih fun e he=>aO e (by simp [he])];have:=aO a (by simp);simp_all
  rw [ax _ aO,ax (es.set i dI) (by
   intro e hm
   rcases List.mem_or_eq_of_mem_set hm with h|h
   ·exact aO e h
   ·exact h▸aN)]
  simp
 ·have J0 : ∀e∈es.set i dI,e.length=sz:=by
   intro e hm
   rcases List.mem_or_eq_of_mem_set hm with h|h
   ·exact aO e h
   ·exact h▸aN
  have ah:i<es.length:=by
   rcases Nat.lt_or_ge i es.length with h|h
   ·exact h
   ·rw [List.getElem?_eq_none h] at he;simp at he
  rw [oJ bX _ J0,oJ bX _ aO]
  by_cases bb:j / sz=i
  ·have o:i*sz≤j∧j<i*sz+sz:=by
    subst bb
    constructor
    ·exact Nat.div_mul_le_self j sz
    ·have:=Nat.lt_div_mul_add (a:=j) bX;omega
   rw [if_pos o,bb,List.getElem?_set_self ah]
   have:j % sz=j-i*sz:=by
    subst bb;have:=Nat.div_add_mod j sz;rw [Nat.mul_comm] at this;omega
   simp [this]
  ·have o : ¬(i*sz≤j∧j<i*sz+sz):=by
    rintro ⟨a,b⟩
    apply bb
    obtain ⟨d,rfl⟩ : ∃d,j=i*sz+d:=⟨j-i*sz,by omega⟩
    rw [Nat.mul_comm i sz,Nat.mul_add_div bX,Nat.div_eq_of_lt (by omega)]
    omega
   rw [if_neg o,List.getElem?_set_ne (Ne.symm bb)]
def nX (w:World)(ok:Nat→Prop)(aY:iF)(a8:iu)(dJ I sz:Nat)(es:List (List ay)):Prop :=
 (∀e∈es,e.length=sz)∧ ∀(j:Nat) x,es.flatten[j]? = some x→ ∃v,w.cell? ⟨dJ,I+j,none⟩=some v∧jE v=true∧Rel w ok aY a8 x v
theorem iB.rd {w:World}{ok:Nat→Prop}{aY:iF}{a8:iu}{I:aq}{dJ m:Nat}(h:iB w ok aY a8 I (some (dJ,m))):nX w ok aY a8 dJ 0 I.sz I.es:=by
 obtain ⟨c,eh,o,R,ab,aA⟩:=h
 refine ⟨ab,fun j x aa=> ?_⟩
 obtain ⟨v,ax,aC,bZ⟩:=aA j x aa
 exact ⟨v,by rw [cell_of_row w dJ (0+j) c eh (0,0) o,Nat.zero_add];exact ax,aC,bZ⟩
theorem adE {w:World}{ok:Nat→Prop}{aY:iF}{a8:iu}{x:ay}{v:Value}(h:Rel w ok aY a8 x v)(ai:x.one=true):v.oneCell'=true:=h.jE ai
theorem NZ {P:Program}{t:TypeId}(h:(P.underlying t).isSome=true)(w:World):(isAgg t).run P w = .ok (zN P t) w:=by
 cases bg:P.underlying t with
 | none=>simp [bg] at h
 | some d=>cases d<;>simp [isAgg,zN,run_underlying bg,bg]
theorem rM {P:Program}{t:TypeId}(h:(P.info? t).isSome=true)(w:World):(sizeOf t).run P w = .ok (P.cellsOf t) w:=by
 cases ah:P.info? t with
 | none=>simp [ah] at h
 | some i=>simp [sizeOf,typeInfo,ah,Program.cellsOf]
theorem qq (b I n:Nat):(⟨b,I,none⟩:Addr).add n=⟨b,I+n,none⟩:=by unfold Addr.add;split<;>simp_all
theorem Ie {P:Program}{w:World}{ok:Nat→Prop}{aY:iF}{a8:iu}{dJ I sz i off:Nat}{es:List (List ay)}{c:List ay}{t:TypeId}{x:ay}
 (hN:nX w ok aY a8 dJ I sz es) (he:es[i]? = some c) (cr:pR P t c off=some x) :
 ∃v,(Instr.loadAt t (.pointer (some ⟨dJ,I+(i*sz+off),none⟩))).run P w = .ok v w∧Rel w ok aY a8 x v:=by
 have hlen:c.length=sz:=hN.1 c (List.mem_of_getElem? he)
 unfold pR at cr
 split at cr
 ·simp at cr
 ·rename_i ah
  simp only [Bool.not_eq_true',Bool.not_eq_false,Bool.and_eq_true] at ah
  have ju : ∀j,j<sz→ ∃y v,c[j]? = some y∧w.cell? ⟨dJ,I+(i*sz+j),none⟩=some v∧jE v=true∧Rel w ok aY a8 y v:=by
   intro j aB
   have aP:c[j]? = some c[j]:=List.getElem?_eq_getElem (by omega)
   obtain ⟨v,ax,aC,bZ⟩:=hN.2 (i*sz+j) c[j] (by rw [zl hN.1 he aB,aP])
   exact ⟨_,v,aP,ax,aC,bZ⟩
  simp only [Instr.loadAt,Instr.sureAddr,loadVar,Sem.run_bind,Sem.run_pure,Result.andThen,NZ ah.1,rM ah.2]
  split at cr
  ·rename_i qB
   rw [qB]
   split at cr
   ·rename_i hle
    simp at cr;subst cr
    have aO:=run_loadCells (P:=P) w ⟨dJ,I+(i*sz+off),none⟩ (P.cellsOf t) (fun j=>(w.cell? ⟨dJ,I+(i*sz+(off+j)),none⟩).getD undef) (by
     intro j aB
     obtain ⟨y,v,-,ax,-,-⟩:=ju (off+j) (by omega)
     rw [qq,show I+(i*sz+off)+j=I+(i*sz+(off+j)) by omega,ax];rfl)
    refine ⟨.agg (List.map (fun j=>(w.cell? ⟨dJ,I+(i*sz+(off+j)),none⟩).getD undef) (List.range (P.cellsOf t))).toArray,by simp [aO,Result.andThen,rM ah.2],?_⟩
    refine .agg _ (by simp;omega) ?_ ?_
    ·intro j v a3
     rw [List.getElem?_map,Option.map_eq_some_iff] at a3
     obtain ⟨q,lF,rfl⟩:=a3
     obtain ⟨qF,xV⟩:=List.getElem?_eq_some_iff.1 lF
     have bb:j<P.cellsOf t:=by simpa using qF
     obtain rfl:j=q:=by simpa using xV
     obtain ⟨y,v,-,ax,aC,-⟩:=ju (off+j) (by omega)
     rw [ax];exact aC
    ·intro j y v aP a3
     rw [List.getElem?_map,Option.map_eq_some_iff] at a3
     obtain ⟨q,lF,rfl⟩:=a3
     obtain ⟨qF,xV⟩:=List.getElem?_eq_some_iff.1 lF
     have bb:j<P.cellsOf t:=by simpa using qF
     obtain rfl:j=q:=by simpa using xV
     rw [List.getElem?_take,if_pos bb,List.getElem?_drop] at aP
     obtain ⟨lq,v,h0,ax,aC,bZ⟩:=ju (off+j) (by omega)
     rw [h0] at aP;simp at aP;subst aP
     rw [ax];exact bZ
   ·simp at cr
  ·rename_i qB
   have qB:zN P t=false:=by simpa using qB
   rw [qB]
   split at cr
   ·rename_i y aP
    split at cr
    ·simp at cr;subst cr
     have xO:off<sz:=by
      rcases Nat.lt_or_ge off c.length with h|h
      ·omega
      ·rw [List.getElem?_eq_none h] at aP;simp at aP
     obtain ⟨lq,v,h0,ax,aC,bZ⟩:=ju off xO
     rw [h0] at aP;simp at aP;subst aP
     exact ⟨v,by simp [ax],bZ⟩
    ·simp at cr
   ·simp at cr
theorem MD {c:List ay}{off:Nat}{vs:List ay}(h:off+vs.length≤c.length):(setCells c off vs).length=c.length:=by
 simp [setCells];omega
theorem H3 {c:List ay}{off:Nat}{vs:List ay}(h:off+vs.length≤c.length)(j:Nat):
 (setCells c off vs)[j]? = if off≤j∧j<off+vs.length then vs[j-off]? else c[j]? := by
 unfold setCells
 rw [List.append_assoc,List.getElem?_append]
 have o:(c.take off).length=off:=by simp;omega
 rw [o]
 by_cases a:j<off
 ·rw [if_pos a,if_neg (by omega),List.getElem?_take,if_pos a]
 ·rw [if_neg a,List.getElem?_append]
  by_cases b:j<off+vs.length
  ·rw [if_pos (by omega),if_pos ⟨by omega,b⟩]
  ·rw [if_neg (by omega),if_neg (by omega),List.getElem?_drop]
   congr 1;omega
theorem YU {c:Array Value}{p:Nat}{vs:List Value}(h:p+vs.length≤c.size)(j:Nat):
 (c.toList.take p++vs++c.toList.drop (p+vs.length)).toArray[j]? = if p≤j∧j<p+vs.length then vs[j-p]? else c[j]? := by
 rw [List.getElem?_toArray,List.append_assoc,List.getElem?_append]
 have o:(c.toList.take p).length=p:=by simp;omega
 rw [o]
 by_cases a:j<p
 ·rw [if_pos a,if_neg (by omega),List.getElem?_take,if_pos a,Array.getElem?_toList]
 ·rw [if_neg a,List.getElem?_append]
  by_cases b:j<p+vs.length
  ·rw [if_pos (by omega),if_pos ⟨by omega,b⟩]
  ·rw [if_neg (by omega),if_neg (by omega),List.getElem?_drop,Array.getElem?_toList]
   congr 1;omega
theorem VF {P:Program}{g:G}{s:S}{aw:e9}{a:Act}{w:World}(h:cE g s aw a w){r k b m i off:Nat}{l:List aq}{I:aq}{c:List ay}
 (al:s.aK r=some l) (ai:s.ag r k=some I) (aJ:I.cm = .live) (af:aw r k=some (b,m)) (he:I.es[i]? = some c)
 {t:TypeId} (J1:(P.info? t).isSome=true) {x:ay} {v:Value} (aa:Rel w (s.ok g aw w) s.aY (s.a8 aw) x v) (lf:x.one=true∨ ∃c,x = .agg c)
 (eB:x.cells.length=P.cellsOf t) (hK:off+x.cells.length≤c.length) :
 ∃bD,(Instr.storeAt t (.pointer (some ⟨b,i*I.sz+off,none⟩)) v).run P w = .ok () bD ∧
  cE g (s.setRow r (l.set k {I with es:=I.es.set i (setCells c off x.cells)})) aw a bD:=by
 obtain ⟨vs,a3,pq,ju,e3⟩:=aa.cellsOf lf
 have bf:=h.obj r k I ai
 rw [af] at bf
 obtain ⟨cb,eh,o,R,ab,aA⟩:=bf
 have hlen:c.length=I.sz:=ab c (List.mem_of_getElem? he)
 have xP:i*I.sz+off+vs.length≤cb.size:=by
  rcases Nat.eq_zero_or_pos I.sz with cn|cn
  ·have:off=0:=by omega
   have:vs.length=0:=by omega
   rw [cn];omega
  ·have aO:I.es.flatten[i*I.sz+(I.sz-1)]? = some (c[I.sz-1]'(by omega)):=by
    rw [zl ab he (by omega)];exact List.getElem?_eq_getElem (by omega)
   obtain ⟨R1,ax,-,-⟩:=aA _ _ aO
   have:=(Array.getElem?_eq_some_iff.1 ax).1
   omega
 have lG:=run_storeCells_at P b (i*I.sz+off) eh vs 0 cb w o (by simpa using xP) (fun R1 AB=>by
  obtain ⟨q,bb⟩:=List.getElem?_of_mem AB
  exact ju q R1 bb)
 simp only [Nat.add_zero] at lG
 have ik:(Instr.storeAt t (.pointer (some ⟨b,i*I.sz+off,none⟩)) v).run P w =
  .ok () (w.setRow b (cb.toList.take (i*I.sz+off)++vs++cb.toList.drop (i*I.sz+off+vs.length)).toArray):=by
  have bX:v.cells.size=P.cellsOf t:=by rw [a3];simpa using pq.trans eB
  simp only [Instr.storeAt,Instr.sureAddr,storeVar,Sem.run_bind,Sem.run_pure,Result.andThen,rM J1,bX,ne_eq,not_true_eq_false,if_false]
  rw [a3]
  simpa using lG
 refine ⟨_,ik,?_⟩
 have aad:(w.setRow b (cb.toList.take (i*I.sz+off)++vs++cb.toList.drop (i*I.sz+off+vs.length)).toArray).heap.size=w.heap.size:=size_setRow _ _ _
 have uG:(setCells c off x.cells).length=I.sz:=by rw [MD hK];exact hlen
 refine (h.write al ai aJ af _ _ eh (setRow_heap w b cb _ eh _ o) aad (fun q bb=>setRow_other w b q _ bb) rfl rfl rfl ?_ ?_ ?_).1
 ·simp;omega
 ·intro e hm
  rcases List.mem_or_eq_of_mem_set hm with ch|ch
  ·exact ab e ch
  ·exact ch▸uG
 ·intro j y aP
  rw [YU xP]
  rw [Nf ab he uG] at aP
  by_cases kk:i*I.sz≤j∧j<i*I.sz+I.sz
  ·rw [if_pos kk,H3 hK] at aP
   by_cases QC:off≤j-i*I.sz∧j-i*I.sz<off+x.cells.length
   ·rw [if_pos QC] at aP
    rw [if_pos ⟨by omega,by omega⟩]
    have bb:j-(i*I.sz+off)<vs.length:=by omega
    refine ⟨vs[j-(i*I.sz+off)],List.getElem?_eq_getElem bb,ju _ _ (List.getElem?_eq_getElem bb),e3 (j-i*I.sz-off) y _ aP ?_⟩
    rw [show j-i*I.sz-off=j-(i*I.sz+off) by omega]
    exact List.getElem?_eq_getElem bb
   ·rw [if_neg QC] at aP
    rw [if_neg (by omega)]
    refine aA j y ?_
    rw [show j=i*I.sz+(j-i*I.sz) by omega,zl ab he (by omega)]
    exact aP
  ·rw [if_neg kk] at aP
   rw [if_neg (by rw [pq];omega)]
   exact aA j y aP
end Go.VL
namespace Go.VL
set_option linter.unusedVariables false
set_option linter.unusedSimpArgs false
open Go
def S.hr (s:S)(u:List (Nat×List aq)):S:=u.foldl (fun s p=>s.setRow p.1 p.2) s
@[simp] theorem S.adQ (s:S):s.hr []=s:=rfl
@[simp] theorem S.adR (s:S) (p:Nat×List aq):s.hr [p]=s.setRow p.1 p.2:=rfl
section
variable {w:World} {ok:Nat→Prop} {aY:iF} {a8:iu} {v:Value}
theorem Rel.sU {x:Bool}(h:Rel w ok aY a8 (.b x) v):v = .bool x:=by cases h;rfl
theorem Rel.nG {k:IntKind}{x:Int}(h:Rel w ok aY a8 (.n k x) v):v = .int k x:=by cases h;rfl
theorem Rel.xE {x:ByteArray}(h:Rel w ok aY a8 (.s x) v):v = .string x:=by cases h;rfl
theorem Rel.tX (h:Rel w ok aY a8 .hJ v):v = .pointer none:=by cases h;rfl
theorem Rel.pb (h:Rel w ok aY a8 .d7 v):v = .slice none 0 0:=by cases h;rfl
theorem Rel.De (h:Rel w ok aY a8 .h2 v): ∃a c,v = .slice (some a) 0 c:=by cases h;exact ⟨_,_,rfl⟩
theorem Rel.Ox {sz:Nat}(h:Rel w ok aY a8 (.eb sz none) v):v = .pointer none:=by cases h;rfl
theorem Rel.IA {sz:Nat}{c:List ay}(h:Rel w ok aY a8 (.eb sz (some c)) v):Rel w ok aY a8 (.ey sz [c] 0 0) v:=by cases h;assumption
theorem Rel.Du {f:Nat}{c:List ay}(h:Rel w ok aY a8 (.fn f c) v): ∃vs:List Value,v = .func (.func f) #[] vs.toArray∧vs.length=c.length ∧
 ∀(j:Nat) x u,c[j]? = some x→vs[j]? = some u→Rel w ok aY a8 x u:=by
 cases h with|fn vs aO al=>exact ⟨vs,rfl,aO,al⟩
theorem Rel.xj {c:List ay}(h:Rel w ok aY a8 (.agg c) v): ∃vs:List Value,v = .agg vs.toArray∧vs.length=c.length∧(∀(j:Nat) u,vs[j]? = some u→VL.jE u=true) ∧
 ∀(j:Nat) x u,c[j]? = some x→vs[j]? = some u→Rel w ok aY a8 x u:=by
 cases h with|agg vs aO aN al=>exact ⟨vs,rfl,aO,aN,al⟩
theorem Rel.xk {c:List ay}(h:Rel w ok aY a8 (.cW c) v): ∃vs:List Value,v = .tuple vs.toArray∧vs.length=c.length ∧
 ∀(j:Nat) x u,c[j]? = some x→vs[j]? = some u→Rel w ok aY a8 x u:=by
 cases h with|cW vs aO al=>exact ⟨vs,rfl,aO,al⟩
theorem Rel.uc {r k i off sz:Nat}{p:Option (Nat×Nat)}(h:Rel w ok aY a8 (.ref r k i off) v)(cr:a8 r k=some (sz,p)):
 p=none∨ ∃b m,p=some (b,m)∧v = .pointer (some ⟨b,i*sz+off,none⟩):=by
 cases h with
 | pc a hu a5 =>
  cases p with
  | none=>exact .inl rfl
  | some q=>exact absurd cr (a5 _ _)
 | ref hu h =>
  rw [cr] at h
  simp only [Option.some.injEq,Prod.mk.injEq] at h
  obtain ⟨rfl,rfl⟩:=h
  exact .inr ⟨_,_,rfl,rfl⟩
theorem Rel.adZ {r k i off:Nat}(h:Rel w ok aY a8 (.ref r k i off) v): ∃a,v = .pointer a:=by
 cases h with
 | pc a=>exact ⟨a,rfl⟩
 | ref=>exact ⟨_,rfl⟩
theorem Rel.N0 {r k i off sz b m:Nat}(h:Rel w ok aY a8 (.ref r k i off) v)(cr:a8 r k=some (sz,some (b,m)))(QD:Nat):
 Rel w ok aY a8 (.ref r k i QD) (.pointer (some ⟨b,i*sz+QD,none⟩)):=by
 cases h with
 | pc a hu a5=>exact absurd cr (a5 _ _)
 | ref hu h=>exact .ref hu cr
theorem Rel.xl {sz i off:Nat}{es:List (List ay)}(h:Rel w ok aY a8 (.ey sz es i off) v): ∃dJ I,(ok dJ∧hc es)∧v = .pointer (some ⟨dJ,I+(i*sz+off),none⟩)∧nX w ok aY a8 dJ I sz es:=by
 cases h with
 | ey cs aV af aO hw aN al=>exact ⟨_,_,⟨aV,af⟩,rfl,aO,fun j x aa=>⟨cs j,hw j x aa,aN j x aa,al j x aa⟩⟩
theorem Rel.zG {r k bV len sz:Nat}{p:Option (Nat×Nat)}(h:Rel w ok aY a8 (.bw r k bV len) v)(cr:a8 r k=some (sz,p)):
 (p=none∧bV=0∧len=0∧v = .slice none 0 0)∨ ∃b m a c,p=some (b,m)∧v = .slice a len c∧len≤c∧c<9223372036854775808∧(c=0∨(a=some ⟨b,bV*sz,none⟩∧(bV+c)*sz=m)):=by
 cases h with
 | mG a l c hu a5=>rw [cr] at a5;simp at a5
 | m4 hu h =>
  rw [cr] at h
  simp only [Option.some.injEq,Prod.mk.injEq] at h
  exact .inl ⟨h.2,rfl,rfl,rfl⟩
 | bw hu h aO aN hm =>
  rw [cr] at h
  simp only [Option.some.injEq,Prod.mk.injEq] at h
  obtain ⟨rfl,rfl⟩:=h
  exact .inr ⟨_,_,_,_,rfl,rfl,aO,aN,hm.2.imp id fun e=>⟨e,hm.1⟩⟩
theorem Rel.tY {r k bV len sz:Nat}{p:Option (Nat×Nat)}(h:Rel w ok aY a8 (.bw r k bV len) v)(cr:a8 r k=some (sz,p)):
 (p=none∧bV=0∧len=0∧v = .slice none 0 0)∨ ∃b m a c,p=some (b,m)∧v = .slice a len c∧len≤c∧c<9223372036854775808∧(bV+c)*sz=m∧(c=0∨a=some ⟨b,bV*sz,none⟩):=by
 cases h with
 | mG a l c hu a5=>rw [cr] at a5;simp at a5
 | m4 hu h =>
  rw [cr] at h
  simp only [Option.some.injEq,Prod.mk.injEq] at h
  exact .inl ⟨h.2,rfl,rfl,rfl⟩
 | bw hu h aO aN hm =>
  rw [cr] at h
  simp only [Option.some.injEq,Prod.mk.injEq] at h
  obtain ⟨rfl,rfl⟩:=h
  exact .inr ⟨_,_,_,_,rfl,rfl,aO,aN,hm⟩
theorem Rel.adF {r k bV len:Nat}(h:Rel w ok aY a8 (.bw r k bV len) v): ∃a l c,v = .slice a l c:=by
 cases h<;>exact ⟨_,_,_,rfl⟩
theorem Rel.rR {sz:Nat}{es:List (List ay)}(h:Rel w ok aY a8 (.isl sz es) v):
 (es=[]∧ ∃a c,v = .slice a 0 c∧(a=none→c=0))∨ ∃dJ off c,(ok dJ∧hc es)∧v = .slice (some ⟨dJ,off,none⟩) es.length c∧es.length≤c∧nX w ok aY a8 dJ off sz es:=by
 cases h with
 | jI sz a c h=>exact .inl ⟨rfl,a,c,rfl,h⟩
 | isl cs aV af aO aN hw hk al=>exact .inr ⟨_,_,_,⟨aV,af⟩,rfl,aN,aO,fun j x aa=>⟨cs j,hw j x aa,hk j x aa,al j x aa⟩⟩
theorem nX.isl {dJ off c sz:Nat}{es:List (List ay)}(h:nX w ok aY a8 dJ off sz es)(aV:ok dJ∧hc es)(aN:es.length≤c):Rel w ok aY a8 (.isl sz es) (.slice (some ⟨dJ,off,none⟩) es.length c):=by
 have aa : ∀j:Nat,∃v,∀x,es.flatten[j]? = some x→w.cell? ⟨dJ,off+j,none⟩=some v∧VL.jE v=true∧Rel w ok aY a8 x v:=by
  intro j
  cases aB:es.flatten[j]? with
  | none=>exact ⟨undef,fun x aa=>by simp at aa⟩
  | some y =>
   obtain ⟨v,o⟩:=h.2 j y aB
   exact ⟨v,fun x aa=>by simp at aa;subst aa;exact o⟩
 exact .isl (fun j=>(aa j).choose) aV.1 aV.2 h.1 aN (fun j x aB=>((aa j).choose_spec x aB).1) (fun j x aB=>((aa j).choose_spec x aB).2.1) (fun j x aB=>((aa j).choose_spec x aB).2.2)
theorem nX.ey {dJ I i off sz:Nat}{es:List (List ay)}(h:nX w ok aY a8 dJ I sz es)(aV:ok dJ∧hc es):Rel w ok aY a8 (.ey sz es i off) (.pointer (some ⟨dJ,I+(i*sz+off),none⟩)):=by
 have aa : ∀j:Nat,∃v,∀x,es.flatten[j]? = some x→w.cell? ⟨dJ,I+j,none⟩=some v∧VL.jE v=true∧Rel w ok aY a8 x v:=by
  intro j
  cases aB:es.flatten[j]? with
  | none=>exact ⟨undef,fun x aa=>by simp at aa⟩
  | some y =>
   obtain ⟨v,o⟩:=h.2 j y aB
   exact ⟨v,fun x aa=>by simp at aa;subst aa;exact o⟩
 exact .ey (fun j=>(aa j).choose) aV.1 aV.2 h.1 (fun j x aB=>((aa j).choose_spec x aB).1) (fun j x aB=>((aa j).choose_spec x aB).2.1) (fun j x aB=>((aa j).choose_spec x aB).2.2)
end
def Fin (P:Program)(g:G)(s:S)(a:Act)(w:World)(I:Oper)(bp:g7):Prop :=
 ∃v bD bG,((execOp a.eval I).run P w = .ok (.value v) bD∨((execOp a.eval I).run P w = .ok .skip bD∧v=undef)) ∧
  cE g (s.hr bp.fr) bG a bD∧Rel bD ((s.hr bp.fr).ok g bG bD) (s.hr bp.fr).aY ((s.hr bp.fr).a8 bG) bp.val v
section
variable {P:Program} {g:G} {s:S} {aw:e9} {a:Act} {w:World} {I:Oper} {cy:fi} {aS:Nat} {bp:g7}
theorem ho (h:cE g s aw a w){v:Value}(ik:(execOp a.eval I).run P w = .ok (.value v) w)(hu:bp.fr=[])
 (al:Rel w (s.ok g aw w) s.aY (s.a8 aw) bp.val v):Fin P g s a w I bp :=
 ⟨v,w,aw,.inl ik,by rw [hu];exact h,by rw [hu];exact al⟩
theorem O7 {x:Operand}(h:cE g s aw a w)(ai:I.op = .move x∨I.op = .assign x)(au:ez P s.E s.aK aS I cy=some bp):Fin P g s a w I bp:=by
 have:bp={val:=eu s.E x}:=by rcases ai with ai|ai<;>simp [ez,ai] at au<;>exact au.symm
 subst this
 refine ho (v:=a.eval x) h ?_ rfl (h.eval x)
 rcases ai with ai|ai<;>simp [execOp,ai]
theorem Yk {c x y:Operand}(h:cE g s aw a w)(ai:I.op = .pick c x y)(au:ez P s.E s.aK aS I cy=some bp)(cq:∀p∈bp.e6,p):Fin P g s a w I bp:=by
 have aN:=h.eval c
 simp only [ez,ai] at au
 have key : ∀t:Bool,eu s.E c = .b t→bp.fr=[]→bp.val=(if t then eu s.E x else eu s.E y)→Fin P g s a w I bp:=by
  intro t cr hu a3
  rw [cr] at aN
  have e:a.eval c = .bool t:=aN.sU
  refine ho (v:=if t then a.eval x else a.eval y) h (by simp [execOp,ai,e,asBool]) hu ?_
  rw [a3];cases t
  ·exact h.eval y
  ·exact h.eval x
 split at au
 ·rename_i z t cn
  simp at au;subst au
  have e:z=t:=cq _ (by simp)
  subst e
  exact key z cn rfl rfl
 ·rename_i cn _;simp at au;subst au;exact key true cn rfl rfl
 ·rename_i cn _;simp at au;subst au;exact key false cn rfl rfl
 ·simp at au
theorem Df (h:cE g s aw a w)(eC:s.aK aS=none){v:Value}{ag:aq}{c:Array Value}{eh:TypeId}(aJ:ag.cm = .live)
 (ik:(execOp a.eval I).run P w = .ok (.value v) (w.alloc (.cells c eh))) (hu:bp.fr=[(aS,[ag])]) (hlen : ∀e∈ag.es,e.length=ag.sz)
 (aN : ∀(j:Nat) x,ag.es.flatten[j]? = some x→ ∃v,c[j]? = some v∧jE v=true∧Rel w (s.ok g aw w) s.aY (s.a8 aw) x v)
 (hval : ∀(bD:World) (ki:Nat→Prop) (mb:iF) (lE:iu),mb aS 0→lE aS 0=some (ag.sz,some (w.heap.size,c.size))→Rel bD ki mb lE bp.val v):Fin P g s a w I bp:=by
 obtain ⟨bG,af,bX,-⟩:=h.alloc eC ag aJ c eh hlen aN
 have o:(s.setRow aS [ag]).aY aS 0:=by rw [mF];simp
 have R:(s.setRow aS [ag]).a8 bG aS 0=some (ag.sz,some (w.heap.size,c.size)):=by simp [S.a8,kT,ly,aJ,af]
 exact ⟨v,_,bG,.inl ik,by rw [hu];exact bX,by rw [hu];exact hval _ _ _ _ o R⟩
theorem zm {t:TypeId}{z:List ay}(cn:pH P t=some z): ∃i d8,P.info? t=some i∧i.zero=some d8∧z=d8.cells.toList.map ofValue ∧
 ∀(j:Nat) x,z[j]? = some x→ ∃v,d8.cells[j]? = some v∧jE v=true∧ ∀(w:World) (ok:Nat→Prop) (aY:iF) (a8:iu),Rel w ok aY a8 x v:=by
 unfold pH at cn
 cases ah:P.info? t with
 | none=>simp [ah] at cn
 | some i =>
  cases j3:i.zero with
  | none=>simp [ah,j3] at cn
  | some d8 =>
   simp only [ah,j3] at cn
   split at cn
   ·rename_i nd
    simp only [Option.some.injEq] at cn
    refine ⟨i,d8,rfl,j3,cn.symm,fun j x aa=> ?_⟩
    subst cn
    rw [List.getElem?_map,Option.map_eq_some_iff] at aa
    obtain ⟨v,a3,rfl⟩:=aa
    refine ⟨v,by rw [← Array.getElem?_toList];exact a3,?_,fun w ok aY a8=>Nc v⟩
    exact List.all_eq_true.1 nd v (List.mem_of_getElem? a3)
   ·simp at cn
theorem Xi {t:TypeId}(h:cE g s aw a w)(eC:s.aK aS=none)(ai:I.op = .alloc t)(au:ez P s.E s.aK aS I cy=some bp):Fin P g s a w I bp:=by
 simp only [ez,ai] at au
 split at au
 ·rename_i z cn
  obtain ⟨i,d8,ah,j3,e,ju⟩:=zm cn
  simp only [Option.some.injEq] at au
  subst au
  refine Df (v:= .pointer (some ⟨w.heap.size,0,none⟩)) (c:=d8.cells) (eh:=t) (ag:=⟨z.length,[z],.live⟩) h eC rfl ?_ rfl (by simp) ?_ ?_
  ·simp [execOp,ai,Instr.alloc,zeroValue,typeInfo,ah,j3,newVar,newRow]
  ·intro j x aa
   simp only [List.flatten_cons,List.flatten_nil,List.append_nil] at aa
   obtain ⟨v,o,R,ab⟩:=ju j x aa
   exact ⟨v,o,R,ab _ _ _ _⟩
  ·intro bD ki mb lE hu cr
   have:=Rel.ref (w:=bD) (ok:=ki) (i:=0) (off:=0) hu cr
   simpa using this
 ·simp at au
theorem YV {t:TypeId}{x:Operand}(h:cE g s aw a w)(eC:s.aK aS=none)(ai:I.op = .box t x)(au:ez P s.E s.aK aS I cy=some bp):Fin P g s a w I bp:=by
 simp only [ez,ai] at au
 have aa:=h.eval x
 have key : ∀ag:aq,ag.cm = .live→ag.es=[(eu s.E x).cells]→ag.sz=(eu s.E x).cells.length→((eu s.E x).one=true∨ ∃c,eu s.E x = .agg c) →
  bp.fr=[(aS,[ag])]→bp.val = .ref aS 0 0 0→Fin P g s a w I bp:=by
  intro ag aJ gU eB lf hu a3
  obtain ⟨vs,ax,aC,bZ,c8⟩:=aa.cellsOf lf
  refine Df (v:= .pointer (some ⟨w.heap.size,0,none⟩)) (c:=(a.eval x).cells) (eh:=t) h eC aJ ?_ hu ?_ ?_ ?_
  ·simp [execOp,ai,Instr.box,newVar,newRow]
  ·intro e he;rw [gU] at he;simp at he;rw [he,eB]
  ·intro j y aP
   rw [gU] at aP
   simp only [List.flatten_cons,List.flatten_nil,List.append_nil] at aP
   have aB:j<vs.length:=by
    rcases Nat.lt_or_ge j (eu s.E x).cells.length with ch|ch
    ·omega
    ·rw [List.getElem?_eq_none ch] at aP;simp at aP
   refine ⟨vs[j],by rw [ax];simp [aB],bZ j _ (List.getElem?_eq_getElem aB),c8 j y _ aP (List.getElem?_eq_getElem aB)⟩
  ·intro bD ki mb lE nP cr
   have:=Rel.ref (w:=bD) (ok:=ki) (i:=0) (off:=0) nP cr
   rw [a3];simpa using this
 split at au
 ·rename_i c aN
  simp only [Option.some.injEq] at au
  subst au
  exact key _ rfl (by rw [aN];rfl) (by rw [aN];rfl) (.inr ⟨c,aN⟩) rfl rfl
 ·split at au
  ·rename_i lf
   simp only [Option.some.injEq] at au
   subst au
   have e:(eu s.E x).cells=[eu s.E x]:=by
    generalize eu s.E x=y at lf
    cases y<;>first|rfl|simp [ay.one] at lf
   exact key _ rfl (by rw [e]) (by rw [e];rfl) (.inl lf) rfl rfl
  ·simp at au
theorem hv {s:S}{aw:e9}{r k:Nat}{ag:aq}(h:s.ag r k=some ag):s.a8 aw r k=some (ag.sz,aw r k):=by simp [S.a8,h]
theorem rS {row:Option (List aq)}{k:Nat}{ag:aq}{b3:List Prop}(h:nK row k cy=some (ag,b3))(cq:∀p∈b3,p):c7 row k=some ag:=by
 unfold nK at h
 split at h
 ·split at h
  ·simp at h;obtain ⟨rfl,rfl⟩:=h;exact cq _ (by simp)
  ·simp at h
 ·split at h
  ·rename_i ch;simp at h;obtain ⟨rfl,rfl⟩:=h;exact ch
  ·simp at h
theorem w8 {es:List (List ay)}{i:Nat}{c:List ay}{b3:List Prop}(h:elemAt es i cy=some (c,b3))(cq:∀p∈b3,p):es[i]? = some c:=by
 unfold elemAt at h
 split at h
 ·simp at h;obtain ⟨rfl,rfl⟩:=h;exact cq _ (by simp)
 ·simp at h;obtain ⟨rfl,rfl⟩:=h;exact cq _ (by simp)
 ·split at h
  ·rename_i ch;simp at h;obtain ⟨rfl,rfl⟩:=h;exact ch
  ·simp at h
theorem Yl {t:TypeId}{x:Operand}(h:cE g s aw a w)(ai:I.op = .load t x)(au:ez P s.E s.aK aS I cy=some bp)(cq:∀p∈bp.e6,p):Fin P g s a w I bp:=by
 simp only [ez,ai] at au
 have aa:=h.eval x
 split at au
 ·rename_i r k i off gn
  rw [gn] at aa
  split at au
  ·rename_i ag b3 bf
   split at au
   ·rename_i c a6 lQ
    split at au
    ·rename_i v a3
     simp only [Option.some.injEq] at au
     subst au
     have iY:s.ag r k=some ag:=rS bf fun p af=>cq p (by simp [af])
     have oO:=w8 lQ fun p af=>cq p (by simp [af])
     have e3:=h.obj r k ag iY
     rcases aa.uc (hv iY) with h0|⟨b,m,af,hval⟩
     ·rw [h0] at e3
      simp only [iB] at e3
      rw [e3] at oO;simp at oO
     ·rw [af] at e3
      obtain ⟨u,o,R⟩:=Ie (P:=P) e3.rd oO a3
      refine ho (v:=u) h ?_ rfl R
      rw [Nat.zero_add] at o
      simp [execOp,ai,hval,o]
    ·simp at au
   ·simp at au
  ·simp at au
 ·rename_i sz es i off gn
  rw [gn] at aa
  split at au
  ·rename_i c a6 lQ
   split at au
   ·rename_i v a3
    simp only [Option.some.injEq] at au
    subst au
    have oO:=w8 lQ fun p af=>cq p (by simp [af])
    obtain ⟨dJ,bY,aV,hval,hN⟩:=aa.xl
    obtain ⟨u,o,R⟩:=Ie (P:=P) hN oO a3
    refine ho (v:=u) h ?_ rfl R
    simp [execOp,ai,hval,o]
   ·simp at au
  ·simp at au
 ·simp at au
end
end Go.VL
namespace Go.VL
set_option linter.unusedVariables false
set_option linter.unusedSimpArgs false
open Go
section
variable {P:Program} {g:G} {s:S} {aw:e9} {a:Act} {w:World} {I:Oper} {cy:fi} {aS:Nat} {bp:g7}
theorem N1 (h:cE g s aw a w){r k i off:Nat}{row:List aq}{ag:aq}{c:List ay}{t:TypeId}{x y:Operand}(ai:I.op = .store t x y)
 (gn:eu s.E x = .ref r k i off) (dh:s.aK r=some row) (bf:s.ag r k=some ag) (aJ:ag.cm = .live) (lQ:ag.es[i]? = some c)
 (lf:(eu s.E y).one=true∨ ∃c,eu s.E y = .agg c) (eB:(eu s.E y).cells.length=P.cellsOf t) (J1:(P.info? t).isSome=true)
 (hK:off+(eu s.E y).cells.length≤c.length) (au:bp.val = .dead) (hu:bp.fr=[(r,row.set k {ag with es:=ag.es.set i (setCells c off (eu s.E y).cells)})]):Fin P g s a w I bp:=by
 have aa:=h.eval x
 rw [gn] at aa
 have e3:=h.obj r k ag bf
 rcases aa.uc (hv bf) with h0|⟨b,m,af,hval⟩
 ·rw [h0] at e3;simp only [iB] at e3;rw [e3] at lQ;simp at lQ
 ·obtain ⟨bD,o,R⟩:=VF (P:=P) h dh bf aJ af lQ J1 (h.eval y) lf eB hK
  refine ⟨undef,bD,aw,.inr ⟨?_,rfl⟩,by rw [hu];exact R,by rw [au];exact .dead _⟩
  simp [execOp,ai,hval,o]
theorem Xj {t:TypeId}{x y:Operand}(h:cE g s aw a w)(ai:I.op = .store t x y)(au:ez P s.E s.aK aS I cy=some bp)(cq:∀p∈bp.e6,p):Fin P g s a w I bp:=by
 simp only [ez,ai] at au
 split at au
 ·rename_i r k i off gn
  split at au
  ·simp at au
  ·rename_i row dh
   split at au
   ·rename_i ag b3 aae
    split at au
    ·simp at au
    ·rename_i aJ
     have aJ:ag.cm = .live:=by simpa using aJ
     split at au
     ·simp at au
     ·rename_i lf
      have lf:=ay.Nd (by simpa using lf)
      split at au
      ·simp at au
      ·rename_i eB
       simp only [not_or,Decidable.not_not,Bool.not_eq_false] at eB
       have iY:(∀p∈b3,p)→s.ag r k=some ag:=fun bE=>by
        have:=rS aae bE
        unfold S.ag;rw [dh];exact this
       split at au
       ·split at au
        ·rename_i xO
         simp only [Option.some.injEq] at au
         subst au;subst xO
         have du:i<ag.es.length:=cq _ (by simp)
         have hk:(eu s.E y).cells.length=ag.sz:=cq _ (by simp)
         have Ag:=iY fun p af=>cq p (by simp [af])
         have hlen:(ag.es[i]).length=ag.sz:=by
          have e3:=h.obj r k ag Ag
          cases af:aw r k with
          | none=>rw [af] at e3;simp only [iB] at e3;rw [e3] at du;simp at du
          | some q =>
           rw [af] at e3
           obtain ⟨_,_,_,_,ab,_⟩:=e3
           exact ab _ (List.getElem_mem du)
         refine N1 h ai gn dh Ag aJ (c:=ag.es[i]) (List.getElem?_eq_getElem du) lf eB.1 eB.2 (by omega) rfl ?_
         have e:setCells ag.es[i] 0 (eu s.E y).cells=(eu s.E y).cells:=by
          simp [setCells,hlen,hk]
         rw [e]
        ·simp at au
       ·split at au
        ·rename_i c a6 lQ
         split at au
         ·rename_i hK
          simp only [Option.some.injEq] at au
          subst au
          exact N1 h ai gn dh (iY fun p af=>cq p (by simp [af])) aJ (w8 lQ fun p af=>cq p (by simp [af])) lf eB.1 eB.2 hK rfl rfl
         ·simp at au
        ·simp at au
   ·simp at au
 ·simp at au
theorem VG {x:Operand}(h:cE g s aw a w)(ai:I.op = .nilCheck x)(au:ez P s.E s.aK aS I cy=some bp)(cq:∀p∈bp.e6,p):Fin P g s a w I bp:=by
 simp only [ez,ai] at au
 have aa:=h.eval x
 split at au
 ·rename_i r k i off gn
  rw [gn] at aa
  split at au
  ·rename_i ag b3 bf
   split at au
   ·rename_i c a6 lQ
    simp only [Option.some.injEq] at au
    subst au
    have iY:s.ag r k=some ag:=rS bf fun p af=>cq p (by simp [af])
    have oO:=w8 lQ fun p af=>cq p (by simp [af])
    have e3:=h.obj r k ag iY
    rcases aa.uc (hv iY) with h0|⟨b,m,af,hval⟩
    ·rw [h0] at e3;simp only [iB] at e3;rw [e3] at oO;simp at oO
    ·refine ho (v:=a.eval x) h ?_ rfl aa
     simp [execOp,ai,hval]
   ·simp at au
  ·simp at au
 ·rename_i sz es i off gn
  rw [gn] at aa
  simp only [Option.some.injEq] at au
  subst au
  obtain ⟨dJ,bY,aV,hval,hN⟩:=aa.xl
  refine ho (v:=a.eval x) h ?_ rfl aa
  simp [execOp,ai,hval]
 ·rename_i f c gn
  rw [gn] at aa
  simp only [Option.some.injEq] at au
  subst au
  obtain ⟨vs,hval,-⟩:=aa.Du
  refine ho (v:=a.eval x) h ?_ rfl aa
  simp [execOp,ai,hval]
 ·simp at au
theorem WA {op:BinOp}{t:TypeId}{x y z:ay}{ag:List Prop}(au:Jz op x y=some (z,ag))(cq:∀p∈ag,p)
 {ok:Nat→Prop} {aY:iF} {a8:iu} {kw kx:Value} (aa:Rel w ok aY a8 x kw) (aP:Rel w ok aY a8 y kx) (p q:Operand) :
 ∃v,((do eqGuard op t p q kw kx;binOp op t kw kx):Sem Value).run P w = .ok v w∧Rel w ok aY a8 z v:=by
 unfold Jz at au
 split at au
 ·rename_i k n dt ms
  have hs:=aa.nG;have hE:=aP.nG
  subst hs;subst hE
  have dy : ∀op,eqGuard op t p q (.int k n) (.int dt ms)=pure ():=fun op=>eqGuard_at_int ..
  simp only [Sem.run_bind,dy,Sem.run_pure,Result.andThen_ok]
  split at au
  ·simp only [Option.some.injEq,Prod.mk.injEq] at au
   obtain ⟨rfl,rfl⟩:=au
   have h0:0≤ms:=cq _ (by simp)
   exact ⟨_,by simp [binOp,Op.shift,show ¬ms<0 by omega],.n _ _⟩
  ·simp only [Option.some.injEq,Prod.mk.injEq] at au
   obtain ⟨rfl,rfl⟩:=au
   have h0:0≤ms:=cq _ (by simp)
   exact ⟨_,by simp [binOp,Op.shift,show ¬ms<0 by omega],.n _ _⟩
  ·split at au
   ·simp at au
   ·rename_i aJ
    have aJ:k=dt:=by simpa using aJ
    subst aJ
    split at au<;>simp only [Option.some.injEq,Prod.mk.injEq,reduceCtorEq] at au
    all_goals (obtain ⟨rfl,rfl⟩:=au)
    case h_4|h_5 =>
     have h0:ms≠0:=cq _ (by simp)
     exact ⟨_,by simp [binOp,Op.intDiv,h0],.n _ _⟩
    all_goals first
     | (refine ⟨_,?_,.n _ _⟩;rw [binOp_add];rfl)
     | (refine ⟨_,?_,.n _ _⟩;rw [binOp_sub];rfl)
     | (refine ⟨_,?_,.n _ _⟩;rw [binOp_mul];rfl)
     | (refine ⟨_,?_,.n _ _⟩;rw [binOp_and];rfl)
     | (refine ⟨_,?_,.n _ _⟩;rw [binOp_or];rfl)
     | (refine ⟨_,?_,.n _ _⟩;rw [binOp_xor];rfl)
     | (refine ⟨_,?_,.b _⟩;simp [binOp,Op.intCmp];done)
 ·rename_i cC lq
  have hs:=aa.xE;have hE:=aP.xE
  subst hs;subst hE
  have dy : ∀op,eqGuard op t p q (.string cC) (.string lq)=pure ():=fun op=>eqGuard_at_string ..
  simp only [Sem.run_bind,dy,Sem.run_pure,Result.andThen_ok]
  split at au<;>simp only [Option.some.injEq,Prod.mk.injEq,reduceCtorEq] at au
  all_goals (obtain ⟨rfl,rfl⟩:=au)
  ·have h0:cC.size+lq.size<9223372036854775808:=cq _ (by simp)
   refine ⟨_,?_,.s _⟩
   have o : ¬((cC.size+lq.size:Nat):Int)>IntKind.i64.max:=by rw [IntKind.max_i64];omega
   rw [IntKind.max_i64] at o
   simp [binOp,Op.stringOp]
   omega
  ·exact ⟨_,by simp [binOp,Op.stringOp],.b _⟩
  ·exact ⟨_,by simp [binOp,Op.stringOp],.b _⟩
 ·simp at au
theorem tR (t:TypeId)(x y:Value):Op.equal t x y=Op.equalIn (9999+1) t x y:=rfl
theorem y5 {t:TypeId}{a b:Bool}(d:Nat)(bg:P.underlying t=some .bool):(Op.equalIn (d+1) t (.bool a) (.bool b)).run P w = .ok (a == b) w:=by
 unfold Op.equalIn;simp [run_underlying bg]
theorem zn {t e:TypeId}(d:Nat)(bg:P.underlying t=some (.pointer e)):(Op.equalIn (d+1) t (.pointer none) (.pointer none)).run P w = .ok true w:=by
 unfold Op.equalIn;simp [run_underlying bg]
theorem zo {t e:TypeId}{a:Addr}(d:Nat)(bg:P.underlying t=some (.pointer e)):(Op.equalIn (d+1) t (.pointer (some a)) (.pointer none)).run P w = .ok false w:=by
 unfold Op.equalIn;simp [run_underlying bg]
theorem zp {t e:TypeId}{a:Addr}(d:Nat)(bg:P.underlying t=some (.pointer e)):(Op.equalIn (d+1) t (.pointer none) (.pointer (some a))).run P w = .ok false w:=by
 unfold Op.equalIn;simp [run_underlying bg]
theorem zq {t e:TypeId}(d:Nat)(bg:P.underlying t=some (.slice e)):(Op.equalIn (d+1) t (.slice none 0 0) (.slice none 0 0)).run P w = .ok true w:=by
 unfold Op.equalIn;simp [run_underlying bg]
theorem Nx {t e:TypeId}{a:Addr}{c:Nat}(d:Nat)(bg:P.underlying t=some (.slice e))(n:Nat):(Op.equalIn (d+1) t (.slice (some a) n c) (.slice none 0 0)).run P w = .ok false w:=by
 unfold Op.equalIn;simp [run_underlying bg]
theorem xe {t:TypeId}{x y:ay}{r:Bool}(au:rm P t x y=some r)
 {ok:Nat→Prop} {aY:iF} {a8:iu} {kw kx:Value} (aa:Rel w ok aY a8 x kw) (aP:Rel w ok aY a8 y kx) (p q:Operand) :
 ((do eqGuard .eql t p q kw kx;binOp .eql t kw kx):Sem Value).run P w = .ok (.bool r) w ∧
 ((do eqGuard .neq t p q kw kx;binOp .neq t kw kx):Sem Value).run P w = .ok (.bool !r) w:=by
 have key : ∀b:Bool,(∀op,eqGuard op t p q kw kx=pure ())→binOp .eql t kw kx=(do pure (.bool (← Op.equal t kw kx)))→binOp .neq t kw kx=(do pure (.bool (!(← Op.equal t kw kx)))) →
  (Op.equal t kw kx).run P w = .ok b w→((do eqGuard .eql t p q kw kx;binOp .eql t kw kx):Sem Value).run P w = .ok (.bool b) w ∧
  ((do eqGuard .neq t p q kw kx;binOp .neq t kw kx):Sem Value).run P w = .ok (.bool !b) w:=by
  intro b dy o R ab
  constructor
  ·rw [dy,o];simp [ab]
  ·rw [dy,R];simp [ab]
 unfold rm at au
 split at au
 ·rename_i cC lq bg
  simp only [Option.some.injEq] at au;subst au
  have hs:=aa.sU;have hE:=aP.sU
  subst hs;subst hE
  exact key _ (fun op=>eqGuard_at_bool ..) rfl rfl (by rw [tR];first|exact y5 _ bg|exact zn _ bg|exact zo _ bg|exact zp _ bg|exact zq _ bg)
 ·rename_i e bg
  simp only [Option.some.injEq] at au;subst au
  have hs:=aa.tX;have hE:=aP.tX
  subst hs;subst hE
  exact key _ (fun op=>eqGuard_at_pointer ..) rfl rfl (by rw [tR];first|exact y5 _ bg|exact zn _ bg|exact zo _ bg|exact zp _ bg|exact zq _ bg)
 ·rename_i e sz es i off bg
  simp only [Option.some.injEq] at au;subst au
  obtain ⟨dJ,bY,-,hs,-⟩:=aa.xl
  have hE:=aP.tX
  subst hs;subst hE
  exact key _ (fun op=>eqGuard_at_pointer ..) rfl rfl (by rw [tR];first|exact y5 _ bg|exact zn _ bg|exact zo _ bg|exact zp _ bg|exact zq _ bg)
 ·rename_i e sz es i off bg
  simp only [Option.some.injEq] at au;subst au
  obtain ⟨dJ,bY,-,hE,-⟩:=aP.xl
  have hs:=aa.tX
  subst hs;subst hE
  exact key _ (fun op=>eqGuard_at_pointer ..) rfl rfl (by rw [tR];first|exact y5 _ bg|exact zn _ bg|exact zo _ bg|exact zp _ bg|exact zq _ bg)
 ·rename_i e bg
  simp only [Option.some.injEq] at au;subst au
  have hs:=aa.pb;have hE:=aP.pb
  subst hs;subst hE
  exact key _ (fun op=>eqGuard_at_slice ..) rfl rfl (by rw [tR];first|exact y5 _ bg|exact zn _ bg|exact zo _ bg|exact zp _ bg|exact zq _ bg)
 ·rename_i e bg
  simp only [Option.some.injEq] at au;subst au
  obtain ⟨vb,c,hs⟩:=aa.De
  have hE:=aP.pb
  subst hs;subst hE
  exact key _ (fun op=>eqGuard_at_slice ..) rfl rfl (by rw [tR];exact Nx _ bg 0)
 ·simp at au
theorem PG {t e:TypeId}(bg:P.underlying t=some (.slice e)){sz:Nat}{es:List (List ay)}(cH:es≠[])
 {ok:Nat→Prop} {aY:iF} {a8:iu} {kw kx:Value} (aa:Rel w ok aY a8 (.isl sz es) kw) (aP:Rel w ok aY a8 .d7 kx) (p q:Operand) :
 ((do eqGuard .eql t p q kw kx;binOp .eql t kw kx):Sem Value).run P w = .ok (.bool false) w ∧
 ((do eqGuard .neq t p q kw kx;binOp .neq t kw kx):Sem Value).run P w = .ok (.bool true) w:=by
 rcases aa.rR with ⟨h0,-⟩|⟨dJ,off,c,-,hs,-⟩
 ·exact absurd h0 cH
 ·have hE:=aP.pb
  subst hs;subst hE
  have ab:(Op.equal t (.slice (some ⟨dJ,off,none⟩) es.length c) (.slice none 0 0)).run P w = .ok false w:=by rw [tR];exact Nx _ bg _
  have dy : ∀op,eqGuard op t p q (.slice (some ⟨dJ,off,none⟩) es.length c) (.slice none 0 0)=pure ():=fun op=>eqGuard_at_slice ..
  have o:binOp .eql t (.slice (some ⟨dJ,off,none⟩) es.length c) (.slice none 0 0)=(do pure (.bool (← Op.equal t (.slice (some ⟨dJ,off,none⟩) es.length c) (.slice none 0 0)))):=rfl
  have R:binOp .neq t (.slice (some ⟨dJ,off,none⟩) es.length c) (.slice none 0 0)=(do pure (.bool (!(← Op.equal t (.slice (some ⟨dJ,off,none⟩) es.length c) (.slice none 0 0))))):=rfl
  constructor
  ·rw [dy,o];simp [ab]
  ·rw [dy,R];simp [ab]
theorem Xk {op:BinOp}{t dm:TypeId}{x y:Operand}(h:cE g s aw a w)(ai:I.op = .binOp op t x y dm)(au:ez P s.E s.aK aS I cy=some bp)(cq:∀p∈bp.e6,p):Fin P g s a w I bp:=by
 simp only [ez,ai] at au
 have aa:=h.eval x
 have aP:=h.eval y
 split at au
 ·rename_i v ag aV
  simp only [Option.some.injEq] at au
  subst au
  obtain ⟨u,o,R⟩:=WA (P:=P) (t:=t) aV cq aa aP x y
  refine ho (v:=u) h ?_ rfl R
  simp only [execOp,ai]
  rw [Sem.run_bind,o];rfl
 ·split at au
  ·cases he:rm P t (eu s.E x) (eu s.E y) with
   | none=>simp [he] at au
   | some r =>
    simp [he] at au;subst au
    refine ho (v:= .bool r) h ?_ rfl (.b r)
    simp only [execOp,ai]
    rw [Sem.run_bind,(xe (w:=w) he aa aP x y).1];rfl
  ·cases he:rm P t (eu s.E x) (eu s.E y) with
   | none=>simp [he] at au
   | some r =>
    simp [he] at au;subst au
    refine ho (v:= .bool !r) h ?_ rfl (.b _)
    simp only [execOp,ai]
    rw [Sem.run_bind,(xe (w:=w) he aa aP x y).2];rfl
  ·simp at au
theorem Ym {op:UnOp}{t:TypeId}{x:Operand}(h:cE g s aw a w)(ai:I.op = .unOp op t x)(au:ez P s.E s.aK aS I cy=some bp):Fin P g s a w I bp:=by
 simp only [ez,ai] at au
 have aa:=h.eval x
 cases he:JZ op (eu s.E x) with
 | none=>simp [he] at au
 | some v =>
  simp [he] at au;subst au
  unfold JZ at he
  split at he
  ·rename_i k n gn
   rw [gn] at aa
   simp only [Option.some.injEq] at he;subst he
   refine ho (v:= .int k (k.wrap (0-n))) h ?_ rfl (.n _ _)
   simp [execOp,ai,aa.nG,Op.unary,Op.intArith]
  ·rename_i b gn
   rw [gn] at aa
   simp only [Option.some.injEq] at he;subst he
   refine ho (v:= .bool !b) h ?_ rfl (.b _)
   simp [execOp,ai,aa.sU,Op.unary]
  ·simp at he
theorem V3 {t dm:TypeId}{x:Operand}(h:cE g s aw a w)(ai:I.op = .convert t dm x)(au:ez P s.E s.aK aS I cy=some bp):Fin P g s a w I bp:=by
 simp only [ez,ai] at au
 have aa:=h.eval x
 split at au
 ·rename_i k dt n bg gn
  rw [gn] at aa
  split at au
  case isFalse=>simp at au
  rename_i bX
  simp only [Option.some.injEq] at au
  subst au
  refine ho (v:= .int k (k.wrap n)) h ?_ rfl (.n _ _)
  cases QY:P.underlying t with
  | none=>simp [QY] at bX
  | some d=>simp [execOp,ai,aa.nG,convert,run_underlying bg,run_underlying QY,Conv.intToInt]
 ·rename_i r k bV len bg gn
  rw [gn] at aa
  split at au
  ·rename_i ag DT bf
   split at au
   ·rename_i mW AD
    split at au
    ·rename_i aN
     simp only [Option.some.injEq] at au
     subst au
     obtain ⟨e,bX,he⟩ : ∃e,P.underlying t=some (.slice e)∧P.underlying e=some (.int .u8):=by
      unfold pg at DT
      split at DT
      ·rename_i e bX;exact ⟨e,bX,DT⟩
      ·simp at DT
     have dA:s.ag r k=some ag:=bf
     have e3:=h.obj r k ag dA
     have hzero : ∀(pB:Option Addr) (c:Nat),len=0→(convert t dm (.slice pB 0 c)).run P w = .ok (.string (xN mW)) w:=by
      intro pB c h0
      subst h0
      have:mW=[]:=by simpa [bytesOf] using AD
      subst this
      cases pB with
      | none=>rw [run_convert_bytes_string w t dm e none 0 c bX he bg];simp [Conv.bytesToString,xN]
      | some pB =>
       rw [run_convert_bytes_string w t dm e (some pB) 0 c bX he bg,run_bytesToString w pB 0 c [] (by
        have:=run_loadCells_list (P:=P) w pB [] (fun j v aB=>by simp at aB)
        simpa using this)]
       rfl
     rcases aa.zG (hv dA) with ⟨af,rfl,rfl,hval⟩|⟨b,m,A,c,af,hval,qG,sg,hm⟩
     ·refine ho (v:= .string (xN mW)) h ?_ rfl (.s _)
      simp [execOp,ai,hval,hzero none 0 rfl]
     ·refine ho (v:= .string (xN mW)) h ?_ rfl (.s _)
      by_cases h0:len=0
      ·subst h0;simp [execOp,ai,hval,hzero A c rfl]
      ·rcases hm with hm|⟨hA,hm⟩
       ·omega
       ·subst hA
        rw [af] at e3
        have hN:=e3.rd
        have xW : ∀(es:List (List ay)) (mW:List Int),bytesOf es=some mW→es.length=mW.length∧ ∀(i:Nat) n,mW[i]? = some n→es[i]? = some [.n .u8 n]:=by
         intro es
         induction es with
         | nil=>intro mW h;simp [bytesOf] at h;subst h;exact ⟨rfl,fun i n ah=>by simp at ah⟩
         | cons x es ih =>
          intro mW h
          unfold bytesOf at h
          split at h
          ·simp at *
          ·rename_i n0 aez D4
           simp only [List.cons.injEq] at D4
           obtain ⟨rfl,rfl⟩:=D4
           rw [Option.map_eq_some_iff] at h
           obtain ⟨fT,aa1,rfl⟩:=h
           obtain ⟨ax,aC⟩:=ih fT aa1
           refine ⟨by simp [ax],fun i n ah=> ?_⟩
           cases i with
           | zero=>simp at ah;subst ah;rfl
           | succ i=>simpa using aC i n (by simpa using ah)
          ·simp at h
        obtain ⟨ax,aC⟩:=xW _ _ AD
        have hlen:mW.length=len:=by rw [← ax];simp;omega
        have ZJ:(loadCells ⟨b,bV*ag.sz,none⟩ len).run P w = .ok (mW.map (Value.int .u8)).toArray w:=by
         have:=run_loadCells_list (P:=P) w ⟨b,bV*ag.sz,none⟩ (mW.map (Value.int .u8)) (fun j v aB=>by
          rw [List.getElem?_map,Option.map_eq_some_iff] at aB
          obtain ⟨n,a5,rfl⟩:=aB
          have kk:=aC j n a5
          have uH:j<len:=by rw [← hlen];exact (List.getElem?_eq_some_iff.1 a5).1
          rw [List.getElem?_take_of_lt uH,List.getElem?_drop] at kk
          obtain ⟨v,v1,v2,v3⟩:=hN.2 ((bV+j)*ag.sz+0) (.n .u8 n) (by rw [zl hN.1 kk (by omega)];rfl)
          have a3:=v3.nG
          subst a3
          rw [qq,← v1,aN.2]
          congr 2
          omega)
         rw [List.length_map,hlen] at this
         exact this
        have R:=run_bytesToString w ⟨b,bV*ag.sz,none⟩ len c mW ZJ
        rw [← run_convert_bytes_string w t dm e _ len c bX he bg] at R
        simp [execOp,ai,hval,R,xN]
    ·simp at au
   ·simp at au
  ·simp at au
 ·simp at au
theorem VH {f:Fn}{Bn cb:Array Operand}(h:cE g s aw a w)(ai:I.op = .makeFunc f Bn cb)(au:ez P s.E s.aK aS I cy=some bp):Fin P g s a w I bp:=by
 cases f with
 | func n =>
  simp only [ez,ai] at au
  split at au
  ·rename_i aa2
   simp only [Option.some.injEq] at au;subst au
   refine ho (v:= .func (.func n) #[] (cb.map a.eval)) h ?_ rfl ?_
   ·have:Bn = #[]:=by simpa using aa2
    subst this
    simp [execOp,ai,Instr.makeFunc]
   ·have:=Rel.fn (f:=n) (c:=cb.toList.map (eu s.E)) (w:=w) (ok:=s.ok g aw w) (aY:=s.aY) (a8:=s.a8 aw) (cb.toList.map a.eval) (by simp) (by
     intro j x v aa a3
     rw [List.getElem?_map,Option.map_eq_some_iff] at aa a3
     obtain ⟨p,af,rfl⟩:=aa
     obtain ⟨q,bb,rfl⟩:=a3
     rw [af] at bb;simp at bb;subst bb
     exact h.eval p)
    have e:(cb.toList.map a.eval).toArray=cb.map a.eval:=by apply Array.ext';rw [Array.toList_map]
    rw [e] at this
    exact this
  ·simp at au
 | _=>simp [ez,ai] at au
theorem V4 {i:Nat}{x:Operand}(h:cE g s aw a w)(ai:I.op = .extract x i)(au:ez P s.E s.aK aS I cy=some bp):Fin P g s a w I bp:=by
 simp only [ez,ai] at au
 have aa:=h.eval x
 split at au
 ·rename_i vs gn
  rw [gn] at aa
  cases ah:vs[i]? with
  | none=>simp [ah] at au
  | some v =>
   simp [ah] at au;subst au
   obtain ⟨aY,hval,aO,al⟩:=aa.xk
   have du:i<aY.length:=by
    rcases Nat.lt_or_ge i vs.length with ch|ch
    ·omega
    ·rw [List.getElem?_eq_none ch] at ah;simp at ah
   have hu:aY[i]? = some aY[i]:=List.getElem?_eq_getElem du
   refine ho (v:=aY[i]) h ?_ rfl (al i v _ ah hu)
   simp [execOp,ai,hval,Instr.extract,hu]
 ·simp at au
end
end Go.VL
namespace Go.VL
set_option linter.unusedVariables false
set_option linter.unusedSimpArgs false
open Go
section
variable {P:Program} {g:G} {s:S} {aw:e9} {a:Act} {w:World} {I:Oper} {cy:fi} {aS:Nat} {bp:g7}
theorem ra {t e:TypeId}(h:pg P t=some e):P.underlying t=some (.slice e):=by
 unfold pg at h
 split at h
 ·rename_i ec he;simp at h;subst h;exact he
 ·simp at h
theorem H4 {t:TypeId}{j9:Array Field}(h:fieldsOf P t=some j9):P.underlying t=some (.struct j9):=by
 unfold fieldsOf at h
 split at h
 ·rename_i ec he;simp at h;subst h;exact he
 ·simp at h
theorem MV : ∀(z c:List ay),(qu z c).length=z.length
 | x::z,y::c=>by simp [qu,MV z c]
 | [],_=>by simp [qu]
 | _::_,[]=>by simp [qu]
theorem Vo (z:List ay)(cy:fi):(rY z cy).length=z.length:=by
 unfold rY
 split
 ·exact MV z _
 ·rfl
theorem V5 (x y:ay){w:World}{ok:Nat→Prop}{aY:iF}{a8:iu}{v:Value}(h:Rel w ok aY a8 x v):Rel w ok aY a8 (zO x y) v:=by
 unfold zO
 split
 ·rw [h.pb];exact .jI _ _ _ (fun _=>rfl)
 ·rw [h.tX];exact .oN _
 ·rw [h.pb];exact .l7 (.jI _ _ _ (fun _=>rfl))
 ·exact h
theorem N2 : ∀(z c:List ay) (j:Nat) q,(qu z c)[j]? = some q→ ∃x,z[j]? = some x∧(q=x∨ ∃y,q=zO x y)
 | x::z,y::c,0,q,h=>by simp [qu] at h;exact ⟨x,rfl,.inr ⟨y,h.symm⟩⟩
 | x::z,y::c,j+1,q,h=>by
  simp only [qu,List.getElem?_cons_succ] at h
  simpa using N2 z c j q h
 | [],c,j,q,h=>by simp [qu] at h
 | x::z,[],j,q,h=>⟨q,by simpa [qu] using h,.inl rfl⟩
theorem Xl (z:List ay)(cy:fi)(j:Nat)(q:ay)(h:(rY z cy)[j]? = some q): ∃x,z[j]? = some x∧(q=x∨ ∃y,q=zO x y):=by
 unfold rY at h
 split at h
 ·exact N2 z _ j q h
 ·exact ⟨q,h,.inl rfl⟩
theorem Vp {t:TypeId}{x y:Operand}(h:cE g s aw a w)(eC:s.aK aS=none)(ai:I.op = .makeSlice t x y)(au:ez P s.E s.aK aS I cy=some bp)(cq:∀p∈bp.e6,p):Fin P g s a w I bp:=by
 simp only [ez,ai] at au
 have aa:=h.eval x
 have aP:=h.eval y
 split at au
 ·rename_i e ka l jq c he aaf aag
  rw [aaf] at aa;rw [aag] at aP
  split at au
  ·rename_i i z ah cn
   obtain ⟨eI,d8,iE,j3,rz,PH⟩:=zm cn
   rw [ah] at iE;simp at iE;subst iE
   simp only [Option.ite_none_right_eq_some,Option.some.injEq] at au
   obtain ⟨eB,au⟩:=au
   subst au
   have lQ:=Vo z cy
   have ju : ∀(j:Nat) q,(rY z cy)[j]? = some q→ ∃v,d8.cells[j]? = some v∧VL.jE v=true∧ ∀w ok aY a8,Rel w ok aY a8 q v:=by
    intro j q bb
    obtain ⟨x,dr,mQ⟩:=Xl z cy j q bb
    obtain ⟨v,v1,v2,v3⟩:=PH j x dr
    refine ⟨v,v1,v2,fun w ok aY a8=> ?_⟩
    rcases mQ with rfl|⟨y,rfl⟩
    ·exact v3 w ok aY a8
    ·exact V5 x y (v3 w ok aY a8)
   clear PH
   have h0:0≤l:=cq _ (by simp)
   have o:l≤c:=cq _ (by simp)
   have R:(i.bytes:Int)*c≤281474976710656:=cq _ (by simp)
   have ab:c<9223372036854775808:=cq _ (by simp)
   have mR:z.length=d8.cells.size:=by rw [rz];simp
   have ik:=run_make (P:=P) w t e i d8 (ra he) ah j3 ka jq l c h0 o R (by omega)
   refine Df (v:= .slice (some ⟨w.heap.size,0,none⟩) l.toNat c.toNat) (ag:=⟨z.length,List.replicate l.toNat (rY z cy),.live⟩) (c:=madeCells d8.cells (c.toNat*i.size)) (eh:=e) h eC rfl ?_ rfl ?_ ?_ ?_
   ·simp [execOp,ai,aa.nG,aP.nG,ik]
   ·intro ec li;rw [List.eq_of_mem_replicate li];exact lQ
   ·intro j q bb
    have aO : ∀ec∈List.replicate l.toNat (rY z cy),ec.length=z.length:=fun ec li=>by rw [List.eq_of_mem_replicate li];exact lQ
    rcases Nat.eq_zero_or_pos z.length with qH|D5
    ·have:rY z cy=[]:=List.length_eq_zero_iff.1 (by omega)
     rw [this] at bb
     simp at bb
    ·rw [oJ D5 _ aO,List.getElem?_replicate] at bb
     by_cases aB:j / z.length<l.toNat
     ·rw [if_pos aB] at bb
      simp only [Option.bind_some] at bb
      obtain ⟨v,ax,aC,bZ⟩:=ju _ _ bb
      refine ⟨v,?_,aC,bZ _ _ _ _⟩
      have du:j<c.toNat*i.size:=by
       rw [← eB]
       have:j<l.toNat*z.length:=(Nat.div_lt_iff_lt_mul D5).1 aB
       exact Nat.lt_of_lt_of_le this (Nat.mul_le_mul_right _ (by omega))
      simp only [madeCells]
      rw [Array.getElem?_map,Array.getElem?_range]
      simp only [du,if_true,Option.map_some]
      rw [mR] at ax
      have hm:j % d8.cells.size<d8.cells.size:=Nat.mod_lt _ (by omega)
      rw [Array.getElem?_eq_getElem hm] at ax
      rw [getElem!_pos d8.cells _ hm];exact ax
     ·rw [if_neg aB] at bb;simp at bb
   ·intro bD ki mb lE hu cr
    refine Rel.bw hu cr (by omega) (by omega) ⟨?_,.inr (by simp)⟩
    rw [size_madeCells]
    simp only [Nat.zero_add,eB]
  ·simp at au
 ·simp at au
theorem Vq {t:TypeId}{x:Operand}{f:Nat}(h:cE g s aw a w)(ai:I.op = .fieldAddr t x f)(au:ez P s.E s.aK aS I cy=some bp)(cq:∀p∈bp.e6,p):Fin P g s a w I bp:=by
 simp only [ez,ai] at au
 have aa:=h.eval x
 split at au
 ·rename_i j9 AE
  split at au
  ·rename_i fd s8
   split at au
   ·simp at au
   ·rename_i QZ
    have ah:(P.info? fd.type).isSome=true:=by
     cases ah:P.info? fd.type with
     | none=>simp [Program.cellsOf,ah] at QZ
     | some i=>rfl
    have ik : ∀A:Addr,A.spot=none→(Instr.fieldAt t (.pointer (some A)) f).run P w = .ok (.pointer (some ⟨A.block,A.off+fd.offset,none⟩)) w:=by
     intro A hA
     have e:A.add fd.offset=⟨A.block,A.off+fd.offset,none⟩:=by
      obtain ⟨b,I,sp⟩:=A
      simp only at hA;subst hA
      exact qq b I _
     simp [Instr.fieldAt,run_underlying (H4 AE),s8,Instr.sureAddr,fieldPlace,rM ah,QZ,e]
    split at au
    ·rename_i r k i off gn
     rw [gn] at aa
     split at au
     ·rename_i ag b3 bf
      split at au
      ·rename_i c a6 lQ
       simp only [Option.some.injEq] at au;subst au
       have iY:s.ag r k=some ag:=rS bf fun p af=>cq p (by simp [af])
       have oO:=w8 lQ fun p af=>cq p (by simp [af])
       have e3:=h.obj r k ag iY
       rcases aa.uc (hv iY) with h0|⟨b,m,af,hval⟩
       ·rw [h0] at e3;simp only [iB] at e3;rw [e3] at oO;simp at oO
       ·refine ho (v:= .pointer (some ⟨b,i*ag.sz+(off+fd.offset),none⟩)) h ?_ rfl ?_
        ·simp [execOp,ai,hval,ik,Nat.add_assoc]
        ·exact aa.N0 ((hv iY).trans (by rw [af])) _
      ·simp at au
     ·simp at au
    ·rename_i sz es i off gn
     rw [gn] at aa
     simp only [Option.some.injEq] at au;subst au
     obtain ⟨dJ,bY,aV,hval,hN⟩:=aa.xl
     refine ho (v:= .pointer (some ⟨dJ,bY+(i*sz+(off+fd.offset)),none⟩)) h ?_ rfl (hN.ey aV)
     simp [execOp,ai,hval,ik,Nat.add_assoc]
    ·simp at au
  ·simp at au
 ·simp at au
theorem IV {t e:TypeId}{n:Nat}(h:Af P t=some (n,e)):P.underlying t=some (.array n e)∧(P.info? e).isSome=true∧P.cellsOf e≠0∧1<n:=by
 unfold Af at h
 split at h
 ·rename_i ms ec hu
  split at h
  ·rename_i aN
   simp only [Option.some.injEq,Prod.mk.injEq] at h
   obtain ⟨rfl,rfl⟩:=h
   exact ⟨hu,aN⟩
  ·simp at h
 ·simp at h
theorem Xm {t:TypeId}{x y:Operand}(h:cE g s aw a w)(ai:I.op = .indexAddr t x y)(au:xC P s.aK t (eu s.E x) (eu s.E y) cy=some bp)(cq:∀p∈bp.e6,p):Fin P g s a w I bp:=by
 unfold xC at au
 have aa:=h.eval x
 have aP:=h.eval y
 split at au
 ·rename_i n e r k i off cm j hF sa Ah
  rw [sa] at aa;rw [Ah] at aP
  obtain ⟨hu,ah,aN,a5⟩:=IV hF
  split at au
  ·rename_i ag b3 bf
   split at au
   ·rename_i c a6 lQ
    simp only [Option.some.injEq] at au;subst au
    have iY:s.ag r k=some ag:=rS bf fun p af=>cq p (by simp [af])
    have oO:=w8 lQ fun p af=>cq p (by simp [af])
    have h0:0≤j:=cq _ (by simp)
    have o:j<n:=cq _ (by simp)
    have e3:=h.obj r k ag iY
    rcases aa.uc (hv iY) with cn|⟨b,m,af,hval⟩
    ·rw [cn] at e3;simp only [iB] at e3;rw [e3] at oO;simp at oO
    ·refine ho (v:= .pointer (some ⟨b,i*ag.sz+(off+j.toNat*P.cellsOf e),none⟩)) h ?_ rfl ?_
     ·simp [execOp,ai,hval,aP.nG,Instr.indexAt,asIntOf,run_underlying hu,Instr.sureAddr,h0,o,rM ah,qq,Nat.add_assoc]
     ·exact aa.N0 ((hv iY).trans (by rw [af])) _
   ·simp at au
  ·simp at au
 ·simp at au
theorem Vr {t:TypeId}{x y:Operand}(h:cE g s aw a w)(ai:I.op = .indexAddr t x y)(au:ez P s.E s.aK aS I cy=some bp)(cq:∀p∈bp.e6,p):Fin P g s a w I bp:=by
 simp only [ez,ai] at au
 have aa:=h.eval x
 have aP:=h.eval y
 split at au
 ·rename_i e k j he gn
  rw [gn] at aP
  have hu:=ra he
  have ik : ∀(b I len cap:Nat),0≤j→j<len→(P.info? e).isSome=true →
   (Instr.indexAt t (.slice (some ⟨b,I,none⟩) len cap) (.int k j)).run P w = .ok (.pointer (some ⟨b,I+j.toNat*P.cellsOf e,none⟩)) w:=by
   intro b I len cap h0 o ah
   have ec:=qq b I (j.toNat*P.cellsOf e)
   simp [Instr.indexAt,asIntOf,run_underlying hu,h0,o,rM ah,ec]
  have us : ∀sz,sz=P.cellsOf e→sz≠0→(P.info? e).isSome=true:=by
   intro sz bX cn
   cases ah:P.info? e with
   | none=>simp [Program.cellsOf,ah] at bX;exact absurd bX cn
   | some i=>rfl
  split at au
  ·rename_i sz es sa
   rw [sa] at aa
   simp only [Option.ite_none_right_eq_some,Option.some.injEq] at au
   obtain ⟨⟨bX,cn⟩,au⟩:=au
   subst au
   have h0:0≤j:=cq _ (by simp)
   have o:j<es.length:=cq _ (by simp)
   rcases aa.rR with ⟨AF,-⟩|⟨dJ,off,c,aV,hval,aN,hN⟩
   ·subst AF;simp at o;omega
   ·refine ho (v:= .pointer (some ⟨dJ,off+(j.toNat*sz+0),none⟩)) h ?_ rfl (hN.ey aV)
    simp [execOp,ai,hval,aP.nG,ik _ _ _ _ h0 o (us sz bX cn),bX]
  ·rename_i r q bV len sa
   rw [sa] at aa
   split at au
   ·rename_i row dh
    split at au
    ·rename_i ag b3 bf
     simp only [Option.ite_none_right_eq_some,Option.some.injEq] at au
     obtain ⟨⟨bX,cn⟩,au⟩:=au
     subst au
     have iY:s.ag r q=some ag:=by
      unfold S.ag;rw [dh];exact rS bf fun p af=>cq p (by simp [af])
     have h0:0≤j:=cq _ (by simp)
     have o:j<len:=cq _ (by simp)
     rcases aa.zG (hv iY) with ⟨-,-,R,-⟩|⟨b,m,A,c,af,hval,aO,-,hm⟩
     ·subst R;simp at o;omega
     ·rcases hm with hm|⟨hA,hm⟩
      ·omega
      ·subst hA
       have iK:=C2 iY
       refine ho (v:= .pointer (some ⟨b,(bV+j.toNat)*ag.sz+0,none⟩)) h ?_ rfl (.ref iK ((hv iY).trans (by rw [af])))
       simp [execOp,ai,hval,aP.nG,ik _ _ _ _ h0 o (us _ bX cn),bX,Nat.add_mul]
    ·simp at au
   ·simp at au
  ·simp at au
 ·exact Xm h ai au cq
theorem YW {c:Call}(h:cE g s aw a w)(ai:I.op = .call c)(aN:c.callee = .builtin .len)(au:ez P s.E s.aK aS I cy=some bp)(cq:∀p∈bp.e6,p):Fin P g s a w I bp:=by
 obtain ⟨D6,args,me⟩:=c
 simp only at aN;subst aN
 simp only [ez,ai] at au
 have key : ∀(x:Operand) (n:Nat) (t:TypeId) (v:Value),args.toList=[x]→me = #[t]→bp.val = .n .i64 n→bp.fr=[]→a.eval x=v →
  (Builtin.len_ #[t] I.type #[v]).run P w = .ok (goInt n) w→Fin P g s a w I bp:=by
  intro x n t v hargs lj al gV a3 ik
  subst lj
  refine ho (v:=goInt n) h ?_ gV (by rw [al];exact .n _ _)
  have bE:args = #[x]:=by apply Array.ext';simpa using hargs
  subst bE
  simp [execOp,ai,resolve,invoke,builtin,a3,ik]
 have hargs : ∀y,args.toList.map (eu s.E)=[y]→ ∃x,args.toList=[x]∧eu s.E x=y:=by
  intro y aP
  match aO:args.toList,aP with
  | [x],aP=>simp at aP;exact ⟨x,rfl,aP⟩
 have nL:decide (me.size=1)=true→ ∃t,me = #[t]∧me.getD 0 0=t:=by
  intro eB
  have eB:me.size=1:=by simpa using eB
  obtain ⟨l⟩:=me
  match l,eB with
  | [t],_=>exact ⟨t,rfl,rfl⟩
 split at au
 ·rename_i sz es e hm hu eB
  obtain ⟨x,aa,gn⟩:=hargs _ hm
  obtain ⟨t,cr,ni⟩:=nL eB
  rw [ni] at hu
  simp only [Option.some.injEq] at au
  have al:=h.eval x
  rw [gn] at al
  rcases al.rR with ⟨AF,A,c,hval,hA⟩|⟨dJ,off,c,aV,hval,-⟩
  ·exact key x es.length t _ aa cr (by rw [← au]) (by rw [← au]) hval (by subst AF;simp [Builtin.len_,run_underlying hu])
  ·exact key x es.length t _ aa cr (by rw [← au]) (by rw [← au]) hval (by simp [Builtin.len_,run_underlying hu])
 ·rename_i r k bV len e hm hu eB
  obtain ⟨x,aa,gn⟩:=hargs _ hm
  obtain ⟨t,cr,ni⟩:=nL eB
  rw [ni] at hu
  split at au
  ·rename_i row dh
   split at au
   ·rename_i ag b3 bf
    simp only [Option.some.injEq] at au
    have al:=h.eval x
    rw [gn] at al
    have iY:s.ag r k=some ag:=by
     unfold S.ag;rw [dh];exact rS bf fun p af=>cq p (by rw [← au];exact af)
    rcases al.zG (hv iY) with ⟨-,-,R,hval⟩|⟨b,m,A,c,af,hval,-⟩
    ·exact key x len t _ aa cr (by rw [← au]) (by rw [← au]) hval (by subst R;simp [Builtin.len_,run_underlying hu])
    ·exact key x len t _ aa cr (by rw [← au]) (by rw [← au]) hval (by simp [Builtin.len_,run_underlying hu])
   ·simp at au
  ·simp at au
 ·rename_i e hm hu eB
  obtain ⟨x,aa,gn⟩:=hargs _ hm
  obtain ⟨t,cr,ni⟩:=nL eB
  rw [ni] at hu
  simp only [Option.some.injEq] at au
  have al:=h.eval x
  rw [gn] at al
  exact key x 0 t _ aa cr (by rw [← au];rfl) (by rw [← au]) al.pb (by simp [Builtin.len_,run_underlying hu])
 ·rename_i b hm hu eB
  obtain ⟨x,aa,gn⟩:=hargs _ hm
  obtain ⟨t,cr,ni⟩:=nL eB
  rw [ni] at hu
  simp only [Option.some.injEq] at au
  have al:=h.eval x
  rw [gn] at al
  exact key x b.size t _ aa cr (by rw [← au]) (by rw [← au]) al.xE (by simp [Builtin.len_,run_underlying hu])
 ·simp at au
theorem CF {ok:Nat→Prop}{aY:iF}{a8:iu}{dJ off sz:Nat}{es:List (List ay)}(h:nX w ok aY a8 dJ off sz es)(l n:Nat)(aO:l≤es.length):
 nX w ok aY a8 dJ (off+l*sz) sz ((es.drop l).take n):=by
 have pW : ∀e∈(es.drop l).take n,e.length=sz:=fun e he=>h.1 e (List.mem_of_mem_drop (List.mem_of_mem_take he))
 refine ⟨pW,fun j x aa=> ?_⟩
 rcases Nat.eq_zero_or_pos sz with h0|bX
 ·have ax : ∀(l:List (List ay)),(∀e∈l,e.length=0)→l.flatten=[]:=by
   intro l aO;induction l with
   | nil=>rfl
   | cons a l ih=>rw [List.flatten_cons,ih fun e he=>aO e (by simp [he])];have:=aO a (by simp);simp_all
  rw [ax _ (fun e he=>(pW e he).trans h0)] at aa;simp at aa
 ·rw [oJ bX _ pW] at aa
  have aB:j / sz<n:=by
   rcases Nat.lt_or_ge (j / sz) n with ch|ch
   ·exact ch
   ·rw [List.getElem?_eq_none (by simp;omega)] at aa;simp at aa
  rw [List.getElem?_take,if_pos aB,List.getElem?_drop] at aa
  obtain ⟨v,ax,aC,bZ⟩:=h.2 (l*sz+j) x (by
   rw [oJ bX es h.1]
   have hG:(l*sz+j) / sz=l+j / sz:=by rw [Nat.mul_comm,Nat.mul_add_div bX]
   have iw:(l*sz+j) % sz=j % sz:=by rw [Nat.mul_comm,Nat.mul_add_mod]
   rw [hG,iw];exact aa)
  exact ⟨v,by rw [Nat.add_assoc];exact ax,aC,bZ⟩
theorem Cx {t e:TypeId}(hu:P.underlying t=some (.slice e))(ah:(P.info? e).isSome=true)(A:Option Addr)(len cap:Nat)(bV iE:Option Value)(l h:Nat)
 (Q0:(bV=none∧l=0)∨ ∃k,bV=some (.int k l)) (Q1:(iE=none∧h=len)∨ ∃k,iE=some (.int k h)) (o:l≤h) (R:h≤len) (ab:len≤cap) :
 (Instr.sliceAt t (.slice A len cap) bV iE none).run P w = .ok (.slice (if cap=l then A else A.map (·.add (l*P.cellsOf e))) (h-l) (cap-l)) w:=by
 have aV : ∀(k:IntKind) (n y:Nat) (code:BoundsCode),n≤y→(Instr.sliceBound (.int k n) y code).run P w = .ok n w:=by
  intro k n y code a5
  simp [Instr.sliceBound,asIntOf,a5]
 rcases Q0 with ⟨rfl,rfl⟩|⟨ka,rfl⟩<;>rcases Q1 with ⟨rfl,rfl⟩|⟨jq,rfl⟩ <;>
  simp [Instr.sliceAt,Instr.slice,run_underlying hu,Instr.sliceBounds,rM ah,aV,o,R,ab,Nat.le_trans R ab]
theorem xu {x:Option Operand}(h:cE g s aw a w){d n:Nat}{ag:List Prop}(aV:az (x.map (eu s.E)) d=some (n,ag))(cq:∀p∈ag,p):
 (x.map a.eval=none∧n=d)∨ ∃k,x.map a.eval=some (.int k n):=by
 cases x with
 | none=>simp [az] at aV;exact .inl ⟨rfl,aV.1.symm⟩
 | some x =>
  have aa:=h.eval x
  simp only [Option.map_some] at aV ⊢
  unfold az at aV
  split at aV
  ·rename_i he;simp at he
  ·rename_i _ k y he
   simp only [Option.some.injEq] at he
   rw [he] at aa
   simp only [Option.some.injEq,Prod.mk.injEq] at aV
   obtain ⟨rfl,rfl⟩:=aV
   have h0:0≤y:=cq _ (by simp)
   refine .inr ⟨k,?_⟩
   rw [aa.nG,Int.toNat_of_nonneg h0]
  ·simp at aV
theorem Xn {t:TypeId}{x:Operand}{bV ah:Option Operand}(h:cE g s aw a w)(ai:I.op = .slice t x bV ah none)(au:ez P s.E s.aK aS I cy=some bp)(cq:∀p∈bp.e6,p):Fin P g s a w I bp:=by
 simp only [ez,ai] at au
 have aa:=h.eval x
 have us : ∀sz e,sz=P.cellsOf e→sz≠0→(P.info? e).isSome=true:=by
  intro sz e bX cn
  cases ah:P.info? e with
  | none=>simp [Program.cellsOf,ah] at bX;exact absurd bX cn
  | some i=>rfl
 split at au
 ·rename_i e sz es hu gn
  rw [gn] at aa
  split at au
  ·rename_i l b3 n a6 aO a5
   simp only [Option.ite_none_right_eq_some,Option.some.injEq] at au
   obtain ⟨⟨bX,cn⟩,au⟩:=au
   subst au
   have gQ:=xu h aO fun p af=>cq p (by simp [af])
   have h8:=xu h a5 fun p af=>cq p (by simp [af])
   have o:l≤n:=cq _ (by simp)
   have R:n≤es.length:=cq _ (by simp)
   rcases aa.rR with ⟨AF,A,c,hval,hA⟩|⟨dJ,off,c,aV,hval,aN,hN⟩
   ·subst AF
    have J2:n=0:=by simpa using R
    subst J2
    have mS:l=0:=by omega
    subst mS
    refine ho (v:= .slice (if c=0 then A else A.map (·.add (0*P.cellsOf e))) (0-0) (c-0)) h ?_ rfl ?_
    ·have:=Cx (w:=w) hu (us sz e bX cn) A 0 c (bV.map a.eval) (ah.map a.eval) 0 0 gQ h8 (Nat.le_refl _) (Nat.le_refl _) (Nat.zero_le _)
     simp only [execOp,ai,hval]
     simp only [Option.map_none,Sem.run_bind,this];rfl
    ·refine .jI sz _ _ fun a5=> ?_
     split at a5
     ·rename_i mf;omega
     ·have:=hA (by simpa using a5)
      omega
   ·have hlen:((es.drop l).take (n-l)).length=n-l:=by simp;omega
    refine ho (v:= .slice (if c=l then some ⟨dJ,off,none⟩ else (some (⟨dJ,off,none⟩:Addr)).map (·.add (l*P.cellsOf e))) (n-l) (c-l)) h ?_ rfl ?_
    ·have:=Cx (w:=w) hu (us sz e bX cn) (some ⟨dJ,off,none⟩) es.length c (bV.map a.eval) (ah.map a.eval) l n gQ h8 o R aN
     simp only [execOp,ai,hval]
     simp only [Option.map_none,Sem.run_bind,this];rfl
    ·by_cases hk:c=l
     ·have:n-l=0:=by omega
      rw [this]
      show Rel _ _ _ _ (.isl sz ((es.drop l).take 0)) _
      rw [List.take_zero]
      exact .jI sz _ _ (fun _=>by omega)
     ·rw [if_neg hk]
      simp only [Option.map_some,qq,← bX]
      have al:=(CF hN l (n-l) (by omega)).isl (c:=c-l) ⟨aV.1,fun e he=>aV.2 e (List.mem_of_mem_drop (List.mem_of_mem_take he))⟩ (by rw [hlen];omega)
      rw [hlen] at al
      exact al
  ·simp at au
 ·rename_i e r k RZ len hu gn
  rw [gn] at aa
  split at au
  ·simp at au
  ·rename_i row dh
   split at au
   ·simp at au
   ·rename_i ag R0 bf
    split at au
    ·rename_i l b3 n a6 aO a5
     simp only [Option.ite_none_right_eq_some,Option.some.injEq] at au
     obtain ⟨⟨bX,cn⟩,au⟩:=au
     subst au
     have iY:s.ag r k=some ag:=by
      unfold S.ag;rw [dh];exact rS bf fun p af=>cq p (by simp [af])
     have gQ:=xu h aO fun p af=>cq p (by simp [af])
     have h8:=xu h a5 fun p af=>cq p (by simp [af])
     have o:l≤n:=cq _ (by simp)
     have R:n≤len:=cq _ (by simp)
     have iK:=C2 iY
     rcases aa.tY (hv iY) with ⟨af,rfl,rfl,hval⟩|⟨b,m,A,c,af,hval,qG,sg,mg,hm⟩
     ·have J2:n=0:=by omega
      subst J2
      have mS:l=0:=by omega
      subst mS
      refine ho (v:= .slice none 0 0) h ?_ rfl (.m4 iK ((hv iY).trans (by rw [af])))
      have:=Cx (w:=w) hu (us _ e bX cn) none 0 0 (bV.map a.eval) (ah.map a.eval) 0 0 gQ h8 (Nat.le_refl _) (Nat.le_refl _) (Nat.le_refl _)
      simp only [execOp,ai,hval]
      simp only [Option.map_none,Sem.run_bind,this];rfl
     ·refine ho (v:= .slice (if c=l then A else A.map (·.add (l*P.cellsOf e))) (n-l) (c-l)) h ?_ rfl ?_
      ·have:=Cx (w:=w) hu (us _ e bX cn) A len c (bV.map a.eval) (ah.map a.eval) l n gQ h8 o R qG
       simp only [execOp,ai,hval]
       simp only [Option.map_none,Sem.run_bind,this];rfl
      ·refine Rel.bw iK ((hv iY).trans (by rw [af])) (by omega) (by omega) ?_
       refine ⟨by rw [← mg];congr 1;omega,?_⟩
       by_cases hk:c=l
       ·exact .inl (by omega)
       ·rcases hm with hm|hA
        ·exact .inl (by omega)
        ·refine .inr ?_
         rw [if_neg hk,hA]
         simp only [Option.map_some,qq,← bX,Nat.add_mul]
    ·simp at au
 ·rename_i b hu gn
  rw [gn] at aa
  split at au
  ·rename_i l b3 n a6 aO a5
   simp only [Option.some.injEq] at au
   subst au
   have gQ:=xu h aO fun p af=>cq p (by simp [af])
   have h8:=xu h a5 fun p af=>cq p (by simp [af])
   have o:l≤n:=cq _ (by simp)
   have R:n≤b.size:=cq _ (by simp)
   refine ho (v:= .string (b.extract l n)) h ?_ rfl (.s _)
   have aV : ∀(k:IntKind) (n y:Nat) (code:BoundsCode),n≤y→(Instr.sliceBound (.int k n) y code).run P w = .ok n w:=by
    intro k n y code a5
    simp [Instr.sliceBound,asIntOf,a5]
   simp only [execOp,ai,aa.xE,Option.map_none]
   rcases gQ with ⟨ax,rfl⟩|⟨ka,ax⟩<;>rcases h8 with ⟨aC,rfl⟩|⟨jq,aC⟩<;>rw [ax,aC] <;>
    simp [Instr.sliceAt,Instr.slice,run_underlying hu,Instr.sliceBounds,aV,o,R]
  ·simp at au
 ·simp at au
end
end Go.VL
namespace Go.VL
set_option linter.unusedVariables false
set_option linter.unusedSimpArgs false
open Go
section
variable {P:Program} {g:G} {s:S} {aw:e9} {a:Act} {w:World} {I:Oper} {cy:fi} {aS:Nat} {bp:g7}
theorem Ny {ok:Nat→Prop}{aY:iF}{a8:iu}{t:TypeId}{c:List ay}{off:Nat}{x:ay}{vs:List Value}(aO:vs.length=c.length)
 (ju : ∀(j:Nat) u,vs[j]? = some u→jE u=true) (al : ∀(j:Nat) x u,c[j]? = some x→vs[j]? = some u→Rel w ok aY a8 x u)
 (cr:pR P t c off=some x) : ∃v,(part t vs.toArray off).run P w = .ok v w∧Rel w ok aY a8 x v:=by
 unfold pR at cr
 split at cr
 ·simp at cr
 ·rename_i ah
  simp only [Bool.not_eq_true',Bool.not_eq_false,Bool.and_eq_true] at ah
  simp only [part,Sem.run_bind,NZ ah.1,Result.andThen]
  split at cr
  ·rename_i qB
   rw [qB]
   split at cr
   ·rename_i hle
    simp at cr;subst cr
    have e:(vs.toArray.extract off (off+P.cellsOf t))=((vs.drop off).take (P.cellsOf t)).toArray:=by
     apply Array.ext'
     simp [List.extract_eq_take_drop]
    refine ⟨.agg ((vs.drop off).take (P.cellsOf t)).toArray,by simp [rM ah.2],?_⟩
    refine .agg _ (by simp;omega) ?_ ?_
    ·intro j v a3
     rw [List.getElem?_take] at a3
     split at a3
     ·rw [List.getElem?_drop] at a3;exact ju _ _ a3
     ·simp at a3
    ·intro j y v aP a3
     rw [List.getElem?_take] at a3 aP
     split at a3
     ·rename_i aB
      rw [if_pos aB] at aP
      rw [List.getElem?_drop] at a3 aP;exact al _ _ _ aP a3
     ·simp at a3
   ·simp at cr
  ·rename_i qB
   have qB:zN P t=false:=by simpa using qB
   rw [qB]
   split at cr
   ·rename_i y aP
    split at cr
    ·simp at cr;subst cr
     have xO:off<vs.length:=by
      rcases Nat.lt_or_ge off c.length with h|h
      ·omega
      ·rw [List.getElem?_eq_none h] at aP;simp at aP
     exact ⟨vs[off],by simp [xO],al off y _ aP (List.getElem?_eq_getElem xO)⟩
    ·simp at cr
   ·simp at cr
theorem Xo {t:TypeId}{x:Operand}{f:Nat}(h:cE g s aw a w)(ai:I.op = .field t x f)(au:ez P s.E s.aK aS I cy=some bp):Fin P g s a w I bp:=by
 simp only [ez,ai] at au
 have aa:=h.eval x
 split at au
 ·rename_i j9 AE
  split at au
  ·rename_i fd c s8 gn
   rw [gn] at aa
   cases cr:pR P fd.type c fd.offset with
   | none=>simp [cr] at au
   | some v =>
    simp [cr] at au;subst au
    obtain ⟨vs,hval,aO,aN,al⟩:=aa.xj
    obtain ⟨u,o,R⟩:=Ny aO aN al cr
    refine ho (v:=u) h ?_ rfl R
    simp [execOp,ai,hval,Instr.field,run_underlying (H4 AE),s8,asAgg,o]
  ·simp at au
 ·simp at au
theorem N3 : ∀ {a b c:List ay},pk 0 a b=some c→c=a
 | [],[],c,h=>by simp [pk] at h;exact h
 | .n k x::a,.n dt y::b,c,h=>by
  unfold pk at h
  split at h
  ·cases hm:pk 0 a b with
   | none=>simp [hm] at h
   | some d=>simp [hm] at h;rw [← h,N3 hm]
  ·simp at h
 | [],_::_,_,h=>by simp [pk] at h
theorem Oy {j:Int}(aB:j≠0): ∀ {a b c:List ay},pk j a b=some c→c=b
 | [],[],c,h=>by simp [pk] at h;exact h
 | .n k x::a,.n dt y::b,c,h=>by
  unfold pk at h
  split at h
  ·rename_i aJ
   subst aJ
   cases hm:pk j a b with
   | none=>simp [hm] at h
   | some d=>simp [hm,aB] at h;rw [← h,Oy aB hm]
  ·simp at h
 | [],_::_,_,h=>by simp [pk] at h
theorem WB {t:TypeId}{x y:Operand}(h:cE g s aw a w)(ai:I.op = .index t x y)(au:I6 P t (eu s.E x) (eu s.E y)=some bp)(cq:∀p∈bp.e6,p):Fin P g s a w I bp:=by
 unfold I6 at au
 have aa:=h.eval x
 have aP:=h.eval y
 split at au
 ·rename_i e cs cm j hF sa Ah
  rw [sa] at aa;rw [Ah] at aP
  obtain ⟨hu,ah,-,-⟩:=IV hF
  split at au
  ·rename_i dx jo bE aV
   cases hm:pk j dx jo with
   | none=>simp [hm] at au
   | some c =>
    simp only [hm,Option.map_some,Option.some.injEq] at au;subst au
    have h0:0≤j:=cq _ (by simp)
    have o:j<2:=cq _ (by simp)
    obtain ⟨vs,hval,aO,aN,al⟩:=aa.xj
    have key:pR P e cs (j.toNat*P.cellsOf e)=some (.agg c):=by
     have:j=0∨j=1:=by omega
     rcases this with rfl|rfl
     ·rw [N3 hm];exact bE
     ·rw [Oy (by decide) hm];exact aV
    obtain ⟨u,ka,jq⟩:=Ny aO aN al key
    refine ho (v:=u) h ?_ rfl jq
    simp [execOp,ai,hval,aP.nG,Instr.index,asIntOf,run_underlying hu,h0,o,rM ah,ka]
  ·simp at au
 ·simp at au
theorem Xp {t:TypeId}{x y:Operand}(h:cE g s aw a w)(ai:I.op = .index t x y)(au:ez P s.E s.aK aS I cy=some bp)(cq:∀p∈bp.e6,p):Fin P g s a w I bp:=by
 simp only [ez,ai] at au
 have aa:=h.eval x
 have aP:=h.eval y
 split at au
 ·rename_i b k j hu sa Ah
  rw [sa] at aa;rw [Ah] at aP
  simp only [Option.some.injEq] at au;subst au
  have h0:0≤j:=cq _ (by simp)
  have o:j<b.size:=cq _ (by simp)
  have R:j.toNat<b.size:=by omega
  refine ho (v:= .int .u8 (b[j.toNat]).toNat) h ?_ rfl ?_
  ·simp [execOp,ai,aa.xE,aP.nG,Instr.index,asIntOf,run_underlying hu,h0,R]
  ·have e:b.data.toList.getD j.toNat 0=b[j.toNat]:=by
    rw [List.getD_eq_getElem?_getD,Array.getElem?_toList,Array.getElem?_eq_getElem (by simpa using R)];rfl
   show Rel _ _ _ _ (.n .u8 _) _
   rw [e];exact .n _ _
 ·exact WB h ai au cq
theorem WC (off:Nat): ∀(vs:List Value) (n:Nat) (cs:Array Value) (j:Nat),off+n+vs.length≤cs.size →
 ((vs.zipIdx n).foldl (fun cs (x:Value×Nat)=>cs.setIfInBounds (off+x.2) x.1) cs)[j]? = if off+n≤j∧j<off+n+vs.length then vs[j-(off+n)]? else cs[j]? := by
 intro vs
 induction vs with
 | nil=>intro n cs j h;simp;intro o R;omega
 | cons v vs ih =>
  intro n cs j h
  simp only [List.length_cons] at h
  simp only [List.zipIdx_cons,List.foldl_cons]
  rw [ih (n+1) _ j (by simp;omega)]
  simp only [List.length_cons,Array.getElem?_setIfInBounds]
  by_cases o:j=off+n
  ·subst o
   rw [if_neg (by omega),if_pos rfl,if_pos (by omega),if_pos (by omega)]
   simp
  ·by_cases R:off+(n+1)≤j∧j<off+(n+1)+vs.length
   ·rw [if_pos R,if_pos (by omega)]
    rw [show j-(off+n)=(j-(off+(n+1)))+1 by omega];rfl
   ·rw [if_neg R,if_neg (fun e=>o e.symm),if_neg (by omega)]
theorem U3 (off:Nat): ∀(vs:List (Value×Nat)) (cs:Array Value),(vs.foldl (fun cs (x:Value×Nat)=>cs.setIfInBounds (off+x.2) x.1) cs).size=cs.size:=by
 intro vs
 induction vs with
 | nil=>intro cs;rfl
 | cons v vs ih=>intro cs;simp only [List.foldl_cons];rw [ih];simp
def yu (w:World)(ok:Nat→Prop)(aY:iF)(a8:iu)(c:List ay)(cs:Array Value):Prop :=
 cs.size=c.length∧(∀(j:Nat) u,cs[j]? = some u→jE u=true)∧ ∀(j:Nat) x u,c[j]? = some x→cs[j]? = some u→Rel w ok aY a8 x u
theorem Xq {ok:Nat→Prop}{aY:iF}{a8:iu}{c:List ay}{cs:Array Value}(h:yu w ok aY a8 c cs){x:ay}{v:Value}{off:Nat}(aa:Rel w ok aY a8 x v)(aN:x.xb=true)
 (hK:off+x.cells.length≤c.length):v.cells.size=x.cells.length ∧
   yu w ok aY a8 (setCells c off x.cells) (v.cells.zipIdx.foldl (fun cs (y:Value×Nat)=>cs.setIfInBounds (off+y.2) y.1) cs):=by
 obtain ⟨vs,a3,aO,ju,al⟩:=aa.cellsOf (ay.Nd aN)
 have lj : ∀j,(v.cells.zipIdx.foldl (fun cs (y:Value×Nat)=>cs.setIfInBounds (off+y.2) y.1) cs)[j]? = if off≤j∧j<off+vs.length then vs[j-off]? else cs[j]? := by
  intro j
  rw [a3]
  have:=WC off vs 0 cs j (by rw [h.1];omega)
  simp only [Nat.add_zero] at this
  rw [← this,← Array.foldl_toList,Array.toList_zipIdx]
 refine ⟨by rw [a3];simpa using aO,?_,?_,?_⟩
 ·rw [MD hK,← h.1,← Array.foldl_toList,U3]
 ·intro j u hu
  rw [lj] at hu
  split at hu
  ·exact ju _ _ hu
  ·exact h.2.1 _ _ hu
 ·intro j y u aP hu
  rw [lj] at hu
  rw [H3 hK] at aP
  by_cases kk:off≤j∧j<off+x.cells.length
  ·rw [if_pos kk] at aP
   rw [if_pos (by rw [aO];exact kk)] at hu
   exact al _ _ _ aP hu
  ·rw [if_neg kk] at aP
   rw [if_neg (by rw [aO];exact kk)] at hu
   exact h.2.2 _ _ _ aP hu
theorem Ig {ok:Nat→Prop}{aY:iF}{a8:iu}(place:Nat→Option (Nat×Nat)): ∀(l:List (Nat×Nat×ay)) (iN:List (Nat×Value)) (c:List ay) (cs:Array Value) (dI:List ay),
 yu w ok aY a8 c cs→l.length=iN.length →
 (∀(j:Nat) off size x i v,l[j]? = some (off,size,x)→iN[j]? = some (i,v)→place i=some (off,size)∧Rel w ok aY a8 x v) →
 rh c l=some dI→ ∃kH,Instr.fill place cs iN=some kH∧yu w ok aY a8 dI kH:=by
 intro l
 induction l with
 | nil =>
  intro iN c cs dI h aO _ b5
  have:iN=[]:=List.length_eq_zero_iff.1 (by simpa using aO.symm)
  subst this
  simp [rh] at b5;subst b5
  exact ⟨cs,rfl,h⟩
 | cons q l ih =>
  intro iN c cs dI h aO af b5
  obtain ⟨off,size,x⟩:=q
  match iN,aO with
  | (i,v)::iN,aO =>
   obtain ⟨aa3,aa⟩:=af 0 off size x i v rfl rfl
   simp only [rh] at b5
   split at b5
   ·rename_i aN
    simp only [Bool.and_eq_true,decide_eq_true_eq] at aN
    obtain ⟨⟨o,R⟩,ab⟩:=aN
    obtain ⟨ax,aC⟩:=Xq h aa o (off:=off) (by omega)
    obtain ⟨kH,f1,f2⟩:=ih iN _ _ dI aC (by simpa using aO) (fun j off size x i v a b=>af (j+1) off size x i v a b) b5
    refine ⟨kH,?_,f2⟩
    rw [Instr.fill]
    simp only [aa3]
    have gM : ¬(decide (v.cells.size≠size) || decide (off+v.cells.size>cs.size))=true:=by simp;rw [ax,h.1];omega
    rw [if_neg gM]
    exact f1
   ·simp at b5
theorem mapM_some {α β:Type}(f:α→β)(p:α→Option β): ∀(l:List α),(∀x∈l,p x=some (f x))→l.mapM p=some (l.map f)
 | [],_=>rfl
 | x::l,h=>by
  rw [List.mapM_cons,h x (by simp),mapM_some f p l fun y aP=>h y (by simp [aP])];rfl
theorem O8 {α β:Type}(p:α→Option β): ∀(l:List α) (fU:List β),l.mapM p=some fU→fU.length=l.length∧ ∀(j:Nat) x y,l[j]? = some x→fU[j]? = some y→p x=some y
 | [],fU,h=>by simp at h;subst h;exact ⟨rfl,fun j x y aa=>by simp at aa⟩
 | a::l,fU,h=>by
  rw [List.mapM_cons] at h
  cases bE:p a with
  | none=>simp [bE] at h
  | some b =>
   cases aO:l.mapM p with
   | none=>simp [bE,aO] at h
   | some r =>
    simp [bE,aO] at h;subst h
    obtain ⟨o,R⟩:=O8 p l r aO
    refine ⟨by simp [o],fun j x y aa aP=> ?_⟩
    cases j with
    | zero=>simp at aa aP;subst aa;subst aP;exact bE
    | succ j=>simp at aa aP;exact R j x y aa aP
theorem IW {t:TypeId}{z:List ay}(cn:pH P t=some z): ∃i d8,P.info? t=some i∧i.zero=some d8∧d8.cells.size=z.length∧yu w (s.ok g aw w) s.aY (s.a8 aw) z d8.cells:=by
 obtain ⟨i,d8,ah,j3,rz,ju⟩:=zm cn
 have bX:d8.cells.size=z.length:=by rw [rz];simp
 refine ⟨i,d8,ah,j3,bX,bX,fun j u hu=> ?_,fun j x u aa hu=> ?_⟩
 ·have aB:j<z.length:=by
   have:=(Array.getElem?_eq_some_iff.1 hu).1;omega
  obtain ⟨v,ax,aC,-⟩:=ju j z[j] (List.getElem?_eq_getElem aB)
  rw [hu] at ax;simp at ax;subst ax;exact aC
 ·obtain ⟨v,ax,-,bZ⟩:=ju j x aa
  rw [hu] at ax;simp at ax;subst ax;exact bZ _ _ _ _
theorem VI {t:TypeId}{parts:Array (Nat×Operand)}(h:cE g s aw a w)(ai:I.op = .build t parts)(au:Iz P t (parts.toList.map fun p=>(p.1,eu s.E p.2))=some bp):Fin P g s a w I bp:=by
 unfold Iz at au
 split at au
 ·rename_i n e z hF cn
  obtain ⟨hu,ah,-,-⟩:=IV hF
  rw [List.map_map] at au
  cases b5:rh z (parts.toList.map ((fun p:Nat×ay=>(p.1*P.cellsOf e,P.cellsOf e,p.2))∘fun p=>(p.1,eu s.E p.2))) with
  | none=>rw [b5] at au;simp at au
  | some c =>
   rw [b5] at au
   simp only [Option.map_some,Option.some.injEq] at au;subst au
   obtain ⟨it,d8,uI,j3,eB,hcs⟩:=IW (w:=w) (s:=s) (g:=g) (aw:=aw) cn
   obtain ⟨Le,xX⟩:=Option.isSome_iff_exists.1 ah
   have ZK:P.cellsOf e=Le.size:=by simp [Program.cellsOf,xX]
   obtain ⟨kH,f1,f2⟩:=Ig (w:=w) (ok:=s.ok g aw w) (aY:=s.aY) (a8:=s.a8 aw) (fun i=>some (i*Le.size,Le.size)) _ (parts.map fun (i,x)=>(i,a.eval x)).toList z d8.cells c hcs (by simp) (by
    intro j off size x i v aB a3
    simp only [List.getElem?_map,Option.map_eq_some_iff,Function.comp,Prod.mk.injEq] at aB
    simp only [Array.toList_map,List.getElem?_map,Option.map_eq_some_iff] at a3
    obtain ⟨p,af,ax,aC,bZ⟩:=aB
    obtain ⟨⟨eI,cC⟩,lk,a3⟩:=a3
    simp only [Prod.mk.injEq] at a3
    obtain ⟨rfl,rfl⟩:=a3
    rw [af] at lk
    have:=Option.some.inj lk
    subst this
    refine ⟨by rw [← ax,← aC,ZK],?_⟩
    rw [← bZ];exact h.eval _) b5
   have aV:P.built t (parts.map fun (i,x)=>(i,a.eval x)).toList=some kH:=by
    unfold Program.built
    simp only [uI,hu,j3,xX]
    exact f1
   refine ho (v:= .agg kH) h ?_ rfl ?_
   ·have:=run_build w t _ kH aV
    simp [execOp,ai,this]
   ·have:=Rel.agg (w:=w) (ok:=s.ok g aw w) (aY:=s.aY) (a8:=s.a8 aw) (c:=c) kH.toList (by simpa using f2.1) (fun j u hu=>f2.2.1 j u (by simpa using hu)) (fun j x u aa hu=>f2.2.2 j x u aa (by simpa using hu))
    simpa using this
 ·simp at au
theorem Xr {t:TypeId}{parts:Array (Nat×Operand)}(h:cE g s aw a w)(ai:I.op = .build t parts)(au:ez P s.E s.aK aS I cy=some bp):Fin P g s a w I bp:=by
 simp only [ez,ai] at au
 split at au
 ·rename_i j9 z AE cn
  split at au
  ·simp at au
  ·rename_i nd
   have nd : ∀f∈j9.toList,(P.info? f.type).isSome=true:=by
    rw [Bool.not_eq_false] at nd
    exact List.all_eq_true.1 nd
   split at au
   ·rename_i l aO
    cases b5:rh z l with
    | none=>simp [b5] at au
    | some c =>
     simp [b5] at au;subst au
     obtain ⟨it,d8,uI,j3,eB,hcs⟩:=IW (w:=w) (s:=s) (g:=g) (aw:=aw) cn
     obtain ⟨mu,o2⟩:=O8 _ _ _ aO
     have aah:j9.toList.mapM (fun f=>(P.info? f.type).map fun i=>(f.offset,i.size))=some (j9.toList.map fun f=>(f.offset,P.cellsOf f.type)):=by
      refine mapM_some (fun f:Field=>(f.offset,P.cellsOf f.type)) _ _ fun f b5=> ?_
      have:=nd f b5
      cases ah:P.info? f.type with
      | none=>simp [ah] at this
      | some i=>simp [Program.cellsOf,ah]
     obtain ⟨kH,f1,f2⟩:=Ig (w:=w) (ok:=s.ok g aw w) (aY:=s.aY) (a8:=s.a8 aw) ((j9.toList.map fun f=>(f.offset,P.cellsOf f.type)).toArray[·]?) l (parts.map fun (i,x)=>(i,a.eval x)).toList z d8.cells c hcs (by simpa using mu) (by
      intro j off size x i v aB a3
      simp only [Array.toList_map,List.getElem?_map,Option.map_eq_some_iff] at a3
      obtain ⟨⟨eI,cC⟩,af,a3⟩:=a3
      simp only [Prod.mk.injEq] at a3
      obtain ⟨rfl,rfl⟩:=a3
      have:=o2 j _ _ af aB
      simp only [Option.map_eq_some_iff,Prod.mk.injEq] at this
      obtain ⟨fd,o,R,ab,aA⟩:=this
      subst R;subst ab;subst aA
      refine ⟨?_,h.eval cC⟩
      rw [List.getElem?_toArray,List.getElem?_map,Array.getElem?_toList,o];rfl) b5
     have aV:P.built t (parts.map fun (i,x)=>(i,a.eval x)).toList=some kH:=by
      unfold Program.built
      simp only [uI,H4 AE,j3,aah]
      exact f1
     refine ho (v:= .agg kH) h ?_ rfl ?_
     ·have:=run_build w t _ kH aV
      simp [execOp,ai,this]
     ·have:=Rel.agg (w:=w) (ok:=s.ok g aw w) (aY:=s.aY) (a8:=s.a8 aw) (c:=c) kH.toList (by simpa using f2.1) (fun j u hu=>f2.2.1 j u (by simpa using hu)) (fun j x u aa hu=>f2.2.2 j x u aa (by simpa using hu))
      simpa using this
   ·simp at au
 ·exact VI h ai au
theorem UB {sz:Nat}{es:List (List ay)}(aO:∀e∈es,e.length=sz){i:Nat}(ah:i<es.length){c:List ay}(aN:c.length=sz):
 setCells es.flatten (i*sz) c=(es.set i c).flatten:=by
 have hlen : ∀(es:List (List ay)),(∀e∈es,e.length=sz)→es.flatten.length=es.length*sz:=by
  intro es
  induction es with
  | nil=>simp
  | cons e es ih =>
   intro h
   rw [List.flatten_cons,List.length_append,ih fun x aa=>h x (by simp [aa]),h e (by simp),List.length_cons,Nat.add_mul];omega
 have hK:i*sz+c.length≤es.flatten.length:=by
  rw [hlen es aO,aN]
  have:=Nat.mul_le_mul_right sz (show i+1≤es.length by omega)
  rw [Nat.add_mul] at this;omega
 apply List.ext_getElem?
 intro j
 rw [H3 hK,Nf aO (List.getElem?_eq_getElem ah) aN,aN]
theorem Nz {sz:Nat}: ∀(l:List (Nat×ay)) (es fR:List (List ay)),(∀e∈es,e.length=sz)→xD sz es l=some fR →
 rh es.flatten (l.map fun p=>(p.1*sz,sz,p.2))=some fR.flatten∧(∀e∈fR,e.length=sz)∧fR.length=es.length
 | [],es,fR,aO,h=>by simp [xD] at h;subst h;exact ⟨rfl,aO,rfl⟩
 | (i,x)::l,es,fR,aO,h=>by
  simp only [xD] at h
  split at h
  ·rename_i aN
   simp only [Bool.and_eq_true,decide_eq_true_eq] at aN
   obtain ⟨⟨o,R⟩,ab⟩:=aN
   have J0 : ∀e∈es.set i x.cells,e.length=sz:=by
    intro e hm
    rcases List.mem_or_eq_of_mem_set hm with ch|ch
    ·exact aO e ch
    ·exact ch▸R
   obtain ⟨hG,iw,bs⟩:=Nz l (es.set i x.cells) fR J0 h
   have e:=UB aO ab R
   have hK:i*sz+sz≤es.flatten.length:=by
    have:(setCells es.flatten (i*sz) x.cells).length=(es.set i x.cells).flatten.length:=by rw [e]
    have bb : ∀(es:List (List ay)),(∀e∈es,e.length=sz)→es.flatten.length=es.length*sz:=by
     intro es
     induction es with
     | nil=>simp
     | cons e es ih =>
      intro h
      rw [List.flatten_cons,List.length_append,ih fun x aa=>h x (by simp [aa]),h e (by simp),List.length_cons,Nat.add_mul];omega
    rw [bb es aO]
    have:=Nat.mul_le_mul_right sz (show i+1≤es.length by omega)
    rw [Nat.add_mul] at this;omega
   refine ⟨?_,iw,by simpa using bs⟩
   simp only [List.map_cons,rh,o,R,hK,decide_true,Bool.and_self,if_true]
   rw [e];exact hG
  ·simp at h
theorem Vf {t:TypeId}{len:Nat}{parts:Array (Nat×Operand)}(h:cE g s aw a w)(eC:s.aK aS=none)(ai:I.op = .buildSlice t len parts)(au:ez P s.E s.aK aS I cy=some bp):Fin P g s a w I bp:=by
 simp only [ez,ai] at au
 split at au
 ·rename_i e he
  split at au
  ·rename_i z cn
   split at au
   ·simp at au
   ·rename_i aN
    simp only [not_or,Nat.not_lt,Decidable.not_not] at aN
    obtain ⟨mh,xY,xZ⟩:=aN
    split at au
    ·rename_i es gU
     simp only [Option.some.injEq] at au;subst au
     obtain ⟨it,d8,uI,j3,eB,hcs⟩:=IW (w:=w) (s:=s) (g:=g) (aw:=aw) cn
     have ju:P.cellsOf e=it.size:=by simp [Program.cellsOf,uI]
     have QE : ∀x∈List.replicate len z,x.length=z.length:=fun x aa=>by rw [List.eq_of_mem_replicate aa]
     obtain ⟨f1,f2,f3⟩:=Nz _ _ _ QE gU
     have qH:yu w (s.ok g aw w) s.aY (s.a8 aw) (List.replicate len z).flatten ((Array.range (len*it.size)).map (d8.cells[· % d8.cells.size]!)):=by
      have D5:0<z.length:=by omega
      have lj : ∀j,j<len*it.size→((Array.range (len*it.size)).map (d8.cells[· % d8.cells.size]!))[j]? = d8.cells[j % z.length]? := by
       intro j aB
       rw [Array.getElem?_map,Array.getElem?_range]
       simp only [aB,if_true,Option.map_some]
       have hm:j % d8.cells.size<d8.cells.size:=Nat.mod_lt _ (by omega)
       rw [getElem!_pos d8.cells _ hm,← eB,Array.getElem?_eq_getElem hm]
      have du : ∀(j:Nat) u,((Array.range (len*it.size)).map (d8.cells[· % d8.cells.size]!))[j]? = some u→j<len*it.size:=by
       intro j u hu
       have:=(Array.getElem?_eq_some_iff.1 hu).1
       simpa using this
      refine ⟨by simp [← ju,← xY],fun j u hu=> ?_,fun j x u aa hu=> ?_⟩
      ·have aB:=du j u hu
       rw [lj j aB] at hu
       exact hcs.2.1 _ _ hu
      ·have aB:=du j u hu
       rw [lj j aB] at hu
       rw [oJ D5 _ QE,List.getElem?_replicate] at aa
       split at aa
       ·exact hcs.2.2 _ _ _ aa hu
       ·simp at aa
     obtain ⟨kH,g1,g2⟩:=Ig (w:=w) (ok:=s.ok g aw w) (aY:=s.aY) (a8:=s.a8 aw) (fun i=>some (i*it.size,it.size)) ((parts.toList.map fun p=>(p.1,eu s.E p.2)).map fun p=>(p.1*z.length,z.length,p.2)) (parts.map fun (i,x)=>(i,a.eval x)).toList _ _ es.flatten qH (by simp) (by
      intro j off size x i v aB a3
      simp only [Array.toList_map,List.getElem?_map,Option.map_eq_some_iff,List.map_map] at a3 aB
      obtain ⟨⟨eI,cC⟩,af,a3⟩:=a3
      obtain ⟨⟨mX,e1⟩,xU,aB⟩:=aB
      rw [af] at xU
      simp only [Option.some.injEq,Prod.mk.injEq] at xU a3
      obtain ⟨rfl,rfl⟩:=xU
      obtain ⟨rfl,rfl⟩:=a3
      simp only [Function.comp,Prod.mk.injEq] at aB
      obtain ⟨rfl,rfl,rfl⟩:=aB
      exact ⟨by rw [← ju,← xY],h.eval cC⟩) f1
     have ik:(Instr.buildSlice t len (parts.map fun (i,x)=>(i,a.eval x))).run P w = .ok (.slice (some ⟨w.heap.size,0,none⟩) len len) (w.alloc (.cells kH e)):=by
      have o : ¬len*it.size>2 ^ 24:=by rw [← ju,← xY];omega
      by_cases h0:len*it.size=0
      ·have mS:len=0:=by
        rcases Nat.eq_zero_or_pos len with ch|ch
        ·exact ch
        ·have:0<len*it.size:=Nat.mul_pos ch (by omega)
         omega
       subst mS
       have e0:((Array.range (0*it.size)).map (d8.cells[· % d8.cells.size]!)) = #[]:=by simp
       rw [e0] at g1
       have af:parts = #[]:=by
        obtain ⟨l⟩:=parts
        match l,gU with
        | [],_=>rfl
        | p::l,gU=>simp [xD] at gU
       subst af
       have aai:kH = #[]:=by simpa [Instr.fill] using g1.symm
       subst aai
       simp [Instr.buildSlice,run_underlying (ra he),sizeOf,typeInfo,uI,newRow,Instr.fill]
       rw [Array.range_zero',Array.map_empty]
      ·simp only [Instr.buildSlice,run_underlying (ra he),sizeOf,typeInfo,uI,newRow,zeroValue,j3,Sem.run_bind,Result.andThen_ok,run_program,Sem.run_pure,Sem.run_ite,o,h0,if_false]
       rw [g1];rfl
     refine Df (v:= .slice (some ⟨w.heap.size,0,none⟩) len len) (ag:=⟨z.length,es,.live⟩) (c:=kH) (eh:=e) h eC rfl ?_ rfl f2 ?_ ?_
     ·simp [execOp,ai,ik]
     ·intro j x aa
      have aB:j<kH.size:=by
       rw [g2.1]
       rcases Nat.lt_or_ge j es.flatten.length with ch|ch
       ·exact ch
       ·rw [List.getElem?_eq_none ch] at aa;simp at aa
      have hu:kH[j]? = some kH[j]:=Array.getElem?_eq_getElem aB
      exact ⟨_,hu,g2.2.1 _ _ hu,g2.2.2 _ _ _ aa hu⟩
     ·intro bD ki mb lE hu cr
      refine Rel.bw hu cr (Nat.le_refl _) ?_ ⟨?_,.inr (by simp)⟩
      ·have:len≤len*z.length:=Nat.le_mul_of_pos_right _ (by omega)
       omega
      ·rw [g2.1]
       have bb : ∀(es:List (List ay)),(∀e∈es,e.length=z.length)→es.flatten.length=es.length*z.length:=by
        intro es
        induction es with
        | nil=>simp
        | cons e es ih =>
         intro h
         rw [List.flatten_cons,List.length_append,ih fun x aa=>h x (by simp [aa]),h e (by simp),List.length_cons,Nat.add_mul];omega
       rw [bb es f2,f3];simp
    ·simp at au
  ·simp at au
 ·simp at au
theorem CT (h:cE g s aw a w)(eC:s.aK aS=none)(au:ez P s.E s.aK aS I cy=some bp)(cq:∀p∈bp.e6,p):Fin P g s a w I bp:=by
 cases ai:I.op with
 | move x=>exact O7 h (.inl ai) au
 | assign x=>exact O7 h (.inr ai) au
 | pick c x y=>exact Yk h ai au cq
 | alloc t=>exact Xi h eC ai au
 | box t x=>exact YV h eC ai au
 | load t x=>exact Yl h ai au cq
 | store t x y=>exact Xj h ai au cq
 | nilCheck x=>exact VG h ai au cq
 | binOp op t x y dm=>exact Xk h ai au cq
 | unOp op t x=>exact Ym h ai au
 | convert t dm x=>exact V3 h ai au
 | makeFunc f Bn cb=>exact VH h ai au
 | makeSlice t x y=>exact Vp h eC ai au cq
 | fieldAddr t x f=>exact Vq h ai au cq
 | field t x f=>exact Xo h ai au
 | indexAddr t x y=>exact Vr h ai au cq
 | index t x y=>exact Xp h ai au cq
 | extract x i=>exact V4 h ai au
 | slice t x bV ah Lf =>
  cases Lf with
  | none=>exact Xn h ai au cq
  | some m=>simp [ez,ai] at au
 | build t iN=>exact Xr h ai au
 | buildSlice t n iN=>exact Vf h eC ai au
 | call c =>
  obtain ⟨D6,args,me⟩:=c
  cases D6 with
  | builtin b=>cases b<;>first|exact YW h ai rfl au cq|simp [ez,ai] at au
  | value f=>simp [ez,ai] at au
  | invoke r m=>simp [ez,ai] at au
 | _=>simp [ez,ai] at au
end
end Go.VL
namespace Go.VL
set_option linter.unusedVariables false
set_option linter.unusedSimpArgs false
open Go
def YX:Option aq→fi
 | some I=> .gT I []
 | none=> .none
def qv (sz:Nat)(aK:Nat→Option (List aq))(a:fi):ay→Option (List (List ay)×List Prop)
 | .isl D7 es=>if D7=sz then some (es,[]) else none
 | .bw r k bV len=>match nK (aK r) k a with
  | some (ag,b3)=>if ag.sz=sz then some ((ag.es.drop bV).take len,b3++[bV+len≤ag.es.length]) else none
  | none=>none
 | .d7=>some ([],[])
 | .h2=>some ([],[])
 | _=>none
def um (P:Program)(sz:Nat)(z:List ay)(aK:Nat→Option (List aq))(a:fi)(t dm:TypeId)(y:ay):Option (List (List ay)×List Prop) :=
 if t=dm then qv sz aK a y else
 match P.underlying dm,y with
 | some (.int _),.n .i64 n=>some (List.replicate n.toNat z,[0≤n,n<9223372036854775808])
 | _,_=>none
def nj (P:Program)(E:Nat→ay)(aK:Nat→Option (List aq))(aS:Nat)(b:Builtin)(args:List ay)(me:List TypeId)(cy:fi):Option g7 :=
 match b,args,me,cy with
 | .append,[x,y],[t,dm],.aZ m I =>
  match pg P t with
  | none=>none
  | some e=>match P.info? e,pH P e with
   | some i,some z =>
    if z.length≠i.size∨i.size=0∨i.bytes=0 then none else
    match um P i.size z aK (YX I) t dm y with
    | none=>none
    | some (bu,b3)=>match x with
     | .d7=>some {val:= .bw aS 0 0 m,fr:=[(aS,[⟨i.size,bu,.live⟩])],e6:=b3++[m=bu.length,m*i.bytes≤140737488355328]}
     | .bw r k 0 len=>match aK r with
      | none=>none
      | some row=>match c7 (some row) k with
       | none=>none
       | some ag=>if ag.cm = .live∧ag.sz=i.size∧aS≠r then
        some {val:= .bw aS 0 0 m,fr:=[(aS,[⟨i.size,ag.es.take len++bu,.live⟩]),(r,row.set k {ag with cm:= .gone})],e6:=b3++[len≤ag.es.length,m=len+bu.length,m*i.bytes≤140737488355328]} else none
     | _=>none
   | _,_=>none
 | .append,[x,y],[t,dm],.cT =>
  match pg P t with
  | none=>none
  | some e=>match P.info? e,pH P e with
   | some i,some z =>
    if z.length≠i.size∨i.size=0∨i.bytes=0 then none else
    match um P i.size z aK .none t dm y with
    | none=>none
    | some (bu,b3)=>match x with
     | .bw r k 0 len=>match aK r with
      | none=>none
      | some row=>match c7 (some row) k with
       | none=>none
       | some ag=>if ag.cm = .live∧ag.sz=i.size then
        some {val:= .bw r k 0 (len+bu.length),fr:=[(r,row.set k {ag with es:=ag.es.take len++bu})],e6:=b3++[len+bu.length≤ag.es.length,bu.length*i.bytes≤140737488355328]} else none
     | _=>none
   | _,_=>none
 | .copy,[.bw r k 0 len,y],[t,_],_ =>
  match pg P t with
  | none=>none
  | some e=>match P.info? e with
   | none=>none
   | some i=>match qv i.size aK .none y with
    | none=>none
    | some (bu,b3)=>match aK r with
     | none=>none
     | some row=>match c7 (some row) k with
      | none=>none
      | some ag=>if ag.cm = .live∧ag.sz=i.size∧i.size≠0 then
       some {val:= .n .i64 bu.length,fr:=[(r,row.set k {ag with es:=bu++ag.es.drop bu.length})],e6:=b3++[bu.length≤len,len≤ag.es.length]} else none
 | .clear,[.bw r k 0 len],[t],_ =>
  match pg P t with
  | none=>none
  | some e=>match P.info? e,pH P e with
   | some i,some z=>match aK r with
    | none=>none
    | some row=>match c7 (some row) k with
     | none=>none
     | some ag=>if ag.cm = .live∧ag.sz=i.size∧z.length=i.size∧i.size≠0 then
      some {val:= .cW [],fr:=[(r,row.set k {ag with es:=List.replicate len z})],e6:=[ag.es.length=len]} else none
   | _,_=>none
 | .min,[.n k x,.n dt y],_,_=>if k=dt then some {val:= .n k (if y<x then y else x)} else none
 | _,_,_,_=>none
section
variable {g:G} {s:S} {aw:e9} {a:Act} {w bD:World}
theorem cE.gone (h:cE g s aw a w){r k:Nat}{l:List aq}{I:aq}(al:s.aK r=some l)(ai:s.ag r k=some I):
 cE g (s.setRow r (l.set k {I with cm:= .gone})) aw a w ∧
  ∀x v,Rel w (s.ok g aw w) s.aY (s.a8 aw) x v→Rel w ((s.setRow r (l.set k {I with cm:= .gone})).ok g aw w) (s.setRow r (l.set k {I with cm:= .gone})).aY ((s.setRow r (l.set k {I with cm:= .gone})).a8 aw) x v:=by
 have bf : ∀q j p,(s.setRow r (l.set k {I with cm:= .gone})).ag q j=some p→s.ag q j=some p∧ ¬(q=r∧j=k):=by
  intro q j p af
  rw [kT] at af
  by_cases e:q=r
  ·subst e
   rw [if_pos rfl] at af
   unfold c7 at af
   simp only [List.getElem?_set] at af
   by_cases aC:k=j
   ·subst aC
    by_cases aJ:k<l.length
    ·simp [aJ] at af
    ·simp [aJ] at af
   ·rw [if_neg aC] at af
    refine ⟨?_,fun fv=>aC fv.2.symm⟩
    unfold S.ag;rw [al];exact af
  ·rw [if_neg e] at af
   exact ⟨af,fun fv=>e fv.1⟩
 have cS:Step g s aw w (s.setRow r (l.set k {I with cm:= .gone})) aw w:=by
  refine ⟨CE s al (by simp),fun q j bb=> ?_,fun b aO=> ?_,fun _ _ _=>rfl,Nat.le_refl _⟩
  ·cases af:(s.setRow r (l.set k {I with cm:= .gone})).ag q j with
   | none=>right;simp [S.a8,af]
   | some p=>left;simp [S.a8,af,(bf q j p af).1]
  ·obtain ⟨q,j,p,m,o,R,ab⟩:=aO
   exact .inl ⟨q,j,p,m,(bf q j p o).1,R,ab⟩
 refine ⟨{tohy:=⟨?_,?_,?_,h.gD,h.mlt,h.mO,cS.stay h.stay,h.low⟩,env:=fun t=>cS.rel (h.env t),defers:=h.defers,i4:=h.i4},fun x v=>cS.rel⟩
 ·intro q j p af
  exact cS.obj (fun b m _=>rfl) (h.obj q j p (bf q j p af).1)
 ·intro q j p g8 hl jM b m a1 o R ab aA
  exact h.inj q j p g8 hl jM b m a1 (bf q j p o).1 (bf g8 hl jM R).1 ab aA
 ·intro q j p b m o R
  exact h.own q j p b m (bf q j p o).1 R
theorem cE.O9 (h:cE g s aw a w){aS sz:Nat}(eC:s.aK aS=none):
 ∃bG,bG aS 0=none∧cE g (s.setRow aS [⟨sz,[],.live⟩]) bG a w:=by
 have bf : ∀q k,q≠aS→(s.setRow aS [⟨sz,[],.live⟩]).ag q k=s.ag q k:=fun q k bb=>by rw [kT,if_neg bb]
 let bG:e9:=fun q k=>if q=aS then none else aw q k
 have cH : ∀q k,s.aY q k→q≠aS:=by
  rintro q k bb rfl;exact wI eC k bb
 have JA : ∀k I,(s.setRow aS [⟨sz,[],.live⟩]).ag aS k=some I→I=⟨sz,[],.live⟩:=by
  intro k I ai
  rw [kT,if_pos rfl,ly] at ai
  split at ai
  ·simp at ai;exact ai.symm
  ·simp at ai
 have cS:Step g s aw w (s.setRow aS [⟨sz,[],.live⟩]) bG w:=by
  refine ⟨fun q k bb=>(mF _ _ _ _ _).2 (by rw [if_neg (cH q k bb)];exact bb),fun q k bb=> .inl ?_,fun b aO=> ?_,fun _ _ _=>rfl,Nat.le_refl _⟩
  ·simp [S.a8,bf q k (cH q k bb),bG,cH q k bb]
  ·obtain ⟨q,k,I,m,o,R,ab⟩:=aO
   by_cases e:q=aS
   ·subst e;simp [bG] at ab
   ·rw [bf q k e] at o
    simp only [bG,if_neg e] at ab
    exact .inl ⟨q,k,I,m,o,R,ab⟩
 refine ⟨bG,by simp [bG],{tohy:=⟨?_,?_,?_,h.gD,h.mlt,h.mO,cS.stay h.stay,h.low⟩,env:=fun t=>cS.rel (h.env t),defers:=h.defers,i4:=h.i4}⟩
 ·intro q k I ai
  by_cases e:q=aS
  ·subst e
   rw [JA k I ai]
   simp [bG,iB]
  ·rw [bf q k e] at ai
   have:=cS.obj (fun b m _=>rfl) (h.obj q k I ai)
   simpa [bG,e] using this
 ·intro q k I g8 dt bY b m a1 o R ab aA
  have e:q≠aS:=by rintro rfl;simp [bG] at ab
  have ec:g8≠aS:=by rintro rfl;simp [bG] at aA
  rw [bf q k e] at o
  rw [bf g8 dt ec] at R
  simp only [bG,if_neg e] at ab
  simp only [bG,if_neg ec] at aA
  exact h.inj q k I g8 dt bY b m a1 o R ab aA
 ·intro q k I b m o R
  have e:q≠aS:=by rintro rfl;simp [bG] at R
  rw [bf q k e] at o
  simp only [bG,if_neg e] at R
  exact h.own q k I b m o R
theorem cE.turn (h:cE g s aw a w){r k b m aS:Nat}{l:List aq}{I:aq}(al:s.aK r=some l)(ai:s.ag r k=some I)(aJ:I.cm = .live)(af:aw r k=some (b,m))
 (eC:s.aK aS=none) (bY:aq) (mi:bY.cm = .live) (c:Array Value) (eh:TypeId)
 (hw:bD.heap[b]? = some (.cells c eh (0,0))) (eB:bD.heap.size=w.heap.size) (ul : ∀q,q≠b→bD.heap[q]? = w.heap[q]?)
 (p1:bD.os=w.os) (JY:bD.tape=w.tape) (Jy:bD.output=w.output) (hm:c.size=m) (hlen : ∀e∈bY.es,e.length=bY.sz)
 (aN : ∀(j:Nat) x,bY.es.flatten[j]? = some x→ ∃v,c[j]? = some v∧jE v=true∧Rel w (s.ok g aw w) s.aY (s.a8 aw) x v) :
 ∃bG,bG aS 0=some (b,m)∧cE g ((s.setRow aS [bY]).setRow r (l.set k {I with cm:= .gone})) bG a bD:=by
 have cH:r≠aS:=by rintro rfl;rw [eC] at al;simp at al
 have QF : ∀k,¬s.aY aS k:=wI eC
 let bI:=(s.setRow aS [bY]).setRow r (l.set k {I with cm:= .gone})
 let bG:e9:=aw.set aS 0 (some (b,m))
 have bf : ∀q j p,bI.ag q j=some p→(q=aS∧j=0∧p=bY)∨(q≠aS∧s.ag q j=some p∧ ¬(q=r∧j=k)):=by
  intro q j p bb
  rw [kT] at bb
  by_cases e:q=r
  ·subst e
   rw [if_pos rfl] at bb
   unfold c7 at bb
   simp only [List.getElem?_set] at bb
   by_cases aC:k=j
   ·subst aC
    by_cases aJ:k<l.length<;>simp [aJ] at bb
   ·rw [if_neg aC] at bb
    refine .inr ⟨cH,?_,fun fv=>aC fv.2.symm⟩
    unfold S.ag;rw [al];exact bb
  ·rw [if_neg e,kT] at bb
   by_cases aC:q=aS
   ·subst aC
    rw [if_pos rfl,ly] at bb
    split at bb
    ·rename_i h0;simp at bb;exact .inl ⟨rfl,h0.1,bb.symm⟩
    ·simp at bb
   ·rw [if_neg aC] at bb
    exact .inr ⟨aC,bb,fun fv=>e fv.1⟩
 have k5 : ∀q j,q≠aS→bG q j=aw q j:=fun q j bb=>by simp [bG,e9.set,bb]
 have x1:bG aS 0=some (b,m):=by simp [bG,e9.set]
 have pf:s.lb aw b:=⟨r,k,I,m,ai,aJ,af⟩
 have iK : ∀q j,s.aY q j→bI.aY q j:=fun q j bb=>by
  have e:q≠aS:=fun e=>QF j (e▸bb)
  rw [mF,mF,if_neg e]
  by_cases aC:q=r
  ·subst aC;rw [if_pos rfl];simpa [S.aY,al] using bb
  ·rw [if_neg aC];exact bb
 have cS:Step g s aw w bI bG bD:=by
  refine ⟨iK,fun q j bb=> ?_,fun q aO=> ?_,fun q bb aO=>ul q fun e=>aO (e▸pf),Nat.le_of_eq eB.symm⟩
  ·have mQ:q≠aS:=fun e=>QF j (e▸bb)
   cases jS:bI.ag q j with
   | none=>right;simp [S.a8,jS]
   | some p =>
    left
    rcases bf q j p jS with ⟨e,-⟩|⟨-,aC,-⟩
    ·exact absurd e mQ
    ·simp [S.a8,jS,aC,k5 q j mQ]
  ·obtain ⟨g8,j,p,a1,o,R,ab⟩:=aO
   rcases bf g8 j p o with ⟨rfl,rfl,rfl⟩|⟨ax,aC,-⟩
   ·rw [x1] at ab;simp at ab;exact .inl (ab.1▸pf)
   ·rw [k5 g8 j ax] at ab;exact .inl ⟨g8,j,p,a1,aC,R,ab⟩
 refine ⟨bG,x1,{tohy:=⟨?_,?_,?_,?_,h.mlt,h.mO,cS.stay h.stay,h.low⟩,env:=fun t=>cS.rel (h.env t),defers:=h.defers,i4:=h.i4}⟩
 ·intro q j p jS
  rcases bf q j p jS with ⟨rfl,rfl,rfl⟩|⟨ax,aC,bZ⟩
  ·rw [x1]
   exact ⟨c,eh,hw,hm,hlen,fun i x aa=>let ⟨v,f1,f2,f3⟩:=aN i x aa;⟨v,f1,f2,cS.rel f3⟩⟩
  ·rw [k5 q j ax]
   refine cS.obj (fun jo a1 kj=>ul jo ?_) (h.obj q j p aC)
   rintro rfl
   exact bZ (h.inj q j p r k I jo a1 m aC ai kj af)
 ·intro q j p g8 hl jM jo hn fS o R ab aA
  rcases bf q j p o with ⟨rfl,rfl,rfl⟩|⟨ax,aC,bZ⟩<;>rcases bf g8 hl jM R with ⟨rfl,rfl,rfl⟩|⟨mj,oR,AG⟩
  ·exact ⟨rfl,rfl⟩
  ·rw [x1] at ab;simp at ab
   rw [k5 g8 hl mj] at aA
   obtain ⟨rfl,rfl⟩:=ab
   exact absurd (h.inj g8 hl jM r k I b fS m oR ai aA af) AG
  ·rw [x1] at aA;simp at aA
   rw [k5 q j ax] at ab
   obtain ⟨rfl,rfl⟩:=aA
   exact absurd (h.inj q j p r k I b hn m aC ai ab af) bZ
  ·rw [k5 q j ax] at ab;rw [k5 g8 hl mj] at aA
   exact h.inj q j p g8 hl jM jo hn fS aC oR ab aA
 ·intro q j p jo a1 o R
  rcases bf q j p o with ⟨rfl,rfl,rfl⟩|⟨ax,aC,-⟩
  ·rw [x1] at R;simp at R
   rw [← R.1]
   exact h.own r k I b m ai af
  ·rw [k5 q j ax] at R;exact h.own q j p jo a1 aC R
 ·refine h.gD.step p1 JY Jy (Nat.le_of_eq eB.symm) fun jo p2 kj=>ul jo ?_
  rintro rfl
  rcases h.own r k I jo m ai af with o|o
  ·omega
  ·exact kj o
theorem nX.nf {ok:Nat→Prop}{aY:iF}{a8:iu}{dJ I sz:Nat}{es:List (List ay)}(h:nX w ok aY a8 dJ I sz es):
 ∃vs:List Value,vs.length=es.length*sz∧(∀(j:Nat) u,vs[j]? = some u→w.cell? ((⟨dJ,I,none⟩:Addr).add j)=some u)∧(∀u∈vs,u.oneCell'=true) ∧
  ∀(j:Nat) x u,es.flatten[j]? = some x→vs[j]? = some u→Rel w ok aY a8 x u:=by
 have i5:es.flatten.length=es.length*sz:=by
  have : ∀(es:List (List ay)),(∀e∈es,e.length=sz)→es.flatten.length=es.length*sz:=by
   intro es
   induction es with
   | nil=>intro _;simp
   | cons e es ih =>
    intro fv
    rw [List.flatten_cons,List.length_append,ih fun x aa=>fv x (by simp [aa]),fv e (by simp),List.length_cons,Nat.add_mul];omega
  exact this es h.1
 have aa : ∀i,i<es.length*sz→ ∃v,∀x,es.flatten[i]? = some x→w.cell? ⟨dJ,I+i,none⟩=some v∧jE v=true∧Rel w ok aY a8 x v:=by
  intro i ah
  have aB:=List.getElem?_eq_getElem (l:=es.flatten) (i:=i) (by omega)
  obtain ⟨v,o⟩:=h.2 i _ aB
  exact ⟨v,fun x aa=>by rw [aB] at aa;simp at aa;subst aa;exact o⟩
 let vs:List Value:=(List.range (es.length*sz)).map fun i=>if ah:i<es.length*sz then (aa i ah).choose else undef
 have pq:vs.length=es.length*sz:=by simp [vs]
 have lj : ∀(i:Nat) u x,vs[i]? = some u→es.flatten[i]? = some x→w.cell? ⟨dJ,I+i,none⟩=some u∧jE u=true∧Rel w ok aY a8 x u:=by
  intro i u x hu AH
  have ah:i<es.length*sz:=by
   rcases Nat.lt_or_ge i vs.length with ch|ch
   ·omega
   ·rw [List.getElem?_eq_none ch] at hu;simp at hu
  simp only [vs,List.getElem?_map,List.getElem?_range ah,Option.map_some,dif_pos ah,Option.some.injEq] at hu
  subst hu
  exact (aa i ah).choose_spec x AH
 have hex : ∀(i:Nat) u,vs[i]? = some u→ ∃x,es.flatten[i]? = some x:=by
  intro i u hu
  have ah:i<es.flatten.length:=by
   rcases Nat.lt_or_ge i vs.length with ch|ch
   ·omega
   ·rw [List.getElem?_eq_none ch] at hu;simp at hu
  exact ⟨_,List.getElem?_eq_getElem ah⟩
 refine ⟨vs,pq,fun j u hu=> ?_,fun u hu=> ?_,fun j x u dr hu=>(lj j u x hu dr).2.2⟩
 ·obtain ⟨x,AH⟩:=hex j u hu
  rw [qq];exact (lj j u x hu AH).1
 ·obtain ⟨j,aB⟩:=List.getElem?_of_mem hu
  obtain ⟨x,AH⟩:=hex j u aB
  exact (lj j u x aB AH).2.1
theorem U4 {es bu:List (List ay)}{sz:Nat}{xs news:List Value}(aa:xs.length=es.length*sz)(he:∀e∈es,e.length=sz){j:Nat}{x:ay}(h:(es++bu).flatten[j]? = some x)
 {ok:Nat→Prop} {aY:iF} {a8:iu} (o : ∀(j:Nat) x u,es.flatten[j]? = some x→xs[j]? = some u→Rel w ok aY a8 x u) (R : ∀(j:Nat) x u,bu.flatten[j]? = some x→news[j]? = some u→Rel w ok aY a8 x u)
 {u:Value} (hu:(xs++news)[j]? = some u):Rel w ok aY a8 x u:=by
 have i5:es.flatten.length=es.length*sz:=by
  have : ∀(es:List (List ay)),(∀e∈es,e.length=sz)→es.flatten.length=es.length*sz:=by
   intro es
   induction es with
   | nil=>intro _;simp
   | cons e es ih =>
    intro fv
    rw [List.flatten_cons,List.length_append,ih fun x aa=>fv x (by simp [aa]),fv e (by simp),List.length_cons,Nat.add_mul];omega
  exact this es he
 rw [List.flatten_append,List.getElem?_append] at h
 rw [List.getElem?_append] at hu
 by_cases aB:j<es.flatten.length
 ·rw [if_pos aB] at h
  rw [if_pos (by omega)] at hu
  exact o j x u h hu
 ·rw [if_neg aB] at h
  rw [if_neg (by omega)] at hu
  rw [i5] at h
  rw [aa] at hu
  exact R _ x u h hu
variable {P:Program}
theorem Oz (h:cE g s aw a w){sz:Nat}{x:ay}{ff:fi}{bu:List (List ay)}{ag:List Prop}(he:qv sz s.aK ff x=some (bu,ag))(bf:∀p∈ag,p){v:Value}(a3:Rel w (s.ok g aw w) s.aY (s.a8 aw) x v):
 ∃A c,v = .slice A bu.length c∧(∀e∈bu,e.length=sz)∧(bu.length=0∨ ∃dJ off,A=some ⟨dJ,off,none⟩∧nX w (s.ok g aw w) s.aY (s.a8 aw) dJ off sz bu):=by
 cases x with
 | isl D7 es =>
  simp only [qv] at he
  split at he
  ·rename_i bX
   subst bX
   simp only [Option.some.injEq,Prod.mk.injEq] at he
   obtain ⟨rfl,rfl⟩:=he
   rcases a3.rR with ⟨rfl,A,c,rfl,-⟩|⟨dJ,off,c,-,rfl,-,hN⟩
   ·exact ⟨A,c,rfl,by simp,.inl rfl⟩
   ·exact ⟨_,c,rfl,hN.1,.inr ⟨dJ,off,rfl,hN⟩⟩
  ·simp at he
 | bw r k bV len =>
  simp only [qv] at he
  split at he
  ·rename_i mT b3 iY
   split at he
   ·rename_i bX
    simp only [Option.some.injEq,Prod.mk.injEq] at he
    obtain ⟨rfl,rfl⟩:=he
    have hK:bV+len≤mT.es.length:=bf _ (by simp)
    have ai:s.ag r k=some mT:=rS iY (fun p af=>bf p (by simp [af]))
    have e3:=h.obj r k mT ai
    have aO:((mT.es.drop bV).take len).length=len:=by simp;omega
    rcases a3.zG (hv ai) with ⟨-,rfl,rfl,rfl⟩|⟨b,m,A,c,af,rfl,qG,-,hm⟩
    ·exact ⟨none,0,by simp,by simp,.inl (by simp)⟩
    ·rw [af] at e3
     have hN:=e3.rd
     subst bX
     have uy:=CF hN bV len (by omega)
     refine ⟨A,c,by rw [aO],uy.1,?_⟩
     rcases hm with rfl|⟨rfl,-⟩
     ·left;rw [aO];omega
     ·right
      rw [Nat.zero_add] at uy
      exact ⟨b,_,rfl,uy⟩
   ·simp at he
  ·simp at he
 | d7 =>
  simp only [qv,Option.some.injEq,Prod.mk.injEq] at he
  obtain ⟨rfl,rfl⟩:=he
  rw [a3.pb]
  exact ⟨none,0,rfl,by simp,.inl rfl⟩
 | h2 =>
  simp only [qv,Option.some.injEq,Prod.mk.injEq] at he
  obtain ⟨rfl,rfl⟩:=he
  obtain ⟨A,c,rfl⟩:=a3.De
  exact ⟨some A,c,rfl,by simp,.inl rfl⟩
 | _=>simp [qv] at he
structure JB (P:Program) (w:World) (t dm eh e:TypeId) (i:TypeInfo) (d8 mY:Value) (n:Nat) (vs:List Value):Prop where
 zero:n=0→ ∀(B:Option Addr) (len cap:Nat),len≤cap→(Builtin.append_ #[t,dm] eh #[.slice B len cap,mY]).run P w = .ok (.slice B len cap) w
 nil:0<n→(n:Int)≤9223372036854775807→n*i.bytes≤140737488355328 →
  (Builtin.append_ #[t,dm] eh #[.slice none 0 0,mY]).run P w = .ok (.slice (some ⟨w.heap.size,0,none⟩) n (grownCap w n 0 e)) (w.drew.alloc (.cells (vs.toArray++Builtin.zeroCells d8.cells (grownCap w n 0 e-n)) e))
 room:0<n→ ∀(g h1 lg:Nat) (kY:Array Value) (ec:TypeId),w.heap[g]? = some (.cells kY ec (0,0))→h1+n≤lg→h1*i.size+vs.length≤kY.size→n*i.bytes≤140737488355328 →
  (Builtin.append_ #[t,dm] eh #[.slice (some ⟨g,0,none⟩) h1 lg,mY]).run P w = .ok (.slice (some ⟨g,0,none⟩) (h1+n) lg) (w.setRow g (kY.toList.take (h1*i.size)++vs++kY.toList.drop (h1*i.size+vs.length)).toArray)
 grow:0<n→ ∀(b:Addr) (h1 lg:Nat) (uz:List Value),uz.length=h1*i.size→(∀(j:Nat) v,uz[j]? = some v→w.cell? (b.add j)=some v)→lg<h1+n→((h1+n:Nat):Int)≤9223372036854775807→Builtin.nextslicecap (h1+n) lg*i.bytes≤281474976710656→n*i.bytes≤140737488355328 →
  (Builtin.append_ #[t,dm] eh #[.slice (some b) h1 lg,mY]).run P w = .ok (.slice (some ⟨w.heap.size,0,none⟩) (h1+n) (grownCap w (h1+n) lg e))
    (w.drew.alloc (.cells (uz.toArray++vs.toArray++Builtin.zeroCells d8.cells (grownCap w (h1+n) lg e-(h1+n))) e))
theorem UC (t eh e:TypeId)(i:TypeInfo)(cr:P.underlying t=some (.slice e))(ah:P.info? e=some i)
 (g h1 lg:Nat) (kY:Array Value) (ec:TypeId) (dy:w.heap[g]? = some (.cells kY ec (0,0)))
 (a:Addr) (m c:Nat) (news:List Value) (aO:news.length=m*i.size) (ZL : ∀j u,news[j]? = some u→w.cell? (a.add j)=some u) (o : ∀u∈news,u.oneCell'=true)
 (rZ:h1+m≤lg) (hK:h1*i.size+news.length≤kY.size) :
 (Builtin.append_ #[t,t] eh #[.slice (some ⟨g,0,none⟩) h1 lg,.slice (some a) m c]).run P w =
   .ok (.slice (some ⟨g,0,none⟩) (h1+m) lg) (w.setRow g (kY.toList.take (h1*i.size)++news++kY.toList.drop (h1*i.size+news.length)).toArray):=by
 have b5:=run_firstCells_some (P:=P) w i.size m a m c news aO ZL
 have lG:=run_storeCells_at P g (h1*i.size) ec news 0 kY w dy (by simpa using hK) o
 simp only [Nat.add_zero] at lG
 simp [Builtin.append_,run_underlying cr,sizeOf,typeInfo,ah,Builtin.lenOf,rZ,b5,Addr.add_lit,lG]
theorem NA {t eh e:TypeId}{i:TypeInfo}{d8:Value}(cr:P.underlying t=some (.slice e))(ah:P.info? e=some i)(cn:i.zero=some d8){A:Option Addr}{n c:Nat}{vs:List Value}(aO:vs.length=n*i.size)
 (hA:n=0∨ ∃a,A=some a∧ ∀(j:Nat) u,vs[j]? = some u→w.cell? (a.add j)=some u) (o : ∀u∈vs,u.oneCell'=true):JB P w t t eh e i d8 (.slice A n c) n vs where
 zero:=fun h0 B len cap Ai=>by
  subst h0
  cases A<;>cases B<;>simp [Builtin.append_,run_underlying cr,sizeOf,typeInfo,ah,Builtin.lenOf,Ai,Builtin.firstCells,loadCells,loadCellsFrom,storeCells]
 nil:=fun h0 uJ x2=>by
  obtain ⟨a,rfl,bE⟩:=hA.resolve_left (by omega)
  exact run_append_nil (P:=P) w t eh e i d8 cr ah cn a n c vs aO bE h0 uJ (by omega)
 room:=fun a5 g h1 lg kY ec dy rZ hK _=>by
  obtain ⟨a,rfl,bE⟩:=hA.resolve_left (by omega)
  exact UC t eh e i cr ah g h1 lg kY ec dy a n c vs aO bE o rZ hK
 grow:=fun a5 b h1 lg uz ai hold dy uJ hK _=>by
  obtain ⟨a,rfl,bE⟩:=hA.resolve_left (by omega)
  exact run_append_grow (P:=P) w t eh e i d8 cr ah cn b h1 lg uz ai hold a n c vs aO bE dy uJ hK
theorem V6 {t dm eh e:TypeId}{i:TypeInfo}{d8:Value}{k:IntKind}(cr:P.underlying t=some (.slice e))(ni:P.underlying dm=some (.int k))(ah:P.info? e=some i)(cn:i.zero=some d8)(kZ:d8.cells.size=i.size){m:Nat}(aem:(m:Int)<9223372036854775808)
 (o : ∀u∈(Builtin.zeroCells d8.cells m).toList,u.oneCell'=true):JB P w t dm eh e i d8 (.int .i64 m) m (Builtin.zeroCells d8.cells m).toList:=by
 have hw:IntKind.i64.wrap (m:Int)=m:=by simp [IntKind.wrap,IntKind.bits,IntKind.signed];omega
 have pX : ¬((m:Int)<0):=by omega
 have qH : ∀a1,a1*i.size=0→Builtin.zeroCells d8.cells a1 = #[]:=fun a1 hm=>by
  apply Array.eq_empty_of_size_eq_zero
  rw [size_zeroCells,kZ,hm]
 have D8 : ∀bD:World,(if m*i.size=0 then (pure #[]:Sem (Array Value)) else do pure (Builtin.zeroCells (← zeroValue e).cells m)).run P bD = .ok (Builtin.zeroCells d8.cells m) bD:=fun bD=>by
  split
  ·rename_i hm;rw [qH _ hm];rfl
  ·simp [zeroValue,typeInfo,ah,cn]
 have JC : ∀b:Nat,m*b≤140737488355328→ ¬(281474976710656<(m:Int)*(b:Int)):=fun b aV=>by
  have:((m*b:Nat):Int)≤140737488355328:=by omega
  rw [Int.natCast_mul] at this
  omega
 refine ⟨fun a5 B len cap Ai=> ?_,fun a5 uJ x2=> ?_,fun a5 g h1 lg kY ec dy rZ hK x2=> ?_,fun a5 b h1 lg uz ai hold dy uJ hK x2=> ?_⟩
 ·subst a5
  have x3:IntKind.i64.wrap 0=0:=by simpa using hw
  cases B<;>simp [Builtin.append_,run_underlying cr,run_underlying ni,sizeOf,typeInfo,ah,Ai,asInt,asIntOf,x3,storeCells]
 ·have J3 : ¬m=0:=by omega
  have Aj : ¬(9223372036854775807<(m:Int)):=by omega
  have s4:=JC _ x2
  have Ak : ¬(281474976710656<Builtin.nextslicecap m 0*i.bytes):=by rw [nextslicecap_zero a5];omega
  have R:=D8 w.drew
  by_cases hm:m*i.size=0
  ·simp [Builtin.append_,run_underlying cr,run_underlying ni,sizeOf,typeInfo,zeroValue,ah,cn,asInt,asIntOf,hw,pX,s4,J3,Aj,Ak,Question.forced,run_firstCells_none,newRow,grownCap,hm,qH _ hm]
  ·simp [Builtin.append_,run_underlying cr,run_underlying ni,sizeOf,typeInfo,zeroValue,ah,cn,asInt,asIntOf,hw,pX,s4,J3,Aj,Ak,Question.forced,run_firstCells_none,newRow,grownCap,hm]
 ·have s4:=JC _ x2
  have lG:=run_storeCells_at P g (h1*i.size) ec (Builtin.zeroCells d8.cells m).toList 0 kY w dy (by simpa using hK) o
  simp only [Nat.add_zero] at lG
  by_cases hm:m*i.size=0
  ·rw [qH _ hm] at lG
   have aaj:(storeCells ⟨g,h1*i.size,none⟩ []).run P w = .ok () (w.setRow g kY):=by simpa using lG
   simp [Builtin.append_,run_underlying cr,run_underlying ni,sizeOf,typeInfo,zeroValue,ah,cn,asInt,asIntOf,hw,pX,s4,rZ,hm,qH _ hm,Addr.add_lit,aaj]
  ·simp [Builtin.append_,run_underlying cr,run_underlying ni,sizeOf,typeInfo,zeroValue,ah,cn,asInt,asIntOf,hw,pX,s4,rZ,hm,Addr.add_lit,lG]
 ·have s4:=JC _ x2
  have Q2 : ¬(h1+m≤lg):=by omega
  have Aj : ¬(9223372036854775807<((h1:Int)+(m:Int))):=by omega
  have Ak : ¬(281474976710656<Builtin.nextslicecap (h1+m) lg*i.bytes):=by omega
  have Q3:=run_firstCells_some (P:=P) w.drew i.size h1 b h1 lg uz ai (by simpa using hold)
  by_cases hm:m*i.size=0
  ·simp [Builtin.append_,run_underlying cr,run_underlying ni,sizeOf,typeInfo,zeroValue,ah,cn,asInt,asIntOf,hw,pX,s4,Q2,Aj,Ak,Question.forced,Q3,newRow,grownCap,hm,qH _ hm]
  ·simp [Builtin.append_,run_underlying cr,run_underlying ni,sizeOf,typeInfo,zeroValue,ah,cn,asInt,asIntOf,hw,pX,s4,Q2,Aj,Ak,Question.forced,Q3,newRow,grownCap,hm]
theorem HC {aS:Nat}{e:TypeId}{v:Value}{i:TypeInfo}{m:Nat}(h:cE g s aw a w)(eC:s.aK aS=none){es:List (List ay)}(hlen:∀x∈es,x.length=i.size)(hm:m=es.length)
 {nf:List Value} {st:Array Value} {cap:Nat} (pq:nf.length=es.length*i.size) (lf : ∀u∈nf,u.oneCell'=true) (aa4:st.size=(cap-m)*i.size) (Ai:m≤cap) (aak:cap<9223372036854775808)
 (e3 : ∀(j:Nat) x u,es.flatten[j]? = some x→nf[j]? = some u→Rel w (s.ok g aw w) s.aY (s.a8 aw) x u)
 (a3:v = .slice (some ⟨w.heap.size,0,none⟩) m cap) :
 ∃bG,cE g (s.setRow aS [⟨i.size,es,.live⟩]) bG a (w.drew.alloc (.cells (nf.toArray++st) e)) ∧
  Rel (w.drew.alloc (.cells (nf.toArray++st) e)) ((s.setRow aS [⟨i.size,es,.live⟩]).ok g bG (w.drew.alloc (.cells (nf.toArray++st) e))) (s.setRow aS [⟨i.size,es,.live⟩]).aY ((s.setRow aS [⟨i.size,es,.live⟩]).a8 bG) (.bw aS 0 0 m) v:=by
 have bg:=h.drew
 have i5:es.flatten.length=es.length*i.size:=by
  have : ∀(es:List (List ay)),(∀e∈es,e.length=i.size)→es.flatten.length=es.length*i.size:=by
   intro es
   induction es with
   | nil=>intro _;simp
   | cons e es ih =>
    intro fv
    rw [List.flatten_cons,List.length_append,ih fun x aa=>fv x (by simp [aa]),fv e (by simp),List.length_cons,Nat.add_mul];omega
  exact this es hlen
 obtain ⟨bG,gN,h7,-⟩:=bg.alloc eC ⟨i.size,es,.live⟩ rfl (nf.toArray++st) e hlen (fun j x aa=>by
  have aB:j<nf.length:=by
   rcases Nat.lt_or_ge j es.flatten.length with ch|ch
   ·omega
   ·rw [List.getElem?_eq_none ch] at aa;simp at aa
  refine ⟨nf[j],?_,lf _ (List.getElem_mem aB),?_⟩
  ·rw [Array.getElem?_append_left (by simpa using aB)]
   simp [aB]
  ·exact (e3 j x _ aa (List.getElem?_eq_getElem aB)).drew)
 refine ⟨bG,h7,?_⟩
 subst a3
 have ai:(s.setRow aS [⟨i.size,es,.live⟩]).ag aS 0=some ⟨i.size,es,.live⟩:=by rw [kT,if_pos rfl,ly];simp
 refine Rel.bw (sz:=i.size) (dJ:=w.heap.size) (m:=(nf.toArray++st).size) ((mF _ _ _ _ _).2 (by simp)) ?_ Ai aak ⟨?_,.inr (by simp)⟩
 ·rw [hv ai,gN];rfl
 ·simp only [Array.size_append,List.size_toArray,aa4,pq,Nat.zero_add]
  rw [← hm,← Nat.add_mul]
  congr 1;omega
section
variable {I:Oper} {cy:fi} {aS:Nat} {bp:g7}
theorem N4 (h:cE g s aw a w){t dm eh e:TypeId}{i:TypeInfo}{z:List ay}(hu:P.underlying t=some (.slice e))(ah:P.info? e=some i)(cn:pH P e=some z)(mR:z.length=i.size)(i3:i.size≠0)
 {y:ay} {ff:fi} {bu:List (List ay)} {ag:List Prop} (he:um P i.size z s.aK ff t dm y=some (bu,ag)) (bf : ∀p∈ag,p) {mY:Value} (aP:Rel w (s.ok g aw w) s.aY (s.a8 aw) y mY) :
 ∃d8 vs,i.zero=some d8∧d8.cells.size=i.size∧JB P w t dm eh e i d8 mY bu.length vs∧(∀x∈bu,x.length=i.size)∧vs.length=bu.length*i.size∧(∀u∈vs,u.oneCell'=true) ∧
  ∀(j:Nat) x u,bu.flatten[j]? = some x→vs[j]? = some u→Rel w (s.ok g aw w) s.aY (s.a8 aw) x u:=by
 obtain ⟨eI,d8,iE,j3,rz,s9⟩:=zm cn
 rw [ah] at iE;simp at iE;subst iE
 have kZ:d8.cells.size=i.size:=by rw [← mR,rz];simp
 unfold um at he
 split at he
 ·rename_i aa5
  subst aa5
  obtain ⟨A,c,rfl,hlen,J4⟩:=Oz h he bf aP
  rcases J4 with h0|⟨dJ,off,rfl,hN⟩
  ·have:bu=[]:=List.length_eq_zero_iff.1 h0
   subst this
   exact ⟨d8,[],j3,kZ,NA hu ah j3 (by simp) (.inl rfl) (by simp),hlen,by simp,by simp,by simp⟩
  ·obtain ⟨vs,v1,v2,v3,v4⟩:=hN.nf
   exact ⟨d8,vs,j3,kZ,NA hu ah j3 v1 (.inr ⟨_,rfl,v2⟩) v3,hlen,v1,v3,v4⟩
 ·split at he
  ·rename_i k n aJ
   simp only [Option.some.injEq,Prod.mk.injEq] at he
   obtain ⟨rfl,rfl⟩:=he
   have h0:0≤n:=bf _ (by simp)
   have uJ:n<9223372036854775808:=bf _ (by simp)
   obtain ⟨m,rfl⟩:=Int.eq_ofNat_of_zero_le h0
   have aa6:mY = .int .i64 m:=by cases aP;rfl
   subst aa6
   have lj : ∀(j:Nat) u,(Builtin.zeroCells d8.cells m).toList[j]? = some u→d8.cells[j % i.size]? = some u:=by
    intro j u nk
    have aB:=(List.getElem?_eq_some_iff.1 nk).1
    rw [Array.length_toList,size_zeroCells,kZ] at aB
    have du:j % i.size<d8.cells.size:=by rw [kZ];exact Nat.mod_lt _ (by omega)
    rw [Array.getElem?_toList,Builtin.zeroCells,Array.getElem?_map,kZ,Array.getElem?_range] at nk
    rw [if_pos aB] at nk
    simp only [Option.map_some,Option.some.injEq] at nk
    rw [← nk,Array.getElem?_eq_getElem du,getElem!_pos d8.cells _ du]
   refine ⟨d8,(Builtin.zeroCells d8.cells m).toList,j3,kZ,?_,?_,?_,?_,?_⟩
   ·simp only [List.length_replicate,Int.toNat_natCast]
    refine V6 hu aJ ah j3 kZ (by omega) fun u qI=> ?_
    obtain ⟨j,aB⟩:=List.getElem?_of_mem qI
    have o:=lj j u aB
    have du:j % i.size<z.length:=by rw [mR];exact Nat.mod_lt _ (by omega)
    obtain ⟨v,v1,v2,-⟩:=s9 _ _ (List.getElem?_eq_getElem du)
    rw [o] at v1
    obtain rfl:=Option.some.inj v1
    exact v2
   ·intro x aa
    rw [List.mem_replicate] at aa
    rw [aa.2,mR]
   ·rw [Array.length_toList,size_zeroCells,kZ];simp
   ·intro u qI
    obtain ⟨j,aB⟩:=List.getElem?_of_mem qI
    have o:=lj j u aB
    have du:j % i.size<z.length:=by rw [mR];exact Nat.mod_lt _ (by omega)
    obtain ⟨v,v1,v2,-⟩:=s9 _ _ (List.getElem?_eq_getElem du)
    rw [o] at v1
    obtain rfl:=Option.some.inj v1
    exact v2
   ·intro j x u aa nk
    rw [oJ (sz:=i.size) (by omega) _ (fun ec li=>by rw [List.mem_replicate] at li;rw [li.2,mR])] at aa
    have o:=lj j u nk
    cases bb:(List.replicate (Int.toNat (m:Int)) z)[j / i.size]? with
    | none=>rw [bb] at aa;simp at aa
    | some ec =>
     have:=List.mem_of_getElem? bb
     rw [List.mem_replicate] at this
     rw [bb,this.2] at aa
     simp only [Option.bind_some] at aa
     obtain ⟨v,v1,-,v3⟩:=s9 _ _ aa
     rw [o] at v1
     obtain rfl:=Option.some.inj v1
     exact v3 _ _ _ _
  ·simp at he
theorem V7 (h:cE g s aw a w)(eC:s.aK aS=none){x y:ay}{qS mY:Value}{t dm:TypeId}{m:Nat}{Lg:Option aq}{eh:TypeId}(au:nj P s.E s.aK aS .append [x,y] [t,dm] (.aZ m Lg)=some bp)(cq:∀p∈bp.e6,p)
 (aa:Rel w (s.ok g aw w) s.aY (s.a8 aw) x qS) (aP:Rel w (s.ok g aw w) s.aY (s.a8 aw) y mY) :
 ∃v bD bG,(Builtin.append_ #[t,dm] eh #[qS,mY]).run P w = .ok v bD∧cE g (s.hr bp.fr) bG a bD∧Rel bD ((s.hr bp.fr).ok g bG bD) (s.hr bp.fr).aY ((s.hr bp.fr).a8 bG) bp.val v:=by
 simp only [nj] at au
 split at au
 ·simp at au
 ·rename_i e he
  have hu:=ra he
  split at au
  ·rename_i i z ah cn
   split at au
   ·simp at au
   ·rename_i aN
    simp only [not_or,Decidable.not_not] at aN
    obtain ⟨mR,i3,xW⟩:=aN
    split at au
    ·simp at au
    ·rename_i bu b3 qC
     have D9:=fun af=>N4 (eh:=eh) h hu ah cn mR i3 qC af aP
     by_cases YY:True
     ·
      split at au
      ·
       simp only [Option.some.injEq] at au
       subst au
       have hm:m=bu.length:=cq _ (by simp)
       have AJ:m*i.bytes≤140737488355328:=cq _ (by simp)
       obtain ⟨d8,vs,j3,kZ,hA,hlen,v1,v3,v4⟩:=D9 (fun p af=>cq p (by simp [af]))
       clear D9
       rw [aa.pb]
       by_cases h0:bu.length=0
       ·have:bu=[]:=List.length_eq_zero_iff.1 h0
        subst this
        obtain ⟨bG,gN,h7⟩:=h.O9 (sz:=i.size) eC
        refine ⟨_,w,bG,hA.zero h0 none 0 0 (Nat.le_refl _),h7,?_⟩
        subst hm
        have ai:(s.setRow aS [⟨i.size,[],.live⟩]).ag aS 0=some ⟨i.size,[],.live⟩:=by rw [kT,if_pos rfl,ly];simp
        exact .m4 (sz:=i.size) ((mF _ _ _ _ _).2 (by simp)) (by show (s.setRow aS [⟨i.size,[],.live⟩]).a8 bG aS 0=_;rw [hv ai,gN])
       ··have rn:bu.length*1≤bu.length*i.bytes:=Nat.mul_le_mul_left _ (by omega)
         rw [hm] at AJ
         have ik:=hA.nil (by omega) (by omega) (by omega)
         have Q4:=grownCap_ge w bu.length 0 e
         have hle:=grownCap_le_maxLen w bu.length 0 e (by simp only [maxLen];omega)
         simp only [maxLen] at hle
         obtain ⟨bG,aW,bl⟩:=HC (e:=e) (i:=i) (m:=m) (nf:=vs) (st:=Builtin.zeroCells d8.cells (grownCap w bu.length 0 e-bu.length)) (cap:=grownCap w bu.length 0 e) h eC hlen hm v1 v3
          (by rw [size_zeroCells,kZ,hm]) (by omega) (by omega) v4 rfl
         refine ⟨.slice (some ⟨w.heap.size,0,none⟩) m (grownCap w bu.length 0 e),_,bG,?_,aW,bl⟩
         rw [hm];exact ik
      ·
       rename_i r k len
       split at au
       ·simp at au
       ·rename_i row dh
        split at au
        ·simp at au
        ·rename_i ag bf
         split at au
         ·rename_i uK
          obtain ⟨nl,eB,cH⟩:=uK
          simp only [Option.some.injEq] at au
          subst au
          have ai:s.ag r k=some ag:=by unfold S.ag;rw [dh];exact bf
          have hK:len≤ag.es.length:=cq _ (by simp)
          have hm:m=len+bu.length:=cq _ (by simp)
          have AJ:m*i.bytes≤140737488355328:=cq _ (by simp)
          have rn:m*1≤m*i.bytes:=Nat.mul_le_mul_left _ (Nat.one_le_iff_ne_zero.2 xW)
          obtain ⟨d8,vs,j3,kZ,hA,hlen,v1,v3,v4⟩:=D9 (fun p af=>cq p (by simp [af]))
          clear D9
          have aeA:bu.length*i.bytes≤m*i.bytes:=Nat.mul_le_mul_right _ (by omega)
          have e3:=h.obj r k ag ai
          have J5:(ag.es.take len).length=len:=by simp;omega
          have ri:(s.setRow aS [⟨i.size,ag.es.take len++bu,.live⟩]).aK r=some row:=by simp [S.setRow,Ne.symm cH,dh]
          have pr : ∀bG:e9,((s.setRow aS [⟨i.size,ag.es.take len++bu,.live⟩]).setRow r (row.set k {ag with cm:= .gone})).ag aS 0=some ⟨i.size,ag.es.take len++bu,.live⟩:=by
           intro _
           rw [kT,if_neg cH,kT,if_pos rfl,ly];simp
          have Al:((s.setRow aS [⟨i.size,ag.es.take len++bu,.live⟩]).setRow r (row.set k {ag with cm:= .gone})).aY aS 0:=by rw [mF,if_neg cH,mF,if_pos rfl];simp
          show ∃v bD bG,_∧cE g ((s.setRow aS [⟨i.size,ag.es.take len++bu,.live⟩]).setRow r (row.set k {ag with cm:= .gone})) bG a bD∧_
          rcases aa.tY (hv ai) with ⟨af,-,rfl,rfl⟩|⟨b,M,hH,jV,af,rfl,qG,sg,dn,mg⟩
          ·
           rw [af] at e3
           simp only [iB] at e3
           have gU:ag.es.take 0++bu=bu:=by simp
           by_cases h0:bu.length=0
           ·have:bu=[]:=List.length_eq_zero_iff.1 h0
            subst this
            obtain ⟨bG,gN,h7⟩:=h.O9 (sz:=i.size) eC
            have ps:(s.setRow aS [⟨i.size,[],.live⟩]).ag r k=some ag:=by rw [kT,if_neg (Ne.symm cH)];exact ai
            have ZM:(s.setRow aS [⟨i.size,[],.live⟩]).aK r=some row:=by simp [S.setRow,Ne.symm cH,dh]
            obtain ⟨qe,-⟩:=h7.gone ZM ps
            have Am:ag.es.take 0++([]:List (List ay))=[]:=by simp
            rw [Am]
            rw [Am] at Al pr
            refine ⟨_,w,bG,hA.zero h0 none 0 0 (Nat.le_refl _),qe,?_⟩
            subst hm
            exact .m4 (sz:=i.size) Al ((hv (pr bG)).trans (by rw [gN]))
           ··have kj:m=bu.length:=by omega
             have ik:=hA.nil (by omega) (by omega) (by omega)
             have Q4:=grownCap_ge w bu.length 0 e
             have hle:=grownCap_le_maxLen w bu.length 0 e (by simp only [maxLen];omega)
             simp only [maxLen] at hle
             obtain ⟨bG,aW,bl⟩:=HC (e:=e) (i:=i) (m:=m) (nf:=vs) (st:=Builtin.zeroCells d8.cells (grownCap w bu.length 0 e-bu.length)) (cap:=grownCap w bu.length 0 e) h eC hlen kj v1 v3
              (by rw [size_zeroCells,kZ,kj]) (by omega) (by omega) v4 rfl
             rw [gU]
             rw [gU] at ri
             have ps:(s.setRow aS [⟨i.size,bu,.live⟩]).ag r k=some ag:=by rw [kT,if_neg (Ne.symm cH)];exact ai
             obtain ⟨qe,Bo⟩:=aW.gone ri ps
             refine ⟨.slice (some ⟨w.heap.size,0,none⟩) m (grownCap w bu.length 0 e),_,bG,?_,qe,Bo _ _ bl⟩
             rw [kj];exact ik
          ·
           rw [af] at e3
           have ZN:=e3
           obtain ⟨cb,lP,g1,g2,g3,g4⟩:=e3
           have An : ∀e∈ag.es.take len++bu,e.length=i.size:=by
            intro ec li
            rw [List.mem_append] at li
            rcases li with ch|ch
            ·rw [g3 ec (List.mem_of_mem_take ch),eB]
            ·exact hlen ec ch
           have i5 : ∀(es:List (List ay)),(∀e∈es,e.length=i.size)→es.flatten.length=es.length*i.size:=by
            intro es
            induction es with
            | nil=>intro _;simp
            | cons e es ih =>
             intro fv
             rw [List.flatten_cons,List.length_append,ih fun x aa=>fv x (by simp [aa]),fv e (by simp),List.length_cons,Nat.add_mul];omega
           by_cases h0:bu.length=0
           ·
            have:bu=[]:=List.length_eq_zero_iff.1 h0
            subst this
            have Am:ag.es.take len++([]:List (List ay))=ag.es.take len:=by simp
            rw [Am]
            rw [Am] at Al pr An
            obtain ⟨bG,gN,h7⟩:=h.turn dh ai nl af eC ⟨i.size,ag.es.take len,.live⟩ rfl cb lP g1 rfl (fun _ _=>rfl) rfl rfl rfl g2 An (fun j q bb=>by
             refine g4 j q ?_
             have aB:j<(ag.es.take len).flatten.length:=by
              rcases Nat.lt_or_ge j (ag.es.take len).flatten.length with ch|ch
              ·exact ch
              ·rw [List.getElem?_eq_none ch] at bb;simp at bb
             have Q5:ag.es.flatten=(ag.es.take len).flatten++(ag.es.drop len).flatten:=by rw [← List.flatten_append,List.take_append_drop]
             rw [Q5,List.getElem?_append_left aB];exact bb)
            refine ⟨_,w,bG,hA.zero h0 hH len jV qG,h7,?_⟩
            have kj:m=len:=by simpa using hm
            subst kj
            refine .bw (sz:=i.size) (dJ:=b) (m:=M) Al ((hv (pr bG)).trans (by rw [gN])) qG sg ?_
            rw [← eB];exact ⟨dn,mg⟩
           ··
             have hold : ∃xs:List Value,xs.length=len*i.size∧(∀(j:Nat) u,xs[j]? = some u→w.cell? ((⟨b,0,none⟩:Addr).add j)=some u)∧(∀u∈xs,u.oneCell'=true) ∧
              ∀(j:Nat) x u,(ag.es.take len).flatten[j]? = some x→xs[j]? = some u→Rel w (s.ok g aw w) s.aY (s.a8 aw) x u:=by
              have QG:=CF ZN.rd 0 len (by omega)
              simp only [List.drop_zero,Nat.zero_mul,Nat.add_zero] at QG
              obtain ⟨xs,fB,e1,aU,fO⟩:=QG.nf
              exact ⟨xs,by rw [fB,J5,eB],e1,aU,fO⟩
             obtain ⟨xs,fB,e1,aU,fO⟩:=hold
             have aa7:xs.length=(ag.es.take len).length*i.size:=by rw [J5];exact fB
             have Pa : ∀(j:Nat) x u,(ag.es.take len++bu).flatten[j]? = some x→(xs++vs)[j]? = some u→Rel w (s.ok g aw w) s.aY (s.a8 aw) x u :=
              fun j x u aa8 nk=>U4 aa7 (fun ec li=>by rw [g3 ec (List.mem_of_mem_take li),eB]) aa8 fO v4 nk
             have Ao:(ag.es.take len++bu).length=m:=by rw [List.length_append,J5];exact hm.symm
             by_cases rZ:len+bu.length≤jV
             ·
              rcases mg with rfl|rfl
              ·omega
              ·rw [Nat.zero_mul] at *
               rw [Nat.zero_add] at dn
               have YZ:len*i.size+vs.length≤cb.size:=by
                rw [v1,g2,← dn,eB,← Nat.add_mul];exact Nat.mul_le_mul_right _ rZ
               have ik:=hA.room (by omega) b len jV cb lP g1 rZ YZ (by omega)
               have aal:(w.setRow b (cb.toList.take (len*i.size)++vs++cb.toList.drop (len*i.size+vs.length)).toArray).heap.size=w.heap.size:=size_setRow _ _ _
               have Q6:xs=cb.toList.take (len*i.size):=by
                apply List.ext_getElem?
                intro j
                rw [List.getElem?_take]
                by_cases aB:j<len*i.size
                ·rw [if_pos aB]
                 have rp:j<xs.length:=by omega
                 have:=e1 j _ (List.getElem?_eq_getElem rp)
                 rw [qq,cell_of_row w b (0+j) cb lP (0,0) g1,Nat.zero_add] at this
                 rw [List.getElem?_eq_getElem rp,← this,Array.getElem?_toList]
                ·rw [if_neg aB,List.getElem?_eq_none (by omega)]
               obtain ⟨bG,gN,h7⟩:=h.turn dh ai nl af eC ⟨i.size,ag.es.take len++bu,.live⟩ rfl _ lP (setRow_heap w b cb _ lP _ g1) aal (fun q bb=>setRow_other w b q _ bb) rfl rfl rfl
                (by rw [← g2];simp;omega) An (fun j q bb=>by
                  have aB:j<(xs++vs).length:=by
                   have:j<(ag.es.take len++bu).flatten.length:=by
                    rcases Nat.lt_or_ge j (ag.es.take len++bu).flatten.length with ch|ch
                    ·exact ch
                    ·rw [List.getElem?_eq_none ch] at bb;simp at bb
                   rw [i5 _ An,Ao] at this
                   rw [List.length_append,fB,v1,← Nat.add_mul,← hm];exact this
                  refine ⟨(xs++vs)[j],?_,?_,Pa j q _ bb (List.getElem?_eq_getElem aB)⟩
                  ·rw [List.getElem?_toArray,List.getElem?_append_left (by rw [← Q6];exact aB),← Q6]
                   exact List.getElem?_eq_getElem aB
                  ·have:=List.getElem_mem aB
                   rw [List.mem_append] at this
                   rcases this with ch|ch
                   ·exact aU _ ch
                   ·exact v3 _ ch)
               refine ⟨_,_,bG,ik,h7,?_⟩
               rw [← hm]
               refine .bw (sz:=i.size) (dJ:=b) (m:=M) Al ((hv (pr bG)).trans (by rw [gN])) (by omega) sg ⟨?_,.inr (by simp)⟩
               rw [Nat.zero_add,← eB];exact dn
             ·
              have hA : ∃vb:Addr,(hH=some vb∧ ∀(j:Nat) u,xs[j]? = some u→w.cell? (vb.add j)=some u)∨(hH=none∧len=0∧jV=0):=by
               cases hH with
               | none =>
                refine ⟨⟨0,0,none⟩,.inr ⟨rfl,?_⟩⟩
                rcases mg with ch|ch
                ·omega
                ·simp at ch
               | some vb =>
                refine ⟨vb,.inl ⟨rfl,?_⟩⟩
                rcases mg with ch|ch
                ·have:len=0:=by omega
                 have:xs=[]:=List.length_eq_zero_iff.1 (by rw [fB,this];simp)
                 intro j u aB
                 rw [this] at aB;simp at aB
                ·simp at ch;subst ch;exact e1
              have Q4:=grownCap_ge w (len+bu.length) jV e
              have hle:=grownCap_le_maxLen w (len+bu.length) jV e (by simp only [maxLen];omega)
              simp only [maxLen] at hle
              have ik:(Builtin.append_ #[t,dm] eh #[.slice hH len jV,mY]).run P w = .ok (.slice (some ⟨w.heap.size,0,none⟩) (len+bu.length) (grownCap w (len+bu.length) jV e))
               (w.drew.alloc (.cells ((xs++vs).toArray++Builtin.zeroCells d8.cells (grownCap w (len+bu.length) jV e-(len+bu.length))) e)):=by
               have aam:(xs++vs).toArray=xs.toArray++vs.toArray:=by apply Array.ext';simp
               rw [aam]
               obtain ⟨vb,⟨rfl,aa9⟩|⟨rfl,mS,mf⟩⟩:=hA
               ·exact hA.grow (by omega) vb len jV xs fB aa9 (by omega) (by omega) (growslice_fits (by omega) (by rw [← hm];exact AJ)) (by omega)
               ·subst mS;subst mf
                have aba:xs=[]:=List.length_eq_zero_iff.1 (by rw [fB];simp)
                subst aba
                have:=hA.nil (by omega) (by omega) (by omega)
                simpa using this
              obtain ⟨bG,aW,bl⟩:=HC (e:=e) (i:=i) (m:=m) (nf:=xs++vs) (st:=Builtin.zeroCells d8.cells (grownCap w (len+bu.length) jV e-(len+bu.length))) (cap:=grownCap w (len+bu.length) jV e) h eC An Ao.symm
               (by rw [List.length_append,fB,v1,Ao,hm,Nat.add_mul]) (fun u hu=>by
                 rw [List.mem_append] at hu
                 rcases hu with ch|ch
                 ·exact aU _ ch
                 ·exact v3 _ ch) (by rw [size_zeroCells,kZ,hm]) (by omega) (by omega) Pa rfl
              have ps:(s.setRow aS [⟨i.size,ag.es.take len++bu,.live⟩]).ag r k=some ag:=by rw [kT,if_neg (Ne.symm cH)];exact ai
              obtain ⟨qe,Bo⟩:=aW.gone ri ps
              refine ⟨.slice (some ⟨w.heap.size,0,none⟩) m (grownCap w (len+bu.length) jV e),_,bG,?_,qe,Bo _ _ bl⟩
              rw [hm];exact ik
         ·simp at au
      ·simp at au
     ·exact absurd trivial YY
  ·simp at au
end
end
section
variable {P:Program} {g:G} {s:S} {aw:e9} {a:Act} {w:World}
theorem zx {sz:Nat}: ∀ {es:List (List ay)},(∀e∈es,e.length=sz)→es.flatten.length=es.length*sz
 | [],_=>by simp
 | e::es,h=>by
  rw [List.flatten_cons,List.length_append,zx fun x aa=>h x (by simp [aa]),h e (by simp),List.length_cons,Nat.add_mul];omega
theorem cE.putAt (h:cE g s aw a w){r k p b M:Nat}{row:List aq}{ag:aq}(al:s.aK r=some row)(ai:s.ag r k=some ag)(aJ:ag.cm = .live)(k5:aw r k=some (b,M)){bu fR:List (List ay)}{vs:List Value}
 (hlen : ∀x∈bu,x.length=ag.sz) (v1:vs.length=bu.length*ag.sz) (v3 : ∀u∈vs,u.oneCell'=true) (v4 : ∀(j:Nat) x u,bu.flatten[j]? = some x→vs[j]? = some u→Rel w (s.ok g aw w) s.aY (s.a8 aw) x u)
 (af:p+bu.length≤ag.es.length) (q:Nat) (gU:fR=(ag.es.take p++bu++ag.es.drop (p+bu.length)).take q) :
 ∃cb lP,w.heap[b]? = some (.cells cb lP (0,0))∧cb.size=M∧ag.es.length*ag.sz≤M∧p*ag.sz+vs.length≤cb.size ∧
  cE g (s.setRow r (row.set k {ag with es:=fR})) aw a (w.setRow b (cb.toList.take (p*ag.sz)++vs++cb.toList.drop (p*ag.sz+vs.length)).toArray) ∧
  ∀x v,Rel w (s.ok g aw w) s.aY (s.a8 aw) x v→Rel (w.setRow b (cb.toList.take (p*ag.sz)++vs++cb.toList.drop (p*ag.sz+vs.length)).toArray) ((s.setRow r (row.set k {ag with es:=fR})).ok g aw (w.setRow b (cb.toList.take (p*ag.sz)++vs++cb.toList.drop (p*ag.sz+vs.length)).toArray)) (s.setRow r (row.set k {ag with es:=fR})).aY ((s.setRow r (row.set k {ag with es:=fR})).a8 aw) x v:=by
 have e3:=h.obj r k ag ai
 rw [k5] at e3
 obtain ⟨cb,lP,g1,g2,g3,g4⟩:=e3
 have i5:=zx g3
 have dn:ag.es.length*ag.sz≤M:=by
  rcases Nat.eq_zero_or_pos ag.es.flatten.length with h0|i3
  ·omega
  ·obtain ⟨v,ax,-⟩:=g4 (ag.es.flatten.length-1) _ (List.getElem?_eq_getElem (by omega))
   have:=(Array.getElem?_eq_some_iff.1 ax).1
   omega
 have hmul:p*ag.sz+bu.length*ag.sz≤ag.es.length*ag.sz:=by rw [← Nat.add_mul];exact Nat.mul_le_mul_right _ af
 have hK:p*ag.sz+vs.length≤cb.size:=by omega
 refine ⟨cb,lP,g1,g2,dn,hK,?_⟩
 have aan : ∀e∈ag.es.take p++bu++ag.es.drop (p+bu.length),e.length=ag.sz:=by
  intro e he
  simp only [List.mem_append] at he
  rcases he with (he|he)|he
  ·exact g3 e (List.mem_of_mem_take he)
  ·exact hlen e he
  ·exact g3 e (List.mem_of_mem_drop he)
 have hA:(ag.es.take p).flatten.length=p*ag.sz:=by rw [zx fun e he=>g3 e (List.mem_of_mem_take he),List.length_take];congr 1;omega
 have gO:(ag.es.take (p+bu.length)).flatten.length=p*ag.sz+bu.length*ag.sz:=by rw [zx fun e he=>g3 e (List.mem_of_mem_take he),List.length_take,← Nat.add_mul];congr 1;omega
 have acM:bu.flatten.length=bu.length*ag.sz:=zx hlen
 have o : ∀j,j<p*ag.sz→(ag.es.take p).flatten[j]? = ag.es.flatten[j]? := fun j aB=>by
  conv=>rhs;rw [← List.take_append_drop p ag.es,List.flatten_append,List.getElem?_append_left (by omega)]
 have R : ∀j,(ag.es.drop (p+bu.length)).flatten[j]? = ag.es.flatten[p*ag.sz+bu.length*ag.sz+j]? := fun j=>by
  conv=>rhs;rw [← List.take_append_drop (p+bu.length) ag.es,List.flatten_append,List.getElem?_append_right (by omega),gO]
  congr 1;omega
 refine h.write al ai aJ k5 fR _ lP (setRow_heap w b cb _ lP _ g1) (size_setRow _ _ _) (fun q bb=>setRow_other w b q _ bb) rfl rfl rfl (by rw [← g2];simp;omega) ?_ ?_
 ·intro e he
  rw [gU] at he
  exact aan e (List.mem_of_mem_take he)
 ·intro j x aa
  have dr:(ag.es.take p++bu++ag.es.drop (p+bu.length)).flatten[j]? = some x:=by
   rw [gU] at aa
   have aB:=(List.getElem?_eq_some_iff.1 aa).1
   conv=>lhs;rw [← List.take_append_drop q (ag.es.take p++bu++ag.es.drop (p+bu.length)),List.flatten_append,List.getElem?_append_left aB]
   exact aa
  rw [List.flatten_append,List.flatten_append] at dr
  simp only [List.getElem?_toArray]
  have hk:(cb.toList.take (p*ag.sz)).length=p*ag.sz:=by rw [List.length_take,Array.length_toList];omega
  by_cases bF:j<p*ag.sz
  ·rw [List.append_assoc,List.getElem?_append_left (by omega),o j bF] at dr
   obtain ⟨v,ax,aC,bZ⟩:=g4 j x dr
   refine ⟨v,?_,aC,bZ⟩
   rw [List.append_assoc,List.getElem?_append_left (by omega),List.getElem?_take,if_pos bF,Array.getElem?_toList];exact ax
  ·by_cases cI:j<p*ag.sz+vs.length
   ·rw [List.append_assoc,List.getElem?_append_right (by omega),hA,List.getElem?_append_left (by omega)] at dr
    have a3:j-p*ag.sz<vs.length:=by omega
    refine ⟨vs[j-p*ag.sz],?_,v3 _ (List.getElem_mem a3),v4 _ _ _ dr (List.getElem?_eq_getElem a3)⟩
    rw [List.append_assoc,List.getElem?_append_right (by omega),hk,List.getElem?_append_left (by omega)]
    exact List.getElem?_eq_getElem a3
   ·rw [List.getElem?_append_right (by rw [List.length_append];omega),List.length_append,hA,acM,R] at dr
    rw [show p*ag.sz+bu.length*ag.sz+(j-(p*ag.sz+bu.length*ag.sz))=j by omega] at dr
    obtain ⟨v,ax,aC,bZ⟩:=g4 j x dr
    refine ⟨v,?_,aC,bZ⟩
    rw [List.getElem?_append_right (by rw [List.length_append];omega),List.length_append,hk,List.getElem?_drop,Array.getElem?_toList]
    rw [show p*ag.sz+vs.length+(j-(p*ag.sz+vs.length))=j by omega];exact ax
end
section
variable {P:Program} {g:G} {s:S} {aw:e9} {a:Act} {w:World} {aS:Nat} {bp:g7}
theorem Yn (h:cE g s aw a w){x y:ay}{qS mY:Value}{t dm eh:TypeId}(au:nj P s.E s.aK aS .append [x,y] [t,dm] .cT=some bp)(cq:∀p∈bp.e6,p)
 (aa:Rel w (s.ok g aw w) s.aY (s.a8 aw) x qS) (aP:Rel w (s.ok g aw w) s.aY (s.a8 aw) y mY) :
 ∃v bD,(Builtin.append_ #[t,dm] eh #[qS,mY]).run P w = .ok v bD∧cE g (s.hr bp.fr) aw a bD∧Rel bD ((s.hr bp.fr).ok g aw bD) (s.hr bp.fr).aY ((s.hr bp.fr).a8 aw) bp.val v:=by
 simp only [nj] at au
 split at au
 ·simp at au
 ·rename_i e he
  have hu:=ra he
  split at au
  ·rename_i i z ah cn
   split at au
   ·simp at au
   ·rename_i aN
    simp only [not_or,Decidable.not_not] at aN
    obtain ⟨mR,i3,xW⟩:=aN
    split at au
    ·simp at au
    ·rename_i bu b3 qC
     split at au
     ·rename_i r k len
      split at au
      ·simp at au
      ·rename_i row dh
       split at au
       ·simp at au
       ·rename_i ag bf
        split at au
        ·rename_i uK
         obtain ⟨nl,eB⟩:=uK
         simp only [Option.some.injEq] at au
         subst au
         have ai:s.ag r k=some ag:=by unfold S.ag;rw [dh];exact bf
         have hK:len+bu.length≤ag.es.length:=cq _ (by simp)
         have AJ:bu.length*i.bytes≤140737488355328:=cq _ (by simp)
         obtain ⟨d8,vs,j3,kZ,hA,hlen,v1,v3,v4⟩:=N4 (eh:=eh) h hu ah cn mR i3 qC (fun p af=>cq p (by simp [af])) aP
         rw [← eB] at v1
         have Qd : ∀x∈bu,x.length=ag.sz:=fun x aa=>by rw [hlen x aa,eB]
         have gU:ag.es.take len++bu=(ag.es.take len++bu++ag.es.drop (len+bu.length)).take (len+bu.length) :=
          (List.take_left' (by rw [List.length_append,List.length_take];omega)).symm
         rcases aa.tY (hv ai) with ⟨af,-,rfl,rfl⟩|⟨b,M,hH,jV,af,rfl,qG,sg,dn,mg⟩
         ·have e3:=h.obj r k ag ai
          rw [af] at e3
          simp only [iB] at e3
          rw [e3] at hK
          have h0:bu.length=0:=by simp at hK;exact List.length_eq_zero_iff.2 hK
          have uL:bu=[]:=List.length_eq_zero_iff.1 h0
          subst uL
          have kC:row.set k {ag with es:=ag.es.take 0++[]}=row:=by
           have o:({ag with es:=ag.es.take 0++[]}:aq)=ag:=by cases ag;simp only [] at e3;subst e3;rfl
           rw [o]
           have R:row[k]? = some ag:=by
            unfold c7 at bf
            simp only at bf
            split at bf
            ·rename_i bY dA
             split at bf
             ·simp at bf
             ·simp at bf;rw [← bf];exact dA
            ·simp at bf
           exact List.ext_getElem? fun j=>by
            rw [List.getElem?_set]
            split
            ·rename_i e;subst e
             have:=(List.getElem?_eq_some_iff.1 R).1
             rw [if_pos this,R]
            ·rfl
          refine ⟨_,w,hA.zero h0 none 0 0 (Nat.le_refl _),?_⟩
          have dW:s.setRow r row=s:=by
           have:(fun q=>if q=r then some row else s.aK q)=s.aK:=by
            funext q;split
            ·rename_i e;rw [e,dh]
            ·rfl
           show ({s with aK:=_}:S)=s
           rw [this]
          show cE g (s.setRow r (row.set k {ag with es:=ag.es.take 0++[]})) aw a w∧Rel w ((s.setRow r (row.set k {ag with es:=ag.es.take 0++[]})).ok g aw w) (s.setRow r (row.set k {ag with es:=ag.es.take 0++[]})).aY ((s.setRow r (row.set k {ag with es:=ag.es.take 0++[]})).a8 aw) (.bw r k 0 0) (.slice none 0 0)
          rw [kC,dW]
          exact ⟨h,aa⟩
         ·obtain ⟨cb,lP,bF,cI,mv,rA,nY,su⟩:=h.putAt dh ai nl af Qd v1 v3 v4 hK (len+bu.length) gU
          have hle:ag.es.length≤jV:=by
           rw [Nat.zero_add] at dn
           rw [← dn] at mv
           exact Nat.le_of_mul_le_mul_right mv (by omega)
          by_cases mf:jV=0
          ·have h0:bu.length=0:=by omega
           have mS:len=0:=by omega
           subst mS
           have uL:bu=[]:=List.length_eq_zero_iff.1 h0
           subst uL
           have J6:vs=[]:=List.length_eq_zero_iff.1 (by simpa using v1)
           subst J6
           have hw:w.setRow b (cb.toList.take (0*ag.sz)++[]++cb.toList.drop (0*ag.sz+0)).toArray=w:=by
            simp only [Nat.zero_mul,List.take_zero,List.nil_append,Nat.zero_add,List.drop_zero,Array.toArray_toList]
            exact setRow_self w b cb lP (0,0) bF
           simp only [List.length_nil] at nY su
           rw [hw] at nY su
           exact ⟨_,w,hA.zero h0 hH 0 jV (Nat.zero_le _),nY,su _ _ aa⟩
          ·have AK:hH=some ⟨b,0,none⟩:=by
            rcases mg with ch|ch
            ·exact absurd ch mf
            ·simpa using ch
           subst AK
           by_cases h0:bu.length=0
           ·have uL:bu=[]:=List.length_eq_zero_iff.1 h0
            subst uL
            have J6:vs=[]:=List.length_eq_zero_iff.1 (by simpa using v1)
            subst J6
            have hw:w.setRow b (cb.toList.take (len*ag.sz)++[]++cb.toList.drop (len*ag.sz+0)).toArray=w:=by
             simp only [List.append_nil,Nat.add_zero,List.take_append_drop,Array.toArray_toList]
             exact setRow_self w b cb lP (0,0) bF
            simp only [List.length_nil] at nY su
            rw [hw] at nY su
            exact ⟨_,w,hA.zero h0 _ len jV qG,nY,su _ _ aa⟩
           ·have ik:=hA.room (by omega) b len jV cb lP bF (by omega) (by rw [← eB];exact rA) AJ
            rw [← eB] at ik
            refine ⟨_,_,ik,nY,?_⟩
            have Ag:(s.setRow r (row.set k {ag with es:=ag.es.take len++bu})).ag r k=some {ag with es:=ag.es.take len++bu}:=by
             rw [kT,if_pos rfl,Ow row k ag _ bf (by simp [nl]),if_pos rfl]
            show Rel _ ((s.setRow r (row.set k {ag with es:=ag.es.take len++bu})).ok g aw _) (s.setRow r (row.set k {ag with es:=ag.es.take len++bu})).aY ((s.setRow r (row.set k {ag with es:=ag.es.take len++bu})).a8 aw) (.bw r k 0 (len+bu.length)) _
            refine .bw (sz:=ag.sz) (dJ:=b) (m:=M) (C2 Ag) ((hv Ag).trans (by rw [af])) (by omega) sg ⟨dn,.inr (by simp)⟩
        ·simp at au
     ·simp at au
  ·simp at au
end
section
variable {P:Program} {g:G} {s:S} {aw:e9} {a:Act} {w:World} {aS:Nat} {bp:g7}
theorem Ng {s:S}{r k:Nat}{row:List aq}{ag:aq}(al:s.aK r=some row)(ai:c7 (some row) k=some ag):s.setRow r (row.set k ag)=s:=by
 have R:row[k]? = some ag:=by
  unfold c7 at ai
  simp only at ai
  split at ai
  ·rename_i bY dA
   split at ai
   ·simp at ai
   ·simp at ai;rw [← ai];exact dA
  ·simp at ai
 have ab:row.set k ag=row:=List.ext_getElem? fun j=>by
  rw [List.getElem?_set]
  split
  ·rename_i e;subst e
   have:=(List.getElem?_eq_some_iff.1 R).1
   rw [if_pos this,R]
  ·rfl
 rw [ab]
 have:(fun q=>if q=r then some row else s.aK q)=s.aK:=by
  funext q;split
  ·rename_i e;rw [e,al]
  ·rfl
 show ({s with aK:=_}:S)=s
 rw [this]
theorem V8 {e:TypeId}{i:TypeInfo}{z:List ay}{d8:Value}(kZ:d8.cells.size=i.size)(mR:z.length=i.size)(i3:i.size≠0)
 (s9 : ∀(j:Nat) x,z[j]? = some x→ ∃v,d8.cells[j]? = some v∧jE v=true∧ ∀(w:World) (ok:Nat→Prop) (aY:iF) (a8:iu),Rel w ok aY a8 x v) (m:Nat) :
 (Builtin.zeroCells d8.cells m).toList.length=m*i.size∧(∀u∈(Builtin.zeroCells d8.cells m).toList,u.oneCell'=true) ∧
   ∀(j:Nat) x u,(List.replicate m z).flatten[j]? = some x→(Builtin.zeroCells d8.cells m).toList[j]? = some u→ ∀(w:World) (ok:Nat→Prop) (aY:iF) (a8:iu),Rel w ok aY a8 x u:=by
 have lj : ∀(j:Nat) u,(Builtin.zeroCells d8.cells m).toList[j]? = some u→d8.cells[j % i.size]? = some u:=by
  intro j u nk
  have aB:=(List.getElem?_eq_some_iff.1 nk).1
  rw [Array.length_toList,size_zeroCells,kZ] at aB
  have du:j % i.size<d8.cells.size:=by rw [kZ];exact Nat.mod_lt _ (by omega)
  rw [Array.getElem?_toList,Builtin.zeroCells,Array.getElem?_map,kZ,Array.getElem?_range] at nk
  rw [if_pos aB] at nk
  simp only [Option.map_some,Option.some.injEq] at nk
  rw [← nk,Array.getElem?_eq_getElem du,getElem!_pos d8.cells _ du]
 refine ⟨?_,?_,?_⟩
 ·rw [Array.length_toList,size_zeroCells,kZ]
 ·intro u qI
  obtain ⟨j,aB⟩:=List.getElem?_of_mem qI
  have o:=lj j u aB
  have du:j % i.size<z.length:=by rw [mR];exact Nat.mod_lt _ (by omega)
  obtain ⟨v,v1,v2,-⟩:=s9 _ _ (List.getElem?_eq_getElem du)
  rw [o] at v1
  obtain rfl:=Option.some.inj v1
  exact v2
 ·intro j x u aa nk
  rw [oJ (sz:=i.size) (by omega) _ (fun ec li=>by rw [List.mem_replicate] at li;rw [li.2,mR])] at aa
  have o:=lj j u nk
  cases bb:(List.replicate m z)[j / i.size]? with
  | none=>rw [bb] at aa;simp at aa
  | some ec =>
   have:=List.mem_of_getElem? bb
   rw [List.mem_replicate] at this
   rw [bb,this.2] at aa
   simp only [Option.bind_some] at aa
   obtain ⟨v,v1,-,v3⟩:=s9 _ _ aa
   rw [o] at v1
   obtain rfl:=Option.some.inj v1
   exact v3
theorem Xs (h:cE g s aw a w){r k len:Nat}{y:ay}{qS mY:Value}{t dm eh:TypeId}{cy:fi}(au:nj P s.E s.aK aS .copy [.bw r k 0 len,y] [t,dm] cy=some bp)(cq:∀p∈bp.e6,p)
 (aa:Rel w (s.ok g aw w) s.aY (s.a8 aw) (.bw r k 0 len) qS) (aP:Rel w (s.ok g aw w) s.aY (s.a8 aw) y mY) :
 ∃n bD,(Builtin.copy_ #[t,dm] eh #[qS,mY]).run P w = .ok (goInt n) bD∧cE g (s.hr bp.fr) aw a bD∧bp.val = .n .i64 n:=by
 simp only [nj] at au
 split at au
 ·simp at au
 ·rename_i e he
  have hu:=ra he
  split at au
  ·simp at au
  ·rename_i i ah
   split at au
   ·simp at au
   ·rename_i bu b3 qC
    split at au
    ·simp at au
    ·rename_i row dh
     split at au
     ·simp at au
     ·rename_i ag bf
      split at au
      ·rename_i uK
       obtain ⟨nl,eB,i3⟩:=uK
       simp only [Option.some.injEq] at au
       subst au
       have ai:s.ag r k=some ag:=by unfold S.ag;rw [dh];exact bf
       have hK:bu.length≤len:=cq _ (by simp)
       have hle:len≤ag.es.length:=cq _ (by simp)
       obtain ⟨A,c,rfl,hlen,J4⟩:=Oz h qC (fun p af=>cq p (by simp [af])) aP
       show ∃n bD,_∧cE g (s.setRow r (row.set k {ag with es:=bu++ag.es.drop bu.length})) aw a bD∧_
       by_cases h0:bu.length=0
       ·have uL:bu=[]:=List.length_eq_zero_iff.1 h0
        subst uL
        refine ⟨0,w,?_,?_,rfl⟩
        ·rcases aa.tY (hv ai) with ⟨-,-,rfl,rfl⟩|⟨b,M,hH,jV,-,rfl,-,-,-,-⟩
         ·cases A<;>simp [Builtin.copy_,run_underlying hu,sizeOf,typeInfo,ah,Builtin.lenOf,Builtin.firstCells,loadCells,loadCellsFrom]
         ·cases A<;>cases hH<;>simp [Builtin.copy_,run_underlying hu,sizeOf,typeInfo,ah,Builtin.lenOf,Builtin.firstCells,loadCells,loadCellsFrom,storeCells]
        ·rw [show ({ag with es:=[]++ag.es.drop ([]:List (List ay)).length}:aq)=ag from rfl,Ng dh bf];exact h
       ·obtain ⟨dJ,off,rfl,hN⟩:=J4.resolve_left h0
        obtain ⟨vs,v1,v2,v3,v4⟩:=hN.nf
        rw [← eB] at v1
        rcases aa.tY (hv ai) with ⟨-,-,rfl,-⟩|⟨b,M,hH,jV,af,rfl,qG,sg,dn,mg⟩
        ·exact absurd (Nat.le_zero.1 hK) h0
        ·have AK:hH=some ⟨b,0,none⟩:=by
          rcases mg with ch|ch
          ·exact absurd (show bu.length=0 by omega) h0
          ·simpa using ch
         subst AK
         obtain ⟨cb,lP,bF,cI,mv,rA,nY,-⟩:=h.putAt (p:=0) dh ai nl af (fun x aa=>by rw [hlen x aa,eB]) v1 v3 v4 (by omega) ag.es.length (fR:=bu++ag.es.drop bu.length)
          (by rw [List.take_zero,List.nil_append,Nat.zero_add];exact (List.take_of_length_le (by simp;omega)).symm)
         simp only [Nat.zero_mul,Nat.zero_add,List.take_zero,List.nil_append] at rA nY
         have aO:=run_firstCells_some (P:=P) w i.size bu.length ⟨dJ,off,none⟩ bu.length c vs (by rw [v1,eB]) v2
         have lG:=run_storeCells_at P b 0 lP vs 0 cb w bF (by simpa using rA) v3
         simp only [Nat.add_zero,List.take_zero,List.nil_append,Nat.zero_add] at lG
         refine ⟨bu.length,_,?_,nY,rfl⟩
         simp [Builtin.copy_,run_underlying hu,sizeOf,typeInfo,ah,Builtin.lenOf,Nat.min_eq_left hK,aO,lG]
      ·simp at au
theorem WD (h:cE g s aw a w){r k len:Nat}{qS:Value}{t eh:TypeId}{cy:fi}(au:nj P s.E s.aK aS .clear [.bw r k 0 len] [t] cy=some bp)(cq:∀p∈bp.e6,p)
 (aa:Rel w (s.ok g aw w) s.aY (s.a8 aw) (.bw r k 0 len) qS) :
 ∃bD,(Builtin.clear_ #[t] eh #[qS]).run P w = .ok (.tuple #[]) bD∧cE g (s.hr bp.fr) aw a bD∧bp.val = .cW []:=by
 simp only [nj] at au
 split at au
 ·simp at au
 ·rename_i e he
  have hu:=ra he
  split at au
  ·rename_i i z ah cn
   split at au
   ·simp at au
   ·rename_i row dh
    split at au
    ·simp at au
    ·rename_i ag bf
     split at au
     ·rename_i uK
      obtain ⟨nl,eB,mR,i3⟩:=uK
      simp only [Option.some.injEq] at au
      subst au
      have ai:s.ag r k=some ag:=by unfold S.ag;rw [dh];exact bf
      have hle:ag.es.length=len:=cq _ (by simp)
      show ∃bD,_∧cE g (s.setRow r (row.set k {ag with es:=List.replicate len z})) aw a bD∧_
      by_cases h0:len=0
      ·subst h0
       refine ⟨w,?_,?_,rfl⟩
       ·rcases aa.tY (hv ai) with ⟨-,-,-,rfl⟩|⟨b,M,hH,jV,-,rfl,-,-,-,-⟩
        ·simp [Builtin.clear_,run_underlying hu]
        ·cases hH<;>simp [Builtin.clear_,run_underlying hu]
       ·rw [show ({ag with es:=List.replicate 0 z}:aq)=ag by rw [List.replicate_zero,← List.length_eq_zero_iff.1 hle],Ng dh bf];exact h
      ·obtain ⟨eI,d8,iE,j3,rz,s9⟩:=zm cn
       rw [ah] at iE;simp at iE;subst iE
       have kZ:d8.cells.size=i.size:=by rw [← mR,rz];simp
       rcases aa.tY (hv ai) with ⟨-,-,rfl,-⟩|⟨b,M,hH,jV,af,rfl,qG,sg,dn,mg⟩
       ·exact absurd rfl h0
       ·have AK:hH=some ⟨b,0,none⟩:=by
         rcases mg with ch|ch
         ·exact absurd (show len=0 by omega) h0
         ·simpa using ch
        subst AK
        obtain ⟨v1,v3,v4⟩:=V8 (e:=e) kZ mR i3 s9 len
        rw [← eB] at v1
        obtain ⟨cb,lP,bF,cI,mv,rA,nY,-⟩:=h.putAt (p:=0) (bu:=List.replicate len z) dh ai nl af (fun x aa=>by rw [List.mem_replicate] at aa;rw [aa.2,mR,eB]) (by simpa using v1) v3 (fun j x u o R=>v4 j x u o R _ _ _ _)
         (by simp;omega) len (fR:=List.replicate len z)
         (by simp [hle])
        simp only [Nat.zero_mul,Nat.zero_add,List.take_zero,List.nil_append] at rA nY
        have lG:=run_storeCells_at P b 0 lP (Builtin.zeroCells d8.cells len).toList 0 cb w bF (by simpa using rA) v3
        simp only [Nat.add_zero,List.take_zero,List.nil_append,Nat.zero_add] at lG
        refine ⟨_,?_,nY,rfl⟩
        cases len with
        | zero=>exact absurd rfl h0
        | succ n=>simp [Builtin.clear_,run_underlying hu,zeroValue,typeInfo,ah,j3,lG]
     ·simp at au
  ·simp at au
end
section
variable {g:G} {s:S} {aw:e9} {a:Act} {w:World}
def lc (row:List aq):List aq:=row.map fun I=>if I.cm = .live then {I with cm:= .im} else I
theorem OA (row:List aq)(k:Nat):c7 (some (lc row)) k=(c7 (some row) k).map fun I=>if I.cm = .live then {I with cm:= .im} else I:=by
 simp only [c7,lc,List.getElem?_map]
 cases row[k]? with
 | none=>rfl
 | some I =>
  obtain ⟨sz,es,cm⟩:=I
  cases cm<;>simp
theorem cE.freeze (h:cE g s aw a w){r:Nat}{row:List aq}(al:s.aK r=some row):cE g (s.setRow r (lc row)) aw a w:=by
 have bf : ∀q k I,(s.setRow r (lc row)).ag q k=some I→ ∃p,s.ag q k=some p∧I.sz=p.sz∧I.es=p.es∧(I.cm = .live→p.cm = .live∧q≠r):=by
  intro q k I ai
  by_cases e:q=r
  ·subst e
   have:(s.setRow q (lc row)).aK q=some (lc row):=by simp [S.setRow]
   unfold S.ag at ai
   rw [this,OA] at ai
   rw [Option.map_eq_some_iff] at ai
   obtain ⟨p,af,rfl⟩:=ai
   refine ⟨p,by unfold S.ag;rw [al];exact af,?_⟩
   split<;>simp_all
  ·have:(s.setRow r (lc row)).aK q=s.aK q:=by simp [S.setRow,e]
   unfold S.ag at ai
   rw [this] at ai
   exact ⟨I,ai,rfl,rfl,fun aO=>⟨aO,e⟩⟩
 have iK : ∀q k,s.aY q k→(s.setRow r (lc row)).aY q k:=CE s al (by simp [lc])
 have kG : ∀q k,(s.setRow r (lc row)).a8 aw q k=s.a8 aw q k:=by
  intro q k
  by_cases e:q=r
  ·subst e
   simp only [S.a8,S.ag]
   have:(s.setRow q (lc row)).aK q=some (lc row):=by simp [S.setRow]
   rw [this,OA,al]
   cases c7 (some row) k with
   | none=>rfl
   | some I=>simp only [Option.map_some,Option.some.injEq,Prod.mk.injEq,and_true];split<;>rfl
  ·have:(s.setRow r (lc row)).aK q=s.aK q:=by simp [S.setRow,e]
   simp [S.a8,S.ag,this]
 have cS:Step g s aw w (s.setRow r (lc row)) aw w:=⟨iK,fun q k _=> .inl (kG q k),fun b aO=>by
  obtain ⟨q,k,I,m,o,R,ab⟩:=aO
  obtain ⟨p,gN,h7,qe,Bo⟩:=bf q k I o
  exact .inl ⟨q,k,p,m,gN,(Bo R).1,ab⟩,fun _ _ _=>rfl,Nat.le_refl _⟩
 refine {tohy:=⟨?_,?_,?_,h.gD,h.mlt,h.mO,?_,h.low⟩,env:=fun t=>cS.rel (h.env t),defers:=h.defers,i4:=h.i4}
 ·intro q k I ai
  obtain ⟨p,gN,h7,qe,-⟩:=bf q k I ai
  have af:=cS.obj (fun b m _=>rfl) (h.obj q k p gN)
  cases k5:aw q k with
  | none=>rw [k5] at af;simp only [iB] at af ⊢;rw [qe];exact af
  | some x =>
   obtain ⟨b,m⟩:=x
   rw [k5] at af
   obtain ⟨c,eh,ax,aC,bZ,c8⟩:=af
   exact ⟨c,eh,ax,aC,by rw [h7,qe];exact bZ,by rw [qe];exact c8⟩
 ·intro q k I g8 dt bY b m a1 o R ab aA
  obtain ⟨p,gN,-⟩:=bf q k I o
  obtain ⟨jM,abb,-⟩:=bf g8 dt bY R
  exact h.inj q k p g8 dt jM b m a1 gN abb ab aA
 ·intro q k I b m o R
  obtain ⟨p,gN,-⟩:=bf q k I o
  exact h.own q k p b m gN R
 ·intro j k aB
  obtain ⟨ax,aC⟩:=h.stay j k aB
  exact ⟨iK j k ax,by rw [kG];exact aC⟩
end
def xv (P:Program)(t:TypeId):Bool :=
 match P.underlying t with
 | some (.pointer _)=>true
 | _=>false
def x4 (P:Program)(E:Nat→ay)(aK:Nat→Option (List aq))(aS:Nat)(I:Oper)(cy:fi):Option g7 :=
 match I.op with
 | .call {callee:= .builtin b,args,argTypes}=>match b with
  | .len=>ez P E aK aS I cy
  | b=>nj P E aK aS b (args.toList.map (eu E)) argTypes.toList cy
 | .binOp op t x y _=>match cy,op,eu E x,eu E y with
  | .cT,.eql,.isl _ es,.d7=>if (pg P t).isSome then some {val:= .b false,e6:=[es≠[]]} else none
  | .cT,.neq,.isl _ es,.d7=>if (pg P t).isSome then some {val:= .b true,e6:=[es≠[]]} else none
  | .cT,.eql,.eb _ none,.hJ=>if xv P t then some {val:= .b true} else none
  | .cT,.neq,.eb _ none,.hJ=>if xv P t then some {val:= .b false} else none
  | .cT,.eql,.eb _ (some _),.hJ=>if xv P t then some {val:= .b false} else none
  | .cT,.neq,.eb _ (some _),.hJ=>if xv P t then some {val:= .b true} else none
  | .cT,_,_,_=>none
  | _,_,_,_=>ez P E aK aS I cy
 | .nilCheck x=>match cy,eu E x with
  | .cT,.eb sz (some c)=>some {val:= .ey sz [c] 0 0}
  | .cT,_=>none
  | _,_=>ez P E aK aS I cy
 | _=>ez P E aK aS I cy
section
variable {P:Program} {g:G} {s:S} {aw:e9} {a:Act} {w:World} {I:Oper} {cy:fi} {aS:Nat} {bp:g7}
theorem Dg {args:Array Operand}{E:Nat→ay}{x y:ay}(h:args.toList.map (eu E)=[x,y]): ∃p q,args = #[p,q]∧eu E p=x∧eu E q=y:=by
 obtain ⟨l⟩:=args
 match l,h with
 | [p,q],h=>simp at h;exact ⟨p,q,rfl,h.1,h.2⟩
theorem Yo {args:Array Operand}{E:Nat→ay}{x:ay}(h:args.toList.map (eu E)=[x]): ∃p,args = #[p]∧eu E p=x:=by
 obtain ⟨l⟩:=args
 match l,h with
 | [p],h=>simp at h;exact ⟨p,rfl,h⟩
theorem CU {t:TypeId}(h:xv P t=true): ∃e,P.underlying t=some (.pointer e):=by
 unfold xv at h
 split at h
 ·rename_i e he;exact ⟨e,he⟩
 ·simp at h
theorem WE (h:cE g s aw a w)(eC:s.aK aS=none)(au:x4 P s.E s.aK aS I cy=some bp)(cq:∀p∈bp.e6,p):Fin P g s a w I bp:=by
 unfold x4 at au
 split at au
 ·rename_i b args me ai
  split at au
  ·exact CT h eC au cq
  ·rename_i b aV
   unfold nj at au
   split at au
   ·rename_i x y t dm m Lg hargs nL
    have uu:nj P s.E s.aK aS .append [x,y] [t,dm] (.aZ m Lg)=some bp:=au
    obtain ⟨p,q,rfl,rfl,rfl⟩:=Dg hargs
    obtain ⟨l⟩:=me
    simp only at nL
    subst nL
    obtain ⟨v,bD,bG,o,R,ab⟩:=V7 (eh:=I.type) h eC uu cq (h.eval p) (h.eval q)
    exact ⟨v,bD,bG,.inl (by simp [execOp,ai,resolve,invoke,builtin,o]),R,ab⟩
   ·rename_i x y t dm hargs nL
    have uu:nj P s.E s.aK aS .append [x,y] [t,dm] .cT=some bp:=au
    obtain ⟨p,q,rfl,rfl,rfl⟩:=Dg hargs
    obtain ⟨l⟩:=me
    simp only at nL
    subst nL
    obtain ⟨v,bD,o,R,ab⟩:=Yn (eh:=I.type) h uu cq (h.eval p) (h.eval q)
    exact ⟨v,bD,aw,.inl (by simp [execOp,ai,resolve,invoke,builtin,o]),R,ab⟩
   ·rename_i cy r k len y t dm hargs nL
    have uu:nj P s.E s.aK aS .copy [.bw r k 0 len,y] [t,dm] cy=some bp:=au
    obtain ⟨p,q,rfl,af,rfl⟩:=Dg hargs
    obtain ⟨l⟩:=me
    simp only at nL
    subst nL
    have aa:=h.eval p
    rw [af] at aa
    obtain ⟨n,bD,o,R,ab⟩:=Xs (eh:=I.type) h uu cq aa (h.eval q)
    refine ⟨goInt n,bD,aw,.inl (by simp [execOp,ai,resolve,invoke,builtin,o]),R,?_⟩
    rw [ab];exact .n _ _
   ·rename_i cy r k len t hargs nL
    have uu:nj P s.E s.aK aS .clear [.bw r k 0 len] [t] cy=some bp:=au
    obtain ⟨p,rfl,af⟩:=Yo hargs
    obtain ⟨l⟩:=me
    simp only at nL
    subst nL
    have aa:=h.eval p
    rw [af] at aa
    obtain ⟨bD,o,R,ab⟩:=WD (eh:=I.type) h uu cq aa
    refine ⟨.tuple #[],bD,aw,.inl (by simp [execOp,ai,resolve,invoke,builtin,o]),R,?_⟩
    rw [ab];exact .cW [] rfl (fun j x u aB=>by simp at aB)
   ·rename_i k x dt y hargs
    split at au
    ·rename_i aJ
     simp only [Option.some.injEq] at au
     subst au;subst aJ
     obtain ⟨p,q,rfl,af,bb⟩:=Dg hargs
     have aa:=h.eval p
     have aP:=h.eval q
     rw [af] at aa;rw [bb] at aP
     refine ho (v:= .int k (if y<x then y else x)) h ?_ rfl (.n _ _)
     simp [execOp,ai,resolve,invoke,builtin,Builtin.min_,aa.nG,aP.nG,Builtin.min2]
    ·simp at au
   ·simp at au
 ·rename_i op t x y dm ai
  split at au
  ·rename_i sz es aa aP
   split at au
   ·rename_i he
    obtain ⟨e,he⟩:=Option.isSome_iff_exists.1 he
    simp only [Option.some.injEq] at au
    subst au
    have o:=h.eval x
    have R:=h.eval y
    rw [aa] at o;rw [aP] at R
    have cH:es≠[]:=cq _ (by simp)
    refine ho (v:= .bool false) h ?_ rfl (.b _)
    simp only [execOp,ai]
    rw [Sem.run_bind,(PG (w:=w) (ra he) cH o R x y).1];rfl
   ·simp at au
  ·rename_i sz es aa aP
   split at au
   ·rename_i he
    obtain ⟨e,he⟩:=Option.isSome_iff_exists.1 he
    simp only [Option.some.injEq] at au
    subst au
    have o:=h.eval x
    have R:=h.eval y
    rw [aa] at o;rw [aP] at R
    have cH:es≠[]:=cq _ (by simp)
    refine ho (v:= .bool true) h ?_ rfl (.b _)
    simp only [execOp,ai]
    rw [Sem.run_bind,(PG (w:=w) (ra he) cH o R x y).2];rfl
   ·simp at au
  ·rename_i sz aa aP
   split at au
   ·rename_i cr
    obtain ⟨e,he⟩:=CU cr
    simp only [Option.some.injEq] at au
    subst au
    have o:=h.eval x
    have R:=h.eval y
    rw [aa] at o;rw [aP] at R
    have x5:Rel w (s.ok g aw w) s.aY (s.a8 aw) .hJ (a.eval x):=by rw [o.Ox];exact .hJ
    refine ho (v:= .bool true) h ?_ rfl (.b _)
    simp only [execOp,ai]
    rw [Sem.run_bind,(xe (w:=w) (r:=true) (by simp [rm,he]) x5 R x y).1];rfl
   ·simp at au
  ·rename_i sz aa aP
   split at au
   ·rename_i cr
    obtain ⟨e,he⟩:=CU cr
    simp only [Option.some.injEq] at au
    subst au
    have o:=h.eval x
    have R:=h.eval y
    rw [aa] at o;rw [aP] at R
    have x5:Rel w (s.ok g aw w) s.aY (s.a8 aw) .hJ (a.eval x):=by rw [o.Ox];exact .hJ
    refine ho (v:= .bool false) h ?_ rfl (.b _)
    simp only [execOp,ai]
    rw [Sem.run_bind,(xe (w:=w) (r:=true) (by simp [rm,he]) x5 R x y).2];rfl
   ·simp at au
  ·rename_i sz c aa aP
   split at au
   ·rename_i cr
    obtain ⟨e,he⟩:=CU cr
    simp only [Option.some.injEq] at au
    subst au
    have o:=h.eval x
    have R:=h.eval y
    rw [aa] at o;rw [aP] at R
    refine ho (v:= .bool false) h ?_ rfl (.b _)
    simp only [execOp,ai]
    rw [Sem.run_bind,(xe (w:=w) (r:=false) (by simp [rm,he]) o.IA R x y).1];rfl
   ·simp at au
  ·rename_i sz c aa aP
   split at au
   ·rename_i cr
    obtain ⟨e,he⟩:=CU cr
    simp only [Option.some.injEq] at au
    subst au
    have o:=h.eval x
    have R:=h.eval y
    rw [aa] at o;rw [aP] at R
    refine ho (v:= .bool true) h ?_ rfl (.b _)
    simp only [execOp,ai]
    rw [Sem.run_bind,(xe (w:=w) (r:=false) (by simp [rm,he]) o.IA R x y).2];rfl
   ·simp at au
  ·simp at au
  ·exact CT h eC au cq
 ·rename_i x ai
  split at au
  ·rename_i sz c aa
   simp only [Option.some.injEq] at au
   subst au
   have o:=h.eval x
   rw [aa] at o
   have R:=o.IA
   obtain ⟨dJ,off,aV,hval,hN⟩:=R.xl
   refine ho (v:=a.eval x) h ?_ rfl R
   rw [hval]
   simp only [execOp,ai,hval]
   rfl
  ·simp at au
  ·exact CT h eC au cq
 ·exact CT h eC au cq
end
end Go.VL
namespace Go.VL
set_option linter.unusedVariables false
set_option linter.unusedSimpArgs false
open Go
theorem rI {es:List (List ay)}{j:Nat}{x:ay}(h:es.flatten[j]? = some x): ∃e∈es,x∈e:=by
 have:=List.mem_of_getElem? h
 rw [List.mem_flatten] at this
 obtain ⟨e,he,aa⟩:=this
 exact ⟨e,he,aa⟩
theorem Rel.pure {w:World}{ok ki:Nat→Prop}{aY mb:iF}{a8 lE:iu}{x:ay}{v:Value}(h:Rel w ok aY a8 x v)(af:Pure x)(mc:∀b,ok b→ki b):Rel w ki mb lE x v:=by
 induction h with
 | dead v=>exact .dead v
 | b x=>exact .b x
 | n k x=>exact .n k x
 | s x=>exact .s x
 | hJ=>exact .hJ
 | d7=>exact .d7
 | h2 a c=>exact .h2 a c
 | pc=>cases af
 | ref=>cases af
 | mG=>cases af
 | m4=>cases af
 | bw=>cases af
 | l7=>cases af
 | nc=>cases af
 | jI sz a c h=>exact .jI sz a c h
 | isl cs aV lk aO aN hw hk al ih =>
  cases af with
  | isl h=>exact .isl cs (mc _ aV) lk aO aN hw hk fun j x aa=>ih j x aa (by obtain ⟨e,he,p3⟩:=rI aa;exact h e he x p3)
 | ey cs aV lk aO hw hk al ih =>
  cases af with
  | ey h=>exact .ey cs (mc _ aV) lk aO hw hk fun j x aa=>ih j x aa (by obtain ⟨e,he,p3⟩:=rI aa;exact h e he x p3)
 | oN sz=>exact .oN sz
 | ov h ih =>
  cases af with
  | ov af=>exact .ov (ih (.ey fun e he x aa=>by rw [List.mem_singleton] at he;subst he;exact af x aa))
 | agg vs aO hk al ih =>
  cases af with
  | agg h=>exact .agg vs aO hk fun j x v aa a3=>ih j x v aa a3 (h x (List.mem_of_getElem? aa))
 | cW vs aO al ih =>
  cases af with
  | cW h=>exact .cW vs aO fun j x v aa a3=>ih j x v aa a3 (h x (List.mem_of_getElem? aa))
 | fn vs aO al ih =>
  cases af with
  | fn h=>exact .fn vs aO fun j x v aa a3=>ih j x v aa a3 (h x (List.mem_of_getElem? aa))
abbrev gf:=Nat→Nat→Option (Nat×Nat)
structure Down (q:ay→Prop):Prop where
 agg : ∀c x,q (.agg c)→x∈c→q x
 cW : ∀c x,q (.cW c)→x∈c→q x
 fn : ∀f c x,q (.fn f c)→x∈c→q x
inductive ha (s:S) (aM:gf) (bN:fK→Bool) (q:ay→Prop):ay→ay→Prop
 | dead (x:ay):ha s aM bN q x .dead
 | pure {x:ay} (h:Pure x) (bb:q x):ha s aM bN q x x
 | d7 (sz:Nat):ha s aM bN q .d7 (.isl sz [])
 | h2 (sz:Nat):ha s aM bN q .h2 (.isl sz [])
 | DG (sz:Nat):ha s aM bN q .hJ (.eb sz none)
 | eb {sz:Nat} {x:ay} {c:List ay} (h:ha s aM bN q x (.ey sz [c] 0 0)):ha s aM bN q x (.eb sz (some c))
 | ref {r k j eI:Nat} (i off:Nat) (h:aM j eI=some (r,k)) (hu:s.aY r k):ha s aM bN q (.ref r k i off) (.ref j eI i off)
 | bw {r k j eI:Nat} (bV len:Nat) (h:aM j eI=some (r,k)) (hu:s.aY r k):ha s aM bN q (.bw r k bV len) (.bw j eI bV len)
 | l7 (r c sz:Nat):ha s aM bN q (.h3 r c sz none) (.isl sz [])
 | nc {r c sz k n:Nat} {cC:ay} (h:ha s aM bN q (.bw r (k+c) 0 n) cC):ha s aM bN q (.h3 r c sz (some (k,n))) cC
 | h3 {r ei c dI sz:Nat} (h:Option (Nat×Nat)) (hm : ∀k,aM ei (k+dI)=some (r,k+c)):ha s aM bN q (.h3 r c sz h) (.h3 ei dI sz h)
 | ey {r k:Nat} {I:aq} {fR:List (List ay)} (i off:Nat) (ai:s.ag r k=some I) (bE:bN I.cm=true) (al:(∀j i,aM j i≠some (r,k))) (cH:I.es≠[]) (af:hc fR) (hle : ∀e∈fR,e.length=I.sz) (aO:fR.length=I.es.length)
  (h : ∀(j:Nat) x cC,I.es.flatten[j]? = some x→fR.flatten[j]? = some cC→ha s aM bN q x cC):ha s aM bN q (.ref r k i off) (.ey I.sz fR i off)
 | isl {r k bV len:Nat} {I:aq} {fR:List (List ay)} (ai:s.ag r k=some I) (bE:bN I.cm=true) (al:(∀j i,aM j i≠some (r,k))) (hK:bV+len≤I.es.length) (af:hc fR) (hle : ∀e∈fR,e.length=I.sz) (aO:fR.length=len)
  (h : ∀(j:Nat) x cC,((I.es.drop bV).take len).flatten[j]? = some x→fR.flatten[j]? = some cC→ha s aM bN q x cC):ha s aM bN q (.bw r k bV len) (.isl I.sz fR)
 | agg {c dI:List ay} (aO:dI.length=c.length) (h : ∀(j:Nat) x cC,c[j]? = some x→dI[j]? = some cC→ha s aM bN q x cC):ha s aM bN q (.agg c) (.agg dI)
 | cW {c dI:List ay} (aO:dI.length=c.length) (h : ∀(j:Nat) x cC,c[j]? = some x→dI[j]? = some cC→ha s aM bN q x cC):ha s aM bN q (.cW c) (.cW dI)
 | fn {f:Nat} {c dI:List ay} (aO:dI.length=c.length) (h : ∀(j:Nat) x cC,c[j]? = some x→dI[j]? = some cC→ha s aM bN q x cC):ha s aM bN q (.fn f c) (.fn f dI)
theorem q5 {sz:Nat}: ∀(es:List (List ay)),(∀e∈es,e.length=sz)→es.flatten.length=es.length*sz
 | [],_=>by simp
 | e::es,h=>by
  rw [List.flatten_cons,List.length_append,q5 es fun x aa=>h x (by simp [aa]),h e (by simp),List.length_cons,Nat.add_mul];omega
theorem fI {α:Type}{l:List α}{j:Nat}{x:α}(h:l[j]? = some x):j<l.length:=by
 rcases Nat.lt_or_ge j l.length with ch|ch
 ·exact ch
 ·rw [List.getElem?_eq_none ch] at h;simp at h
theorem ha.rel {g:G}{s:S}{aw:e9}{w:World}{aM:gf}{bN:fK→Bool}{q:ay→Prop}(dn:hy g s aw w){ki:Nat→Prop}{mb:iF}{lE:iu}
 (H1 : ∀x v,q x→Pure x→Rel w (s.ok g aw w) s.aY (s.a8 aw) x v→Rel w ki mb lE x v)
 (EC : ∀r k I b m,s.ag r k=some I→bN I.cm=true→(∀j i,aM j i≠some (r,k))→aw r k=some (b,m)→ki b)
 (Bp : ∀j i r k,aM j i=some (r,k)→s.aY r k→mb j i∧(lE j i=s.a8 aw r k∨lE j i=none)) {x cC:ay} (bX:ha s aM bN q x cC) :
 ∀ {v:Value},Rel w (s.ok g aw w) s.aY (s.a8 aw) x v→Rel w ki mb lE cC v:=by
 induction bX with
 | dead x=>intro v _;exact .dead v
 | pure af bb=>intro v al;exact H1 _ v bb af al
 | d7 sz=>intro v al;rw [al.pb];exact .jI sz none 0 (fun _=>rfl)
 | h2 sz=>intro v al;obtain ⟨a,c,rfl⟩:=al.De;exact .jI sz (some a) c (fun h=>by simp at h)
 | DG sz=>intro v al;rw [al.tX];exact .oN sz
 | eb h ih=>intro v al;exact .ov (ih al)
 | @ref r k j eI i off aB hu =>
  intro v al
  obtain ⟨o,R⟩:=Bp j eI r k aB hu
  cases al with
  | pc a nP a5 =>
   refine .pc a o fun sz p=> ?_
   rcases R with e|e<;>rw [e]
   ·exact a5 sz p
   ·simp
  | ref nP cr =>
   rcases R with e|e
   ·exact .ref o (e.trans cr)
   ·exact .pc _ o fun sz p=>by rw [e];simp
 | @bw r k j eI bV len aB hu =>
  intro v al
  obtain ⟨o,R⟩:=Bp j eI r k aB hu
  cases al with
  | mG a l c nP a5 =>
   refine .mG a l c o ?_
   rcases R with e|e<;>rw [e]
   exact a5
  | m4 nP cr =>
   rcases R with e|e
   ·exact .m4 o (e.trans cr)
   ·exact .mG _ _ _ o e
  | bw nP cr aO aN hm =>
   rcases R with e|e
   ·exact .bw o (e.trans cr) aO aN hm
   ·exact .mG _ _ _ o e
 | l7 r c sz =>
  intro v al
  cases al with
  | l7 h0 =>
   rcases h0.rR with ⟨-,a,c,rfl,bE⟩|⟨dJ,off,c,-,rfl,-⟩
   ·exact .jI sz a c bE
   ·exact .jI sz _ c (fun h=>by simp at h)
 | nc h ih =>
  intro v al
  cases al with
  | nc h0=>exact ih h0
 | @h3 r ei c dI sz h hm =>
  intro v al
  cases al with
  | l7 h0 =>
   rcases h0.rR with ⟨-,a,c,rfl,bE⟩|⟨dJ,off,c,-,rfl,-⟩
   ·exact .l7 (.jI sz a c bE)
   ·exact .l7 (.jI sz _ c (fun h=>by simp at h))
  | @nc _ _ _ k n _ h0 =>
   refine .nc ?_
   cases h0 with
   | mG a l bF nP a5 =>
    obtain ⟨o,R⟩:=Bp _ _ _ _ (hm k) nP
    refine .mG a l bF o ?_
    rcases R with e|e<;>rw [e]
    exact a5
   | m4 nP cr =>
    obtain ⟨o,R⟩:=Bp _ _ _ _ (hm k) nP
    rcases R with e|e
    ·exact .m4 o (e.trans cr)
    ·exact .mG _ _ _ o e
   | bw nP cr aO aN mg =>
    obtain ⟨o,R⟩:=Bp _ _ _ _ (hm k) nP
    rcases R with e|e
    ·exact .bw o (e.trans cr) aO aN mg
    ·exact .mG _ _ _ o e
 | @ey r k I fR i off ai bE al cH J7 hle aO h ih =>
  intro v a3
  have e3:=dn.obj r k I ai
  rcases a3.uc (hv ai) with h0|⟨b,m,af,hval⟩
  ·rw [h0] at e3;exact absurd e3 cH
  ·rw [af] at e3
   have hN:=e3.rd
   rw [hval]
   have i5:fR.flatten.length=I.es.flatten.length:=by rw [q5 fR hle,q5 I.es hN.1,aO]
   have uy:nX w ki mb lE b 0 I.sz fR:=by
    refine ⟨hle,fun j cC dr=> ?_⟩
    have du:j<I.es.flatten.length:=by rw [← i5];exact fI dr
    have aa:I.es.flatten[j]? = some I.es.flatten[j]:=List.getElem?_eq_getElem du
    obtain ⟨u,ax,aC,bZ⟩:=hN.2 j _ aa
    exact ⟨u,ax,aC,ih j _ cC aa dr bZ⟩
   have:=uy.ey (i:=i) (off:=off) ⟨EC r k I b m ai bE al af,J7⟩
   rw [Nat.zero_add] at this
   exact this
 | @isl r k bV len I fR ai bE al hK J7 hle aO h ih =>
  intro v a3
  have e3:=dn.obj r k I ai
  rcases a3.zG (hv ai) with ⟨af,rfl,rfl,hval⟩|⟨b,m,A,c,af,hval,qG,sg,hm⟩
  ·have:fR=[]:=List.length_eq_zero_iff.1 aO
   subst this
   rw [hval];exact .jI _ none 0 (fun _=>rfl)
  ·rw [af] at e3
   rw [hval]
   rcases Nat.eq_zero_or_pos len with h0|i3
   ·subst h0
    have:fR=[]:=List.length_eq_zero_iff.1 aO
    subst this
    exact .jI _ A c (fun a5=>by rcases hm with o|⟨o,-⟩<;>simp_all)
   ·rcases hm with hm|⟨hA,hm⟩
    ·omega
    ·subst hA
     have hN:=CF e3.rd bV len (by omega)
     rw [Nat.zero_add] at hN
     have i5:fR.flatten.length=((I.es.drop bV).take len).flatten.length:=by
      rw [q5 fR hle,q5 _ hN.1,aO,List.length_take,List.length_drop,Nat.min_eq_left (by omega)]
     have uy:nX w ki mb lE b (bV*I.sz) I.sz fR:=by
      refine ⟨hle,fun j cC dr=> ?_⟩
      have du:j<((I.es.drop bV).take len).flatten.length:=by rw [← i5];exact fI dr
      have aa:=List.getElem?_eq_getElem du
      obtain ⟨u,ax,aC,bZ⟩:=hN.2 j _ aa
      exact ⟨u,ax,aC,ih j _ cC aa dr bZ⟩
     have:=uy.isl (c:=c) ⟨EC r k I b m ai bE al af,J7⟩ (by omega)
     rw [aO] at this
     exact this
 | @agg c dI aO h ih =>
  intro v a3
  obtain ⟨vs,rfl,o,R,ab⟩:=a3.xj
  refine .agg vs (by omega) R fun j cC u dr hu=> ?_
  have du:j<c.length:=by have:=fI dr;omega
  exact ih j _ cC (List.getElem?_eq_getElem du) dr (ab j _ u (List.getElem?_eq_getElem du) hu)
 | @cW c dI aO h ih =>
  intro v a3
  obtain ⟨vs,rfl,o,ab⟩:=a3.xk
  refine .cW vs (by omega) fun j cC u dr hu=> ?_
  have du:j<c.length:=by have:=fI dr;omega
  exact ih j _ cC (List.getElem?_eq_getElem du) dr (ab j _ u (List.getElem?_eq_getElem du) hu)
 | @fn f c dI aO h ih =>
  intro v a3
  obtain ⟨vs,rfl,o,ab⟩:=a3.Du
  refine .fn vs (by omega) fun j cC u dr hu=> ?_
  have du:j<c.length:=by have:=fI dr;omega
  exact ih j _ cC (List.getElem?_eq_getElem du) dr (ab j _ u (List.getElem?_eq_getElem du) hu)
structure nQ (s:S) (aM:gf) (bN:fK→Bool) (q:ay→Prop) (I bY:aq):Prop where
 sz:bY.sz=I.sz
 cm:bY.cm=I.cm∨(bY.cm = .im∧I.cm = .live)∨bY.cm = .gone
 len:bY.es.length=I.es.length
 each : ∀e∈bY.es,e.length=I.sz
 at_ : ∀(j:Nat) x cC,I.es.flatten[j]? = some x→bY.es.flatten[j]? = some cC→ha s aM bN q x cC
structure pt (s:S) (aM:gf) (bN:fK→Bool) (q:ay→Prop) (gR:Nat→Option (List aq)):Prop where
 inj : ∀j i hl eI p,aM j i=some p→aM hl eI=some p→j=hl∧i=eI
 at_ : ∀j i bY,c7 (gR j) i=some bY→ ∃r k I,aM j i=some (r,k)∧s.ag r k=some I∧nQ s aM bN q I bY
 aY : ∀j i r k,aM j i=some (r,k)→s.aY r k→i<((gR j).getD []).length
def i6 (aw:e9)(aM:gf):e9:=fun j i=>match aM j i with
 | some (r,k)=>aw r k
 | none=>none
theorem xw {aw:e9}{aM:gf}{j i r k:Nat}(h:aM j i=some (r,k)):i6 aw aM j i=aw r k:=by simp [i6,h]
def ll (_:ay):Prop:=True
theorem ZO:Down ll:=⟨fun _ _ _ _=>trivial,fun _ _ _ _=>trivial,fun _ _ _ _ _=>trivial⟩
section
variable {g:G} {s:S} {aw:e9} {w:World} {aM:gf} {bN:fK→Bool} {q:ay→Prop} {bI:S}
theorem pt.ag (h:pt s aM bN q bI.aK){j i:Nat}{bY:aq}(ai:bI.ag j i=some bY): ∃r k I,aM j i=some (r,k)∧s.ag r k=some I∧nQ s aM bN q I bY:=h.at_ j i bY ai
theorem Pb {I bY:aq}(h:nQ s aM bN q I bY)(aO:bY.cm = .live):I.cm = .live:=by
 rcases h.cm with e|⟨e,-⟩|e
 ·exact e.symm.trans aO
 ·rw [e] at aO;simp at aO
 ·rw [e] at aO;simp at aO
theorem pt.live (h:pt s aM bN q bI.aK)(b:Nat)(aO:bI.lb (i6 aw aM) b): ∃r k I m,s.ag r k=some I∧I.cm = .live∧aw r k=some (b,m)∧ ∃j i,aM j i=some (r,k):=by
 obtain ⟨j,i,bY,m,o,R,ab⟩:=aO
 obtain ⟨r,k,I,ax,aC,bZ⟩:=h.ag o
 rw [xw ax] at ab
 exact ⟨r,k,I,m,aC,Pb bZ R,ab,j,i,ax⟩
theorem pt.Ea (h:pt s aM bN q bI.aK){j i r k:Nat}(aB:aM j i=some (r,k)):bI.a8 (i6 aw aM) j i=s.a8 aw r k∨bI.a8 (i6 aw aM) j i=none:=by
 cases ai:bI.ag j i with
 | none=>right;simp [S.a8,ai]
 | some bY =>
  obtain ⟨ei,dt,I,ax,aC,bZ⟩:=h.ag ai
  rw [aB] at ax;simp only [Option.some.injEq,Prod.mk.injEq] at ax
  obtain ⟨rfl,rfl⟩:=ax
  left
  rw [hv ai,hv aC,bZ.sz,xw aB]
theorem hy.Lh (dn:hy g s aw w)(h:pt s aM bN q bI.aK){fC:G}(aJ:Ae fC w)(z0:∀j k,fC.oB j k→bI.aY j k∧(bI.a8 (i6 aw aM) j k=fC.qE j k∨bI.a8 (i6 aw aM) j k=none))(JD:∀j k,fC.oB j k→j<fC.m)
 (aao : ∀b,fC.o0 b→b<fC.lX.heap.size) (halt : ∀b,fC.A b→b<fC.lX.heap.size)
 (JE : ∀r k I b m,(∃j i,aM j i=some (r,k))→s.ag r k=some I→aw r k=some (b,m)→fC.lX.heap.size≤b∨fC.o0 b)
 (H1 : ∀b,s.ok g aw w b→bI.ok fC (i6 aw aM) w b)
 (EC : ∀r k I b m,s.ag r k=some I→bN I.cm=true→(∀j i,aM j i≠some (r,k))→aw r k=some (b,m)→bI.ok fC (i6 aw aM) w b) :
 hy fC bI (i6 aw aM) w∧ ∀ {x cC:ay} {v:Value},ha s aM bN q x cC→Rel w (s.ok g aw w) s.aY (s.a8 aw) x v→Rel w (bI.ok fC (i6 aw aM) w) bI.aY (bI.a8 (i6 aw aM)) cC v:=by
 have e3 : ∀ {x cC:ay} {v:Value},ha s aM bN q x cC→Rel w (s.ok g aw w) s.aY (s.a8 aw) x v→Rel w (bI.ok fC (i6 aw aM) w) bI.aY (bI.a8 (i6 aw aM)) cC v :=
  fun bX al=>bX.rel dn (fun x v _ af al=>al.pure af H1) EC (fun j i r k aB hu=>⟨h.aY j i r k aB hu,h.Ea aB⟩) al
 refine ⟨⟨?_,?_,?_,aJ,aao,halt,z0,JD⟩,e3⟩
 ·intro j k bY dA
  obtain ⟨r,dt,I,ax,aC,bZ⟩:=h.ag dA
  have bf:=dn.obj r dt I aC
  rw [xw ax]
  cases af:aw r dt with
  | none =>
   rw [af] at bf
   simp only [iB] at bf ⊢
   apply List.length_eq_zero_iff.1
   rw [bZ.len,bf];rfl
  | some q =>
   obtain ⟨b,m⟩:=q
   rw [af] at bf
   obtain ⟨c,eh,o,R,ab,aA⟩:=bf
   have i5:bY.es.flatten.length=I.es.flatten.length:=by rw [q5 _ bZ.each,q5 _ ab,bZ.len]
   refine ⟨c,eh,o,R,by rw [bZ.sz];exact bZ.each,fun i cC dr=> ?_⟩
   have du:i<I.es.flatten.length:=by rw [← i5];exact fI dr
   have aa:=List.getElem?_eq_getElem du
   obtain ⟨u,f1,f2,f3⟩:=aA i _ aa
   exact ⟨u,f1,f2,e3 (bZ.at_ i _ cC aa dr) f3⟩
 ·intro j k I hl dt bY b m a1 o R ab aA
  obtain ⟨r,ka,p,ax,aC,-⟩:=h.ag o
  obtain ⟨ei,abc,jM,mj,oR,-⟩:=h.ag R
  rw [xw ax] at ab
  rw [xw mj] at aA
  obtain ⟨rfl,rfl⟩:=dn.inj r ka p ei abc jM b m a1 aC oR ab aA
  exact h.inj _ _ _ _ _ ax mj
 ·intro j k I b m o R
  obtain ⟨r,ka,p,ax,aC,-⟩:=h.ag o
  rw [xw ax] at R
  exact JE r ka p b m ⟨j,k,ax⟩ aC R
theorem cE.Pc {a:Act}(h:cE g s aw a w)(cJ:pt s aM (fun _=>true) q bI.aK)(dW:∀t,ha s aM (fun _=>true) q (s.E t) (bI.E t))(Ap:∀j k,g.oB j k→aM j k=some (j,k)):cE g bI (i6 aw aM) a w:=by
 have gM : ∀b,bI.lb (i6 aw aM) b→s.lb aw b:=fun b aO=>by
  obtain ⟨r,k,I,m,o,R,ab,-⟩:=cJ.live b aO
  exact ⟨r,k,I,m,o,R,ab⟩
 have z0 : ∀j k,g.oB j k→bI.aY j k∧(bI.a8 (i6 aw aM) j k=g.qE j k∨bI.a8 (i6 aw aM) j k=none):=by
  intro j k aB
  obtain ⟨ax,aC⟩:=h.stay j k aB
  refine ⟨cJ.aY j k j k (Ap j k aB) ax,?_⟩
  rcases cJ.Ea (aw:=aw) (Ap j k aB) with e|e
  ·rw [e];exact aC
  ·exact .inr e
 obtain ⟨o,R⟩:=h.tohy.Lh cJ h.gD z0 h.low h.mlt h.mO (fun r k I b m _ ai af=>h.own r k I b m ai af)
  (fun b aV=>⟨aV.1,aV.2.1,fun aO=>aV.2.2 (gM b aO)⟩)
  (fun r k I b m ai _ al af=>by
    have bf:=h.obj r k I ai
    rw [af] at bf
    obtain ⟨c,eh,ax,-⟩:=bf
    refine ⟨(Array.getElem?_eq_some_iff.1 ax).1,?_,fun aO=> ?_⟩
    ·rcases h.own r k I b m ai af with e|e
     ·exact .inr (.inl e)
     ·exact .inr (.inr e)
    ·obtain ⟨ei,dt,bY,a1,f1,f2,f3,⟨Bq,sv,f4⟩⟩:=cJ.live b aO
     obtain ⟨rfl,rfl⟩:=h.inj r k I ei dt bY b m a1 ai f1 af f3
     exact al Bq sv f4)
 exact {tohy:=o,env:=fun t=>R (dW t) (h.env t),defers:=h.defers,i4:=h.i4}
end
end Go.VL
namespace Go.VL
set_option linter.unusedVariables false
set_option linter.unusedSimpArgs false
open Go
def eL (T:List (List aq)):S:={E:=fun _=> .dead,aK:=fun r=>T[r]?}
def ZP (P:Program)(f:FuncId)(args:List ay)(T:List (List aq))(r:ay)(iO:List (List aq)):Prop :=
 ∀(g:G) (aw:e9) (w:World) (vs:Array Value),g.lX=w→g.m=T.length→g.oB=(eL T).aY→g.qE=(eL T).a8 aw→hy g (eL T) aw w→vs.size=args.length →
  (∀(j:Nat) x v,args[j]? = some x→vs[j]? = some v→Rel w ((eL T).ok g aw w) (eL T).aY ((eL T).a8 aw) x v) →
  Calls P f vs w fun e bD=> ∃v bG,e = .returned v∧hy g (eL iO) bG bD∧Rel bD ((eL iO).ok g bG bD) (eL iO).aY ((eL iO).a8 bG) r v
inductive cp:ay→Prop
 | dead:cp .dead
 | b (x:Bool):cp (.b x)
 | n (k:IntKind) (x:Int):cp (.n k x)
 | s (x:ByteArray):cp (.s x)
 | hJ:cp .hJ
 | d7:cp .d7
 | h2:cp .h2
 | jI (sz:Nat):cp (.isl sz [])
 | ref (r k i off:Nat):cp (.ref r k i off)
 | bw (r k bV len:Nat):cp (.bw r k bV len)
 | h3 (r c sz:Nat) (h:Option (Nat×Nat)):cp (.h3 r c sz h)
 | agg {c:List ay} (h : ∀x∈c,cp x):cp (.agg c)
 | cW {c:List ay} (h : ∀x∈c,cp x):cp (.cW c)
theorem ZQ:Down cp:=⟨fun _ _ h aa=>by cases h with|agg h=>exact h _ aa,fun _ _ h aa=>by cases h with|cW h=>exact h _ aa,fun _ _ _ h=>by cases h⟩
theorem Rel.c9 {w bD:World}{ok ki:Nat→Prop}{aY mb:iF}{a8 lE:iu}{x:ay}(bX:cp x): ∀ {v:Value},Pure x→Rel w ok aY a8 x v→Rel bD ki mb lE x v:=by
 induction bX with
 | dead=>intro v _ h;exact .dead v
 | b x=>intro v _ h;rw [h.sU];exact .b x
 | n k x=>intro v _ h;rw [h.nG];exact .n k x
 | s x=>intro v _ h;rw [h.xE];exact .s x
 | hJ=>intro v _ h;rw [h.tX];exact .hJ
 | d7=>intro v _ h;rw [h.pb];exact .d7
 | h2=>intro v _ h;obtain ⟨a,c,rfl⟩:=h.De;exact .h2 a c
 | jI sz =>
  intro v _ h
  rcases h.rR with ⟨-,a,c,rfl,bE⟩|⟨dJ,off,c,-,rfl,-⟩
  ·exact .jI sz a c bE
  ·exact .jI sz _ c (fun h=>by simp at h)
 | ref=>intro v af;cases af
 | bw=>intro v af;cases af
 | h3=>intro v af;cases af
 | @agg c aN ih =>
  intro v af h
  obtain ⟨vs,rfl,o,R,ab⟩:=h.xj
  cases af with
  | agg af=>exact .agg vs o R fun j x u aa hu=>ih x (List.mem_of_getElem? aa) (af x (List.mem_of_getElem? aa)) (ab j x u aa hu)
 | @cW c aN ih =>
  intro v af h
  obtain ⟨vs,rfl,o,ab⟩:=h.xk
  cases af with
  | cW af=>exact .cW vs o fun j x u aa hu=>ih x (List.mem_of_getElem? aa) (af x (List.mem_of_getElem? aa)) (ab j x u aa hu)
section
variable {P:Program} {g:G} {s:S} {aw:e9} {a:Act} {w:World}
theorem zP (h:hy g s aw w){r k b m:Nat}{I:aq}(ai:s.ag r k=some I)(af:aw r k=some (b,m)):b<w.heap.size:=by
 have:=h.obj r k I ai
 rw [af] at this
 obtain ⟨c,eh,e,-⟩:=this
 exact (Array.getElem?_eq_some_iff.1 e).1
theorem Y0 (h:hy g s aw w){r k b m:Nat}{I:aq}(ai:s.ag r k=some I)(aJ:I.cm = .im)(af:aw r k=some (b,m)):s.ok g aw w b:=by
 refine ⟨zP h ai af,?_,?_⟩
 ·rcases h.own r k I b m ai af with e|e
  ·exact .inr (.inl e)
  ·exact .inr (.inr e)
 ·rintro ⟨ei,dt,bY,a1,o,R,ab⟩
  obtain ⟨rfl,rfl⟩:=h.inj r k I ei dt bY b m a1 ai o af ab
  rw [ai] at o;simp at o;subst o;rw [aJ] at R;simp at R
theorem enter (h:hy g s aw w){aM:gf}{bN:fK→Bool}{q:ay→Prop}{T:List (List aq)}(A:Nat→Prop)
 (hA : ∀b,A b→b<w.heap.size) (J8 : ∀b,s.ok g aw w b→A b)
 (J9 : ∀r k I b m,s.ag r k=some I→bN I.cm=true→aw r k=some (b,m)→A b)
 (cJ:pt s aM bN q (eL T).aK) (pf : ∀r k I,(∃j i,aM j i=some (r,k))→s.ag r k=some I→I.cm = .live) :
 ∃fC:G,fC.lX=w∧fC.A=A∧fC.m=T.length∧fC.oB=(eL T).aY∧fC.qE=(eL T).a8 (i6 aw aM) ∧
  (fC.o0=fun b=> ∃r k I m,(∃j i,aM j i=some (r,k))∧s.ag r k=some I∧aw r k=some (b,m))∧hy fC (eL T) (i6 aw aM) w ∧
  ∀ {x cC:ay} {v:Value},ha s aM bN q x cC→Rel w (s.ok g aw w) s.aY (s.a8 aw) x v→Rel w ((eL T).ok fC (i6 aw aM) w) (eL T).aY ((eL T).a8 (i6 aw aM)) cC v:=by
 let fC:G:={lX:=w,A:=A,o0:=fun b=> ∃r k I m,(∃j i,aM j i=some (r,k))∧s.ag r k=some I∧aw r k=some (b,m),N:=0,m:=T.length,oB:=(eL T).aY,qE:=(eL T).a8 (i6 aw aM)}
 refine ⟨fC,rfl,rfl,rfl,rfl,rfl,rfl,?_⟩
 have gM : ∀b,(eL T).lb (i6 aw aM) b→ ∃r k I m,s.ag r k=some I∧I.cm = .live∧aw r k=some (b,m)∧ ∃j i,aM j i=some (r,k):=fun b aO=>cJ.live b aO
 refine hy.Lh (bI:=eL T) (fC:=fC) h cJ ⟨rfl,rfl,rfl,Nat.le_refl _,fun _ _ _=>rfl⟩ (fun j k aB=>⟨aB,.inl rfl⟩) ?_ ?_ hA ?_ ?_ ?_
 ·intro j k aB
  have aB:k<((T[j]?).getD []).length:=aB
  rcases Nat.lt_or_ge j T.length with o|o
  ·exact o
  ·rw [List.getElem?_eq_none o] at aB;simp at aB
 ·rintro b ⟨r,k,I,m,-,ai,af⟩
  exact zP h ai af
 ·intro r k I b m hm ai af
  exact .inr ⟨r,k,I,m,hm,ai,af⟩
 ·intro b aV
  refine ⟨aV.1,.inl (J8 b aV),fun aO=> ?_⟩
  obtain ⟨r,k,I,m,o,R,ab,-⟩:=gM b aO
  exact aV.2.2 ⟨r,k,I,m,o,R,ab⟩
 ·intro r k I b m ai bE al af
  refine ⟨zP h ai af,.inl (J9 r k I b m ai bE af),fun aO=> ?_⟩
  obtain ⟨ei,dt,bY,a1,o,R,ab,⟨j,i,aB⟩⟩:=gM b aO
  obtain ⟨rfl,rfl⟩:=h.inj r k I ei dt bY b m a1 ai o af ab
  exact al j i aB
theorem leave (h:cE g s aw a w){bD:World}{aM kb:gf}{bN:fK→Bool}{q0 q:ay→Prop}{fC:G}{T db:List (List aq)}{km:e9}
 (dy:fC.lX=w) (hA:(∀b,fC.A b→s.ok g aw w b)∨(∀x,q x→cp x)) (uM:fC.oB=(eL T).aY) (kG:fC.qE=(eL T).a8 (i6 aw aM))
 (dn:fC.o0=fun b=> ∃r k I m,(∃j i,aM j i=some (r,k))∧s.ag r k=some I∧aw r k=some (b,m))
 (pf : ∀r k I,(∃j i,aM j i=some (r,k))→s.ag r k=some I→I.cm = .live)
 (cJ:pt s aM bN q0 (eL T).aK) (o:hy fC (eL db) km bD)
 (z1 : ∀j i r k,aM j i=some (r,k)→kb r k=some (j,i)) (DU : ∀r k j i,kb r k=some (j,i)→aM j i=some (r,k)∨ ¬s.aY r k)
 (aap : ∀r k ei dt p,kb r k=some p→kb ei dt=some p→r=ei∧k=dt)
 {s2:S} (dW:s2.E=s.E)
 (bf : ∀r k I,s2.ag r k=some I→(∃j i p,kb r k=some (j,i)∧(eL db).ag j i=some p∧nQ (eL db) kb (fun _=>false) q p I)∨(kb r k=none∧s.ag r k=some I))
 (iK : ∀r k,s.aY r k→s2.aY r k) (aaq : ∀r k j i,kb r k=some (j,i)→(eL db).aY j i→s2.aY r k)
 {x cC:ay} {v:Value} (aa:ha (eL db) kb (fun _=>false) q x cC) (a3:Rel bD ((eL db).ok fC km bD) (eL db).aY ((eL db).a8 km) x v) :
 ∃kM,cE g s2 kM a bD∧Rel bD (s2.ok g kM bD) s2.aY (s2.a8 kM) cC v:=by
 let kM:e9:=fun r k=>match kb r k with|some (j,i)=>km j i|none=>aw r k
 have gN : ∀r k j i,kb r k=some (j,i)→kM r k=km j i:=fun r k j i e=>by simp [kM,e]
 have h7 : ∀r k,kb r k=none→kM r k=aw r k:=fun r k e=>by simp [kM,e]
 have aJ:=o.gD
 have eB:w.heap.size≤bD.heap.size:=by have:=aJ.size;rw [dy] at this;exact this
 have r8 : ∀b,b<w.heap.size→ ¬fC.o0 b→bD.heap[b]? = w.heap[b]? := fun b aV kj=>by
  have:=aJ.block b (by rw [dy];exact aV) kj
  rw [dy] at this;exact this
 have Eb : ∀j k p b m,(eL db).ag j k=some p→km j k=some (b,m)→w.heap.size≤b∨ ∃r dt I a1,(∃j i,aM j i=some (r,dt))∧s.ag r dt=some I∧aw r dt=some (b,a1):=by
  intro j k p b m af aV
  rcases o.own j k p b m af aV with e|e
  ·rw [dy] at e;exact .inl e
  ·rw [dn] at e;exact .inr e
 have hold : ∀q k I b m,kb q k=none→s.ag q k=some I→aw q k=some (b,m)→b<w.heap.size∧ ¬fC.o0 b:=by
  intro q k I b m bb ai af
  refine ⟨zP h.tohy ai af,fun kj=> ?_⟩
  rw [dn] at kj
  obtain ⟨r,dt,bY,a1,⟨j,i,al⟩,dA,lk⟩:=kj
  obtain ⟨rfl,rfl⟩:=h.inj q k I r dt bY b m a1 ai dA af lk
  rw [z1 _ _ _ _ al] at bb;simp at bb
 have PI : ∀b,s2.lb kM b→(eL db).lb km b∨(∃q k I m,kb q k=none∧s.ag q k=some I∧I.cm = .live∧aw q k=some (b,m)):=by
  rintro b ⟨q,k,I,m,ai,nl,af⟩
  rcases bf q k I ai with ⟨j,i,p,ax,aC,bZ⟩|⟨ax,aC⟩
  ·rw [gN _ _ _ _ ax] at af
   exact .inl ⟨j,i,p,m,aC,Pb bZ nl,af⟩
  ·rw [h7 _ _ ax] at af
   exact .inr ⟨q,k,I,m,ax,aC,nl,af⟩
 have mc : ∀b,s.ok g aw w b→s2.ok g kM bD b:=by
  intro b aV
  refine ⟨Nat.lt_of_lt_of_le aV.1 eB,aV.2.1,fun aO=> ?_⟩
  rcases PI b aO with ⟨j,k,p,m,ax,aC,bZ⟩|⟨q,k,I,m,ax,aC,bZ,c8⟩
  ·rcases Eb j k p b m ax bZ with e|⟨r,dt,I,a1,al,ai,af⟩
   ·have:=aV.1;omega
   ·exact aV.2.2 ⟨r,dt,I,a1,ai,pf r dt I al ai,af⟩
  ·exact aV.2.2 ⟨q,k,I,m,aC,bZ,c8⟩
 have QH : ∀r k,s.aY r k→s2.a8 kM r k=s.a8 aw r k∨s2.a8 kM r k=none:=by
  intro r k al
  cases ai:s2.ag r k with
  | none=>right;simp [S.a8,ai]
  | some I =>
   left
   rcases bf r k I ai with ⟨j,i,p,ax,aC,bZ⟩|⟨ax,aC⟩
   ·rcases DU r k j i ax with aB|aB
    ·have lG:=(o.stay j i (by rw [uM];exact cJ.aY _ _ _ _ aB al)).2
     rw [kG,hv aC] at lG
     have lG:some (p.sz,km j i)=(eL T).a8 (i6 aw aM) j i:=by
      rcases lG with e|e
      ·exact e
      ·simp at e
     have:=cJ.Ea (bI:=eL T) (aw:=aw) aB
     rw [← lG] at this
     rw [hv ai,bZ.sz,gN _ _ _ _ ax]
     rcases this with e|e
     ·exact e
     ·simp at e
    ·exact absurd al aB
   ·rw [hv ai,hv aC,h7 _ _ ax]
 have ZR : ∀b,s.ok g aw w b→bD.heap[b]? = w.heap[b]? := by
  intro b aV
  refine r8 b aV.1 fun kj=> ?_
  rw [dn] at kj
  obtain ⟨r,dt,I,a1,al,ai,af⟩:=kj
  exact aV.2.2 ⟨r,dt,I,a1,ai,pf r dt I al ai,af⟩
 have e3 : ∀ {y:ay} {u:Value},Rel w (s.ok g aw w) s.aY (s.a8 aw) y u→Rel bD (s2.ok g kM bD) s2.aY (s2.a8 kM) y u :=
  fun al=>al.mono mc ZR iK QH
 have aar:(∀b,fC.A b→s.ok g aw w b)→ ∀b,(eL db).ok fC km bD b→s2.ok g kM bD b:=by
  intro hA b aV
  have JE:g.A b∨g.lX.heap.size≤b∨g.o0 b:=by
   rcases aV.2.1 with e|e|e
   ·exact (hA b e).2.1
   ·rw [dy] at e;exact .inr (.inl (Nat.le_trans h.gD.size e))
   ·rw [dn] at e
    obtain ⟨r,k,I,m,-,ai,af⟩:=e
    rcases h.own r k I b m ai af with e|e
    ·exact .inr (.inl e)
    ·exact .inr (.inr e)
  refine ⟨aV.1,JE,fun aO=> ?_⟩
  rcases PI b aO with e|⟨q,k,I,m,ax,aC,bZ,c8⟩
  ·exact aV.2.2 e
  ·have bb:=hold q k I b m ax aC c8
   rcases aV.2.1 with e|e|e
   ·exact (hA b e).2.2 ⟨q,k,I,m,aC,bZ,c8⟩
   ·rw [dy] at e;omega
   ·exact bb.2 e
 have Qe : ∀ {y lq:ay} {u:Value},ha (eL db) kb (fun _=>false) q y lq→Rel bD ((eL db).ok fC km bD) (eL db).aY ((eL db).a8 km) y u→Rel bD (s2.ok g kM bD) s2.aY (s2.a8 kM) lq u:=by
  intro y lq u bX al
  refine bX.rel o (fun x v bb af al=> ?_) (fun _ _ _ _ _ _ bE _ _=>by simp at bE) ?_ al
  ·rcases hA with hA|hA
   ·exact al.pure af (aar hA)
   ·exact al.c9 (hA x bb) af
  ·intro r k j i bb aB
   refine ⟨aaq r k j i bb aB,?_⟩
   cases ai:s2.ag r k with
   | none=>right;simp [S.a8,ai]
   | some I =>
    left
    rcases bf r k I ai with ⟨hl,eI,p,ax,aC,bZ⟩|⟨ax,-⟩
    ·rw [bb] at ax;simp only [Option.some.injEq,Prod.mk.injEq] at ax
     obtain ⟨rfl,rfl⟩:=ax
     rw [hv ai,hv aC,bZ.sz,gN _ _ _ _ bb]
    ·rw [bb] at ax;simp at ax
 refine ⟨kM,{tohy:=⟨?_,?_,?_,?_,h.mlt,h.mO,?_,h.low⟩,env:=fun t=>by rw [dW];exact e3 (h.env t),defers:=h.defers,i4:=h.i4},Qe aa a3⟩
 ·intro q k I ai
  rcases bf q k I ai with ⟨j,i,p,ax,aC,bZ⟩|⟨ax,aC⟩
  ·have af:=o.obj j i p aC
   rw [gN _ _ _ _ ax]
   cases jS:km j i with
   | none =>
    rw [jS] at af
    simp only [iB] at af ⊢
    apply List.length_eq_zero_iff.1
    rw [bZ.len,af];rfl
   | some sw =>
    obtain ⟨b,m⟩:=sw
    rw [jS] at af
    obtain ⟨c,eh,f1,f2,f3,f4⟩:=af
    have i5:I.es.flatten.length=p.es.flatten.length:=by rw [q5 _ bZ.each,q5 _ f3,bZ.len]
    refine ⟨c,eh,f1,f2,by rw [bZ.sz];exact bZ.each,fun i cC dr=> ?_⟩
    have du:i<p.es.flatten.length:=by rw [← i5];exact fI dr
    have iq:=List.getElem?_eq_getElem du
    obtain ⟨u,jr,lY,gq⟩:=f4 i _ iq
    exact ⟨u,jr,lY,Qe (bZ.at_ i _ cC iq dr) gq⟩
  ·have af:=h.obj q k I aC
   rw [h7 _ _ ax]
   cases jS:aw q k with
   | none=>rw [jS] at af;exact af
   | some sw =>
    obtain ⟨b,m⟩:=sw
    rw [jS] at af
    obtain ⟨c,eh,f1,f2,f3,f4⟩:=af
    obtain ⟨rn,AL⟩:=hold q k I b m ax aC jS
    refine ⟨c,eh,(r8 b rn AL).trans f1,f2,f3,fun i cC dr=> ?_⟩
    obtain ⟨u,jr,lY,gq⟩:=f4 i cC dr
    exact ⟨u,jr,lY,e3 gq⟩
 ·intro q k I g8 dt bY b m a1 R ab aA aF
  rcases bf q k I R with ⟨j,i,p,ax,aC,bZ⟩|⟨ax,aC⟩<;>rcases bf g8 dt bY ab with ⟨hl,eI,jM,mj,oR,AG⟩|⟨mj,oR⟩
  ·rw [gN _ _ _ _ ax] at aA;rw [gN _ _ _ _ mj] at aF
   obtain ⟨rfl,rfl⟩:=o.inj j i p hl eI jM b m a1 aC oR aA aF
   exact aap _ _ _ _ _ ax mj
  ·rw [gN _ _ _ _ ax] at aA;rw [h7 _ _ mj] at aF
   obtain ⟨f1,f2⟩:=hold g8 dt bY b a1 mj oR aF
   rcases Eb j i p b m aC aA with e|e
   ·omega
   ·exact absurd (by rw [dn];exact e) f2
  ·rw [h7 _ _ ax] at aA;rw [gN _ _ _ _ mj] at aF
   obtain ⟨f1,f2⟩:=hold q k I b m ax aC aA
   rcases Eb hl eI jM b a1 oR aF with e|e
   ·omega
   ·exact absurd (by rw [dn];exact e) f2
  ·rw [h7 _ _ ax] at aA;rw [h7 _ _ mj] at aF
   exact h.inj q k I g8 dt bY b m a1 aC oR aA aF
 ·intro q k I b m R aA
  rcases bf q k I R with ⟨j,i,p,ax,aC,bZ⟩|⟨ax,aC⟩
  ·rw [gN _ _ _ _ ax] at aA
   rcases Eb j i p b m aC aA with e|⟨r,dt,bY,a1,al,ai,af⟩
   ·exact .inl (Nat.le_trans h.gD.size e)
   ·exact h.own r dt bY b a1 ai af
  ·rw [h7 _ _ ax] at aA;exact h.own q k I b m aC aA
 ·have ax:=aJ.os;have aC:=aJ.tape;have bZ:=aJ.output
  rw [dy] at ax aC bZ
  refine h.gD.step ax aC bZ eB fun b aV lR=>r8 b (Nat.lt_of_lt_of_le aV h.gD.size) fun kj=> ?_
  rw [dn] at kj
  obtain ⟨r,k,I,m,-,ai,af⟩:=kj
  rcases h.own r k I b m ai af with e|e
  ·omega
  ·exact lR e
 ·intro j k aB
  obtain ⟨ax,aC⟩:=h.stay j k aB
  refine ⟨iK j k ax,?_⟩
  rcases QH j k ax with e|e
  ·rw [e];exact aC
  ·exact .inr e
def j4 (a b n:Nat):ay→ay
 | .ref r k i off=>if r=a then .ref b (n+k) i off else .ref r k i off
 | .bw r k bV len=>if r=a then .bw b (n+k) bV len else .bw r k bV len
 | .h3 r c sz h=>if r=a then .h3 b (n+c) sz h else .h3 r c sz h
 | .agg c=> .agg (x6 c)
 | .cW c=> .cW (x6 c)
 | x=>x
where x6:List ay→List ay
 | []=>[]
 | x::l=>j4 a b n x::x6 l
def lH (a b n:Nat)(I:aq):aq:={I with es:=I.es.map fun e=>e.map (j4 a b n)}
def qw (I:aq):aq:=⟨0,[],.gone⟩
theorem Dv (a b n:Nat): ∀l:List ay,j4.x6 a b n l=l.map (j4 a b n)
 | []=>rfl
 | x::l=>by rw [j4.x6,Dv a b n l];rfl
theorem jP (l:List aq)(k:Nat):c7 (some l) k=(l[k]?).bind fun I=>if I.cm = .gone then none else some I:=by
 unfold c7
 cases h:l[k]? <;> simp [h]
theorem map_flatten {es:List (List ay)}(f:ay→ay):(es.map fun e=>e.map f).flatten=es.flatten.map f:=by
 induction es with
 | nil=>rfl
 | cons e es ih=>rw [List.map_cons,List.flatten_cons,List.flatten_cons,List.map_append,ih]
theorem cE.merge (h:cE g s aw a w){r ei:Nat}{l fU:List aq}(al:s.aK r=some l)(gV:s.aK ei=some fU)(cH:ei≠r):
 ∃bG,cE g ((s.setRow ei (fU.map qw)).setRow r (l++fU.map (lH ei r l.length))) bG a w ∧
  ∀x v,Rel w (s.ok g aw w) s.aY (s.a8 aw) x v→Rel w (((s.setRow ei (fU.map qw)).setRow r (l++fU.map (lH ei r l.length))).ok g bG w)
   ((s.setRow ei (fU.map qw)).setRow r (l++fU.map (lH ei r l.length))).aY (((s.setRow ei (fU.map qw)).setRow r (l++fU.map (lH ei r l.length))).a8 bG) (j4 ei r l.length x) v:=by
 generalize uN:(s.setRow ei (fU.map qw)).setRow r (l++fU.map (lH ei r l.length))=s2
 let bG:e9:=fun q k=>if q=r∧l.length≤k then aw ei (k-l.length) else aw q k
 have bf : ∀q k I,s2.ag q k=some I→(q=r∧l.length≤k∧ ∃p,s.ag ei (k-l.length)=some p∧I=lH ei r l.length p∧bG q k=aw ei (k-l.length)) ∨
  (q≠ei∧s.ag q k=some I∧bG q k=aw q k∧ ¬(q=r∧l.length≤k)):=by
  intro q k I ai
  subst uN
  rw [kT] at ai
  by_cases e:q=r
  ·subst e
   rw [if_pos rfl] at ai
   by_cases aJ:l.length≤k
   ·left
    refine ⟨rfl,aJ,?_⟩
    rw [jP,List.getElem?_append_right aJ,List.getElem?_map] at ai
    cases af:fU[k-l.length]? with
    | none=>rw [af] at ai;simp at ai
    | some p =>
     rw [af] at ai
     simp only [Option.map_some,Option.bind_some] at ai
     split at ai
     ·simp at ai
     ·rename_i dy
      simp only [Option.some.injEq] at ai
      refine ⟨p,?_,ai.symm,by simp [bG,aJ]⟩
      unfold S.ag
      rw [gV,jP,af,Option.bind_some,if_neg (by simpa [lH] using dy)]
   ·right
    refine ⟨Ne.symm cH,?_,by simp [bG,aJ],fun fv=>aJ fv.2⟩
    unfold S.ag
    rw [al,jP]
    rw [jP,List.getElem?_append_left (by omega)] at ai
    exact ai
  ·rw [if_neg e,kT] at ai
   by_cases aC:q=ei
   ·subst aC
    rw [if_pos rfl,jP,List.getElem?_map] at ai
    cases af:fU[k]? with
    | none=>rw [af] at ai;simp at ai
    | some p=>rw [af] at ai;simp [qw] at ai
   ·rw [if_neg aC] at ai
    exact .inr ⟨aC,ai,by simp [bG,e],fun fv=>e fv.1⟩
 have iK : ∀q k,s.aY q k→s2.aY q k:=by
  intro q k bb
  subst uN
  rw [mF]
  by_cases e:q=r
  ·subst e;rw [if_pos rfl];simp [S.aY,al] at bb;simp;omega
  ·rw [if_neg e,mF]
   by_cases aC:q=ei
   ·subst aC;rw [if_pos rfl];simpa [S.aY,gV] using bb
   ·rw [if_neg aC];exact bb
 have Aq : ∀k,s.aY ei k→s2.aY r (l.length+k):=by
  intro k bb
  subst uN
  rw [mF,if_pos rfl]
  simp [S.aY,gV] at bb
  simp;omega
 have Ar : ∀k,s2.a8 bG r (l.length+k)=s.a8 aw ei k:=by
  intro k
  subst uN
  simp only [S.a8]
  rw [kT,if_pos rfl]
  unfold S.ag
  rw [gV,jP,jP,List.getElem?_append_right (by omega),List.getElem?_map,show l.length+k-l.length=k by omega]
  cases af:fU[k]? with
  | none=>simp
  | some p =>
   simp only [Option.map_some,Option.bind_some]
   by_cases dy:p.cm = .gone
   ·rw [if_pos dy,if_pos (by simpa [lH] using dy)];rfl
   ·rw [if_neg dy,if_neg (by simpa [lH] using dy)]
    simp [bG,lH]
 have kG : ∀q k,s.aY q k→s2.a8 bG q k=s.a8 aw q k∨s2.a8 bG q k=none:=by
  intro q k bb
  cases ai:s2.ag q k with
  | none=>right;simp [S.a8,ai]
  | some I =>
   left
   rcases bf q k I ai with ⟨rfl,aC,-⟩|⟨-,aC,bZ,-⟩
   ·simp [S.aY,al] at bb;omega
   ·rw [hv ai,hv aC,bZ]
 have pf : ∀b,s2.lb bG b→s.lb aw b:=by
  rintro b ⟨q,k,I,m,o,R,ab⟩
  rcases bf q k I o with ⟨-,-,p,ax,aC,bZ⟩|⟨-,ax,aC,-⟩
  ·rw [bZ] at ab;subst aC;exact ⟨ei,_,p,m,ax,R,ab⟩
  ·rw [aC] at ab;exact ⟨q,k,I,m,ax,R,ab⟩
 have cS:Step g s aw w s2 bG w:=⟨iK,kG,fun b aO=> .inl (pf b aO),fun _ _ _=>rfl,Nat.le_refl _⟩
 have AM : ∀x v,Rel w (s.ok g aw w) s.aY (s.a8 aw) x v→Rel w (s2.ok g bG w) s2.aY (s2.a8 bG) (j4 ei r l.length x) v:=by
  intro x v kI
  induction kI with
  | dead v=>exact .dead v
  | b x=>exact .b x
  | n k x=>exact .n k x
  | s x=>exact .s x
  | hJ=>exact .hJ
  | d7=>exact .d7
  | h2 a c=>exact .h2 a c
  | @pc ak k i off a hu fv =>
   unfold j4
   split
   ·rename_i e;subst e
    exact .pc a (Aq k hu) (by rw [Ar];exact fv)
   ·exact cS.rel (.pc a hu fv)
  | @ref ak k i off sz dJ m hu fv =>
   unfold j4
   split
   ·rename_i e;subst e
    exact .ref (Aq k hu) (by rw [Ar];exact fv)
   ·exact cS.rel (.ref hu fv)
  | @mG ak k bV len a bF cI hu fv =>
   unfold j4
   split
   ·rename_i e;subst e
    exact .mG a bF cI (Aq k hu) (by rw [Ar];exact fv)
   ·exact cS.rel (.mG a bF cI hu fv)
  | @m4 ak k sz hu fv =>
   unfold j4
   split
   ·rename_i e;subst e
    exact .m4 (Aq k hu) (by rw [Ar];exact fv)
   ·exact cS.rel (.m4 hu fv)
  | @bw ak k bV len sz dJ m c a hu fv aO aN mg =>
   unfold j4
   split
   ·rename_i e;subst e
    exact .bw (Aq k hu) (by rw [Ar];exact fv) aO aN mg
   ·exact cS.rel (.bw hu fv aO aN mg)
  | @l7 ak c sz v h0 ih =>
   unfold j4
   split
   ·exact .l7 (cS.rel h0)
   ·exact cS.rel (.l7 h0)
  | @nc ak c sz k n v h0 ih =>
   unfold j4
   split
   ·rename_i e;subst e
    unfold j4 at ih
    rw [if_pos rfl] at ih
    exact .nc (by rw [show k+(l.length+c)=l.length+(k+c) by omega];exact ih)
   ·exact cS.rel (.nc h0)
  | jI sz a c h=>exact .jI sz a c h
  | isl cs aV af aO aN hw hk kI ih=>exact cS.rel (.isl cs aV af aO aN hw hk kI)
  | ey cs aV af aO hw hk kI ih=>exact cS.rel (.ey cs aV af aO hw hk kI)
  | oN sz=>exact .oN sz
  | ov h0 ih=>exact cS.rel (.ov h0)
  | agg vs aO hk kI ih =>
   unfold j4
   rw [Dv]
   refine .agg vs (by simpa using aO) hk fun j x v aa a3=> ?_
   rw [List.getElem?_map,Option.map_eq_some_iff] at aa
   obtain ⟨y,aP,rfl⟩:=aa
   exact ih j y v aP a3
  | cW vs aO kI ih =>
   unfold j4
   rw [Dv]
   refine .cW vs (by simpa using aO) fun j x v aa a3=> ?_
   rw [List.getElem?_map,Option.map_eq_some_iff] at aa
   obtain ⟨y,aP,rfl⟩:=aa
   exact ih j y v aP a3
  | fn vs aO kI ih=>exact cS.rel (.fn vs aO kI)
 refine ⟨bG,{tohy:=⟨?_,?_,?_,h.gD,h.mlt,h.mO,?_,h.low⟩,env:=fun t=>by rw [show s2.E=s.E by rw [← uN];rfl];exact cS.rel (h.env t),defers:=h.defers,i4:=h.i4},AM⟩
 ·intro q k I ai
  rcases bf q k I ai with ⟨-,-,p,ax,aC,bZ⟩|⟨-,ax,aC,-⟩
  ·rw [bZ]
   subst aC
   have af:=h.obj ei _ p ax
   cases jS:aw ei (k-l.length) with
   | none=>rw [jS] at af;simp only [iB] at af ⊢;simp [lH,af]
   | some sw =>
    obtain ⟨b,m⟩:=sw
    rw [jS] at af
    obtain ⟨c,eh,f1,f2,f3,f4⟩:=af
    refine ⟨c,eh,f1,f2,?_,fun j x aa=> ?_⟩
    ·intro e he
     simp only [lH,List.mem_map] at he
     obtain ⟨ec,li,rfl⟩:=he
     simpa [lH] using f3 ec li
    ·simp only [lH] at aa
     rw [map_flatten,List.getElem?_map,Option.map_eq_some_iff] at aa
     obtain ⟨y,aP,rfl⟩:=aa
     obtain ⟨u,jr,lY,gq⟩:=f4 j y aP
     exact ⟨u,jr,lY,AM y u gq⟩
  ·rw [aC]
   exact cS.obj (fun b m _=>rfl) (h.obj q k I ax)
 ·intro q k I aW ka b3 b m a1 o R ab aA
  rcases bf q k I o with ⟨rfl,f1,p,ax,aC,bZ⟩|⟨f1,ax,aC,f2⟩<;>rcases bf aW ka b3 R with ⟨rfl,x7,jM,mj,oR,AG⟩|⟨x7,mj,oR,aeB⟩
  ·rw [bZ] at ab;rw [AG] at aA
   obtain ⟨-,e⟩:=h.inj _ _ _ _ _ _ b m a1 ax mj ab aA
   exact ⟨rfl,by omega⟩
  ·rw [bZ] at ab;rw [oR] at aA
   obtain ⟨e,-⟩:=h.inj _ _ _ _ _ _ b m a1 ax mj ab aA
   exact absurd e.symm x7
  ·rw [aC] at ab;rw [AG] at aA
   obtain ⟨e,-⟩:=h.inj _ _ _ _ _ _ b m a1 ax mj ab aA
   exact absurd e f1
  ·rw [aC] at ab;rw [oR] at aA
   exact h.inj _ _ _ _ _ _ b m a1 ax mj ab aA
 ·intro q k I b m o R
  rcases bf q k I o with ⟨-,-,p,ax,aC,bZ⟩|⟨-,ax,aC,-⟩
  ·rw [bZ] at R;exact h.own ei _ p b m ax R
  ·rw [aC] at R;exact h.own q k I b m ax R
 ·exact cS.stay h.stay
end
end Go.VL
namespace Go.VL
set_option linter.unusedVariables false
set_option linter.unusedSimpArgs false
open Go
def ay.hP:ay→Bool
 | .dead | .b _ | .n .. | .s _ | .hJ | .d7 | .h2 | .isl .. | .ey .. | .eb .. => true
 | _=>false
def ay.zQ:ay→Bool
 | .agg c=>c.all ay.hP
 | .fn _ c=>c.all ay.hP
 | x=>x.hP
def ay.Qf:ay→Bool
 | .cW c=>c.all ay.zQ
 | x=>x.zQ
section
variable {w:World} {ok:Nat→Prop} {aY:iF} {a8:iu}
theorem Rel.xF {x:ay}{v:Value}(h:Rel w ok aY a8 x v)(a5:x.hP=true):Pure x:=by
 cases h with
 | dead=>exact .dead
 | b=>exact .b _
 | n=>exact .n _ _
 | s=>exact .s _
 | hJ=>exact .hJ
 | d7=>exact .d7
 | h2=>exact .h2
 | jI=>exact .isl (by simp)
 | isl cs aV af=>exact .isl af
 | ey cs aV af=>exact .ey af
 | oN sz=>exact .oN sz
 | ov h=>cases h with|ey cs aV af=>exact .ov fun x aa=>af _ (List.mem_singleton.2 rfl) x aa
 | _=>simp [ay.hP] at a5
theorem NB {c:List ay}{vs:List Value}(aO:vs.length=c.length)(al:∀(j:Nat) x u,c[j]? = some x→vs[j]? = some u→Rel w ok aY a8 x u)
 (a5:c.all ay.hP=true) : ∀x∈c,Pure x:=by
 intro x aa
 obtain ⟨j,aB⟩:=List.getElem?_of_mem aa
 have du:j<vs.length:=by have:=fI aB;omega
 exact (al j x _ aB (List.getElem?_eq_getElem du)).xF (List.all_eq_true.1 a5 x aa)
theorem Rel.DH {x:ay}{v:Value}(h:Rel w ok aY a8 x v)(a5:x.zQ=true):Pure x:=by
 cases h with
 | agg vs aO aN al=>exact .agg (NB aO al a5)
 | fn vs aO al=>exact .fn (NB aO al a5)
 | dead=>exact .dead
 | b=>exact .b _
 | n=>exact .n _ _
 | s=>exact .s _
 | hJ=>exact .hJ
 | d7=>exact .d7
 | h2=>exact .h2
 | jI=>exact .isl (by simp)
 | isl cs aV af=>exact .isl af
 | ey cs aV af=>exact .ey af
 | oN sz=>exact .oN sz
 | ov h=>cases h with|ey cs aV af=>exact .ov fun x aa=>af _ (List.mem_singleton.2 rfl) x aa
 | _=>simp [ay.zQ,ay.hP] at a5
theorem Rel.ZS {x:ay}{v:Value}(h:Rel w ok aY a8 x v)(a5:x.Qf=true):Pure x:=by
 by_cases cr : ∃c,x = .cW c
 ·obtain ⟨c,rfl⟩:=cr
  obtain ⟨vs,rfl,aO,al⟩:=h.xk
  refine .cW fun x aa=> ?_
  obtain ⟨j,aB⟩:=List.getElem?_of_mem aa
  have du:j<vs.length:=by have:=fI aB;omega
  exact (al j x _ aB (List.getElem?_eq_getElem du)).DH (List.all_eq_true.1 a5 x aa)
 ·refine h.DH ?_
  cases x<;>first|exact a5|exact absurd ⟨_,rfl⟩ cr
end
def dq:List Nat→Nat→Option Nat
 | [],_=>none
 | x::l,r=>if x=r then some 0 else (dq l r).map (· + 1)
theorem NC : ∀ {l:List Nat} {r j:Nat},dq l r=some j→l[j]? = some r
 | x::l,r,j,h=>by
  unfold dq at h
  split at h
  ·simp at h;subst h;simp [*]
  ·rw [Option.map_eq_some_iff] at h
   obtain ⟨i,ah,rfl⟩:=h
   simpa using NC ah
theorem ND : ∀ {l:List Nat} {r j:Nat},l.Nodup→l[j]? = some r→dq l r=some j
 | x::l,r,j,a5,h=>by
  rw [List.nodup_cons] at a5
  unfold dq
  cases j with
  | zero=>simp at h;simp [h]
  | succ j =>
   simp at h
   have:x≠r:=by rintro rfl;exact a5.1 (List.mem_of_getElem? h)
   rw [if_neg this,ND a5.2 h];rfl
def AN (d3:Nat)(jl:List aq)(bN:fK→Bool)(x cC:ay):Prop :=
 (cC=x∧x.hP=true)∨(∃c sz,x = .h3 d3 c sz none∧cC = .isl sz [])∨ ∃k bV len I,(x = .bw d3 k bV len∨ ∃c sz hS,k=hS+c∧bV=0∧x = .h3 d3 c sz (some (hS,len)))∧c7 (some jl) k=some I∧bN I.cm=true∧bV+len≤I.es.length ∧
   hc ((I.es.drop bV).take len)∧cC = .isl I.sz ((I.es.drop bV).take len)
def Br (d3:Nat)(jl:List aq)(bN:fK→Bool)(sz:Nat)(es fR:List (List ay)):Prop :=
 fR.length=es.length∧(∀e∈fR,e.length=sz)∧ ∀(j:Nat) x cC,es.flatten[j]? = some x→fR.flatten[j]? = some cC→AN d3 jl bN x cC
def kW (aK:Nat→Option (List aq))(b8:Nat→Option Nat)(aM:gf)(bN:fK→Bool):ss→ay→Option (ay×List Prop)
 | .id,x=>if x.hP then some (x,[]) else
  match x with
  | .ref r k i off=>match b8 r with
   | some j=>some (.ref j k i off,[])
   | none=>none
  | .bw r k bV len=>match b8 r with
   | some j=>some (.bw j k bV len,[])
   | none=>none
  | .h3 r c sz h=>match b8 r with
   | some j=>some (.h3 j c sz h,[])
   | none=>none
  | _=>none
 | .iv sz,.d7=>some (.isl sz [],[])
 | .iv sz,.h2=>some (.isl sz [],[])
 | .e5 fR,.bw r k bV len=>match c7 (aK r) k with
  | some I=>if bN I.cm && (b8 r).isNone then some (.isl I.sz fR,[fR=(I.es.drop bV).take len,bV+len≤I.es.length,hc fR]) else none
  | none=>none
 | .iN,_=>some (.dead,[])
 | .dw y,x=>if x.hP then some (y,[x=y]) else none
 | .len n,.bw r k bV len=>match b8 r with
  | some j=>some (.bw j k bV n,[len=n])
  | none=>none
 | .o1 sz,x=>match x with
  | .hJ=>some (.eb sz none,[])
  | .ey D7 [c] 0 0=>if D7=sz then some (.eb sz (some c),[]) else none
  | _=>none
 | .at_ j i n,.bw r k bV len=>some (.bw j i bV n,[aM j i=some (r,k),len=n])
 | .at_ j i _,.ref r k x y=>some (.ref j i x y,[aM j i=some (r,k)])
 | .view d3 I fR,.bw r k bV len=>match aK r,aK d3 with
  | some row,some jl=>if (b8 r).isNone && (b8 d3).isNone then
   some (.isl I.sz fR,[c7 (some row) k=some I,bN I.cm=true,bV+len≤I.es.length,hc fR,Br d3 jl bN I.sz ((I.es.drop bV).take len) fR]) else none
  | _,_=>none
 | _,_=>none
def kX {α β:Type}(f:α→β→Option (β×List Prop)):List α→List β→Option (List β×List Prop)
 | [],[]=>some ([],[])
 | a::l,b::m=>match f a b,kX f l m with
  | some (jo,b3),some (a1,a6)=>some (jo::a1,b3++a6)
  | _,_=>none
 | _,_=>none
def nH (aK:Nat→Option (List aq))(b8:Nat→Option Nat)(aM:gf)(bN:fK→Bool):yt→ay→Option (ay×List Prop)
 | .b9 c,x=>if x.zQ then (match c with | .id=>some (x,[]) | .iN=>some (.dead,[]) | .dw y=>some (y,[x=y])|c=>kW aK b8 aM bN c x) else kW aK b8 aM bN c x
 | .agg l,.agg c=>match kX (kW aK b8 aM bN) l c with
  | some (dI,ag)=>some (.agg dI,ag)
  | none=>none
 | .ptr l,.ref r k i off=>match c7 (aK r) k with
  | some I=>match I.es with
   | [c]=>if bN I.cm && (b8 r).isNone then
    match kX (kW aK b8 aM bN) l c with
    | some (dI,ag)=>some (.ey I.sz [dI] i off,ag++[hc [dI]])
    | none=>none
    else none
   | _=>none
  | none=>none
 | .r9 l,x=>match x with
  | .ref r k 0 0=>match c7 (aK r) k with
   | some I=>match I.es with
    | [c]=>if bN I.cm && (b8 r).isNone then
     match kX (kW aK b8 aM bN) l c with
     | some (dI,ag)=>some (.eb I.sz (some dI),ag++[hc [dI]])
     | none=>none
     else none
    | _=>none
   | none=>none
  | _=>none
 | _,_=>none
def m7 (aK:Nat→Option (List aq))(b8:Nat→Option Nat)(aM:gf)(bN:fK→Bool):kL→ay→Option (ay×List Prop)
 | .bF c,x=>if x.Qf then (match c with | .b9 .id=>some (x,[])|c=>nH aK b8 aM bN c x) else nH aK b8 aM bN c x
 | .comp l,.cW c=>match kX (nH aK b8 aM bN) l c with
  | some (dI,ag)=>some (.cW dI,ag)
  | none=>none
 | .comp l,.fn f c=>match kX (nH aK b8 aM bN) l c with
  | some (dI,ag)=>some (.fn f dI,ag)
  | none=>none
 | _,_=>none
def sL (row:List aq):Prop:= ∀I∈row,hc I.es∧I.cm = .live
def ph (row:List aq):Prop:= ∀I∈row,I.cm = .live∨I.cm = .gone
def nm (b8:Nat→Option Nat):ay→ay
 | .ref r k i off=>match b8 r with|some j=> .ref j k i off|none=> .dead
 | .bw r k bV len=>match b8 r with|some j=> .bw j k bV len|none=> .dead
 | .h3 r c sz h=>match b8 r with|some j=> .h3 j c sz h|none=> .dead
 | x=>if x.hP then x else .dead
def j5 (b8:Nat→Option Nat)(I:aq):aq:={I with es:=I.es.map fun e=>e.map (nm b8)}
def iC (aK:Nat→Option (List aq))(b8:Nat→Option Nat)(aM:gf)(bN:fK→Bool):hR→List aq→Option (List aq×List Prop)
 | .pure,row=>some (row,[sL row])
 | .dw dD,row=>some (dD,[row=dD,sL dD])
 | .bM dD,row=>some (dD,[dD=row.map (j5 b8),ph row])
 | .box l,[I]=>match I.es with
  | [c]=>if I.cm = .live then match kX (kW aK b8 aM bN) l c with
   | some (dI,ag)=>some ([{I with es:=[dI]}],ag)
   | none=>none
   else none
  | _=>none
 | _,_=>none
structure sx (q:ay→Prop) (bN:fK→Bool):Prop extends Down q where
 all : ∀k,bN k=true→ ∀x,q x
theorem ta (bN:fK→Bool):sx ll bN:={toDown:=ZO,all:=fun _ _ _=>trivial}
theorem abd:sx cp (fun _=>false):={toDown:=ZQ,all:=fun _ h=>by simp at h}
structure lZ (s:S) (aM:gf) (b8:Nat→Option Nat) (bN:fK→Bool):Prop where
 ah : ∀r j,b8 r=some j→ ∀k,aM j k=some (r,k)
 a5 : ∀r,b8 r=none→ ∀k I,s.ag r k=some I→bN I.cm=true→ ∀j i,aM j i≠some (r,k)
section
variable {g:G} {s:S} {aw:e9} {w:World} {aM:gf} {b8:Nat→Option Nat} {bN:fK→Bool} {q:ay→Prop}
theorem C3 {α β:Type}(f:α→β→Option (β×List Prop)): ∀(l:List α) (m a1:List β) (ag:List Prop),kX f l m=some (a1,ag) →
 a1.length=m.length∧l.length=m.length∧ ∀(j:Nat) b jo,m[j]? = some b→a1[j]? = some jo→ ∃x bY,l[j]? = some x∧f x b=some (jo,bY)∧ ∀p∈bY,p∈ag
 | [],[],a1,ag,h=>by
  simp [kX] at h;obtain ⟨rfl,rfl⟩:=h
  exact ⟨rfl,rfl,fun j b jo aV=>by simp at aV⟩
 | [],_::_,_,_,h=>by simp [kX] at h
 | _::_,[],_,_,h=>by simp [kX] at h
 | x::l,b::m,a1,ag,h=>by
  simp only [kX] at h
  split at h
  ·rename_i jo b3 fS a6 o R
   simp only [Option.some.injEq,Prod.mk.injEq] at h
   obtain ⟨rfl,rfl⟩:=h
   obtain ⟨ax,aC,bZ⟩:=C3 f l m fS a6 R
   refine ⟨by simp [ax],by simp [aC],fun j c dI aN uG=> ?_⟩
   cases j with
   | zero =>
    simp at aN uG;subst aN;subst uG
    exact ⟨x,b3,rfl,o,fun p af=>by simp [af]⟩
   | succ j =>
    simp at aN uG
    obtain ⟨y,bY,f1,f2,f3⟩:=bZ j c dI aN uG
    exact ⟨y,bY,by simpa using f1,f2,fun p af=>by simp [f3 p af]⟩
  ·simp at h
theorem IB (dn:hy g s aw w)(H:lZ s aM b8 bN)(bg:sx q bN){c:ss}{x cC:ay}{ag:List Prop}(h:kW s.aK b8 aM bN c x=some (cC,ag))(bf:∀p∈ag,p)
 (bb:q x) {v:Value} (al:Rel w (s.ok g aw w) s.aY (s.a8 aw) x v):ha s aM bN q x cC:=by
 have iK : ∀ {r k bV len:Nat},x = .bw r k bV len→s.aY r k:=by
  intro r k bV len e;subst e;cases al<;>assumption
 cases c with
 | id =>
  simp only [kW] at h
  split at h
  ·rename_i a5
   simp only [Option.some.injEq,Prod.mk.injEq] at h
   obtain ⟨rfl,rfl⟩:=h
   exact .pure (al.xF a5) bb
  ·split at h
   ·rename_i r k i off _
    split at h
    ·rename_i j aB
     simp only [Option.some.injEq,Prod.mk.injEq] at h
     obtain ⟨rfl,rfl⟩:=h
     exact .ref i off (H.ah r j aB k) (by cases al<;>assumption)
    ·simp at h
   ·rename_i r k bV len _
    split at h
    ·rename_i j aB
     simp only [Option.some.injEq,Prod.mk.injEq] at h
     obtain ⟨rfl,rfl⟩:=h
     exact .bw bV len (H.ah r j aB k) (iK rfl)
    ·simp at h
   ·rename_i r c sz fv _
    split at h
    ·rename_i j aB
     simp only [Option.some.injEq,Prod.mk.injEq] at h
     obtain ⟨rfl,rfl⟩:=h
     exact .h3 fv (fun k=>H.ah r j aB _)
    ·simp at h
   ·simp at h
 | iv sz =>
  cases x<;>simp [kW] at h
  ·obtain ⟨rfl,rfl⟩:=h
   exact .d7 sz
  ·obtain ⟨rfl,rfl⟩:=h
   exact .h2 sz
 | e5 fR =>
  cases x<;>simp only [kW,reduceCtorEq] at h
  rename_i r k bV len
  split at h
  ·rename_i I ai
   split at h
   ·rename_i aN
    simp only [Bool.and_eq_true,Option.isNone_iff_eq_none] at aN
    simp only [Option.some.injEq,Prod.mk.injEq] at h
    obtain ⟨rfl,rfl⟩:=h
    have o:fR=(I.es.drop bV).take len:=bf _ (by simp)
    have R:bV+len≤I.es.length:=bf _ (by simp)
    have ab:hc fR:=bf _ (by simp)
    have dA:s.ag r k=some I:=ai
    have hlen : ∀e∈I.es,e.length=I.sz:=by
     have fp:=dn.obj r k I dA
     cases af:aw r k with
     | none=>rw [af] at fp;simp only [iB] at fp;rw [fp];simp
     | some q=>rw [af] at fp;obtain ⟨_,_,_,_,e,_⟩:=fp;exact e
    refine .isl dA aN.1 (H.a5 r aN.2 k I dA aN.1) R ab ?_ ?_ ?_
    ·rw [o];exact fun e he=>hlen e (List.mem_of_mem_drop (List.mem_of_mem_take he))
    ·rw [o];simp;omega
    ·intro j y lq aP nn
     rw [o] at nn
     rw [aP] at nn;simp at nn;subst nn
     rw [o] at ab
     obtain ⟨e,he,AO⟩:=rI aP
     exact .pure (ab e he y AO) (bg.all _ aN.1 y)
   ·simp at h
  ·simp at h
 | iN =>
  simp only [kW,Option.some.injEq,Prod.mk.injEq] at h
  obtain ⟨rfl,rfl⟩:=h
  exact .dead x
 | dw y =>
  simp only [kW] at h
  split at h
  ·rename_i a5
   simp only [Option.some.injEq,Prod.mk.injEq] at h
   obtain ⟨rfl,rfl⟩:=h
   have e:x=y:=bf _ (by simp)
   subst e
   exact .pure (al.xF a5) bb
  ·simp at h
 | len n =>
  cases x<;>simp only [kW,reduceCtorEq] at h
  rename_i r k bV len
  split at h
  ·rename_i j aB
   simp only [Option.some.injEq,Prod.mk.injEq] at h
   obtain ⟨rfl,rfl⟩:=h
   have e:len=n:=bf _ (by simp)
   subst e
   exact .bw bV len (H.ah r j aB k) (iK rfl)
  ·simp at h
 | at_ j i n =>
  cases x<;>simp only [kW,reduceCtorEq] at h
  ·rename_i r k x y
   simp only [Option.some.injEq,Prod.mk.injEq] at h
   obtain ⟨rfl,rfl⟩:=h
   exact .ref x y (bf _ (List.mem_cons_self)) (by cases al<;>assumption)
  ·rename_i r k bV len
   simp only [Option.some.injEq,Prod.mk.injEq] at h
   obtain ⟨rfl,rfl⟩:=h
   have e:len=n:=bf _ (by simp)
   subst e
   exact .bw bV len (bf _ (List.mem_cons_self)) (iK rfl)
 | view d3 I fR =>
  cases x<;>simp only [kW,reduceCtorEq] at h
  rename_i r k bV len
  split at h
  ·rename_i row jl dh ZT
   split at h
   ·rename_i aN
    simp only [Bool.and_eq_true,Option.isNone_iff_eq_none] at aN
    simp only [Option.some.injEq,Prod.mk.injEq] at h
    obtain ⟨rfl,rfl⟩:=h
    have o:c7 (some row) k=some I:=bf _ (by simp)
    have R:bN I.cm=true:=bf _ (by simp)
    have ab:bV+len≤I.es.length:=bf _ (by simp)
    have aA:hc fR:=bf _ (by simp)
    have aF:Br d3 jl bN I.sz ((I.es.drop bV).take len) fR:=bf _ (by simp)
    have dA:s.ag r k=some I:=by unfold S.ag;rw [dh];exact o
    obtain ⟨sy,qf,acN⟩:=aF
    refine .isl dA R (H.a5 r aN.1 k I dA R) ab aA qf (by rw [sy];simp;omega) fun j y lq aP nn=> ?_
    rcases acN j y lq aP nn with ⟨rfl,a5⟩|⟨cI,Q7,rfl,rfl⟩|⟨jq,Ec,DV,p,AP,ax,aC,bZ,c8,rfl⟩
    ·obtain ⟨e,he,AO⟩:=rI nn
     exact .pure (aA e he lq AO) (bg.all _ R _)
    ·exact .l7 _ _ _
    ·have lk:s.ag d3 jq=some p:=by unfold S.ag;rw [ZT];exact ax
     have hlen : ∀e∈p.es,e.length=p.sz:=by
      have fp:=dn.obj d3 jq p lk
      cases af:aw d3 jq with
      | none=>rw [af] at fp;simp only [iB] at fp;rw [fp];simp
      | some q=>rw [af] at fp;obtain ⟨_,_,_,_,e,_⟩:=fp;exact e
     have Qg:ha s aM bN q (.bw d3 jq Ec DV) (.isl p.sz ((p.es.drop Ec).take DV)):=by
      refine .isl lk aC (H.a5 d3 aN.2 jq p lk aC) bZ c8 (fun e he=>hlen e (List.mem_of_mem_drop (List.mem_of_mem_take he))) (by simp;omega) fun j z afl cn uO=> ?_
      rw [cn] at uO;simp at uO;subst uO
      obtain ⟨e,he,abe⟩:=rI cn
      exact .pure (c8 e he z abe) (bg.all _ aC _)
     rcases AP with rfl|⟨b9,aeC,hS,rfl,rfl,rfl⟩
     ·exact Qg
     ·exact .nc Qg
   ·simp at h
  ·simp at h
 | o1 sz =>
  simp only [kW] at h
  split at h
  ·simp only [Option.some.injEq,Prod.mk.injEq] at h
   obtain ⟨rfl,rfl⟩:=h
   exact .DG _
  ·split at h
   ·rename_i e;subst e
    simp only [Option.some.injEq,Prod.mk.injEq] at h
    obtain ⟨rfl,rfl⟩:=h
    exact .eb (.pure (al.xF rfl) bb)
   ·simp at h
  ·simp at h
theorem zt (dn:hy g s aw w)(H:lZ s aM b8 bN)(bg:sx q bN){l:List ss}{c dI:List ay}{ag:List Prop}(h:kX (kW s.aK b8 aM bN) l c=some (dI,ag))(bf:∀p∈ag,p)
 (bb : ∀x∈c,q x) {vs:List Value} (aO:vs.length=c.length) (al : ∀(j:Nat) x u,c[j]? = some x→vs[j]? = some u→Rel w (s.ok g aw w) s.aY (s.a8 aw) x u) :
 dI.length=c.length∧ ∀(j:Nat) x cC,c[j]? = some x→dI[j]? = some cC→ha s aM bN q x cC:=by
 obtain ⟨ax,aC,bZ⟩:=C3 _ l c dI ag h
 refine ⟨ax,fun j x cC aa dr=> ?_⟩
 obtain ⟨y,bY,f1,f2,f3⟩:=bZ j x cC aa dr
 have du:j<vs.length:=by have:=fI aa;omega
 exact IB dn H bg f2 (fun p af=>bf p (f3 p af)) (bb x (List.mem_of_getElem? aa)) (al j x _ aa (List.getElem?_eq_getElem du))
theorem IC (dn:hy g s aw w)(H:lZ s aM b8 bN)(bg:sx q bN){c:yt}{x cC:ay}{ag:List Prop}(h:nH s.aK b8 aM bN c x=some (cC,ag))(bf:∀p∈ag,p)
 (bb:q x) {v:Value} (al:Rel w (s.ok g aw w) s.aY (s.a8 aw) x v):ha s aM bN q x cC:=by
 cases c with
 | b9 c =>
  simp only [nH] at h
  split at h
  ·rename_i a5
   split at h
   ·simp only [Option.some.injEq,Prod.mk.injEq] at h
    obtain ⟨rfl,rfl⟩:=h
    exact .pure (al.DH a5) bb
   ·simp only [Option.some.injEq,Prod.mk.injEq] at h
    obtain ⟨rfl,rfl⟩:=h
    exact .dead _
   ·simp only [Option.some.injEq,Prod.mk.injEq] at h
    obtain ⟨rfl,rfl⟩:=h
    have e:=bf _ (List.mem_singleton.2 rfl)
    subst e
    exact .pure (al.DH a5) bb
   ·exact IB dn H bg h bf bb al
  ·exact IB dn H bg h bf bb al
 | agg l =>
  cases x<;>simp only [nH,reduceCtorEq] at h
  rename_i c
  split at h
  ·rename_i dI mT aN
   simp only [Option.some.injEq,Prod.mk.injEq] at h
   obtain ⟨rfl,rfl⟩:=h
   obtain ⟨vs,rfl,aO,-,AQ⟩:=al.xj
   obtain ⟨ax,aC⟩:=zt dn H bg aN bf (fun y aP=>bg.agg _ _ bb aP) aO AQ
   exact .agg ax aC
  ·simp at h
 | ptr l =>
  cases x<;>simp only [nH,reduceCtorEq] at h
  rename_i r k i off
  split at h
  ·rename_i I ai
   split at h
   ·rename_i c gU
    split at h
    ·rename_i aN
     simp only [Bool.and_eq_true,Option.isNone_iff_eq_none] at aN
     split at h
     ·rename_i dI mT hk
      simp only [Option.some.injEq,Prod.mk.injEq] at h
      obtain ⟨rfl,rfl⟩:=h
      have dA:s.ag r k=some I:=ai
      have fp:=dn.obj r k I dA
      cases af:aw r k with
      | none=>rw [af] at fp;simp only [iB] at fp;rw [gU] at fp;simp at fp
      | some q =>
       obtain ⟨b,m⟩:=q
       rw [af] at fp
       obtain ⟨cb,eh,g1,g2,g3,g4⟩:=fp
       have JF:c.length=I.sz:=g3 c (by rw [gU];simp)
       have i5:I.es.flatten=c:=by rw [gU];simp
       have hcs : ∀j:Nat,j<c.length→ ∃u,cb[j]? = some u∧Rel w (s.ok g aw w) s.aY (s.a8 aw) c[j]! u:=by
        intro j aB
        obtain ⟨u,jr,-,gq⟩:=g4 j c[j] (by rw [i5];exact List.getElem?_eq_getElem aB)
        exact ⟨u,jr,by rw [getElem!_pos c j aB];exact gq⟩
       obtain ⟨ax,aC⟩:=zt (vs:=(List.range c.length).map fun j=>(cb[j]?).getD undef) dn H bg hk (fun p af=>bf p (by simp [af])) (fun y _=>bg.all _ aN.1 y) (by simp) (by
        intro j y u aP hu
        have aB:=fI aP
        rw [List.getElem?_map,List.getElem?_range aB] at hu
        simp only [Option.map_some,Option.some.injEq] at hu
        obtain ⟨ky,jr,gq⟩:=hcs j aB
        rw [jr] at hu;simp at hu;subst hu
        rw [List.getElem?_eq_getElem aB] at aP;simp at aP;subst aP
        rw [getElem!_pos c j aB] at gq;exact gq)
       have r1:hc [dI]:=bf _ (by simp)
       refine .ey i off dA aN.1 (H.a5 r aN.2 k I dA aN.1) (by rw [gU];simp) r1 (by simp;omega) (by rw [gU];rfl) ?_
       ·intro j y lq aP nn
        rw [i5] at aP
        simp only [List.flatten_cons,List.flatten_nil,List.append_nil] at nn
        exact aC j y lq aP nn
     ·simp at h
    ·simp at h
   ·simp at h
  ·simp at h
 | r9 l =>
  simp only [nH] at h
  split at h
  ·rename_i r k
   split at h
   ·rename_i I ai
    split at h
    ·rename_i c gU
     split at h
     ·rename_i aN
      simp only [Bool.and_eq_true,Option.isNone_iff_eq_none] at aN
      split at h
      ·rename_i dI mT hk
       simp only [Option.some.injEq,Prod.mk.injEq] at h
       obtain ⟨rfl,rfl⟩:=h
       have dA:s.ag r k=some I:=ai
       have fp:=dn.obj r k I dA
       cases af:aw r k with
       | none=>rw [af] at fp;simp only [iB] at fp;rw [gU] at fp;simp at fp
       | some q =>
        obtain ⟨b,m⟩:=q
        rw [af] at fp
        obtain ⟨cb,eh,g1,g2,g3,g4⟩:=fp
        have JF:c.length=I.sz:=g3 c (by rw [gU];simp)
        have i5:I.es.flatten=c:=by rw [gU];simp
        have hcs : ∀j:Nat,j<c.length→ ∃u,cb[j]? = some u∧Rel w (s.ok g aw w) s.aY (s.a8 aw) c[j]! u:=by
         intro j aB
         obtain ⟨u,jr,-,gq⟩:=g4 j c[j] (by rw [i5];exact List.getElem?_eq_getElem aB)
         exact ⟨u,jr,by rw [getElem!_pos c j aB];exact gq⟩
        obtain ⟨ax,aC⟩:=zt (vs:=(List.range c.length).map fun j=>(cb[j]?).getD undef) dn H bg hk (fun p af=>bf p (by simp [af])) (fun y _=>bg.all _ aN.1 y) (by simp) (by
         intro j y u aP hu
         have aB:=fI aP
         rw [List.getElem?_map,List.getElem?_range aB] at hu
         simp only [Option.map_some,Option.some.injEq] at hu
         obtain ⟨ky,jr,gq⟩:=hcs j aB
         rw [jr] at hu;simp at hu;subst hu
         rw [List.getElem?_eq_getElem aB] at aP;simp at aP;subst aP
         rw [getElem!_pos c j aB] at gq;exact gq)
        have r1:hc [dI]:=bf _ (by simp)
        refine .eb (.ey 0 0 dA aN.1 (H.a5 r aN.2 k I dA aN.1) (by rw [gU];simp) r1 (by simp;omega) (by rw [gU];rfl) ?_)
        ·intro j y lq aP nn
         rw [i5] at aP
         simp only [List.flatten_cons,List.flatten_nil,List.append_nil] at nn
         exact aC j y lq aP nn
      ·simp at h
     ·simp at h
    ·simp at h
   ·simp at h
  ·simp at h
theorem zy (dn:hy g s aw w)(H:lZ s aM b8 bN)(bg:sx q bN){c:kL}{x cC:ay}{ag:List Prop}(h:m7 s.aK b8 aM bN c x=some (cC,ag))(bf:∀p∈ag,p)
 (bb:q x) {v:Value} (al:Rel w (s.ok g aw w) s.aY (s.a8 aw) x v):ha s aM bN q x cC:=by
 have key : ∀(l:List yt) (c dI:List ay) (mT:List Prop) (vs:List Value),kX (nH s.aK b8 aM bN) l c=some (dI,mT)→(∀p∈mT,p)→(∀x∈c,q x)→vs.length=c.length →
  (∀(j:Nat) x u,c[j]? = some x→vs[j]? = some u→Rel w (s.ok g aw w) s.aY (s.a8 aw) x u)→dI.length=c.length∧ ∀(j:Nat) x cC,c[j]? = some x→dI[j]? = some cC→ha s aM bN q x cC:=by
  intro l c dI mT vs h bf bb aO al
  obtain ⟨ax,aC,bZ⟩:=C3 _ l c dI mT h
  refine ⟨ax,fun j x cC aa dr=> ?_⟩
  obtain ⟨y,bY,f1,f2,f3⟩:=bZ j x cC aa dr
  have du:j<vs.length:=by have:=fI aa;omega
  exact IC dn H bg f2 (fun p af=>bf p (f3 p af)) (bb x (List.mem_of_getElem? aa)) (al j x _ aa (List.getElem?_eq_getElem du))
 cases c with
 | bF c =>
  simp only [m7] at h
  split at h
  ·rename_i a5
   split at h
   ·simp only [Option.some.injEq,Prod.mk.injEq] at h
    obtain ⟨rfl,rfl⟩:=h
    exact .pure (al.ZS a5) bb
   ·exact IC dn H bg h bf bb al
  ·exact IC dn H bg h bf bb al
 | comp l =>
  cases x<;>simp only [m7,reduceCtorEq] at h
  ·rename_i c
   split at h
   ·rename_i dI mT aN
    simp only [Option.some.injEq,Prod.mk.injEq] at h
    obtain ⟨rfl,rfl⟩:=h
    obtain ⟨vs,rfl,aO,AQ⟩:=al.xk
    obtain ⟨ax,aC⟩:=key l c dI mT vs aN bf (fun y aP=>bg.cW _ _ bb aP) aO AQ
    exact .cW ax aC
   ·simp at h
  ·rename_i f c
   split at h
   ·rename_i dI mT aN
    simp only [Option.some.injEq,Prod.mk.injEq] at h
    obtain ⟨rfl,rfl⟩:=h
    obtain ⟨vs,rfl,aO,AQ⟩:=al.Du
    obtain ⟨ax,aC⟩:=key l c dI mT vs aN bf (fun y aP=>bg.fn _ _ _ bb aP) aO AQ
    exact .fn ax aC
   ·simp at h
theorem Qh (dn:hy g s aw w)(H:lZ s aM b8 bN){r:Nat}{jB:Nat→Nat}{row:List aq}(dh:∀k I,c7 (some row) k=some I→s.ag r (jB k)=some I)
 (bb : ∀k I,c7 (some row) k=some I→ ∀e∈I.es,∀x∈e,q x) :
 ∀(k:Nat) bY,c7 (some (row.map (j5 b8))) k=some bY→ ∃I,c7 (some row) k=some I∧nQ s aM bN q I bY:=by
 intro k bY dA
 rw [jP,List.getElem?_map] at dA
 cases aJ:row[k]? with
 | none=>rw [aJ] at dA;simp at dA
 | some I =>
  rw [aJ] at dA
  simp only [Option.map_some,Option.bind_some] at dA
  split at dA
  ·simp at dA
  ·rename_i dy
   simp only [Option.some.injEq] at dA
   subst dA
   have ai:c7 (some row) k=some I:=by rw [jP,aJ,Option.bind_some,if_neg (by simpa [j5] using dy)]
   have bX:s.ag r (jB k)=some I:=dh k I ai
   refine ⟨I,ai,?_⟩
   have fp:=dn.obj r (jB k) I bX
   have hlen : ∀e∈I.es,e.length=I.sz:=by
    cases af:aw r (jB k) with
    | none=>rw [af] at fp;simp only [iB] at fp;rw [fp];simp
    | some q=>rw [af] at fp;obtain ⟨_,_,_,_,e,_⟩:=fp;exact e
   refine ⟨rfl,.inl rfl,by simp [j5],?_,fun j x cC aa dr=> ?_⟩
   ·intro e he
    simp only [j5,List.mem_map] at he
    obtain ⟨ec,li,rfl⟩:=he
    simpa using hlen ec li
   ·simp only [j5] at dr
    rw [map_flatten,List.getElem?_map,aa] at dr
    simp only [Option.map_some,Option.some.injEq] at dr
    subst dr
    obtain ⟨e,he,p3⟩:=rI aa
    have abf:=bb k I ai e he x p3
    cases af:aw r (jB k) with
    | none=>rw [af] at fp;simp only [iB] at fp;rw [fp] at aa;simp at aa
    | some sw =>
     obtain ⟨b,m⟩:=sw
     rw [af] at fp
     obtain ⟨c,eh,f1,f2,f3,f4⟩:=fp
     obtain ⟨u,jr,lY,gq⟩:=f4 j x aa
     cases x with
     | ref bm jq mX aas =>
      cases cr:b8 bm with
      | none=>simp only [nm,cr];exact .dead _
      | some yv=>simp only [nm,cr];exact .ref mX aas (H.ah _ _ cr _) (by cases gq<;>assumption)
     | bw bm jq Ec DV =>
      cases cr:b8 bm with
      | none=>simp only [nm,cr];exact .dead _
      | some yv=>simp only [nm,cr];exact .bw Ec DV (H.ah _ _ cr _) (by cases gq<;>assumption)
     | h3 bm cI Q7 R =>
      cases cr:b8 bm with
      | none=>simp only [nm,cr];exact .dead _
      | some yv=>simp only [nm,cr];exact .h3 R (fun k=>H.ah _ _ cr _)
     | _ =>
      simp only [nm]
      split
      ·rename_i a5;exact .pure (gq.xF a5) abf
      ·exact .dead _
theorem C4 (dn:hy g s aw w)(H:lZ s aM b8 bN)(bg:sx q bN){c:hR}{r:Nat}{jB:Nat→Nat}{row dD:List aq}{ag:List Prop}(dh:∀k I,c7 (some row) k=some I→s.ag r (jB k)=some I)
 (h:iC s.aK b8 aM bN c row=some (dD,ag)) (bf : ∀p∈ag,p) (bb : ∀k I,c7 (some row) k=some I→ ∀e∈I.es,∀x∈e,q x) :
 dD.length=row.length∧(∀k I,c7 (some row) k=some I→I.cm = .live) ∧
 ∀(k:Nat) bY,c7 (some dD) k=some bY→ ∃I,c7 (some row) k=some I∧nQ s aM bN q I bY:=by
 have hlen : ∀k I,c7 (some row) k=some I→ ∀e∈I.es,e.length=I.sz:=by
  intro k I ai
  have dA:s.ag r (jB k)=some I:=dh k I ai
  have fp:=dn.obj r (jB k) I dA
  cases af:aw r (jB k) with
  | none=>rw [af] at fp;simp only [iB] at fp;rw [fp];simp
  | some q=>rw [af] at fp;obtain ⟨_,_,_,_,e,_⟩:=fp;exact e
 have r1:sL row→(∀k I,c7 (some row) k=some I→I.cm = .live) ∧
  ∀(k:Nat) bY,c7 (some row) k=some bY→ ∃I,c7 (some row) k=some I∧nQ s aM bN q I bY:=by
  intro af
  have pW : ∀k I,c7 (some row) k=some I→I∈row:=by
   intro k I ai
   unfold c7 at ai
   simp only at ai
   split at ai
   ·rename_i bY dA
    split at ai
    ·simp at ai
    ·simp at ai;subst ai;exact List.mem_of_getElem? dA
   ·simp at ai
  refine ⟨fun k I ai=>(af I (pW k I ai)).2,fun k I ai=>⟨I,ai,rfl,.inl rfl,rfl,hlen k I ai,fun j x cC aa dr=> ?_⟩⟩
  rw [aa] at dr;simp at dr;subst dr
  obtain ⟨e,he,p3⟩:=rI aa
  exact .pure ((af I (pW k I ai)).1 e he x p3) (bb k I ai e he x p3)
 cases c with
 | pure =>
  simp only [iC,Option.some.injEq,Prod.mk.injEq] at h
  obtain ⟨rfl,rfl⟩:=h
  exact ⟨rfl,r1 (bf _ (by simp))⟩
 | dw aR =>
  simp only [iC,Option.some.injEq,Prod.mk.injEq] at h
  obtain ⟨rfl,rfl⟩:=h
  have e:row=aR:=bf _ (by simp)
  subst e
  exact ⟨rfl,r1 (bf _ (by simp))⟩
 | bM aR =>
  simp only [iC,Option.some.injEq,Prod.mk.injEq] at h
  obtain ⟨rfl,rfl⟩:=h
  have e:aR=row.map (j5 b8):=bf _ (by simp)
  have Ka:ph row:=bf _ (by simp)
  subst e
  refine ⟨by simp,fun k I ai=>by
   unfold c7 at ai
   simp only at ai
   split at ai
   ·rename_i bY dA
    split at ai
    ·simp at ai
    ·rename_i dy
     simp at ai;subst ai
     exact (Ka _ (List.mem_of_getElem? dA)).resolve_right dy
   ·simp at ai,Qh dn H dh bb⟩
 | rx aR=>cases row with
  | nil=>simp [iC] at h
  | cons I l=>cases l<;>simp [iC] at h
 | drop=>cases row with
  | nil=>simp [iC] at h
  | cons I l=>cases l<;>simp [iC] at h
 | box l =>
  match row,h with
  | [I],h =>
   simp only [iC] at h
   split at h
   ·rename_i c gU
    split at h
    ·rename_i nl
     split at h
     ·rename_i dI mT aN
      simp only [Option.some.injEq,Prod.mk.injEq] at h
      obtain ⟨rfl,rfl⟩:=h
      have h0:c7 (some [I]) 0=some I:=by rw [ly];simp [nl]
      refine ⟨rfl,fun k p af=> ?_,fun k p af=> ?_⟩
      ·rw [ly] at af
       split at af
       ·simp at af;subst af;exact nl
       ·simp at af
      ·rw [ly] at af
       split at af
       ·rename_i p4
        obtain ⟨rfl,-⟩:=p4
        simp only [Option.some.injEq] at af;subst af
        refine ⟨I,h0,?_⟩
        have dA:s.ag r (jB 0)=some I:=dh 0 I h0
        have fp:=dn.obj r (jB 0) I dA
        cases jS:aw r (jB 0) with
        | none=>rw [jS] at fp;simp only [iB] at fp;rw [gU] at fp;simp at fp
        | some q =>
         obtain ⟨b,m⟩:=q
         rw [jS] at fp
         obtain ⟨cb,eh,g1,g2,g3,g4⟩:=fp
         have JF:c.length=I.sz:=g3 c (by rw [gU];simp)
         have i5:I.es.flatten=c:=by rw [gU];simp
         obtain ⟨ax,aC⟩:=zt (vs:=(List.range c.length).map fun j=>(cb[j]?).getD undef) dn H bg aN bf (fun y aP=>bb 0 I h0 c (by rw [gU];simp) y aP) (by simp) (by
          intro j y u aP hu
          have aB:=fI aP
          rw [List.getElem?_map,List.getElem?_range aB] at hu
          simp only [Option.map_some,Option.some.injEq] at hu
          obtain ⟨ky,jr,-,gq⟩:=g4 j y (by rw [i5];exact aP)
          rw [jr] at hu;simp at hu;subst hu
          exact gq)
         refine ⟨rfl,.inl rfl,by simp [gU],by simp;omega,fun j x cC aa dr=> ?_⟩
         rw [i5] at aa
         simp only [List.flatten_cons,List.flatten_nil,List.append_nil] at dr
         exact aC j x cC aa dr
       ·simp at af
     ·simp at h
    ·simp at h
   ·simp at h
  | [],h=>simp [iC] at h
  | _::_::_,h=>simp [iC] at h
end
end Go.VL
