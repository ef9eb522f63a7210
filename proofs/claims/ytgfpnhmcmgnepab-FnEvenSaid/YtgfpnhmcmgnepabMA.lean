/- Lemmas, plain functions of the program, and what they answer. No condition. -/
import Derived.Below
import Derived.Eval
import Derived.KernelRfl
import Derived.Laws.Append
import Derived.Laws.AppendOwn
import Derived.Laws.BytesString
import Derived.Laws.Cells
import Derived.Laws.CopyRow
import Derived.Laws.Entries
import Derived.Laws.MakeOwn
import Derived.Laws.OwnMore
import Derived.Laws.Rows
import Derived.Laws.Slices
import Derived.Laws.Tables
import Derived.Orders
namespace Go.VL
set_option linter.unusedVariables false
set_option linter.unusedSimpArgs false
open Go
inductive aw where
 | dead
 | b (x:Bool)
 | n (k:IntKind) (x:Int)
 | s (x:ByteArray)
 | ic
 | ex
 | iC
 | ref (r k i off:Nat)
 | bm (r k bO len:Nat)
 | iD (r c sz:Nat) (h:Option (Nat×Nat))
 | isl (sz:Nat) (es:List (List aw))
 | eB (sz:Nat) (es:List (List aw)) (i off:Nat)
 | fp (sz:Nat) (c:Option (List aw))
 | agg (c:List aw)
 | dK (vs:List aw)
 | fn (f:Nat) (cap:List aw)
 deriving Inhabited
inductive fU where
 | live|iW|gone
 deriving DecidableEq,Inhabited
structure ab where
 sz:Nat
 es:List (List aw)
 ck:fU
 deriving Inhabited
structure S where
 E:Nat→aw
 aP:Nat→Option (List ab)
abbrev jZ (v:Value):Bool:=v.oneCell'
abbrev e9:=Nat→Nat→Option (Nat×Nat)
abbrev iM:=Nat→Nat→Option (Nat×Option (Nat×Nat))
abbrev iX:=Nat→Nat→Prop
inductive Pure:aw→Prop
 | dead:Pure .dead
 | b (x:Bool):Pure (.b x)
 | n (k:IntKind) (x:Int):Pure (.n k x)
 | s (x:ByteArray):Pure (.s x)
 | ic:Pure .ic
 | ex:Pure .ex
 | iC:Pure .iC
 | isl {sz:Nat} {es:List (List aw)} (h : ∀e∈es,∀x∈e,Pure x):Pure (.isl sz es)
 | eB {sz i off:Nat} {es:List (List aw)} (h : ∀e∈es,∀x∈e,Pure x):Pure (.eB sz es i off)
 | pk (sz:Nat):Pure (.fp sz none)
 | oT {sz:Nat} {c:List aw} (h : ∀x∈c,Pure x):Pure (.fp sz (some c))
 | agg {c:List aw} (h : ∀x∈c,Pure x):Pure (.agg c)
 | dK {c:List aw} (h : ∀x∈c,Pure x):Pure (.dK c)
 | fn {f:Nat} {c:List aw} (h : ∀x∈c,Pure x):Pure (.fn f c)
def hs (es:List (List aw)):Prop:= ∀e∈es,∀x∈e,Pure x
inductive Rel (w:World) (ok:Nat→Prop) (aY:iX) (a7:iM):aw→Value→Prop
 | dead (v:Value):Rel w ok aY a7 .dead v
 | b (x:Bool):Rel w ok aY a7 (.b x) (.bool x)
 | n (k:IntKind) (x:Int):Rel w ok aY a7 (.n k x) (.int k x)
 | s (x:ByteArray):Rel w ok aY a7 (.s x) (.string x)
 | ic:Rel w ok aY a7 .ic (.pointer none)
 | ex:Rel w ok aY a7 .ex (.slice none 0 0)
 | iC (a:Addr) (c:Nat):Rel w ok aY a7 .iC (.slice (some a) 0 c)
 | pR {r k i off:Nat} (a:Option Addr) (hu:aY r k) (h : ∀sz p,a7 r k≠some (sz,some p)):Rel w ok aY a7 (.ref r k i off) (.pointer a)
 | ref {r k i off sz dS m:Nat} (hu:aY r k) (h:a7 r k=some (sz,some (dS,m))):Rel w ok aY a7 (.ref r k i off) (.pointer (some ⟨dS,i*sz+off,none⟩))
 | m4 {r k bO len:Nat} (a:Option Addr) (l c:Nat) (hu:aY r k) (h:a7 r k=none):Rel w ok aY a7 (.bm r k bO len) (.slice a l c)
 | nr {r k sz:Nat} (hu:aY r k) (h:a7 r k=some (sz,none)):Rel w ok aY a7 (.bm r k 0 0) (.slice none 0 0)
 | bm {r k bO len sz dS m c:Nat} {a:Option Addr} (hu:aY r k) (h:a7 r k=some (sz,some (dS,m))) (aS:len≤c) (aO:c<9223372036854775808)
  (hm:(bO+c)*sz=m∧(c=0∨a=some ⟨dS,bO*sz,none⟩)):Rel w ok aY a7 (.bm r k bO len) (.slice a len c)
 | mF {r c sz:Nat} {v:Value} (h:Rel w ok aY a7 (.isl sz []) v):Rel w ok aY a7 (.iD r c sz none) v
 | nC {r c sz k n:Nat} {v:Value} (h:Rel w ok aY a7 (.bm r (k+c) 0 n) v):Rel w ok aY a7 (.iD r c sz (some (k,n))) v
 | j2 (sz:Nat) (a:Option Addr) (c:Nat) (h:a=none→c=0):Rel w ok aY a7 (.isl sz []) (.slice a 0 c)
 | isl {sz:Nat} {es:List (List aw)} {dS off c:Nat} (cs:Nat→Value) (aL:ok dS) (ad:hs es) (aS : ∀e∈es,e.length=sz) (aO:es.length≤c)
  (hw : ∀(j:Nat) x,es.flatten[j]? = some x→w.cell? ⟨dS,off+j,none⟩=some (cs j)) (jR : ∀(j:Nat) x,es.flatten[j]? = some x→jZ (cs j)=true)
  (ak : ∀(j:Nat) x,es.flatten[j]? = some x→Rel w ok aY a7 x (cs j)):Rel w ok aY a7 (.isl sz es) (.slice (some ⟨dS,off,none⟩) es.length c)
 | eB {sz:Nat} {es:List (List aw)} {dS I i off:Nat} (cs:Nat→Value) (aL:ok dS) (ad:hs es) (aS : ∀e∈es,e.length=sz)
  (hw : ∀(j:Nat) x,es.flatten[j]? = some x→w.cell? ⟨dS,I+j,none⟩=some (cs j)) (jR : ∀(j:Nat) x,es.flatten[j]? = some x→jZ (cs j)=true)
  (ak : ∀(j:Nat) x,es.flatten[j]? = some x→Rel w ok aY a7 x (cs j)):Rel w ok aY a7 (.eB sz es i off) (.pointer (some ⟨dS,I+(i*sz+off),none⟩))
 | pk (sz:Nat):Rel w ok aY a7 (.fp sz none) (.pointer none)
 | oT {sz:Nat} {c:List aw} {v:Value} (h:Rel w ok aY a7 (.eB sz [c] 0 0) v):Rel w ok aY a7 (.fp sz (some c)) v
 | agg {c:List aw} (vs:List Value) (aS:vs.length=c.length) (jR : ∀(j:Nat) v,vs[j]? = some v→jZ v=true)
  (ak : ∀(j:Nat) x v,c[j]? = some x→vs[j]? = some v→Rel w ok aY a7 x v):Rel w ok aY a7 (.agg c) (.agg vs.toArray)
 | dK {c:List aw} (vs:List Value) (aS:vs.length=c.length)
  (ak : ∀(j:Nat) x v,c[j]? = some x→vs[j]? = some v→Rel w ok aY a7 x v):Rel w ok aY a7 (.dK c) (.tuple vs.toArray)
 | fn {f:Nat} {c:List aw} (vs:List Value) (aS:vs.length=c.length)
  (ak : ∀(j:Nat) x v,c[j]? = some x→vs[j]? = some v→Rel w ok aY a7 x v):Rel w ok aY a7 (.fn f c) (.func (.func f) #[] vs.toArray)
theorem Rel.mono {w bB:World}{ok kE:Nat→Prop}{aY mK:iX}{a7 l8:iM}{a:aw}{v:Value}(h:Rel w ok aY a7 a v)
 (mL : ∀b,ok b→kE b) (hw : ∀b,ok b→bB.heap[b]? = w.heap[b]?)
 (i9 : ∀r k,aY r k→mK r k) (k5 : ∀r k,aY r k→l8 r k=a7 r k∨l8 r k=none):Rel bB kE mK l8 a v:=by
 have jR : ∀b I,ok b→bB.cell? ⟨b,I,none⟩=w.cell? ⟨b,I,none⟩:=fun b I aL=>World.cell?_of_block (hw b aL)
 induction h with
 | dead v=>exact .dead v
 | b x=>exact .b x
 | n k x=>exact .n k x
 | s x=>exact .s x
 | ic=>exact .ic
 | ex=>exact .ex
 | iC a c=>exact .iC a c
 | @pR r k i off a hu h =>
  refine .pR a (i9 r k hu) fun sz p=> ?_
  rcases k5 r k hu with e|e<;>rw [e]
  ·exact h sz p
  ·simp
 | @ref r k i off sz dS m hu h =>
  rcases k5 r k hu with e|e
  ·exact .ref (i9 r k hu) (e.trans h)
  ·exact .pR _ (i9 r k hu) fun sz p=>by rw [e];simp
 | @m4 r k bO len a l c hu h=>exact .m4 a l c (i9 r k hu) (by rcases k5 r k hu with e|e<;>rw [e];exact h)
 | @nr r k sz hu h =>
  rcases k5 r k hu with e|e
  ·exact .nr (i9 r k hu) (e.trans h)
  ·exact .m4 _ _ _ (i9 r k hu) e
 | @bm r k bO len sz dS m c a hu h aS aO hm =>
  rcases k5 r k hu with e|e
  ·exact .bm (i9 r k hu) (e.trans h) aS aO hm
  ·exact .m4 _ _ _ (i9 r k hu) e
 | mF h ih=>exact .mF ih
 | nC h ih=>exact .nC ih
 | j2 sz a c h=>exact .j2 sz a c h
 | isl cs aL ad aS aO AW gZ ak ih=>exact .isl cs (mL _ aL) ad aS aO (fun j x aa=>(jR _ _ aL).trans (AW j x aa)) gZ ih
 | eB cs aL ad aS AW gZ ak ih=>exact .eB cs (mL _ aL) ad aS (fun j x aa=>(jR _ _ aL).trans (AW j x aa)) gZ ih
 | pk sz=>exact .pk sz
 | oT h ih=>exact .oT ih
 | agg vs aS gZ ak ih=>exact .agg vs aS gZ ih
 | dK vs aS ak ih=>exact .dK vs aS ih
 | fn vs aS ak ih=>exact .fn vs aS ih
structure G where
 mu:World
 A:Nat→Prop
 pB:Nat→Prop
 N:Nat
 m:Nat
 o0:iX
 rm:iM
def S.aY (s:S)(r k:Nat):Prop:=k<((s.aP r).getD []).length
def de (row:Option (List ab))(k:Nat):Option ab :=
 match row with
 | some l=>match l[k]? with
  | some I=>if I.ck = .gone then none else some I
  | none=>none
 | none=>none
def S.af (s:S)(r k:Nat):Option ab:=de (s.aP r) k
def S.a7 (s:S)(au:e9):iM:=fun r k=>(s.af r k).map fun I=>(I.sz,au r k)
def S.lG (s:S)(au:e9)(b:Nat):Prop:= ∃r k I m,s.af r k=some I∧I.ck = .live∧au r k=some (b,m)
def S.ok (s:S)(g:G)(au:e9)(w:World)(b:Nat):Prop :=
 b<w.heap.size∧(g.A b∨g.mu.heap.size≤b∨g.pB b)∧ ¬s.lG au b
def iT (w:World)(ok:Nat→Prop)(aY:iX)(a7:iM)(I:ab):Option (Nat×Nat)→Prop
 | none=>I.es=[]
 | some (dS,m)=> ∃c et,w.heap[dS]? = some (.cells c et (0,0))∧c.size=m∧(∀e∈I.es,e.length=I.sz) ∧
  ∀(j:Nat) x,I.es.flatten[j]? = some x→ ∃v,c[j]? = some v∧jZ v=true∧Rel w ok aY a7 x v
structure Aw (g:G) (w:World):Prop where
 os:w.os=g.mu.os
 tape:w.tape=g.mu.tape
 output:w.output=g.mu.output
 size:g.mu.heap.size≤w.heap.size
 block : ∀b,b<g.mu.heap.size→ ¬g.pB b→w.heap[b]? = g.mu.heap[b]?
structure h3 (g:G) (s:S) (au:e9) (w:World):Prop where
 obj : ∀r k I,s.af r k=some I→iT w (s.ok g au w) s.aY (s.a7 au) I (au r k)
 inj : ∀r k I eu dD bW b m a3,s.af r k=some I→s.af eu dD=some bW→au r k=some (b,m)→au eu dD=some (b,a3)→r=eu∧k=dD
 own : ∀r k I b m,s.af r k=some I→au r k=some (b,m)→g.mu.heap.size≤b∨g.pB b
 gO:Aw g w
 mlt : ∀b,g.pB b→b<g.mu.heap.size
 m9 : ∀b,g.A b→b<g.mu.heap.size
 stay : ∀j k,g.o0 j k→s.aY j k∧(s.a7 au j k=g.rm j k∨s.a7 au j k=none)
 low : ∀j k,g.o0 j k→j<g.m
structure cG (g:G) (s:S) (au:e9) (a:Act) (w:World):Prop extends h3 g s au w where
 env : ∀t,Rel w (s.ok g au w) s.aY (s.a7 au) (s.E t) (a.tmps.getD t undef)
 defers:a.defers=[]
 jw:g.N≤a.tmps.size
def ofValue:Value→aw
 | .bool x=> .b x
 | .int k x=> .n k x
 | .string x=> .s x
 | .pointer none=> .ic
 | .slice none 0 0=> .ex
 | _=> .dead
theorem MA {w:World}{ok:Nat→Prop}{aY:iX}{a7:iM}(v:Value):Rel w ok aY a7 (ofValue v) v:=by
 unfold ofValue
 split<;>constructor
def ey (E:Nat→aw):Operand→aw
 | .tmp t=>E t
 | .const v=>ofValue v
 | .global _=> .dead
 | .func f=> .fn f []
theorem cG.eval {g:G}{s:S}{au:e9}{a:Act}{w:World}(h:cG g s au a w)(x:Operand):
 Rel w (s.ok g au w) s.aY (s.a7 au) (ey s.E x) (a.eval x):=by
 cases x with
 | tmp t=>exact h.env t
 | const v=>exact MA v
 | global g=>exact .dead _
 | func f=>exact .fn [] rfl (fun j x v aa=>by simp at aa)
def aw.cells:aw→List aw
 | .agg c=>c
 | x=>[x]
def aw.one:aw→Bool
 | .dead | .agg _ | .dK _=>false
 | _=>true
def aw.xH:aw→Bool
 | .dead | .dK _=>false
 | _=>true
theorem aw.MB {v:aw}(h:v.xH=true):v.one=true∨ ∃c,v = .agg c:=by
 cases v<;>first|exact .inl rfl|exact .inr ⟨_,rfl⟩|simp [aw.xH] at h
theorem Rel.jZ {w:World}{ok:Nat→Prop}{aY:iX}{a7:iM}{a:aw}{v:Value}(h:Rel w ok aY a7 a v)(bw:a.one=true):jZ v=true:=by
 cases h with
 | oT h=>cases h;rfl
 | mF h=>cases h<;>rfl
 | nC h=>cases h<;>rfl
 | _=>first|rfl|simp [aw.one] at bw
theorem Rel.cellsOf {w:World}{ok:Nat→Prop}{aY:iX}{a7:iM}{a:aw}{v:Value}(h:Rel w ok aY a7 a v)(bw:a.one=true∨ ∃c,a = .agg c):
 ∃vs:List Value,v.cells=vs.toArray∧vs.length=a.cells.length∧(∀(j:Nat) x,vs[j]? = some x→VL.jZ x=true) ∧
  ∀(j:Nat) x u,a.cells[j]? = some x→vs[j]? = some u→Rel w ok aY a7 x u:=by
 rcases bw with bw|⟨c,rfl⟩
 ·have aO:=h.jZ bw
  refine ⟨[v],?_,?_,?_,?_⟩
  ·cases v<;>first|rfl|simp [VL.jZ,Value.oneCell'] at aO
  ·cases a<;>first|rfl|simp [aw.one] at bw
  ·intro j x aa
   cases j with
   | zero=>simp at aa;subst aa;exact aO
   | succ j=>simp at aa
  ·intro j x u aa hu
   have e:a.cells=[a]:=by cases a<;>first|rfl|simp [aw.one] at bw
   rw [e] at aa
   cases j with
   | zero=>simp at aa hu;subst aa;subst hu;exact h
   | succ j=>simp at aa
 ·cases h with
  | agg vs aS jR ak=>exact ⟨vs,rfl,aS,jR,ak⟩
end Go.VL
namespace Go.VL
set_option linter.unusedVariables false
set_option linter.unusedSimpArgs false
open Go
def S.put (s:S)(dst:Option Tmp)(v:aw):S :=
 match dst with
 | some t=>{s with E:=fun u=>if u=t then v else s.E u}
 | none=>s
def S.setRow (s:S)(r:Nat)(row:List ab):S:={s with aP:=fun q=>if q=r then some row else s.aP q}
@[simp] theorem S.tF (s:S) (dst:Option Tmp) (v:aw):(s.put dst v).aP=s.aP:=by cases dst<;>rfl
@[simp] theorem S.acX (s:S) (r:Nat) (row:List ab):(s.setRow r row).E=s.E:=rfl
theorem zQ {s bI:S}(h:bI.aP=s.aP):bI.af=s.af:=by funext r k;simp [S.af,h]
theorem xI {s bI:S}(h:bI.aP=s.aP):bI.aY=s.aY:=by funext r k;simp [S.aY,h]
theorem xJ {s bI:S}(h:bI.aP=s.aP)(au:e9):bI.a7 au=s.a7 au:=by unfold S.a7;rw [zQ h]
theorem UH {s bI:S}(h:bI.aP=s.aP)(au:e9):bI.lG au=s.lG au:=by unfold S.lG;rw [zQ h]
theorem zR {s bI:S}(h:bI.aP=s.aP)(g:G)(au:e9)(w:World):bI.ok g au w=s.ok g au w:=by
 funext b;unfold S.ok;rw [UH h]
theorem h3.congr {g:G}{s bI:S}{au:e9}{w:World}(h:h3 g s au w)(e:bI.aP=s.aP):h3 g bI au w where
 obj:=by rw [zQ e,xI e,xJ e,zR e];exact h.obj
 inj:=by rw [zQ e];exact h.inj
 own:=by rw [zQ e];exact h.own
 gO:=h.gO
 mlt:=h.mlt
 m9:=h.m9
 stay:=by rw [xI e,xJ e];exact h.stay
 low:=h.low
theorem Wx (a:Act)(dst:Option Tmp)(v:Value)(t:Nat)(eI:∀d,dst=some d→d<a.tmps.size):
 (a.put dst v).tmps.getD t undef=if dst=some t then v else a.tmps.getD t undef:=by
 cases dst with
 | none=>simp [Act.put]
 | some d =>
  have:=eI d rfl
  simp only [Act.put,Array.getD_eq_getD_getElem?,Array.getElem?_setIfInBounds,Option.some.injEq]
  by_cases e:d=t
  ·subst e;simp [this]
  ·simp [e]
theorem cG.put {g:G}{s:S}{au:e9}{a:Act}{w:World}(h:cG g s au a w)(dst:Option Tmp){x:aw}{v:Value}
 (aU : ∀d,dst=some d→d<g.N) (ak:Rel w (s.ok g au w) s.aY (s.a7 au) x v):cG g (s.put dst x) au (a.put dst v) w where
 toh3:=h.toh3.congr (S.tF s dst x)
 env:=by
  have e:=S.tF s dst x
  rw [zR e,xI e,xJ e]
  intro t
  rw [Wx a dst v t fun d sY=>Nat.lt_of_lt_of_le (aU d sY) h.jw]
  cases dst with
  | none=>simpa [S.put] using h.env t
  | some d =>
   simp only [S.put,Option.some.injEq]
   by_cases e:t=d
   ·subst e;simpa using ak
   ·rw [if_neg e,if_neg (Ne.symm e)];exact h.env t
 defers:=by cases dst<;>exact h.defers
 jw:=by cases dst<;>simpa [Act.put] using h.jw
structure Step (g:G) (s:S) (au:e9) (w:World) (bI:S) (bE:e9) (bB:World):Prop where
 aY : ∀r k,s.aY r k→bI.aY r k
 a7 : ∀r k,s.aY r k→bI.a7 bE r k=s.a7 au r k∨bI.a7 bE r k=none
 live : ∀b,bI.lG bE b→s.lG au b∨w.heap.size≤b
 heap : ∀b,b<w.heap.size→ ¬s.lG au b→bB.heap[b]? = w.heap[b]?
 size:w.heap.size≤bB.heap.size
theorem Step.ok {g:G}{s bI:S}{au bE:e9}{w bB:World}(h:Step g s au w bI bE bB)(b:Nat)(aL:s.ok g au w b):bI.ok g bE bB b :=
 ⟨Nat.lt_of_lt_of_le aL.1 h.size,aL.2.1,fun aS=>by
  rcases h.live b aS with o|o
  ·exact aL.2.2 o
  ·exact absurd aL.1 (by omega)⟩
theorem Step.rel {g:G}{s bI:S}{au bE:e9}{w bB:World}(h:Step g s au w bI bE bB){x:aw}{v:Value}
 (ak:Rel w (s.ok g au w) s.aY (s.a7 au) x v):Rel bB (bI.ok g bE bB) bI.aY (bI.a7 bE) x v :=
 ak.mono h.ok (fun b aL=>h.heap b aL.1 aL.2.2) h.aY h.a7
theorem Step.obj {g:G}{s bI:S}{au bE:e9}{w bB:World}(h:Step g s au w bI bE bB){I:ab}{p:Option (Nat×Nat)}
 (ad : ∀b m,p=some (b,m)→bB.heap[b]? = w.heap[b]?) (ai:iT w (s.ok g au w) s.aY (s.a7 au) I p) :
 iT bB (bI.ok g bE bB) bI.aY (bI.a7 bE) I p:=by
 cases p with
 | none=>exact ai
 | some q =>
  obtain ⟨b,m⟩:=q
  obtain ⟨c,et,o,R,ah,aB⟩:=ai
  refine ⟨c,et,(ad b m rfl).trans o,R,ah,fun j x aa=> ?_⟩
  obtain ⟨v,ay,aD,bV⟩:=aB j x aa
  exact ⟨v,ay,aD,h.rel bV⟩
theorem Step.stay {g:G}{s bI:S}{au bE:e9}{w bB:World}(h:Step g s au w bI bE bB)
 (bZ : ∀j k,g.o0 j k→s.aY j k∧(s.a7 au j k=g.rm j k∨s.a7 au j k=none)) : ∀j k,g.o0 j k→bI.aY j k∧(bI.a7 bE j k=g.rm j k∨bI.a7 bE j k=none):=by
 intro j k az
 obtain ⟨o,R⟩:=bZ j k az
 refine ⟨h.aY j k o,?_⟩
 rcases h.a7 j k o with e|e
 ·rw [e];exact R
 ·exact .inr e
theorem Aw.step {g:G}{w bB:World}(h:Aw g w)(o:bB.os=w.os)(R:bB.tape=w.tape)(ah:bB.output=w.output)(aB:w.heap.size≤bB.heap.size)
 (aK : ∀b,b<g.mu.heap.size→ ¬g.pB b→bB.heap[b]? = w.heap[b]?):Aw g bB :=
 ⟨o.trans h.os,R.trans h.tape,ah.trans h.output,Nat.le_trans h.size aB,fun b aL hm=>(aK b aL hm).trans (h.block b aL hm)⟩
theorem ll (s:S)(r:Nat)(row:List ab)(q k:Nat):(s.setRow r row).af q k=if q=r then de (some row) k else s.af q k:=by
 unfold S.af S.setRow
 by_cases e:q=r<;>simp [e]
theorem m3 (s:S)(r:Nat)(row:List ab)(q k:Nat):(s.setRow r row).aY q k↔(if q=r then k<row.length else s.aY q k):=by
 unfold S.aY S.setRow
 by_cases e:q=r<;>simp [e]
theorem Dg {s:S}{r k:Nat}{I:ab}(h:s.af r k=some I):s.aY r k:=by
 unfold S.af de at h
 unfold S.aY
 cases ak:s.aP r with
 | none=>rw [ak] at h;simp at h
 | some l =>
  rw [ak] at h
  simp only at h
  rcases Nat.lt_or_ge k l.length with o|o
  ·simpa using o
  ·rw [List.getElem?_eq_none o] at h;simp at h
theorem xj {s:S}{r:Nat}(h:s.aP r=none)(k:Nat): ¬s.aY r k:=by simp [S.aY,h]
theorem CR (s:S){r:Nat}{l row:List ab}(ak:s.aP r=some l)(aS:l.length≤row.length)(q k:Nat)(h:s.aY q k):(s.setRow r row).aY q k:=by
 rw [m3]
 by_cases e:q=r
 ·subst e;rw [if_pos rfl];simp [S.aY,ak] at h;omega
 ·rw [if_neg e];exact h
theorem acy {s:S}{r:Nat}(h:s.aP r=none)(k:Nat):s.af r k=none:=by simp [S.af,h,de]
def e9.set (au:e9)(r k:Nat)(p:Option (Nat×Nat)):e9:=fun q j=>if q=r∧j=k then p else au q j
theorem l2 (I:ab)(k:Nat):de (some [I]) k=if k=0∧I.ck≠ .gone then some I else none:=by
 unfold de
 cases k with
 | zero=>by_cases h:I.ck = .gone<;>simp [h]
 | succ k=>simp
theorem Rel.drew {w:World}{ok:Nat→Prop}{aY:iX}{a7:iM}{x:aw}{v:Value}(h:Rel w ok aY a7 x v):Rel w.drew ok aY a7 x v :=
 h.mono (fun _ h=>h) (fun _ _=>rfl) (fun _ _ h=>h) (fun _ _ _=> .inl rfl)
theorem iT.drew {w:World}{ok:Nat→Prop}{aY:iX}{a7:iM}{I:ab}{p:Option (Nat×Nat)}(h:iT w ok aY a7 I p):iT w.drew ok aY a7 I p:=by
 cases p with
 | none=>exact h
 | some q =>
  obtain ⟨c,et,o,R,ah,aB⟩:=h
  exact ⟨c,et,o,R,ah,fun j x aa=>let ⟨v,a,b,c⟩:=aB j x aa;⟨v,a,b,c.drew⟩⟩
theorem h3.drew {g:G}{s:S}{au:e9}{w:World}(h:h3 g s au w):h3 g s au w.drew :=
 {obj:=fun r k I ai=>(h.obj r k I ai).drew,inj:=h.inj,own:=h.own,gO:=⟨h.gO.os,h.gO.tape,h.gO.output,h.gO.size,h.gO.block⟩,mlt:=h.mlt,m9:=h.m9,stay:=h.stay,low:=h.low}
theorem cG.drew {g:G}{s:S}{au:e9}{a:Act}{w:World}(h:cG g s au a w):cG g s au a w.drew where
 toh3:=h.toh3.drew
 env:=fun t=>(h.env t).drew
 defers:=h.defers
 jw:=h.jw
theorem cG.alloc {g:G}{s:S}{au:e9}{a:Act}{w:World}(h:cG g s au a w){r:Nat}(ak:s.aP r=none)(I:ab)(aZ:I.ck = .live)
 (c:Array Value) (et:TypeId) (hlen : ∀e∈I.es,e.length=I.sz)
 (aO : ∀(j:Nat) x,I.es.flatten[j]? = some x→ ∃v,c[j]? = some v∧jZ v=true∧Rel w (s.ok g au w) s.aY (s.a7 au) x v) :
 ∃bE,bE r 0=some (w.heap.size,c.size)∧cG g (s.setRow r [I]) bE a (w.alloc (.cells c et)) ∧
  ∀x v,Rel w (s.ok g au w) s.aY (s.a7 au) x v→Rel (w.alloc (.cells c et)) ((s.setRow r [I]).ok g bE (w.alloc (.cells c et))) (s.setRow r [I]).aY ((s.setRow r [I]).a7 bE) x v:=by
 have lz : ∀q k,q≠r→(au.set r 0 (some (w.heap.size,c.size))) q k=au q k:=fun q k a5=>by simp [e9.set,a5]
 have bf : ∀q k,q≠r→(s.setRow r [I]).af q k=s.af q k:=fun q k a5=>by rw [ll,if_neg a5]
 have yl : ∀k,(s.setRow r [I]).af r k=if k=0 then some I else none:=fun k=>by
  rw [ll,if_pos rfl,l2];simp [aZ]
 have sR : ∀q k p b m,s.af q k=some p→au q k=some (b,m)→b<w.heap.size:=fun q k p b m ad a5=>by
  have:=h.obj q k p ad
  rw [a5] at this
  obtain ⟨dR,mn,fC,_⟩:=this
  exact (Array.getElem?_eq_some_iff.1 fC).1
 have c2:Step g s au w (s.setRow r [I]) (au.set r 0 (some (w.heap.size,c.size))) (w.alloc (.cells c et)):=by
  refine ⟨fun q k a5=>(m3 _ _ _ _ _).2 (by rw [if_neg (by rintro rfl;exact xj ak k a5)];exact a5),fun q k a5=> ?_,fun b aL=> ?_,fun b aL _=>heap_alloc_old w _ b aL,by simp⟩
  ·have cw:q≠r:=by rintro rfl;exact xj ak k a5
   left
   simp only [S.a7,bf q k cw,lz q k cw]
  ·obtain ⟨q,k,p,m,o,R,ah⟩:=aL
   by_cases e:q=r
   ·subst e
    rw [yl] at o
    by_cases e0:k=0
    ·subst e0;simp [e9.set] at ah;right;omega
    ·simp [e0] at o
   ·rw [bf q k e] at o;rw [lz q k e] at ah
    exact .inl ⟨q,k,p,m,o,R,ah⟩
 refine ⟨au.set r 0 (some (w.heap.size,c.size)),by simp [e9.set],?_,fun x v=>c2.rel⟩
 refine {toh3:=⟨?_,?_,?_,?_,h.mlt,h.m9,c2.stay h.stay,h.low⟩,env:=fun t=>c2.rel (h.env t),defers:=h.defers,jw:=h.jw}
 ·intro q k p ad
  by_cases e:q=r
  ·subst e
   rw [yl] at ad
   by_cases e0:k=0
   ·subst e0
    simp at ad
    subst ad
    simp only [e9.set,and_self,if_true]
    exact ⟨c,et,heap_alloc_new w _,rfl,hlen,fun j x aa=>let ⟨v,ay,aD,bV⟩:=aO j x aa;⟨v,ay,aD,c2.rel bV⟩⟩
   ·simp [e0] at ad
  ·rw [bf q k e] at ad
   rw [lz q k e]
   exact c2.obj (fun b m hm=>heap_alloc_old w _ b (sR q k p b m ad hm)) (h.obj q k p ad)
 ·intro q k p g7 dD j8 b m a3 o R ah aB
  by_cases e:q=r<;>by_cases ev:g7=r
  ·subst e;subst ev
   rw [yl] at o R
   by_cases e0:k=0<;>by_cases ay:dD=0<;>simp [e0,ay] at o R
   exact ⟨rfl,by omega⟩
  ·subst e
   rw [yl] at o;rw [bf _ _ ev] at R;rw [lz _ _ ev] at aB
   by_cases e0:k=0<;>simp [e0] at o
   subst e0
   simp [e9.set] at ah
   have:=sR g7 dD j8 b a3 R aB
   omega
  ·subst ev
   rw [bf _ _ e] at o;rw [yl] at R;rw [lz _ _ e] at ah
   by_cases e0:dD=0<;>simp [e0] at R
   subst e0
   simp [e9.set] at aB
   have:=sR q k p b m o ah
   omega
  ·rw [bf _ _ e] at o;rw [bf _ _ ev] at R;rw [lz _ _ e] at ah;rw [lz _ _ ev] at aB
   exact h.inj q k p g7 dD j8 b m a3 o R ah aB
 ·intro q k p b m o R
  by_cases e:q=r
  ·subst e
   rw [yl] at o
   by_cases e0:k=0<;>simp [e0] at o
   subst e0
   simp [e9.set] at R
   left
   have:=h.gO.size
   omega
  ·rw [bf _ _ e] at o;rw [lz _ _ e] at R
   exact h.own q k p b m o R
 ·exact h.gO.step rfl rfl rfl (by simp) fun b aL _=>heap_alloc_old w _ b (Nat.lt_of_lt_of_le aL h.gO.size)
theorem NV (l:List ab)(k:Nat)(I bW:ab)(h:de (some l) k=some I)(aZ:bW.ck≠ .gone)(j:Nat):
 de (some (l.set k bW)) j=if j=k then some bW else de (some l) j:=by
 unfold de at *
 have dn:k<l.length:=by
  rcases Nat.lt_or_ge k l.length with o|o
  ·exact o
  ·simp [List.getElem?_eq_none o] at h
 by_cases e:j=k
 ·subst e;simp [dn,aZ]
 ·simp only [List.getElem?_set,if_neg (Ne.symm e),if_neg e]
theorem cG.write {g:G}{s:S}{au:e9}{a:Act}{w bB:World}(h:cG g s au a w){r k b m:Nat}{l:List ab}{I:ab}(ak:s.aP r=some l)(ai:s.af r k=some I)
 (aZ:I.ck = .live) (ad:au r k=some (b,m)) (es:List (List aw)) (c:Array Value) (et:TypeId)
 (hw:bB.heap[b]? = some (.cells c et (0,0))) (eI:bB.heap.size=w.heap.size) (u5 : ∀q,q≠b→bB.heap[q]? = w.heap[q]?)
 (qO:bB.os=w.os) (JN:bB.tape=w.tape) (Jr:bB.output=w.output) (hm:c.size=m)
 (hlen : ∀e∈es,e.length=I.sz)
 (aO : ∀(j:Nat) x,es.flatten[j]? = some x→ ∃v,c[j]? = some v∧jZ v=true∧Rel w (s.ok g au w) s.aY (s.a7 au) x v) :
 cG g (s.setRow r (l.set k {I with es})) au a bB ∧
  ∀x v,Rel w (s.ok g au w) s.aY (s.a7 au) x v→Rel bB ((s.setRow r (l.set k {I with es})).ok g au bB) (s.setRow r (l.set k {I with es})).aY ((s.setRow r (l.set k {I with es})).a7 au) x v:=by
 have gJ:({I with es}:ab).ck≠ .gone:=by rw [aZ];simp
 have bf : ∀q j,(s.setRow r (l.set k {I with es})).af q j=if q=r∧j=k then some {I with es} else s.af q j:=by
  intro q j
  rw [ll]
  by_cases e:q=r
  ·subst e
   have dL:de (some l) k=some I:=by rw [← ak];exact ai
   rw [if_pos rfl,NV l k I _ dL gJ]
   by_cases aD:j=k<;>simp [aD,S.af,ak]
  ·simp [e]
 have pW:s.lG au b:=⟨r,k,I,m,ai,aZ,ad⟩
 have c2:Step g s au w (s.setRow r (l.set k {I with es})) au bB:=by
  refine ⟨CR s ak (by simp),fun q j a5=> .inl ?_,fun q a5=> ?_,fun q a5 aS=>u5 q fun e=>aS (e▸pW),Nat.le_of_eq eI.symm⟩
  ·simp only [S.a7,bf]
   by_cases e:q=r∧j=k
   ·obtain ⟨rfl,rfl⟩:=e;simp [ai]
   ·rw [if_neg e]
  ·obtain ⟨g7,j,p,a3,o,R,ah⟩:=a5
   rw [bf] at o
   by_cases e:g7=r∧j=k
   ·obtain ⟨rfl,rfl⟩:=e
    exact .inl ⟨g7,j,I,a3,ai,aZ,ah⟩
   ·rw [if_neg e] at o
    exact .inl ⟨g7,j,p,a3,o,R,ah⟩
 refine ⟨{toh3:=⟨?_,?_,?_,?_,h.mlt,h.m9,c2.stay h.stay,h.low⟩,env:=fun t=>c2.rel (h.env t),defers:=h.defers,jw:=h.jw},fun x v=>c2.rel⟩
 ·intro q j p ke
  rw [bf] at ke
  by_cases e:q=r∧j=k
  ·obtain ⟨rfl,rfl⟩:=e
   simp at ke
   subst ke
   rw [ad]
   exact ⟨c,et,hw,hm,hlen,fun j x aa=>let ⟨v,ay,aD,bV⟩:=aO j x aa;⟨v,ay,aD,c2.rel bV⟩⟩
  ·rw [if_neg e] at ke
   refine c2.obj (fun jB a3 kF=>u5 jB ?_) (h.obj q j p ke)
   rintro rfl
   exact e (h.inj q j p r k I jB a3 m ke ai kF ad)
 ·intro q j p g7 hK j8 jB gd gp o R ah aB
  have key : ∀q j p,(s.setRow r (l.set k {I with es})).af q j=some p→ ∃j8,s.af q j=some j8:=by
   intro q j p a5
   rw [bf] at a5
   by_cases e:q=r∧j=k
   ·obtain ⟨rfl,rfl⟩:=e;exact ⟨I,ai⟩
   ·rw [if_neg e] at a5;exact ⟨p,a5⟩
  obtain ⟨h6,aai⟩:=key q j p o
  obtain ⟨jC,AX⟩:=key g7 hK j8 R
  exact h.inj q j h6 g7 hK jC jB gd gp aai AX ah aB
 ·intro q j p jB a3 o R
  rw [bf] at o
  by_cases e:q=r∧j=k
  ·obtain ⟨rfl,rfl⟩:=e;exact h.own q j I jB a3 ai R
  ·rw [if_neg e] at o;exact h.own q j p jB a3 o R
 ·refine h.gO.step qO JN Jr (Nat.le_of_eq eI.symm) fun jB pr kF=>u5 jB ?_
  rintro rfl
  rcases h.own r k I jB m ai ad with o|o
  ·omega
  ·exact kF o
end Go.VL
namespace Go.VL
set_option linter.unusedVariables false
set_option linter.unusedSimpArgs false
open Go
inductive tf where
 | id
 | ej (es:List (List aw))
 | mv (sz:Nat)
 | jd
 | da (x:aw)
 | len (n:Nat)
 | pC (sz:Nat)
 | at_ (j i n:Nat)
 | view (ed:Nat) (I:ab) (es:List (List aw))
 deriving Inhabited
inductive y0 where
 | b4 (c:tf)
 | ptr (l:List tf)
 | sS (l:List tf)
 | agg (l:List tf)
 deriving Inhabited
inductive lb where
 | bp (c:y0)
 | comp (l:List y0)
 deriving Inhabited
inductive iv where
 | pure
 | box (l:List tf)
 | da (row:List ab)
 | bt (row:List ab)
 | rx (row:List ab)
 | drop
 deriving Inhabited
structure na where
 aU:List (Nat×Nat):=[]
 bN:Option (Nat×Nat):=none
 deriving DecidableEq
inductive Src where
 | row (r:Nat)
 | af (r k:Nat) (I:ab)
 deriving Inhabited
structure BB where
 aM:List Src:=[]
 cM:List iv:=[]
 ac:List lb
 r:aw
 dT:List (List ab):=[]
 ff:lb:= .bp (.b4 .id)
 fR:List iv:=[]
 dA:List Nat:=[]
 dt:Bool:=true
inductive fe where
 | none
 | ao (t:Bool)
 | cK (c:List aw)
 | hd (I:ab) (c:List aw)
 | dO
 | call (c:BB)
 | bb (m:Nat) (I:Option ab:=Option.none)
 | fX (t:Nat) (v:aw) (a:fe)
 | vW (r:Nat) (a:fe)
 | BC (r n:Nat) (a:fe)
structure hk where
 val:aw
 fv:List (Nat×List ab):=[]
 e7:List Prop:=[]
def z7 (P:Program)(t:TypeId):Bool :=
 match P.underlying t with
 | some (.struct _)|some (.array _ _)=>true
 | _=>false
def ym (nk:List Int):ByteArray:=nk.foldl (fun r n=>r.push (UInt8.ofNat n.toNat)) ByteArray.empty
def bytesOf:List (List aw)→Option (List Int)
 | []=>some []
 | [.n .u8 n]::es=>(bytesOf es).map (n :: ·)
 | _=>none
def elemAt (es:List (List aw))(i:Nat):fe→Option (List aw×List Prop)
 | .cK c=>some (c,[es[i]? = some c])
 | .hd _ c=>some (c,[es[i]? = some c])
 | _=>match es[i]? with
  | some c=>some (c,[])
  | none=>none
def oa (row:Option (List ab))(k:Nat):fe→Option (ab×List Prop)
 | .hd I _=>match row with
  | some row=>some (I,[de (some row) k=some I])
  | none=>none
 | _=>match de row k with
  | some I=>some (I,[])
  | none=>none
def qD (P:Program)(t:TypeId)(c:List aw)(off:Nat):Option aw :=
 if !((P.underlying t).isSome && (P.info? t).isSome) then none else
 if z7 P t then (if off+P.cellsOf t≤c.length then some (.agg ((c.drop off).take (P.cellsOf t))) else none)
 else match c[off]? with
  | some x=>if x.one then some x else none
  | none=>none
def Js (op:BinOp)(x y:aw):Option (aw×List Prop) :=
 match x,y with
 | .n k a,.n dD b =>
  match op with
  | .shl=>some (.n k (k.wrap (a*2 ^ (min b.toNat k.bits))),[0≤b])
  | .shr=>some (.n k (a.fdiv (2 ^ (min b.toNat k.bits))),[0≤b])
  | _=>if k≠dD then none else
   match op with
   | .add=>some (.n k (k.wrap (a+b)),[])
   | .sub=>some (.n k (k.wrap (a-b)),[])
   | .mul=>some (.n k (k.wrap (a*b)),[])
   | .quo=>some (.n k (k.wrap (a.tdiv b)),[b≠0])
   | .rem=>some (.n k (a.tmod b),[b≠0])
   | .and=>some (.n k (k.wrap ((BitVec.ofInt k.bits a &&& BitVec.ofInt k.bits b).toNat)),[])
   | .or=>some (.n k (k.wrap ((BitVec.ofInt k.bits a ||| BitVec.ofInt k.bits b).toNat)),[])
   | .xor=>some (.n k (k.wrap ((BitVec.ofInt k.bits a ^^^ BitVec.ofInt k.bits b).toNat)),[])
   | .eql=>some (.b (a == b),[])
   | .neq=>some (.b (a != b),[])
   | .lss=>some (.b (decide (a<b)),[])
   | .leq=>some (.b (decide (a≤b)),[])
   | .gtr=>some (.b (decide (b<a)),[])
   | .geq=>some (.b (decide (b≤a)),[])
   | _=>none
 | .s a,.s b =>
  match op with
  | .add=>some (.s (a++b),[a.size+b.size<9223372036854775808])
  | .eql=>some (.b (a.toList == b.toList),[])
  | .neq=>some (.b (!(a.toList == b.toList)),[])
  | _=>none
 | _,_=>none
def r4 (P:Program)(t:TypeId)(x y:aw):Option Bool :=
 match P.underlying t,x,y with
 | some .bool,.b a,.b c=>some (a == c)
 | some (.pointer _),.ic,.ic=>some true
 | some (.pointer _),.eB ..,.ic=>some false
 | some (.pointer _),.ic,.eB .. => some false
 | some (.slice _),.ex,.ex=>some true
 | some (.slice _),.iC,.ex=>some false
 | _,_,_=>none
def JO (op:UnOp)(x:aw):Option aw :=
 match op,x with
 | .neg,.n k a=>some (.n k (k.wrap (0-a)))
 | .not,.b a=>some (.b (!a))
 | _,_=>none
def fieldsOf (P:Program)(t:TypeId):Option (Array Field) :=
 match P.underlying t with
 | some (.struct kx)=>some kx
 | _=>none
def pX (P:Program)(t:TypeId):Option TypeId :=
 match P.underlying t with
 | some (.slice e)=>some e
 | _=>none
def qt (P:Program)(t:TypeId):Option (List aw) :=
 match P.info? t with
 | some i=>match i.zero with
  | some v=>if v.cells.toList.all (·.oneCell') then some (v.cells.toList.map ofValue) else none
  | none=>none
 | none=>none
def Ax (P:Program)(t:TypeId):Option (Nat×TypeId) :=
 match P.underlying t with
 | some (.array n e)=>if (P.info? e).isSome∧P.cellsOf e≠0∧1<n then some (n,e) else none
 | _=>none
def pZ (j:Int):List aw→List aw→Option (List aw)
 | [],[]=>some []
 | .n k x::a,.n dD y::b=>if k=dD then (pZ j a b).map (.n k (if j=0 then x else y) :: ·) else none
 | _,_=>none
def I4 (P:Program)(t:TypeId)(x j9:aw):Option hk :=
 match Ax P t,x,j9 with
 | some (2,e),.agg cs,.n _ j=>match qD P e cs (0*P.cellsOf e),qD P e cs (1*P.cellsOf e) with
  | some (.agg a),some (.agg b)=>(pZ j a b).map fun c=>{val:= .agg c,e7:=[0≤j,j<2]}
  | _,_=>none
 | _,_,_=>none
def yb (P:Program)(aP:Nat→Option (List ab))(t:TypeId)(x j9:aw)(cz:fe):Option hk :=
 match Ax P t,x,j9 with
 | some (n,e),.ref r k i off,.n _ j=>match oa (aP r) k cz with
  | some (af,b0)=>match elemAt af.es i cz with
   | some (_,bg)=>some {val:= .ref r k i (off+j.toNat*P.cellsOf e),e7:=b0++bg++[0≤j,j<n]}
   | none=>none
  | none=>none
 | _,_,_=>none
def z8:aw→aw→aw
 | .ex,.isl sz []=> .isl sz []
 | .ic,.fp sz none=> .fp sz none
 | .ex,.iD r c sz none=> .iD r c sz none
 | x,_=>x
def rb:List aw→List aw→List aw
 | x::z,y::c=>z8 x y::rb z c
 | z,_=>z
def sG (z:List aw):fe→List aw
 | .cK c=>rb z c
 | _=>z
def setCells (c:List aw)(off:Nat)(vs:List aw):List aw:=c.take off++vs++c.drop (off+vs.length)
def rX:List aw→List (Nat×Nat×aw)→Option (List aw)
 | c,[]=>some c
 | c,(off,size,x)::rest =>
  if x.xH && x.cells.length=size && decide (off+size≤c.length) then rX (setCells c off x.cells) rest else none
def yc (sz:Nat):List (List aw)→List (Nat×aw)→Option (List (List aw))
 | es,[]=>some es
 | es,(i,x)::rest=>if x.xH && x.cells.length=sz && decide (i<es.length) then yc sz (es.set i x.cells) rest else none
def aC:Option aw→Nat→Option (Nat×List Prop)
 | none,d=>some (d,[])
 | some (.n _ x),_=>some (x.toNat,[0≤x])
 | _,_=>none
def Iy (P:Program)(t:TypeId)(parts:List (Nat×aw)):Option hk :=
 match Ax P t,qt P t with
 | some (_,e),some z=>(rX z (parts.map fun p=>(p.1*P.cellsOf e,P.cellsOf e,p.2))).map fun c=>{val:= .agg c}
 | _,_=>none
def eG (P:Program)(E:Nat→aw)(aP:Nat→Option (List ab))(aR:Nat)(I:Oper)(cz:fe):Option hk :=
 let ho:=ey E
 match I.op with
 | .move x | .assign x=>some {val:=ho x}
 | .pick c a b =>
  match ho c,cz with
  | .b x,.ao t=>some {val:=if t then ho a else ho b,e7:=[x=t]}
  | .b true,_=>some {val:=ho a}
  | .b false,_=>some {val:=ho b}
  | _,_=>none
 | .alloc t =>
  match qt P t with
  | some c=>some {val:= .ref aR 0 0 0,fv:=[(aR,[⟨c.length,[c],.live⟩])]}
  | none=>none
 | .box _ x =>
  match ho x with
  | .agg c=>some {val:= .ref aR 0 0 0,fv:=[(aR,[⟨c.length,[c],.live⟩])]}
  | v=>if v.one then some {val:= .ref aR 0 0 0,fv:=[(aR,[⟨1,[[v]],.live⟩])]} else none
 | .load t x =>
  match ho x with
  | .ref r k i off =>
   match oa (aP r) k cz with
   | some (af,b0)=>match elemAt af.es i cz with
    | some (c,bg)=>match qD P t c off with
     | some v=>some {val:=v,e7:=b0++bg}
     | none=>none
    | none=>none
   | none=>none
  | .eB _ es i off =>
   match elemAt es i cz with
   | some (c,bg)=>match qD P t c off with
    | some v=>some {val:=v,e7:=bg}
    | none=>none
   | none=>none
  | _=>none
 | .store t x y =>
  match ho x with
  | .ref r k i off =>
   match aP r with
   | none=>none
   | some row =>
   match oa (some row) k cz with
   | some (af,b0) =>
    if af.ck≠ .live then none else
    let v:=ho y
    if v.xH=false then none else
    if v.cells.length≠P.cellsOf t∨(P.info? t).isSome=false then none else
    match cz with
    | .dO=>if off=0 then some {val:= .dead,fv:=[(r,row.set k {af with es:=af.es.set i v.cells})],e7:=b0++[i<af.es.length,v.cells.length=af.sz]} else none
    | _=>match elemAt af.es i cz with
     | some (c,bg)=>if off+v.cells.length≤c.length then some {val:= .dead,fv:=[(r,row.set k {af with es:=af.es.set i (setCells c off v.cells)})],e7:=b0++bg} else none
     | none=>none
   | none=>none
  | _=>none
 | .nilCheck x =>
  match ho x with
  | .ref r k i off=>match oa (aP r) k cz with
   | some (af,b0)=>match elemAt af.es i cz with
    | some (_,bg)=>some {val:= .ref r k i off,e7:=b0++bg}
    | none=>none
   | none=>none
  | .eB sz es i off=>some {val:= .eB sz es i off}
  | .fn f c=>some {val:= .fn f c}
  | _=>none
 | .binOp op t x y _ =>
  match Js op (ho x) (ho y) with
  | some (v,af)=>some {val:=v,e7:=af}
  | none=>match op with
   | .eql=>(r4 P t (ho x) (ho y)).map fun r=>{val:= .b r}
   | .neq=>(r4 P t (ho x) (ho y)).map fun r=>{val:= .b (!r)}
   | _=>none
 | .unOp op _ x=>(JO op (ho x)).map fun v=>{val:=v}
 | .convert src dst x =>
  match P.underlying dst,ho x with
  | some (.int k),.n _ a=>if (P.underlying src).isSome then some {val:= .n k (k.wrap a)} else none
  | some .string,.bm r k bO len =>
   match (pX P src).bind P.underlying,de (aP r) k with
   | some (.int .u8),some af=>match bytesOf ((af.es.drop bO).take len) with
    | some nk=>if bO+len≤af.es.length∧af.sz=1 then some {val:= .s (ym nk)} else none
    | none=>none
   | _,_=>none
  | _,_=>none
 | .makeFunc (.func f) first captured =>
  if first.size=0 then some {val:= .fn f (captured.toList.map ho)} else none
 | .makeSlice t l c =>
  match pX P t,ho l,ho c with
  | some e,.n _ l,.n _ c =>
   match P.info? e,qt P e with
   | some i,some z=>if z.length=i.size then some {val:= .bm aR 0 0 l.toNat,fv:=[(aR,[⟨z.length,List.replicate l.toNat (sG z cz),.live⟩])],e7:=[0≤l,l≤c,(i.bytes:Int)*c≤281474976710656,c<9223372036854775808]} else none
   | _,_=>none
  | _,_,_=>none
 | .fieldAddr t x f =>
  match fieldsOf P t with
  | some kx=>match kx[f]? with
   | some fd=>if P.cellsOf fd.type=0 then none else
    match ho x with
    | .ref r k i off=>match oa (aP r) k cz with
     | some (af,b0)=>match elemAt af.es i cz with
      | some (_,bg)=>some {val:= .ref r k i (off+fd.offset),e7:=b0++bg}
      | none=>none
     | none=>none
    | .eB sz es i off=>some {val:= .eB sz es i (off+fd.offset)}
    | _=>none
   | none=>none
  | none=>none
 | .field t x f =>
  match fieldsOf P t with
  | some kx=>match kx[f]?,ho x with
   | some fd,.agg c=>(qD P fd.type c fd.offset).map fun v=>{val:=v}
   | _,_=>none
  | none=>none
 | .indexAddr t x j9 =>
  match pX P t,ho j9 with
  | some e,.n _ j =>
   match ho x with
   | .isl sz es=>if sz=P.cellsOf e∧sz≠0 then some {val:= .eB sz es j.toNat 0,e7:=[0≤j,j<es.length]} else none
   | .bm r k bO len=>match aP r with
    | some row=>match oa (some row) k cz with
     | some (af,b0)=>if af.sz=P.cellsOf e∧af.sz≠0 then some {val:= .ref r k (bO+j.toNat) 0,e7:=b0++[0≤j,j<len]} else none
     | none=>none
    | none=>none
   | _=>none
  | _,_=>yb P aP t (ho x) (ho j9) cz
 | .index t x j9 =>
  match P.underlying t,ho x,ho j9 with
  | some .string,.s s,.n _ j=>some {val:= .n .u8 (s.data.toList.getD j.toNat 0).toNat,e7:=[0≤j,j<s.size]}
  | _,_,_=>I4 P t (ho x) (ho j9)
 | .extract x i =>
  match ho x with
  | .dK vs=>(vs[i]?).map fun v=>{val:=v}
  | _=>none
 | .slice t x bO ae none =>
  match P.underlying t,ho x with
  | some (.slice e),.isl sz es =>
   match aC (bO.map ho) 0,aC (ae.map ho) es.length with
   | some (l,b0),some (h,bg)=>if sz=P.cellsOf e∧sz≠0 then some {val:= .isl sz ((es.drop l).take (h-l)),e7:=b0++bg++[l≤h,h≤es.length]} else none
   | _,_=>none
  | some (.slice e),.bm r k y1 len =>
   match aP r with
   | none=>none
   | some row=>match oa (some row) k cz with
    | none=>none
    | some (af,Rz) =>
     match aC (bO.map ho) 0,aC (ae.map ho) len with
     | some (l,b0),some (h,bg)=>if af.sz=P.cellsOf e∧af.sz≠0 then some {val:= .bm r k (y1+l) (h-l),e7:=Rz++b0++bg++[l≤h,h≤len]} else none
     | _,_=>none
  | some .string,.s s =>
   match aC (bO.map ho) 0,aC (ae.map ho) s.size with
   | some (l,b0),some (h,bg)=>some {val:= .s (s.extract l h),e7:=b0++bg++[l≤h,h≤s.size]}
   | _,_=>none
  | _,_=>none
 | .build t parts =>
  match fieldsOf P t,qt P t with
  | some kx,some z =>
   if kx.toList.all (fun f=>(P.info? f.type).isSome)=false then none else
   match parts.toList.mapM fun (p:Nat×Operand)=>(kx[p.1]?).map fun fd=>(fd.offset,P.cellsOf fd.type,ho p.2) with
   | some l=>(rX z l).map fun c=>{val:= .agg c}
   | none=>none
  | _,_=>Iy P t (parts.toList.map fun p=>(p.1,ho p.2))
 | .buildSlice t len parts =>
  match pX P t with
  | some e=>match qt P e with
   | some z =>
    if len*z.length>16777216∨z.length≠P.cellsOf e∨z.length=0 then none else
    match yc z.length (List.replicate len z) (parts.toList.map fun p=>(p.1,ho p.2)) with
    | some es=>some {val:= .bm aR 0 0 len,fv:=[(aR,[⟨z.length,es,.live⟩])]}
    | none=>none
   | none=>none
  | none=>none
 | .call {callee:= .builtin .len,args,argTypes} =>
  match args.toList.map ho,P.underlying (argTypes.getD 0 0),decide (argTypes.size=1) with
  | [.isl _ es],some (.slice _),true=>some {val:= .n .i64 es.length}
  | [.bm r k _ len],some (.slice _),true=>match aP r with
   | some row=>match oa (some row) k cz with
    | some (_,b0)=>some {val:= .n .i64 len,e7:=b0}
    | none=>none
   | none=>none
  | [.ex],some (.slice _),true=>some {val:= .n .i64 0}
  | [.s x],some .string,true=>some {val:= .n .i64 x.size}
  | _,_,_=>none
 | _=>none
end Go.VL
namespace Go.VL
set_option linter.unusedVariables false
set_option linter.unusedSimpArgs false
open Go
theorem pc {α:Type}{sz:Nat}(bZ:0<sz): ∀(es:List (List α)) (_ : ∀e∈es,e.length=sz) (j:Nat),
 es.flatten[j]? = (es[j / sz]?).bind (·[j % sz]?)
 | [],_,j=>by simp
 | e::es,h,j=>by
  have he:e.length=sz:=h e (by simp)
  rw [List.flatten_cons,List.getElem?_append]
  by_cases az:j<sz
  ·rw [if_pos (by omega),Nat.div_eq_of_lt az,Nat.mod_eq_of_lt az];simp
  ·rw [if_neg (by omega),he,pc bZ es (fun ev lN=>h ev (by simp [lN])) (j-sz)]
   have o:j / sz=(j-sz) / sz+1:=Nat.div_eq_sub_div bZ (by omega)
   have R:j % sz=(j-sz) % sz:=Nat.mod_eq_sub_mod (by omega)
   rw [o,R];simp
theorem zG {α:Type}{sz:Nat}{es:List (List α)}(aS:∀e∈es,e.length=sz){i:Nat}{c:List α}(he:es[i]? = some c){j:Nat}(az:j<sz):
 es.flatten[i*sz+j]? = c[j]? := by
 have bZ:0<sz:=by omega
 rw [pc bZ es aS]
 have o:(i*sz+j) / sz=i:=by
  rw [Nat.mul_comm,Nat.mul_add_div bZ,Nat.div_eq_of_lt az];omega
 have R:(i*sz+j) % sz=j:=by
  rw [Nat.mul_comm,Nat.mul_add_mod,Nat.mod_eq_of_lt az]
 rw [o,R,he];rfl
theorem MC {α:Type}{sz:Nat}{es:List (List α)}(aS:∀e∈es,e.length=sz){i:Nat}{c dR:List α}(he:es[i]? = some c)(aO:dR.length=sz)(j:Nat):
 (es.set i dR).flatten[j]? = if i*sz≤j∧j<i*sz+sz then dR[j-i*sz]? else es.flatten[j]? := by
 rcases Nat.eq_zero_or_pos sz with h0|bZ
 ·subst h0
  have ay : ∀(l:List (List α)),(∀e∈l,e.length=0)→l.flatten=[]:=by
   intro l aS;induction l with
   | nil=>rfl
   | cons a l ih=>rw [List.flatten_cons,ih fun e he=>aS e (by simp [he])];have:=aS a (by simp);simp_all
  rw [ay _ aS,ay (es.set i dR) (by
   intro e hm
   rcases List.mem_or_eq_of_mem_set hm with h|h
   ·exact aS e h
   ·exact h▸aO)]
  simp
 ·have JP : ∀e∈es.set i dR,e.length=sz:=by
   intro e hm
   rcases List.mem_or_eq_of_mem_set hm with h|h
   ·exact aS e h
   ·exact h▸aO
  have ae:i<es.length:=by
   rcases Nat.lt_or_ge i es.length with h|h
   ·exact h
   ·rw [List.getElem?_eq_none h] at he;simp at he
  rw [pc bZ _ JP,pc bZ _ aS]
  by_cases a5:j / sz=i
  ·have o:i*sz≤j∧j<i*sz+sz:=by
    subst a5
    constructor
    ·exact Nat.div_mul_le_self j sz
    ·have:=Nat.lt_div_mul_add (a:=j) bZ;omega
   rw [if_pos o,a5,List.getElem?_set_self ae]
   have:j % sz=j-i*sz:=by
    subst a5;have:=Nat.div_add_mod j sz;rw [Nat.mul_comm] at this;omega
   simp [this]
  ·have o : ¬(i*sz≤j∧j<i*sz+sz):=by
    rintro ⟨a,b⟩
    apply a5
    obtain ⟨d,rfl⟩ : ∃d,j=i*sz+d:=⟨j-i*sz,by omega⟩
    rw [Nat.mul_comm i sz,Nat.mul_add_div bZ,Nat.div_eq_of_lt (by omega)]
    omega
   rw [if_neg o,List.getElem?_set_ne (Ne.symm a5)]
def om (w:World)(ok:Nat→Prop)(aY:iX)(a7:iM)(dS I sz:Nat)(es:List (List aw)):Prop :=
 (∀e∈es,e.length=sz)∧ ∀(j:Nat) x,es.flatten[j]? = some x→ ∃v,w.cell? ⟨dS,I+j,none⟩=some v∧jZ v=true∧Rel w ok aY a7 x v
theorem iT.rd {w:World}{ok:Nat→Prop}{aY:iX}{a7:iM}{I:ab}{dS m:Nat}(h:iT w ok aY a7 I (some (dS,m))):om w ok aY a7 dS 0 I.sz I.es:=by
 obtain ⟨c,et,o,R,ah,aB⟩:=h
 refine ⟨ah,fun j x aa=> ?_⟩
 obtain ⟨v,ay,aD,bV⟩:=aB j x aa
 exact ⟨v,by rw [cell_of_row w dS (0+j) c et (0,0) o,Nat.zero_add];exact ay,aD,bV⟩
theorem acM {w:World}{ok:Nat→Prop}{aY:iX}{a7:iM}{x:aw}{v:Value}(h:Rel w ok aY a7 x v)(ai:x.one=true):v.oneCell'=true:=h.jZ ai
theorem Nr {P:Program}{t:TypeId}(h:(P.underlying t).isSome=true)(w:World):(isAgg t).run P w = .ok (z7 P t) w:=by
 cases aU:P.underlying t with
 | none=>simp [aU] at h
 | some d=>cases d<;>simp [isAgg,z7,run_underlying aU,aU]
theorem sr {P:Program}{t:TypeId}(h:(P.info? t).isSome=true)(w:World):(sizeOf t).run P w = .ok (P.cellsOf t) w:=by
 cases ae:P.info? t with
 | none=>simp [ae] at h
 | some i=>simp [sizeOf,typeInfo,ae,Program.cellsOf]
theorem q8 (b I n:Nat):(⟨b,I,none⟩:Addr).add n=⟨b,I+n,none⟩:=by unfold Addr.add;split<;>simp_all
theorem Ie {P:Program}{w:World}{ok:Nat→Prop}{aY:iX}{a7:iM}{dS I sz i off:Nat}{es:List (List aw)}{c:List aw}{t:TypeId}{x:aw}
 (ik:om w ok aY a7 dS I sz es) (he:es[i]? = some c) (cp:qD P t c off=some x) :
 ∃v,(Instr.loadAt t (.pointer (some ⟨dS,I+(i*sz+off),none⟩))).run P w = .ok v w∧Rel w ok aY a7 x v:=by
 have hlen:c.length=sz:=ik.1 c (List.mem_of_getElem? he)
 unfold qD at cp
 split at cp
 ·simp at cp
 ·rename_i ae
  simp only [Bool.not_eq_true',Bool.not_eq_false,Bool.and_eq_true] at ae
  have jR : ∀j,j<sz→ ∃y v,c[j]? = some y∧w.cell? ⟨dS,I+(i*sz+j),none⟩=some v∧jZ v=true∧Rel w ok aY a7 y v:=by
   intro j az
   have aJ:c[j]? = some c[j]:=List.getElem?_eq_getElem (by omega)
   obtain ⟨v,ay,aD,bV⟩:=ik.2 (i*sz+j) c[j] (by rw [zG ik.1 he az,aJ])
   exact ⟨_,v,aJ,ay,aD,bV⟩
  simp only [Instr.loadAt,Instr.sureAddr,loadVar,Sem.run_bind,Sem.run_pure,Result.andThen,Nr ae.1,sr ae.2]
  split at cp
  ·rename_i rk
   rw [rk]
   split at cp
   ·rename_i hle
    simp at cp;subst cp
    have aS:=run_loadCells (P:=P) w ⟨dS,I+(i*sz+off),none⟩ (P.cellsOf t) (fun j=>(w.cell? ⟨dS,I+(i*sz+(off+j)),none⟩).getD undef) (by
     intro j az
     obtain ⟨y,v,-,ay,-,-⟩:=jR (off+j) (by omega)
     rw [q8,show I+(i*sz+off)+j=I+(i*sz+(off+j)) by omega,ay];rfl)
    refine ⟨.agg (List.map (fun j=>(w.cell? ⟨dS,I+(i*sz+(off+j)),none⟩).getD undef) (List.range (P.cellsOf t))).toArray,by simp [aS,Result.andThen,sr ae.2],?_⟩
    refine .agg _ (by simp;omega) ?_ ?_
    ·intro j v a0
     rw [List.getElem?_map,Option.map_eq_some_iff] at a0
     obtain ⟨q,nG,rfl⟩:=a0
     obtain ⟨rn,yt⟩:=List.getElem?_eq_some_iff.1 nG
     have a5:j<P.cellsOf t:=by simpa using rn
     obtain rfl:j=q:=by simpa using yt
     obtain ⟨y,v,-,ay,aD,-⟩:=jR (off+j) (by omega)
     rw [ay];exact aD
    ·intro j y v aJ a0
     rw [List.getElem?_map,Option.map_eq_some_iff] at a0
     obtain ⟨q,nG,rfl⟩:=a0
     obtain ⟨rn,yt⟩:=List.getElem?_eq_some_iff.1 nG
     have a5:j<P.cellsOf t:=by simpa using rn
     obtain rfl:j=q:=by simpa using yt
     rw [List.getElem?_take,if_pos a5,List.getElem?_drop] at aJ
     obtain ⟨lV,v,h0,ay,aD,bV⟩:=jR (off+j) (by omega)
     rw [h0] at aJ;simp at aJ;subst aJ
     rw [ay];exact bV
   ·simp at cp
  ·rename_i rk
   have rk:z7 P t=false:=by simpa using rk
   rw [rk]
   split at cp
   ·rename_i y aJ
    split at cp
    ·simp at cp;subst cp
     have yn:off<sz:=by
      rcases Nat.lt_or_ge off c.length with h|h
      ·omega
      ·rw [List.getElem?_eq_none h] at aJ;simp at aJ
     obtain ⟨lV,v,h0,ay,aD,bV⟩:=jR off yn
     rw [h0] at aJ;simp at aJ;subst aJ
     exact ⟨v,by simp [ay],bV⟩
    ·simp at cp
   ·simp at cp
theorem L4 {c:List aw}{off:Nat}{vs:List aw}(h:off+vs.length≤c.length):(setCells c off vs).length=c.length:=by
 simp [setCells];omega
theorem H3 {c:List aw}{off:Nat}{vs:List aw}(h:off+vs.length≤c.length)(j:Nat):
 (setCells c off vs)[j]? = if off≤j∧j<off+vs.length then vs[j-off]? else c[j]? := by
 unfold setCells
 rw [List.append_assoc,List.getElem?_append]
 have o:(c.take off).length=off:=by simp;omega
 rw [o]
 by_cases a:j<off
 ·rw [if_pos a,if_neg (by omega),List.getElem?_take,if_pos a]
 ·rw [if_neg a,List.getElem?_append]
  by_cases b:j<off+vs.length
  ·rw [if_pos (by omega),if_pos ⟨by omega,b⟩]
  ·rw [if_neg (by omega),if_neg (by omega),List.getElem?_drop]
   congr 1;omega
theorem Yc {c:Array Value}{p:Nat}{vs:List Value}(h:p+vs.length≤c.size)(j:Nat):
 (c.toList.take p++vs++c.toList.drop (p+vs.length)).toArray[j]? = if p≤j∧j<p+vs.length then vs[j-p]? else c[j]? := by
 rw [List.getElem?_toArray,List.append_assoc,List.getElem?_append]
 have o:(c.toList.take p).length=p:=by simp;omega
 rw [o]
 by_cases a:j<p
 ·rw [if_pos a,if_neg (by omega),List.getElem?_take,if_pos a,Array.getElem?_toList]
 ·rw [if_neg a,List.getElem?_append]
  by_cases b:j<p+vs.length
  ·rw [if_pos (by omega),if_pos ⟨by omega,b⟩]
  ·rw [if_neg (by omega),if_neg (by omega),List.getElem?_drop,Array.getElem?_toList]
   congr 1;omega
theorem UX {P:Program}{g:G}{s:S}{au:e9}{a:Act}{w:World}(h:cG g s au a w){r k b m i off:Nat}{l:List ab}{I:ab}{c:List aw}
 (ak:s.aP r=some l) (ai:s.af r k=some I) (aZ:I.ck = .live) (ad:au r k=some (b,m)) (he:I.es[i]? = some c)
 {t:TypeId} (JQ:(P.info? t).isSome=true) {x:aw} {v:Value} (aa:Rel w (s.ok g au w) s.aY (s.a7 au) x v) (lJ:x.one=true∨ ∃c,x = .agg c)
 (eI:x.cells.length=P.cellsOf t) (ie:off+x.cells.length≤c.length) :
 ∃bB,(Instr.storeAt t (.pointer (some ⟨b,i*I.sz+off,none⟩)) v).run P w = .ok () bB ∧
  cG g (s.setRow r (l.set k {I with es:=I.es.set i (setCells c off x.cells)})) au a bB:=by
 obtain ⟨vs,a0,p5,jR,e4⟩:=aa.cellsOf lJ
 have bf:=h.obj r k I ai
 rw [ad] at bf
 obtain ⟨cc,et,o,R,ah,aB⟩:=bf
 have hlen:c.length=I.sz:=ah c (List.mem_of_getElem? he)
 have yo:i*I.sz+off+vs.length≤cc.size:=by
  rcases Nat.eq_zero_or_pos I.sz with ca|ca
  ·have:off=0:=by omega
   have:vs.length=0:=by omega
   rw [ca];omega
  ·have aS:I.es.flatten[i*I.sz+(I.sz-1)]? = some (c[I.sz-1]'(by omega)):=by
    rw [zG ah he (by omega)];exact List.getElem?_eq_getElem (by omega)
   obtain ⟨RA,ay,-,-⟩:=aB _ _ aS
   have:=(Array.getElem?_eq_some_iff.1 ay).1
   omega
 have l9:=run_storeCells_at P b (i*I.sz+off) et vs 0 cc w o (by simpa using yo) (fun RA AY=>by
  obtain ⟨q,a5⟩:=List.getElem?_of_mem AY
  exact jR q RA a5)
 simp only [Nat.add_zero] at l9
 have iI:(Instr.storeAt t (.pointer (some ⟨b,i*I.sz+off,none⟩)) v).run P w =
  .ok () (w.setRow b (cc.toList.take (i*I.sz+off)++vs++cc.toList.drop (i*I.sz+off+vs.length)).toArray):=by
  have bZ:v.cells.size=P.cellsOf t:=by rw [a0];simpa using p5.trans eI
  simp only [Instr.storeAt,Instr.sureAddr,storeVar,Sem.run_bind,Sem.run_pure,Result.andThen,sr JQ,bZ,ne_eq,not_true_eq_false,if_false]
  rw [a0]
  simpa using l9
 refine ⟨_,iI,?_⟩
 have Zx:(w.setRow b (cc.toList.take (i*I.sz+off)++vs++cc.toList.drop (i*I.sz+off+vs.length)).toArray).heap.size=w.heap.size:=size_setRow _ _ _
 have vn:(setCells c off x.cells).length=I.sz:=by rw [L4 ie];exact hlen
 refine (h.write ak ai aZ ad _ _ et (setRow_heap w b cc _ et _ o) Zx (fun q a5=>setRow_other w b q _ a5) rfl rfl rfl ?_ ?_ ?_).1
 ·simp;omega
 ·intro e hm
  rcases List.mem_or_eq_of_mem_set hm with cr|cr
  ·exact ah e cr
  ·exact cr▸vn
 ·intro j y aJ
  rw [Yc yo]
  rw [MC ah he vn] at aJ
  by_cases ma:i*I.sz≤j∧j<i*I.sz+I.sz
  ·rw [if_pos ma,H3 ie] at aJ
   by_cases Qb:off≤j-i*I.sz∧j-i*I.sz<off+x.cells.length
   ·rw [if_pos Qb] at aJ
    rw [if_pos ⟨by omega,by omega⟩]
    have a5:j-(i*I.sz+off)<vs.length:=by omega
    refine ⟨vs[j-(i*I.sz+off)],List.getElem?_eq_getElem a5,jR _ _ (List.getElem?_eq_getElem a5),e4 (j-i*I.sz-off) y _ aJ ?_⟩
    rw [show j-i*I.sz-off=j-(i*I.sz+off) by omega]
    exact List.getElem?_eq_getElem a5
   ·rw [if_neg Qb] at aJ
    rw [if_neg (by omega)]
    refine aB j y ?_
    rw [show j=i*I.sz+(j-i*I.sz) by omega,zG ah he (by omega)]
    exact aJ
  ·rw [if_neg ma] at aJ
   rw [if_neg (by rw [p5];omega)]
   exact aB j y aJ
end Go.VL
namespace Go.VL
set_option linter.unusedVariables false
set_option linter.unusedSimpArgs false
open Go
def S.hS (s:S)(u:List (Nat×List ab)):S:=u.foldl (fun s p=>s.setRow p.1 p.2) s
@[simp] theorem S.acY (s:S):s.hS []=s:=rfl
@[simp] theorem S.acZ (s:S) (p:Nat×List ab):s.hS [p]=s.setRow p.1 p.2:=rfl
section
variable {w:World} {ok:Nat→Prop} {aY:iX} {a7:iM} {v:Value}
theorem Rel.tG {x:Bool}(h:Rel w ok aY a7 (.b x) v):v = .bool x:=by cases h;rfl
theorem Rel.n3 {k:IntKind}{x:Int}(h:Rel w ok aY a7 (.n k x) v):v = .int k x:=by cases h;rfl
theorem Rel.yd {x:ByteArray}(h:Rel w ok aY a7 (.s x) v):v = .string x:=by cases h;rfl
theorem Rel.uS (h:Rel w ok aY a7 .ic v):v = .pointer none:=by cases h;rfl
theorem Rel.pP (h:Rel w ok aY a7 .ex v):v = .slice none 0 0:=by cases h;rfl
theorem Rel.Du (h:Rel w ok aY a7 .iC v): ∃a c,v = .slice (some a) 0 c:=by cases h;exact ⟨_,_,rfl⟩
theorem Rel.NW {sz:Nat}(h:Rel w ok aY a7 (.fp sz none) v):v = .pointer none:=by cases h;rfl
theorem Rel.Iz {sz:Nat}{c:List aw}(h:Rel w ok aY a7 (.fp sz (some c)) v):Rel w ok aY a7 (.eB sz [c] 0 0) v:=by cases h;assumption
theorem Rel.DK {f:Nat}{c:List aw}(h:Rel w ok aY a7 (.fn f c) v): ∃vs:List Value,v = .func (.func f) #[] vs.toArray∧vs.length=c.length ∧
 ∀(j:Nat) x u,c[j]? = some x→vs[j]? = some u→Rel w ok aY a7 x u:=by
 cases h with|fn vs aS ak=>exact ⟨vs,rfl,aS,ak⟩
theorem Rel.xP {c:List aw}(h:Rel w ok aY a7 (.agg c) v): ∃vs:List Value,v = .agg vs.toArray∧vs.length=c.length∧(∀(j:Nat) u,vs[j]? = some u→VL.jZ u=true) ∧
 ∀(j:Nat) x u,c[j]? = some x→vs[j]? = some u→Rel w ok aY a7 x u:=by
 cases h with|agg vs aS aO ak=>exact ⟨vs,rfl,aS,aO,ak⟩
theorem Rel.xQ {c:List aw}(h:Rel w ok aY a7 (.dK c) v): ∃vs:List Value,v = .tuple vs.toArray∧vs.length=c.length ∧
 ∀(j:Nat) x u,c[j]? = some x→vs[j]? = some u→Rel w ok aY a7 x u:=by
 cases h with|dK vs aS ak=>exact ⟨vs,rfl,aS,ak⟩
theorem Rel.uZ {r k i off sz:Nat}{p:Option (Nat×Nat)}(h:Rel w ok aY a7 (.ref r k i off) v)(cp:a7 r k=some (sz,p)):
 p=none∨ ∃b m,p=some (b,m)∧v = .pointer (some ⟨b,i*sz+off,none⟩):=by
 cases h with
 | pR a hu a4 =>
  cases p with
  | none=>exact .inl rfl
  | some q=>exact absurd cp (a4 _ _)
 | ref hu h =>
  rw [cp] at h
  simp only [Option.some.injEq,Prod.mk.injEq] at h
  obtain ⟨rfl,rfl⟩:=h
  exact .inr ⟨_,_,rfl,rfl⟩
theorem Rel.ac7 {r k i off:Nat}(h:Rel w ok aY a7 (.ref r k i off) v): ∃a,v = .pointer a:=by
 cases h with
 | pR a=>exact ⟨a,rfl⟩
 | ref=>exact ⟨_,rfl⟩
theorem Rel.Ns {r k i off sz b m:Nat}(h:Rel w ok aY a7 (.ref r k i off) v)(cp:a7 r k=some (sz,some (b,m)))(Qc:Nat):
 Rel w ok aY a7 (.ref r k i Qc) (.pointer (some ⟨b,i*sz+Qc,none⟩)):=by
 cases h with
 | pR a hu a4=>exact absurd cp (a4 _ _)
 | ref hu h=>exact .ref hu cp
theorem Rel.xR {sz i off:Nat}{es:List (List aw)}(h:Rel w ok aY a7 (.eB sz es i off) v): ∃dS I,(ok dS∧hs es)∧v = .pointer (some ⟨dS,I+(i*sz+off),none⟩)∧om w ok aY a7 dS I sz es:=by
 cases h with
 | eB cs aL ad aS hw aO ak=>exact ⟨_,_,⟨aL,ad⟩,rfl,aS,fun j x aa=>⟨cs j,hw j x aa,aO j x aa,ak j x aa⟩⟩
theorem Rel.z0 {r k bO len sz:Nat}{p:Option (Nat×Nat)}(h:Rel w ok aY a7 (.bm r k bO len) v)(cp:a7 r k=some (sz,p)):
 (p=none∧bO=0∧len=0∧v = .slice none 0 0)∨ ∃b m a c,p=some (b,m)∧v = .slice a len c∧len≤c∧c<9223372036854775808∧(c=0∨(a=some ⟨b,bO*sz,none⟩∧(bO+c)*sz=m)):=by
 cases h with
 | m4 a l c hu a4=>rw [cp] at a4;simp at a4
 | nr hu h =>
  rw [cp] at h
  simp only [Option.some.injEq,Prod.mk.injEq] at h
  exact .inl ⟨h.2,rfl,rfl,rfl⟩
 | bm hu h aS aO hm =>
  rw [cp] at h
  simp only [Option.some.injEq,Prod.mk.injEq] at h
  obtain ⟨rfl,rfl⟩:=h
  exact .inr ⟨_,_,_,_,rfl,rfl,aS,aO,hm.2.imp id fun e=>⟨e,hm.1⟩⟩
theorem Rel.uT {r k bO len sz:Nat}{p:Option (Nat×Nat)}(h:Rel w ok aY a7 (.bm r k bO len) v)(cp:a7 r k=some (sz,p)):
 (p=none∧bO=0∧len=0∧v = .slice none 0 0)∨ ∃b m a c,p=some (b,m)∧v = .slice a len c∧len≤c∧c<9223372036854775808∧(bO+c)*sz=m∧(c=0∨a=some ⟨b,bO*sz,none⟩):=by
 cases h with
 | m4 a l c hu a4=>rw [cp] at a4;simp at a4
 | nr hu h =>
  rw [cp] at h
  simp only [Option.some.injEq,Prod.mk.injEq] at h
  exact .inl ⟨h.2,rfl,rfl,rfl⟩
 | bm hu h aS aO hm =>
  rw [cp] at h
  simp only [Option.some.injEq,Prod.mk.injEq] at h
  obtain ⟨rfl,rfl⟩:=h
  exact .inr ⟨_,_,_,_,rfl,rfl,aS,aO,hm⟩
theorem Rel.acN {r k bO len:Nat}(h:Rel w ok aY a7 (.bm r k bO len) v): ∃a l c,v = .slice a l c:=by
 cases h<;>exact ⟨_,_,_,rfl⟩
theorem Rel.sB {sz:Nat}{es:List (List aw)}(h:Rel w ok aY a7 (.isl sz es) v):
 (es=[]∧ ∃a c,v = .slice a 0 c∧(a=none→c=0))∨ ∃dS off c,(ok dS∧hs es)∧v = .slice (some ⟨dS,off,none⟩) es.length c∧es.length≤c∧om w ok aY a7 dS off sz es:=by
 cases h with
 | j2 sz a c h=>exact .inl ⟨rfl,a,c,rfl,h⟩
 | isl cs aL ad aS aO hw gZ ak=>exact .inr ⟨_,_,_,⟨aL,ad⟩,rfl,aO,aS,fun j x aa=>⟨cs j,hw j x aa,gZ j x aa,ak j x aa⟩⟩
theorem om.isl {dS off c sz:Nat}{es:List (List aw)}(h:om w ok aY a7 dS off sz es)(aL:ok dS∧hs es)(aO:es.length≤c):Rel w ok aY a7 (.isl sz es) (.slice (some ⟨dS,off,none⟩) es.length c):=by
 have aa : ∀j:Nat,∃v,∀x,es.flatten[j]? = some x→w.cell? ⟨dS,off+j,none⟩=some v∧VL.jZ v=true∧Rel w ok aY a7 x v:=by
  intro j
  cases az:es.flatten[j]? with
  | none=>exact ⟨undef,fun x aa=>by simp at aa⟩
  | some y =>
   obtain ⟨v,o⟩:=h.2 j y az
   exact ⟨v,fun x aa=>by simp at aa;subst aa;exact o⟩
 exact .isl (fun j=>(aa j).choose) aL.1 aL.2 h.1 aO (fun j x az=>((aa j).choose_spec x az).1) (fun j x az=>((aa j).choose_spec x az).2.1) (fun j x az=>((aa j).choose_spec x az).2.2)
theorem om.eB {dS I i off sz:Nat}{es:List (List aw)}(h:om w ok aY a7 dS I sz es)(aL:ok dS∧hs es):Rel w ok aY a7 (.eB sz es i off) (.pointer (some ⟨dS,I+(i*sz+off),none⟩)):=by
 have aa : ∀j:Nat,∃v,∀x,es.flatten[j]? = some x→w.cell? ⟨dS,I+j,none⟩=some v∧VL.jZ v=true∧Rel w ok aY a7 x v:=by
  intro j
  cases az:es.flatten[j]? with
  | none=>exact ⟨undef,fun x aa=>by simp at aa⟩
  | some y =>
   obtain ⟨v,o⟩:=h.2 j y az
   exact ⟨v,fun x aa=>by simp at aa;subst aa;exact o⟩
 exact .eB (fun j=>(aa j).choose) aL.1 aL.2 h.1 (fun j x az=>((aa j).choose_spec x az).1) (fun j x az=>((aa j).choose_spec x az).2.1) (fun j x az=>((aa j).choose_spec x az).2.2)
end
def Fin (P:Program)(g:G)(s:S)(a:Act)(w:World)(I:Oper)(bo:hk):Prop :=
 ∃v bB bE,((execOp a.eval I).run P w = .ok (.value v) bB∨((execOp a.eval I).run P w = .ok .skip bB∧v=undef)) ∧
  cG g (s.hS bo.fv) bE a bB∧Rel bB ((s.hS bo.fv).ok g bE bB) (s.hS bo.fv).aY ((s.hS bo.fv).a7 bE) bo.val v
section
variable {P:Program} {g:G} {s:S} {au:e9} {a:Act} {w:World} {I:Oper} {cz:fe} {aR:Nat} {bo:hk}
theorem hP (h:cG g s au a w){v:Value}(iI:(execOp a.eval I).run P w = .ok (.value v) w)(hu:bo.fv=[])
 (ak:Rel w (s.ok g au w) s.aY (s.a7 au) bo.val v):Fin P g s a w I bo :=
 ⟨v,w,au,.inl iI,by rw [hu];exact h,by rw [hu];exact ak⟩
theorem OG {x:Operand}(h:cG g s au a w)(ai:I.op = .move x∨I.op = .assign x)(ap:eG P s.E s.aP aR I cz=some bo):Fin P g s a w I bo:=by
 have:bo={val:=ey s.E x}:=by rcases ai with ai|ai<;>simp [eG,ai] at ap<;>exact ap.symm
 subst this
 refine hP (v:=a.eval x) h ?_ rfl (h.eval x)
 rcases ai with ai|ai<;>simp [execOp,ai]
theorem Xw {c x y:Operand}(h:cG g s au a w)(ai:I.op = .pick c x y)(ap:eG P s.E s.aP aR I cz=some bo)(cl:∀p∈bo.e7,p):Fin P g s a w I bo:=by
 have aO:=h.eval c
 simp only [eG,ai] at ap
 have key : ∀t:Bool,ey s.E c = .b t→bo.fv=[]→bo.val=(if t then ey s.E x else ey s.E y)→Fin P g s a w I bo:=by
  intro t cp hu a0
  rw [cp] at aO
  have e:a.eval c = .bool t:=aO.tG
  refine hP (v:=if t then a.eval x else a.eval y) h (by simp [execOp,ai,e,asBool]) hu ?_
  rw [a0];cases t
  ·exact h.eval y
  ·exact h.eval x
 split at ap
 ·rename_i z t ca
  simp at ap;subst ap
  have e:z=t:=cl _ (by simp)
  subst e
  exact key z ca rfl rfl
 ·rename_i ca _;simp at ap;subst ap;exact key true ca rfl rfl
 ·rename_i ca _;simp at ap;subst ap;exact key false ca rfl rfl
 ·simp at ap
theorem Dv (h:cG g s au a w)(eJ:s.aP aR=none){v:Value}{af:ab}{c:Array Value}{et:TypeId}(aZ:af.ck = .live)
 (iI:(execOp a.eval I).run P w = .ok (.value v) (w.alloc (.cells c et))) (hu:bo.fv=[(aR,[af])]) (hlen : ∀e∈af.es,e.length=af.sz)
 (aO : ∀(j:Nat) x,af.es.flatten[j]? = some x→ ∃v,c[j]? = some v∧jZ v=true∧Rel w (s.ok g au w) s.aY (s.a7 au) x v)
 (hval : ∀(bB:World) (kE:Nat→Prop) (mK:iX) (l8:iM),mK aR 0→l8 aR 0=some (af.sz,some (w.heap.size,c.size))→Rel bB kE mK l8 bo.val v):Fin P g s a w I bo:=by
 obtain ⟨bE,ad,bZ,-⟩:=h.alloc eJ af aZ c et hlen aO
 have o:(s.setRow aR [af]).aY aR 0:=by rw [m3];simp
 have R:(s.setRow aR [af]).a7 bE aR 0=some (af.sz,some (w.heap.size,c.size)):=by simp [S.a7,ll,l2,aZ,ad]
 exact ⟨v,_,bE,.inl iI,by rw [hu];exact bZ,by rw [hu];exact hval _ _ _ _ o R⟩
theorem zH {t:TypeId}{z:List aw}(ca:qt P t=some z): ∃i eh,P.info? t=some i∧i.zero=some eh∧z=eh.cells.toList.map ofValue ∧
 ∀(j:Nat) x,z[j]? = some x→ ∃v,eh.cells[j]? = some v∧jZ v=true∧ ∀(w:World) (ok:Nat→Prop) (aY:iX) (a7:iM),Rel w ok aY a7 x v:=by
 unfold qt at ca
 cases ae:P.info? t with
 | none=>simp [ae] at ca
 | some i =>
  cases kr:i.zero with
  | none=>simp [ae,kr] at ca
  | some eh =>
   simp only [ae,kr] at ca
   split at ca
   ·rename_i nD
    simp only [Option.some.injEq] at ca
    refine ⟨i,eh,rfl,kr,ca.symm,fun j x aa=> ?_⟩
    subst ca
    rw [List.getElem?_map,Option.map_eq_some_iff] at aa
    obtain ⟨v,a0,rfl⟩:=aa
    refine ⟨v,by rw [← Array.getElem?_toList];exact a0,?_,fun w ok aY a7=>MA v⟩
    exact List.all_eq_true.1 nD v (List.mem_of_getElem? a0)
   ·simp at ca
theorem Wy {t:TypeId}(h:cG g s au a w)(eJ:s.aP aR=none)(ai:I.op = .alloc t)(ap:eG P s.E s.aP aR I cz=some bo):Fin P g s a w I bo:=by
 simp only [eG,ai] at ap
 split at ap
 ·rename_i z ca
  obtain ⟨i,eh,ae,kr,e,jR⟩:=zH ca
  simp only [Option.some.injEq] at ap
  subst ap
  refine Dv (v:= .pointer (some ⟨w.heap.size,0,none⟩)) (c:=eh.cells) (et:=t) (af:=⟨z.length,[z],.live⟩) h eJ rfl ?_ rfl (by simp) ?_ ?_
  ·simp [execOp,ai,Instr.alloc,zeroValue,typeInfo,ae,kr,newVar,newRow]
  ·intro j x aa
   simp only [List.flatten_cons,List.flatten_nil,List.append_nil] at aa
   obtain ⟨v,o,R,ah⟩:=jR j x aa
   exact ⟨v,o,R,ah _ _ _ _⟩
  ·intro bB kE mK l8 hu cp
   have:=Rel.ref (w:=bB) (ok:=kE) (i:=0) (off:=0) hu cp
   simpa using this
 ·simp at ap
theorem Yd {t:TypeId}{x:Operand}(h:cG g s au a w)(eJ:s.aP aR=none)(ai:I.op = .box t x)(ap:eG P s.E s.aP aR I cz=some bo):Fin P g s a w I bo:=by
 simp only [eG,ai] at ap
 have aa:=h.eval x
 have key : ∀af:ab,af.ck = .live→af.es=[(ey s.E x).cells]→af.sz=(ey s.E x).cells.length→((ey s.E x).one=true∨ ∃c,ey s.E x = .agg c) →
  bo.fv=[(aR,[af])]→bo.val = .ref aR 0 0 0→Fin P g s a w I bo:=by
  intro af aZ hf eI lJ hu a0
  obtain ⟨vs,ay,aD,bV,du⟩:=aa.cellsOf lJ
  refine Dv (v:= .pointer (some ⟨w.heap.size,0,none⟩)) (c:=(a.eval x).cells) (et:=t) h eJ aZ ?_ hu ?_ ?_ ?_
  ·simp [execOp,ai,Instr.box,newVar,newRow]
  ·intro e he;rw [hf] at he;simp at he;rw [he,eI]
  ·intro j y aJ
   rw [hf] at aJ
   simp only [List.flatten_cons,List.flatten_nil,List.append_nil] at aJ
   have az:j<vs.length:=by
    rcases Nat.lt_or_ge j (ey s.E x).cells.length with cr|cr
    ·omega
    ·rw [List.getElem?_eq_none cr] at aJ;simp at aJ
   refine ⟨vs[j],by rw [ay];simp [az],bV j _ (List.getElem?_eq_getElem az),du j y _ aJ (List.getElem?_eq_getElem az)⟩
  ·intro bB kE mK l8 od cp
   have:=Rel.ref (w:=bB) (ok:=kE) (i:=0) (off:=0) od cp
   rw [a0];simpa using this
 split at ap
 ·rename_i c aO
  simp only [Option.some.injEq] at ap
  subst ap
  exact key _ rfl (by rw [aO];rfl) (by rw [aO];rfl) (.inr ⟨c,aO⟩) rfl rfl
 ·split at ap
  ·rename_i lJ
   simp only [Option.some.injEq] at ap
   subst ap
   have e:(ey s.E x).cells=[ey s.E x]:=by
    generalize ey s.E x=y at lJ
    cases y<;>first|rfl|simp [aw.one] at lJ
   exact key _ rfl (by rw [e]) (by rw [e];rfl) (.inl lJ) rfl rfl
  ·simp at ap
theorem h2 {s:S}{au:e9}{r k:Nat}{af:ab}(h:s.af r k=some af):s.a7 au r k=some (af.sz,au r k):=by simp [S.a7,h]
theorem sC {row:Option (List ab)}{k:Nat}{af:ab}{b0:List Prop}(h:oa row k cz=some (af,b0))(cl:∀p∈b0,p):de row k=some af:=by
 unfold oa at h
 split at h
 ·split at h
  ·simp at h;obtain ⟨rfl,rfl⟩:=h;exact cl _ (by simp)
  ·simp at h
 ·split at h
  ·rename_i cr;simp at h;obtain ⟨rfl,rfl⟩:=h;exact cr
  ·simp at h
theorem xE {es:List (List aw)}{i:Nat}{c:List aw}{b0:List Prop}(h:elemAt es i cz=some (c,b0))(cl:∀p∈b0,p):es[i]? = some c:=by
 unfold elemAt at h
 split at h
 ·simp at h;obtain ⟨rfl,rfl⟩:=h;exact cl _ (by simp)
 ·simp at h;obtain ⟨rfl,rfl⟩:=h;exact cl _ (by simp)
 ·split at h
  ·rename_i cr;simp at h;obtain ⟨rfl,rfl⟩:=h;exact cr
  ·simp at h
theorem Xx {t:TypeId}{x:Operand}(h:cG g s au a w)(ai:I.op = .load t x)(ap:eG P s.E s.aP aR I cz=some bo)(cl:∀p∈bo.e7,p):Fin P g s a w I bo:=by
 simp only [eG,ai] at ap
 have aa:=h.eval x
 split at ap
 ·rename_i r k i off gE
  rw [gE] at aa
  split at ap
  ·rename_i af b0 bf
   split at ap
   ·rename_i c bg mo
    split at ap
    ·rename_i v a0
     simp only [Option.some.injEq] at ap
     subst ap
     have jo:s.af r k=some af:=sC bf fun p ad=>cl p (by simp [ad])
     have pn:=xE mo fun p ad=>cl p (by simp [ad])
     have e4:=h.obj r k af jo
     rcases aa.uZ (h2 jo) with h0|⟨b,m,ad,hval⟩
     ·rw [h0] at e4
      simp only [iT] at e4
      rw [e4] at pn;simp at pn
     ·rw [ad] at e4
      obtain ⟨u,o,R⟩:=Ie (P:=P) e4.rd pn a0
      refine hP (v:=u) h ?_ rfl R
      rw [Nat.zero_add] at o
      simp [execOp,ai,hval,o]
    ·simp at ap
   ·simp at ap
  ·simp at ap
 ·rename_i sz es i off gE
  rw [gE] at aa
  split at ap
  ·rename_i c bg mo
   split at ap
   ·rename_i v a0
    simp only [Option.some.injEq] at ap
    subst ap
    have pn:=xE mo fun p ad=>cl p (by simp [ad])
    obtain ⟨dS,bW,aL,hval,ik⟩:=aa.xR
    obtain ⟨u,o,R⟩:=Ie (P:=P) ik pn a0
    refine hP (v:=u) h ?_ rfl R
    simp [execOp,ai,hval,o]
   ·simp at ap
  ·simp at ap
 ·simp at ap
end
end Go.VL
namespace Go.VL
set_option linter.unusedVariables false
set_option linter.unusedSimpArgs false
open Go
section
variable {P:Program} {g:G} {s:S} {au:e9} {a:Act} {w:World} {I:Oper} {cz:fe} {aR:Nat} {bo:hk}
theorem Nt (h:cG g s au a w){r k i off:Nat}{row:List ab}{af:ab}{c:List aw}{t:TypeId}{x y:Operand}(ai:I.op = .store t x y)
 (gE:ey s.E x = .ref r k i off) (dj:s.aP r=some row) (bf:s.af r k=some af) (aZ:af.ck = .live) (mo:af.es[i]? = some c)
 (lJ:(ey s.E y).one=true∨ ∃c,ey s.E y = .agg c) (eI:(ey s.E y).cells.length=P.cellsOf t) (JQ:(P.info? t).isSome=true)
 (ie:off+(ey s.E y).cells.length≤c.length) (ap:bo.val = .dead) (hu:bo.fv=[(r,row.set k {af with es:=af.es.set i (setCells c off (ey s.E y).cells)})]):Fin P g s a w I bo:=by
 have aa:=h.eval x
 rw [gE] at aa
 have e4:=h.obj r k af bf
 rcases aa.uZ (h2 bf) with h0|⟨b,m,ad,hval⟩
 ·rw [h0] at e4;simp only [iT] at e4;rw [e4] at mo;simp at mo
 ·obtain ⟨bB,o,R⟩:=UX (P:=P) h dj bf aZ ad mo JQ (h.eval y) lJ eI ie
  refine ⟨undef,bB,au,.inr ⟨?_,rfl⟩,by rw [hu];exact R,by rw [ap];exact .dead _⟩
  simp [execOp,ai,hval,o]
theorem Wz {t:TypeId}{x y:Operand}(h:cG g s au a w)(ai:I.op = .store t x y)(ap:eG P s.E s.aP aR I cz=some bo)(cl:∀p∈bo.e7,p):Fin P g s a w I bo:=by
 simp only [eG,ai] at ap
 split at ap
 ·rename_i r k i off gE
  split at ap
  ·simp at ap
  ·rename_i row dj
   split at ap
   ·rename_i af b0 Zy
    split at ap
    ·simp at ap
    ·rename_i aZ
     have aZ:af.ck = .live:=by simpa using aZ
     split at ap
     ·simp at ap
     ·rename_i lJ
      have lJ:=aw.MB (by simpa using lJ)
      split at ap
      ·simp at ap
      ·rename_i eI
       simp only [not_or,Decidable.not_not,Bool.not_eq_false] at eI
       have jo:(∀p∈b0,p)→s.af r k=some af:=fun bw=>by
        have:=sC Zy bw
        unfold S.af;rw [dj];exact this
       split at ap
       ·split at ap
        ·rename_i yn
         simp only [Option.some.injEq] at ap
         subst ap;subst yn
         have dn:i<af.es.length:=cl _ (by simp)
         have gZ:(ey s.E y).cells.length=af.sz:=cl _ (by simp)
         have Ay:=jo fun p ad=>cl p (by simp [ad])
         have hlen:(af.es[i]).length=af.sz:=by
          have e4:=h.obj r k af Ay
          cases ad:au r k with
          | none=>rw [ad] at e4;simp only [iT] at e4;rw [e4] at dn;simp at dn
          | some q =>
           rw [ad] at e4
           obtain ⟨_,_,_,_,ah,_⟩:=e4
           exact ah _ (List.getElem_mem dn)
         refine Nt h ai gE dj Ay aZ (c:=af.es[i]) (List.getElem?_eq_getElem dn) lJ eI.1 eI.2 (by omega) rfl ?_
         have e:setCells af.es[i] 0 (ey s.E y).cells=(ey s.E y).cells:=by
          simp [setCells,hlen,gZ]
         rw [e]
        ·simp at ap
       ·split at ap
        ·rename_i c bg mo
         split at ap
         ·rename_i ie
          simp only [Option.some.injEq] at ap
          subst ap
          exact Nt h ai gE dj (jo fun p ad=>cl p (by simp [ad])) aZ (xE mo fun p ad=>cl p (by simp [ad])) lJ eI.1 eI.2 ie rfl rfl
         ·simp at ap
        ·simp at ap
   ·simp at ap
 ·simp at ap
theorem UY {x:Operand}(h:cG g s au a w)(ai:I.op = .nilCheck x)(ap:eG P s.E s.aP aR I cz=some bo)(cl:∀p∈bo.e7,p):Fin P g s a w I bo:=by
 simp only [eG,ai] at ap
 have aa:=h.eval x
 split at ap
 ·rename_i r k i off gE
  rw [gE] at aa
  split at ap
  ·rename_i af b0 bf
   split at ap
   ·rename_i c bg mo
    simp only [Option.some.injEq] at ap
    subst ap
    have jo:s.af r k=some af:=sC bf fun p ad=>cl p (by simp [ad])
    have pn:=xE mo fun p ad=>cl p (by simp [ad])
    have e4:=h.obj r k af jo
    rcases aa.uZ (h2 jo) with h0|⟨b,m,ad,hval⟩
    ·rw [h0] at e4;simp only [iT] at e4;rw [e4] at pn;simp at pn
    ·refine hP (v:=a.eval x) h ?_ rfl aa
     simp [execOp,ai,hval]
   ·simp at ap
  ·simp at ap
 ·rename_i sz es i off gE
  rw [gE] at aa
  simp only [Option.some.injEq] at ap
  subst ap
  obtain ⟨dS,bW,aL,hval,ik⟩:=aa.xR
  refine hP (v:=a.eval x) h ?_ rfl aa
  simp [execOp,ai,hval]
 ·rename_i f c gE
  rw [gE] at aa
  simp only [Option.some.injEq] at ap
  subst ap
  obtain ⟨vs,hval,-⟩:=aa.DK
  refine hP (v:=a.eval x) h ?_ rfl aa
  simp [execOp,ai,hval]
 ·simp at ap
theorem VR {op:BinOp}{t:TypeId}{x y z:aw}{af:List Prop}(ap:Js op x y=some (z,af))(cl:∀p∈af,p)
 {ok:Nat→Prop} {aY:iX} {a7:iM} {kW kX:Value} (aa:Rel w ok aY a7 x kW) (aJ:Rel w ok aY a7 y kX) (p q:Operand) :
 ∃v,((do eqGuard op t p q kW kX;binOp op t kW kX):Sem Value).run P w = .ok v w∧Rel w ok aY a7 z v:=by
 unfold Js at ap
 split at ap
 ·rename_i k n dD mV
  have hU:=aa.n3;have iY:=aJ.n3
  subst hU;subst iY
  have dE : ∀op,eqGuard op t p q (.int k n) (.int dD mV)=pure ():=fun op=>eqGuard_at_int ..
  simp only [Sem.run_bind,dE,Sem.run_pure,Result.andThen_ok]
  split at ap
  ·simp only [Option.some.injEq,Prod.mk.injEq] at ap
   obtain ⟨rfl,rfl⟩:=ap
   have h0:0≤mV:=cl _ (by simp)
   exact ⟨_,by simp [binOp,Op.shift,show ¬mV<0 by omega],.n _ _⟩
  ·simp only [Option.some.injEq,Prod.mk.injEq] at ap
   obtain ⟨rfl,rfl⟩:=ap
   have h0:0≤mV:=cl _ (by simp)
   exact ⟨_,by simp [binOp,Op.shift,show ¬mV<0 by omega],.n _ _⟩
  ·split at ap
   ·simp at ap
   ·rename_i aZ
    have aZ:k=dD:=by simpa using aZ
    subst aZ
    split at ap<;>simp only [Option.some.injEq,Prod.mk.injEq,reduceCtorEq] at ap
    all_goals (obtain ⟨rfl,rfl⟩:=ap)
    case h_4|h_5 =>
     have h0:mV≠0:=cl _ (by simp)
     exact ⟨_,by simp [binOp,Op.intDiv,h0],.n _ _⟩
    all_goals first
     | (refine ⟨_,?_,.n _ _⟩;rw [binOp_add];rfl)
     | (refine ⟨_,?_,.n _ _⟩;rw [binOp_sub];rfl)
     | (refine ⟨_,?_,.n _ _⟩;rw [binOp_mul];rfl)
     | (refine ⟨_,?_,.n _ _⟩;rw [binOp_and];rfl)
     | (refine ⟨_,?_,.n _ _⟩;rw [binOp_or];rfl)
     | (refine ⟨_,?_,.n _ _⟩;rw [binOp_xor];rfl)
     | (refine ⟨_,?_,.b _⟩;simp [binOp,Op.intCmp];done)
 ·rename_i cD lV
  have hU:=aa.yd;have iY:=aJ.yd
  subst hU;subst iY
  have dE : ∀op,eqGuard op t p q (.string cD) (.string lV)=pure ():=fun op=>eqGuard_at_string ..
  simp only [Sem.run_bind,dE,Sem.run_pure,Result.andThen_ok]
  split at ap<;>simp only [Option.some.injEq,Prod.mk.injEq,reduceCtorEq] at ap
  all_goals (obtain ⟨rfl,rfl⟩:=ap)
  ·have h0:cD.size+lV.size<9223372036854775808:=cl _ (by simp)
   refine ⟨_,?_,.s _⟩
   have o : ¬((cD.size+lV.size:Nat):Int)>IntKind.i64.max:=by rw [IntKind.max_i64];omega
   rw [IntKind.max_i64] at o
   simp [binOp,Op.stringOp]
   omega
  ·exact ⟨_,by simp [binOp,Op.stringOp],.b _⟩
  ·exact ⟨_,by simp [binOp,Op.stringOp],.b _⟩
 ·simp at ap
theorem uN (t:TypeId)(x y:Value):Op.equal t x y=Op.equalIn (9999+1) t x y:=rfl
theorem zu {t:TypeId}{a b:Bool}(d:Nat)(aU:P.underlying t=some .bool):(Op.equalIn (d+1) t (.bool a) (.bool b)).run P w = .ok (a == b) w:=by
 unfold Op.equalIn;simp [run_underlying aU]
theorem zI {t e:TypeId}(d:Nat)(aU:P.underlying t=some (.pointer e)):(Op.equalIn (d+1) t (.pointer none) (.pointer none)).run P w = .ok true w:=by
 unfold Op.equalIn;simp [run_underlying aU]
theorem zJ {t e:TypeId}{a:Addr}(d:Nat)(aU:P.underlying t=some (.pointer e)):(Op.equalIn (d+1) t (.pointer (some a)) (.pointer none)).run P w = .ok false w:=by
 unfold Op.equalIn;simp [run_underlying aU]
theorem zK {t e:TypeId}{a:Addr}(d:Nat)(aU:P.underlying t=some (.pointer e)):(Op.equalIn (d+1) t (.pointer none) (.pointer (some a))).run P w = .ok false w:=by
 unfold Op.equalIn;simp [run_underlying aU]
theorem zL {t e:TypeId}(d:Nat)(aU:P.underlying t=some (.slice e)):(Op.equalIn (d+1) t (.slice none 0 0) (.slice none 0 0)).run P w = .ok true w:=by
 unfold Op.equalIn;simp [run_underlying aU]
theorem MU {t e:TypeId}{a:Addr}{c:Nat}(d:Nat)(aU:P.underlying t=some (.slice e))(n:Nat):(Op.equalIn (d+1) t (.slice (some a) n c) (.slice none 0 0)).run P w = .ok false w:=by
 unfold Op.equalIn;simp [run_underlying aU]
theorem xK {t:TypeId}{x y:aw}{r:Bool}(ap:r4 P t x y=some r)
 {ok:Nat→Prop} {aY:iX} {a7:iM} {kW kX:Value} (aa:Rel w ok aY a7 x kW) (aJ:Rel w ok aY a7 y kX) (p q:Operand) :
 ((do eqGuard .eql t p q kW kX;binOp .eql t kW kX):Sem Value).run P w = .ok (.bool r) w ∧
 ((do eqGuard .neq t p q kW kX;binOp .neq t kW kX):Sem Value).run P w = .ok (.bool !r) w:=by
 have key : ∀b:Bool,(∀op,eqGuard op t p q kW kX=pure ())→binOp .eql t kW kX=(do pure (.bool (← Op.equal t kW kX)))→binOp .neq t kW kX=(do pure (.bool (!(← Op.equal t kW kX)))) →
  (Op.equal t kW kX).run P w = .ok b w→((do eqGuard .eql t p q kW kX;binOp .eql t kW kX):Sem Value).run P w = .ok (.bool b) w ∧
  ((do eqGuard .neq t p q kW kX;binOp .neq t kW kX):Sem Value).run P w = .ok (.bool !b) w:=by
  intro b dE o R ah
  constructor
  ·rw [dE,o];simp [ah]
  ·rw [dE,R];simp [ah]
 unfold r4 at ap
 split at ap
 ·rename_i cD lV aU
  simp only [Option.some.injEq] at ap;subst ap
  have hU:=aa.tG;have iY:=aJ.tG
  subst hU;subst iY
  exact key _ (fun op=>eqGuard_at_bool ..) rfl rfl (by rw [uN];first|exact zu _ aU|exact zI _ aU|exact zJ _ aU|exact zK _ aU|exact zL _ aU)
 ·rename_i e aU
  simp only [Option.some.injEq] at ap;subst ap
  have hU:=aa.uS;have iY:=aJ.uS
  subst hU;subst iY
  exact key _ (fun op=>eqGuard_at_pointer ..) rfl rfl (by rw [uN];first|exact zu _ aU|exact zI _ aU|exact zJ _ aU|exact zK _ aU|exact zL _ aU)
 ·rename_i e sz es i off aU
  simp only [Option.some.injEq] at ap;subst ap
  obtain ⟨dS,bW,-,hU,-⟩:=aa.xR
  have iY:=aJ.uS
  subst hU;subst iY
  exact key _ (fun op=>eqGuard_at_pointer ..) rfl rfl (by rw [uN];first|exact zu _ aU|exact zI _ aU|exact zJ _ aU|exact zK _ aU|exact zL _ aU)
 ·rename_i e sz es i off aU
  simp only [Option.some.injEq] at ap;subst ap
  obtain ⟨dS,bW,-,iY,-⟩:=aJ.xR
  have hU:=aa.uS
  subst hU;subst iY
  exact key _ (fun op=>eqGuard_at_pointer ..) rfl rfl (by rw [uN];first|exact zu _ aU|exact zI _ aU|exact zJ _ aU|exact zK _ aU|exact zL _ aU)
 ·rename_i e aU
  simp only [Option.some.injEq] at ap;subst ap
  have hU:=aa.pP;have iY:=aJ.pP
  subst hU;subst iY
  exact key _ (fun op=>eqGuard_at_slice ..) rfl rfl (by rw [uN];first|exact zu _ aU|exact zI _ aU|exact zJ _ aU|exact zK _ aU|exact zL _ aU)
 ·rename_i e aU
  simp only [Option.some.injEq] at ap;subst ap
  obtain ⟨vX,c,hU⟩:=aa.Du
  have iY:=aJ.pP
  subst hU;subst iY
  exact key _ (fun op=>eqGuard_at_slice ..) rfl rfl (by rw [uN];exact MU _ aU 0)
 ·simp at ap
theorem Ph {t e:TypeId}(aU:P.underlying t=some (.slice e)){sz:Nat}{es:List (List aw)}(cw:es≠[])
 {ok:Nat→Prop} {aY:iX} {a7:iM} {kW kX:Value} (aa:Rel w ok aY a7 (.isl sz es) kW) (aJ:Rel w ok aY a7 .ex kX) (p q:Operand) :
 ((do eqGuard .eql t p q kW kX;binOp .eql t kW kX):Sem Value).run P w = .ok (.bool false) w ∧
 ((do eqGuard .neq t p q kW kX;binOp .neq t kW kX):Sem Value).run P w = .ok (.bool true) w:=by
 rcases aa.sB with ⟨h0,-⟩|⟨dS,off,c,-,hU,-⟩
 ·exact absurd h0 cw
 ·have iY:=aJ.pP
  subst hU;subst iY
  have ah:(Op.equal t (.slice (some ⟨dS,off,none⟩) es.length c) (.slice none 0 0)).run P w = .ok false w:=by rw [uN];exact MU _ aU _
  have dE : ∀op,eqGuard op t p q (.slice (some ⟨dS,off,none⟩) es.length c) (.slice none 0 0)=pure ():=fun op=>eqGuard_at_slice ..
  have o:binOp .eql t (.slice (some ⟨dS,off,none⟩) es.length c) (.slice none 0 0)=(do pure (.bool (← Op.equal t (.slice (some ⟨dS,off,none⟩) es.length c) (.slice none 0 0)))):=rfl
  have R:binOp .neq t (.slice (some ⟨dS,off,none⟩) es.length c) (.slice none 0 0)=(do pure (.bool (!(← Op.equal t (.slice (some ⟨dS,off,none⟩) es.length c) (.slice none 0 0))))):=rfl
  constructor
  ·rw [dE,o];simp [ah]
  ·rw [dE,R];simp [ah]
theorem WA {op:BinOp}{t dw:TypeId}{x y:Operand}(h:cG g s au a w)(ai:I.op = .binOp op t x y dw)(ap:eG P s.E s.aP aR I cz=some bo)(cl:∀p∈bo.e7,p):Fin P g s a w I bo:=by
 simp only [eG,ai] at ap
 have aa:=h.eval x
 have aJ:=h.eval y
 split at ap
 ·rename_i v af aL
  simp only [Option.some.injEq] at ap
  subst ap
  obtain ⟨u,o,R⟩:=VR (P:=P) (t:=t) aL cl aa aJ x y
  refine hP (v:=u) h ?_ rfl R
  simp only [execOp,ai]
  rw [Sem.run_bind,o];rfl
 ·split at ap
  ·cases he:r4 P t (ey s.E x) (ey s.E y) with
   | none=>simp [he] at ap
   | some r =>
    simp [he] at ap;subst ap
    refine hP (v:= .bool r) h ?_ rfl (.b r)
    simp only [execOp,ai]
    rw [Sem.run_bind,(xK (w:=w) he aa aJ x y).1];rfl
  ·cases he:r4 P t (ey s.E x) (ey s.E y) with
   | none=>simp [he] at ap
   | some r =>
    simp [he] at ap;subst ap
    refine hP (v:= .bool !r) h ?_ rfl (.b _)
    simp only [execOp,ai]
    rw [Sem.run_bind,(xK (w:=w) he aa aJ x y).2];rfl
  ·simp at ap
theorem Xy {op:UnOp}{t:TypeId}{x:Operand}(h:cG g s au a w)(ai:I.op = .unOp op t x)(ap:eG P s.E s.aP aR I cz=some bo):Fin P g s a w I bo:=by
 simp only [eG,ai] at ap
 have aa:=h.eval x
 cases he:JO op (ey s.E x) with
 | none=>simp [he] at ap
 | some v =>
  simp [he] at ap;subst ap
  unfold JO at he
  split at he
  ·rename_i k n gE
   rw [gE] at aa
   simp only [Option.some.injEq] at he;subst he
   refine hP (v:= .int k (k.wrap (0-n))) h ?_ rfl (.n _ _)
   simp [execOp,ai,aa.n3,Op.unary,Op.intArith]
  ·rename_i b gE
   rw [gE] at aa
   simp only [Option.some.injEq] at he;subst he
   refine hP (v:= .bool !b) h ?_ rfl (.b _)
   simp [execOp,ai,aa.tG,Op.unary]
  ·simp at he
theorem Vk {t dw:TypeId}{x:Operand}(h:cG g s au a w)(ai:I.op = .convert t dw x)(ap:eG P s.E s.aP aR I cz=some bo):Fin P g s a w I bo:=by
 simp only [eG,ai] at ap
 have aa:=h.eval x
 split at ap
 ·rename_i k dD n aU gE
  rw [gE] at aa
  split at ap
  case isFalse=>simp at ap
  rename_i bZ
  simp only [Option.some.injEq] at ap
  subst ap
  refine hP (v:= .int k (k.wrap n)) h ?_ rfl (.n _ _)
  cases Qz:P.underlying t with
  | none=>simp [Qz] at bZ
  | some d=>simp [execOp,ai,aa.n3,convert,run_underlying aU,run_underlying Qz,Conv.intToInt]
 ·rename_i r k bO len aU gE
  rw [gE] at aa
  split at ap
  ·rename_i af Ea bf
   split at ap
   ·rename_i nk AZ
    split at ap
    ·rename_i aO
     simp only [Option.some.injEq] at ap
     subst ap
     obtain ⟨e,bZ,he⟩ : ∃e,P.underlying t=some (.slice e)∧P.underlying e=some (.int .u8):=by
      unfold pX at Ea
      split at Ea
      ·rename_i e bZ;exact ⟨e,bZ,Ea⟩
      ·simp at Ea
     have dL:s.af r k=some af:=bf
     have e4:=h.obj r k af dL
     have hzero : ∀(mw:Option Addr) (c:Nat),len=0→(convert t dw (.slice mw 0 c)).run P w = .ok (.string (ym nk)) w:=by
      intro mw c h0
      subst h0
      have:nk=[]:=by simpa [bytesOf] using AZ
      subst this
      cases mw with
      | none=>rw [run_convert_bytes_string w t dw e none 0 c bZ he aU];simp [Conv.bytesToString,ym]
      | some mw =>
       rw [run_convert_bytes_string w t dw e (some mw) 0 c bZ he aU,run_bytesToString w mw 0 c [] (by
        have:=run_loadCells_list (P:=P) w mw [] (fun j v az=>by simp at az)
        simpa using this)]
       rfl
     rcases aa.z0 (h2 dL) with ⟨ad,rfl,rfl,hval⟩|⟨b,m,A,c,ad,hval,rp,sZ,hm⟩
     ·refine hP (v:= .string (ym nk)) h ?_ rfl (.s _)
      simp [execOp,ai,hval,hzero none 0 rfl]
     ·refine hP (v:= .string (ym nk)) h ?_ rfl (.s _)
      by_cases h0:len=0
      ·subst h0;simp [execOp,ai,hval,hzero A c rfl]
      ·rcases hm with hm|⟨hA,hm⟩
       ·omega
       ·subst hA
        rw [ad] at e4
        have ik:=e4.rd
        have yu : ∀(es:List (List aw)) (nk:List Int),bytesOf es=some nk→es.length=nk.length∧ ∀(i:Nat) n,nk[i]? = some n→es[i]? = some [.n .u8 n]:=by
         intro es
         induction es with
         | nil=>intro nk h;simp [bytesOf] at h;subst h;exact ⟨rfl,fun i n ae=>by simp at ae⟩
         | cons x es ih =>
          intro nk h
          unfold bytesOf at h
          split at h
          ·simp at *
          ·rename_i n0 adG Eo
           simp only [List.cons.injEq] at Eo
           obtain ⟨rfl,rfl⟩:=Eo
           rw [Option.map_eq_some_iff] at h
           obtain ⟨fF,yv,rfl⟩:=h
           obtain ⟨ay,aD⟩:=ih fF yv
           refine ⟨by simp [ay],fun i n ae=> ?_⟩
           cases i with
           | zero=>simp at ae;subst ae;rfl
           | succ i=>simpa using aD i n (by simpa using ae)
          ·simp at h
        obtain ⟨ay,aD⟩:=yu _ _ AZ
        have hlen:nk.length=len:=by rw [← ay];simp;omega
        have Y1:(loadCells ⟨b,bO*af.sz,none⟩ len).run P w = .ok (nk.map (Value.int .u8)).toArray w:=by
         have:=run_loadCells_list (P:=P) w ⟨b,bO*af.sz,none⟩ (nk.map (Value.int .u8)) (fun j v az=>by
          rw [List.getElem?_map,Option.map_eq_some_iff] at az
          obtain ⟨n,a4,rfl⟩:=az
          have ma:=aD j n a4
          have vo:j<len:=by rw [← hlen];exact (List.getElem?_eq_some_iff.1 a4).1
          rw [List.getElem?_take_of_lt vo,List.getElem?_drop] at ma
          obtain ⟨v,v1,v2,v3⟩:=ik.2 ((bO+j)*af.sz+0) (.n .u8 n) (by rw [zG ik.1 ma (by omega)];rfl)
          have a0:=v3.n3
          subst a0
          rw [q8,← v1,aO.2]
          congr 2
          omega)
         rw [List.length_map,hlen] at this
         exact this
        have R:=run_bytesToString w ⟨b,bO*af.sz,none⟩ len c nk Y1
        rw [← run_convert_bytes_string w t dw e _ len c bZ he aU] at R
        simp [execOp,ai,hval,R,ym]
    ·simp at ap
   ·simp at ap
  ·simp at ap
 ·simp at ap
theorem UZ {f:Fn}{BD cc:Array Operand}(h:cG g s au a w)(ai:I.op = .makeFunc f BD cc)(ap:eG P s.E s.aP aR I cz=some bo):Fin P g s a w I bo:=by
 cases f with
 | func n =>
  simp only [eG,ai] at ap
  split at ap
  ·rename_i aaj
   simp only [Option.some.injEq] at ap;subst ap
   refine hP (v:= .func (.func n) #[] (cc.map a.eval)) h ?_ rfl ?_
   ·have:BD = #[]:=by simpa using aaj
    subst this
    simp [execOp,ai,Instr.makeFunc]
   ·have:=Rel.fn (f:=n) (c:=cc.toList.map (ey s.E)) (w:=w) (ok:=s.ok g au w) (aY:=s.aY) (a7:=s.a7 au) (cc.toList.map a.eval) (by simp) (by
     intro j x v aa a0
     rw [List.getElem?_map,Option.map_eq_some_iff] at aa a0
     obtain ⟨p,ad,rfl⟩:=aa
     obtain ⟨q,a5,rfl⟩:=a0
     rw [ad] at a5;simp at a5;subst a5
     exact h.eval p)
    have e:(cc.toList.map a.eval).toArray=cc.map a.eval:=by apply Array.ext';rw [Array.toList_map]
    rw [e] at this
    exact this
  ·simp at ap
 | _=>simp [eG,ai] at ap
theorem Vl {i:Nat}{x:Operand}(h:cG g s au a w)(ai:I.op = .extract x i)(ap:eG P s.E s.aP aR I cz=some bo):Fin P g s a w I bo:=by
 simp only [eG,ai] at ap
 have aa:=h.eval x
 split at ap
 ·rename_i vs gE
  rw [gE] at aa
  cases ae:vs[i]? with
  | none=>simp [ae] at ap
  | some v =>
   simp [ae] at ap;subst ap
   obtain ⟨aY,hval,aS,ak⟩:=aa.xQ
   have dn:i<aY.length:=by
    rcases Nat.lt_or_ge i vs.length with cr|cr
    ·omega
    ·rw [List.getElem?_eq_none cr] at ae;simp at ae
   have hu:aY[i]? = some aY[i]:=List.getElem?_eq_getElem dn
   refine hP (v:=aY[i]) h ?_ rfl (ak i v _ ae hu)
   simp [execOp,ai,hval,Instr.extract,hu]
 ·simp at ap
end
end Go.VL
namespace Go.VL
set_option linter.unusedVariables false
set_option linter.unusedSimpArgs false
open Go
section
variable {P:Program} {g:G} {s:S} {au:e9} {a:Act} {w:World} {I:Oper} {cz:fe} {aR:Nat} {bo:hk}
theorem rU {t e:TypeId}(h:pX P t=some e):P.underlying t=some (.slice e):=by
 unfold pX at h
 split at h
 ·rename_i ev he;simp at h;subst h;exact he
 ·simp at h
theorem H4 {t:TypeId}{kx:Array Field}(h:fieldsOf P t=some kx):P.underlying t=some (.struct kx):=by
 unfold fieldsOf at h
 split at h
 ·rename_i ev he;simp at h;subst h;exact he
 ·simp at h
theorem Mk : ∀(z c:List aw),(rb z c).length=z.length
 | x::z,y::c=>by simp [rb,Mk z c]
 | [],_=>by simp [rb]
 | _::_,[]=>by simp [rb]
theorem UI (z:List aw)(cz:fe):(sG z cz).length=z.length:=by
 unfold sG
 split
 ·exact Mk z _
 ·rfl
theorem Vm (x y:aw){w:World}{ok:Nat→Prop}{aY:iX}{a7:iM}{v:Value}(h:Rel w ok aY a7 x v):Rel w ok aY a7 (z8 x y) v:=by
 unfold z8
 split
 ·rw [h.pP];exact .j2 _ _ _ (fun _=>rfl)
 ·rw [h.uS];exact .pk _
 ·rw [h.pP];exact .mF (.j2 _ _ _ (fun _=>rfl))
 ·exact h
theorem Nu : ∀(z c:List aw) (j:Nat) q,(rb z c)[j]? = some q→ ∃x,z[j]? = some x∧(q=x∨ ∃y,q=z8 x y)
 | x::z,y::c,0,q,h=>by simp [rb] at h;exact ⟨x,rfl,.inr ⟨y,h.symm⟩⟩
 | x::z,y::c,j+1,q,h=>by
  simp only [rb,List.getElem?_cons_succ] at h
  simpa using Nu z c j q h
 | [],c,j,q,h=>by simp [rb] at h
 | x::z,[],j,q,h=>⟨q,by simpa [rb] using h,.inl rfl⟩
theorem WB (z:List aw)(cz:fe)(j:Nat)(q:aw)(h:(sG z cz)[j]? = some q): ∃x,z[j]? = some x∧(q=x∨ ∃y,q=z8 x y):=by
 unfold sG at h
 split at h
 ·exact Nu z _ j q h
 ·exact ⟨q,h,.inl rfl⟩
theorem UJ {t:TypeId}{x y:Operand}(h:cG g s au a w)(eJ:s.aP aR=none)(ai:I.op = .makeSlice t x y)(ap:eG P s.E s.aP aR I cz=some bo)(cl:∀p∈bo.e7,p):Fin P g s a w I bo:=by
 simp only [eG,ai] at ap
 have aa:=h.eval x
 have aJ:=h.eval y
 split at ap
 ·rename_i e ka l jD c he Zz ZA
  rw [Zz] at aa;rw [ZA] at aJ
  split at ap
  ·rename_i i z ae ca
   obtain ⟨fj,eh,jN,kr,sb,Pj⟩:=zH ca
   rw [ae] at jN;simp at jN;subst jN
   simp only [Option.ite_none_right_eq_some,Option.some.injEq] at ap
   obtain ⟨eI,ap⟩:=ap
   subst ap
   have mo:=UI z cz
   have jR : ∀(j:Nat) q,(sG z cz)[j]? = some q→ ∃v,eh.cells[j]? = some v∧VL.jZ v=true∧ ∀w ok aY a7,Rel w ok aY a7 q v:=by
    intro j q a5
    obtain ⟨x,dB,nb⟩:=WB z cz j q a5
    obtain ⟨v,v1,v2,v3⟩:=Pj j x dB
    refine ⟨v,v1,v2,fun w ok aY a7=> ?_⟩
    rcases nb with rfl|⟨y,rfl⟩
    ·exact v3 w ok aY a7
    ·exact Vm x y (v3 w ok aY a7)
   clear Pj
   have h0:0≤l:=cl _ (by simp)
   have o:l≤c:=cl _ (by simp)
   have R:(i.bytes:Int)*c≤281474976710656:=cl _ (by simp)
   have ah:c<9223372036854775808:=cl _ (by simp)
   have nc:z.length=eh.cells.size:=by rw [sb];simp
   have iI:=run_make (P:=P) w t e i eh (rU he) ae kr ka jD l c h0 o R (by omega)
   refine Dv (v:= .slice (some ⟨w.heap.size,0,none⟩) l.toNat c.toNat) (af:=⟨z.length,List.replicate l.toNat (sG z cz),.live⟩) (c:=madeCells eh.cells (c.toNat*i.size)) (et:=e) h eJ rfl ?_ rfl ?_ ?_ ?_
   ·simp [execOp,ai,aa.n3,aJ.n3,iI]
   ·intro ev lN;rw [List.eq_of_mem_replicate lN];exact mo
   ·intro j q a5
    have aS : ∀ev∈List.replicate l.toNat (sG z cz),ev.length=z.length:=fun ev lN=>by rw [List.eq_of_mem_replicate lN];exact mo
    rcases Nat.eq_zero_or_pos z.length with rq|Ep
    ·have:sG z cz=[]:=List.length_eq_zero_iff.1 (by omega)
     rw [this] at a5
     simp at a5
    ·rw [pc Ep _ aS,List.getElem?_replicate] at a5
     by_cases az:j / z.length<l.toNat
     ·rw [if_pos az] at a5
      simp only [Option.bind_some] at a5
      obtain ⟨v,ay,aD,bV⟩:=jR _ _ a5
      refine ⟨v,?_,aD,bV _ _ _ _⟩
      have dn:j<c.toNat*i.size:=by
       rw [← eI]
       have:j<l.toNat*z.length:=(Nat.div_lt_iff_lt_mul Ep).1 az
       exact Nat.lt_of_lt_of_le this (Nat.mul_le_mul_right _ (by omega))
      simp only [madeCells]
      rw [Array.getElem?_map,Array.getElem?_range]
      simp only [dn,if_true,Option.map_some]
      rw [nc] at ay
      have hm:j % eh.cells.size<eh.cells.size:=Nat.mod_lt _ (by omega)
      rw [Array.getElem?_eq_getElem hm] at ay
      rw [getElem!_pos eh.cells _ hm];exact ay
     ·rw [if_neg az] at a5;simp at a5
   ·intro bB kE mK l8 hu cp
    refine Rel.bm hu cp (by omega) (by omega) ⟨?_,.inr (by simp)⟩
    rw [size_madeCells]
    simp only [Nat.zero_add,eI]
  ·simp at ap
 ·simp at ap
theorem UK {t:TypeId}{x:Operand}{f:Nat}(h:cG g s au a w)(ai:I.op = .fieldAddr t x f)(ap:eG P s.E s.aP aR I cz=some bo)(cl:∀p∈bo.e7,p):Fin P g s a w I bo:=by
 simp only [eG,ai] at ap
 have aa:=h.eval x
 split at ap
 ·rename_i kx A0
  split at ap
  ·rename_i fd tU
   split at ap
   ·simp at ap
   ·rename_i QA
    have ae:(P.info? fd.type).isSome=true:=by
     cases ae:P.info? fd.type with
     | none=>simp [Program.cellsOf,ae] at QA
     | some i=>rfl
    have iI : ∀A:Addr,A.spot=none→(Instr.fieldAt t (.pointer (some A)) f).run P w = .ok (.pointer (some ⟨A.block,A.off+fd.offset,none⟩)) w:=by
     intro A hA
     have e:A.add fd.offset=⟨A.block,A.off+fd.offset,none⟩:=by
      obtain ⟨b,I,sp⟩:=A
      simp only at hA;subst hA
      exact q8 b I _
     simp [Instr.fieldAt,run_underlying (H4 A0),tU,Instr.sureAddr,fieldPlace,sr ae,QA,e]
    split at ap
    ·rename_i r k i off gE
     rw [gE] at aa
     split at ap
     ·rename_i af b0 bf
      split at ap
      ·rename_i c bg mo
       simp only [Option.some.injEq] at ap;subst ap
       have jo:s.af r k=some af:=sC bf fun p ad=>cl p (by simp [ad])
       have pn:=xE mo fun p ad=>cl p (by simp [ad])
       have e4:=h.obj r k af jo
       rcases aa.uZ (h2 jo) with h0|⟨b,m,ad,hval⟩
       ·rw [h0] at e4;simp only [iT] at e4;rw [e4] at pn;simp at pn
       ·refine hP (v:= .pointer (some ⟨b,i*af.sz+(off+fd.offset),none⟩)) h ?_ rfl ?_
        ·simp [execOp,ai,hval,iI,Nat.add_assoc]
        ·exact aa.Ns ((h2 jo).trans (by rw [ad])) _
      ·simp at ap
     ·simp at ap
    ·rename_i sz es i off gE
     rw [gE] at aa
     simp only [Option.some.injEq] at ap;subst ap
     obtain ⟨dS,bW,aL,hval,ik⟩:=aa.xR
     refine hP (v:= .pointer (some ⟨dS,bW+(i*sz+(off+fd.offset)),none⟩)) h ?_ rfl (ik.eB aL)
     simp [execOp,ai,hval,iI,Nat.add_assoc]
    ·simp at ap
  ·simp at ap
 ·simp at ap
theorem IU {t e:TypeId}{n:Nat}(h:Ax P t=some (n,e)):P.underlying t=some (.array n e)∧(P.info? e).isSome=true∧P.cellsOf e≠0∧1<n:=by
 unfold Ax at h
 split at h
 ·rename_i mV ev hu
  split at h
  ·rename_i aO
   simp only [Option.some.injEq,Prod.mk.injEq] at h
   obtain ⟨rfl,rfl⟩:=h
   exact ⟨hu,aO⟩
  ·simp at h
 ·simp at h
theorem WC {t:TypeId}{x y:Operand}(h:cG g s au a w)(ai:I.op = .indexAddr t x y)(ap:yb P s.aP t (ey s.E x) (ey s.E y) cz=some bo)(cl:∀p∈bo.e7,p):Fin P g s a w I bo:=by
 unfold yb at ap
 have aa:=h.eval x
 have aJ:=h.eval y
 split at ap
 ·rename_i n e r k i off ck j g8 sT Az
  rw [sT] at aa;rw [Az] at aJ
  obtain ⟨hu,ae,aO,a4⟩:=IU g8
  split at ap
  ·rename_i af b0 bf
   split at ap
   ·rename_i c bg mo
    simp only [Option.some.injEq] at ap;subst ap
    have jo:s.af r k=some af:=sC bf fun p ad=>cl p (by simp [ad])
    have pn:=xE mo fun p ad=>cl p (by simp [ad])
    have h0:0≤j:=cl _ (by simp)
    have o:j<n:=cl _ (by simp)
    have e4:=h.obj r k af jo
    rcases aa.uZ (h2 jo) with ca|⟨b,m,ad,hval⟩
    ·rw [ca] at e4;simp only [iT] at e4;rw [e4] at pn;simp at pn
    ·refine hP (v:= .pointer (some ⟨b,i*af.sz+(off+j.toNat*P.cellsOf e),none⟩)) h ?_ rfl ?_
     ·simp [execOp,ai,hval,aJ.n3,Instr.indexAt,asIntOf,run_underlying hu,Instr.sureAddr,h0,o,sr ae,q8,Nat.add_assoc]
     ·exact aa.Ns ((h2 jo).trans (by rw [ad])) _
   ·simp at ap
  ·simp at ap
 ·simp at ap
theorem UL {t:TypeId}{x y:Operand}(h:cG g s au a w)(ai:I.op = .indexAddr t x y)(ap:eG P s.E s.aP aR I cz=some bo)(cl:∀p∈bo.e7,p):Fin P g s a w I bo:=by
 simp only [eG,ai] at ap
 have aa:=h.eval x
 have aJ:=h.eval y
 split at ap
 ·rename_i e k j he gE
  rw [gE] at aJ
  have hu:=rU he
  have iI : ∀(b I len cap:Nat),0≤j→j<len→(P.info? e).isSome=true →
   (Instr.indexAt t (.slice (some ⟨b,I,none⟩) len cap) (.int k j)).run P w = .ok (.pointer (some ⟨b,I+j.toNat*P.cellsOf e,none⟩)) w:=by
   intro b I len cap h0 o ae
   have ev:=q8 b I (j.toNat*P.cellsOf e)
   simp [Instr.indexAt,asIntOf,run_underlying hu,h0,o,sr ae,ev]
  have vb : ∀sz,sz=P.cellsOf e→sz≠0→(P.info? e).isSome=true:=by
   intro sz bZ ca
   cases ae:P.info? e with
   | none=>simp [Program.cellsOf,ae] at bZ;exact absurd bZ ca
   | some i=>rfl
  split at ap
  ·rename_i sz es sT
   rw [sT] at aa
   simp only [Option.ite_none_right_eq_some,Option.some.injEq] at ap
   obtain ⟨⟨bZ,ca⟩,ap⟩:=ap
   subst ap
   have h0:0≤j:=cl _ (by simp)
   have o:j<es.length:=cl _ (by simp)
   rcases aa.sB with ⟨A1,-⟩|⟨dS,off,c,aL,hval,aO,ik⟩
   ·subst A1;simp at o;omega
   ·refine hP (v:= .pointer (some ⟨dS,off+(j.toNat*sz+0),none⟩)) h ?_ rfl (ik.eB aL)
    simp [execOp,ai,hval,aJ.n3,iI _ _ _ _ h0 o (vb sz bZ ca),bZ]
  ·rename_i r q bO len sT
   rw [sT] at aa
   split at ap
   ·rename_i row dj
    split at ap
    ·rename_i af b0 bf
     simp only [Option.ite_none_right_eq_some,Option.some.injEq] at ap
     obtain ⟨⟨bZ,ca⟩,ap⟩:=ap
     subst ap
     have jo:s.af r q=some af:=by
      unfold S.af;rw [dj];exact sC bf fun p ad=>cl p (by simp [ad])
     have h0:0≤j:=cl _ (by simp)
     have o:j<len:=cl _ (by simp)
     rcases aa.z0 (h2 jo) with ⟨-,-,R,-⟩|⟨b,m,A,c,ad,hval,aS,-,hm⟩
     ·subst R;simp at o;omega
     ·rcases hm with hm|⟨hA,hm⟩
      ·omega
      ·subst hA
       have i9:=Dg jo
       refine hP (v:= .pointer (some ⟨b,(bO+j.toNat)*af.sz+0,none⟩)) h ?_ rfl (.ref i9 ((h2 jo).trans (by rw [ad])))
       simp [execOp,ai,hval,aJ.n3,iI _ _ _ _ h0 o (vb _ bZ ca),bZ,Nat.add_mul]
    ·simp at ap
   ·simp at ap
  ·simp at ap
 ·exact WC h ai ap cl
theorem Ye {c:Call}(h:cG g s au a w)(ai:I.op = .call c)(aO:c.callee = .builtin .len)(ap:eG P s.E s.aP aR I cz=some bo)(cl:∀p∈bo.e7,p):Fin P g s a w I bo:=by
 obtain ⟨Er,args,mM⟩:=c
 simp only at aO;subst aO
 simp only [eG,ai] at ap
 have key : ∀(x:Operand) (n:Nat) (t:TypeId) (v:Value),args.toList=[x]→mM = #[t]→bo.val = .n .i64 n→bo.fv=[]→a.eval x=v →
  (Builtin.len_ #[t] I.type #[v]).run P w = .ok (goInt n) w→Fin P g s a w I bo:=by
  intro x n t v hargs lO ak hg a0 iI
  subst lO
  refine hP (v:=goInt n) h ?_ hg (by rw [ak];exact .n _ _)
  have bw:args = #[x]:=by apply Array.ext';simpa using hargs
  subst bw
  simp [execOp,ai,resolve,invoke,builtin,a0,iI]
 have hargs : ∀y,args.toList.map (ey s.E)=[y]→ ∃x,args.toList=[x]∧ey s.E x=y:=by
  intro y aJ
  match aS:args.toList,aJ with
  | [x],aJ=>simp at aJ;exact ⟨x,rfl,aJ⟩
 have ob:decide (mM.size=1)=true→ ∃t,mM = #[t]∧mM.getD 0 0=t:=by
  intro eI
  have eI:mM.size=1:=by simpa using eI
  obtain ⟨l⟩:=mM
  match l,eI with
  | [t],_=>exact ⟨t,rfl,rfl⟩
 split at ap
 ·rename_i sz es e hm hu eI
  obtain ⟨x,aa,gE⟩:=hargs _ hm
  obtain ⟨t,cp,nH⟩:=ob eI
  rw [nH] at hu
  simp only [Option.some.injEq] at ap
  have ak:=h.eval x
  rw [gE] at ak
  rcases ak.sB with ⟨A1,A,c,hval,hA⟩|⟨dS,off,c,aL,hval,-⟩
  ·exact key x es.length t _ aa cp (by rw [← ap]) (by rw [← ap]) hval (by subst A1;simp [Builtin.len_,run_underlying hu])
  ·exact key x es.length t _ aa cp (by rw [← ap]) (by rw [← ap]) hval (by simp [Builtin.len_,run_underlying hu])
 ·rename_i r k bO len e hm hu eI
  obtain ⟨x,aa,gE⟩:=hargs _ hm
  obtain ⟨t,cp,nH⟩:=ob eI
  rw [nH] at hu
  split at ap
  ·rename_i row dj
   split at ap
   ·rename_i af b0 bf
    simp only [Option.some.injEq] at ap
    have ak:=h.eval x
    rw [gE] at ak
    have jo:s.af r k=some af:=by
     unfold S.af;rw [dj];exact sC bf fun p ad=>cl p (by rw [← ap];exact ad)
    rcases ak.z0 (h2 jo) with ⟨-,-,R,hval⟩|⟨b,m,A,c,ad,hval,-⟩
    ·exact key x len t _ aa cp (by rw [← ap]) (by rw [← ap]) hval (by subst R;simp [Builtin.len_,run_underlying hu])
    ·exact key x len t _ aa cp (by rw [← ap]) (by rw [← ap]) hval (by simp [Builtin.len_,run_underlying hu])
   ·simp at ap
  ·simp at ap
 ·rename_i e hm hu eI
  obtain ⟨x,aa,gE⟩:=hargs _ hm
  obtain ⟨t,cp,nH⟩:=ob eI
  rw [nH] at hu
  simp only [Option.some.injEq] at ap
  have ak:=h.eval x
  rw [gE] at ak
  exact key x 0 t _ aa cp (by rw [← ap];rfl) (by rw [← ap]) ak.pP (by simp [Builtin.len_,run_underlying hu])
 ·rename_i b hm hu eI
  obtain ⟨x,aa,gE⟩:=hargs _ hm
  obtain ⟨t,cp,nH⟩:=ob eI
  rw [nH] at hu
  simp only [Option.some.injEq] at ap
  have ak:=h.eval x
  rw [gE] at ak
  exact key x b.size t _ aa cp (by rw [← ap]) (by rw [← ap]) ak.yd (by simp [Builtin.len_,run_underlying hu])
 ·simp at ap
theorem CS {ok:Nat→Prop}{aY:iX}{a7:iM}{dS off sz:Nat}{es:List (List aw)}(h:om w ok aY a7 dS off sz es)(l n:Nat)(aS:l≤es.length):
 om w ok aY a7 dS (off+l*sz) sz ((es.drop l).take n):=by
 have qI : ∀e∈(es.drop l).take n,e.length=sz:=fun e he=>h.1 e (List.mem_of_mem_drop (List.mem_of_mem_take he))
 refine ⟨qI,fun j x aa=> ?_⟩
 rcases Nat.eq_zero_or_pos sz with h0|bZ
 ·have ay : ∀(l:List (List aw)),(∀e∈l,e.length=0)→l.flatten=[]:=by
   intro l aS;induction l with
   | nil=>rfl
   | cons a l ih=>rw [List.flatten_cons,ih fun e he=>aS e (by simp [he])];have:=aS a (by simp);simp_all
  rw [ay _ (fun e he=>(qI e he).trans h0)] at aa;simp at aa
 ·rw [pc bZ _ qI] at aa
  have az:j / sz<n:=by
   rcases Nat.lt_or_ge (j / sz) n with cr|cr
   ·exact cr
   ·rw [List.getElem?_eq_none (by simp;omega)] at aa;simp at aa
  rw [List.getElem?_take,if_pos az,List.getElem?_drop] at aa
  obtain ⟨v,ay,aD,bV⟩:=h.2 (l*sz+j) x (by
   rw [pc bZ es h.1]
   have hL:(l*sz+j) / sz=l+j / sz:=by rw [Nat.mul_comm,Nat.mul_add_div bZ]
   have jE:(l*sz+j) % sz=j % sz:=by rw [Nat.mul_comm,Nat.mul_add_mod]
   rw [hL,jE];exact aa)
  exact ⟨v,by rw [Nat.add_assoc];exact ay,aD,bV⟩
theorem CL {t e:TypeId}(hu:P.underlying t=some (.slice e))(ae:(P.info? e).isSome=true)(A:Option Addr)(len cap:Nat)(bO jN:Option Value)(l h:Nat)
 (QB:(bO=none∧l=0)∨ ∃k,bO=some (.int k l)) (QC:(jN=none∧h=len)∨ ∃k,jN=some (.int k h)) (o:l≤h) (R:h≤len) (ah:len≤cap) :
 (Instr.sliceAt t (.slice A len cap) bO jN none).run P w = .ok (.slice (if cap=l then A else A.map (·.add (l*P.cellsOf e))) (h-l) (cap-l)) w:=by
 have aL : ∀(k:IntKind) (n y:Nat) (code:BoundsCode),n≤y→(Instr.sliceBound (.int k n) y code).run P w = .ok n w:=by
  intro k n y code a4
  simp [Instr.sliceBound,asIntOf,a4]
 rcases QB with ⟨rfl,rfl⟩|⟨ka,rfl⟩<;>rcases QC with ⟨rfl,rfl⟩|⟨jD,rfl⟩ <;>
  simp [Instr.sliceAt,Instr.slice,run_underlying hu,Instr.sliceBounds,sr ae,aL,o,R,ah,Nat.le_trans R ah]
theorem x3 {x:Option Operand}(h:cG g s au a w){d n:Nat}{af:List Prop}(aL:aC (x.map (ey s.E)) d=some (n,af))(cl:∀p∈af,p):
 (x.map a.eval=none∧n=d)∨ ∃k,x.map a.eval=some (.int k n):=by
 cases x with
 | none=>simp [aC] at aL;exact .inl ⟨rfl,aL.1.symm⟩
 | some x =>
  have aa:=h.eval x
  simp only [Option.map_some] at aL ⊢
  unfold aC at aL
  split at aL
  ·rename_i he;simp at he
  ·rename_i _ k y he
   simp only [Option.some.injEq] at he
   rw [he] at aa
   simp only [Option.some.injEq,Prod.mk.injEq] at aL
   obtain ⟨rfl,rfl⟩:=aL
   have h0:0≤y:=cl _ (by simp)
   refine .inr ⟨k,?_⟩
   rw [aa.n3,Int.toNat_of_nonneg h0]
  ·simp at aL
theorem WD {t:TypeId}{x:Operand}{bO ae:Option Operand}(h:cG g s au a w)(ai:I.op = .slice t x bO ae none)(ap:eG P s.E s.aP aR I cz=some bo)(cl:∀p∈bo.e7,p):Fin P g s a w I bo:=by
 simp only [eG,ai] at ap
 have aa:=h.eval x
 have vb : ∀sz e,sz=P.cellsOf e→sz≠0→(P.info? e).isSome=true:=by
  intro sz e bZ ca
  cases ae:P.info? e with
  | none=>simp [Program.cellsOf,ae] at bZ;exact absurd bZ ca
  | some i=>rfl
 split at ap
 ·rename_i e sz es hu gE
  rw [gE] at aa
  split at ap
  ·rename_i l b0 n bg aS a4
   simp only [Option.ite_none_right_eq_some,Option.some.injEq] at ap
   obtain ⟨⟨bZ,ca⟩,ap⟩:=ap
   subst ap
   have iw:=x3 h aS fun p ad=>cl p (by simp [ad])
   have kb:=x3 h a4 fun p ad=>cl p (by simp [ad])
   have o:l≤n:=cl _ (by simp)
   have R:n≤es.length:=cl _ (by simp)
   rcases aa.sB with ⟨A1,A,c,hval,hA⟩|⟨dS,off,c,aL,hval,aO,ik⟩
   ·subst A1
    have Es:n=0:=by simpa using R
    subst Es
    have nd:l=0:=by omega
    subst nd
    refine hP (v:= .slice (if c=0 then A else A.map (·.add (0*P.cellsOf e))) (0-0) (c-0)) h ?_ rfl ?_
    ·have:=CL (w:=w) hu (vb sz e bZ ca) A 0 c (bO.map a.eval) (ae.map a.eval) 0 0 iw kb (Nat.le_refl _) (Nat.le_refl _) (Nat.zero_le _)
     simp only [execOp,ai,hval]
     simp only [Option.map_none,Sem.run_bind,this];rfl
    ·refine .j2 sz _ _ fun a4=> ?_
     split at a4
     ·rename_i mN;omega
     ·have:=hA (by simpa using a4)
      omega
   ·have hlen:((es.drop l).take (n-l)).length=n-l:=by simp;omega
    refine hP (v:= .slice (if c=l then some ⟨dS,off,none⟩ else (some (⟨dS,off,none⟩:Addr)).map (·.add (l*P.cellsOf e))) (n-l) (c-l)) h ?_ rfl ?_
    ·have:=CL (w:=w) hu (vb sz e bZ ca) (some ⟨dS,off,none⟩) es.length c (bO.map a.eval) (ae.map a.eval) l n iw kb o R aO
     simp only [execOp,ai,hval]
     simp only [Option.map_none,Sem.run_bind,this];rfl
    ·by_cases gZ:c=l
     ·have:n-l=0:=by omega
      rw [this]
      show Rel _ _ _ _ (.isl sz ((es.drop l).take 0)) _
      rw [List.take_zero]
      exact .j2 sz _ _ (fun _=>by omega)
     ·rw [if_neg gZ]
      simp only [Option.map_some,q8,← bZ]
      have ak:=(CS ik l (n-l) (by omega)).isl (c:=c-l) ⟨aL.1,fun e he=>aL.2 e (List.mem_of_mem_drop (List.mem_of_mem_take he))⟩ (by rw [hlen];omega)
      rw [hlen] at ak
      exact ak
  ·simp at ap
 ·rename_i e r k y1 len hu gE
  rw [gE] at aa
  split at ap
  ·simp at ap
  ·rename_i row dj
   split at ap
   ·simp at ap
   ·rename_i af Rz bf
    split at ap
    ·rename_i l b0 n bg aS a4
     simp only [Option.ite_none_right_eq_some,Option.some.injEq] at ap
     obtain ⟨⟨bZ,ca⟩,ap⟩:=ap
     subst ap
     have jo:s.af r k=some af:=by
      unfold S.af;rw [dj];exact sC bf fun p ad=>cl p (by simp [ad])
     have iw:=x3 h aS fun p ad=>cl p (by simp [ad])
     have kb:=x3 h a4 fun p ad=>cl p (by simp [ad])
     have o:l≤n:=cl _ (by simp)
     have R:n≤len:=cl _ (by simp)
     have i9:=Dg jo
     rcases aa.uT (h2 jo) with ⟨ad,rfl,rfl,hval⟩|⟨b,m,A,c,ad,hval,rp,sZ,mO,hm⟩
     ·have Es:n=0:=by omega
      subst Es
      have nd:l=0:=by omega
      subst nd
      refine hP (v:= .slice none 0 0) h ?_ rfl (.nr i9 ((h2 jo).trans (by rw [ad])))
      have:=CL (w:=w) hu (vb _ e bZ ca) none 0 0 (bO.map a.eval) (ae.map a.eval) 0 0 iw kb (Nat.le_refl _) (Nat.le_refl _) (Nat.le_refl _)
      simp only [execOp,ai,hval]
      simp only [Option.map_none,Sem.run_bind,this];rfl
     ·refine hP (v:= .slice (if c=l then A else A.map (·.add (l*P.cellsOf e))) (n-l) (c-l)) h ?_ rfl ?_
      ·have:=CL (w:=w) hu (vb _ e bZ ca) A len c (bO.map a.eval) (ae.map a.eval) l n iw kb o R rp
       simp only [execOp,ai,hval]
       simp only [Option.map_none,Sem.run_bind,this];rfl
      ·refine Rel.bm i9 ((h2 jo).trans (by rw [ad])) (by omega) (by omega) ?_
       refine ⟨by rw [← mO];congr 1;omega,?_⟩
       by_cases gZ:c=l
       ·exact .inl (by omega)
       ·rcases hm with hm|hA
        ·exact .inl (by omega)
        ·refine .inr ?_
         rw [if_neg gZ,hA]
         simp only [Option.map_some,q8,← bZ,Nat.add_mul]
    ·simp at ap
 ·rename_i b hu gE
  rw [gE] at aa
  split at ap
  ·rename_i l b0 n bg aS a4
   simp only [Option.some.injEq] at ap
   subst ap
   have iw:=x3 h aS fun p ad=>cl p (by simp [ad])
   have kb:=x3 h a4 fun p ad=>cl p (by simp [ad])
   have o:l≤n:=cl _ (by simp)
   have R:n≤b.size:=cl _ (by simp)
   refine hP (v:= .string (b.extract l n)) h ?_ rfl (.s _)
   have aL : ∀(k:IntKind) (n y:Nat) (code:BoundsCode),n≤y→(Instr.sliceBound (.int k n) y code).run P w = .ok n w:=by
    intro k n y code a4
    simp [Instr.sliceBound,asIntOf,a4]
   simp only [execOp,ai,aa.yd,Option.map_none]
   rcases iw with ⟨ay,rfl⟩|⟨ka,ay⟩<;>rcases kb with ⟨aD,rfl⟩|⟨jD,aD⟩<;>rw [ay,aD] <;>
    simp [Instr.sliceAt,Instr.slice,run_underlying hu,Instr.sliceBounds,aL,o,R]
  ·simp at ap
 ·simp at ap
end
end Go.VL
namespace Go.VL
set_option linter.unusedVariables false
set_option linter.unusedSimpArgs false
open Go
section
variable {P:Program} {g:G} {s:S} {au:e9} {a:Act} {w:World} {I:Oper} {cz:fe} {aR:Nat} {bo:hk}
theorem MV {ok:Nat→Prop}{aY:iX}{a7:iM}{t:TypeId}{c:List aw}{off:Nat}{x:aw}{vs:List Value}(aS:vs.length=c.length)
 (jR : ∀(j:Nat) u,vs[j]? = some u→jZ u=true) (ak : ∀(j:Nat) x u,c[j]? = some x→vs[j]? = some u→Rel w ok aY a7 x u)
 (cp:qD P t c off=some x) : ∃v,(part t vs.toArray off).run P w = .ok v w∧Rel w ok aY a7 x v:=by
 unfold qD at cp
 split at cp
 ·simp at cp
 ·rename_i ae
  simp only [Bool.not_eq_true',Bool.not_eq_false,Bool.and_eq_true] at ae
  simp only [part,Sem.run_bind,Nr ae.1,Result.andThen]
  split at cp
  ·rename_i rk
   rw [rk]
   split at cp
   ·rename_i hle
    simp at cp;subst cp
    have e:(vs.toArray.extract off (off+P.cellsOf t))=((vs.drop off).take (P.cellsOf t)).toArray:=by
     apply Array.ext'
     simp [List.extract_eq_take_drop]
    refine ⟨.agg ((vs.drop off).take (P.cellsOf t)).toArray,by simp [sr ae.2],?_⟩
    refine .agg _ (by simp;omega) ?_ ?_
    ·intro j v a0
     rw [List.getElem?_take] at a0
     split at a0
     ·rw [List.getElem?_drop] at a0;exact jR _ _ a0
     ·simp at a0
    ·intro j y v aJ a0
     rw [List.getElem?_take] at a0 aJ
     split at a0
     ·rename_i az
      rw [if_pos az] at aJ
      rw [List.getElem?_drop] at a0 aJ;exact ak _ _ _ aJ a0
     ·simp at a0
   ·simp at cp
  ·rename_i rk
   have rk:z7 P t=false:=by simpa using rk
   rw [rk]
   split at cp
   ·rename_i y aJ
    split at cp
    ·simp at cp;subst cp
     have yn:off<vs.length:=by
      rcases Nat.lt_or_ge off c.length with h|h
      ·omega
      ·rw [List.getElem?_eq_none h] at aJ;simp at aJ
     exact ⟨vs[off],by simp [yn],ak off y _ aJ (List.getElem?_eq_getElem yn)⟩
    ·simp at cp
   ·simp at cp
theorem WE {t:TypeId}{x:Operand}{f:Nat}(h:cG g s au a w)(ai:I.op = .field t x f)(ap:eG P s.E s.aP aR I cz=some bo):Fin P g s a w I bo:=by
 simp only [eG,ai] at ap
 have aa:=h.eval x
 split at ap
 ·rename_i kx A0
  split at ap
  ·rename_i fd c tU gE
   rw [gE] at aa
   cases cp:qD P fd.type c fd.offset with
   | none=>simp [cp] at ap
   | some v =>
    simp [cp] at ap;subst ap
    obtain ⟨vs,hval,aS,aO,ak⟩:=aa.xP
    obtain ⟨u,o,R⟩:=MV aS aO ak cp
    refine hP (v:=u) h ?_ rfl R
    simp [execOp,ai,hval,Instr.field,run_underlying (H4 A0),tU,asAgg,o]
  ·simp at ap
 ·simp at ap
theorem Nv : ∀ {a b c:List aw},pZ 0 a b=some c→c=a
 | [],[],c,h=>by simp [pZ] at h;exact h
 | .n k x::a,.n dD y::b,c,h=>by
  unfold pZ at h
  split at h
  ·cases hm:pZ 0 a b with
   | none=>simp [hm] at h
   | some d=>simp [hm] at h;rw [← h,Nv hm]
  ·simp at h
 | [],_::_,_,h=>by simp [pZ] at h
theorem NX {j:Int}(az:j≠0): ∀ {a b c:List aw},pZ j a b=some c→c=b
 | [],[],c,h=>by simp [pZ] at h;exact h
 | .n k x::a,.n dD y::b,c,h=>by
  unfold pZ at h
  split at h
  ·rename_i aZ
   subst aZ
   cases hm:pZ j a b with
   | none=>simp [hm] at h
   | some d=>simp [hm,az] at h;rw [← h,NX az hm]
  ·simp at h
 | [],_::_,_,h=>by simp [pZ] at h
theorem VS {t:TypeId}{x y:Operand}(h:cG g s au a w)(ai:I.op = .index t x y)(ap:I4 P t (ey s.E x) (ey s.E y)=some bo)(cl:∀p∈bo.e7,p):Fin P g s a w I bo:=by
 unfold I4 at ap
 have aa:=h.eval x
 have aJ:=h.eval y
 split at ap
 ·rename_i e cs ck j g8 sT Az
  rw [sT] at aa;rw [Az] at aJ
  obtain ⟨hu,ae,-,-⟩:=IU g8
  split at ap
  ·rename_i dx jB bw aL
   cases hm:pZ j dx jB with
   | none=>simp [hm] at ap
   | some c =>
    simp only [hm,Option.map_some,Option.some.injEq] at ap;subst ap
    have h0:0≤j:=cl _ (by simp)
    have o:j<2:=cl _ (by simp)
    obtain ⟨vs,hval,aS,aO,ak⟩:=aa.xP
    have key:qD P e cs (j.toNat*P.cellsOf e)=some (.agg c):=by
     have:j=0∨j=1:=by omega
     rcases this with rfl|rfl
     ·rw [Nv hm];exact bw
     ·rw [NX (by decide) hm];exact aL
    obtain ⟨u,ka,jD⟩:=MV aS aO ak key
    refine hP (v:=u) h ?_ rfl jD
    simp [execOp,ai,hval,aJ.n3,Instr.index,asIntOf,run_underlying hu,h0,o,sr ae,ka]
  ·simp at ap
 ·simp at ap
theorem WG {t:TypeId}{x y:Operand}(h:cG g s au a w)(ai:I.op = .index t x y)(ap:eG P s.E s.aP aR I cz=some bo)(cl:∀p∈bo.e7,p):Fin P g s a w I bo:=by
 simp only [eG,ai] at ap
 have aa:=h.eval x
 have aJ:=h.eval y
 split at ap
 ·rename_i b k j hu sT Az
  rw [sT] at aa;rw [Az] at aJ
  simp only [Option.some.injEq] at ap;subst ap
  have h0:0≤j:=cl _ (by simp)
  have o:j<b.size:=cl _ (by simp)
  have R:j.toNat<b.size:=by omega
  refine hP (v:= .int .u8 (b[j.toNat]).toNat) h ?_ rfl ?_
  ·simp [execOp,ai,aa.yd,aJ.n3,Instr.index,asIntOf,run_underlying hu,h0,R]
  ·have e:b.data.toList.getD j.toNat 0=b[j.toNat]:=by
    rw [List.getD_eq_getElem?_getD,Array.getElem?_toList,Array.getElem?_eq_getElem (by simpa using R)];rfl
   show Rel _ _ _ _ (.n .u8 _) _
   rw [e];exact .n _ _
 ·exact VS h ai ap cl
theorem VT (off:Nat): ∀(vs:List Value) (n:Nat) (cs:Array Value) (j:Nat),off+n+vs.length≤cs.size →
 ((vs.zipIdx n).foldl (fun cs (x:Value×Nat)=>cs.setIfInBounds (off+x.2) x.1) cs)[j]? = if off+n≤j∧j<off+n+vs.length then vs[j-(off+n)]? else cs[j]? := by
 intro vs
 induction vs with
 | nil=>intro n cs j h;simp;intro o R;omega
 | cons v vs ih =>
  intro n cs j h
  simp only [List.length_cons] at h
  simp only [List.zipIdx_cons,List.foldl_cons]
  rw [ih (n+1) _ j (by simp;omega)]
  simp only [List.length_cons,Array.getElem?_setIfInBounds]
  by_cases o:j=off+n
  ·subst o
   rw [if_neg (by omega),if_pos rfl,if_pos (by omega),if_pos (by omega)]
   simp
  ·by_cases R:off+(n+1)≤j∧j<off+(n+1)+vs.length
   ·rw [if_pos R,if_pos (by omega)]
    rw [show j-(off+n)=(j-(off+(n+1)))+1 by omega];rfl
   ·rw [if_neg R,if_neg (fun e=>o e.symm),if_neg (by omega)]
theorem Up (off:Nat): ∀(vs:List (Value×Nat)) (cs:Array Value),(vs.foldl (fun cs (x:Value×Nat)=>cs.setIfInBounds (off+x.2) x.1) cs).size=cs.size:=by
 intro vs
 induction vs with
 | nil=>intro cs;rfl
 | cons v vs ih=>intro cs;simp only [List.foldl_cons];rw [ih];simp
def y2 (w:World)(ok:Nat→Prop)(aY:iX)(a7:iM)(c:List aw)(cs:Array Value):Prop :=
 cs.size=c.length∧(∀(j:Nat) u,cs[j]? = some u→jZ u=true)∧ ∀(j:Nat) x u,c[j]? = some x→cs[j]? = some u→Rel w ok aY a7 x u
theorem WH {ok:Nat→Prop}{aY:iX}{a7:iM}{c:List aw}{cs:Array Value}(h:y2 w ok aY a7 c cs){x:aw}{v:Value}{off:Nat}(aa:Rel w ok aY a7 x v)(aO:x.xH=true)
 (ie:off+x.cells.length≤c.length):v.cells.size=x.cells.length ∧
   y2 w ok aY a7 (setCells c off x.cells) (v.cells.zipIdx.foldl (fun cs (y:Value×Nat)=>cs.setIfInBounds (off+y.2) y.1) cs):=by
 obtain ⟨vs,a0,aS,jR,ak⟩:=aa.cellsOf (aw.MB aO)
 have lO : ∀j,(v.cells.zipIdx.foldl (fun cs (y:Value×Nat)=>cs.setIfInBounds (off+y.2) y.1) cs)[j]? = if off≤j∧j<off+vs.length then vs[j-off]? else cs[j]? := by
  intro j
  rw [a0]
  have:=VT off vs 0 cs j (by rw [h.1];omega)
  simp only [Nat.add_zero] at this
  rw [← this,← Array.foldl_toList,Array.toList_zipIdx]
 refine ⟨by rw [a0];simpa using aS,?_,?_,?_⟩
 ·rw [L4 ie,← h.1,← Array.foldl_toList,Up]
 ·intro j u hu
  rw [lO] at hu
  split at hu
  ·exact jR _ _ hu
  ·exact h.2.1 _ _ hu
 ·intro j y u aJ hu
  rw [lO] at hu
  rw [H3 ie] at aJ
  by_cases ma:off≤j∧j<off+x.cells.length
  ·rw [if_pos ma] at aJ
   rw [if_pos (by rw [aS];exact ma)] at hu
   exact ak _ _ _ aJ hu
  ·rw [if_neg ma] at aJ
   rw [if_neg (by rw [aS];exact ma)] at hu
   exact h.2.2 _ _ _ aJ hu
theorem Ig {ok:Nat→Prop}{aY:iX}{a7:iM}(place:Nat→Option (Nat×Nat)): ∀(l:List (Nat×Nat×aw)) (jd:List (Nat×Value)) (c:List aw) (cs:Array Value) (dR:List aw),
 y2 w ok aY a7 c cs→l.length=jd.length →
 (∀(j:Nat) off size x i v,l[j]? = some (off,size,x)→jd[j]? = some (i,v)→place i=some (off,size)∧Rel w ok aY a7 x v) →
 rX c l=some dR→ ∃k6,Instr.fill place cs jd=some k6∧y2 w ok aY a7 dR k6:=by
 intro l
 induction l with
 | nil =>
  intro jd c cs dR h aS _ b7
  have:jd=[]:=List.length_eq_zero_iff.1 (by simpa using aS.symm)
  subst this
  simp [rX] at b7;subst b7
  exact ⟨cs,rfl,h⟩
 | cons q l ih =>
  intro jd c cs dR h aS ad b7
  obtain ⟨off,size,x⟩:=q
  match jd,aS with
  | (i,v)::jd,aS =>
   obtain ⟨aak,aa⟩:=ad 0 off size x i v rfl rfl
   simp only [rX] at b7
   split at b7
   ·rename_i aO
    simp only [Bool.and_eq_true,decide_eq_true_eq] at aO
    obtain ⟨⟨o,R⟩,ah⟩:=aO
    obtain ⟨ay,aD⟩:=WH h aa o (off:=off) (by omega)
    obtain ⟨k6,f1,f2⟩:=ih jd _ _ dR aD (by simpa using aS) (fun j off size x i v a b=>ad (j+1) off size x i v a b) b7
    refine ⟨k6,?_,f2⟩
    rw [Instr.fill]
    simp only [aak]
    have gJ : ¬(decide (v.cells.size≠size) || decide (off+v.cells.size>cs.size))=true:=by simp;rw [ay,h.1];omega
    rw [if_neg gJ]
    exact f1
   ·simp at b7
theorem mapM_some {α β:Type}(f:α→β)(p:α→Option β): ∀(l:List α),(∀x∈l,p x=some (f x))→l.mapM p=some (l.map f)
 | [],_=>rfl
 | x::l,h=>by
  rw [List.mapM_cons,h x (by simp),mapM_some f p l fun y aJ=>h y (by simp [aJ])];rfl
theorem OH {α β:Type}(p:α→Option β): ∀(l:List α) (ga:List β),l.mapM p=some ga→ga.length=l.length∧ ∀(j:Nat) x y,l[j]? = some x→ga[j]? = some y→p x=some y
 | [],ga,h=>by simp at h;subst h;exact ⟨rfl,fun j x y aa=>by simp at aa⟩
 | a::l,ga,h=>by
  rw [List.mapM_cons] at h
  cases bw:p a with
  | none=>simp [bw] at h
  | some b =>
   cases aS:l.mapM p with
   | none=>simp [bw,aS] at h
   | some r =>
    simp [bw,aS] at h;subst h
    obtain ⟨o,R⟩:=OH p l r aS
    refine ⟨by simp [o],fun j x y aa aJ=> ?_⟩
    cases j with
    | zero=>simp at aa aJ;subst aa;subst aJ;exact bw
    | succ j=>simp at aa aJ;exact R j x y aa aJ
theorem IV {t:TypeId}{z:List aw}(ca:qt P t=some z): ∃i eh,P.info? t=some i∧i.zero=some eh∧eh.cells.size=z.length∧y2 w (s.ok g au w) s.aY (s.a7 au) z eh.cells:=by
 obtain ⟨i,eh,ae,kr,sb,jR⟩:=zH ca
 have bZ:eh.cells.size=z.length:=by rw [sb];simp
 refine ⟨i,eh,ae,kr,bZ,bZ,fun j u hu=> ?_,fun j x u aa hu=> ?_⟩
 ·have az:j<z.length:=by
   have:=(Array.getElem?_eq_some_iff.1 hu).1;omega
  obtain ⟨v,ay,aD,-⟩:=jR j z[j] (List.getElem?_eq_getElem az)
  rw [hu] at ay;simp at ay;subst ay;exact aD
 ·obtain ⟨v,ay,-,bV⟩:=jR j x aa
  rw [hu] at ay;simp at ay;subst ay;exact bV _ _ _ _
theorem U0 {t:TypeId}{parts:Array (Nat×Operand)}(h:cG g s au a w)(ai:I.op = .build t parts)(ap:Iy P t (parts.toList.map fun p=>(p.1,ey s.E p.2))=some bo):Fin P g s a w I bo:=by
 unfold Iy at ap
 split at ap
 ·rename_i n e z g8 ca
  obtain ⟨hu,ae,-,-⟩:=IU g8
  rw [List.map_map] at ap
  cases b7:rX z (parts.toList.map ((fun p:Nat×aw=>(p.1*P.cellsOf e,P.cellsOf e,p.2))∘fun p=>(p.1,ey s.E p.2))) with
  | none=>rw [b7] at ap;simp at ap
  | some c =>
   rw [b7] at ap
   simp only [Option.map_some,Option.some.injEq] at ap;subst ap
   obtain ⟨it,eh,vp,kr,eI,hcs⟩:=IV (w:=w) (s:=s) (g:=g) (au:=au) ca
   obtain ⟨KV,yw⟩:=Option.isSome_iff_exists.1 ae
   have Y2:P.cellsOf e=KV.size:=by simp [Program.cellsOf,yw]
   obtain ⟨k6,f1,f2⟩:=Ig (w:=w) (ok:=s.ok g au w) (aY:=s.aY) (a7:=s.a7 au) (fun i=>some (i*KV.size,KV.size)) _ (parts.map fun (i,x)=>(i,a.eval x)).toList z eh.cells c hcs (by simp) (by
    intro j off size x i v az a0
    simp only [List.getElem?_map,Option.map_eq_some_iff,Function.comp,Prod.mk.injEq] at az
    simp only [Array.toList_map,List.getElem?_map,Option.map_eq_some_iff] at a0
    obtain ⟨p,ad,ay,aD,bV⟩:=az
    obtain ⟨⟨fj,cD⟩,lP,a0⟩:=a0
    simp only [Prod.mk.injEq] at a0
    obtain ⟨rfl,rfl⟩:=a0
    rw [ad] at lP
    have:=Option.some.inj lP
    subst this
    refine ⟨by rw [← ay,← aD,Y2],?_⟩
    rw [← bV];exact h.eval _) b7
   have aL:P.built t (parts.map fun (i,x)=>(i,a.eval x)).toList=some k6:=by
    unfold Program.built
    simp only [vp,hu,kr,yw]
    exact f1
   refine hP (v:= .agg k6) h ?_ rfl ?_
   ·have:=run_build w t _ k6 aL
    simp [execOp,ai,this]
   ·have:=Rel.agg (w:=w) (ok:=s.ok g au w) (aY:=s.aY) (a7:=s.a7 au) (c:=c) k6.toList (by simpa using f2.1) (fun j u hu=>f2.2.1 j u (by simpa using hu)) (fun j x u aa hu=>f2.2.2 j x u aa (by simpa using hu))
    simpa using this
 ·simp at ap
theorem WI {t:TypeId}{parts:Array (Nat×Operand)}(h:cG g s au a w)(ai:I.op = .build t parts)(ap:eG P s.E s.aP aR I cz=some bo):Fin P g s a w I bo:=by
 simp only [eG,ai] at ap
 split at ap
 ·rename_i kx z A0 ca
  split at ap
  ·simp at ap
  ·rename_i nD
   have nD : ∀f∈kx.toList,(P.info? f.type).isSome=true:=by
    rw [Bool.not_eq_false] at nD
    exact List.all_eq_true.1 nD
   split at ap
   ·rename_i l aS
    cases b7:rX z l with
    | none=>simp [b7] at ap
    | some c =>
     simp [b7] at ap;subst ap
     obtain ⟨it,eh,vp,kr,eI,hcs⟩:=IV (w:=w) (s:=s) (g:=g) (au:=au) ca
     obtain ⟨lW,qh⟩:=OH _ _ _ aS
     have ZB:kx.toList.mapM (fun f=>(P.info? f.type).map fun i=>(f.offset,i.size))=some (kx.toList.map fun f=>(f.offset,P.cellsOf f.type)):=by
      refine mapM_some (fun f:Field=>(f.offset,P.cellsOf f.type)) _ _ fun f b7=> ?_
      have:=nD f b7
      cases ae:P.info? f.type with
      | none=>simp [ae] at this
      | some i=>simp [Program.cellsOf,ae]
     obtain ⟨k6,f1,f2⟩:=Ig (w:=w) (ok:=s.ok g au w) (aY:=s.aY) (a7:=s.a7 au) ((kx.toList.map fun f=>(f.offset,P.cellsOf f.type)).toArray[·]?) l (parts.map fun (i,x)=>(i,a.eval x)).toList z eh.cells c hcs (by simpa using lW) (by
      intro j off size x i v az a0
      simp only [Array.toList_map,List.getElem?_map,Option.map_eq_some_iff] at a0
      obtain ⟨⟨fj,cD⟩,ad,a0⟩:=a0
      simp only [Prod.mk.injEq] at a0
      obtain ⟨rfl,rfl⟩:=a0
      have:=qh j _ _ ad az
      simp only [Option.map_eq_some_iff,Prod.mk.injEq] at this
      obtain ⟨fd,o,R,ah,aB⟩:=this
      subst R;subst ah;subst aB
      refine ⟨?_,h.eval cD⟩
      rw [List.getElem?_toArray,List.getElem?_map,Array.getElem?_toList,o];rfl) b7
     have aL:P.built t (parts.map fun (i,x)=>(i,a.eval x)).toList=some k6:=by
      unfold Program.built
      simp only [vp,H4 A0,kr,ZB]
      exact f1
     refine hP (v:= .agg k6) h ?_ rfl ?_
     ·have:=run_build w t _ k6 aL
      simp [execOp,ai,this]
     ·have:=Rel.agg (w:=w) (ok:=s.ok g au w) (aY:=s.aY) (a7:=s.a7 au) (c:=c) k6.toList (by simpa using f2.1) (fun j u hu=>f2.2.1 j u (by simpa using hu)) (fun j x u aa hu=>f2.2.2 j x u aa (by simpa using hu))
      simpa using this
   ·simp at ap
 ·exact U0 h ai ap
theorem T3 {sz:Nat}{es:List (List aw)}(aS:∀e∈es,e.length=sz){i:Nat}(ae:i<es.length){c:List aw}(aO:c.length=sz):
 setCells es.flatten (i*sz) c=(es.set i c).flatten:=by
 have hlen : ∀(es:List (List aw)),(∀e∈es,e.length=sz)→es.flatten.length=es.length*sz:=by
  intro es
  induction es with
  | nil=>simp
  | cons e es ih =>
   intro h
   rw [List.flatten_cons,List.length_append,ih fun x aa=>h x (by simp [aa]),h e (by simp),List.length_cons,Nat.add_mul];omega
 have ie:i*sz+c.length≤es.flatten.length:=by
  rw [hlen es aS,aO]
  have:=Nat.mul_le_mul_right sz (show i+1≤es.length by omega)
  rw [Nat.add_mul] at this;omega
 apply List.ext_getElem?
 intro j
 rw [H3 ie,MC aS (List.getElem?_eq_getElem ae) aO,aO]
theorem MW {sz:Nat}: ∀(l:List (Nat×aw)) (es f9:List (List aw)),(∀e∈es,e.length=sz)→yc sz es l=some f9 →
 rX es.flatten (l.map fun p=>(p.1*sz,sz,p.2))=some f9.flatten∧(∀e∈f9,e.length=sz)∧f9.length=es.length
 | [],es,f9,aS,h=>by simp [yc] at h;subst h;exact ⟨rfl,aS,rfl⟩
 | (i,x)::l,es,f9,aS,h=>by
  simp only [yc] at h
  split at h
  ·rename_i aO
   simp only [Bool.and_eq_true,decide_eq_true_eq] at aO
   obtain ⟨⟨o,R⟩,ah⟩:=aO
   have JP : ∀e∈es.set i x.cells,e.length=sz:=by
    intro e hm
    rcases List.mem_or_eq_of_mem_set hm with cr|cr
    ·exact aS e cr
    ·exact cr▸R
   obtain ⟨hL,jE,bG⟩:=MW l (es.set i x.cells) f9 JP h
   have e:=T3 aS ah R
   have ie:i*sz+sz≤es.flatten.length:=by
    have:(setCells es.flatten (i*sz) x.cells).length=(es.set i x.cells).flatten.length:=by rw [e]
    have a5 : ∀(es:List (List aw)),(∀e∈es,e.length=sz)→es.flatten.length=es.length*sz:=by
     intro es
     induction es with
     | nil=>simp
     | cons e es ih =>
      intro h
      rw [List.flatten_cons,List.length_append,ih fun x aa=>h x (by simp [aa]),h e (by simp),List.length_cons,Nat.add_mul];omega
    rw [a5 es aS]
    have:=Nat.mul_le_mul_right sz (show i+1≤es.length by omega)
    rw [Nat.add_mul] at this;omega
   refine ⟨?_,jE,by simpa using bG⟩
   simp only [List.map_cons,rX,o,R,ie,decide_true,Bool.and_self,if_true]
   rw [e];exact hL
  ·simp at h
theorem UA {t:TypeId}{len:Nat}{parts:Array (Nat×Operand)}(h:cG g s au a w)(eJ:s.aP aR=none)(ai:I.op = .buildSlice t len parts)(ap:eG P s.E s.aP aR I cz=some bo):Fin P g s a w I bo:=by
 simp only [eG,ai] at ap
 split at ap
 ·rename_i e he
  split at ap
  ·rename_i z ca
   split at ap
   ·simp at ap
   ·rename_i aO
    simp only [not_or,Nat.not_lt,Decidable.not_not] at aO
    obtain ⟨mP,yx,yy⟩:=aO
    split at ap
    ·rename_i es hf
     simp only [Option.some.injEq] at ap;subst ap
     obtain ⟨it,eh,vp,kr,eI,hcs⟩:=IV (w:=w) (s:=s) (g:=g) (au:=au) ca
     have jR:P.cellsOf e=it.size:=by simp [Program.cellsOf,vp]
     have Qd : ∀x∈List.replicate len z,x.length=z.length:=fun x aa=>by rw [List.eq_of_mem_replicate aa]
     obtain ⟨f1,f2,f3⟩:=MW _ _ _ Qd hf
     have rq:y2 w (s.ok g au w) s.aY (s.a7 au) (List.replicate len z).flatten ((Array.range (len*it.size)).map (eh.cells[· % eh.cells.size]!)):=by
      have Ep:0<z.length:=by omega
      have lO : ∀j,j<len*it.size→((Array.range (len*it.size)).map (eh.cells[· % eh.cells.size]!))[j]? = eh.cells[j % z.length]? := by
       intro j az
       rw [Array.getElem?_map,Array.getElem?_range]
       simp only [az,if_true,Option.map_some]
       have hm:j % eh.cells.size<eh.cells.size:=Nat.mod_lt _ (by omega)
       rw [getElem!_pos eh.cells _ hm,← eI,Array.getElem?_eq_getElem hm]
      have dn : ∀(j:Nat) u,((Array.range (len*it.size)).map (eh.cells[· % eh.cells.size]!))[j]? = some u→j<len*it.size:=by
       intro j u hu
       have:=(Array.getElem?_eq_some_iff.1 hu).1
       simpa using this
      refine ⟨by simp [← jR,← yx],fun j u hu=> ?_,fun j x u aa hu=> ?_⟩
      ·have az:=dn j u hu
       rw [lO j az] at hu
       exact hcs.2.1 _ _ hu
      ·have az:=dn j u hu
       rw [lO j az] at hu
       rw [pc Ep _ Qd,List.getElem?_replicate] at aa
       split at aa
       ·exact hcs.2.2 _ _ _ aa hu
       ·simp at aa
     obtain ⟨k6,g1,g2⟩:=Ig (w:=w) (ok:=s.ok g au w) (aY:=s.aY) (a7:=s.a7 au) (fun i=>some (i*it.size,it.size)) ((parts.toList.map fun p=>(p.1,ey s.E p.2)).map fun p=>(p.1*z.length,z.length,p.2)) (parts.map fun (i,x)=>(i,a.eval x)).toList _ _ es.flatten rq (by simp) (by
      intro j off size x i v az a0
      simp only [Array.toList_map,List.getElem?_map,Option.map_eq_some_iff,List.map_map] at a0 az
      obtain ⟨⟨fj,cD⟩,ad,a0⟩:=a0
      obtain ⟨⟨qi,fm⟩,AX,az⟩:=az
      rw [ad] at AX
      simp only [Option.some.injEq,Prod.mk.injEq] at AX a0
      obtain ⟨rfl,rfl⟩:=AX
      obtain ⟨rfl,rfl⟩:=a0
      simp only [Function.comp,Prod.mk.injEq] at az
      obtain ⟨rfl,rfl,rfl⟩:=az
      exact ⟨by rw [← jR,← yx],h.eval cD⟩) f1
     have iI:(Instr.buildSlice t len (parts.map fun (i,x)=>(i,a.eval x))).run P w = .ok (.slice (some ⟨w.heap.size,0,none⟩) len len) (w.alloc (.cells k6 e)):=by
      have o : ¬len*it.size>2 ^ 24:=by rw [← jR,← yx];omega
      by_cases h0:len*it.size=0
      ·have nd:len=0:=by
        rcases Nat.eq_zero_or_pos len with cr|cr
        ·exact cr
        ·have:0<len*it.size:=Nat.mul_pos cr (by omega)
         omega
       subst nd
       have e0:((Array.range (0*it.size)).map (eh.cells[· % eh.cells.size]!)) = #[]:=by simp
       rw [e0] at g1
       have ad:parts = #[]:=by
        obtain ⟨l⟩:=parts
        match l,hf with
        | [],_=>rfl
        | p::l,hf=>simp [yc] at hf
       subst ad
       have ZC:k6 = #[]:=by simpa [Instr.fill] using g1.symm
       subst ZC
       simp [Instr.buildSlice,run_underlying (rU he),sizeOf,typeInfo,vp,newRow,Instr.fill]
       rw [Array.range_zero',Array.map_empty]
      ·simp only [Instr.buildSlice,run_underlying (rU he),sizeOf,typeInfo,vp,newRow,zeroValue,kr,Sem.run_bind,Result.andThen_ok,run_program,Sem.run_pure,Sem.run_ite,o,h0,if_false]
       rw [g1];rfl
     refine Dv (v:= .slice (some ⟨w.heap.size,0,none⟩) len len) (af:=⟨z.length,es,.live⟩) (c:=k6) (et:=e) h eJ rfl ?_ rfl f2 ?_ ?_
     ·simp [execOp,ai,iI]
     ·intro j x aa
      have az:j<k6.size:=by
       rw [g2.1]
       rcases Nat.lt_or_ge j es.flatten.length with cr|cr
       ·exact cr
       ·rw [List.getElem?_eq_none cr] at aa;simp at aa
      have hu:k6[j]? = some k6[j]:=Array.getElem?_eq_getElem az
      exact ⟨_,hu,g2.2.1 _ _ hu,g2.2.2 _ _ _ aa hu⟩
     ·intro bB kE mK l8 hu cp
      refine Rel.bm hu cp (Nat.le_refl _) ?_ ⟨?_,.inr (by simp)⟩
      ·have:len≤len*z.length:=Nat.le_mul_of_pos_right _ (by omega)
       omega
      ·rw [g2.1]
       have a5 : ∀(es:List (List aw)),(∀e∈es,e.length=z.length)→es.flatten.length=es.length*z.length:=by
        intro es
        induction es with
        | nil=>simp
        | cons e es ih =>
         intro h
         rw [List.flatten_cons,List.length_append,ih fun x aa=>h x (by simp [aa]),h e (by simp),List.length_cons,Nat.add_mul];omega
       rw [a5 es f2,f3];simp
    ·simp at ap
  ·simp at ap
 ·simp at ap
theorem C8 (h:cG g s au a w)(eJ:s.aP aR=none)(ap:eG P s.E s.aP aR I cz=some bo)(cl:∀p∈bo.e7,p):Fin P g s a w I bo:=by
 cases ai:I.op with
 | move x=>exact OG h (.inl ai) ap
 | assign x=>exact OG h (.inr ai) ap
 | pick c x y=>exact Xw h ai ap cl
 | alloc t=>exact Wy h eJ ai ap
 | box t x=>exact Yd h eJ ai ap
 | load t x=>exact Xx h ai ap cl
 | store t x y=>exact Wz h ai ap cl
 | nilCheck x=>exact UY h ai ap cl
 | binOp op t x y dw=>exact WA h ai ap cl
 | unOp op t x=>exact Xy h ai ap
 | convert t dw x=>exact Vk h ai ap
 | makeFunc f BD cc=>exact UZ h ai ap
 | makeSlice t x y=>exact UJ h eJ ai ap cl
 | fieldAddr t x f=>exact UK h ai ap cl
 | field t x f=>exact WE h ai ap
 | indexAddr t x y=>exact UL h ai ap cl
 | index t x y=>exact WG h ai ap cl
 | extract x i=>exact Vl h ai ap
 | slice t x bO ae KW =>
  cases KW with
  | none=>exact WD h ai ap cl
  | some m=>simp [eG,ai] at ap
 | build t jd=>exact WI h ai ap
 | buildSlice t n jd=>exact UA h eJ ai ap
 | call c =>
  obtain ⟨Er,args,mM⟩:=c
  cases Er with
  | builtin b=>cases b<;>first|exact Ye h ai rfl ap cl|simp [eG,ai] at ap
  | value f=>simp [eG,ai] at ap
  | invoke r m=>simp [eG,ai] at ap
 | _=>simp [eG,ai] at ap
end
end Go.VL
namespace Go.VL
set_option linter.unusedVariables false
set_option linter.unusedSimpArgs false
open Go
def Yf:Option ab→fe
 | some I=> .hd I []
 | none=> .none
def rc (sz:Nat)(aP:Nat→Option (List ab))(a:fe):aw→Option (List (List aw)×List Prop)
 | .isl Et es=>if Et=sz then some (es,[]) else none
 | .bm r k bO len=>match oa (aP r) k a with
  | some (af,b0)=>if af.sz=sz then some ((af.es.drop bO).take len,b0++[bO+len≤af.es.length]) else none
  | none=>none
 | .ex=>some ([],[])
 | .iC=>some ([],[])
 | _=>none
def u6 (P:Program)(sz:Nat)(z:List aw)(aP:Nat→Option (List ab))(a:fe)(t dw:TypeId)(y:aw):Option (List (List aw)×List Prop) :=
 if t=dw then rc sz aP a y else
 match P.underlying dw,y with
 | some (.int _),.n .i64 n=>some (List.replicate n.toNat z,[0≤n,n<9223372036854775808])
 | _,_=>none
def nI (P:Program)(E:Nat→aw)(aP:Nat→Option (List ab))(aR:Nat)(b:Builtin)(args:List aw)(mM:List TypeId)(cz:fe):Option hk :=
 match b,args,mM,cz with
 | .append,[x,y],[t,dw],.bb m I =>
  match pX P t with
  | none=>none
  | some e=>match P.info? e,qt P e with
   | some i,some z =>
    if z.length≠i.size∨i.size=0∨i.bytes=0 then none else
    match u6 P i.size z aP (Yf I) t dw y with
    | none=>none
    | some (bq,b0)=>match x with
     | .ex=>some {val:= .bm aR 0 0 m,fv:=[(aR,[⟨i.size,bq,.live⟩])],e7:=b0++[m=bq.length,m*i.bytes≤140737488355328]}
     | .bm r k 0 len=>match aP r with
      | none=>none
      | some row=>match de (some row) k with
       | none=>none
       | some af=>if af.ck = .live∧af.sz=i.size∧aR≠r then
        some {val:= .bm aR 0 0 m,fv:=[(aR,[⟨i.size,af.es.take len++bq,.live⟩]),(r,row.set k {af with ck:= .gone})],e7:=b0++[len≤af.es.length,m=len+bq.length,m*i.bytes≤140737488355328]} else none
     | _=>none
   | _,_=>none
 | .append,[x,y],[t,dw],.dO =>
  match pX P t with
  | none=>none
  | some e=>match P.info? e,qt P e with
   | some i,some z =>
    if z.length≠i.size∨i.size=0∨i.bytes=0 then none else
    match u6 P i.size z aP .none t dw y with
    | none=>none
    | some (bq,b0)=>match x with
     | .bm r k 0 len=>match aP r with
      | none=>none
      | some row=>match de (some row) k with
       | none=>none
       | some af=>if af.ck = .live∧af.sz=i.size then
        some {val:= .bm r k 0 (len+bq.length),fv:=[(r,row.set k {af with es:=af.es.take len++bq})],e7:=b0++[len+bq.length≤af.es.length,bq.length*i.bytes≤140737488355328]} else none
     | _=>none
   | _,_=>none
 | .copy,[.bm r k 0 len,y],[t,_],_ =>
  match pX P t with
  | none=>none
  | some e=>match P.info? e with
   | none=>none
   | some i=>match rc i.size aP .none y with
    | none=>none
    | some (bq,b0)=>match aP r with
     | none=>none
     | some row=>match de (some row) k with
      | none=>none
      | some af=>if af.ck = .live∧af.sz=i.size∧i.size≠0 then
       some {val:= .n .i64 bq.length,fv:=[(r,row.set k {af with es:=bq++af.es.drop bq.length})],e7:=b0++[bq.length≤len,len≤af.es.length]} else none
 | .clear,[.bm r k 0 len],[t],_ =>
  match pX P t with
  | none=>none
  | some e=>match P.info? e,qt P e with
   | some i,some z=>match aP r with
    | none=>none
    | some row=>match de (some row) k with
     | none=>none
     | some af=>if af.ck = .live∧af.sz=i.size∧z.length=i.size∧i.size≠0 then
      some {val:= .dK [],fv:=[(r,row.set k {af with es:=List.replicate len z})],e7:=[af.es.length=len]} else none
   | _,_=>none
 | .min,[.n k x,.n dD y],_,_=>if k=dD then some {val:= .n k (if y<x then y else x)} else none
 | _,_,_,_=>none
section
variable {g:G} {s:S} {au:e9} {a:Act} {w bB:World}
theorem cG.gone (h:cG g s au a w){r k:Nat}{l:List ab}{I:ab}(ak:s.aP r=some l)(ai:s.af r k=some I):
 cG g (s.setRow r (l.set k {I with ck:= .gone})) au a w ∧
  ∀x v,Rel w (s.ok g au w) s.aY (s.a7 au) x v→Rel w ((s.setRow r (l.set k {I with ck:= .gone})).ok g au w) (s.setRow r (l.set k {I with ck:= .gone})).aY ((s.setRow r (l.set k {I with ck:= .gone})).a7 au) x v:=by
 have bf : ∀q j p,(s.setRow r (l.set k {I with ck:= .gone})).af q j=some p→s.af q j=some p∧ ¬(q=r∧j=k):=by
  intro q j p ad
  rw [ll] at ad
  by_cases e:q=r
  ·subst e
   rw [if_pos rfl] at ad
   unfold de at ad
   simp only [List.getElem?_set] at ad
   by_cases aD:k=j
   ·subst aD
    by_cases aZ:k<l.length
    ·simp [aZ] at ad
    ·simp [aZ] at ad
   ·rw [if_neg aD] at ad
    refine ⟨?_,fun fC=>aD fC.2.symm⟩
    unfold S.af;rw [ak];exact ad
  ·rw [if_neg e] at ad
   exact ⟨ad,fun fC=>e fC.1⟩
 have c2:Step g s au w (s.setRow r (l.set k {I with ck:= .gone})) au w:=by
  refine ⟨CR s ak (by simp),fun q j a5=> ?_,fun b aS=> ?_,fun _ _ _=>rfl,Nat.le_refl _⟩
  ·cases ad:(s.setRow r (l.set k {I with ck:= .gone})).af q j with
   | none=>right;simp [S.a7,ad]
   | some p=>left;simp [S.a7,ad,(bf q j p ad).1]
  ·obtain ⟨q,j,p,m,o,R,ah⟩:=aS
   exact .inl ⟨q,j,p,m,(bf q j p o).1,R,ah⟩
 refine ⟨{toh3:=⟨?_,?_,?_,h.gO,h.mlt,h.m9,c2.stay h.stay,h.low⟩,env:=fun t=>c2.rel (h.env t),defers:=h.defers,jw:=h.jw},fun x v=>c2.rel⟩
 ·intro q j p ad
  exact c2.obj (fun b m _=>rfl) (h.obj q j p (bf q j p ad).1)
 ·intro q j p g7 hK j8 b m a3 o R ah aB
  exact h.inj q j p g7 hK j8 b m a3 (bf q j p o).1 (bf g7 hK j8 R).1 ah aB
 ·intro q j p b m o R
  exact h.own q j p b m (bf q j p o).1 R
theorem cG.OI (h:cG g s au a w){aR sz:Nat}(eJ:s.aP aR=none):
 ∃bE,bE aR 0=none∧cG g (s.setRow aR [⟨sz,[],.live⟩]) bE a w:=by
 have bf : ∀q k,q≠aR→(s.setRow aR [⟨sz,[],.live⟩]).af q k=s.af q k:=fun q k a5=>by rw [ll,if_neg a5]
 let bE:e9:=fun q k=>if q=aR then none else au q k
 have cw : ∀q k,s.aY q k→q≠aR:=by
  rintro q k a5 rfl;exact xj eJ k a5
 have Jt : ∀k I,(s.setRow aR [⟨sz,[],.live⟩]).af aR k=some I→I=⟨sz,[],.live⟩:=by
  intro k I ai
  rw [ll,if_pos rfl,l2] at ai
  split at ai
  ·simp at ai;exact ai.symm
  ·simp at ai
 have c2:Step g s au w (s.setRow aR [⟨sz,[],.live⟩]) bE w:=by
  refine ⟨fun q k a5=>(m3 _ _ _ _ _).2 (by rw [if_neg (cw q k a5)];exact a5),fun q k a5=> .inl ?_,fun b aS=> ?_,fun _ _ _=>rfl,Nat.le_refl _⟩
  ·simp [S.a7,bf q k (cw q k a5),bE,cw q k a5]
  ·obtain ⟨q,k,I,m,o,R,ah⟩:=aS
   by_cases e:q=aR
   ·subst e;simp [bE] at ah
   ·rw [bf q k e] at o
    simp only [bE,if_neg e] at ah
    exact .inl ⟨q,k,I,m,o,R,ah⟩
 refine ⟨bE,by simp [bE],{toh3:=⟨?_,?_,?_,h.gO,h.mlt,h.m9,c2.stay h.stay,h.low⟩,env:=fun t=>c2.rel (h.env t),defers:=h.defers,jw:=h.jw}⟩
 ·intro q k I ai
  by_cases e:q=aR
  ·subst e
   rw [Jt k I ai]
   simp [bE,iT]
  ·rw [bf q k e] at ai
   have:=c2.obj (fun b m _=>rfl) (h.obj q k I ai)
   simpa [bE,e] using this
 ·intro q k I g7 dD bW b m a3 o R ah aB
  have e:q≠aR:=by rintro rfl;simp [bE] at ah
  have ev:g7≠aR:=by rintro rfl;simp [bE] at aB
  rw [bf q k e] at o
  rw [bf g7 dD ev] at R
  simp only [bE,if_neg e] at ah
  simp only [bE,if_neg ev] at aB
  exact h.inj q k I g7 dD bW b m a3 o R ah aB
 ·intro q k I b m o R
  have e:q≠aR:=by rintro rfl;simp [bE] at R
  rw [bf q k e] at o
  simp only [bE,if_neg e] at R
  exact h.own q k I b m o R
theorem cG.turn (h:cG g s au a w){r k b m aR:Nat}{l:List ab}{I:ab}(ak:s.aP r=some l)(ai:s.af r k=some I)(aZ:I.ck = .live)(ad:au r k=some (b,m))
 (eJ:s.aP aR=none) (bW:ab) (mQ:bW.ck = .live) (c:Array Value) (et:TypeId)
 (hw:bB.heap[b]? = some (.cells c et (0,0))) (eI:bB.heap.size=w.heap.size) (u5 : ∀q,q≠b→bB.heap[q]? = w.heap[q]?)
 (qO:bB.os=w.os) (JN:bB.tape=w.tape) (Jr:bB.output=w.output) (hm:c.size=m) (hlen : ∀e∈bW.es,e.length=bW.sz)
 (aO : ∀(j:Nat) x,bW.es.flatten[j]? = some x→ ∃v,c[j]? = some v∧jZ v=true∧Rel w (s.ok g au w) s.aY (s.a7 au) x v) :
 ∃bE,bE aR 0=some (b,m)∧cG g ((s.setRow aR [bW]).setRow r (l.set k {I with ck:= .gone})) bE a bB:=by
 have cw:r≠aR:=by rintro rfl;rw [eJ] at ak;simp at ak
 have Qe : ∀k,¬s.aY aR k:=xj eJ
 let bI:=(s.setRow aR [bW]).setRow r (l.set k {I with ck:= .gone})
 let bE:e9:=au.set aR 0 (some (b,m))
 have bf : ∀q j p,bI.af q j=some p→(q=aR∧j=0∧p=bW)∨(q≠aR∧s.af q j=some p∧ ¬(q=r∧j=k)):=by
  intro q j p a5
  rw [ll] at a5
  by_cases e:q=r
  ·subst e
   rw [if_pos rfl] at a5
   unfold de at a5
   simp only [List.getElem?_set] at a5
   by_cases aD:k=j
   ·subst aD
    by_cases aZ:k<l.length<;>simp [aZ] at a5
   ·rw [if_neg aD] at a5
    refine .inr ⟨cw,?_,fun fC=>aD fC.2.symm⟩
    unfold S.af;rw [ak];exact a5
  ·rw [if_neg e,ll] at a5
   by_cases aD:q=aR
   ·subst aD
    rw [if_pos rfl,l2] at a5
    split at a5
    ·rename_i h0;simp at a5;exact .inl ⟨rfl,h0.1,a5.symm⟩
    ·simp at a5
   ·rw [if_neg aD] at a5
    exact .inr ⟨aD,a5,fun fC=>e fC.1⟩
 have lz : ∀q j,q≠aR→bE q j=au q j:=fun q j a5=>by simp [bE,e9.set,a5]
 have yz:bE aR 0=some (b,m):=by simp [bE,e9.set]
 have pW:s.lG au b:=⟨r,k,I,m,ai,aZ,ad⟩
 have i9 : ∀q j,s.aY q j→bI.aY q j:=fun q j a5=>by
  have e:q≠aR:=fun e=>Qe j (e▸a5)
  rw [m3,m3,if_neg e]
  by_cases aD:q=r
  ·subst aD;rw [if_pos rfl];simpa [S.aY,ak] using a5
  ·rw [if_neg aD];exact a5
 have c2:Step g s au w bI bE bB:=by
  refine ⟨i9,fun q j a5=> ?_,fun q aS=> ?_,fun q a5 aS=>u5 q fun e=>aS (e▸pW),Nat.le_of_eq eI.symm⟩
  ·have nb:q≠aR:=fun e=>Qe j (e▸a5)
   cases ke:bI.af q j with
   | none=>right;simp [S.a7,ke]
   | some p =>
    left
    rcases bf q j p ke with ⟨e,-⟩|⟨-,aD,-⟩
    ·exact absurd e nb
    ·simp [S.a7,ke,aD,lz q j nb]
  ·obtain ⟨g7,j,p,a3,o,R,ah⟩:=aS
   rcases bf g7 j p o with ⟨rfl,rfl,rfl⟩|⟨ay,aD,-⟩
   ·rw [yz] at ah;simp at ah;exact .inl (ah.1▸pW)
   ·rw [lz g7 j ay] at ah;exact .inl ⟨g7,j,p,a3,aD,R,ah⟩
 refine ⟨bE,yz,{toh3:=⟨?_,?_,?_,?_,h.mlt,h.m9,c2.stay h.stay,h.low⟩,env:=fun t=>c2.rel (h.env t),defers:=h.defers,jw:=h.jw}⟩
 ·intro q j p ke
  rcases bf q j p ke with ⟨rfl,rfl,rfl⟩|⟨ay,aD,bV⟩
  ·rw [yz]
   exact ⟨c,et,hw,hm,hlen,fun i x aa=>let ⟨v,f1,f2,f3⟩:=aO i x aa;⟨v,f1,f2,c2.rel f3⟩⟩
  ·rw [lz q j ay]
   refine c2.obj (fun jB a3 kF=>u5 jB ?_) (h.obj q j p aD)
   rintro rfl
   exact bV (h.inj q j p r k I jB a3 m aD ai kF ad)
 ·intro q j p g7 hK j8 jB gd gp o R ah aB
  rcases bf q j p o with ⟨rfl,rfl,rfl⟩|⟨ay,aD,bV⟩<;>rcases bf g7 hK j8 R with ⟨rfl,rfl,rfl⟩|⟨mR,ps,A2⟩
  ·exact ⟨rfl,rfl⟩
  ·rw [yz] at ah;simp at ah
   rw [lz g7 hK mR] at aB
   obtain ⟨rfl,rfl⟩:=ah
   exact absurd (h.inj g7 hK j8 r k I b gp m ps ai aB ad) A2
  ·rw [yz] at aB;simp at aB
   rw [lz q j ay] at ah
   obtain ⟨rfl,rfl⟩:=aB
   exact absurd (h.inj q j p r k I b gd m aD ai ah ad) bV
  ·rw [lz q j ay] at ah;rw [lz g7 hK mR] at aB
   exact h.inj q j p g7 hK j8 jB gd gp aD ps ah aB
 ·intro q j p jB a3 o R
  rcases bf q j p o with ⟨rfl,rfl,rfl⟩|⟨ay,aD,-⟩
  ·rw [yz] at R;simp at R
   rw [← R.1]
   exact h.own r k I b m ai ad
  ·rw [lz q j ay] at R;exact h.own q j p jB a3 aD R
 ·refine h.gO.step qO JN Jr (Nat.le_of_eq eI.symm) fun jB pr kF=>u5 jB ?_
  rintro rfl
  rcases h.own r k I jB m ai ad with o|o
  ·omega
  ·exact kF o
theorem om.nE {ok:Nat→Prop}{aY:iX}{a7:iM}{dS I sz:Nat}{es:List (List aw)}(h:om w ok aY a7 dS I sz es):
 ∃vs:List Value,vs.length=es.length*sz∧(∀(j:Nat) u,vs[j]? = some u→w.cell? ((⟨dS,I,none⟩:Addr).add j)=some u)∧(∀u∈vs,u.oneCell'=true) ∧
  ∀(j:Nat) x u,es.flatten[j]? = some x→vs[j]? = some u→Rel w ok aY a7 x u:=by
 have jx:es.flatten.length=es.length*sz:=by
  have : ∀(es:List (List aw)),(∀e∈es,e.length=sz)→es.flatten.length=es.length*sz:=by
   intro es
   induction es with
   | nil=>intro _;simp
   | cons e es ih =>
    intro fC
    rw [List.flatten_cons,List.length_append,ih fun x aa=>fC x (by simp [aa]),fC e (by simp),List.length_cons,Nat.add_mul];omega
  exact this es h.1
 have aa : ∀i,i<es.length*sz→ ∃v,∀x,es.flatten[i]? = some x→w.cell? ⟨dS,I+i,none⟩=some v∧jZ v=true∧Rel w ok aY a7 x v:=by
  intro i ae
  have az:=List.getElem?_eq_getElem (l:=es.flatten) (i:=i) (by omega)
  obtain ⟨v,o⟩:=h.2 i _ az
  exact ⟨v,fun x aa=>by rw [az] at aa;simp at aa;subst aa;exact o⟩
 let vs:List Value:=(List.range (es.length*sz)).map fun i=>if ae:i<es.length*sz then (aa i ae).choose else undef
 have p5:vs.length=es.length*sz:=by simp [vs]
 have lO : ∀(i:Nat) u x,vs[i]? = some u→es.flatten[i]? = some x→w.cell? ⟨dS,I+i,none⟩=some u∧jZ u=true∧Rel w ok aY a7 x u:=by
  intro i u x hu A3
  have ae:i<es.length*sz:=by
   rcases Nat.lt_or_ge i vs.length with cr|cr
   ·omega
   ·rw [List.getElem?_eq_none cr] at hu;simp at hu
  simp only [vs,List.getElem?_map,List.getElem?_range ae,Option.map_some,dif_pos ae,Option.some.injEq] at hu
  subst hu
  exact (aa i ae).choose_spec x A3
 have hex : ∀(i:Nat) u,vs[i]? = some u→ ∃x,es.flatten[i]? = some x:=by
  intro i u hu
  have ae:i<es.flatten.length:=by
   rcases Nat.lt_or_ge i vs.length with cr|cr
   ·omega
   ·rw [List.getElem?_eq_none cr] at hu;simp at hu
  exact ⟨_,List.getElem?_eq_getElem ae⟩
 refine ⟨vs,p5,fun j u hu=> ?_,fun u hu=> ?_,fun j x u dB hu=>(lO j u x hu dB).2.2⟩
 ·obtain ⟨x,A3⟩:=hex j u hu
  rw [q8];exact (lO j u x hu A3).1
 ·obtain ⟨j,az⟩:=List.getElem?_of_mem hu
  obtain ⟨x,A3⟩:=hex j u az
  exact (lO j u x az A3).2.1
theorem Uq {es bq:List (List aw)}{sz:Nat}{xs news:List Value}(aa:xs.length=es.length*sz)(he:∀e∈es,e.length=sz){j:Nat}{x:aw}(h:(es++bq).flatten[j]? = some x)
 {ok:Nat→Prop} {aY:iX} {a7:iM} (o : ∀(j:Nat) x u,es.flatten[j]? = some x→xs[j]? = some u→Rel w ok aY a7 x u) (R : ∀(j:Nat) x u,bq.flatten[j]? = some x→news[j]? = some u→Rel w ok aY a7 x u)
 {u:Value} (hu:(xs++news)[j]? = some u):Rel w ok aY a7 x u:=by
 have jx:es.flatten.length=es.length*sz:=by
  have : ∀(es:List (List aw)),(∀e∈es,e.length=sz)→es.flatten.length=es.length*sz:=by
   intro es
   induction es with
   | nil=>intro _;simp
   | cons e es ih =>
    intro fC
    rw [List.flatten_cons,List.length_append,ih fun x aa=>fC x (by simp [aa]),fC e (by simp),List.length_cons,Nat.add_mul];omega
  exact this es he
 rw [List.flatten_append,List.getElem?_append] at h
 rw [List.getElem?_append] at hu
 by_cases az:j<es.flatten.length
 ·rw [if_pos az] at h
  rw [if_pos (by omega)] at hu
  exact o j x u h hu
 ·rw [if_neg az] at h
  rw [if_neg (by omega)] at hu
  rw [jx] at h
  rw [aa] at hu
  exact R _ x u h hu
variable {P:Program}
theorem NY (h:cG g s au a w){sz:Nat}{x:aw}{fc:fe}{bq:List (List aw)}{af:List Prop}(he:rc sz s.aP fc x=some (bq,af))(bf:∀p∈af,p){v:Value}(a0:Rel w (s.ok g au w) s.aY (s.a7 au) x v):
 ∃A c,v = .slice A bq.length c∧(∀e∈bq,e.length=sz)∧(bq.length=0∨ ∃dS off,A=some ⟨dS,off,none⟩∧om w (s.ok g au w) s.aY (s.a7 au) dS off sz bq):=by
 cases x with
 | isl Et es =>
  simp only [rc] at he
  split at he
  ·rename_i bZ
   subst bZ
   simp only [Option.some.injEq,Prod.mk.injEq] at he
   obtain ⟨rfl,rfl⟩:=he
   rcases a0.sB with ⟨rfl,A,c,rfl,-⟩|⟨dS,off,c,-,rfl,-,ik⟩
   ·exact ⟨A,c,rfl,by simp,.inl rfl⟩
   ·exact ⟨_,c,rfl,ik.1,.inr ⟨dS,off,rfl,ik⟩⟩
  ·simp at he
 | bm r k bO len =>
  simp only [rc] at he
  split at he
  ·rename_i nf b0 jo
   split at he
   ·rename_i bZ
    simp only [Option.some.injEq,Prod.mk.injEq] at he
    obtain ⟨rfl,rfl⟩:=he
    have ie:bO+len≤nf.es.length:=bf _ (by simp)
    have ai:s.af r k=some nf:=sC jo (fun p ad=>bf p (by simp [ad]))
    have e4:=h.obj r k nf ai
    have aS:((nf.es.drop bO).take len).length=len:=by simp;omega
    rcases a0.z0 (h2 ai) with ⟨-,rfl,rfl,rfl⟩|⟨b,m,A,c,ad,rfl,rp,-,hm⟩
    ·exact ⟨none,0,by simp,by simp,.inl (by simp)⟩
    ·rw [ad] at e4
     have ik:=e4.rd
     subst bZ
     have vg:=CS ik bO len (by omega)
     refine ⟨A,c,by rw [aS],vg.1,?_⟩
     rcases hm with rfl|⟨rfl,-⟩
     ·left;rw [aS];omega
     ·right
      rw [Nat.zero_add] at vg
      exact ⟨b,_,rfl,vg⟩
   ·simp at he
  ·simp at he
 | ex =>
  simp only [rc,Option.some.injEq,Prod.mk.injEq] at he
  obtain ⟨rfl,rfl⟩:=he
  rw [a0.pP]
  exact ⟨none,0,rfl,by simp,.inl rfl⟩
 | iC =>
  simp only [rc,Option.some.injEq,Prod.mk.injEq] at he
  obtain ⟨rfl,rfl⟩:=he
  obtain ⟨A,c,rfl⟩:=a0.Du
  exact ⟨some A,c,rfl,by simp,.inl rfl⟩
 | _=>simp [rc] at he
structure Ju (P:Program) (w:World) (t dw et e:TypeId) (i:TypeInfo) (eh nl:Value) (n:Nat) (vs:List Value):Prop where
 zero:n=0→ ∀(B:Option Addr) (len cap:Nat),len≤cap→(Builtin.append_ #[t,dw] et #[.slice B len cap,nl]).run P w = .ok (.slice B len cap) w
 nil:0<n→(n:Int)≤9223372036854775807→n*i.bytes≤140737488355328 →
  (Builtin.append_ #[t,dw] et #[.slice none 0 0,nl]).run P w = .ok (.slice (some ⟨w.heap.size,0,none⟩) n (grownCap w n 0 e)) (w.drew.alloc (.cells (vs.toArray++Builtin.zeroCells eh.cells (grownCap w n 0 e-n)) e))
 room:0<n→ ∀(g iB lK:Nat) (ls:Array Value) (ev:TypeId),w.heap[g]? = some (.cells ls ev (0,0))→iB+n≤lK→iB*i.size+vs.length≤ls.size→n*i.bytes≤140737488355328 →
  (Builtin.append_ #[t,dw] et #[.slice (some ⟨g,0,none⟩) iB lK,nl]).run P w = .ok (.slice (some ⟨g,0,none⟩) (iB+n) lK) (w.setRow g (ls.toList.take (iB*i.size)++vs++ls.toList.drop (iB*i.size+vs.length)).toArray)
 grow:0<n→ ∀(b:Addr) (iB lK:Nat) (vh:List Value),vh.length=iB*i.size→(∀(j:Nat) v,vh[j]? = some v→w.cell? (b.add j)=some v)→lK<iB+n→((iB+n:Nat):Int)≤9223372036854775807→Builtin.nextslicecap (iB+n) lK*i.bytes≤281474976710656→n*i.bytes≤140737488355328 →
  (Builtin.append_ #[t,dw] et #[.slice (some b) iB lK,nl]).run P w = .ok (.slice (some ⟨w.heap.size,0,none⟩) (iB+n) (grownCap w (iB+n) lK e))
    (w.drew.alloc (.cells (vh.toArray++vs.toArray++Builtin.zeroCells eh.cells (grownCap w (iB+n) lK e-(iB+n))) e))
theorem T4 (t et e:TypeId)(i:TypeInfo)(cp:P.underlying t=some (.slice e))(ae:P.info? e=some i)
 (g iB lK:Nat) (ls:Array Value) (ev:TypeId) (dE:w.heap[g]? = some (.cells ls ev (0,0)))
 (a:Addr) (m c:Nat) (news:List Value) (aS:news.length=m*i.size) (Y3 : ∀j u,news[j]? = some u→w.cell? (a.add j)=some u) (o : ∀u∈news,u.oneCell'=true)
 (sH:iB+m≤lK) (ie:iB*i.size+news.length≤ls.size) :
 (Builtin.append_ #[t,t] et #[.slice (some ⟨g,0,none⟩) iB lK,.slice (some a) m c]).run P w =
   .ok (.slice (some ⟨g,0,none⟩) (iB+m) lK) (w.setRow g (ls.toList.take (iB*i.size)++news++ls.toList.drop (iB*i.size+news.length)).toArray):=by
 have b7:=run_firstCells_some (P:=P) w i.size m a m c news aS Y3
 have l9:=run_storeCells_at P g (iB*i.size) ev news 0 ls w dE (by simpa using ie) o
 simp only [Nat.add_zero] at l9
 simp [Builtin.append_,run_underlying cp,sizeOf,typeInfo,ae,Builtin.lenOf,sH,b7,Addr.add_lit,l9]
theorem MX {t et e:TypeId}{i:TypeInfo}{eh:Value}(cp:P.underlying t=some (.slice e))(ae:P.info? e=some i)(ca:i.zero=some eh){A:Option Addr}{n c:Nat}{vs:List Value}(aS:vs.length=n*i.size)
 (hA:n=0∨ ∃a,A=some a∧ ∀(j:Nat) u,vs[j]? = some u→w.cell? (a.add j)=some u) (o : ∀u∈vs,u.oneCell'=true):Ju P w t t et e i eh (.slice A n c) n vs where
 zero:=fun h0 B len cap AA=>by
  subst h0
  cases A<;>cases B<;>simp [Builtin.append_,run_underlying cp,sizeOf,typeInfo,ae,Builtin.lenOf,AA,Builtin.firstCells,loadCells,loadCellsFrom,storeCells]
 nil:=fun h0 vq yA=>by
  obtain ⟨a,rfl,bw⟩:=hA.resolve_left (by omega)
  exact run_append_nil (P:=P) w t et e i eh cp ae ca a n c vs aS bw h0 vq (by omega)
 room:=fun a4 g iB lK ls ev dE sH ie _=>by
  obtain ⟨a,rfl,bw⟩:=hA.resolve_left (by omega)
  exact T4 t et e i cp ae g iB lK ls ev dE a n c vs aS bw o sH ie
 grow:=fun a4 b iB lK vh ai hold dE vq ie _=>by
  obtain ⟨a,rfl,bw⟩:=hA.resolve_left (by omega)
  exact run_append_grow (P:=P) w t et e i eh cp ae ca b iB lK vh ai hold a n c vs aS bw dE vq ie
theorem Vn {t dw et e:TypeId}{i:TypeInfo}{eh:Value}{k:IntKind}(cp:P.underlying t=some (.slice e))(nH:P.underlying dw=some (.int k))(ae:P.info? e=some i)(ca:i.zero=some eh)(lu:eh.cells.size=i.size){m:Nat}(adw:(m:Int)<9223372036854775808)
 (o : ∀u∈(Builtin.zeroCells eh.cells m).toList,u.oneCell'=true):Ju P w t dw et e i eh (.int .i64 m) m (Builtin.zeroCells eh.cells m).toList:=by
 have hw:IntKind.i64.wrap (m:Int)=m:=by simp [IntKind.wrap,IntKind.bits,IntKind.signed];omega
 have qJ : ¬((m:Int)<0):=by omega
 have rq : ∀a3,a3*i.size=0→Builtin.zeroCells eh.cells a3 = #[]:=fun a3 hm=>by
  apply Array.eq_empty_of_size_eq_zero
  rw [size_zeroCells,lu,hm]
 have Eu : ∀bB:World,(if m*i.size=0 then (pure #[]:Sem (Array Value)) else do pure (Builtin.zeroCells (← zeroValue e).cells m)).run P bB = .ok (Builtin.zeroCells eh.cells m) bB:=fun bB=>by
  split
  ·rename_i hm;rw [rq _ hm];rfl
  ·simp [zeroValue,typeInfo,ae,ca]
 have Jv : ∀b:Nat,m*b≤140737488355328→ ¬(281474976710656<(m:Int)*(b:Int)):=fun b aL=>by
  have:((m*b:Nat):Int)≤140737488355328:=by omega
  rw [Int.natCast_mul] at this
  omega
 refine ⟨fun a4 B len cap AA=> ?_,fun a4 vq yA=> ?_,fun a4 g iB lK ls ev dE sH ie yA=> ?_,fun a4 b iB lK vh ai hold dE vq ie yA=> ?_⟩
 ·subst a4
  have JR:IntKind.i64.wrap 0=0:=by simpa using hw
  cases B<;>simp [Builtin.append_,run_underlying cp,run_underlying nH,sizeOf,typeInfo,ae,AA,asInt,asIntOf,JR,storeCells]
 ·have JS : ¬m=0:=by omega
  have AB : ¬(9223372036854775807<(m:Int)):=by omega
  have tO:=Jv _ yA
  have AD : ¬(281474976710656<Builtin.nextslicecap m 0*i.bytes):=by rw [nextslicecap_zero a4];omega
  have R:=Eu w.drew
  by_cases hm:m*i.size=0
  ·simp [Builtin.append_,run_underlying cp,run_underlying nH,sizeOf,typeInfo,zeroValue,ae,ca,asInt,asIntOf,hw,qJ,tO,JS,AB,AD,Question.forced,run_firstCells_none,newRow,grownCap,hm,rq _ hm]
  ·simp [Builtin.append_,run_underlying cp,run_underlying nH,sizeOf,typeInfo,zeroValue,ae,ca,asInt,asIntOf,hw,qJ,tO,JS,AB,AD,Question.forced,run_firstCells_none,newRow,grownCap,hm]
 ·have tO:=Jv _ yA
  have l9:=run_storeCells_at P g (iB*i.size) ev (Builtin.zeroCells eh.cells m).toList 0 ls w dE (by simpa using ie) o
  simp only [Nat.add_zero] at l9
  by_cases hm:m*i.size=0
  ·rw [rq _ hm] at l9
   have ZD:(storeCells ⟨g,iB*i.size,none⟩ []).run P w = .ok () (w.setRow g ls):=by simpa using l9
   simp [Builtin.append_,run_underlying cp,run_underlying nH,sizeOf,typeInfo,zeroValue,ae,ca,asInt,asIntOf,hw,qJ,tO,sH,hm,rq _ hm,Addr.add_lit,ZD]
  ·simp [Builtin.append_,run_underlying cp,run_underlying nH,sizeOf,typeInfo,zeroValue,ae,ca,asInt,asIntOf,hw,qJ,tO,sH,hm,Addr.add_lit,l9]
 ·have tO:=Jv _ yA
  have QD : ¬(iB+m≤lK):=by omega
  have AB : ¬(9223372036854775807<((iB:Int)+(m:Int))):=by omega
  have AD : ¬(281474976710656<Builtin.nextslicecap (iB+m) lK*i.bytes):=by omega
  have QE:=run_firstCells_some (P:=P) w.drew i.size iB b iB lK vh ai (by simpa using hold)
  by_cases hm:m*i.size=0
  ·simp [Builtin.append_,run_underlying cp,run_underlying nH,sizeOf,typeInfo,zeroValue,ae,ca,asInt,asIntOf,hw,qJ,tO,QD,AB,AD,Question.forced,QE,newRow,grownCap,hm,rq _ hm]
  ·simp [Builtin.append_,run_underlying cp,run_underlying nH,sizeOf,typeInfo,zeroValue,ae,ca,asInt,asIntOf,hw,qJ,tO,QD,AB,AD,Question.forced,QE,newRow,grownCap,hm]
theorem HG {aR:Nat}{e:TypeId}{v:Value}{i:TypeInfo}{m:Nat}(h:cG g s au a w)(eJ:s.aP aR=none){es:List (List aw)}(hlen:∀x∈es,x.length=i.size)(hm:m=es.length)
 {nE:List Value} {tg:Array Value} {cap:Nat} (p5:nE.length=es.length*i.size) (lJ : ∀u∈nE,u.oneCell'=true) (aal:tg.size=(cap-m)*i.size) (AA:m≤cap) (ZE:cap<9223372036854775808)
 (e4 : ∀(j:Nat) x u,es.flatten[j]? = some x→nE[j]? = some u→Rel w (s.ok g au w) s.aY (s.a7 au) x u)
 (a0:v = .slice (some ⟨w.heap.size,0,none⟩) m cap) :
 ∃bE,cG g (s.setRow aR [⟨i.size,es,.live⟩]) bE a (w.drew.alloc (.cells (nE.toArray++tg) e)) ∧
  Rel (w.drew.alloc (.cells (nE.toArray++tg) e)) ((s.setRow aR [⟨i.size,es,.live⟩]).ok g bE (w.drew.alloc (.cells (nE.toArray++tg) e))) (s.setRow aR [⟨i.size,es,.live⟩]).aY ((s.setRow aR [⟨i.size,es,.live⟩]).a7 bE) (.bm aR 0 0 m) v:=by
 have aU:=h.drew
 have jx:es.flatten.length=es.length*i.size:=by
  have : ∀(es:List (List aw)),(∀e∈es,e.length=i.size)→es.flatten.length=es.length*i.size:=by
   intro es
   induction es with
   | nil=>intro _;simp
   | cons e es ih =>
    intro fC
    rw [List.flatten_cons,List.length_append,ih fun x aa=>fC x (by simp [aa]),fC e (by simp),List.length_cons,Nat.add_mul];omega
  exact this es hlen
 obtain ⟨bE,h6,jC,-⟩:=aU.alloc eJ ⟨i.size,es,.live⟩ rfl (nE.toArray++tg) e hlen (fun j x aa=>by
  have az:j<nE.length:=by
   rcases Nat.lt_or_ge j es.flatten.length with cr|cr
   ·omega
   ·rw [List.getElem?_eq_none cr] at aa;simp at aa
  refine ⟨nE[j],?_,lJ _ (List.getElem_mem az),?_⟩
  ·rw [Array.getElem?_append_left (by simpa using az)]
   simp [az]
  ·exact (e4 j x _ aa (List.getElem?_eq_getElem az)).drew)
 refine ⟨bE,jC,?_⟩
 subst a0
 have ai:(s.setRow aR [⟨i.size,es,.live⟩]).af aR 0=some ⟨i.size,es,.live⟩:=by rw [ll,if_pos rfl,l2];simp
 refine Rel.bm (sz:=i.size) (dS:=w.heap.size) (m:=(nE.toArray++tg).size) ((m3 _ _ _ _ _).2 (by simp)) ?_ AA ZE ⟨?_,.inr (by simp)⟩
 ·rw [h2 ai,h6];rfl
 ·simp only [Array.size_append,List.size_toArray,aal,p5,Nat.zero_add]
  rw [← hm,← Nat.add_mul]
  congr 1;omega
section
variable {I:Oper} {cz:fe} {aR:Nat} {bo:hk}
theorem Nw (h:cG g s au a w){t dw et e:TypeId}{i:TypeInfo}{z:List aw}(hu:P.underlying t=some (.slice e))(ae:P.info? e=some i)(ca:qt P e=some z)(nc:z.length=i.size)(jv:i.size≠0)
 {y:aw} {fc:fe} {bq:List (List aw)} {af:List Prop} (he:u6 P i.size z s.aP fc t dw y=some (bq,af)) (bf : ∀p∈af,p) {nl:Value} (aJ:Rel w (s.ok g au w) s.aY (s.a7 au) y nl) :
 ∃eh vs,i.zero=some eh∧eh.cells.size=i.size∧Ju P w t dw et e i eh nl bq.length vs∧(∀x∈bq,x.length=i.size)∧vs.length=bq.length*i.size∧(∀u∈vs,u.oneCell'=true) ∧
  ∀(j:Nat) x u,bq.flatten[j]? = some x→vs[j]? = some u→Rel w (s.ok g au w) s.aY (s.a7 au) x u:=by
 obtain ⟨fj,eh,jN,kr,sb,tV⟩:=zH ca
 rw [ae] at jN;simp at jN;subst jN
 have lu:eh.cells.size=i.size:=by rw [← nc,sb];simp
 unfold u6 at he
 split at he
 ·rename_i aam
  subst aam
  obtain ⟨A,c,rfl,hlen,JT⟩:=NY h he bf aJ
  rcases JT with h0|⟨dS,off,rfl,ik⟩
  ·have:bq=[]:=List.length_eq_zero_iff.1 h0
   subst this
   exact ⟨eh,[],kr,lu,MX hu ae kr (by simp) (.inl rfl) (by simp),hlen,by simp,by simp,by simp⟩
  ·obtain ⟨vs,v1,v2,v3,v4⟩:=ik.nE
   exact ⟨eh,vs,kr,lu,MX hu ae kr v1 (.inr ⟨_,rfl,v2⟩) v3,hlen,v1,v3,v4⟩
 ·split at he
  ·rename_i k n aZ
   simp only [Option.some.injEq,Prod.mk.injEq] at he
   obtain ⟨rfl,rfl⟩:=he
   have h0:0≤n:=bf _ (by simp)
   have vq:n<9223372036854775808:=bf _ (by simp)
   obtain ⟨m,rfl⟩:=Int.eq_ofNat_of_zero_le h0
   have aan:nl = .int .i64 m:=by cases aJ;rfl
   subst aan
   have lO : ∀(j:Nat) u,(Builtin.zeroCells eh.cells m).toList[j]? = some u→eh.cells[j % i.size]? = some u:=by
    intro j u nJ
    have az:=(List.getElem?_eq_some_iff.1 nJ).1
    rw [Array.length_toList,size_zeroCells,lu] at az
    have dn:j % i.size<eh.cells.size:=by rw [lu];exact Nat.mod_lt _ (by omega)
    rw [Array.getElem?_toList,Builtin.zeroCells,Array.getElem?_map,lu,Array.getElem?_range] at nJ
    rw [if_pos az] at nJ
    simp only [Option.map_some,Option.some.injEq] at nJ
    rw [← nJ,Array.getElem?_eq_getElem dn,getElem!_pos eh.cells _ dn]
   refine ⟨eh,(Builtin.zeroCells eh.cells m).toList,kr,lu,?_,?_,?_,?_,?_⟩
   ·simp only [List.length_replicate,Int.toNat_natCast]
    refine Vn hu aZ ae kr lu (by omega) fun u rr=> ?_
    obtain ⟨j,az⟩:=List.getElem?_of_mem rr
    have o:=lO j u az
    have dn:j % i.size<z.length:=by rw [nc];exact Nat.mod_lt _ (by omega)
    obtain ⟨v,v1,v2,-⟩:=tV _ _ (List.getElem?_eq_getElem dn)
    rw [o] at v1
    obtain rfl:=Option.some.inj v1
    exact v2
   ·intro x aa
    rw [List.mem_replicate] at aa
    rw [aa.2,nc]
   ·rw [Array.length_toList,size_zeroCells,lu];simp
   ·intro u rr
    obtain ⟨j,az⟩:=List.getElem?_of_mem rr
    have o:=lO j u az
    have dn:j % i.size<z.length:=by rw [nc];exact Nat.mod_lt _ (by omega)
    obtain ⟨v,v1,v2,-⟩:=tV _ _ (List.getElem?_eq_getElem dn)
    rw [o] at v1
    obtain rfl:=Option.some.inj v1
    exact v2
   ·intro j x u aa nJ
    rw [pc (sz:=i.size) (by omega) _ (fun ev lN=>by rw [List.mem_replicate] at lN;rw [lN.2,nc])] at aa
    have o:=lO j u nJ
    cases a5:(List.replicate (Int.toNat (m:Int)) z)[j / i.size]? with
    | none=>rw [a5] at aa;simp at aa
    | some ev =>
     have:=List.mem_of_getElem? a5
     rw [List.mem_replicate] at this
     rw [a5,this.2] at aa
     simp only [Option.bind_some] at aa
     obtain ⟨v,v1,-,v3⟩:=tV _ _ aa
     rw [o] at v1
     obtain rfl:=Option.some.inj v1
     exact v3 _ _ _ _
  ·simp at he
theorem Vo (h:cG g s au a w)(eJ:s.aP aR=none){x y:aw}{rD nl:Value}{t dw:TypeId}{m:Nat}{KX:Option ab}{et:TypeId}(ap:nI P s.E s.aP aR .append [x,y] [t,dw] (.bb m KX)=some bo)(cl:∀p∈bo.e7,p)
 (aa:Rel w (s.ok g au w) s.aY (s.a7 au) x rD) (aJ:Rel w (s.ok g au w) s.aY (s.a7 au) y nl) :
 ∃v bB bE,(Builtin.append_ #[t,dw] et #[rD,nl]).run P w = .ok v bB∧cG g (s.hS bo.fv) bE a bB∧Rel bB ((s.hS bo.fv).ok g bE bB) (s.hS bo.fv).aY ((s.hS bo.fv).a7 bE) bo.val v:=by
 simp only [nI] at ap
 split at ap
 ·simp at ap
 ·rename_i e he
  have hu:=rU he
  split at ap
  ·rename_i i z ae ca
   split at ap
   ·simp at ap
   ·rename_i aO
    simp only [not_or,Decidable.not_not] at aO
    obtain ⟨nc,jv,yu⟩:=aO
    split at ap
    ·simp at ap
    ·rename_i bq b0 rl
     have Ev:=fun ad=>Nw (et:=et) h hu ae ca nc jv rl ad aJ
     by_cases Yg:True
     ·
      split at ap
      ·
       simp only [Option.some.injEq] at ap
       subst ap
       have hm:m=bq.length:=cl _ (by simp)
       have A4:m*i.bytes≤140737488355328:=cl _ (by simp)
       obtain ⟨eh,vs,kr,lu,hA,hlen,v1,v3,v4⟩:=Ev (fun p ad=>cl p (by simp [ad]))
       clear Ev
       rw [aa.pP]
       by_cases h0:bq.length=0
       ·have:bq=[]:=List.length_eq_zero_iff.1 h0
        subst this
        obtain ⟨bE,h6,jC⟩:=h.OI (sz:=i.size) eJ
        refine ⟨_,w,bE,hA.zero h0 none 0 0 (Nat.le_refl _),jC,?_⟩
        subst hm
        have ai:(s.setRow aR [⟨i.size,[],.live⟩]).af aR 0=some ⟨i.size,[],.live⟩:=by rw [ll,if_pos rfl,l2];simp
        exact .nr (sz:=i.size) ((m3 _ _ _ _ _).2 (by simp)) (by show (s.setRow aR [⟨i.size,[],.live⟩]).a7 bE aR 0=_;rw [h2 ai,h6])
       ··have tW:bq.length*1≤bq.length*i.bytes:=Nat.mul_le_mul_left _ (by omega)
         rw [hm] at A4
         have iI:=hA.nil (by omega) (by omega) (by omega)
         have QF:=grownCap_ge w bq.length 0 e
         have hle:=grownCap_le_maxLen w bq.length 0 e (by simp only [maxLen];omega)
         simp only [maxLen] at hle
         obtain ⟨bE,aW,bi⟩:=HG (e:=e) (i:=i) (m:=m) (nE:=vs) (tg:=Builtin.zeroCells eh.cells (grownCap w bq.length 0 e-bq.length)) (cap:=grownCap w bq.length 0 e) h eJ hlen hm v1 v3
          (by rw [size_zeroCells,lu,hm]) (by omega) (by omega) v4 rfl
         refine ⟨.slice (some ⟨w.heap.size,0,none⟩) m (grownCap w bq.length 0 e),_,bE,?_,aW,bi⟩
         rw [hm];exact iI
      ·
       rename_i r k len
       split at ap
       ·simp at ap
       ·rename_i row dj
        split at ap
        ·simp at ap
        ·rename_i af bf
         split at ap
         ·rename_i vr
          obtain ⟨nK,eI,cw⟩:=vr
          simp only [Option.some.injEq] at ap
          subst ap
          have ai:s.af r k=some af:=by unfold S.af;rw [dj];exact bf
          have ie:len≤af.es.length:=cl _ (by simp)
          have hm:m=len+bq.length:=cl _ (by simp)
          have A4:m*i.bytes≤140737488355328:=cl _ (by simp)
          have tW:m*1≤m*i.bytes:=Nat.mul_le_mul_left _ (Nat.one_le_iff_ne_zero.2 yu)
          obtain ⟨eh,vs,kr,lu,hA,hlen,v1,v3,v4⟩:=Ev (fun p ad=>cl p (by simp [ad]))
          clear Ev
          have adH:bq.length*i.bytes≤m*i.bytes:=Nat.mul_le_mul_right _ (by omega)
          have e4:=h.obj r k af ai
          have JU:(af.es.take len).length=len:=by simp;omega
          have rY:(s.setRow aR [⟨i.size,af.es.take len++bq,.live⟩]).aP r=some row:=by simp [S.setRow,Ne.symm cw,dj]
          have p6 : ∀bE:e9,((s.setRow aR [⟨i.size,af.es.take len++bq,.live⟩]).setRow r (row.set k {af with ck:= .gone})).af aR 0=some ⟨i.size,af.es.take len++bq,.live⟩:=by
           intro _
           rw [ll,if_neg cw,ll,if_pos rfl,l2];simp
          have AE:((s.setRow aR [⟨i.size,af.es.take len++bq,.live⟩]).setRow r (row.set k {af with ck:= .gone})).aY aR 0:=by rw [m3,if_neg cw,m3,if_pos rfl];simp
          show ∃v bB bE,_∧cG g ((s.setRow aR [⟨i.size,af.es.take len++bq,.live⟩]).setRow r (row.set k {af with ck:= .gone})) bE a bB∧_
          rcases aa.uT (h2 ai) with ⟨ad,-,rfl,rfl⟩|⟨b,M,h7,kh,ad,rfl,rp,sZ,di,mO⟩
          ·
           rw [ad] at e4
           simp only [iT] at e4
           have hf:af.es.take 0++bq=bq:=by simp
           by_cases h0:bq.length=0
           ·have:bq=[]:=List.length_eq_zero_iff.1 h0
            subst this
            obtain ⟨bE,h6,jC⟩:=h.OI (sz:=i.size) eJ
            have p7:(s.setRow aR [⟨i.size,[],.live⟩]).af r k=some af:=by rw [ll,if_neg (Ne.symm cw)];exact ai
            have Y4:(s.setRow aR [⟨i.size,[],.live⟩]).aP r=some row:=by simp [S.setRow,Ne.symm cw,dj]
            obtain ⟨sc,-⟩:=jC.gone Y4 p7
            have AF:af.es.take 0++([]:List (List aw))=[]:=by simp
            rw [AF]
            rw [AF] at AE p6
            refine ⟨_,w,bE,hA.zero h0 none 0 0 (Nat.le_refl _),sc,?_⟩
            subst hm
            exact .nr (sz:=i.size) AE ((h2 (p6 bE)).trans (by rw [h6]))
           ··have kF:m=bq.length:=by omega
             have iI:=hA.nil (by omega) (by omega) (by omega)
             have QF:=grownCap_ge w bq.length 0 e
             have hle:=grownCap_le_maxLen w bq.length 0 e (by simp only [maxLen];omega)
             simp only [maxLen] at hle
             obtain ⟨bE,aW,bi⟩:=HG (e:=e) (i:=i) (m:=m) (nE:=vs) (tg:=Builtin.zeroCells eh.cells (grownCap w bq.length 0 e-bq.length)) (cap:=grownCap w bq.length 0 e) h eJ hlen kF v1 v3
              (by rw [size_zeroCells,lu,kF]) (by omega) (by omega) v4 rfl
             rw [hf]
             rw [hf] at rY
             have p7:(s.setRow aR [⟨i.size,bq,.live⟩]).af r k=some af:=by rw [ll,if_neg (Ne.symm cw)];exact ai
             obtain ⟨sc,BE⟩:=aW.gone rY p7
             refine ⟨.slice (some ⟨w.heap.size,0,none⟩) m (grownCap w bq.length 0 e),_,bE,?_,sc,BE _ _ bi⟩
             rw [kF];exact iI
          ·
           rw [ad] at e4
           have Y5:=e4
           obtain ⟨cc,mn,g1,g2,g3,g4⟩:=e4
           have AG : ∀e∈af.es.take len++bq,e.length=i.size:=by
            intro ev lN
            rw [List.mem_append] at lN
            rcases lN with cr|cr
            ·rw [g3 ev (List.mem_of_mem_take cr),eI]
            ·exact hlen ev cr
           have jx : ∀(es:List (List aw)),(∀e∈es,e.length=i.size)→es.flatten.length=es.length*i.size:=by
            intro es
            induction es with
            | nil=>intro _;simp
            | cons e es ih =>
             intro fC
             rw [List.flatten_cons,List.length_append,ih fun x aa=>fC x (by simp [aa]),fC e (by simp),List.length_cons,Nat.add_mul];omega
           by_cases h0:bq.length=0
           ·
            have:bq=[]:=List.length_eq_zero_iff.1 h0
            subst this
            have AF:af.es.take len++([]:List (List aw))=af.es.take len:=by simp
            rw [AF]
            rw [AF] at AE p6 AG
            obtain ⟨bE,h6,jC⟩:=h.turn dj ai nK ad eJ ⟨i.size,af.es.take len,.live⟩ rfl cc mn g1 rfl (fun _ _=>rfl) rfl rfl rfl g2 AG (fun j q a5=>by
             refine g4 j q ?_
             have az:j<(af.es.take len).flatten.length:=by
              rcases Nat.lt_or_ge j (af.es.take len).flatten.length with cr|cr
              ·exact cr
              ·rw [List.getElem?_eq_none cr] at a5;simp at a5
             have QG:af.es.flatten=(af.es.take len).flatten++(af.es.drop len).flatten:=by rw [← List.flatten_append,List.take_append_drop]
             rw [QG,List.getElem?_append_left az];exact a5)
            refine ⟨_,w,bE,hA.zero h0 h7 len kh rp,jC,?_⟩
            have kF:m=len:=by simpa using hm
            subst kF
            refine .bm (sz:=i.size) (dS:=b) (m:=M) AE ((h2 (p6 bE)).trans (by rw [h6])) rp sZ ?_
            rw [← eI];exact ⟨di,mO⟩
           ··
             have hold : ∃xs:List Value,xs.length=len*i.size∧(∀(j:Nat) u,xs[j]? = some u→w.cell? ((⟨b,0,none⟩:Addr).add j)=some u)∧(∀u∈xs,u.oneCell'=true) ∧
              ∀(j:Nat) x u,(af.es.take len).flatten[j]? = some x→xs[j]? = some u→Rel w (s.ok g au w) s.aY (s.a7 au) x u:=by
              have Qf:=CS Y5.rd 0 len (by omega)
              simp only [List.drop_zero,Nat.zero_mul,Nat.add_zero] at Qf
              obtain ⟨xs,gf,fm,aV,f6⟩:=Qf.nE
              exact ⟨xs,by rw [gf,JU,eI],fm,aV,f6⟩
             obtain ⟨xs,gf,fm,aV,f6⟩:=hold
             have aao:xs.length=(af.es.take len).length*i.size:=by rw [JU];exact gf
             have OJ : ∀(j:Nat) x u,(af.es.take len++bq).flatten[j]? = some x→(xs++vs)[j]? = some u→Rel w (s.ok g au w) s.aY (s.a7 au) x u :=
              fun j x u aap nJ=>Uq aao (fun ev lN=>by rw [g3 ev (List.mem_of_mem_take lN),eI]) aap f6 v4 nJ
             have AH:(af.es.take len++bq).length=m:=by rw [List.length_append,JU];exact hm.symm
             by_cases sH:len+bq.length≤kh
             ·
              rcases mO with rfl|rfl
              ·omega
              ·rw [Nat.zero_mul] at *
               rw [Nat.zero_add] at di
               have Yh:len*i.size+vs.length≤cc.size:=by
                rw [v1,g2,← di,eI,← Nat.add_mul];exact Nat.mul_le_mul_right _ sH
               have iI:=hA.room (by omega) b len kh cc mn g1 sH Yh (by omega)
               have ZF:(w.setRow b (cc.toList.take (len*i.size)++vs++cc.toList.drop (len*i.size+vs.length)).toArray).heap.size=w.heap.size:=size_setRow _ _ _
               have QH:xs=cc.toList.take (len*i.size):=by
                apply List.ext_getElem?
                intro j
                rw [List.getElem?_take]
                by_cases az:j<len*i.size
                ·rw [if_pos az]
                 have r5:j<xs.length:=by omega
                 have:=fm j _ (List.getElem?_eq_getElem r5)
                 rw [q8,cell_of_row w b (0+j) cc mn (0,0) g1,Nat.zero_add] at this
                 rw [List.getElem?_eq_getElem r5,← this,Array.getElem?_toList]
                ·rw [if_neg az,List.getElem?_eq_none (by omega)]
               obtain ⟨bE,h6,jC⟩:=h.turn dj ai nK ad eJ ⟨i.size,af.es.take len++bq,.live⟩ rfl _ mn (setRow_heap w b cc _ mn _ g1) ZF (fun q a5=>setRow_other w b q _ a5) rfl rfl rfl
                (by rw [← g2];simp;omega) AG (fun j q a5=>by
                  have az:j<(xs++vs).length:=by
                   have:j<(af.es.take len++bq).flatten.length:=by
                    rcases Nat.lt_or_ge j (af.es.take len++bq).flatten.length with cr|cr
                    ·exact cr
                    ·rw [List.getElem?_eq_none cr] at a5;simp at a5
                   rw [jx _ AG,AH] at this
                   rw [List.length_append,gf,v1,← Nat.add_mul,← hm];exact this
                  refine ⟨(xs++vs)[j],?_,?_,OJ j q _ a5 (List.getElem?_eq_getElem az)⟩
                  ·rw [List.getElem?_toArray,List.getElem?_append_left (by rw [← QH];exact az),← QH]
                   exact List.getElem?_eq_getElem az
                  ·have:=List.getElem_mem az
                   rw [List.mem_append] at this
                   rcases this with cr|cr
                   ·exact aV _ cr
                   ·exact v3 _ cr)
               refine ⟨_,_,bE,iI,jC,?_⟩
               rw [← hm]
               refine .bm (sz:=i.size) (dS:=b) (m:=M) AE ((h2 (p6 bE)).trans (by rw [h6])) (by omega) sZ ⟨?_,.inr (by simp)⟩
               rw [Nat.zero_add,← eI];exact di
             ·
              have hA : ∃vX:Addr,(h7=some vX∧ ∀(j:Nat) u,xs[j]? = some u→w.cell? (vX.add j)=some u)∨(h7=none∧len=0∧kh=0):=by
               cases h7 with
               | none =>
                refine ⟨⟨0,0,none⟩,.inr ⟨rfl,?_⟩⟩
                rcases mO with cr|cr
                ·omega
                ·simp at cr
               | some vX =>
                refine ⟨vX,.inl ⟨rfl,?_⟩⟩
                rcases mO with cr|cr
                ·have:len=0:=by omega
                 have:xs=[]:=List.length_eq_zero_iff.1 (by rw [gf,this];simp)
                 intro j u az
                 rw [this] at az;simp at az
                ·simp at cr;subst cr;exact fm
              have QF:=grownCap_ge w (len+bq.length) kh e
              have hle:=grownCap_le_maxLen w (len+bq.length) kh e (by simp only [maxLen];omega)
              simp only [maxLen] at hle
              have iI:(Builtin.append_ #[t,dw] et #[.slice h7 len kh,nl]).run P w = .ok (.slice (some ⟨w.heap.size,0,none⟩) (len+bq.length) (grownCap w (len+bq.length) kh e))
               (w.drew.alloc (.cells ((xs++vs).toArray++Builtin.zeroCells eh.cells (grownCap w (len+bq.length) kh e-(len+bq.length))) e)):=by
               have ZG:(xs++vs).toArray=xs.toArray++vs.toArray:=by apply Array.ext';simp
               rw [ZG]
               obtain ⟨vX,⟨rfl,aaq⟩|⟨rfl,nd,mN⟩⟩:=hA
               ·exact hA.grow (by omega) vX len kh xs gf aaq (by omega) (by omega) (growslice_fits (by omega) (by rw [← hm];exact A4)) (by omega)
               ·subst nd;subst mN
                have aar:xs=[]:=List.length_eq_zero_iff.1 (by rw [gf];simp)
                subst aar
                have:=hA.nil (by omega) (by omega) (by omega)
                simpa using this
              obtain ⟨bE,aW,bi⟩:=HG (e:=e) (i:=i) (m:=m) (nE:=xs++vs) (tg:=Builtin.zeroCells eh.cells (grownCap w (len+bq.length) kh e-(len+bq.length))) (cap:=grownCap w (len+bq.length) kh e) h eJ AG AH.symm
               (by rw [List.length_append,gf,v1,AH,hm,Nat.add_mul]) (fun u hu=>by
                 rw [List.mem_append] at hu
                 rcases hu with cr|cr
                 ·exact aV _ cr
                 ·exact v3 _ cr) (by rw [size_zeroCells,lu,hm]) (by omega) (by omega) OJ rfl
              have p7:(s.setRow aR [⟨i.size,af.es.take len++bq,.live⟩]).af r k=some af:=by rw [ll,if_neg (Ne.symm cw)];exact ai
              obtain ⟨sc,BE⟩:=aW.gone rY p7
              refine ⟨.slice (some ⟨w.heap.size,0,none⟩) m (grownCap w (len+bq.length) kh e),_,bE,?_,sc,BE _ _ bi⟩
              rw [hm];exact iI
         ·simp at ap
      ·simp at ap
     ·exact absurd trivial Yg
  ·simp at ap
end
end
section
variable {P:Program} {g:G} {s:S} {au:e9} {a:Act} {w:World}
theorem zS {sz:Nat}: ∀ {es:List (List aw)},(∀e∈es,e.length=sz)→es.flatten.length=es.length*sz
 | [],_=>by simp
 | e::es,h=>by
  rw [List.flatten_cons,List.length_append,zS fun x aa=>h x (by simp [aa]),h e (by simp),List.length_cons,Nat.add_mul];omega
theorem cG.putAt (h:cG g s au a w){r k p b M:Nat}{row:List ab}{af:ab}(ak:s.aP r=some row)(ai:s.af r k=some af)(aZ:af.ck = .live)(lz:au r k=some (b,M)){bq f9:List (List aw)}{vs:List Value}
 (hlen : ∀x∈bq,x.length=af.sz) (v1:vs.length=bq.length*af.sz) (v3 : ∀u∈vs,u.oneCell'=true) (v4 : ∀(j:Nat) x u,bq.flatten[j]? = some x→vs[j]? = some u→Rel w (s.ok g au w) s.aY (s.a7 au) x u)
 (ad:p+bq.length≤af.es.length) (q:Nat) (hf:f9=(af.es.take p++bq++af.es.drop (p+bq.length)).take q) :
 ∃cc mn,w.heap[b]? = some (.cells cc mn (0,0))∧cc.size=M∧af.es.length*af.sz≤M∧p*af.sz+vs.length≤cc.size ∧
  cG g (s.setRow r (row.set k {af with es:=f9})) au a (w.setRow b (cc.toList.take (p*af.sz)++vs++cc.toList.drop (p*af.sz+vs.length)).toArray) ∧
  ∀x v,Rel w (s.ok g au w) s.aY (s.a7 au) x v→Rel (w.setRow b (cc.toList.take (p*af.sz)++vs++cc.toList.drop (p*af.sz+vs.length)).toArray) ((s.setRow r (row.set k {af with es:=f9})).ok g au (w.setRow b (cc.toList.take (p*af.sz)++vs++cc.toList.drop (p*af.sz+vs.length)).toArray)) (s.setRow r (row.set k {af with es:=f9})).aY ((s.setRow r (row.set k {af with es:=f9})).a7 au) x v:=by
 have e4:=h.obj r k af ai
 rw [lz] at e4
 obtain ⟨cc,mn,g1,g2,g3,g4⟩:=e4
 have jx:=zS g3
 have di:af.es.length*af.sz≤M:=by
  rcases Nat.eq_zero_or_pos af.es.flatten.length with h0|jv
  ·omega
  ·obtain ⟨v,ay,-⟩:=g4 (af.es.flatten.length-1) _ (List.getElem?_eq_getElem (by omega))
   have:=(Array.getElem?_eq_some_iff.1 ay).1
   omega
 have hmul:p*af.sz+bq.length*af.sz≤af.es.length*af.sz:=by rw [← Nat.add_mul];exact Nat.mul_le_mul_right _ ad
 have ie:p*af.sz+vs.length≤cc.size:=by omega
 refine ⟨cc,mn,g1,g2,di,ie,?_⟩
 have ZH : ∀e∈af.es.take p++bq++af.es.drop (p+bq.length),e.length=af.sz:=by
  intro e he
  simp only [List.mem_append] at he
  rcases he with (he|he)|he
  ·exact g3 e (List.mem_of_mem_take he)
  ·exact hlen e he
  ·exact g3 e (List.mem_of_mem_drop he)
 have hA:(af.es.take p).flatten.length=p*af.sz:=by rw [zS fun e he=>g3 e (List.mem_of_mem_take he),List.length_take];congr 1;omega
 have gL:(af.es.take (p+bq.length)).flatten.length=p*af.sz+bq.length*af.sz:=by rw [zS fun e he=>g3 e (List.mem_of_mem_take he),List.length_take,← Nat.add_mul];congr 1;omega
 have abX:bq.flatten.length=bq.length*af.sz:=zS hlen
 have o : ∀j,j<p*af.sz→(af.es.take p).flatten[j]? = af.es.flatten[j]? := fun j az=>by
  conv=>rhs;rw [← List.take_append_drop p af.es,List.flatten_append,List.getElem?_append_left (by omega)]
 have R : ∀j,(af.es.drop (p+bq.length)).flatten[j]? = af.es.flatten[p*af.sz+bq.length*af.sz+j]? := fun j=>by
  conv=>rhs;rw [← List.take_append_drop (p+bq.length) af.es,List.flatten_append,List.getElem?_append_right (by omega),gL]
  congr 1;omega
 refine h.write ak ai aZ lz f9 _ mn (setRow_heap w b cc _ mn _ g1) (size_setRow _ _ _) (fun q a5=>setRow_other w b q _ a5) rfl rfl rfl (by rw [← g2];simp;omega) ?_ ?_
 ·intro e he
  rw [hf] at he
  exact ZH e (List.mem_of_mem_take he)
 ·intro j x aa
  have dB:(af.es.take p++bq++af.es.drop (p+bq.length)).flatten[j]? = some x:=by
   rw [hf] at aa
   have az:=(List.getElem?_eq_some_iff.1 aa).1
   conv=>lhs;rw [← List.take_append_drop q (af.es.take p++bq++af.es.drop (p+bq.length)),List.flatten_append,List.getElem?_append_left az]
   exact aa
  rw [List.flatten_append,List.flatten_append] at dB
  simp only [List.getElem?_toArray]
  have gZ:(cc.toList.take (p*af.sz)).length=p*af.sz:=by rw [List.length_take,Array.length_toList];omega
  by_cases bp:j<p*af.sz
  ·rw [List.append_assoc,List.getElem?_append_left (by omega),o j bp] at dB
   obtain ⟨v,ay,aD,bV⟩:=g4 j x dB
   refine ⟨v,?_,aD,bV⟩
   rw [List.append_assoc,List.getElem?_append_left (by omega),List.getElem?_take,if_pos bp,Array.getElem?_toList];exact ay
  ·by_cases cZ:j<p*af.sz+vs.length
   ·rw [List.append_assoc,List.getElem?_append_right (by omega),hA,List.getElem?_append_left (by omega)] at dB
    have a0:j-p*af.sz<vs.length:=by omega
    refine ⟨vs[j-p*af.sz],?_,v3 _ (List.getElem_mem a0),v4 _ _ _ dB (List.getElem?_eq_getElem a0)⟩
    rw [List.append_assoc,List.getElem?_append_right (by omega),gZ,List.getElem?_append_left (by omega)]
    exact List.getElem?_eq_getElem a0
   ·rw [List.getElem?_append_right (by rw [List.length_append];omega),List.length_append,hA,abX,R] at dB
    rw [show p*af.sz+bq.length*af.sz+(j-(p*af.sz+bq.length*af.sz))=j by omega] at dB
    obtain ⟨v,ay,aD,bV⟩:=g4 j x dB
    refine ⟨v,?_,aD,bV⟩
    rw [List.getElem?_append_right (by rw [List.length_append];omega),List.length_append,gZ,List.getElem?_drop,Array.getElem?_toList]
    rw [show p*af.sz+vs.length+(j-(p*af.sz+vs.length))=j by omega];exact ay
end
section
variable {P:Program} {g:G} {s:S} {au:e9} {a:Act} {w:World} {aR:Nat} {bo:hk}
theorem Xz (h:cG g s au a w){x y:aw}{rD nl:Value}{t dw et:TypeId}(ap:nI P s.E s.aP aR .append [x,y] [t,dw] .dO=some bo)(cl:∀p∈bo.e7,p)
 (aa:Rel w (s.ok g au w) s.aY (s.a7 au) x rD) (aJ:Rel w (s.ok g au w) s.aY (s.a7 au) y nl) :
 ∃v bB,(Builtin.append_ #[t,dw] et #[rD,nl]).run P w = .ok v bB∧cG g (s.hS bo.fv) au a bB∧Rel bB ((s.hS bo.fv).ok g au bB) (s.hS bo.fv).aY ((s.hS bo.fv).a7 au) bo.val v:=by
 simp only [nI] at ap
 split at ap
 ·simp at ap
 ·rename_i e he
  have hu:=rU he
  split at ap
  ·rename_i i z ae ca
   split at ap
   ·simp at ap
   ·rename_i aO
    simp only [not_or,Decidable.not_not] at aO
    obtain ⟨nc,jv,yu⟩:=aO
    split at ap
    ·simp at ap
    ·rename_i bq b0 rl
     split at ap
     ·rename_i r k len
      split at ap
      ·simp at ap
      ·rename_i row dj
       split at ap
       ·simp at ap
       ·rename_i af bf
        split at ap
        ·rename_i vr
         obtain ⟨nK,eI⟩:=vr
         simp only [Option.some.injEq] at ap
         subst ap
         have ai:s.af r k=some af:=by unfold S.af;rw [dj];exact bf
         have ie:len+bq.length≤af.es.length:=cl _ (by simp)
         have A4:bq.length*i.bytes≤140737488355328:=cl _ (by simp)
         obtain ⟨eh,vs,kr,lu,hA,hlen,v1,v3,v4⟩:=Nw (et:=et) h hu ae ca nc jv rl (fun p ad=>cl p (by simp [ad])) aJ
         rw [← eI] at v1
         have PQ : ∀x∈bq,x.length=af.sz:=fun x aa=>by rw [hlen x aa,eI]
         have hf:af.es.take len++bq=(af.es.take len++bq++af.es.drop (len+bq.length)).take (len+bq.length) :=
          (List.take_left' (by rw [List.length_append,List.length_take];omega)).symm
         rcases aa.uT (h2 ai) with ⟨ad,-,rfl,rfl⟩|⟨b,M,h7,kh,ad,rfl,rp,sZ,di,mO⟩
         ·have e4:=h.obj r k af ai
          rw [ad] at e4
          simp only [iT] at e4
          rw [e4] at ie
          have h0:bq.length=0:=by simp at ie;exact List.length_eq_zero_iff.2 ie
          have vt:bq=[]:=List.length_eq_zero_iff.1 h0
          subst vt
          have k2:row.set k {af with es:=af.es.take 0++[]}=row:=by
           have o:({af with es:=af.es.take 0++[]}:ab)=af:=by cases af;simp only [] at e4;subst e4;rfl
           rw [o]
           have R:row[k]? = some af:=by
            unfold de at bf
            simp only at bf
            split at bf
            ·rename_i bW dL
             split at bf
             ·simp at bf
             ·simp at bf;rw [← bf];exact dL
            ·simp at bf
           exact List.ext_getElem? fun j=>by
            rw [List.getElem?_set]
            split
            ·rename_i e;subst e
             have:=(List.getElem?_eq_some_iff.1 R).1
             rw [if_pos this,R]
            ·rfl
          refine ⟨_,w,hA.zero h0 none 0 0 (Nat.le_refl _),?_⟩
          have d7:s.setRow r row=s:=by
           have:(fun q=>if q=r then some row else s.aP q)=s.aP:=by
            funext q;split
            ·rename_i e;rw [e,dj]
            ·rfl
           show ({s with aP:=_}:S)=s
           rw [this]
          show cG g (s.setRow r (row.set k {af with es:=af.es.take 0++[]})) au a w∧Rel w ((s.setRow r (row.set k {af with es:=af.es.take 0++[]})).ok g au w) (s.setRow r (row.set k {af with es:=af.es.take 0++[]})).aY ((s.setRow r (row.set k {af with es:=af.es.take 0++[]})).a7 au) (.bm r k 0 0) (.slice none 0 0)
          rw [k2,d7]
          exact ⟨h,aa⟩
         ·obtain ⟨cc,mn,bp,cZ,pD,sd,oo,th⟩:=h.putAt dj ai nK ad PQ v1 v3 v4 ie (len+bq.length) hf
          have hle:af.es.length≤kh:=by
           rw [Nat.zero_add] at di
           rw [← di] at pD
           exact Nat.le_of_mul_le_mul_right pD (by omega)
          by_cases mN:kh=0
          ·have h0:bq.length=0:=by omega
           have nd:len=0:=by omega
           subst nd
           have vt:bq=[]:=List.length_eq_zero_iff.1 h0
           subst vt
           have JV:vs=[]:=List.length_eq_zero_iff.1 (by simpa using v1)
           subst JV
           have hw:w.setRow b (cc.toList.take (0*af.sz)++[]++cc.toList.drop (0*af.sz+0)).toArray=w:=by
            simp only [Nat.zero_mul,List.take_zero,List.nil_append,Nat.zero_add,List.drop_zero,Array.toArray_toList]
            exact setRow_self w b cc mn (0,0) bp
           simp only [List.length_nil] at oo th
           rw [hw] at oo th
           exact ⟨_,w,hA.zero h0 h7 0 kh (Nat.zero_le _),oo,th _ _ aa⟩
          ·have A5:h7=some ⟨b,0,none⟩:=by
            rcases mO with cr|cr
            ·exact absurd cr mN
            ·simpa using cr
           subst A5
           by_cases h0:bq.length=0
           ·have vt:bq=[]:=List.length_eq_zero_iff.1 h0
            subst vt
            have JV:vs=[]:=List.length_eq_zero_iff.1 (by simpa using v1)
            subst JV
            have hw:w.setRow b (cc.toList.take (len*af.sz)++[]++cc.toList.drop (len*af.sz+0)).toArray=w:=by
             simp only [List.append_nil,Nat.add_zero,List.take_append_drop,Array.toArray_toList]
             exact setRow_self w b cc mn (0,0) bp
            simp only [List.length_nil] at oo th
            rw [hw] at oo th
            exact ⟨_,w,hA.zero h0 _ len kh rp,oo,th _ _ aa⟩
           ·have iI:=hA.room (by omega) b len kh cc mn bp (by omega) (by rw [← eI];exact sd) A4
            rw [← eI] at iI
            refine ⟨_,_,iI,oo,?_⟩
            have Ay:(s.setRow r (row.set k {af with es:=af.es.take len++bq})).af r k=some {af with es:=af.es.take len++bq}:=by
             rw [ll,if_pos rfl,NV row k af _ bf (by simp [nK]),if_pos rfl]
            show Rel _ ((s.setRow r (row.set k {af with es:=af.es.take len++bq})).ok g au _) (s.setRow r (row.set k {af with es:=af.es.take len++bq})).aY ((s.setRow r (row.set k {af with es:=af.es.take len++bq})).a7 au) (.bm r k 0 (len+bq.length)) _
            refine .bm (sz:=af.sz) (dS:=b) (m:=M) (Dg Ay) ((h2 Ay).trans (by rw [ad])) (by omega) sZ ⟨di,.inr (by simp)⟩
        ·simp at ap
     ·simp at ap
  ·simp at ap
end
section
variable {P:Program} {g:G} {s:S} {au:e9} {a:Act} {w:World} {aR:Nat} {bo:hk}
theorem MD {s:S}{r k:Nat}{row:List ab}{af:ab}(ak:s.aP r=some row)(ai:de (some row) k=some af):s.setRow r (row.set k af)=s:=by
 have R:row[k]? = some af:=by
  unfold de at ai
  simp only at ai
  split at ai
  ·rename_i bW dL
   split at ai
   ·simp at ai
   ·simp at ai;rw [← ai];exact dL
  ·simp at ai
 have ah:row.set k af=row:=List.ext_getElem? fun j=>by
  rw [List.getElem?_set]
  split
  ·rename_i e;subst e
   have:=(List.getElem?_eq_some_iff.1 R).1
   rw [if_pos this,R]
  ·rfl
 rw [ah]
 have:(fun q=>if q=r then some row else s.aP q)=s.aP:=by
  funext q;split
  ·rename_i e;rw [e,ak]
  ·rfl
 show ({s with aP:=_}:S)=s
 rw [this]
theorem Vp {e:TypeId}{i:TypeInfo}{z:List aw}{eh:Value}(lu:eh.cells.size=i.size)(nc:z.length=i.size)(jv:i.size≠0)
 (tV : ∀(j:Nat) x,z[j]? = some x→ ∃v,eh.cells[j]? = some v∧jZ v=true∧ ∀(w:World) (ok:Nat→Prop) (aY:iX) (a7:iM),Rel w ok aY a7 x v) (m:Nat) :
 (Builtin.zeroCells eh.cells m).toList.length=m*i.size∧(∀u∈(Builtin.zeroCells eh.cells m).toList,u.oneCell'=true) ∧
   ∀(j:Nat) x u,(List.replicate m z).flatten[j]? = some x→(Builtin.zeroCells eh.cells m).toList[j]? = some u→ ∀(w:World) (ok:Nat→Prop) (aY:iX) (a7:iM),Rel w ok aY a7 x u:=by
 have lO : ∀(j:Nat) u,(Builtin.zeroCells eh.cells m).toList[j]? = some u→eh.cells[j % i.size]? = some u:=by
  intro j u nJ
  have az:=(List.getElem?_eq_some_iff.1 nJ).1
  rw [Array.length_toList,size_zeroCells,lu] at az
  have dn:j % i.size<eh.cells.size:=by rw [lu];exact Nat.mod_lt _ (by omega)
  rw [Array.getElem?_toList,Builtin.zeroCells,Array.getElem?_map,lu,Array.getElem?_range] at nJ
  rw [if_pos az] at nJ
  simp only [Option.map_some,Option.some.injEq] at nJ
  rw [← nJ,Array.getElem?_eq_getElem dn,getElem!_pos eh.cells _ dn]
 refine ⟨?_,?_,?_⟩
 ·rw [Array.length_toList,size_zeroCells,lu]
 ·intro u rr
  obtain ⟨j,az⟩:=List.getElem?_of_mem rr
  have o:=lO j u az
  have dn:j % i.size<z.length:=by rw [nc];exact Nat.mod_lt _ (by omega)
  obtain ⟨v,v1,v2,-⟩:=tV _ _ (List.getElem?_eq_getElem dn)
  rw [o] at v1
  obtain rfl:=Option.some.inj v1
  exact v2
 ·intro j x u aa nJ
  rw [pc (sz:=i.size) (by omega) _ (fun ev lN=>by rw [List.mem_replicate] at lN;rw [lN.2,nc])] at aa
  have o:=lO j u nJ
  cases a5:(List.replicate m z)[j / i.size]? with
  | none=>rw [a5] at aa;simp at aa
  | some ev =>
   have:=List.mem_of_getElem? a5
   rw [List.mem_replicate] at this
   rw [a5,this.2] at aa
   simp only [Option.bind_some] at aa
   obtain ⟨v,v1,-,v3⟩:=tV _ _ aa
   rw [o] at v1
   obtain rfl:=Option.some.inj v1
   exact v3
theorem WJ (h:cG g s au a w){r k len:Nat}{y:aw}{rD nl:Value}{t dw et:TypeId}{cz:fe}(ap:nI P s.E s.aP aR .copy [.bm r k 0 len,y] [t,dw] cz=some bo)(cl:∀p∈bo.e7,p)
 (aa:Rel w (s.ok g au w) s.aY (s.a7 au) (.bm r k 0 len) rD) (aJ:Rel w (s.ok g au w) s.aY (s.a7 au) y nl) :
 ∃n bB,(Builtin.copy_ #[t,dw] et #[rD,nl]).run P w = .ok (goInt n) bB∧cG g (s.hS bo.fv) au a bB∧bo.val = .n .i64 n:=by
 simp only [nI] at ap
 split at ap
 ·simp at ap
 ·rename_i e he
  have hu:=rU he
  split at ap
  ·simp at ap
  ·rename_i i ae
   split at ap
   ·simp at ap
   ·rename_i bq b0 rl
    split at ap
    ·simp at ap
    ·rename_i row dj
     split at ap
     ·simp at ap
     ·rename_i af bf
      split at ap
      ·rename_i vr
       obtain ⟨nK,eI,jv⟩:=vr
       simp only [Option.some.injEq] at ap
       subst ap
       have ai:s.af r k=some af:=by unfold S.af;rw [dj];exact bf
       have ie:bq.length≤len:=cl _ (by simp)
       have hle:len≤af.es.length:=cl _ (by simp)
       obtain ⟨A,c,rfl,hlen,JT⟩:=NY h rl (fun p ad=>cl p (by simp [ad])) aJ
       show ∃n bB,_∧cG g (s.setRow r (row.set k {af with es:=bq++af.es.drop bq.length})) au a bB∧_
       by_cases h0:bq.length=0
       ·have vt:bq=[]:=List.length_eq_zero_iff.1 h0
        subst vt
        refine ⟨0,w,?_,?_,rfl⟩
        ·rcases aa.uT (h2 ai) with ⟨-,-,rfl,rfl⟩|⟨b,M,h7,kh,-,rfl,-,-,-,-⟩
         ·cases A<;>simp [Builtin.copy_,run_underlying hu,sizeOf,typeInfo,ae,Builtin.lenOf,Builtin.firstCells,loadCells,loadCellsFrom]
         ·cases A<;>cases h7<;>simp [Builtin.copy_,run_underlying hu,sizeOf,typeInfo,ae,Builtin.lenOf,Builtin.firstCells,loadCells,loadCellsFrom,storeCells]
        ·rw [show ({af with es:=[]++af.es.drop ([]:List (List aw)).length}:ab)=af from rfl,MD dj bf];exact h
       ·obtain ⟨dS,off,rfl,ik⟩:=JT.resolve_left h0
        obtain ⟨vs,v1,v2,v3,v4⟩:=ik.nE
        rw [← eI] at v1
        rcases aa.uT (h2 ai) with ⟨-,-,rfl,-⟩|⟨b,M,h7,kh,ad,rfl,rp,sZ,di,mO⟩
        ·exact absurd (Nat.le_zero.1 ie) h0
        ·have A5:h7=some ⟨b,0,none⟩:=by
          rcases mO with cr|cr
          ·exact absurd (show bq.length=0 by omega) h0
          ·simpa using cr
         subst A5
         obtain ⟨cc,mn,bp,cZ,pD,sd,oo,-⟩:=h.putAt (p:=0) dj ai nK ad (fun x aa=>by rw [hlen x aa,eI]) v1 v3 v4 (by omega) af.es.length (f9:=bq++af.es.drop bq.length)
          (by rw [List.take_zero,List.nil_append,Nat.zero_add];exact (List.take_of_length_le (by simp;omega)).symm)
         simp only [Nat.zero_mul,Nat.zero_add,List.take_zero,List.nil_append] at sd oo
         have aS:=run_firstCells_some (P:=P) w i.size bq.length ⟨dS,off,none⟩ bq.length c vs (by rw [v1,eI]) v2
         have l9:=run_storeCells_at P b 0 mn vs 0 cc w bp (by simpa using sd) v3
         simp only [Nat.add_zero,List.take_zero,List.nil_append,Nat.zero_add] at l9
         refine ⟨bq.length,_,?_,oo,rfl⟩
         simp [Builtin.copy_,run_underlying hu,sizeOf,typeInfo,ae,Builtin.lenOf,Nat.min_eq_left ie,aS,l9]
      ·simp at ap
theorem VU (h:cG g s au a w){r k len:Nat}{rD:Value}{t et:TypeId}{cz:fe}(ap:nI P s.E s.aP aR .clear [.bm r k 0 len] [t] cz=some bo)(cl:∀p∈bo.e7,p)
 (aa:Rel w (s.ok g au w) s.aY (s.a7 au) (.bm r k 0 len) rD) :
 ∃bB,(Builtin.clear_ #[t] et #[rD]).run P w = .ok (.tuple #[]) bB∧cG g (s.hS bo.fv) au a bB∧bo.val = .dK []:=by
 simp only [nI] at ap
 split at ap
 ·simp at ap
 ·rename_i e he
  have hu:=rU he
  split at ap
  ·rename_i i z ae ca
   split at ap
   ·simp at ap
   ·rename_i row dj
    split at ap
    ·simp at ap
    ·rename_i af bf
     split at ap
     ·rename_i vr
      obtain ⟨nK,eI,nc,jv⟩:=vr
      simp only [Option.some.injEq] at ap
      subst ap
      have ai:s.af r k=some af:=by unfold S.af;rw [dj];exact bf
      have hle:af.es.length=len:=cl _ (by simp)
      show ∃bB,_∧cG g (s.setRow r (row.set k {af with es:=List.replicate len z})) au a bB∧_
      by_cases h0:len=0
      ·subst h0
       refine ⟨w,?_,?_,rfl⟩
       ·rcases aa.uT (h2 ai) with ⟨-,-,-,rfl⟩|⟨b,M,h7,kh,-,rfl,-,-,-,-⟩
        ·simp [Builtin.clear_,run_underlying hu]
        ·cases h7<;>simp [Builtin.clear_,run_underlying hu]
       ·rw [show ({af with es:=List.replicate 0 z}:ab)=af by rw [List.replicate_zero,← List.length_eq_zero_iff.1 hle],MD dj bf];exact h
      ·obtain ⟨fj,eh,jN,kr,sb,tV⟩:=zH ca
       rw [ae] at jN;simp at jN;subst jN
       have lu:eh.cells.size=i.size:=by rw [← nc,sb];simp
       rcases aa.uT (h2 ai) with ⟨-,-,rfl,-⟩|⟨b,M,h7,kh,ad,rfl,rp,sZ,di,mO⟩
       ·exact absurd rfl h0
       ·have A5:h7=some ⟨b,0,none⟩:=by
         rcases mO with cr|cr
         ·exact absurd (show len=0 by omega) h0
         ·simpa using cr
        subst A5
        obtain ⟨v1,v3,v4⟩:=Vp (e:=e) lu nc jv tV len
        rw [← eI] at v1
        obtain ⟨cc,mn,bp,cZ,pD,sd,oo,-⟩:=h.putAt (p:=0) (bq:=List.replicate len z) dj ai nK ad (fun x aa=>by rw [List.mem_replicate] at aa;rw [aa.2,nc,eI]) (by simpa using v1) v3 (fun j x u o R=>v4 j x u o R _ _ _ _)
         (by simp;omega) len (f9:=List.replicate len z)
         (by simp [hle])
        simp only [Nat.zero_mul,Nat.zero_add,List.take_zero,List.nil_append] at sd oo
        have l9:=run_storeCells_at P b 0 mn (Builtin.zeroCells eh.cells len).toList 0 cc w bp (by simpa using sd) v3
        simp only [Nat.add_zero,List.take_zero,List.nil_append,Nat.zero_add] at l9
        refine ⟨_,?_,oo,rfl⟩
        cases len with
        | zero=>exact absurd rfl h0
        | succ n=>simp [Builtin.clear_,run_underlying hu,zeroValue,typeInfo,ae,kr,l9]
     ·simp at ap
  ·simp at ap
end
section
variable {g:G} {s:S} {au:e9} {a:Act} {w:World}
def lH (row:List ab):List ab:=row.map fun I=>if I.ck = .live then {I with ck:= .iW} else I
theorem NZ (row:List ab)(k:Nat):de (some (lH row)) k=(de (some row) k).map fun I=>if I.ck = .live then {I with ck:= .iW} else I:=by
 simp only [de,lH,List.getElem?_map]
 cases row[k]? with
 | none=>rfl
 | some I =>
  obtain ⟨sz,es,ck⟩:=I
  cases ck<;>simp
theorem cG.freeze (h:cG g s au a w){r:Nat}{row:List ab}(ak:s.aP r=some row):cG g (s.setRow r (lH row)) au a w:=by
 have bf : ∀q k I,(s.setRow r (lH row)).af q k=some I→ ∃p,s.af q k=some p∧I.sz=p.sz∧I.es=p.es∧(I.ck = .live→p.ck = .live∧q≠r):=by
  intro q k I ai
  by_cases e:q=r
  ·subst e
   have:(s.setRow q (lH row)).aP q=some (lH row):=by simp [S.setRow]
   unfold S.af at ai
   rw [this,NZ] at ai
   rw [Option.map_eq_some_iff] at ai
   obtain ⟨p,ad,rfl⟩:=ai
   refine ⟨p,by unfold S.af;rw [ak];exact ad,?_⟩
   split<;>simp_all
  ·have:(s.setRow r (lH row)).aP q=s.aP q:=by simp [S.setRow,e]
   unfold S.af at ai
   rw [this] at ai
   exact ⟨I,ai,rfl,rfl,fun aS=>⟨aS,e⟩⟩
 have i9 : ∀q k,s.aY q k→(s.setRow r (lH row)).aY q k:=CR s ak (by simp [lH])
 have k5 : ∀q k,(s.setRow r (lH row)).a7 au q k=s.a7 au q k:=by
  intro q k
  by_cases e:q=r
  ·subst e
   simp only [S.a7,S.af]
   have:(s.setRow q (lH row)).aP q=some (lH row):=by simp [S.setRow]
   rw [this,NZ,ak]
   cases de (some row) k with
   | none=>rfl
   | some I=>simp only [Option.map_some,Option.some.injEq,Prod.mk.injEq,and_true];split<;>rfl
  ·have:(s.setRow r (lH row)).aP q=s.aP q:=by simp [S.setRow,e]
   simp [S.a7,S.af,this]
 have c2:Step g s au w (s.setRow r (lH row)) au w:=⟨i9,fun q k _=> .inl (k5 q k),fun b aS=>by
  obtain ⟨q,k,I,m,o,R,ah⟩:=aS
  obtain ⟨p,h6,jC,sc,BE⟩:=bf q k I o
  exact .inl ⟨q,k,p,m,h6,(BE R).1,ah⟩,fun _ _ _=>rfl,Nat.le_refl _⟩
 refine {toh3:=⟨?_,?_,?_,h.gO,h.mlt,h.m9,?_,h.low⟩,env:=fun t=>c2.rel (h.env t),defers:=h.defers,jw:=h.jw}
 ·intro q k I ai
  obtain ⟨p,h6,jC,sc,-⟩:=bf q k I ai
  have ad:=c2.obj (fun b m _=>rfl) (h.obj q k p h6)
  cases lz:au q k with
  | none=>rw [lz] at ad;simp only [iT] at ad ⊢;rw [sc];exact ad
  | some x =>
   obtain ⟨b,m⟩:=x
   rw [lz] at ad
   obtain ⟨c,et,ay,aD,bV,du⟩:=ad
   exact ⟨c,et,ay,aD,by rw [jC,sc];exact bV,by rw [sc];exact du⟩
 ·intro q k I g7 dD bW b m a3 o R ah aB
  obtain ⟨p,h6,-⟩:=bf q k I o
  obtain ⟨j8,aas,-⟩:=bf g7 dD bW R
  exact h.inj q k p g7 dD j8 b m a3 h6 aas ah aB
 ·intro q k I b m o R
  obtain ⟨p,h6,-⟩:=bf q k I o
  exact h.own q k p b m h6 R
 ·intro j k az
  obtain ⟨ay,aD⟩:=h.stay j k az
  exact ⟨i9 j k ay,by rw [k5];exact aD⟩
end
def x4 (P:Program)(t:TypeId):Bool :=
 match P.underlying t with
 | some (.pointer _)=>true
 | _=>false
def yB (P:Program)(E:Nat→aw)(aP:Nat→Option (List ab))(aR:Nat)(I:Oper)(cz:fe):Option hk :=
 match I.op with
 | .call {callee:= .builtin b,args,argTypes}=>match b with
  | .len=>eG P E aP aR I cz
  | b=>nI P E aP aR b (args.toList.map (ey E)) argTypes.toList cz
 | .binOp op t x y _=>match cz,op,ey E x,ey E y with
  | .dO,.eql,.isl _ es,.ex=>if (pX P t).isSome then some {val:= .b false,e7:=[es≠[]]} else none
  | .dO,.neq,.isl _ es,.ex=>if (pX P t).isSome then some {val:= .b true,e7:=[es≠[]]} else none
  | .dO,.eql,.fp _ none,.ic=>if x4 P t then some {val:= .b true} else none
  | .dO,.neq,.fp _ none,.ic=>if x4 P t then some {val:= .b false} else none
  | .dO,.eql,.fp _ (some _),.ic=>if x4 P t then some {val:= .b false} else none
  | .dO,.neq,.fp _ (some _),.ic=>if x4 P t then some {val:= .b true} else none
  | .dO,_,_,_=>none
  | _,_,_,_=>eG P E aP aR I cz
 | .nilCheck x=>match cz,ey E x with
  | .dO,.fp sz (some c)=>some {val:= .eB sz [c] 0 0}
  | .dO,_=>none
  | _,_=>eG P E aP aR I cz
 | _=>eG P E aP aR I cz
section
variable {P:Program} {g:G} {s:S} {au:e9} {a:Act} {w:World} {I:Oper} {cz:fe} {aR:Nat} {bo:hk}
theorem Dw {args:Array Operand}{E:Nat→aw}{x y:aw}(h:args.toList.map (ey E)=[x,y]): ∃p q,args = #[p,q]∧ey E p=x∧ey E q=y:=by
 obtain ⟨l⟩:=args
 match l,h with
 | [p,q],h=>simp at h;exact ⟨p,q,rfl,h.1,h.2⟩
theorem XA {args:Array Operand}{E:Nat→aw}{x:aw}(h:args.toList.map (ey E)=[x]): ∃p,args = #[p]∧ey E p=x:=by
 obtain ⟨l⟩:=args
 match l,h with
 | [p],h=>simp at h;exact ⟨p,rfl,h⟩
theorem C9 {t:TypeId}(h:x4 P t=true): ∃e,P.underlying t=some (.pointer e):=by
 unfold x4 at h
 split at h
 ·rename_i e he;exact ⟨e,he⟩
 ·simp at h
theorem VV (h:cG g s au a w)(eJ:s.aP aR=none)(ap:yB P s.E s.aP aR I cz=some bo)(cl:∀p∈bo.e7,p):Fin P g s a w I bo:=by
 unfold yB at ap
 split at ap
 ·rename_i b args mM ai
  split at ap
  ·exact C8 h eJ ap cl
  ·rename_i b aL
   unfold nI at ap
   split at ap
   ·rename_i x y t dw m KX hargs ob
    have vc:nI P s.E s.aP aR .append [x,y] [t,dw] (.bb m KX)=some bo:=ap
    obtain ⟨p,q,rfl,rfl,rfl⟩:=Dw hargs
    obtain ⟨l⟩:=mM
    simp only at ob
    subst ob
    obtain ⟨v,bB,bE,o,R,ah⟩:=Vo (et:=I.type) h eJ vc cl (h.eval p) (h.eval q)
    exact ⟨v,bB,bE,.inl (by simp [execOp,ai,resolve,invoke,builtin,o]),R,ah⟩
   ·rename_i x y t dw hargs ob
    have vc:nI P s.E s.aP aR .append [x,y] [t,dw] .dO=some bo:=ap
    obtain ⟨p,q,rfl,rfl,rfl⟩:=Dw hargs
    obtain ⟨l⟩:=mM
    simp only at ob
    subst ob
    obtain ⟨v,bB,o,R,ah⟩:=Xz (et:=I.type) h vc cl (h.eval p) (h.eval q)
    exact ⟨v,bB,au,.inl (by simp [execOp,ai,resolve,invoke,builtin,o]),R,ah⟩
   ·rename_i cz r k len y t dw hargs ob
    have vc:nI P s.E s.aP aR .copy [.bm r k 0 len,y] [t,dw] cz=some bo:=ap
    obtain ⟨p,q,rfl,ad,rfl⟩:=Dw hargs
    obtain ⟨l⟩:=mM
    simp only at ob
    subst ob
    have aa:=h.eval p
    rw [ad] at aa
    obtain ⟨n,bB,o,R,ah⟩:=WJ (et:=I.type) h vc cl aa (h.eval q)
    refine ⟨goInt n,bB,au,.inl (by simp [execOp,ai,resolve,invoke,builtin,o]),R,?_⟩
    rw [ah];exact .n _ _
   ·rename_i cz r k len t hargs ob
    have vc:nI P s.E s.aP aR .clear [.bm r k 0 len] [t] cz=some bo:=ap
    obtain ⟨p,rfl,ad⟩:=XA hargs
    obtain ⟨l⟩:=mM
    simp only at ob
    subst ob
    have aa:=h.eval p
    rw [ad] at aa
    obtain ⟨bB,o,R,ah⟩:=VU (et:=I.type) h vc cl aa
    refine ⟨.tuple #[],bB,au,.inl (by simp [execOp,ai,resolve,invoke,builtin,o]),R,?_⟩
    rw [ah];exact .dK [] rfl (fun j x u az=>by simp at az)
   ·rename_i k x dD y hargs
    split at ap
    ·rename_i aZ
     simp only [Option.some.injEq] at ap
     subst ap;subst aZ
     obtain ⟨p,q,rfl,ad,a5⟩:=Dw hargs
     have aa:=h.eval p
     have aJ:=h.eval q
     rw [ad] at aa;rw [a5] at aJ
     refine hP (v:= .int k (if y<x then y else x)) h ?_ rfl (.n _ _)
     simp [execOp,ai,resolve,invoke,builtin,Builtin.min_,aa.n3,aJ.n3,Builtin.min2]
    ·simp at ap
   ·simp at ap
 ·rename_i op t x y dw ai
  split at ap
  ·rename_i sz es aa aJ
   split at ap
   ·rename_i he
    obtain ⟨e,he⟩:=Option.isSome_iff_exists.1 he
    simp only [Option.some.injEq] at ap
    subst ap
    have o:=h.eval x
    have R:=h.eval y
    rw [aa] at o;rw [aJ] at R
    have cw:es≠[]:=cl _ (by simp)
    refine hP (v:= .bool false) h ?_ rfl (.b _)
    simp only [execOp,ai]
    rw [Sem.run_bind,(Ph (w:=w) (rU he) cw o R x y).1];rfl
   ·simp at ap
  ·rename_i sz es aa aJ
   split at ap
   ·rename_i he
    obtain ⟨e,he⟩:=Option.isSome_iff_exists.1 he
    simp only [Option.some.injEq] at ap
    subst ap
    have o:=h.eval x
    have R:=h.eval y
    rw [aa] at o;rw [aJ] at R
    have cw:es≠[]:=cl _ (by simp)
    refine hP (v:= .bool true) h ?_ rfl (.b _)
    simp only [execOp,ai]
    rw [Sem.run_bind,(Ph (w:=w) (rU he) cw o R x y).2];rfl
   ·simp at ap
  ·rename_i sz aa aJ
   split at ap
   ·rename_i cp
    obtain ⟨e,he⟩:=C9 cp
    simp only [Option.some.injEq] at ap
    subst ap
    have o:=h.eval x
    have R:=h.eval y
    rw [aa] at o;rw [aJ] at R
    have yC:Rel w (s.ok g au w) s.aY (s.a7 au) .ic (a.eval x):=by rw [o.NW];exact .ic
    refine hP (v:= .bool true) h ?_ rfl (.b _)
    simp only [execOp,ai]
    rw [Sem.run_bind,(xK (w:=w) (r:=true) (by simp [r4,he]) yC R x y).1];rfl
   ·simp at ap
  ·rename_i sz aa aJ
   split at ap
   ·rename_i cp
    obtain ⟨e,he⟩:=C9 cp
    simp only [Option.some.injEq] at ap
    subst ap
    have o:=h.eval x
    have R:=h.eval y
    rw [aa] at o;rw [aJ] at R
    have yC:Rel w (s.ok g au w) s.aY (s.a7 au) .ic (a.eval x):=by rw [o.NW];exact .ic
    refine hP (v:= .bool false) h ?_ rfl (.b _)
    simp only [execOp,ai]
    rw [Sem.run_bind,(xK (w:=w) (r:=true) (by simp [r4,he]) yC R x y).2];rfl
   ·simp at ap
  ·rename_i sz c aa aJ
   split at ap
   ·rename_i cp
    obtain ⟨e,he⟩:=C9 cp
    simp only [Option.some.injEq] at ap
    subst ap
    have o:=h.eval x
    have R:=h.eval y
    rw [aa] at o;rw [aJ] at R
    refine hP (v:= .bool false) h ?_ rfl (.b _)
    simp only [execOp,ai]
    rw [Sem.run_bind,(xK (w:=w) (r:=false) (by simp [r4,he]) o.Iz R x y).1];rfl
   ·simp at ap
  ·rename_i sz c aa aJ
   split at ap
   ·rename_i cp
    obtain ⟨e,he⟩:=C9 cp
    simp only [Option.some.injEq] at ap
    subst ap
    have o:=h.eval x
    have R:=h.eval y
    rw [aa] at o;rw [aJ] at R
    refine hP (v:= .bool true) h ?_ rfl (.b _)
    simp only [execOp,ai]
    rw [Sem.run_bind,(xK (w:=w) (r:=false) (by simp [r4,he]) o.Iz R x y).2];rfl
   ·simp at ap
  ·simp at ap
  ·exact C8 h eJ ap cl
 ·rename_i x ai
  split at ap
  ·rename_i sz c aa
   simp only [Option.some.injEq] at ap
   subst ap
   have o:=h.eval x
   rw [aa] at o
   have R:=o.Iz
   obtain ⟨dS,off,aL,hval,ik⟩:=R.xR
   refine hP (v:=a.eval x) h ?_ rfl R
   rw [hval]
   simp only [execOp,ai,hval]
   rfl
  ·simp at ap
  ·exact C8 h eJ ap cl
 ·exact C8 h eJ ap cl
end
end Go.VL
namespace Go.VL
set_option linter.unusedVariables false
set_option linter.unusedSimpArgs false
open Go
theorem sm {es:List (List aw)}{j:Nat}{x:aw}(h:es.flatten[j]? = some x): ∃e∈es,x∈e:=by
 have:=List.mem_of_getElem? h
 rw [List.mem_flatten] at this
 obtain ⟨e,he,aa⟩:=this
 exact ⟨e,he,aa⟩
theorem Rel.pure {w:World}{ok kE:Nat→Prop}{aY mK:iX}{a7 l8:iM}{x:aw}{v:Value}(h:Rel w ok aY a7 x v)(ad:Pure x)(mL:∀b,ok b→kE b):Rel w kE mK l8 x v:=by
 induction h with
 | dead v=>exact .dead v
 | b x=>exact .b x
 | n k x=>exact .n k x
 | s x=>exact .s x
 | ic=>exact .ic
 | ex=>exact .ex
 | iC a c=>exact .iC a c
 | pR=>cases ad
 | ref=>cases ad
 | m4=>cases ad
 | nr=>cases ad
 | bm=>cases ad
 | mF=>cases ad
 | nC=>cases ad
 | j2 sz a c h=>exact .j2 sz a c h
 | isl cs aL lP aS aO hw gZ ak ih =>
  cases ad with
  | isl h=>exact .isl cs (mL _ aL) lP aS aO hw gZ fun j x aa=>ih j x aa (by obtain ⟨e,he,qP⟩:=sm aa;exact h e he x qP)
 | eB cs aL lP aS hw gZ ak ih =>
  cases ad with
  | eB h=>exact .eB cs (mL _ aL) lP aS hw gZ fun j x aa=>ih j x aa (by obtain ⟨e,he,qP⟩:=sm aa;exact h e he x qP)
 | pk sz=>exact .pk sz
 | oT h ih =>
  cases ad with
  | oT ad=>exact .oT (ih (.eB fun e he x aa=>by rw [List.mem_singleton] at he;subst he;exact ad x aa))
 | agg vs aS gZ ak ih =>
  cases ad with
  | agg h=>exact .agg vs aS gZ fun j x v aa a0=>ih j x v aa a0 (h x (List.mem_of_getElem? aa))
 | dK vs aS ak ih =>
  cases ad with
  | dK h=>exact .dK vs aS fun j x v aa a0=>ih j x v aa a0 (h x (List.mem_of_getElem? aa))
 | fn vs aS ak ih =>
  cases ad with
  | fn h=>exact .fn vs aS fun j x v aa a0=>ih j x v aa a0 (h x (List.mem_of_getElem? aa))
abbrev gq:=Nat→Nat→Option (Nat×Nat)
structure Down (q:aw→Prop):Prop where
 agg : ∀c x,q (.agg c)→x∈c→q x
 dK : ∀c x,q (.dK c)→x∈c→q x
 fn : ∀f c x,q (.fn f c)→x∈c→q x
inductive hp (s:S) (aM:gq) (bM:fU→Bool) (q:aw→Prop):aw→aw→Prop
 | dead (x:aw):hp s aM bM q x .dead
 | pure {x:aw} (h:Pure x) (a5:q x):hp s aM bM q x x
 | ex (sz:Nat):hp s aM bM q .ex (.isl sz [])
 | iC (sz:Nat):hp s aM bM q .iC (.isl sz [])
 | DY (sz:Nat):hp s aM bM q .ic (.fp sz none)
 | fp {sz:Nat} {x:aw} {c:List aw} (h:hp s aM bM q x (.eB sz [c] 0 0)):hp s aM bM q x (.fp sz (some c))
 | ref {r k j fj:Nat} (i off:Nat) (h:aM j fj=some (r,k)) (hu:s.aY r k):hp s aM bM q (.ref r k i off) (.ref j fj i off)
 | bm {r k j fj:Nat} (bO len:Nat) (h:aM j fj=some (r,k)) (hu:s.aY r k):hp s aM bM q (.bm r k bO len) (.bm j fj bO len)
 | mF (r c sz:Nat):hp s aM bM q (.iD r c sz none) (.isl sz [])
 | nC {r c sz k n:Nat} {cD:aw} (h:hp s aM bM q (.bm r (k+c) 0 n) cD):hp s aM bM q (.iD r c sz (some (k,n))) cD
 | iD {r eu c dR sz:Nat} (h:Option (Nat×Nat)) (hm : ∀k,aM eu (k+dR)=some (r,k+c)):hp s aM bM q (.iD r c sz h) (.iD eu dR sz h)
 | eB {r k:Nat} {I:ab} {f9:List (List aw)} (i off:Nat) (ai:s.af r k=some I) (bw:bM I.ck=true) (ak:(∀j i,aM j i≠some (r,k))) (cw:I.es≠[]) (ad:hs f9) (hle : ∀e∈f9,e.length=I.sz) (aS:f9.length=I.es.length)
  (h : ∀(j:Nat) x cD,I.es.flatten[j]? = some x→f9.flatten[j]? = some cD→hp s aM bM q x cD):hp s aM bM q (.ref r k i off) (.eB I.sz f9 i off)
 | isl {r k bO len:Nat} {I:ab} {f9:List (List aw)} (ai:s.af r k=some I) (bw:bM I.ck=true) (ak:(∀j i,aM j i≠some (r,k))) (ie:bO+len≤I.es.length) (ad:hs f9) (hle : ∀e∈f9,e.length=I.sz) (aS:f9.length=len)
  (h : ∀(j:Nat) x cD,((I.es.drop bO).take len).flatten[j]? = some x→f9.flatten[j]? = some cD→hp s aM bM q x cD):hp s aM bM q (.bm r k bO len) (.isl I.sz f9)
 | agg {c dR:List aw} (aS:dR.length=c.length) (h : ∀(j:Nat) x cD,c[j]? = some x→dR[j]? = some cD→hp s aM bM q x cD):hp s aM bM q (.agg c) (.agg dR)
 | dK {c dR:List aw} (aS:dR.length=c.length) (h : ∀(j:Nat) x cD,c[j]? = some x→dR[j]? = some cD→hp s aM bM q x cD):hp s aM bM q (.dK c) (.dK dR)
 | fn {f:Nat} {c dR:List aw} (aS:dR.length=c.length) (h : ∀(j:Nat) x cD,c[j]? = some x→dR[j]? = some cD→hp s aM bM q x cD):hp s aM bM q (.fn f c) (.fn f dR)
theorem rP {sz:Nat}: ∀(es:List (List aw)),(∀e∈es,e.length=sz)→es.flatten.length=es.length*sz
 | [],_=>by simp
 | e::es,h=>by
  rw [List.flatten_cons,List.length_append,rP es fun x aa=>h x (by simp [aa]),h e (by simp),List.length_cons,Nat.add_mul];omega
theorem fo {α:Type}{l:List α}{j:Nat}{x:α}(h:l[j]? = some x):j<l.length:=by
 rcases Nat.lt_or_ge j l.length with cr|cr
 ·exact cr
 ·rw [List.getElem?_eq_none cr] at h;simp at h
theorem hp.rel {g:G}{s:S}{au:e9}{w:World}{aM:gq}{bM:fU→Bool}{q:aw→Prop}(di:h3 g s au w){kE:Nat→Prop}{mK:iX}{l8:iM}
 (H1 : ∀x v,q x→Pure x→Rel w (s.ok g au w) s.aY (s.a7 au) x v→Rel w kE mK l8 x v)
 (E1 : ∀r k I b m,s.af r k=some I→bM I.ck=true→(∀j i,aM j i≠some (r,k))→au r k=some (b,m)→kE b)
 (BF : ∀j i r k,aM j i=some (r,k)→s.aY r k→mK j i∧(l8 j i=s.a7 au r k∨l8 j i=none)) {x cD:aw} (bZ:hp s aM bM q x cD) :
 ∀ {v:Value},Rel w (s.ok g au w) s.aY (s.a7 au) x v→Rel w kE mK l8 cD v:=by
 induction bZ with
 | dead x=>intro v _;exact .dead v
 | pure ad a5=>intro v ak;exact H1 _ v a5 ad ak
 | ex sz=>intro v ak;rw [ak.pP];exact .j2 sz none 0 (fun _=>rfl)
 | iC sz=>intro v ak;obtain ⟨a,c,rfl⟩:=ak.Du;exact .j2 sz (some a) c (fun h=>by simp at h)
 | DY sz=>intro v ak;rw [ak.uS];exact .pk sz
 | fp h ih=>intro v ak;exact .oT (ih ak)
 | @ref r k j fj i off az hu =>
  intro v ak
  obtain ⟨o,R⟩:=BF j fj r k az hu
  cases ak with
  | pR a od a4 =>
   refine .pR a o fun sz p=> ?_
   rcases R with e|e<;>rw [e]
   ·exact a4 sz p
   ·simp
  | ref od cp =>
   rcases R with e|e
   ·exact .ref o (e.trans cp)
   ·exact .pR _ o fun sz p=>by rw [e];simp
 | @bm r k j fj bO len az hu =>
  intro v ak
  obtain ⟨o,R⟩:=BF j fj r k az hu
  cases ak with
  | m4 a l c od a4 =>
   refine .m4 a l c o ?_
   rcases R with e|e<;>rw [e]
   exact a4
  | nr od cp =>
   rcases R with e|e
   ·exact .nr o (e.trans cp)
   ·exact .m4 _ _ _ o e
  | bm od cp aS aO hm =>
   rcases R with e|e
   ·exact .bm o (e.trans cp) aS aO hm
   ·exact .m4 _ _ _ o e
 | mF r c sz =>
  intro v ak
  cases ak with
  | mF h0 =>
   rcases h0.sB with ⟨-,a,c,rfl,bw⟩|⟨dS,off,c,-,rfl,-⟩
   ·exact .j2 sz a c bw
   ·exact .j2 sz _ c (fun h=>by simp at h)
 | nC h ih =>
  intro v ak
  cases ak with
  | nC h0=>exact ih h0
 | @iD r eu c dR sz h hm =>
  intro v ak
  cases ak with
  | mF h0 =>
   rcases h0.sB with ⟨-,a,c,rfl,bw⟩|⟨dS,off,c,-,rfl,-⟩
   ·exact .mF (.j2 sz a c bw)
   ·exact .mF (.j2 sz _ c (fun h=>by simp at h))
  | @nC _ _ _ k n _ h0 =>
   refine .nC ?_
   cases h0 with
   | m4 a l bp od a4 =>
    obtain ⟨o,R⟩:=BF _ _ _ _ (hm k) od
    refine .m4 a l bp o ?_
    rcases R with e|e<;>rw [e]
    exact a4
   | nr od cp =>
    obtain ⟨o,R⟩:=BF _ _ _ _ (hm k) od
    rcases R with e|e
    ·exact .nr o (e.trans cp)
    ·exact .m4 _ _ _ o e
   | bm od cp aS aO mO =>
    obtain ⟨o,R⟩:=BF _ _ _ _ (hm k) od
    rcases R with e|e
    ·exact .bm o (e.trans cp) aS aO mO
    ·exact .m4 _ _ _ o e
 | @eB r k I f9 i off ai bw ak cw JW hle aS h ih =>
  intro v a0
  have e4:=di.obj r k I ai
  rcases a0.uZ (h2 ai) with h0|⟨b,m,ad,hval⟩
  ·rw [h0] at e4;exact absurd e4 cw
  ·rw [ad] at e4
   have ik:=e4.rd
   rw [hval]
   have jx:f9.flatten.length=I.es.flatten.length:=by rw [rP f9 hle,rP I.es ik.1,aS]
   have vg:om w kE mK l8 b 0 I.sz f9:=by
    refine ⟨hle,fun j cD dB=> ?_⟩
    have dn:j<I.es.flatten.length:=by rw [← jx];exact fo dB
    have aa:I.es.flatten[j]? = some I.es.flatten[j]:=List.getElem?_eq_getElem dn
    obtain ⟨u,ay,aD,bV⟩:=ik.2 j _ aa
    exact ⟨u,ay,aD,ih j _ cD aa dB bV⟩
   have:=vg.eB (i:=i) (off:=off) ⟨E1 r k I b m ai bw ak ad,JW⟩
   rw [Nat.zero_add] at this
   exact this
 | @isl r k bO len I f9 ai bw ak ie JW hle aS h ih =>
  intro v a0
  have e4:=di.obj r k I ai
  rcases a0.z0 (h2 ai) with ⟨ad,rfl,rfl,hval⟩|⟨b,m,A,c,ad,hval,rp,sZ,hm⟩
  ·have:f9=[]:=List.length_eq_zero_iff.1 aS
   subst this
   rw [hval];exact .j2 _ none 0 (fun _=>rfl)
  ·rw [ad] at e4
   rw [hval]
   rcases Nat.eq_zero_or_pos len with h0|jv
   ·subst h0
    have:f9=[]:=List.length_eq_zero_iff.1 aS
    subst this
    exact .j2 _ A c (fun a4=>by rcases hm with o|⟨o,-⟩<;>simp_all)
   ·rcases hm with hm|⟨hA,hm⟩
    ·omega
    ·subst hA
     have ik:=CS e4.rd bO len (by omega)
     rw [Nat.zero_add] at ik
     have jx:f9.flatten.length=((I.es.drop bO).take len).flatten.length:=by
      rw [rP f9 hle,rP _ ik.1,aS,List.length_take,List.length_drop,Nat.min_eq_left (by omega)]
     have vg:om w kE mK l8 b (bO*I.sz) I.sz f9:=by
      refine ⟨hle,fun j cD dB=> ?_⟩
      have dn:j<((I.es.drop bO).take len).flatten.length:=by rw [← jx];exact fo dB
      have aa:=List.getElem?_eq_getElem dn
      obtain ⟨u,ay,aD,bV⟩:=ik.2 j _ aa
      exact ⟨u,ay,aD,ih j _ cD aa dB bV⟩
     have:=vg.isl (c:=c) ⟨E1 r k I b m ai bw ak ad,JW⟩ (by omega)
     rw [aS] at this
     exact this
 | @agg c dR aS h ih =>
  intro v a0
  obtain ⟨vs,rfl,o,R,ah⟩:=a0.xP
  refine .agg vs (by omega) R fun j cD u dB hu=> ?_
  have dn:j<c.length:=by have:=fo dB;omega
  exact ih j _ cD (List.getElem?_eq_getElem dn) dB (ah j _ u (List.getElem?_eq_getElem dn) hu)
 | @dK c dR aS h ih =>
  intro v a0
  obtain ⟨vs,rfl,o,ah⟩:=a0.xQ
  refine .dK vs (by omega) fun j cD u dB hu=> ?_
  have dn:j<c.length:=by have:=fo dB;omega
  exact ih j _ cD (List.getElem?_eq_getElem dn) dB (ah j _ u (List.getElem?_eq_getElem dn) hu)
 | @fn f c dR aS h ih =>
  intro v a0
  obtain ⟨vs,rfl,o,ah⟩:=a0.DK
  refine .fn vs (by omega) fun j cD u dB hu=> ?_
  have dn:j<c.length:=by have:=fo dB;omega
  exact ih j _ cD (List.getElem?_eq_getElem dn) dB (ah j _ u (List.getElem?_eq_getElem dn) hu)
structure oe (s:S) (aM:gq) (bM:fU→Bool) (q:aw→Prop) (I bW:ab):Prop where
 sz:bW.sz=I.sz
 ck:bW.ck=I.ck∨(bW.ck = .iW∧I.ck = .live)∨bW.ck = .gone
 len:bW.es.length=I.es.length
 each : ∀e∈bW.es,e.length=I.sz
 at_ : ∀(j:Nat) x cD,I.es.flatten[j]? = some x→bW.es.flatten[j]? = some cD→hp s aM bM q x cD
structure p8 (s:S) (aM:gq) (bM:fU→Bool) (q:aw→Prop) (g9:Nat→Option (List ab)):Prop where
 inj : ∀j i hK fj p,aM j i=some p→aM hK fj=some p→j=hK∧i=fj
 at_ : ∀j i bW,de (g9 j) i=some bW→ ∃r k I,aM j i=some (r,k)∧s.af r k=some I∧oe s aM bM q I bW
 aY : ∀j i r k,aM j i=some (r,k)→s.aY r k→i<((g9 j).getD []).length
def jy (au:e9)(aM:gq):e9:=fun j i=>match aM j i with
 | some (r,k)=>au r k
 | none=>none
theorem x5 {au:e9}{aM:gq}{j i r k:Nat}(h:aM j i=some (r,k)):jy au aM j i=au r k:=by simp [jy,h]
def lQ (_:aw):Prop:=True
theorem Y6:Down lQ:=⟨fun _ _ _ _=>trivial,fun _ _ _ _=>trivial,fun _ _ _ _ _=>trivial⟩
section
variable {g:G} {s:S} {au:e9} {w:World} {aM:gq} {bM:fU→Bool} {q:aw→Prop} {bI:S}
theorem p8.af (h:p8 s aM bM q bI.aP){j i:Nat}{bW:ab}(ai:bI.af j i=some bW): ∃r k I,aM j i=some (r,k)∧s.af r k=some I∧oe s aM bM q I bW:=h.at_ j i bW ai
theorem OK {I bW:ab}(h:oe s aM bM q I bW)(aS:bW.ck = .live):I.ck = .live:=by
 rcases h.ck with e|⟨e,-⟩|e
 ·exact e.symm.trans aS
 ·rw [e] at aS;simp at aS
 ·rw [e] at aS;simp at aS
theorem p8.live (h:p8 s aM bM q bI.aP)(b:Nat)(aS:bI.lG (jy au aM) b): ∃r k I m,s.af r k=some I∧I.ck = .live∧au r k=some (b,m)∧ ∃j i,aM j i=some (r,k):=by
 obtain ⟨j,i,bW,m,o,R,ah⟩:=aS
 obtain ⟨r,k,I,ay,aD,bV⟩:=h.af o
 rw [x5 ay] at ah
 exact ⟨r,k,I,m,aD,OK bV R,ah,j,i,ay⟩
theorem p8.Ew (h:p8 s aM bM q bI.aP){j i r k:Nat}(az:aM j i=some (r,k)):bI.a7 (jy au aM) j i=s.a7 au r k∨bI.a7 (jy au aM) j i=none:=by
 cases ai:bI.af j i with
 | none=>right;simp [S.a7,ai]
 | some bW =>
  obtain ⟨eu,dD,I,ay,aD,bV⟩:=h.af ai
  rw [az] at ay;simp only [Option.some.injEq,Prod.mk.injEq] at ay
  obtain ⟨rfl,rfl⟩:=ay
  left
  rw [h2 ai,h2 aD,bV.sz,x5 az]
theorem h3.KY (di:h3 g s au w)(h:p8 s aM bM q bI.aP){fJ:G}(aZ:Aw fJ w)(Ai:∀j k,fJ.o0 j k→bI.aY j k∧(bI.a7 (jy au aM) j k=fJ.rm j k∨bI.a7 (jy au aM) j k=none))(Jw:∀j k,fJ.o0 j k→j<fJ.m)
 (ZI : ∀b,fJ.pB b→b<fJ.mu.heap.size) (halt : ∀b,fJ.A b→b<fJ.mu.heap.size)
 (Jx : ∀r k I b m,(∃j i,aM j i=some (r,k))→s.af r k=some I→au r k=some (b,m)→fJ.mu.heap.size≤b∨fJ.pB b)
 (H1 : ∀b,s.ok g au w b→bI.ok fJ (jy au aM) w b)
 (E1 : ∀r k I b m,s.af r k=some I→bM I.ck=true→(∀j i,aM j i≠some (r,k))→au r k=some (b,m)→bI.ok fJ (jy au aM) w b) :
 h3 fJ bI (jy au aM) w∧ ∀ {x cD:aw} {v:Value},hp s aM bM q x cD→Rel w (s.ok g au w) s.aY (s.a7 au) x v→Rel w (bI.ok fJ (jy au aM) w) bI.aY (bI.a7 (jy au aM)) cD v:=by
 have e4 : ∀ {x cD:aw} {v:Value},hp s aM bM q x cD→Rel w (s.ok g au w) s.aY (s.a7 au) x v→Rel w (bI.ok fJ (jy au aM) w) bI.aY (bI.a7 (jy au aM)) cD v :=
  fun bZ ak=>bZ.rel di (fun x v _ ad ak=>ak.pure ad H1) E1 (fun j i r k az hu=>⟨h.aY j i r k az hu,h.Ew az⟩) ak
 refine ⟨⟨?_,?_,?_,aZ,ZI,halt,Ai,Jw⟩,e4⟩
 ·intro j k bW dL
  obtain ⟨r,dD,I,ay,aD,bV⟩:=h.af dL
  have bf:=di.obj r dD I aD
  rw [x5 ay]
  cases ad:au r dD with
  | none =>
   rw [ad] at bf
   simp only [iT] at bf ⊢
   apply List.length_eq_zero_iff.1
   rw [bV.len,bf];rfl
  | some q =>
   obtain ⟨b,m⟩:=q
   rw [ad] at bf
   obtain ⟨c,et,o,R,ah,aB⟩:=bf
   have jx:bW.es.flatten.length=I.es.flatten.length:=by rw [rP _ bV.each,rP _ ah,bV.len]
   refine ⟨c,et,o,R,by rw [bV.sz];exact bV.each,fun i cD dB=> ?_⟩
   have dn:i<I.es.flatten.length:=by rw [← jx];exact fo dB
   have aa:=List.getElem?_eq_getElem dn
   obtain ⟨u,f1,f2,f3⟩:=aB i _ aa
   exact ⟨u,f1,f2,e4 (bV.at_ i _ cD aa dB) f3⟩
 ·intro j k I hK dD bW b m a3 o R ah aB
  obtain ⟨r,ka,p,ay,aD,-⟩:=h.af o
  obtain ⟨eu,aat,j8,mR,ps,-⟩:=h.af R
  rw [x5 ay] at ah
  rw [x5 mR] at aB
  obtain ⟨rfl,rfl⟩:=di.inj r ka p eu aat j8 b m a3 aD ps ah aB
  exact h.inj _ _ _ _ _ ay mR
 ·intro j k I b m o R
  obtain ⟨r,ka,p,ay,aD,-⟩:=h.af o
  rw [x5 ay] at R
  exact Jx r ka p b m ⟨j,k,ay⟩ aD R
theorem cG.OL {a:Act}(h:cG g s au a w)(cU:p8 s aM (fun _=>true) q bI.aP)(d7:∀t,hp s aM (fun _=>true) q (s.E t) (bI.E t))(AJ:∀j k,g.o0 j k→aM j k=some (j,k)):cG g bI (jy au aM) a w:=by
 have gJ : ∀b,bI.lG (jy au aM) b→s.lG au b:=fun b aS=>by
  obtain ⟨r,k,I,m,o,R,ah,-⟩:=cU.live b aS
  exact ⟨r,k,I,m,o,R,ah⟩
 have Ai : ∀j k,g.o0 j k→bI.aY j k∧(bI.a7 (jy au aM) j k=g.rm j k∨bI.a7 (jy au aM) j k=none):=by
  intro j k az
  obtain ⟨ay,aD⟩:=h.stay j k az
  refine ⟨cU.aY j k j k (AJ j k az) ay,?_⟩
  rcases cU.Ew (au:=au) (AJ j k az) with e|e
  ·rw [e];exact aD
  ·exact .inr e
 obtain ⟨o,R⟩:=h.toh3.KY cU h.gO Ai h.low h.mlt h.m9 (fun r k I b m _ ai ad=>h.own r k I b m ai ad)
  (fun b aL=>⟨aL.1,aL.2.1,fun aS=>aL.2.2 (gJ b aS)⟩)
  (fun r k I b m ai _ ak ad=>by
    have bf:=h.obj r k I ai
    rw [ad] at bf
    obtain ⟨c,et,ay,-⟩:=bf
    refine ⟨(Array.getElem?_eq_some_iff.1 ay).1,?_,fun aS=> ?_⟩
    ·rcases h.own r k I b m ai ad with e|e
     ·exact .inr (.inl e)
     ·exact .inr (.inr e)
    ·obtain ⟨eu,dD,bW,a3,f1,f2,f3,⟨KZ,qj,f4⟩⟩:=cU.live b aS
     obtain ⟨rfl,rfl⟩:=h.inj r k I eu dD bW b m a3 ai f1 ad f3
     exact ak KZ qj f4)
 exact {toh3:=o,env:=fun t=>R (d7 t) (h.env t),defers:=h.defers,jw:=h.jw}
end
end Go.VL
namespace Go.VL
set_option linter.unusedVariables false
set_option linter.unusedSimpArgs false
open Go
def eO (T:List (List ab)):S:={E:=fun _=> .dead,aP:=fun r=>T[r]?}
def Y7 (P:Program)(f:FuncId)(args:List aw)(T:List (List ab))(r:aw)(je:List (List ab)):Prop :=
 ∀(g:G) (au:e9) (w:World) (vs:Array Value),g.mu=w→g.m=T.length→g.o0=(eO T).aY→g.rm=(eO T).a7 au→h3 g (eO T) au w→vs.size=args.length →
  (∀(j:Nat) x v,args[j]? = some x→vs[j]? = some v→Rel w ((eO T).ok g au w) (eO T).aY ((eO T).a7 au) x v) →
  Calls P f vs w fun e bB=> ∃v bE,e = .returned v∧h3 g (eO je) bE bB∧Rel bB ((eO je).ok g bE bB) (eO je).aY ((eO je).a7 bE) r v
inductive cn:aw→Prop
 | dead:cn .dead
 | b (x:Bool):cn (.b x)
 | n (k:IntKind) (x:Int):cn (.n k x)
 | s (x:ByteArray):cn (.s x)
 | ic:cn .ic
 | ex:cn .ex
 | iC:cn .iC
 | j2 (sz:Nat):cn (.isl sz [])
 | ref (r k i off:Nat):cn (.ref r k i off)
 | bm (r k bO len:Nat):cn (.bm r k bO len)
 | iD (r c sz:Nat) (h:Option (Nat×Nat)):cn (.iD r c sz h)
 | agg {c:List aw} (h : ∀x∈c,cn x):cn (.agg c)
 | dK {c:List aw} (h : ∀x∈c,cn x):cn (.dK c)
theorem Y8:Down cn:=⟨fun _ _ h aa=>by cases h with|agg h=>exact h _ aa,fun _ _ h aa=>by cases h with|dK h=>exact h _ aa,fun _ _ _ h=>by cases h⟩
theorem Rel.dt {w bB:World}{ok kE:Nat→Prop}{aY mK:iX}{a7 l8:iM}{x:aw}(bZ:cn x): ∀ {v:Value},Pure x→Rel w ok aY a7 x v→Rel bB kE mK l8 x v:=by
 induction bZ with
 | dead=>intro v _ h;exact .dead v
 | b x=>intro v _ h;rw [h.tG];exact .b x
 | n k x=>intro v _ h;rw [h.n3];exact .n k x
 | s x=>intro v _ h;rw [h.yd];exact .s x
 | ic=>intro v _ h;rw [h.uS];exact .ic
 | ex=>intro v _ h;rw [h.pP];exact .ex
 | iC=>intro v _ h;obtain ⟨a,c,rfl⟩:=h.Du;exact .iC a c
 | j2 sz =>
  intro v _ h
  rcases h.sB with ⟨-,a,c,rfl,bw⟩|⟨dS,off,c,-,rfl,-⟩
  ·exact .j2 sz a c bw
  ·exact .j2 sz _ c (fun h=>by simp at h)
 | ref=>intro v ad;cases ad
 | bm=>intro v ad;cases ad
 | iD=>intro v ad;cases ad
 | @agg c aO ih =>
  intro v ad h
  obtain ⟨vs,rfl,o,R,ah⟩:=h.xP
  cases ad with
  | agg ad=>exact .agg vs o R fun j x u aa hu=>ih x (List.mem_of_getElem? aa) (ad x (List.mem_of_getElem? aa)) (ah j x u aa hu)
 | @dK c aO ih =>
  intro v ad h
  obtain ⟨vs,rfl,o,ah⟩:=h.xQ
  cases ad with
  | dK ad=>exact .dK vs o fun j x u aa hu=>ih x (List.mem_of_getElem? aa) (ad x (List.mem_of_getElem? aa)) (ah j x u aa hu)
section
variable {P:Program} {g:G} {s:S} {au:e9} {a:Act} {w:World}
theorem z9 (h:h3 g s au w){r k b m:Nat}{I:ab}(ai:s.af r k=some I)(ad:au r k=some (b,m)):b<w.heap.size:=by
 have:=h.obj r k I ai
 rw [ad] at this
 obtain ⟨c,et,e,-⟩:=this
 exact (Array.getElem?_eq_some_iff.1 e).1
theorem Yi (h:h3 g s au w){r k b m:Nat}{I:ab}(ai:s.af r k=some I)(aZ:I.ck = .iW)(ad:au r k=some (b,m)):s.ok g au w b:=by
 refine ⟨z9 h ai ad,?_,?_⟩
 ·rcases h.own r k I b m ai ad with e|e
  ·exact .inr (.inl e)
  ·exact .inr (.inr e)
 ·rintro ⟨eu,dD,bW,a3,o,R,ah⟩
  obtain ⟨rfl,rfl⟩:=h.inj r k I eu dD bW b m a3 ai o ad ah
  rw [ai] at o;simp at o;subst o;rw [aZ] at R;simp at R
theorem enter (h:h3 g s au w){aM:gq}{bM:fU→Bool}{q:aw→Prop}{T:List (List ab)}(A:Nat→Prop)
 (hA : ∀b,A b→b<w.heap.size) (JX : ∀b,s.ok g au w b→A b)
 (JY : ∀r k I b m,s.af r k=some I→bM I.ck=true→au r k=some (b,m)→A b)
 (cU:p8 s aM bM q (eO T).aP) (pW : ∀r k I,(∃j i,aM j i=some (r,k))→s.af r k=some I→I.ck = .live) :
 ∃fJ:G,fJ.mu=w∧fJ.A=A∧fJ.m=T.length∧fJ.o0=(eO T).aY∧fJ.rm=(eO T).a7 (jy au aM) ∧
  (fJ.pB=fun b=> ∃r k I m,(∃j i,aM j i=some (r,k))∧s.af r k=some I∧au r k=some (b,m))∧h3 fJ (eO T) (jy au aM) w ∧
  ∀ {x cD:aw} {v:Value},hp s aM bM q x cD→Rel w (s.ok g au w) s.aY (s.a7 au) x v→Rel w ((eO T).ok fJ (jy au aM) w) (eO T).aY ((eO T).a7 (jy au aM)) cD v:=by
 let fJ:G:={mu:=w,A:=A,pB:=fun b=> ∃r k I m,(∃j i,aM j i=some (r,k))∧s.af r k=some I∧au r k=some (b,m),N:=0,m:=T.length,o0:=(eO T).aY,rm:=(eO T).a7 (jy au aM)}
 refine ⟨fJ,rfl,rfl,rfl,rfl,rfl,rfl,?_⟩
 have gJ : ∀b,(eO T).lG (jy au aM) b→ ∃r k I m,s.af r k=some I∧I.ck = .live∧au r k=some (b,m)∧ ∃j i,aM j i=some (r,k):=fun b aS=>cU.live b aS
 refine h3.KY (bI:=eO T) (fJ:=fJ) h cU ⟨rfl,rfl,rfl,Nat.le_refl _,fun _ _ _=>rfl⟩ (fun j k az=>⟨az,.inl rfl⟩) ?_ ?_ hA ?_ ?_ ?_
 ·intro j k az
  have az:k<((T[j]?).getD []).length:=az
  rcases Nat.lt_or_ge j T.length with o|o
  ·exact o
  ·rw [List.getElem?_eq_none o] at az;simp at az
 ·rintro b ⟨r,k,I,m,-,ai,ad⟩
  exact z9 h ai ad
 ·intro r k I b m hm ai ad
  exact .inr ⟨r,k,I,m,hm,ai,ad⟩
 ·intro b aL
  refine ⟨aL.1,.inl (JX b aL),fun aS=> ?_⟩
  obtain ⟨r,k,I,m,o,R,ah,-⟩:=gJ b aS
  exact aL.2.2 ⟨r,k,I,m,o,R,ah⟩
 ·intro r k I b m ai bw ak ad
  refine ⟨z9 h ai ad,.inl (JY r k I b m ai bw ad),fun aS=> ?_⟩
  obtain ⟨eu,dD,bW,a3,o,R,ah,⟨j,i,az⟩⟩:=gJ b aS
  obtain ⟨rfl,rfl⟩:=h.inj r k I eu dD bW b m a3 ai o ad ah
  exact ak j i az
theorem leave (h:cG g s au a w){bB:World}{aM ky:gq}{bM:fU→Bool}{q0 q:aw→Prop}{fJ:G}{T dT:List (List ab)}{kI:e9}
 (dE:fJ.mu=w) (hA:(∀b,fJ.A b→s.ok g au w b)∨(∀x,q x→cn x)) (vu:fJ.o0=(eO T).aY) (k5:fJ.rm=(eO T).a7 (jy au aM))
 (di:fJ.pB=fun b=> ∃r k I m,(∃j i,aM j i=some (r,k))∧s.af r k=some I∧au r k=some (b,m))
 (pW : ∀r k I,(∃j i,aM j i=some (r,k))→s.af r k=some I→I.ck = .live)
 (cU:p8 s aM bM q0 (eO T).aP) (o:h3 fJ (eO dT) kI bB)
 (Aj : ∀j i r k,aM j i=some (r,k)→ky r k=some (j,i)) (Eb : ∀r k j i,ky r k=some (j,i)→aM j i=some (r,k)∨ ¬s.aY r k)
 (ZJ : ∀r k eu dD p,ky r k=some p→ky eu dD=some p→r=eu∧k=dD)
 {s2:S} (d7:s2.E=s.E)
 (bf : ∀r k I,s2.af r k=some I→(∃j i p,ky r k=some (j,i)∧(eO dT).af j i=some p∧oe (eO dT) ky (fun _=>false) q p I)∨(ky r k=none∧s.af r k=some I))
 (i9 : ∀r k,s.aY r k→s2.aY r k) (ZK : ∀r k j i,ky r k=some (j,i)→(eO dT).aY j i→s2.aY r k)
 {x cD:aw} {v:Value} (aa:hp (eO dT) ky (fun _=>false) q x cD) (a0:Rel bB ((eO dT).ok fJ kI bB) (eO dT).aY ((eO dT).a7 kI) x v) :
 ∃lc,cG g s2 lc a bB∧Rel bB (s2.ok g lc bB) s2.aY (s2.a7 lc) cD v:=by
 let lc:e9:=fun r k=>match ky r k with|some (j,i)=>kI j i|none=>au r k
 have h6 : ∀r k j i,ky r k=some (j,i)→lc r k=kI j i:=fun r k j i e=>by simp [lc,e]
 have jC : ∀r k,ky r k=none→lc r k=au r k:=fun r k e=>by simp [lc,e]
 have aZ:=o.gO
 have eI:w.heap.size≤bB.heap.size:=by have:=aZ.size;rw [dE] at this;exact this
 have sR : ∀b,b<w.heap.size→ ¬fJ.pB b→bB.heap[b]? = w.heap[b]? := fun b aL kF=>by
  have:=aZ.block b (by rw [dE];exact aL) kF
  rw [dE] at this;exact this
 have Ex : ∀j k p b m,(eO dT).af j k=some p→kI j k=some (b,m)→w.heap.size≤b∨ ∃r dD I a3,(∃j i,aM j i=some (r,dD))∧s.af r dD=some I∧au r dD=some (b,a3):=by
  intro j k p b m ad aL
  rcases o.own j k p b m ad aL with e|e
  ·rw [dE] at e;exact .inl e
  ·rw [di] at e;exact .inr e
 have hold : ∀q k I b m,ky q k=none→s.af q k=some I→au q k=some (b,m)→b<w.heap.size∧ ¬fJ.pB b:=by
  intro q k I b m a5 ai ad
  refine ⟨z9 h.toh3 ai ad,fun kF=> ?_⟩
  rw [di] at kF
  obtain ⟨r,dD,bW,a3,⟨j,i,ak⟩,dL,lP⟩:=kF
  obtain ⟨rfl,rfl⟩:=h.inj q k I r dD bW b m a3 ai dL ad lP
  rw [Aj _ _ _ _ ak] at a5;simp at a5
 have Pk : ∀b,s2.lG lc b→(eO dT).lG kI b∨(∃q k I m,ky q k=none∧s.af q k=some I∧I.ck = .live∧au q k=some (b,m)):=by
  rintro b ⟨q,k,I,m,ai,nK,ad⟩
  rcases bf q k I ai with ⟨j,i,p,ay,aD,bV⟩|⟨ay,aD⟩
  ·rw [h6 _ _ _ _ ay] at ad
   exact .inl ⟨j,i,p,m,aD,OK bV nK,ad⟩
  ·rw [jC _ _ ay] at ad
   exact .inr ⟨q,k,I,m,ay,aD,nK,ad⟩
 have mL : ∀b,s.ok g au w b→s2.ok g lc bB b:=by
  intro b aL
  refine ⟨Nat.lt_of_lt_of_le aL.1 eI,aL.2.1,fun aS=> ?_⟩
  rcases Pk b aS with ⟨j,k,p,m,ay,aD,bV⟩|⟨q,k,I,m,ay,aD,bV,du⟩
  ·rcases Ex j k p b m ay bV with e|⟨r,dD,I,a3,ak,ai,ad⟩
   ·have:=aL.1;omega
   ·exact aL.2.2 ⟨r,dD,I,a3,ai,pW r dD I ak ai,ad⟩
  ·exact aL.2.2 ⟨q,k,I,m,aD,bV,du⟩
 have Qg : ∀r k,s.aY r k→s2.a7 lc r k=s.a7 au r k∨s2.a7 lc r k=none:=by
  intro r k ak
  cases ai:s2.af r k with
  | none=>right;simp [S.a7,ai]
  | some I =>
   left
   rcases bf r k I ai with ⟨j,i,p,ay,aD,bV⟩|⟨ay,aD⟩
   ·rcases Eb r k j i ay with az|az
    ·have l9:=(o.stay j i (by rw [vu];exact cU.aY _ _ _ _ az ak)).2
     rw [k5,h2 aD] at l9
     have l9:some (p.sz,kI j i)=(eO T).a7 (jy au aM) j i:=by
      rcases l9 with e|e
      ·exact e
      ·simp at e
     have:=cU.Ew (bI:=eO T) (au:=au) az
     rw [← l9] at this
     rw [h2 ai,bV.sz,h6 _ _ _ _ ay]
     rcases this with e|e
     ·exact e
     ·simp at e
    ·exact absurd ak az
   ·rw [h2 ai,h2 aD,jC _ _ ay]
 have Y9 : ∀b,s.ok g au w b→bB.heap[b]? = w.heap[b]? := by
  intro b aL
  refine sR b aL.1 fun kF=> ?_
  rw [di] at kF
  obtain ⟨r,dD,I,a3,ak,ai,ad⟩:=kF
  exact aL.2.2 ⟨r,dD,I,a3,ai,pW r dD I ak ai,ad⟩
 have e4 : ∀ {y:aw} {u:Value},Rel w (s.ok g au w) s.aY (s.a7 au) y u→Rel bB (s2.ok g lc bB) s2.aY (s2.a7 lc) y u :=
  fun ak=>ak.mono mL Y9 i9 Qg
 have ZL:(∀b,fJ.A b→s.ok g au w b)→ ∀b,(eO dT).ok fJ kI bB b→s2.ok g lc bB b:=by
  intro hA b aL
  have Jx:g.A b∨g.mu.heap.size≤b∨g.pB b:=by
   rcases aL.2.1 with e|e|e
   ·exact (hA b e).2.1
   ·rw [dE] at e;exact .inr (.inl (Nat.le_trans h.gO.size e))
   ·rw [di] at e
    obtain ⟨r,k,I,m,-,ai,ad⟩:=e
    rcases h.own r k I b m ai ad with e|e
    ·exact .inr (.inl e)
    ·exact .inr (.inr e)
  refine ⟨aL.1,Jx,fun aS=> ?_⟩
  rcases Pk b aS with e|⟨q,k,I,m,ay,aD,bV,du⟩
  ·exact aL.2.2 e
  ·have a5:=hold q k I b m ay aD du
   rcases aL.2.1 with e|e|e
   ·exact (hA b e).2.2 ⟨q,k,I,m,aD,bV,du⟩
   ·rw [dE] at e;omega
   ·exact a5.2 e
 have PR : ∀ {y lV:aw} {u:Value},hp (eO dT) ky (fun _=>false) q y lV→Rel bB ((eO dT).ok fJ kI bB) (eO dT).aY ((eO dT).a7 kI) y u→Rel bB (s2.ok g lc bB) s2.aY (s2.a7 lc) lV u:=by
  intro y lV u bZ ak
  refine bZ.rel o (fun x v a5 ad ak=> ?_) (fun _ _ _ _ _ _ bw _ _=>by simp at bw) ?_ ak
  ·rcases hA with hA|hA
   ·exact ak.pure ad (ZL hA)
   ·exact ak.dt (hA x a5) ad
  ·intro r k j i a5 az
   refine ⟨ZK r k j i a5 az,?_⟩
   cases ai:s2.af r k with
   | none=>right;simp [S.a7,ai]
   | some I =>
    left
    rcases bf r k I ai with ⟨hK,fj,p,ay,aD,bV⟩|⟨ay,-⟩
    ·rw [a5] at ay;simp only [Option.some.injEq,Prod.mk.injEq] at ay
     obtain ⟨rfl,rfl⟩:=ay
     rw [h2 ai,h2 aD,bV.sz,h6 _ _ _ _ a5]
    ·rw [a5] at ay;simp at ay
 refine ⟨lc,{toh3:=⟨?_,?_,?_,?_,h.mlt,h.m9,?_,h.low⟩,env:=fun t=>by rw [d7];exact e4 (h.env t),defers:=h.defers,jw:=h.jw},PR aa a0⟩
 ·intro q k I ai
  rcases bf q k I ai with ⟨j,i,p,ay,aD,bV⟩|⟨ay,aD⟩
  ·have ad:=o.obj j i p aD
   rw [h6 _ _ _ _ ay]
   cases ke:kI j i with
   | none =>
    rw [ke] at ad
    simp only [iT] at ad ⊢
    apply List.length_eq_zero_iff.1
    rw [bV.len,ad];rfl
   | some ti =>
    obtain ⟨b,m⟩:=ti
    rw [ke] at ad
    obtain ⟨c,et,f1,f2,f3,f4⟩:=ad
    have jx:I.es.flatten.length=p.es.flatten.length:=by rw [rP _ bV.each,rP _ f3,bV.len]
    refine ⟨c,et,f1,f2,by rw [bV.sz];exact bV.each,fun i cD dB=> ?_⟩
    have dn:i<p.es.flatten.length:=by rw [← jx];exact fo dB
    have iK:=List.getElem?_eq_getElem dn
    obtain ⟨u,jO,mx,gF⟩:=f4 i _ iK
    exact ⟨u,jO,mx,PR (bV.at_ i _ cD iK dB) gF⟩
  ·have ad:=h.obj q k I aD
   rw [jC _ _ ay]
   cases ke:au q k with
   | none=>rw [ke] at ad;exact ad
   | some ti =>
    obtain ⟨b,m⟩:=ti
    rw [ke] at ad
    obtain ⟨c,et,f1,f2,f3,f4⟩:=ad
    obtain ⟨tW,JZ⟩:=hold q k I b m ay aD ke
    refine ⟨c,et,(sR b tW JZ).trans f1,f2,f3,fun i cD dB=> ?_⟩
    obtain ⟨u,jO,mx,gF⟩:=f4 i cD dB
    exact ⟨u,jO,mx,e4 gF⟩
 ·intro q k I g7 dD bW b m a3 R ah aB aK
  rcases bf q k I R with ⟨j,i,p,ay,aD,bV⟩|⟨ay,aD⟩<;>rcases bf g7 dD bW ah with ⟨hK,fj,j8,mR,ps,A2⟩|⟨mR,ps⟩
  ·rw [h6 _ _ _ _ ay] at aB;rw [h6 _ _ _ _ mR] at aK
   obtain ⟨rfl,rfl⟩:=o.inj j i p hK fj j8 b m a3 aD ps aB aK
   exact ZJ _ _ _ _ _ ay mR
  ·rw [h6 _ _ _ _ ay] at aB;rw [jC _ _ mR] at aK
   obtain ⟨f1,f2⟩:=hold g7 dD bW b a3 mR ps aK
   rcases Ex j i p b m aD aB with e|e
   ·omega
   ·exact absurd (by rw [di];exact e) f2
  ·rw [jC _ _ ay] at aB;rw [h6 _ _ _ _ mR] at aK
   obtain ⟨f1,f2⟩:=hold q k I b m ay aD aB
   rcases Ex hK fj j8 b a3 ps aK with e|e
   ·omega
   ·exact absurd (by rw [di];exact e) f2
  ·rw [jC _ _ ay] at aB;rw [jC _ _ mR] at aK
   exact h.inj q k I g7 dD bW b m a3 aD ps aB aK
 ·intro q k I b m R aB
  rcases bf q k I R with ⟨j,i,p,ay,aD,bV⟩|⟨ay,aD⟩
  ·rw [h6 _ _ _ _ ay] at aB
   rcases Ex j i p b m aD aB with e|⟨r,dD,bW,a3,ak,ai,ad⟩
   ·exact .inl (Nat.le_trans h.gO.size e)
   ·exact h.own r dD bW b a3 ai ad
  ·rw [jC _ _ ay] at aB;exact h.own q k I b m aD aB
 ·have ay:=aZ.os;have aD:=aZ.tape;have bV:=aZ.output
  rw [dE] at ay aD bV
  refine h.gO.step ay aD bV eI fun b aL nL=>sR b (Nat.lt_of_lt_of_le aL h.gO.size) fun kF=> ?_
  rw [di] at kF
  obtain ⟨r,k,I,m,-,ai,ad⟩:=kF
  rcases h.own r k I b m ai ad with e|e
  ·omega
  ·exact nL e
 ·intro j k az
  obtain ⟨ay,aD⟩:=h.stay j k az
  refine ⟨i9 j k ay,?_⟩
  rcases Qg j k ay with e|e
  ·rw [e];exact aD
  ·exact .inr e
def ks (a b n:Nat):aw→aw
 | .ref r k i off=>if r=a then .ref b (n+k) i off else .ref r k i off
 | .bm r k bO len=>if r=a then .bm b (n+k) bO len else .bm r k bO len
 | .iD r c sz h=>if r=a then .iD b (n+c) sz h else .iD r c sz h
 | .agg c=> .agg (yD c)
 | .dK c=> .dK (yD c)
 | x=>x
where yD:List aw→List aw
 | []=>[]
 | x::l=>ks a b n x::yD l
def mb (a b n:Nat)(I:ab):ab:={I with es:=I.es.map fun e=>e.map (ks a b n)}
def re (I:ab):ab:=⟨0,[],.gone⟩
theorem DL (a b n:Nat): ∀l:List aw,ks.yD a b n l=l.map (ks a b n)
 | []=>rfl
 | x::l=>by rw [ks.yD,DL a b n l];rfl
theorem kd (l:List ab)(k:Nat):de (some l) k=(l[k]?).bind fun I=>if I.ck = .gone then none else some I:=by
 unfold de
 cases h:l[k]? <;> simp [h]
theorem map_flatten {es:List (List aw)}(f:aw→aw):(es.map fun e=>e.map f).flatten=es.flatten.map f:=by
 induction es with
 | nil=>rfl
 | cons e es ih=>rw [List.map_cons,List.flatten_cons,List.flatten_cons,List.map_append,ih]
theorem cG.merge (h:cG g s au a w){r eu:Nat}{l ga:List ab}(ak:s.aP r=some l)(hg:s.aP eu=some ga)(cw:eu≠r):
 ∃bE,cG g ((s.setRow eu (ga.map re)).setRow r (l++ga.map (mb eu r l.length))) bE a w ∧
  ∀x v,Rel w (s.ok g au w) s.aY (s.a7 au) x v→Rel w (((s.setRow eu (ga.map re)).setRow r (l++ga.map (mb eu r l.length))).ok g bE w)
   ((s.setRow eu (ga.map re)).setRow r (l++ga.map (mb eu r l.length))).aY (((s.setRow eu (ga.map re)).setRow r (l++ga.map (mb eu r l.length))).a7 bE) (ks eu r l.length x) v:=by
 generalize vv:(s.setRow eu (ga.map re)).setRow r (l++ga.map (mb eu r l.length))=s2
 let bE:e9:=fun q k=>if q=r∧l.length≤k then au eu (k-l.length) else au q k
 have bf : ∀q k I,s2.af q k=some I→(q=r∧l.length≤k∧ ∃p,s.af eu (k-l.length)=some p∧I=mb eu r l.length p∧bE q k=au eu (k-l.length)) ∨
  (q≠eu∧s.af q k=some I∧bE q k=au q k∧ ¬(q=r∧l.length≤k)):=by
  intro q k I ai
  subst vv
  rw [ll] at ai
  by_cases e:q=r
  ·subst e
   rw [if_pos rfl] at ai
   by_cases aZ:l.length≤k
   ·left
    refine ⟨rfl,aZ,?_⟩
    rw [kd,List.getElem?_append_right aZ,List.getElem?_map] at ai
    cases ad:ga[k-l.length]? with
    | none=>rw [ad] at ai;simp at ai
    | some p =>
     rw [ad] at ai
     simp only [Option.map_some,Option.bind_some] at ai
     split at ai
     ·simp at ai
     ·rename_i dE
      simp only [Option.some.injEq] at ai
      refine ⟨p,?_,ai.symm,by simp [bE,aZ]⟩
      unfold S.af
      rw [hg,kd,ad,Option.bind_some,if_neg (by simpa [mb] using dE)]
   ·right
    refine ⟨Ne.symm cw,?_,by simp [bE,aZ],fun fC=>aZ fC.2⟩
    unfold S.af
    rw [ak,kd]
    rw [kd,List.getElem?_append_left (by omega)] at ai
    exact ai
  ·rw [if_neg e,ll] at ai
   by_cases aD:q=eu
   ·subst aD
    rw [if_pos rfl,kd,List.getElem?_map] at ai
    cases ad:ga[k]? with
    | none=>rw [ad] at ai;simp at ai
    | some p=>rw [ad] at ai;simp [re] at ai
   ·rw [if_neg aD] at ai
    exact .inr ⟨aD,ai,by simp [bE,e],fun fC=>e fC.1⟩
 have i9 : ∀q k,s.aY q k→s2.aY q k:=by
  intro q k a5
  subst vv
  rw [m3]
  by_cases e:q=r
  ·subst e;rw [if_pos rfl];simp [S.aY,ak] at a5;simp;omega
  ·rw [if_neg e,m3]
   by_cases aD:q=eu
   ·subst aD;rw [if_pos rfl];simpa [S.aY,hg] using a5
   ·rw [if_neg aD];exact a5
 have AK : ∀k,s.aY eu k→s2.aY r (l.length+k):=by
  intro k a5
  subst vv
  rw [m3,if_pos rfl]
  simp [S.aY,hg] at a5
  simp;omega
 have AL : ∀k,s2.a7 bE r (l.length+k)=s.a7 au eu k:=by
  intro k
  subst vv
  simp only [S.a7]
  rw [ll,if_pos rfl]
  unfold S.af
  rw [hg,kd,kd,List.getElem?_append_right (by omega),List.getElem?_map,show l.length+k-l.length=k by omega]
  cases ad:ga[k]? with
  | none=>simp
  | some p =>
   simp only [Option.map_some,Option.bind_some]
   by_cases dE:p.ck = .gone
   ·rw [if_pos dE,if_pos (by simpa [mb] using dE)];rfl
   ·rw [if_neg dE,if_neg (by simpa [mb] using dE)]
    simp [bE,mb]
 have k5 : ∀q k,s.aY q k→s2.a7 bE q k=s.a7 au q k∨s2.a7 bE q k=none:=by
  intro q k a5
  cases ai:s2.af q k with
  | none=>right;simp [S.a7,ai]
  | some I =>
   left
   rcases bf q k I ai with ⟨rfl,aD,-⟩|⟨-,aD,bV,-⟩
   ·simp [S.aY,ak] at a5;omega
   ·rw [h2 ai,h2 aD,bV]
 have pW : ∀b,s2.lG bE b→s.lG au b:=by
  rintro b ⟨q,k,I,m,o,R,ah⟩
  rcases bf q k I o with ⟨-,-,p,ay,aD,bV⟩|⟨-,ay,aD,-⟩
  ·rw [bV] at ah;subst aD;exact ⟨eu,_,p,m,ay,R,ah⟩
  ·rw [aD] at ah;exact ⟨q,k,I,m,ay,R,ah⟩
 have c2:Step g s au w s2 bE w:=⟨i9,k5,fun b aS=> .inl (pW b aS),fun _ _ _=>rfl,Nat.le_refl _⟩
 have A6 : ∀x v,Rel w (s.ok g au w) s.aY (s.a7 au) x v→Rel w (s2.ok g bE w) s2.aY (s2.a7 bE) (ks eu r l.length x) v:=by
  intro x v k7
  induction k7 with
  | dead v=>exact .dead v
  | b x=>exact .b x
  | n k x=>exact .n k x
  | s x=>exact .s x
  | ic=>exact .ic
  | ex=>exact .ex
  | iC a c=>exact .iC a c
  | @pR ax k i off a hu fC =>
   unfold ks
   split
   ·rename_i e;subst e
    exact .pR a (AK k hu) (by rw [AL];exact fC)
   ·exact c2.rel (.pR a hu fC)
  | @ref ax k i off sz dS m hu fC =>
   unfold ks
   split
   ·rename_i e;subst e
    exact .ref (AK k hu) (by rw [AL];exact fC)
   ·exact c2.rel (.ref hu fC)
  | @m4 ax k bO len a bp cZ hu fC =>
   unfold ks
   split
   ·rename_i e;subst e
    exact .m4 a bp cZ (AK k hu) (by rw [AL];exact fC)
   ·exact c2.rel (.m4 a bp cZ hu fC)
  | @nr ax k sz hu fC =>
   unfold ks
   split
   ·rename_i e;subst e
    exact .nr (AK k hu) (by rw [AL];exact fC)
   ·exact c2.rel (.nr hu fC)
  | @bm ax k bO len sz dS m c a hu fC aS aO mO =>
   unfold ks
   split
   ·rename_i e;subst e
    exact .bm (AK k hu) (by rw [AL];exact fC) aS aO mO
   ·exact c2.rel (.bm hu fC aS aO mO)
  | @mF ax c sz v h0 ih =>
   unfold ks
   split
   ·exact .mF (c2.rel h0)
   ·exact c2.rel (.mF h0)
  | @nC ax c sz k n v h0 ih =>
   unfold ks
   split
   ·rename_i e;subst e
    unfold ks at ih
    rw [if_pos rfl] at ih
    exact .nC (by rw [show k+(l.length+c)=l.length+(k+c) by omega];exact ih)
   ·exact c2.rel (.nC h0)
  | j2 sz a c h=>exact .j2 sz a c h
  | isl cs aL ad aS aO hw gZ k7 ih=>exact c2.rel (.isl cs aL ad aS aO hw gZ k7)
  | eB cs aL ad aS hw gZ k7 ih=>exact c2.rel (.eB cs aL ad aS hw gZ k7)
  | pk sz=>exact .pk sz
  | oT h0 ih=>exact c2.rel (.oT h0)
  | agg vs aS gZ k7 ih =>
   unfold ks
   rw [DL]
   refine .agg vs (by simpa using aS) gZ fun j x v aa a0=> ?_
   rw [List.getElem?_map,Option.map_eq_some_iff] at aa
   obtain ⟨y,aJ,rfl⟩:=aa
   exact ih j y v aJ a0
  | dK vs aS k7 ih =>
   unfold ks
   rw [DL]
   refine .dK vs (by simpa using aS) fun j x v aa a0=> ?_
   rw [List.getElem?_map,Option.map_eq_some_iff] at aa
   obtain ⟨y,aJ,rfl⟩:=aa
   exact ih j y v aJ a0
  | fn vs aS k7 ih=>exact c2.rel (.fn vs aS k7)
 refine ⟨bE,{toh3:=⟨?_,?_,?_,h.gO,h.mlt,h.m9,?_,h.low⟩,env:=fun t=>by rw [show s2.E=s.E by rw [← vv];rfl];exact c2.rel (h.env t),defers:=h.defers,jw:=h.jw},A6⟩
 ·intro q k I ai
  rcases bf q k I ai with ⟨-,-,p,ay,aD,bV⟩|⟨-,ay,aD,-⟩
  ·rw [bV]
   subst aD
   have ad:=h.obj eu _ p ay
   cases ke:au eu (k-l.length) with
   | none=>rw [ke] at ad;simp only [iT] at ad ⊢;simp [mb,ad]
   | some ti =>
    obtain ⟨b,m⟩:=ti
    rw [ke] at ad
    obtain ⟨c,et,f1,f2,f3,f4⟩:=ad
    refine ⟨c,et,f1,f2,?_,fun j x aa=> ?_⟩
    ·intro e he
     simp only [mb,List.mem_map] at he
     obtain ⟨ev,lN,rfl⟩:=he
     simpa [mb] using f3 ev lN
    ·simp only [mb] at aa
     rw [map_flatten,List.getElem?_map,Option.map_eq_some_iff] at aa
     obtain ⟨y,aJ,rfl⟩:=aa
     obtain ⟨u,jO,mx,gF⟩:=f4 j y aJ
     exact ⟨u,jO,mx,A6 y u gF⟩
  ·rw [aD]
   exact c2.obj (fun b m _=>rfl) (h.obj q k I ay)
 ·intro q k I aW ka b0 b m a3 o R ah aB
  rcases bf q k I o with ⟨rfl,f1,p,ay,aD,bV⟩|⟨f1,ay,aD,f2⟩<;>rcases bf aW ka b0 R with ⟨rfl,yE,j8,mR,ps,A2⟩|⟨yE,mR,ps,adI⟩
  ·rw [bV] at ah;rw [A2] at aB
   obtain ⟨-,e⟩:=h.inj _ _ _ _ _ _ b m a3 ay mR ah aB
   exact ⟨rfl,by omega⟩
  ·rw [bV] at ah;rw [ps] at aB
   obtain ⟨e,-⟩:=h.inj _ _ _ _ _ _ b m a3 ay mR ah aB
   exact absurd e.symm yE
  ·rw [aD] at ah;rw [A2] at aB
   obtain ⟨e,-⟩:=h.inj _ _ _ _ _ _ b m a3 ay mR ah aB
   exact absurd e f1
  ·rw [aD] at ah;rw [ps] at aB
   exact h.inj _ _ _ _ _ _ b m a3 ay mR ah aB
 ·intro q k I b m o R
  rcases bf q k I o with ⟨-,-,p,ay,aD,bV⟩|⟨-,ay,aD,-⟩
  ·rw [bV] at R;exact h.own eu _ p b m ay R
  ·rw [aD] at R;exact h.own q k I b m ay R
 ·exact c2.stay h.stay
end
end Go.VL
namespace Go.VL
set_option linter.unusedVariables false
set_option linter.unusedSimpArgs false
open Go
def aw.ia:aw→Bool
 | .dead | .b _ | .n .. | .s _ | .ic | .ex | .iC | .isl .. | .eB .. | .fp .. => true
 | _=>false
def aw.Aa:aw→Bool
 | .agg c=>c.all aw.ia
 | .fn _ c=>c.all aw.ia
 | x=>x.ia
def aw.PS:aw→Bool
 | .dK c=>c.all aw.Aa
 | x=>x.Aa
section
variable {w:World} {ok:Nat→Prop} {aY:iX} {a7:iM}
theorem Rel.ye {x:aw}{v:Value}(h:Rel w ok aY a7 x v)(a4:x.ia=true):Pure x:=by
 cases h with
 | dead=>exact .dead
 | b=>exact .b _
 | n=>exact .n _ _
 | s=>exact .s _
 | ic=>exact .ic
 | ex=>exact .ex
 | iC=>exact .iC
 | j2=>exact .isl (by simp)
 | isl cs aL ad=>exact .isl ad
 | eB cs aL ad=>exact .eB ad
 | pk sz=>exact .pk sz
 | oT h=>cases h with|eB cs aL ad=>exact .oT fun x aa=>ad _ (List.mem_singleton.2 rfl) x aa
 | _=>simp [aw.ia] at a4
theorem MY {c:List aw}{vs:List Value}(aS:vs.length=c.length)(ak:∀(j:Nat) x u,c[j]? = some x→vs[j]? = some u→Rel w ok aY a7 x u)
 (a4:c.all aw.ia=true) : ∀x∈c,Pure x:=by
 intro x aa
 obtain ⟨j,az⟩:=List.getElem?_of_mem aa
 have dn:j<vs.length:=by have:=fo az;omega
 exact (ak j x _ az (List.getElem?_eq_getElem dn)).ye (List.all_eq_true.1 a4 x aa)
theorem Rel.DZ {x:aw}{v:Value}(h:Rel w ok aY a7 x v)(a4:x.Aa=true):Pure x:=by
 cases h with
 | agg vs aS aO ak=>exact .agg (MY aS ak a4)
 | fn vs aS ak=>exact .fn (MY aS ak a4)
 | dead=>exact .dead
 | b=>exact .b _
 | n=>exact .n _ _
 | s=>exact .s _
 | ic=>exact .ic
 | ex=>exact .ex
 | iC=>exact .iC
 | j2=>exact .isl (by simp)
 | isl cs aL ad=>exact .isl ad
 | eB cs aL ad=>exact .eB ad
 | pk sz=>exact .pk sz
 | oT h=>cases h with|eB cs aL ad=>exact .oT fun x aa=>ad _ (List.mem_singleton.2 rfl) x aa
 | _=>simp [aw.Aa,aw.ia] at a4
theorem Rel.Za {x:aw}{v:Value}(h:Rel w ok aY a7 x v)(a4:x.PS=true):Pure x:=by
 by_cases cp : ∃c,x = .dK c
 ·obtain ⟨c,rfl⟩:=cp
  obtain ⟨vs,rfl,aS,ak⟩:=h.xQ
  refine .dK fun x aa=> ?_
  obtain ⟨j,az⟩:=List.getElem?_of_mem aa
  have dn:j<vs.length:=by have:=fo az;omega
  exact (ak j x _ az (List.getElem?_eq_getElem dn)).DZ (List.all_eq_true.1 a4 x aa)
 ·refine h.DZ ?_
  cases x<;>first|exact a4|exact absurd ⟨_,rfl⟩ cp
end
def cX:List Nat→Nat→Option Nat
 | [],_=>none
 | x::l,r=>if x=r then some 0 else (cX l r).map (· + 1)
theorem MZ : ∀ {l:List Nat} {r j:Nat},cX l r=some j→l[j]? = some r
 | x::l,r,j,h=>by
  unfold cX at h
  split at h
  ·simp at h;subst h;simp [*]
  ·rw [Option.map_eq_some_iff] at h
   obtain ⟨i,ae,rfl⟩:=h
   simpa using MZ ae
theorem M0 : ∀ {l:List Nat} {r j:Nat},l.Nodup→l[j]? = some r→cX l r=some j
 | x::l,r,j,a4,h=>by
  rw [List.nodup_cons] at a4
  unfold cX
  cases j with
  | zero=>simp at h;simp [h]
  | succ j =>
   simp at h
   have:x≠r:=by rintro rfl;exact a4.1 (List.mem_of_getElem? h)
   rw [if_neg this,M0 a4.2 h];rfl
def A7 (ed:Nat)(jM:List ab)(bM:fU→Bool)(x cD:aw):Prop :=
 (cD=x∧x.ia=true)∨(∃c sz,x = .iD ed c sz none∧cD = .isl sz [])∨ ∃k bO len I,(x = .bm ed k bO len∨ ∃c sz iZ,k=iZ+c∧bO=0∧x = .iD ed c sz (some (iZ,len)))∧de (some jM) k=some I∧bM I.ck=true∧bO+len≤I.es.length ∧
   hs ((I.es.drop bO).take len)∧cD = .isl I.sz ((I.es.drop bO).take len)
def BG (ed:Nat)(jM:List ab)(bM:fU→Bool)(sz:Nat)(es f9:List (List aw)):Prop :=
 f9.length=es.length∧(∀e∈f9,e.length=sz)∧ ∀(j:Nat) x cD,es.flatten[j]? = some x→f9.flatten[j]? = some cD→A7 ed jM bM x cD
def lo (aP:Nat→Option (List ab))(bQ:Nat→Option Nat)(aM:gq)(bM:fU→Bool):tf→aw→Option (aw×List Prop)
 | .id,x=>if x.ia then some (x,[]) else
  match x with
  | .ref r k i off=>match bQ r with
   | some j=>some (.ref j k i off,[])
   | none=>none
  | .bm r k bO len=>match bQ r with
   | some j=>some (.bm j k bO len,[])
   | none=>none
  | .iD r c sz h=>match bQ r with
   | some j=>some (.iD j c sz h,[])
   | none=>none
  | _=>none
 | .mv sz,.ex=>some (.isl sz [],[])
 | .mv sz,.iC=>some (.isl sz [],[])
 | .ej f9,.bm r k bO len=>match de (aP r) k with
  | some I=>if bM I.ck && (bQ r).isNone then some (.isl I.sz f9,[f9=(I.es.drop bO).take len,bO+len≤I.es.length,hs f9]) else none
  | none=>none
 | .jd,_=>some (.dead,[])
 | .da y,x=>if x.ia then some (y,[x=y]) else none
 | .len n,.bm r k bO len=>match bQ r with
  | some j=>some (.bm j k bO n,[len=n])
  | none=>none
 | .pC sz,x=>match x with
  | .ic=>some (.fp sz none,[])
  | .eB Et [c] 0 0=>if Et=sz then some (.fp sz (some c),[]) else none
  | _=>none
 | .at_ j i n,.bm r k bO len=>some (.bm j i bO n,[aM j i=some (r,k),len=n])
 | .at_ j i _,.ref r k x y=>some (.ref j i x y,[aM j i=some (r,k)])
 | .view ed I f9,.bm r k bO len=>match aP r,aP ed with
  | some row,some jM=>if (bQ r).isNone && (bQ ed).isNone then
   some (.isl I.sz f9,[de (some row) k=some I,bM I.ck=true,bO+len≤I.es.length,hs f9,BG ed jM bM I.sz ((I.es.drop bO).take len) f9]) else none
  | _,_=>none
 | _,_=>none
def lp {α β:Type}(f:α→β→Option (β×List Prop)):List α→List β→Option (List β×List Prop)
 | [],[]=>some ([],[])
 | a::l,b::m=>match f a b,lp f l m with
  | some (jB,b0),some (a3,bg)=>some (jB::a3,b0++bg)
  | _,_=>none
 | _,_=>none
def n4 (aP:Nat→Option (List ab))(bQ:Nat→Option Nat)(aM:gq)(bM:fU→Bool):y0→aw→Option (aw×List Prop)
 | .b4 c,x=>if x.Aa then (match c with | .id=>some (x,[]) | .jd=>some (.dead,[]) | .da y=>some (y,[x=y])|c=>lo aP bQ aM bM c x) else lo aP bQ aM bM c x
 | .agg l,.agg c=>match lp (lo aP bQ aM bM) l c with
  | some (dR,af)=>some (.agg dR,af)
  | none=>none
 | .ptr l,.ref r k i off=>match de (aP r) k with
  | some I=>match I.es with
   | [c]=>if bM I.ck && (bQ r).isNone then
    match lp (lo aP bQ aM bM) l c with
    | some (dR,af)=>some (.eB I.sz [dR] i off,af++[hs [dR]])
    | none=>none
    else none
   | _=>none
  | none=>none
 | .sS l,x=>match x with
  | .ref r k 0 0=>match de (aP r) k with
   | some I=>match I.es with
    | [c]=>if bM I.ck && (bQ r).isNone then
     match lp (lo aP bQ aM bM) l c with
     | some (dR,af)=>some (.fp I.sz (some dR),af++[hs [dR]])
     | none=>none
     else none
    | _=>none
   | none=>none
  | _=>none
 | _,_=>none
def nx (aP:Nat→Option (List ab))(bQ:Nat→Option Nat)(aM:gq)(bM:fU→Bool):lb→aw→Option (aw×List Prop)
 | .bp c,x=>if x.PS then (match c with | .b4 .id=>some (x,[])|c=>n4 aP bQ aM bM c x) else n4 aP bQ aM bM c x
 | .comp l,.dK c=>match lp (n4 aP bQ aM bM) l c with
  | some (dR,af)=>some (.dK dR,af)
  | none=>none
 | .comp l,.fn f c=>match lp (n4 aP bQ aM bM) l c with
  | some (dR,af)=>some (.fn f dR,af)
  | none=>none
 | _,_=>none
def tx (row:List ab):Prop:= ∀I∈row,hs I.es∧I.ck = .live
def mj (row:List ab):Prop:= ∀I∈row,I.ck = .live∨I.ck = .gone
def nM (bQ:Nat→Option Nat):aw→aw
 | .ref r k i off=>match bQ r with|some j=> .ref j k i off|none=> .dead
 | .bm r k bO len=>match bQ r with|some j=> .bm j k bO len|none=> .dead
 | .iD r c sz h=>match bQ r with|some j=> .iD j c sz h|none=> .dead
 | x=>if x.ia then x else .dead
def kt (bQ:Nat→Option Nat)(I:ab):ab:={I with es:=I.es.map fun e=>e.map (nM bQ)}
def iU (aP:Nat→Option (List ab))(bQ:Nat→Option Nat)(aM:gq)(bM:fU→Bool):iv→List ab→Option (List ab×List Prop)
 | .pure,row=>some (row,[tx row])
 | .da dN,row=>some (dN,[row=dN,tx dN])
 | .bt dN,row=>some (dN,[dN=row.map (kt bQ),mj row])
 | .box l,[I]=>match I.es with
  | [c]=>if I.ck = .live then match lp (lo aP bQ aM bM) l c with
   | some (dR,af)=>some ([{I with es:=[dR]}],af)
   | none=>none
   else none
  | _=>none
 | _,_=>none
structure tj (q:aw→Prop) (bM:fU→Bool):Prop extends Down q where
 all : ∀k,bM k=true→ ∀x,q x
theorem tX (bM:fU→Bool):tj lQ bM:={toDown:=Y6,all:=fun _ _ _=>trivial}
theorem aau:tj cn (fun _=>false):={toDown:=Y8,all:=fun _ h=>by simp at h}
structure my (s:S) (aM:gq) (bQ:Nat→Option Nat) (bM:fU→Bool):Prop where
 ae : ∀r j,bQ r=some j→ ∀k,aM j k=some (r,k)
 a4 : ∀r,bQ r=none→ ∀k I,s.af r k=some I→bM I.ck=true→ ∀j i,aM j i≠some (r,k)
section
variable {g:G} {s:S} {au:e9} {w:World} {aM:gq} {bQ:Nat→Option Nat} {bM:fU→Bool} {q:aw→Prop}
theorem Dh {α β:Type}(f:α→β→Option (β×List Prop)): ∀(l:List α) (m a3:List β) (af:List Prop),lp f l m=some (a3,af) →
 a3.length=m.length∧l.length=m.length∧ ∀(j:Nat) b jB,m[j]? = some b→a3[j]? = some jB→ ∃x bW,l[j]? = some x∧f x b=some (jB,bW)∧ ∀p∈bW,p∈af
 | [],[],a3,af,h=>by
  simp [lp] at h;obtain ⟨rfl,rfl⟩:=h
  exact ⟨rfl,rfl,fun j b jB aL=>by simp at aL⟩
 | [],_::_,_,_,h=>by simp [lp] at h
 | _::_,[],_,_,h=>by simp [lp] at h
 | x::l,b::m,a3,af,h=>by
  simp only [lp] at h
  split at h
  ·rename_i jB b0 gp bg o R
   simp only [Option.some.injEq,Prod.mk.injEq] at h
   obtain ⟨rfl,rfl⟩:=h
   obtain ⟨ay,aD,bV⟩:=Dh f l m gp bg R
   refine ⟨by simp [ay],by simp [aD],fun j c dR aO vn=> ?_⟩
   cases j with
   | zero =>
    simp at aO vn;subst aO;subst vn
    exact ⟨x,b0,rfl,o,fun p ad=>by simp [ad]⟩
   | succ j =>
    simp at aO vn
    obtain ⟨y,bW,f1,f2,f3⟩:=bV j c dR aO vn
    exact ⟨y,bW,by simpa using f1,f2,fun p ad=>by simp [f3 p ad]⟩
  ·simp at h
theorem IA (di:h3 g s au w)(H:my s aM bQ bM)(aU:tj q bM){c:tf}{x cD:aw}{af:List Prop}(h:lo s.aP bQ aM bM c x=some (cD,af))(bf:∀p∈af,p)
 (a5:q x) {v:Value} (ak:Rel w (s.ok g au w) s.aY (s.a7 au) x v):hp s aM bM q x cD:=by
 have i9 : ∀ {r k bO len:Nat},x = .bm r k bO len→s.aY r k:=by
  intro r k bO len e;subst e;cases ak<;>assumption
 cases c with
 | id =>
  simp only [lo] at h
  split at h
  ·rename_i a4
   simp only [Option.some.injEq,Prod.mk.injEq] at h
   obtain ⟨rfl,rfl⟩:=h
   exact .pure (ak.ye a4) a5
  ·split at h
   ·rename_i r k i off _
    split at h
    ·rename_i j az
     simp only [Option.some.injEq,Prod.mk.injEq] at h
     obtain ⟨rfl,rfl⟩:=h
     exact .ref i off (H.ae r j az k) (by cases ak<;>assumption)
    ·simp at h
   ·rename_i r k bO len _
    split at h
    ·rename_i j az
     simp only [Option.some.injEq,Prod.mk.injEq] at h
     obtain ⟨rfl,rfl⟩:=h
     exact .bm bO len (H.ae r j az k) (i9 rfl)
    ·simp at h
   ·rename_i r c sz fC _
    split at h
    ·rename_i j az
     simp only [Option.some.injEq,Prod.mk.injEq] at h
     obtain ⟨rfl,rfl⟩:=h
     exact .iD fC (fun k=>H.ae r j az _)
    ·simp at h
   ·simp at h
 | mv sz =>
  cases x<;>simp [lo] at h
  ·obtain ⟨rfl,rfl⟩:=h
   exact .ex sz
  ·obtain ⟨rfl,rfl⟩:=h
   exact .iC sz
 | ej f9 =>
  cases x<;>simp only [lo,reduceCtorEq] at h
  rename_i r k bO len
  split at h
  ·rename_i I ai
   split at h
   ·rename_i aO
    simp only [Bool.and_eq_true,Option.isNone_iff_eq_none] at aO
    simp only [Option.some.injEq,Prod.mk.injEq] at h
    obtain ⟨rfl,rfl⟩:=h
    have o:f9=(I.es.drop bO).take len:=bf _ (by simp)
    have R:bO+len≤I.es.length:=bf _ (by simp)
    have ah:hs f9:=bf _ (by simp)
    have dL:s.af r k=some I:=ai
    have hlen : ∀e∈I.es,e.length=I.sz:=by
     have fl:=di.obj r k I dL
     cases ad:au r k with
     | none=>rw [ad] at fl;simp only [iT] at fl;rw [fl];simp
     | some q=>rw [ad] at fl;obtain ⟨_,_,_,_,e,_⟩:=fl;exact e
    refine .isl dL aO.1 (H.a4 r aO.2 k I dL aO.1) R ah ?_ ?_ ?_
    ·rw [o];exact fun e he=>hlen e (List.mem_of_mem_drop (List.mem_of_mem_take he))
    ·rw [o];simp;omega
    ·intro j y lV aJ nN
     rw [o] at nN
     rw [aJ] at nN;simp at nN;subst nN
     rw [o] at ah
     obtain ⟨e,he,A8⟩:=sm aJ
     exact .pure (ah e he y A8) (aU.all _ aO.1 y)
   ·simp at h
  ·simp at h
 | jd =>
  simp only [lo,Option.some.injEq,Prod.mk.injEq] at h
  obtain ⟨rfl,rfl⟩:=h
  exact .dead x
 | da y =>
  simp only [lo] at h
  split at h
  ·rename_i a4
   simp only [Option.some.injEq,Prod.mk.injEq] at h
   obtain ⟨rfl,rfl⟩:=h
   have e:x=y:=bf _ (by simp)
   subst e
   exact .pure (ak.ye a4) a5
  ·simp at h
 | len n =>
  cases x<;>simp only [lo,reduceCtorEq] at h
  rename_i r k bO len
  split at h
  ·rename_i j az
   simp only [Option.some.injEq,Prod.mk.injEq] at h
   obtain ⟨rfl,rfl⟩:=h
   have e:len=n:=bf _ (by simp)
   subst e
   exact .bm bO len (H.ae r j az k) (i9 rfl)
  ·simp at h
 | at_ j i n =>
  cases x<;>simp only [lo,reduceCtorEq] at h
  ·rename_i r k x y
   simp only [Option.some.injEq,Prod.mk.injEq] at h
   obtain ⟨rfl,rfl⟩:=h
   exact .ref x y (bf _ (List.mem_cons_self)) (by cases ak<;>assumption)
  ·rename_i r k bO len
   simp only [Option.some.injEq,Prod.mk.injEq] at h
   obtain ⟨rfl,rfl⟩:=h
   have e:len=n:=bf _ (by simp)
   subst e
   exact .bm bO len (bf _ (List.mem_cons_self)) (i9 rfl)
 | view ed I f9 =>
  cases x<;>simp only [lo,reduceCtorEq] at h
  rename_i r k bO len
  split at h
  ·rename_i row jM dj Zb
   split at h
   ·rename_i aO
    simp only [Bool.and_eq_true,Option.isNone_iff_eq_none] at aO
    simp only [Option.some.injEq,Prod.mk.injEq] at h
    obtain ⟨rfl,rfl⟩:=h
    have o:de (some row) k=some I:=bf _ (by simp)
    have R:bM I.ck=true:=bf _ (by simp)
    have ah:bO+len≤I.es.length:=bf _ (by simp)
    have aB:hs f9:=bf _ (by simp)
    have aK:BG ed jM bM I.sz ((I.es.drop bO).take len) f9:=bf _ (by simp)
    have dL:s.af r k=some I:=by unfold S.af;rw [dj];exact o
    obtain ⟨rE,pE,E2⟩:=aK
    refine .isl dL R (H.a4 r aO.1 k I dL R) ah aB pE (by rw [rE];simp;omega) fun j y lV aJ nN=> ?_
    rcases E2 j y lV aJ nN with ⟨rfl,a4⟩|⟨cZ,QI,rfl,rfl⟩|⟨jD,Ey,Ec,p,A9,ay,aD,bV,du,rfl⟩
    ·obtain ⟨e,he,A8⟩:=sm nN
     exact .pure (aB e he lV A8) (aU.all _ R _)
    ·exact .mF _ _ _
    ·have lP:s.af ed jD=some p:=by unfold S.af;rw [Zb];exact ay
     have hlen : ∀e∈p.es,e.length=p.sz:=by
      have fl:=di.obj ed jD p lP
      cases ad:au ed jD with
      | none=>rw [ad] at fl;simp only [iT] at fl;rw [fl];simp
      | some q=>rw [ad] at fl;obtain ⟨_,_,_,_,e,_⟩:=fl;exact e
     have PT:hp s aM bM q (.bm ed jD Ey Ec) (.isl p.sz ((p.es.drop Ey).take Ec)):=by
      refine .isl lP aD (H.a4 ed aO.2 jD p lP aD) bV du (fun e he=>hlen e (List.mem_of_mem_drop (List.mem_of_mem_take he))) (by simp;omega) fun j z K0 ca vw=> ?_
      rw [ca] at vw;simp at vw;subst vw
      obtain ⟨e,he,aav⟩:=sm ca
      exact .pure (du e he z aav) (aU.all _ aD _)
     rcases A9 with rfl|⟨b4,adJ,iZ,rfl,rfl,rfl⟩
     ·exact PT
     ·exact .nC PT
   ·simp at h
  ·simp at h
 | pC sz =>
  simp only [lo] at h
  split at h
  ·simp only [Option.some.injEq,Prod.mk.injEq] at h
   obtain ⟨rfl,rfl⟩:=h
   exact .DY _
  ·split at h
   ·rename_i e;subst e
    simp only [Option.some.injEq,Prod.mk.injEq] at h
    obtain ⟨rfl,rfl⟩:=h
    exact .fp (.pure (ak.ye rfl) a5)
   ·simp at h
  ·simp at h
theorem zN (di:h3 g s au w)(H:my s aM bQ bM)(aU:tj q bM){l:List tf}{c dR:List aw}{af:List Prop}(h:lp (lo s.aP bQ aM bM) l c=some (dR,af))(bf:∀p∈af,p)
 (a5 : ∀x∈c,q x) {vs:List Value} (aS:vs.length=c.length) (ak : ∀(j:Nat) x u,c[j]? = some x→vs[j]? = some u→Rel w (s.ok g au w) s.aY (s.a7 au) x u) :
 dR.length=c.length∧ ∀(j:Nat) x cD,c[j]? = some x→dR[j]? = some cD→hp s aM bM q x cD:=by
 obtain ⟨ay,aD,bV⟩:=Dh _ l c dR af h
 refine ⟨ay,fun j x cD aa dB=> ?_⟩
 obtain ⟨y,bW,f1,f2,f3⟩:=bV j x cD aa dB
 have dn:j<vs.length:=by have:=fo aa;omega
 exact IA di H aU f2 (fun p ad=>bf p (f3 p ad)) (a5 x (List.mem_of_getElem? aa)) (ak j x _ aa (List.getElem?_eq_getElem dn))
theorem IB (di:h3 g s au w)(H:my s aM bQ bM)(aU:tj q bM){c:y0}{x cD:aw}{af:List Prop}(h:n4 s.aP bQ aM bM c x=some (cD,af))(bf:∀p∈af,p)
 (a5:q x) {v:Value} (ak:Rel w (s.ok g au w) s.aY (s.a7 au) x v):hp s aM bM q x cD:=by
 cases c with
 | b4 c =>
  simp only [n4] at h
  split at h
  ·rename_i a4
   split at h
   ·simp only [Option.some.injEq,Prod.mk.injEq] at h
    obtain ⟨rfl,rfl⟩:=h
    exact .pure (ak.DZ a4) a5
   ·simp only [Option.some.injEq,Prod.mk.injEq] at h
    obtain ⟨rfl,rfl⟩:=h
    exact .dead _
   ·simp only [Option.some.injEq,Prod.mk.injEq] at h
    obtain ⟨rfl,rfl⟩:=h
    have e:=bf _ (List.mem_singleton.2 rfl)
    subst e
    exact .pure (ak.DZ a4) a5
   ·exact IA di H aU h bf a5 ak
  ·exact IA di H aU h bf a5 ak
 | agg l =>
  cases x<;>simp only [n4,reduceCtorEq] at h
  rename_i c
  split at h
  ·rename_i dR nf aO
   simp only [Option.some.injEq,Prod.mk.injEq] at h
   obtain ⟨rfl,rfl⟩:=h
   obtain ⟨vs,rfl,aS,-,Ba⟩:=ak.xP
   obtain ⟨ay,aD⟩:=zN di H aU aO bf (fun y aJ=>aU.agg _ _ a5 aJ) aS Ba
   exact .agg ay aD
  ·simp at h
 | ptr l =>
  cases x<;>simp only [n4,reduceCtorEq] at h
  rename_i r k i off
  split at h
  ·rename_i I ai
   split at h
   ·rename_i c hf
    split at h
    ·rename_i aO
     simp only [Bool.and_eq_true,Option.isNone_iff_eq_none] at aO
     split at h
     ·rename_i dR nf gZ
      simp only [Option.some.injEq,Prod.mk.injEq] at h
      obtain ⟨rfl,rfl⟩:=h
      have dL:s.af r k=some I:=ai
      have fl:=di.obj r k I dL
      cases ad:au r k with
      | none=>rw [ad] at fl;simp only [iT] at fl;rw [hf] at fl;simp at fl
      | some q =>
       obtain ⟨b,m⟩:=q
       rw [ad] at fl
       obtain ⟨cc,et,g1,g2,g3,g4⟩:=fl
       have Jy:c.length=I.sz:=g3 c (by rw [hf];simp)
       have jx:I.es.flatten=c:=by rw [hf];simp
       have hcs : ∀j:Nat,j<c.length→ ∃u,cc[j]? = some u∧Rel w (s.ok g au w) s.aY (s.a7 au) c[j]! u:=by
        intro j az
        obtain ⟨u,jO,-,gF⟩:=g4 j c[j] (by rw [jx];exact List.getElem?_eq_getElem az)
        exact ⟨u,jO,by rw [getElem!_pos c j az];exact gF⟩
       obtain ⟨ay,aD⟩:=zN (vs:=(List.range c.length).map fun j=>(cc[j]?).getD undef) di H aU gZ (fun p ad=>bf p (by simp [ad])) (fun y _=>aU.all _ aO.1 y) (by simp) (by
        intro j y u aJ hu
        have az:=fo aJ
        rw [List.getElem?_map,List.getElem?_range az] at hu
        simp only [Option.map_some,Option.some.injEq] at hu
        obtain ⟨kY,jO,gF⟩:=hcs j az
        rw [jO] at hu;simp at hu;subst hu
        rw [List.getElem?_eq_getElem az] at aJ;simp at aJ;subst aJ
        rw [getElem!_pos c j az] at gF;exact gF)
       have sI:hs [dR]:=bf _ (by simp)
       refine .eB i off dL aO.1 (H.a4 r aO.2 k I dL aO.1) (by rw [hf];simp) sI (by simp;omega) (by rw [hf];rfl) ?_
       ·intro j y lV aJ nN
        rw [jx] at aJ
        simp only [List.flatten_cons,List.flatten_nil,List.append_nil] at nN
        exact aD j y lV aJ nN
     ·simp at h
    ·simp at h
   ·simp at h
  ·simp at h
 | sS l =>
  simp only [n4] at h
  split at h
  ·rename_i r k
   split at h
   ·rename_i I ai
    split at h
    ·rename_i c hf
     split at h
     ·rename_i aO
      simp only [Bool.and_eq_true,Option.isNone_iff_eq_none] at aO
      split at h
      ·rename_i dR nf gZ
       simp only [Option.some.injEq,Prod.mk.injEq] at h
       obtain ⟨rfl,rfl⟩:=h
       have dL:s.af r k=some I:=ai
       have fl:=di.obj r k I dL
       cases ad:au r k with
       | none=>rw [ad] at fl;simp only [iT] at fl;rw [hf] at fl;simp at fl
       | some q =>
        obtain ⟨b,m⟩:=q
        rw [ad] at fl
        obtain ⟨cc,et,g1,g2,g3,g4⟩:=fl
        have Jy:c.length=I.sz:=g3 c (by rw [hf];simp)
        have jx:I.es.flatten=c:=by rw [hf];simp
        have hcs : ∀j:Nat,j<c.length→ ∃u,cc[j]? = some u∧Rel w (s.ok g au w) s.aY (s.a7 au) c[j]! u:=by
         intro j az
         obtain ⟨u,jO,-,gF⟩:=g4 j c[j] (by rw [jx];exact List.getElem?_eq_getElem az)
         exact ⟨u,jO,by rw [getElem!_pos c j az];exact gF⟩
        obtain ⟨ay,aD⟩:=zN (vs:=(List.range c.length).map fun j=>(cc[j]?).getD undef) di H aU gZ (fun p ad=>bf p (by simp [ad])) (fun y _=>aU.all _ aO.1 y) (by simp) (by
         intro j y u aJ hu
         have az:=fo aJ
         rw [List.getElem?_map,List.getElem?_range az] at hu
         simp only [Option.map_some,Option.some.injEq] at hu
         obtain ⟨kY,jO,gF⟩:=hcs j az
         rw [jO] at hu;simp at hu;subst hu
         rw [List.getElem?_eq_getElem az] at aJ;simp at aJ;subst aJ
         rw [getElem!_pos c j az] at gF;exact gF)
        have sI:hs [dR]:=bf _ (by simp)
        refine .fp (.eB 0 0 dL aO.1 (H.a4 r aO.2 k I dL aO.1) (by rw [hf];simp) sI (by simp;omega) (by rw [hf];rfl) ?_)
        ·intro j y lV aJ nN
         rw [jx] at aJ
         simp only [List.flatten_cons,List.flatten_nil,List.append_nil] at nN
         exact aD j y lV aJ nN
      ·simp at h
     ·simp at h
    ·simp at h
   ·simp at h
  ·simp at h
theorem zT (di:h3 g s au w)(H:my s aM bQ bM)(aU:tj q bM){c:lb}{x cD:aw}{af:List Prop}(h:nx s.aP bQ aM bM c x=some (cD,af))(bf:∀p∈af,p)
 (a5:q x) {v:Value} (ak:Rel w (s.ok g au w) s.aY (s.a7 au) x v):hp s aM bM q x cD:=by
 have key : ∀(l:List y0) (c dR:List aw) (nf:List Prop) (vs:List Value),lp (n4 s.aP bQ aM bM) l c=some (dR,nf)→(∀p∈nf,p)→(∀x∈c,q x)→vs.length=c.length →
  (∀(j:Nat) x u,c[j]? = some x→vs[j]? = some u→Rel w (s.ok g au w) s.aY (s.a7 au) x u)→dR.length=c.length∧ ∀(j:Nat) x cD,c[j]? = some x→dR[j]? = some cD→hp s aM bM q x cD:=by
  intro l c dR nf vs h bf a5 aS ak
  obtain ⟨ay,aD,bV⟩:=Dh _ l c dR nf h
  refine ⟨ay,fun j x cD aa dB=> ?_⟩
  obtain ⟨y,bW,f1,f2,f3⟩:=bV j x cD aa dB
  have dn:j<vs.length:=by have:=fo aa;omega
  exact IB di H aU f2 (fun p ad=>bf p (f3 p ad)) (a5 x (List.mem_of_getElem? aa)) (ak j x _ aa (List.getElem?_eq_getElem dn))
 cases c with
 | bp c =>
  simp only [nx] at h
  split at h
  ·rename_i a4
   split at h
   ·simp only [Option.some.injEq,Prod.mk.injEq] at h
    obtain ⟨rfl,rfl⟩:=h
    exact .pure (ak.Za a4) a5
   ·exact IB di H aU h bf a5 ak
  ·exact IB di H aU h bf a5 ak
 | comp l =>
  cases x<;>simp only [nx,reduceCtorEq] at h
  ·rename_i c
   split at h
   ·rename_i dR nf aO
    simp only [Option.some.injEq,Prod.mk.injEq] at h
    obtain ⟨rfl,rfl⟩:=h
    obtain ⟨vs,rfl,aS,Ba⟩:=ak.xQ
    obtain ⟨ay,aD⟩:=key l c dR nf vs aO bf (fun y aJ=>aU.dK _ _ a5 aJ) aS Ba
    exact .dK ay aD
   ·simp at h
  ·rename_i f c
   split at h
   ·rename_i dR nf aO
    simp only [Option.some.injEq,Prod.mk.injEq] at h
    obtain ⟨rfl,rfl⟩:=h
    obtain ⟨vs,rfl,aS,Ba⟩:=ak.DK
    obtain ⟨ay,aD⟩:=key l c dR nf vs aO bf (fun y aJ=>aU.fn _ _ _ a5 aJ) aS Ba
    exact .fn ay aD
   ·simp at h
theorem PU (di:h3 g s au w)(H:my s aM bQ bM){r:Nat}{jU:Nat→Nat}{row:List ab}(dj:∀k I,de (some row) k=some I→s.af r (jU k)=some I)
 (a5 : ∀k I,de (some row) k=some I→ ∀e∈I.es,∀x∈e,q x) :
 ∀(k:Nat) bW,de (some (row.map (kt bQ))) k=some bW→ ∃I,de (some row) k=some I∧oe s aM bM q I bW:=by
 intro k bW dL
 rw [kd,List.getElem?_map] at dL
 cases aZ:row[k]? with
 | none=>rw [aZ] at dL;simp at dL
 | some I =>
  rw [aZ] at dL
  simp only [Option.map_some,Option.bind_some] at dL
  split at dL
  ·simp at dL
  ·rename_i dE
   simp only [Option.some.injEq] at dL
   subst dL
   have ai:de (some row) k=some I:=by rw [kd,aZ,Option.bind_some,if_neg (by simpa [kt] using dE)]
   have bZ:s.af r (jU k)=some I:=dj k I ai
   refine ⟨I,ai,?_⟩
   have fl:=di.obj r (jU k) I bZ
   have hlen : ∀e∈I.es,e.length=I.sz:=by
    cases ad:au r (jU k) with
    | none=>rw [ad] at fl;simp only [iT] at fl;rw [fl];simp
    | some q=>rw [ad] at fl;obtain ⟨_,_,_,_,e,_⟩:=fl;exact e
   refine ⟨rfl,.inl rfl,by simp [kt],?_,fun j x cD aa dB=> ?_⟩
   ·intro e he
    simp only [kt,List.mem_map] at he
    obtain ⟨ev,lN,rfl⟩:=he
    simpa using hlen ev lN
   ·simp only [kt] at dB
    rw [map_flatten,List.getElem?_map,aa] at dB
    simp only [Option.map_some,Option.some.injEq] at dB
    subst dB
    obtain ⟨e,he,qP⟩:=sm aa
    have aaw:=a5 k I ai e he x qP
    cases ad:au r (jU k) with
    | none=>rw [ad] at fl;simp only [iT] at fl;rw [fl] at aa;simp at aa
    | some ti =>
     obtain ⟨b,m⟩:=ti
     rw [ad] at fl
     obtain ⟨c,et,f1,f2,f3,f4⟩:=fl
     obtain ⟨u,jO,mx,gF⟩:=f4 j x aa
     cases x with
     | ref cH jD qi ZM =>
      cases cp:bQ cH with
      | none=>simp only [nM,cp];exact .dead _
      | some y3=>simp only [nM,cp];exact .ref qi ZM (H.ae _ _ cp _) (by cases gF<;>assumption)
     | bm cH jD Ey Ec =>
      cases cp:bQ cH with
      | none=>simp only [nM,cp];exact .dead _
      | some y3=>simp only [nM,cp];exact .bm Ey Ec (H.ae _ _ cp _) (by cases gF<;>assumption)
     | iD cH cZ QI R =>
      cases cp:bQ cH with
      | none=>simp only [nM,cp];exact .dead _
      | some y3=>simp only [nM,cp];exact .iD R (fun k=>H.ae _ _ cp _)
     | _ =>
      simp only [nM]
      split
      ·rename_i a4;exact .pure (gF.ye a4) aaw
      ·exact .dead _
theorem Di (di:h3 g s au w)(H:my s aM bQ bM)(aU:tj q bM){c:iv}{r:Nat}{jU:Nat→Nat}{row dN:List ab}{af:List Prop}(dj:∀k I,de (some row) k=some I→s.af r (jU k)=some I)
 (h:iU s.aP bQ aM bM c row=some (dN,af)) (bf : ∀p∈af,p) (a5 : ∀k I,de (some row) k=some I→ ∀e∈I.es,∀x∈e,q x) :
 dN.length=row.length∧(∀k I,de (some row) k=some I→I.ck = .live) ∧
 ∀(k:Nat) bW,de (some dN) k=some bW→ ∃I,de (some row) k=some I∧oe s aM bM q I bW:=by
 have hlen : ∀k I,de (some row) k=some I→ ∀e∈I.es,e.length=I.sz:=by
  intro k I ai
  have dL:s.af r (jU k)=some I:=dj k I ai
  have fl:=di.obj r (jU k) I dL
  cases ad:au r (jU k) with
  | none=>rw [ad] at fl;simp only [iT] at fl;rw [fl];simp
  | some q=>rw [ad] at fl;obtain ⟨_,_,_,_,e,_⟩:=fl;exact e
 have sI:tx row→(∀k I,de (some row) k=some I→I.ck = .live) ∧
  ∀(k:Nat) bW,de (some row) k=some bW→ ∃I,de (some row) k=some I∧oe s aM bM q I bW:=by
  intro ad
  have qI : ∀k I,de (some row) k=some I→I∈row:=by
   intro k I ai
   unfold de at ai
   simp only at ai
   split at ai
   ·rename_i bW dL
    split at ai
    ·simp at ai
    ·simp at ai;subst ai;exact List.mem_of_getElem? dL
   ·simp at ai
  refine ⟨fun k I ai=>(ad I (qI k I ai)).2,fun k I ai=>⟨I,ai,rfl,.inl rfl,rfl,hlen k I ai,fun j x cD aa dB=> ?_⟩⟩
  rw [aa] at dB;simp at dB;subst dB
  obtain ⟨e,he,qP⟩:=sm aa
  exact .pure ((ad I (qI k I ai)).1 e he x qP) (a5 k I ai e he x qP)
 cases c with
 | pure =>
  simp only [iU,Option.some.injEq,Prod.mk.injEq] at h
  obtain ⟨rfl,rfl⟩:=h
  exact ⟨rfl,sI (bf _ (by simp))⟩
 | da aQ =>
  simp only [iU,Option.some.injEq,Prod.mk.injEq] at h
  obtain ⟨rfl,rfl⟩:=h
  have e:row=aQ:=bf _ (by simp)
  subst e
  exact ⟨rfl,sI (bf _ (by simp))⟩
 | bt aQ =>
  simp only [iU,Option.some.injEq,Prod.mk.injEq] at h
  obtain ⟨rfl,rfl⟩:=h
  have e:aQ=row.map (kt bQ):=bf _ (by simp)
  have J0:mj row:=bf _ (by simp)
  subst e
  refine ⟨by simp,fun k I ai=>by
   unfold de at ai
   simp only at ai
   split at ai
   ·rename_i bW dL
    split at ai
    ·simp at ai
    ·rename_i dE
     simp at ai;subst ai
     exact (J0 _ (List.mem_of_getElem? dL)).resolve_right dE
   ·simp at ai,PU di H dj a5⟩
 | rx aQ=>cases row with
  | nil=>simp [iU] at h
  | cons I l=>cases l<;>simp [iU] at h
 | drop=>cases row with
  | nil=>simp [iU] at h
  | cons I l=>cases l<;>simp [iU] at h
 | box l =>
  match row,h with
  | [I],h =>
   simp only [iU] at h
   split at h
   ·rename_i c hf
    split at h
    ·rename_i nK
     split at h
     ·rename_i dR nf aO
      simp only [Option.some.injEq,Prod.mk.injEq] at h
      obtain ⟨rfl,rfl⟩:=h
      have h0:de (some [I]) 0=some I:=by rw [l2];simp [nK]
      refine ⟨rfl,fun k p ad=> ?_,fun k p ad=> ?_⟩
      ·rw [l2] at ad
       split at ad
       ·simp at ad;subst ad;exact nK
       ·simp at ad
      ·rw [l2] at ad
       split at ad
       ·rename_i s0
        obtain ⟨rfl,-⟩:=s0
        simp only [Option.some.injEq] at ad;subst ad
        refine ⟨I,h0,?_⟩
        have dL:s.af r (jU 0)=some I:=dj 0 I h0
        have fl:=di.obj r (jU 0) I dL
        cases ke:au r (jU 0) with
        | none=>rw [ke] at fl;simp only [iT] at fl;rw [hf] at fl;simp at fl
        | some q =>
         obtain ⟨b,m⟩:=q
         rw [ke] at fl
         obtain ⟨cc,et,g1,g2,g3,g4⟩:=fl
         have Jy:c.length=I.sz:=g3 c (by rw [hf];simp)
         have jx:I.es.flatten=c:=by rw [hf];simp
         obtain ⟨ay,aD⟩:=zN (vs:=(List.range c.length).map fun j=>(cc[j]?).getD undef) di H aU aO bf (fun y aJ=>a5 0 I h0 c (by rw [hf];simp) y aJ) (by simp) (by
          intro j y u aJ hu
          have az:=fo aJ
          rw [List.getElem?_map,List.getElem?_range az] at hu
          simp only [Option.map_some,Option.some.injEq] at hu
          obtain ⟨kY,jO,-,gF⟩:=g4 j y (by rw [jx];exact aJ)
          rw [jO] at hu;simp at hu;subst hu
          exact gF)
         refine ⟨rfl,.inl rfl,by simp [hf],by simp;omega,fun j x cD aa dB=> ?_⟩
         rw [jx] at aa
         simp only [List.flatten_cons,List.flatten_nil,List.append_nil] at dB
         exact aD j x cD aa dB
       ·simp at ad
     ·simp at h
    ·simp at h
   ·simp at h
  | [],h=>simp [iU] at h
  | _::_::_,h=>simp [iU] at h
end
end Go.VL
