/- Lemmas, plain functions of the program, and what they answer. No condition. -/
import Derived.Below
import Derived.Eval
import Derived.KernelRfl
import Derived.Laws.Append
import Derived.Laws.AppendOwn
import Derived.Laws.BytesString
import Derived.Laws.Cells
import Derived.Laws.CopyRow
import Derived.Laws.Entries
import Derived.Laws.MakeOwn
import Derived.Laws.OwnMore
import Derived.Laws.Rows
import Derived.Laws.Slices
import Derived.Laws.Tables
import Derived.Orders
namespace Go.VL
set_option linter.unusedVariables false
set_option linter.unusedSimpArgs false
open Go
inductive aA where
 | dead
 | b (x:Bool)
 | n (k:IntKind) (x:Int)
 | s (x:ByteArray)
 | ij
 | eK
 | iE
 | ref (r k i off:Nat)
 | bC (r k bZ len:Nat)
 | iF (r c sz:Nat) (h:Option (Nat×Nat))
 | isl (sz:Nat) (es:List (List aA))
 | eE (sz:Nat) (es:List (List aA)) (i off:Nat)
 | ef (sz:Nat) (c:Option (List aA))
 | agg (c:List aA)
 | df (vs:List aA)
 | fn (f:Nat) (cap:List aA)
 deriving Inhabited
inductive gd where
 | live|hn|gone
 deriving DecidableEq,Inhabited
structure ab where
 sz:Nat
 es:List (List aA)
 cu:gd
 deriving Inhabited
structure S where
 E:Nat→aA
 aU:Nat→Option (List ab)
abbrev j2 (v:Value):Bool:=v.oneCell'
abbrev fs:=Nat→Nat→Option (Nat×Nat)
abbrev iQ:=Nat→Nat→Option (Nat×Option (Nat×Nat))
abbrev iZ:=Nat→Nat→Prop
inductive Pure:aA→Prop
 | dead:Pure .dead
 | b (x:Bool):Pure (.b x)
 | n (k:IntKind) (x:Int):Pure (.n k x)
 | s (x:ByteArray):Pure (.s x)
 | ij:Pure .ij
 | eK:Pure .eK
 | iE:Pure .iE
 | isl {sz:Nat} {es:List (List aA)} (h : ∀e∈es,∀x∈e,Pure x):Pure (.isl sz es)
 | eE {sz i off:Nat} {es:List (List aA)} (h : ∀e∈es,∀x∈e,Pure x):Pure (.eE sz es i off)
 | pN (sz:Nat):Pure (.ef sz none)
 | pp {sz:Nat} {c:List aA} (h : ∀x∈c,Pure x):Pure (.ef sz (some c))
 | agg {c:List aA} (h : ∀x∈c,Pure x):Pure (.agg c)
 | df {c:List aA} (h : ∀x∈c,Pure x):Pure (.df c)
 | fn {f:Nat} {c:List aA} (h : ∀x∈c,Pure x):Pure (.fn f c)
def hl (es:List (List aA)):Prop:= ∀e∈es,∀x∈e,Pure x
inductive Rel (w:World) (ok:Nat→Prop) (a1:iZ) (bc:iQ):aA→Value→Prop
 | dead (v:Value):Rel w ok a1 bc .dead v
 | b (x:Bool):Rel w ok a1 bc (.b x) (.bool x)
 | n (k:IntKind) (x:Int):Rel w ok a1 bc (.n k x) (.int k x)
 | s (x:ByteArray):Rel w ok a1 bc (.s x) (.string x)
 | ij:Rel w ok a1 bc .ij (.pointer none)
 | eK:Rel w ok a1 bc .eK (.slice none 0 0)
 | iE (a:Addr) (c:Nat):Rel w ok a1 bc .iE (.slice (some a) 0 c)
 | qh {r k i off:Nat} (a:Option Addr) (hu:a1 r k) (h : ∀sz p,bc r k≠some (sz,some p)):Rel w ok a1 bc (.ref r k i off) (.pointer a)
 | ref {r k i off sz dZ m:Nat} (hu:a1 r k) (h:bc r k=some (sz,some (dZ,m))):Rel w ok a1 bc (.ref r k i off) (.pointer (some ⟨dZ,i*sz+off,none⟩))
 | nu {r k bZ len:Nat} (a:Option Addr) (l c:Nat) (hu:a1 r k) (h:bc r k=none):Rel w ok a1 bc (.bC r k bZ len) (.slice a l c)
 | nP {r k sz:Nat} (hu:a1 r k) (h:bc r k=some (sz,none)):Rel w ok a1 bc (.bC r k 0 0) (.slice none 0 0)
 | bC {r k bZ len sz dZ m c:Nat} {a:Option Addr} (hu:a1 r k) (h:bc r k=some (sz,some (dZ,m))) (aL:len≤c) (aJ:c<9223372036854775808)
  (hm:(bZ+c)*sz=m∧(c=0∨a=some ⟨dZ,bZ*sz,none⟩)):Rel w ok a1 bc (.bC r k bZ len) (.slice a len c)
 | mY {r c sz:Nat} {v:Value} (h:Rel w ok a1 bc (.isl sz []) v):Rel w ok a1 bc (.iF r c sz none) v
 | nW {r c sz k n:Nat} {v:Value} (h:Rel w ok a1 bc (.bC r (k+c) 0 n) v):Rel w ok a1 bc (.iF r c sz (some (k,n))) v
 | j6 (sz:Nat) (a:Option Addr) (c:Nat) (h:a=none→c=0):Rel w ok a1 bc (.isl sz []) (.slice a 0 c)
 | isl {sz:Nat} {es:List (List aA)} {dZ off c:Nat} (cs:Nat→Value) (aY:ok dZ) (al:hl es) (aL : ∀e∈es,e.length=sz) (aJ:es.length≤c)
  (hw : ∀(j:Nat) x,es.flatten[j]? = some x→w.cell? ⟨dZ,off+j,none⟩=some (cs j)) (jR : ∀(j:Nat) x,es.flatten[j]? = some x→j2 (cs j)=true)
  (ap : ∀(j:Nat) x,es.flatten[j]? = some x→Rel w ok a1 bc x (cs j)):Rel w ok a1 bc (.isl sz es) (.slice (some ⟨dZ,off,none⟩) es.length c)
 | eE {sz:Nat} {es:List (List aA)} {dZ R i off:Nat} (cs:Nat→Value) (aY:ok dZ) (al:hl es) (aL : ∀e∈es,e.length=sz)
  (hw : ∀(j:Nat) x,es.flatten[j]? = some x→w.cell? ⟨dZ,R+j,none⟩=some (cs j)) (jR : ∀(j:Nat) x,es.flatten[j]? = some x→j2 (cs j)=true)
  (ap : ∀(j:Nat) x,es.flatten[j]? = some x→Rel w ok a1 bc x (cs j)):Rel w ok a1 bc (.eE sz es i off) (.pointer (some ⟨dZ,R+(i*sz+off),none⟩))
 | pN (sz:Nat):Rel w ok a1 bc (.ef sz none) (.pointer none)
 | pp {sz:Nat} {c:List aA} {v:Value} (h:Rel w ok a1 bc (.eE sz [c] 0 0) v):Rel w ok a1 bc (.ef sz (some c)) v
 | agg {c:List aA} (vs:List Value) (aL:vs.length=c.length) (jR : ∀(j:Nat) v,vs[j]? = some v→j2 v=true)
  (ap : ∀(j:Nat) x v,c[j]? = some x→vs[j]? = some v→Rel w ok a1 bc x v):Rel w ok a1 bc (.agg c) (.agg vs.toArray)
 | df {c:List aA} (vs:List Value) (aL:vs.length=c.length)
  (ap : ∀(j:Nat) x v,c[j]? = some x→vs[j]? = some v→Rel w ok a1 bc x v):Rel w ok a1 bc (.df c) (.tuple vs.toArray)
 | fn {f:Nat} {c:List aA} (vs:List Value) (aL:vs.length=c.length)
  (ap : ∀(j:Nat) x v,c[j]? = some x→vs[j]? = some v→Rel w ok a1 bc x v):Rel w ok a1 bc (.fn f c) (.func (.func f) #[] vs.toArray)
theorem Rel.mono {w bJ:World}{ok kG:Nat→Prop}{a1 m3:iZ}{bc mr:iQ}{a:aA}{v:Value}(h:Rel w ok a1 bc a v)
 (m4 : ∀b,ok b→kG b) (hw : ∀b,ok b→bJ.heap[b]? = w.heap[b]?)
 (i5 : ∀r k,a1 r k→m3 r k) (ld : ∀r k,a1 r k→mr r k=bc r k∨mr r k=none):Rel bJ kG m3 mr a v:=by
 have jR : ∀b R,ok b→bJ.cell? ⟨b,R,none⟩=w.cell? ⟨b,R,none⟩:=fun b R aY=>World.cell?_of_block (hw b aY)
 induction h with
 | dead v=>exact .dead v
 | b x=>exact .b x
 | n k x=>exact .n k x
 | s x=>exact .s x
 | ij=>exact .ij
 | eK=>exact .eK
 | iE a c=>exact .iE a c
 | @qh r k i off a hu h =>
  refine .qh a (i5 r k hu) fun sz p=> ?_
  rcases ld r k hu with e|e<;>rw [e]
  ·exact h sz p
  ·simp
 | @ref r k i off sz dZ m hu h =>
  rcases ld r k hu with e|e
  ·exact .ref (i5 r k hu) (e.trans h)
  ·exact .qh _ (i5 r k hu) fun sz p=>by rw [e];simp
 | @nu r k bZ len a l c hu h=>exact .nu a l c (i5 r k hu) (by rcases ld r k hu with e|e<;>rw [e];exact h)
 | @nP r k sz hu h =>
  rcases ld r k hu with e|e
  ·exact .nP (i5 r k hu) (e.trans h)
  ·exact .nu _ _ _ (i5 r k hu) e
 | @bC r k bZ len sz dZ m c a hu h aL aJ hm =>
  rcases ld r k hu with e|e
  ·exact .bC (i5 r k hu) (e.trans h) aL aJ hm
  ·exact .nu _ _ _ (i5 r k hu) e
 | mY h ih=>exact .mY ih
 | nW h ih=>exact .nW ih
 | j6 sz a c h=>exact .j6 sz a c h
 | isl cs aY al aL aJ BW hC ap ih=>exact .isl cs (m4 _ aY) al aL aJ (fun j x aa=>(jR _ _ aY).trans (BW j x aa)) hC ih
 | eE cs aY al aL BW hC ap ih=>exact .eE cs (m4 _ aY) al aL (fun j x aa=>(jR _ _ aY).trans (BW j x aa)) hC ih
 | pN sz=>exact .pN sz
 | pp h ih=>exact .pp ih
 | agg vs aL hC ap ih=>exact .agg vs aL hC ih
 | df vs aL ap ih=>exact .df vs aL ih
 | fn vs aL ap ih=>exact .fn vs aL ih
structure G where
 mK:World
 A:Nat→Prop
 p5:Nat→Prop
 N:Nat
 m:Nat
 pw:iZ
 rT:iQ
def S.a1 (s:S)(r k:Nat):Prop:=k<((s.aU r).getD []).length
def di (row:Option (List ab))(k:Nat):Option ab :=
 match row with
 | some l=>match l[k]? with
  | some R=>if R.cu = .gone then none else some R
  | none=>none
 | none=>none
def S.af (s:S)(r k:Nat):Option ab:=di (s.aU r) k
def S.bc (s:S)(ax:fs):iQ:=fun r k=>(s.af r k).map fun R=>(R.sz,ax r k)
def S.lR (s:S)(ax:fs)(b:Nat):Prop:= ∃r k R m,s.af r k=some R∧R.cu = .live∧ax r k=some (b,m)
def S.ok (s:S)(g:G)(ax:fs)(w:World)(b:Nat):Prop :=
 b<w.heap.size∧(g.A b∨g.mK.heap.size≤b∨g.p5 b)∧ ¬s.lR ax b
def iU (w:World)(ok:Nat→Prop)(a1:iZ)(bc:iQ)(R:ab):Option (Nat×Nat)→Prop
 | none=>R.es=[]
 | some (dZ,m)=> ∃c eF,w.heap[dZ]? = some (.cells c eF (0,0))∧c.size=m∧(∀e∈R.es,e.length=R.sz) ∧
  ∀(j:Nat) x,R.es.flatten[j]? = some x→ ∃v,c[j]? = some v∧j2 v=true∧Rel w ok a1 bc x v
structure Bx (g:G) (w:World):Prop where
 os:w.os=g.mK.os
 tape:w.tape=g.mK.tape
 output:w.output=g.mK.output
 size:g.mK.heap.size≤w.heap.size
 block : ∀b,b<g.mK.heap.size→ ¬g.p5 b→w.heap[b]? = g.mK.heap[b]?
structure h6 (g:G) (s:S) (ax:fs) (w:World):Prop where
 obj : ∀r k R,s.af r k=some R→iU w (s.ok g ax w) s.a1 (s.bc ax) R (ax r k)
 inj : ∀r k R eG dJ b9 b m a6,s.af r k=some R→s.af eG dJ=some b9→ax r k=some (b,m)→ax eG dJ=some (b,a6)→r=eG∧k=dJ
 own : ∀r k R b m,s.af r k=some R→ax r k=some (b,m)→g.mK.heap.size≤b∨g.p5 b
 g7:Bx g w
 mlt : ∀b,g.p5 b→b<g.mK.heap.size
 nz : ∀b,g.A b→b<g.mK.heap.size
 stay : ∀j k,g.pw j k→s.a1 j k∧(s.bc ax j k=g.rT j k∨s.bc ax j k=none)
 low : ∀j k,g.pw j k→j<g.m
structure cQ (g:G) (s:S) (ax:fs) (a:Act) (w:World):Prop extends h6 g s ax w where
 env : ∀t,Rel w (s.ok g ax w) s.a1 (s.bc ax) (s.E t) (a.tmps.getD t undef)
 defers:a.defers=[]
 jv:g.N≤a.tmps.size
def ofValue:Value→aA
 | .bool x=> .b x
 | .int k x=> .n k x
 | .string x=> .s x
 | .pointer none=> .ij
 | .slice none 0 0=> .eK
 | _=> .dead
theorem OI {w:World}{ok:Nat→Prop}{a1:iZ}{bc:iQ}(v:Value):Rel w ok a1 bc (ofValue v) v:=by
 unfold ofValue
 split<;>constructor
def eO (E:Nat→aA):Operand→aA
 | .tmp t=>E t
 | .const v=>ofValue v
 | .global _=> .dead
 | .func f=> .fn f []
theorem cQ.eval {g:G}{s:S}{ax:fs}{a:Act}{w:World}(h:cQ g s ax a w)(x:Operand):
 Rel w (s.ok g ax w) s.a1 (s.bc ax) (eO s.E x) (a.eval x):=by
 cases x with
 | tmp t=>exact h.env t
 | const v=>exact OI v
 | global g=>exact .dead _
 | func f=>exact .fn [] rfl (fun j x v aa=>by simp at aa)
def aA.cells:aA→List aA
 | .agg c=>c
 | x=>[x]
def aA.one:aA→Bool
 | .dead | .agg _ | .df _=>false
 | _=>true
def aA.yx:aA→Bool
 | .dead | .df _=>false
 | _=>true
theorem aA.OJ {v:aA}(h:v.yx=true):v.one=true∨ ∃c,v = .agg c:=by
 cases v<;>first|exact .inl rfl|exact .inr ⟨_,rfl⟩|simp [aA.yx] at h
theorem Rel.j2 {w:World}{ok:Nat→Prop}{a1:iZ}{bc:iQ}{a:aA}{v:Value}(h:Rel w ok a1 bc a v)(bH:a.one=true):j2 v=true:=by
 cases h with
 | pp h=>cases h;rfl
 | mY h=>cases h<;>rfl
 | nW h=>cases h<;>rfl
 | _=>first|rfl|simp [aA.one] at bH
theorem Rel.cellsOf {w:World}{ok:Nat→Prop}{a1:iZ}{bc:iQ}{a:aA}{v:Value}(h:Rel w ok a1 bc a v)(bH:a.one=true∨ ∃c,a = .agg c):
 ∃vs:List Value,v.cells=vs.toArray∧vs.length=a.cells.length∧(∀(j:Nat) x,vs[j]? = some x→VL.j2 x=true) ∧
  ∀(j:Nat) x u,a.cells[j]? = some x→vs[j]? = some u→Rel w ok a1 bc x u:=by
 rcases bH with bH|⟨c,rfl⟩
 ·have aJ:=h.j2 bH
  refine ⟨[v],?_,?_,?_,?_⟩
  ·cases v<;>first|rfl|simp [VL.j2,Value.oneCell'] at aJ
  ·cases a<;>first|rfl|simp [aA.one] at bH
  ·intro j x aa
   cases j with
   | zero=>simp at aa;subst aa;exact aJ
   | succ j=>simp at aa
  ·intro j x u aa hu
   have e:a.cells=[a]:=by cases a<;>first|rfl|simp [aA.one] at bH
   rw [e] at aa
   cases j with
   | zero=>simp at aa hu;subst aa;subst hu;exact h
   | succ j=>simp at aa
 ·cases h with
  | agg vs aL jR ap=>exact ⟨vs,rfl,aL,jR,ap⟩
end Go.VL
namespace Go.VL
set_option linter.unusedVariables false
set_option linter.unusedSimpArgs false
open Go
def S.put (s:S)(dst:Option Tmp)(v:aA):S :=
 match dst with
 | some t=>{s with E:=fun u=>if u=t then v else s.E u}
 | none=>s
def S.setRow (s:S)(r:Nat)(row:List ab):S:={s with aU:=fun q=>if q=r then some row else s.aU q}
@[simp] theorem S.uo (s:S) (dst:Option Tmp) (v:aA):(s.put dst v).aU=s.aU:=by cases dst<;>rfl
@[simp] theorem S.afk (s:S) (r:Nat) (row:List ab):(s.setRow r row).E=s.E:=rfl
theorem AM {s bR:S}(h:bR.aU=s.aU):bR.af=s.af:=by funext r k;simp [S.af,h]
theorem yy {s bR:S}(h:bR.aU=s.aU):bR.a1=s.a1:=by funext r k;simp [S.a1,h]
theorem yz {s bR:S}(h:bR.aU=s.aU)(ax:fs):bR.bc ax=s.bc ax:=by unfold S.bc;rw [AM h]
theorem WV {s bR:S}(h:bR.aU=s.aU)(ax:fs):bR.lR ax=s.lR ax:=by unfold S.lR;rw [AM h]
theorem AN {s bR:S}(h:bR.aU=s.aU)(g:G)(ax:fs)(w:World):bR.ok g ax w=s.ok g ax w:=by
 funext b;unfold S.ok;rw [WV h]
theorem h6.congr {g:G}{s bR:S}{ax:fs}{w:World}(h:h6 g s ax w)(e:bR.aU=s.aU):h6 g bR ax w where
 obj:=by rw [AM e,yy e,yz e,AN e];exact h.obj
 inj:=by rw [AM e];exact h.inj
 own:=by rw [AM e];exact h.own
 g7:=h.g7
 mlt:=h.mlt
 nz:=h.nz
 stay:=by rw [yy e,yz e];exact h.stay
 low:=h.low
theorem YJ (a:Act)(dst:Option Tmp)(v:Value)(t:Nat)(eZ:∀d,dst=some d→d<a.tmps.size):
 (a.put dst v).tmps.getD t undef=if dst=some t then v else a.tmps.getD t undef:=by
 cases dst with
 | none=>simp [Act.put]
 | some d =>
  have:=eZ d rfl
  simp only [Act.put,Array.getD_eq_getD_getElem?,Array.getElem?_setIfInBounds,Option.some.injEq]
  by_cases e:d=t
  ·subst e;simp [this]
  ·simp [e]
theorem cQ.put {g:G}{s:S}{ax:fs}{a:Act}{w:World}(h:cQ g s ax a w)(dst:Option Tmp){x:aA}{v:Value}
 (bo : ∀d,dst=some d→d<g.N) (ap:Rel w (s.ok g ax w) s.a1 (s.bc ax) x v):cQ g (s.put dst x) ax (a.put dst v) w where
 toh6:=h.toh6.congr (S.uo s dst x)
 env:=by
  have e:=S.uo s dst x
  rw [AN e,yy e,yz e]
  intro t
  rw [YJ a dst v t fun d tE=>Nat.lt_of_lt_of_le (bo d tE) h.jv]
  cases dst with
  | none=>simpa [S.put] using h.env t
  | some d =>
   simp only [S.put,Option.some.injEq]
   by_cases e:t=d
   ·subst e;simpa using ap
   ·rw [if_neg e,if_neg (Ne.symm e)];exact h.env t
 defers:=by cases dst<;>exact h.defers
 jv:=by cases dst<;>simpa [Act.put] using h.jv
structure Step (g:G) (s:S) (ax:fs) (w:World) (bR:S) (bM:fs) (bJ:World):Prop where
 a1 : ∀r k,s.a1 r k→bR.a1 r k
 bc : ∀r k,s.a1 r k→bR.bc bM r k=s.bc ax r k∨bR.bc bM r k=none
 live : ∀b,bR.lR bM b→s.lR ax b∨w.heap.size≤b
 heap : ∀b,b<w.heap.size→ ¬s.lR ax b→bJ.heap[b]? = w.heap[b]?
 size:w.heap.size≤bJ.heap.size
theorem Step.ok {g:G}{s bR:S}{ax bM:fs}{w bJ:World}(h:Step g s ax w bR bM bJ)(b:Nat)(aY:s.ok g ax w b):bR.ok g bM bJ b :=
 ⟨Nat.lt_of_lt_of_le aY.1 h.size,aY.2.1,fun aL=>by
  rcases h.live b aL with o|o
  ·exact aY.2.2 o
  ·exact absurd aY.1 (by omega)⟩
theorem Step.rel {g:G}{s bR:S}{ax bM:fs}{w bJ:World}(h:Step g s ax w bR bM bJ){x:aA}{v:Value}
 (ap:Rel w (s.ok g ax w) s.a1 (s.bc ax) x v):Rel bJ (bR.ok g bM bJ) bR.a1 (bR.bc bM) x v :=
 ap.mono h.ok (fun b aY=>h.heap b aY.1 aY.2.2) h.a1 h.bc
theorem Step.obj {g:G}{s bR:S}{ax bM:fs}{w bJ:World}(h:Step g s ax w bR bM bJ){R:ab}{p:Option (Nat×Nat)}
 (al : ∀b m,p=some (b,m)→bJ.heap[b]? = w.heap[b]?) (an:iU w (s.ok g ax w) s.a1 (s.bc ax) R p) :
 iU bJ (bR.ok g bM bJ) bR.a1 (bR.bc bM) R p:=by
 cases p with
 | none=>exact an
 | some q =>
  obtain ⟨b,m⟩:=q
  obtain ⟨c,eF,o,J,ak,ay⟩:=an
  refine ⟨c,eF,(al b m rfl).trans o,J,ak,fun j x aa=> ?_⟩
  obtain ⟨v,az,aH,b2⟩:=ay j x aa
  exact ⟨v,az,aH,h.rel b2⟩
theorem Step.stay {g:G}{s bR:S}{ax bM:fs}{w bJ:World}(h:Step g s ax w bR bM bJ)
 (b4 : ∀j k,g.pw j k→s.a1 j k∧(s.bc ax j k=g.rT j k∨s.bc ax j k=none)) : ∀j k,g.pw j k→bR.a1 j k∧(bR.bc bM j k=g.rT j k∨bR.bc bM j k=none):=by
 intro j k aC
 obtain ⟨o,J⟩:=b4 j k aC
 refine ⟨h.a1 j k o,?_⟩
 rcases h.bc j k o with e|e
 ·rw [e];exact J
 ·exact .inr e
theorem Bx.step {g:G}{w bJ:World}(h:Bx g w)(o:bJ.os=w.os)(J:bJ.tape=w.tape)(ak:bJ.output=w.output)(ay:w.heap.size≤bJ.heap.size)
 (aI : ∀b,b<g.mK.heap.size→ ¬g.p5 b→bJ.heap[b]? = w.heap[b]?):Bx g bJ :=
 ⟨o.trans h.os,J.trans h.tape,ak.trans h.output,Nat.le_trans h.size ay,fun b aY hm=>(aI b aY hm).trans (h.block b aY hm)⟩
theorem lx (s:S)(r:Nat)(row:List ab)(q k:Nat):(s.setRow r row).af q k=if q=r then di (some row) k else s.af q k:=by
 unfold S.af S.setRow
 by_cases e:q=r<;>simp [e]
theorem ns (s:S)(r:Nat)(row:List ab)(q k:Nat):(s.setRow r row).a1 q k↔(if q=r then k<row.length else s.a1 q k):=by
 unfold S.a1 S.setRow
 by_cases e:q=r<;>simp [e]
theorem Ep {s:S}{r k:Nat}{R:ab}(h:s.af r k=some R):s.a1 r k:=by
 unfold S.af di at h
 unfold S.a1
 cases ap:s.aU r with
 | none=>rw [ap] at h;simp at h
 | some l =>
  rw [ap] at h
  simp only at h
  rcases Nat.lt_or_ge k l.length with o|o
  ·simpa using o
  ·rw [List.getElem?_eq_none o] at h;simp at h
theorem x4 {s:S}{r:Nat}(h:s.aU r=none)(k:Nat): ¬s.a1 r k:=by simp [S.a1,h]
theorem DV (s:S){r:Nat}{l row:List ab}(ap:s.aU r=some l)(aL:l.length≤row.length)(q k:Nat)(h:s.a1 q k):(s.setRow r row).a1 q k:=by
 rw [ns]
 by_cases e:q=r
 ·subst e;rw [if_pos rfl];simp [S.a1,ap] at h;omega
 ·rw [if_neg e];exact h
def fs.set (ax:fs)(r k:Nat)(p:Option (Nat×Nat)):fs:=fun q j=>if q=r∧j=k then p else ax q j
theorem mi (R:ab)(k:Nat):di (some [R]) k=if k=0∧R.cu≠ .gone then some R else none:=by
 unfold di
 cases k with
 | zero=>by_cases h:R.cu = .gone<;>simp [h]
 | succ k=>simp
theorem Rel.drew {w:World}{ok:Nat→Prop}{a1:iZ}{bc:iQ}{x:aA}{v:Value}(h:Rel w ok a1 bc x v):Rel w.drew ok a1 bc x v :=
 h.mono (fun _ h=>h) (fun _ _=>rfl) (fun _ _ h=>h) (fun _ _ _=> .inl rfl)
theorem iU.drew {w:World}{ok:Nat→Prop}{a1:iZ}{bc:iQ}{R:ab}{p:Option (Nat×Nat)}(h:iU w ok a1 bc R p):iU w.drew ok a1 bc R p:=by
 cases p with
 | none=>exact h
 | some q =>
  obtain ⟨c,eF,o,J,ak,ay⟩:=h
  exact ⟨c,eF,o,J,ak,fun j x aa=>let ⟨v,a,b,c⟩:=ay j x aa;⟨v,a,b,c.drew⟩⟩
theorem h6.drew {g:G}{s:S}{ax:fs}{w:World}(h:h6 g s ax w):h6 g s ax w.drew :=
 {obj:=fun r k R an=>(h.obj r k R an).drew,inj:=h.inj,own:=h.own,g7:=⟨h.g7.os,h.g7.tape,h.g7.output,h.g7.size,h.g7.block⟩,mlt:=h.mlt,nz:=h.nz,stay:=h.stay,low:=h.low}
theorem cQ.drew {g:G}{s:S}{ax:fs}{a:Act}{w:World}(h:cQ g s ax a w):cQ g s ax a w.drew where
 toh6:=h.toh6.drew
 env:=fun t=>(h.env t).drew
 defers:=h.defers
 jv:=h.jv
theorem cQ.alloc {g:G}{s:S}{ax:fs}{a:Act}{w:World}(h:cQ g s ax a w){r:Nat}(ap:s.aU r=none)(R:ab)(aX:R.cu = .live)
 (c:Array Value) (eF:TypeId) (hlen : ∀e∈R.es,e.length=R.sz)
 (aJ : ∀(j:Nat) x,R.es.flatten[j]? = some x→ ∃v,c[j]? = some v∧j2 v=true∧Rel w (s.ok g ax w) s.a1 (s.bc ax) x v) :
 ∃bM,bM r 0=some (w.heap.size,c.size)∧cQ g (s.setRow r [R]) bM a (w.alloc (.cells c eF)) ∧
  ∀x v,Rel w (s.ok g ax w) s.a1 (s.bc ax) x v→Rel (w.alloc (.cells c eF)) ((s.setRow r [R]).ok g bM (w.alloc (.cells c eF))) (s.setRow r [R]).a1 ((s.setRow r [R]).bc bM) x v:=by
 have lL : ∀q k,q≠r→(ax.set r 0 (some (w.heap.size,c.size))) q k=ax q k:=fun q k bi=>by simp [fs.set,bi]
 have bm : ∀q k,q≠r→(s.setRow r [R]).af q k=s.af q k:=fun q k bi=>by rw [lx,if_neg bi]
 have y9 : ∀k,(s.setRow r [R]).af r k=if k=0 then some R else none:=fun k=>by
  rw [lx,if_pos rfl,mi];simp [aX]
 have tw : ∀q k p b m,s.af q k=some p→ax q k=some (b,m)→b<w.heap.size:=fun q k p b m al bi=>by
  have:=h.obj q k p al
  rw [bi] at this
  obtain ⟨dY,mE,fx,_⟩:=this
  exact (Array.getElem?_eq_some_iff.1 fx).1
 have c8:Step g s ax w (s.setRow r [R]) (ax.set r 0 (some (w.heap.size,c.size))) (w.alloc (.cells c eF)):=by
  refine ⟨fun q k bi=>(ns _ _ _ _ _).2 (by rw [if_neg (by rintro rfl;exact x4 ap k bi)];exact bi),fun q k bi=> ?_,fun b aY=> ?_,fun b aY _=>heap_alloc_old w _ b aY,by simp⟩
  ·have cM:q≠r:=by rintro rfl;exact x4 ap k bi
   left
   simp only [S.bc,bm q k cM,lL q k cM]
  ·obtain ⟨q,k,p,m,o,J,ak⟩:=aY
   by_cases e:q=r
   ·subst e
    rw [y9] at o
    by_cases e0:k=0
    ·subst e0;simp [fs.set] at ak;right;omega
    ·simp [e0] at o
   ·rw [bm q k e] at o;rw [lL q k e] at ak
    exact .inl ⟨q,k,p,m,o,J,ak⟩
 refine ⟨ax.set r 0 (some (w.heap.size,c.size)),by simp [fs.set],?_,fun x v=>c8.rel⟩
 refine {toh6:=⟨?_,?_,?_,?_,h.mlt,h.nz,c8.stay h.stay,h.low⟩,env:=fun t=>c8.rel (h.env t),defers:=h.defers,jv:=h.jv}
 ·intro q k p al
  by_cases e:q=r
  ·subst e
   rw [y9] at al
   by_cases e0:k=0
   ·subst e0
    simp at al
    subst al
    simp only [fs.set,and_self,if_true]
    exact ⟨c,eF,heap_alloc_new w _,rfl,hlen,fun j x aa=>let ⟨v,az,aH,b2⟩:=aJ j x aa;⟨v,az,aH,c8.rel b2⟩⟩
   ·simp [e0] at al
  ·rw [bm q k e] at al
   rw [lL q k e]
   exact c8.obj (fun b m hm=>heap_alloc_old w _ b (tw q k p b m al hm)) (h.obj q k p al)
 ·intro q k p hG dJ ka b m a6 o J ak ay
  by_cases e:q=r<;>by_cases eH:hG=r
  ·subst e;subst eH
   rw [y9] at o J
   by_cases e0:k=0<;>by_cases az:dJ=0<;>simp [e0,az] at o J
   exact ⟨rfl,by omega⟩
  ·subst e
   rw [y9] at o;rw [bm _ _ eH] at J;rw [lL _ _ eH] at ay
   by_cases e0:k=0<;>simp [e0] at o
   subst e0
   simp [fs.set] at ak
   have:=tw hG dJ ka b a6 J ay
   omega
  ·subst eH
   rw [bm _ _ e] at o;rw [y9] at J;rw [lL _ _ e] at ak
   by_cases e0:dJ=0<;>simp [e0] at J
   subst e0
   simp [fs.set] at ay
   have:=tw q k p b m o ak
   omega
  ·rw [bm _ _ e] at o;rw [bm _ _ eH] at J;rw [lL _ _ e] at ak;rw [lL _ _ eH] at ay
   exact h.inj q k p hG dJ ka b m a6 o J ak ay
 ·intro q k p b m o J
  by_cases e:q=r
  ·subst e
   rw [y9] at o
   by_cases e0:k=0<;>simp [e0] at o
   subst e0
   simp [fs.set] at J
   left
   have:=h.g7.size
   omega
  ·rw [bm _ _ e] at o;rw [lL _ _ e] at J
   exact h.own q k p b m o J
 ·exact h.g7.step rfl rfl rfl (by simp) fun b aY _=>heap_alloc_old w _ b (Nat.lt_of_lt_of_le aY h.g7.size)
theorem PY (l:List ab)(k:Nat)(R b9:ab)(h:di (some l) k=some R)(aX:b9.cu≠ .gone)(j:Nat):
 di (some (l.set k b9)) j=if j=k then some b9 else di (some l) j:=by
 unfold di at *
 have dB:k<l.length:=by
  rcases Nat.lt_or_ge k l.length with o|o
  ·exact o
  ·simp [List.getElem?_eq_none o] at h
 by_cases e:j=k
 ·subst e;simp [dB,aX]
 ·simp only [List.getElem?_set,if_neg (Ne.symm e),if_neg e]
theorem cQ.write {g:G}{s:S}{ax:fs}{a:Act}{w bJ:World}(h:cQ g s ax a w){r k b m:Nat}{l:List ab}{R:ab}(ap:s.aU r=some l)(an:s.af r k=some R)
 (aX:R.cu = .live) (al:ax r k=some (b,m)) (es:List (List aA)) (c:Array Value) (eF:TypeId)
 (hw:bJ.heap[b]? = some (.cells c eF (0,0))) (eZ:bJ.heap.size=w.heap.size) (vE : ∀q,q≠b→bJ.heap[q]? = w.heap[q]?)
 (q5:bJ.os=w.os) (Lw:bJ.tape=w.tape) (K6:bJ.output=w.output) (hm:c.size=m)
 (hlen : ∀e∈es,e.length=R.sz)
 (aJ : ∀(j:Nat) x,es.flatten[j]? = some x→ ∃v,c[j]? = some v∧j2 v=true∧Rel w (s.ok g ax w) s.a1 (s.bc ax) x v) :
 cQ g (s.setRow r (l.set k {R with es})) ax a bJ ∧
  ∀x v,Rel w (s.ok g ax w) s.a1 (s.bc ax) x v→Rel bJ ((s.setRow r (l.set k {R with es})).ok g ax bJ) (s.setRow r (l.set k {R with es})).a1 ((s.setRow r (l.set k {R with es})).bc ax) x v:=by
 have hh:({R with es}:ab).cu≠ .gone:=by rw [aX];simp
 have bm : ∀q j,(s.setRow r (l.set k {R with es})).af q j=if q=r∧j=k then some {R with es} else s.af q j:=by
  intro q j
  rw [lx]
  by_cases e:q=r
  ·subst e
   have dP:di (some l) k=some R:=by rw [← ap];exact an
   rw [if_pos rfl,PY l k R _ dP hh]
   by_cases aH:j=k<;>simp [aH,S.af,ap]
  ·simp [e]
 have qj:s.lR ax b:=⟨r,k,R,m,an,aX,al⟩
 have c8:Step g s ax w (s.setRow r (l.set k {R with es})) ax bJ:=by
  refine ⟨DV s ap (by simp),fun q j bi=> .inl ?_,fun q bi=> ?_,fun q bi aL=>vE q fun e=>aL (e▸qj),Nat.le_of_eq eZ.symm⟩
  ·simp only [S.bc,bm]
   by_cases e:q=r∧j=k
   ·obtain ⟨rfl,rfl⟩:=e;simp [an]
   ·rw [if_neg e]
  ·obtain ⟨hG,j,p,a6,o,J,ak⟩:=bi
   rw [bm] at o
   by_cases e:hG=r∧j=k
   ·obtain ⟨rfl,rfl⟩:=e
    exact .inl ⟨hG,j,R,a6,an,aX,ak⟩
   ·rw [if_neg e] at o
    exact .inl ⟨hG,j,p,a6,o,J,ak⟩
 refine ⟨{toh6:=⟨?_,?_,?_,?_,h.mlt,h.nz,c8.stay h.stay,h.low⟩,env:=fun t=>c8.rel (h.env t),defers:=h.defers,jv:=h.jv},fun x v=>c8.rel⟩
 ·intro q j p kn
  rw [bm] at kn
  by_cases e:q=r∧j=k
  ·obtain ⟨rfl,rfl⟩:=e
   simp at kn
   subst kn
   rw [al]
   exact ⟨c,eF,hw,hm,hlen,fun j x aa=>let ⟨v,az,aH,b2⟩:=aJ j x aa;⟨v,az,aH,c8.rel b2⟩⟩
  ·rw [if_neg e] at kn
   refine c8.obj (fun jO a6 kH=>vE jO ?_) (h.obj q j p kn)
   rintro rfl
   exact e (h.inj q j p r k R jO a6 m kn an kH al)
 ·intro q j p hG hS ka jO h3 gC o J ak ay
  have key : ∀q j p,(s.setRow r (l.set k {R with es})).af q j=some p→ ∃ka,s.af q j=some ka:=by
   intro q j p bi
   rw [bm] at bi
   by_cases e:q=r∧j=k
   ·obtain ⟨rfl,rfl⟩:=e;exact ⟨R,an⟩
   ·rw [if_neg e] at bi;exact ⟨p,bi⟩
  obtain ⟨ha,acw⟩:=key q j p o
  obtain ⟨h9,BX⟩:=key hG hS ka J
  exact h.inj q j ha hG hS h9 jO h3 gC acw BX ak ay
 ·intro q j p jO a6 o J
  rw [bm] at o
  by_cases e:q=r∧j=k
  ·obtain ⟨rfl,rfl⟩:=e;exact h.own q j R jO a6 an J
  ·rw [if_neg e] at o;exact h.own q j p jO a6 o J
 ·refine h.g7.step q5 Lw K6 (Nat.le_of_eq eZ.symm) fun jO q6 kH=>vE jO ?_
  rintro rfl
  rcases h.own r k R jO m an al with o|o
  ·omega
  ·exact kH o
end Go.VL
namespace Go.VL
set_option linter.unusedVariables false
set_option linter.unusedSimpArgs false
open Go
inductive tP where
 | id
 | gn (es:List (List aA))
 | fM (sz:Nat)
 | i9
 | d3 (x:aA)
 | len (n:Nat)
 | ll (sz:Nat)
 | at_ (j i n:Nat)
 | view (et:Nat) (R:ab) (es:List (List aA))
 deriving Inhabited
inductive zN where
 | cj (c:tP)
 | ptr (l:List tP)
 | tx (l:List tP)
 | agg (l:List tP)
 deriving Inhabited
inductive lm where
 | bN (c:zN)
 | comp (l:List zN)
 deriving Inhabited
inductive iy where
 | pure
 | box (l:List tP)
 | d3 (row:List ab)
 | bw (row:List ab)
 | rx (row:List ab)
 | drop
 deriving Inhabited
structure nA where
 bo:List (Nat×Nat):=[]
 du:Option (Nat×Nat):=none
 deriving DecidableEq
inductive Src where
 | row (r:Nat)
 | af (r k:Nat) (R:ab)
 deriving Inhabited
structure CC where
 aM:List Src:=[]
 cr:List iy:=[]
 ac:List lm
 r:aA
 dj:List (List ab):=[]
 eh:lm:= .bN (.cj .id)
 e1:List iy:=[]
 dv:List Nat:=[]
 dq:Bool:=true
inductive fE where
 | none
 | aj (t:Bool)
 | cA (c:List aA)
 | hv (R:ab) (c:List aA)
 | cU
 | call (c:CC)
 | aZ (m:Nat) (R:Option ab:=Option.none)
 | eR (t:Nat) (v:aA) (a:fE)
 | sR (r:Nat) (a:fE)
 | CD (r n:Nat) (a:fE)
structure hD where
 val:aA
 fQ:List (Nat×List ab):=[]
 fo:List Prop:=[]
def A5 (P:Program)(t:TypeId):Bool :=
 match P.underlying t with
 | some (.struct _)|some (.array _ _)=>true
 | _=>false
def za (nH:List Int):ByteArray:=nH.foldl (fun r n=>r.push (UInt8.ofNat n.toNat)) ByteArray.empty
def bytesOf:List (List aA)→Option (List Int)
 | []=>some []
 | [.n .u8 n]::es=>(bytesOf es).map (n :: ·)
 | _=>none
def elemAt (es:List (List aA))(i:Nat):fE→Option (List aA×List Prop)
 | .cA c=>some (c,[es[i]? = some c])
 | .hv _ c=>some (c,[es[i]? = some c])
 | _=>match es[i]? with
  | some c=>some (c,[])
  | none=>none
def oJ (row:Option (List ab))(k:Nat):fE→Option (ab×List Prop)
 | .hv R _=>match row with
  | some row=>some (R,[di (some row) k=some R])
  | none=>none
 | _=>match di row k with
  | some R=>some (R,[])
  | none=>none
def qU (P:Program)(t:TypeId)(c:List aA)(off:Nat):Option aA :=
 if !((P.underlying t).isSome && (P.info? t).isSome) then none else
 if A5 P t then (if off+P.cellsOf t≤c.length then some (.agg ((c.drop off).take (P.cellsOf t))) else none)
 else match c[off]? with
  | some x=>if x.one then some x else none
  | none=>none
def K7 (op:BinOp)(x y:aA):Option (aA×List Prop) :=
 match x,y with
 | .n k a,.n dJ b =>
  match op with
  | .shl=>some (.n k (k.wrap (a*2 ^ (min b.toNat k.bits))),[0≤b])
  | .shr=>some (.n k (a.fdiv (2 ^ (min b.toNat k.bits))),[0≤b])
  | _=>if k≠dJ then none else
   match op with
   | .add=>some (.n k (k.wrap (a+b)),[])
   | .sub=>some (.n k (k.wrap (a-b)),[])
   | .mul=>some (.n k (k.wrap (a*b)),[])
   | .quo=>some (.n k (k.wrap (a.tdiv b)),[b≠0])
   | .rem=>some (.n k (a.tmod b),[b≠0])
   | .and=>some (.n k (k.wrap ((BitVec.ofInt k.bits a &&& BitVec.ofInt k.bits b).toNat)),[])
   | .or=>some (.n k (k.wrap ((BitVec.ofInt k.bits a ||| BitVec.ofInt k.bits b).toNat)),[])
   | .xor=>some (.n k (k.wrap ((BitVec.ofInt k.bits a ^^^ BitVec.ofInt k.bits b).toNat)),[])
   | .eql=>some (.b (a == b),[])
   | .neq=>some (.b (a != b),[])
   | .lss=>some (.b (decide (a<b)),[])
   | .leq=>some (.b (decide (a≤b)),[])
   | .gtr=>some (.b (decide (b<a)),[])
   | .geq=>some (.b (decide (b≤a)),[])
   | _=>none
 | .s a,.s b =>
  match op with
  | .add=>some (.s (a++b),[a.size+b.size<9223372036854775808])
  | .eql=>some (.b (a.toList == b.toList),[])
  | .neq=>some (.b (!(a.toList == b.toList)),[])
  | _=>none
 | _,_=>none
def sG (P:Program)(t:TypeId)(x y:aA):Option Bool :=
 match P.underlying t,x,y with
 | some .bool,.b a,.b c=>some (a == c)
 | some (.pointer _),.ij,.ij=>some true
 | some (.pointer _),.eE ..,.ij=>some false
 | some (.pointer _),.ij,.eE .. => some false
 | some (.slice _),.eK,.eK=>some true
 | some (.slice _),.iE,.eK=>some false
 | _,_,_=>none
def Lx (op:UnOp)(x:aA):Option aA :=
 match op,x with
 | .neg,.n k a=>some (.n k (k.wrap (0-a)))
 | .not,.b a=>some (.b (!a))
 | _,_=>none
def fieldsOf (P:Program)(t:TypeId):Option (Array Field) :=
 match P.underlying t with
 | some (.struct jW)=>some jW
 | _=>none
def qk (P:Program)(t:TypeId):Option TypeId :=
 match P.underlying t with
 | some (.slice e)=>some e
 | _=>none
def qJ (P:Program)(t:TypeId):Option (List aA) :=
 match P.info? t with
 | some i=>match i.zero with
  | some v=>if v.cells.toList.all (·.oneCell') then some (v.cells.toList.map ofValue) else none
  | none=>none
 | none=>none
def Bz (P:Program)(t:TypeId):Option (Nat×TypeId) :=
 match P.underlying t with
 | some (.array n e)=>if (P.info? e).isSome∧P.cellsOf e≠0∧1<n then some (n,e) else none
 | _=>none
def qm (j:Int):List aA→List aA→Option (List aA)
 | [],[]=>some []
 | .n k x::a,.n dJ y::b=>if k=dJ then (qm j a b).map (.n k (if j=0 then x else y) :: ·) else none
 | _,_=>none
def Ky (P:Program)(t:TypeId)(x kb:aA):Option hD :=
 match Bz P t,x,kb with
 | some (2,e),.agg cs,.n _ j=>match qU P e cs (0*P.cellsOf e),qU P e cs (1*P.cellsOf e) with
  | some (.agg a),some (.agg b)=>(qm j a b).map fun c=>{val:= .agg c,fo:=[0≤j,j<2]}
  | _,_=>none
 | _,_,_=>none
def y1 (P:Program)(aU:Nat→Option (List ab))(t:TypeId)(x kb:aA)(cJ:fE):Option hD :=
 match Bz P t,x,kb with
 | some (n,e),.ref r k i off,.n _ j=>match oJ (aU r) k cJ with
  | some (af,cb)=>match elemAt af.es i cJ with
   | some (_,a4)=>some {val:= .ref r k i (off+j.toNat*P.cellsOf e),fo:=cb++a4++[0≤j,j<n]}
   | none=>none
  | none=>none
 | _,_,_=>none
def A6:aA→aA→aA
 | .eK,.isl sz []=> .isl sz []
 | .ij,.ef sz none=> .ef sz none
 | .eK,.iF r c sz none=> .iF r c sz none
 | x,_=>x
def rG:List aA→List aA→List aA
 | x::z,y::c=>A6 x y::rG z c
 | z,_=>z
def tm (z:List aA):fE→List aA
 | .cA c=>rG z c
 | _=>z
def setCells (c:List aA)(off:Nat)(vs:List aA):List aA:=c.take off++vs++c.drop (off+vs.length)
def sB:List aA→List (Nat×Nat×aA)→Option (List aA)
 | c,[]=>some c
 | c,(off,size,x)::rest =>
  if x.yx && x.cells.length=size && decide (off+size≤c.length) then sB (setCells c off x.cells) rest else none
def y2 (sz:Nat):List (List aA)→List (Nat×aA)→Option (List (List aA))
 | es,[]=>some es
 | es,(i,x)::rest=>if x.yx && x.cells.length=sz && decide (i<es.length) then y2 sz (es.set i x.cells) rest else none
def aw:Option aA→Nat→Option (Nat×List Prop)
 | none,d=>some (d,[])
 | some (.n _ x),_=>some (x.toNat,[0≤x])
 | _,_=>none
def JY (P:Program)(t:TypeId)(parts:List (Nat×aA)):Option hD :=
 match Bz P t,qJ P t with
 | some (_,e),some z=>(sB z (parts.map fun p=>(p.1*P.cellsOf e,P.cellsOf e,p.2))).map fun c=>{val:= .agg c}
 | _,_=>none
def eU (P:Program)(E:Nat→aA)(aU:Nat→Option (List ab))(aV:Nat)(R:Oper)(cJ:fE):Option hD :=
 let hH:=eO E
 match R.op with
 | .move x | .assign x=>some {val:=hH x}
 | .pick c a b =>
  match hH c,cJ with
  | .b x,.aj t=>some {val:=if t then hH a else hH b,fo:=[x=t]}
  | .b true,_=>some {val:=hH a}
  | .b false,_=>some {val:=hH b}
  | _,_=>none
 | .alloc t =>
  match qJ P t with
  | some c=>some {val:= .ref aV 0 0 0,fQ:=[(aV,[⟨c.length,[c],.live⟩])]}
  | none=>none
 | .box _ x =>
  match hH x with
  | .agg c=>some {val:= .ref aV 0 0 0,fQ:=[(aV,[⟨c.length,[c],.live⟩])]}
  | v=>if v.one then some {val:= .ref aV 0 0 0,fQ:=[(aV,[⟨1,[[v]],.live⟩])]} else none
 | .load t x =>
  match hH x with
  | .ref r k i off =>
   match oJ (aU r) k cJ with
   | some (af,cb)=>match elemAt af.es i cJ with
    | some (c,a4)=>match qU P t c off with
     | some v=>some {val:=v,fo:=cb++a4}
     | none=>none
    | none=>none
   | none=>none
  | .eE _ es i off =>
   match elemAt es i cJ with
   | some (c,a4)=>match qU P t c off with
    | some v=>some {val:=v,fo:=a4}
    | none=>none
   | none=>none
  | _=>none
 | .store t x y =>
  match hH x with
  | .ref r k i off =>
   match aU r with
   | none=>none
   | some row =>
   match oJ (some row) k cJ with
   | some (af,cb) =>
    if af.cu≠ .live then none else
    let v:=hH y
    if v.yx=false then none else
    if v.cells.length≠P.cellsOf t∨(P.info? t).isSome=false then none else
    match cJ with
    | .cU=>if off=0 then some {val:= .dead,fQ:=[(r,row.set k {af with es:=af.es.set i v.cells})],fo:=cb++[i<af.es.length,v.cells.length=af.sz]} else none
    | _=>match elemAt af.es i cJ with
     | some (c,a4)=>if off+v.cells.length≤c.length then some {val:= .dead,fQ:=[(r,row.set k {af with es:=af.es.set i (setCells c off v.cells)})],fo:=cb++a4} else none
     | none=>none
   | none=>none
  | _=>none
 | .nilCheck x =>
  match hH x with
  | .ref r k i off=>match oJ (aU r) k cJ with
   | some (af,cb)=>match elemAt af.es i cJ with
    | some (_,a4)=>some {val:= .ref r k i off,fo:=cb++a4}
    | none=>none
   | none=>none
  | .eE sz es i off=>some {val:= .eE sz es i off}
  | .fn f c=>some {val:= .fn f c}
  | _=>none
 | .binOp op t x y _ =>
  match K7 op (hH x) (hH y) with
  | some (v,af)=>some {val:=v,fo:=af}
  | none=>match op with
   | .eql=>(sG P t (hH x) (hH y)).map fun r=>{val:= .b r}
   | .neq=>(sG P t (hH x) (hH y)).map fun r=>{val:= .b (!r)}
   | _=>none
 | .unOp op _ x=>(Lx op (hH x)).map fun v=>{val:=v}
 | .convert src dst x =>
  match P.underlying dst,hH x with
  | some (.int k),.n _ a=>if (P.underlying src).isSome then some {val:= .n k (k.wrap a)} else none
  | some .string,.bC r k bZ len =>
   match (qk P src).bind P.underlying,di (aU r) k with
   | some (.int .u8),some af=>match bytesOf ((af.es.drop bZ).take len) with
    | some nH=>if bZ+len≤af.es.length∧af.sz=1 then some {val:= .s (za nH)} else none
    | none=>none
   | _,_=>none
  | _,_=>none
 | .makeFunc (.func f) first captured =>
  if first.size=0 then some {val:= .fn f (captured.toList.map hH)} else none
 | .makeSlice t l c =>
  match qk P t,hH l,hH c with
  | some e,.n _ l,.n _ c =>
   match P.info? e,qJ P e with
   | some i,some z=>if z.length=i.size then some {val:= .bC aV 0 0 l.toNat,fQ:=[(aV,[⟨z.length,List.replicate l.toNat (tm z cJ),.live⟩])],fo:=[0≤l,l≤c,(i.bytes:Int)*c≤281474976710656,c<9223372036854775808]} else none
   | _,_=>none
  | _,_,_=>none
 | .fieldAddr t x f =>
  match fieldsOf P t with
  | some jW=>match jW[f]? with
   | some fd=>if P.cellsOf fd.type=0 then none else
    match hH x with
    | .ref r k i off=>match oJ (aU r) k cJ with
     | some (af,cb)=>match elemAt af.es i cJ with
      | some (_,a4)=>some {val:= .ref r k i (off+fd.offset),fo:=cb++a4}
      | none=>none
     | none=>none
    | .eE sz es i off=>some {val:= .eE sz es i (off+fd.offset)}
    | _=>none
   | none=>none
  | none=>none
 | .field t x f =>
  match fieldsOf P t with
  | some jW=>match jW[f]?,hH x with
   | some fd,.agg c=>(qU P fd.type c fd.offset).map fun v=>{val:=v}
   | _,_=>none
  | none=>none
 | .indexAddr t x kb =>
  match qk P t,hH kb with
  | some e,.n _ j =>
   match hH x with
   | .isl sz es=>if sz=P.cellsOf e∧sz≠0 then some {val:= .eE sz es j.toNat 0,fo:=[0≤j,j<es.length]} else none
   | .bC r k bZ len=>match aU r with
    | some row=>match oJ (some row) k cJ with
     | some (af,cb)=>if af.sz=P.cellsOf e∧af.sz≠0 then some {val:= .ref r k (bZ+j.toNat) 0,fo:=cb++[0≤j,j<len]} else none
     | none=>none
    | none=>none
   | _=>none
  | _,_=>y1 P aU t (hH x) (hH kb) cJ
 | .index t x kb =>
  match P.underlying t,hH x,hH kb with
  | some .string,.s s,.n _ j=>some {val:= .n .u8 (s.data.toList.getD j.toNat 0).toNat,fo:=[0≤j,j<s.size]}
  | _,_,_=>Ky P t (hH x) (hH kb)
 | .extract x i =>
  match hH x with
  | .df vs=>(vs[i]?).map fun v=>{val:=v}
  | _=>none
 | .slice t x bZ ai none =>
  match P.underlying t,hH x with
  | some (.slice e),.isl sz es =>
   match aw (bZ.map hH) 0,aw (ai.map hH) es.length with
   | some (l,cb),some (h,a4)=>if sz=P.cellsOf e∧sz≠0 then some {val:= .isl sz ((es.drop l).take (h-l)),fo:=cb++a4++[l≤h,h≤es.length]} else none
   | _,_=>none
  | some (.slice e),.bC r k F6 len =>
   match aU r with
   | none=>none
   | some row=>match oJ (some row) k cJ with
    | none=>none
    | some (af,TD) =>
     match aw (bZ.map hH) 0,aw (ai.map hH) len with
     | some (l,cb),some (h,a4)=>if af.sz=P.cellsOf e∧af.sz≠0 then some {val:= .bC r k (F6+l) (h-l),fo:=TD++cb++a4++[l≤h,h≤len]} else none
     | _,_=>none
  | some .string,.s s =>
   match aw (bZ.map hH) 0,aw (ai.map hH) s.size with
   | some (l,cb),some (h,a4)=>some {val:= .s (s.extract l h),fo:=cb++a4++[l≤h,h≤s.size]}
   | _,_=>none
  | _,_=>none
 | .build t parts =>
  match fieldsOf P t,qJ P t with
  | some jW,some z =>
   if jW.toList.all (fun f=>(P.info? f.type).isSome)=false then none else
   match parts.toList.mapM fun (p:Nat×Operand)=>(jW[p.1]?).map fun fd=>(fd.offset,P.cellsOf fd.type,hH p.2) with
   | some l=>(sB z l).map fun c=>{val:= .agg c}
   | none=>none
  | _,_=>JY P t (parts.toList.map fun p=>(p.1,hH p.2))
 | .buildSlice t len parts =>
  match qk P t with
  | some e=>match qJ P e with
   | some z =>
    if len*z.length>16777216∨z.length≠P.cellsOf e∨z.length=0 then none else
    match y2 z.length (List.replicate len z) (parts.toList.map fun p=>(p.1,hH p.2)) with
    | some es=>some {val:= .bC aV 0 0 len,fQ:=[(aV,[⟨z.length,es,.live⟩])]}
    | none=>none
   | none=>none
  | none=>none
 | .call {callee:= .builtin .len,args,argTypes} =>
  match args.toList.map hH,P.underlying (argTypes.getD 0 0),decide (argTypes.size=1) with
  | [.isl _ es],some (.slice _),true=>some {val:= .n .i64 es.length}
  | [.bC r k _ len],some (.slice _),true=>match aU r with
   | some row=>match oJ (some row) k cJ with
    | some (_,cb)=>some {val:= .n .i64 len,fo:=cb}
    | none=>none
   | none=>none
  | [.eK],some (.slice _),true=>some {val:= .n .i64 0}
  | [.s x],some .string,true=>some {val:= .n .i64 x.size}
  | _,_,_=>none
 | _=>none
end Go.VL
namespace Go.VL
set_option linter.unusedVariables false
set_option linter.unusedSimpArgs false
open Go
theorem pE {α:Type}{sz:Nat}(b4:0<sz): ∀(es:List (List α)) (_ : ∀e∈es,e.length=sz) (j:Nat),
 es.flatten[j]? = (es[j / sz]?).bind (·[j % sz]?)
 | [],_,j=>by simp
 | e::es,h,j=>by
  have he:e.length=sz:=h e (by simp)
  rw [List.flatten_cons,List.getElem?_append]
  by_cases aC:j<sz
  ·rw [if_pos (by omega),Nat.div_eq_of_lt aC,Nat.mod_eq_of_lt aC];simp
  ·rw [if_neg (by omega),he,pE b4 es (fun eH lY=>h eH (by simp [lY])) (j-sz)]
   have o:j / sz=(j-sz) / sz+1:=Nat.div_eq_sub_div b4 (by omega)
   have J:j % sz=(j-sz) % sz:=Nat.mod_eq_sub_mod (by omega)
   rw [o,J];simp
theorem AA {α:Type}{sz:Nat}{es:List (List α)}(aL:∀e∈es,e.length=sz){i:Nat}{c:List α}(he:es[i]? = some c){j:Nat}(aC:j<sz):
 es.flatten[i*sz+j]? = c[j]? := by
 have b4:0<sz:=by omega
 rw [pE b4 es aL]
 have o:(i*sz+j) / sz=i:=by
  rw [Nat.mul_comm,Nat.mul_add_div b4,Nat.div_eq_of_lt aC];omega
 have J:(i*sz+j) % sz=j:=by
  rw [Nat.mul_comm,Nat.mul_add_mod,Nat.mod_eq_of_lt aC]
 rw [o,J,he];rfl
theorem OK {α:Type}{sz:Nat}{es:List (List α)}(aL:∀e∈es,e.length=sz){i:Nat}{c dY:List α}(he:es[i]? = some c)(aJ:dY.length=sz)(j:Nat):
 (es.set i dY).flatten[j]? = if i*sz≤j∧j<i*sz+sz then dY[j-i*sz]? else es.flatten[j]? := by
 rcases Nat.eq_zero_or_pos sz with h0|b4
 ·subst h0
  have az : ∀(l:List (List α)),(∀e∈l,e.length=0)→l.flatten=[]:=by
   intro l aL;induction l with
   | nil=>rfl
   | cons a l ih=>rw [List.flatten_cons,ih fun e he=>aL e (by simp [he])];have:=aL a (by simp);simp_all
  rw [az _ aL,az (es.set i dY) (by
   intro e hm
   rcases List.mem_or_eq_of_mem_set hm with h|h
   ·exact aL e h
   ·exact h▸aJ)]
  simp
 ·have Ly : ∀e∈es.set i dY,e.length=sz:=by
   intro e hm
   rcases List.mem_or_eq_of_mem_set hm with h|h
   ·exact aL e h
   ·exact h▸aJ
  have ai:i<es.length:=by
   rcases Nat.lt_or_ge i es.length with h|h
   ·exact h
   ·rw [List.getElem?_eq_none h] at he;simp at he
  rw [pE b4 _ Ly,pE b4 _ aL]
  by_cases bi:j / sz=i
  ·have o:i*sz≤j∧j<i*sz+sz:=by
    subst bi
    constructor
    ·exact Nat.div_mul_le_self j sz
    ·have:=Nat.lt_div_mul_add (a:=j) b4;omega
   rw [if_pos o,bi,List.getElem?_set_self ai]
   have:j % sz=j-i*sz:=by
    subst bi;have:=Nat.div_add_mod j sz;rw [Nat.mul_comm] at this;omega
   simp [this]
  ·have o : ¬(i*sz≤j∧j<i*sz+sz):=by
    rintro ⟨a,b⟩
    apply bi
    obtain ⟨d,rfl⟩ : ∃d,j=i*sz+d:=⟨j-i*sz,by omega⟩
    rw [Nat.mul_comm i sz,Nat.mul_add_div b4,Nat.div_eq_of_lt (by omega)]
    omega
   rw [if_neg o,List.getElem?_set_ne (Ne.symm bi)]
def oV (w:World)(ok:Nat→Prop)(a1:iZ)(bc:iQ)(dZ R sz:Nat)(es:List (List aA)):Prop :=
 (∀e∈es,e.length=sz)∧ ∀(j:Nat) x,es.flatten[j]? = some x→ ∃v,w.cell? ⟨dZ,R+j,none⟩=some v∧j2 v=true∧Rel w ok a1 bc x v
theorem iU.rd {w:World}{ok:Nat→Prop}{a1:iZ}{bc:iQ}{R:ab}{dZ m:Nat}(h:iU w ok a1 bc R (some (dZ,m))):oV w ok a1 bc dZ 0 R.sz R.es:=by
 obtain ⟨c,eF,o,J,ak,ay⟩:=h
 refine ⟨ak,fun j x aa=> ?_⟩
 obtain ⟨v,az,aH,b2⟩:=ay j x aa
 exact ⟨v,by rw [cell_of_row w dZ (0+j) c eF (0,0) o,Nat.zero_add];exact az,aH,b2⟩
theorem Ps {P:Program}{t:TypeId}(h:(P.underlying t).isSome=true)(w:World):(isAgg t).run P w = .ok (A5 P t) w:=by
 cases bo:P.underlying t with
 | none=>simp [bo] at h
 | some d=>cases d<;>simp [isAgg,A5,run_underlying bo,bo]
theorem s9 {P:Program}{t:TypeId}(h:(P.info? t).isSome=true)(w:World):(sizeOf t).run P w = .ok (P.cellsOf t) w:=by
 cases ai:P.info? t with
 | none=>simp [ai] at h
 | some i=>simp [sizeOf,typeInfo,ai,Program.cellsOf]
theorem rC (b R n:Nat):(⟨b,R,none⟩:Addr).add n=⟨b,R+n,none⟩:=by unfold Addr.add;split<;>simp_all
theorem JG {P:Program}{w:World}{ok:Nat→Prop}{a1:iZ}{bc:iQ}{dZ R sz i off:Nat}{es:List (List aA)}{c:List aA}{t:TypeId}{x:aA}
 (iq:oV w ok a1 bc dZ R sz es) (he:es[i]? = some c) (cq:qU P t c off=some x) :
 ∃v,(Instr.loadAt t (.pointer (some ⟨dZ,R+(i*sz+off),none⟩))).run P w = .ok v w∧Rel w ok a1 bc x v:=by
 have hlen:c.length=sz:=iq.1 c (List.mem_of_getElem? he)
 unfold qU at cq
 split at cq
 ·simp at cq
 ·rename_i ai
  simp only [Bool.not_eq_true',Bool.not_eq_false,Bool.and_eq_true] at ai
  have jR : ∀j,j<sz→ ∃y v,c[j]? = some y∧w.cell? ⟨dZ,R+(i*sz+j),none⟩=some v∧j2 v=true∧Rel w ok a1 bc y v:=by
   intro j aC
   have aP:c[j]? = some c[j]:=List.getElem?_eq_getElem (by omega)
   obtain ⟨v,az,aH,b2⟩:=iq.2 (i*sz+j) c[j] (by rw [AA iq.1 he aC,aP])
   exact ⟨_,v,aP,az,aH,b2⟩
  simp only [Instr.loadAt,Instr.sureAddr,loadVar,Sem.run_bind,Sem.run_pure,Result.andThen,Ps ai.1,s9 ai.2]
  split at cq
  ·rename_i rP
   rw [rP]
   split at cq
   ·rename_i hle
    simp at cq;subst cq
    have aL:=run_loadCells (P:=P) w ⟨dZ,R+(i*sz+off),none⟩ (P.cellsOf t) (fun j=>(w.cell? ⟨dZ,R+(i*sz+(off+j)),none⟩).getD undef) (by
     intro j aC
     obtain ⟨y,v,-,az,-,-⟩:=jR (off+j) (by omega)
     rw [rC,show R+(i*sz+off)+j=R+(i*sz+(off+j)) by omega,az];rfl)
    refine ⟨.agg (List.map (fun j=>(w.cell? ⟨dZ,R+(i*sz+(off+j)),none⟩).getD undef) (List.range (P.cellsOf t))).toArray,by simp [aL,Result.andThen,s9 ai.2],?_⟩
    refine .agg _ (by simp;omega) ?_ ?_
    ·intro j v a3
     rw [List.getElem?_map,Option.map_eq_some_iff] at a3
     obtain ⟨q,oO,rfl⟩:=a3
     obtain ⟨rU,zg⟩:=List.getElem?_eq_some_iff.1 oO
     have bi:j<P.cellsOf t:=by simpa using rU
     obtain rfl:j=q:=by simpa using zg
     obtain ⟨y,v,-,az,aH,-⟩:=jR (off+j) (by omega)
     rw [az];exact aH
    ·intro j y v aP a3
     rw [List.getElem?_map,Option.map_eq_some_iff] at a3
     obtain ⟨q,oO,rfl⟩:=a3
     obtain ⟨rU,zg⟩:=List.getElem?_eq_some_iff.1 oO
     have bi:j<P.cellsOf t:=by simpa using rU
     obtain rfl:j=q:=by simpa using zg
     rw [List.getElem?_take,if_pos bi,List.getElem?_drop] at aP
     obtain ⟨ln,v,h0,az,aH,b2⟩:=jR (off+j) (by omega)
     rw [h0] at aP;simp at aP;subst aP
     rw [az];exact b2
   ·simp at cq
  ·rename_i rP
   have rP:A5 P t=false:=by simpa using rP
   rw [rP]
   split at cq
   ·rename_i y aP
    split at cq
    ·simp at cq;subst cq
     have zb:off<sz:=by
      rcases Nat.lt_or_ge off c.length with h|h
      ·omega
      ·rw [List.getElem?_eq_none h] at aP;simp at aP
     obtain ⟨ln,v,h0,az,aH,b2⟩:=jR off zb
     rw [h0] at aP;simp at aP;subst aP
     exact ⟨v,by simp [az],b2⟩
    ·simp at cq
   ·simp at cq
theorem N4 {c:List aA}{off:Nat}{vs:List aA}(h:off+vs.length≤c.length):(setCells c off vs).length=c.length:=by
 simp [setCells];omega
theorem Jw {c:List aA}{off:Nat}{vs:List aA}(h:off+vs.length≤c.length)(j:Nat):
 (setCells c off vs)[j]? = if off≤j∧j<off+vs.length then vs[j-off]? else c[j]? := by
 unfold setCells
 rw [List.append_assoc,List.getElem?_append]
 have o:(c.take off).length=off:=by simp;omega
 rw [o]
 by_cases a:j<off
 ·rw [if_pos a,if_neg (by omega),List.getElem?_take,if_pos a]
 ·rw [if_neg a,List.getElem?_append]
  by_cases b:j<off+vs.length
  ·rw [if_pos (by omega),if_pos ⟨by omega,b⟩]
  ·rw [if_neg (by omega),if_neg (by omega),List.getElem?_drop]
   congr 1;omega
theorem aaq {c:Array Value}{p:Nat}{vs:List Value}(h:p+vs.length≤c.size)(j:Nat):
 (c.toList.take p++vs++c.toList.drop (p+vs.length)).toArray[j]? = if p≤j∧j<p+vs.length then vs[j-p]? else c[j]? := by
 rw [List.getElem?_toArray,List.append_assoc,List.getElem?_append]
 have o:(c.toList.take p).length=p:=by simp;omega
 rw [o]
 by_cases a:j<p
 ·rw [if_pos a,if_neg (by omega),List.getElem?_take,if_pos a,Array.getElem?_toList]
 ·rw [if_neg a,List.getElem?_append]
  by_cases b:j<p+vs.length
  ·rw [if_pos (by omega),if_pos ⟨by omega,b⟩]
  ·rw [if_neg (by omega),if_neg (by omega),List.getElem?_drop,Array.getElem?_toList]
   congr 1;omega
theorem Xb {P:Program}{g:G}{s:S}{ax:fs}{a:Act}{w:World}(h:cQ g s ax a w){r k b m i off:Nat}{l:List ab}{R:ab}{c:List aA}
 (ap:s.aU r=some l) (an:s.af r k=some R) (aX:R.cu = .live) (al:ax r k=some (b,m)) (he:R.es[i]? = some c)
 {t:TypeId} (Lz:(P.info? t).isSome=true) {x:aA} {v:Value} (aa:Rel w (s.ok g ax w) s.a1 (s.bc ax) x v) (lU:x.one=true∨ ∃c,x = .agg c)
 (eZ:x.cells.length=P.cellsOf t) (ik:off+x.cells.length≤c.length) :
 ∃bJ,(Instr.storeAt t (.pointer (some ⟨b,i*R.sz+off,none⟩)) v).run P w = .ok () bJ ∧
  cQ g (s.setRow r (l.set k {R with es:=R.es.set i (setCells c off x.cells)})) ax a bJ:=by
 obtain ⟨vs,a3,qs,jR,fl⟩:=aa.cellsOf lU
 have bm:=h.obj r k R an
 rw [al] at bm
 obtain ⟨cl,eF,o,J,ak,ay⟩:=bm
 have hlen:c.length=R.sz:=ak c (List.mem_of_getElem? he)
 have zc:i*R.sz+off+vs.length≤cl.size:=by
  rcases Nat.eq_zero_or_pos R.sz with cv|cv
  ·have:off=0:=by omega
   have:vs.length=0:=by omega
   rw [cv];omega
  ·have aL:R.es.flatten[i*R.sz+(R.sz-1)]? = some (c[R.sz-1]'(by omega)):=by
    rw [AA ak he (by omega)];exact List.getElem?_eq_getElem (by omega)
   obtain ⟨TE,az,-,-⟩:=ay _ _ aL
   have:=(Array.getElem?_eq_some_iff.1 az).1
   omega
 have ms:=run_storeCells_at P b (i*R.sz+off) eF vs 0 cl w o (by simpa using zc) (fun TE BZ=>by
  obtain ⟨q,bi⟩:=List.getElem?_of_mem BZ
  exact jR q TE bi)
 simp only [Nat.add_zero] at ms
 have iJ:(Instr.storeAt t (.pointer (some ⟨b,i*R.sz+off,none⟩)) v).run P w =
  .ok () (w.setRow b (cl.toList.take (i*R.sz+off)++vs++cl.toList.drop (i*R.sz+off+vs.length)).toArray):=by
  have b4:v.cells.size=P.cellsOf t:=by rw [a3];simpa using qs.trans eZ
  simp only [Instr.storeAt,Instr.sureAddr,storeVar,Sem.run_bind,Sem.run_pure,Result.andThen,s9 Lz,b4,ne_eq,not_true_eq_false,if_false]
  rw [a3]
  simpa using ms
 refine ⟨_,iJ,?_⟩
 have abI:(w.setRow b (cl.toList.take (i*R.sz+off)++vs++cl.toList.drop (i*R.sz+off+vs.length)).toArray).heap.size=w.heap.size:=size_setRow _ _ _
 have vV:(setCells c off x.cells).length=R.sz:=by rw [N4 ik];exact hlen
 refine (h.write ap an aX al _ _ eF (setRow_heap w b cl _ eF _ o) abI (fun q bi=>setRow_other w b q _ bi) rfl rfl rfl ?_ ?_ ?_).1
 ·simp;omega
 ·intro e hm
  rcases List.mem_or_eq_of_mem_set hm with cw|cw
  ·exact ak e cw
  ·exact cw▸vV
 ·intro j y aP
  rw [aaq zc]
  rw [OK ak he vV] at aP
  by_cases mu:i*R.sz≤j∧j<i*R.sz+R.sz
  ·rw [if_pos mu,Jw ik] at aP
   by_cases R5:off≤j-i*R.sz∧j-i*R.sz<off+x.cells.length
   ·rw [if_pos R5] at aP
    rw [if_pos ⟨by omega,by omega⟩]
    have bi:j-(i*R.sz+off)<vs.length:=by omega
    refine ⟨vs[j-(i*R.sz+off)],List.getElem?_eq_getElem bi,jR _ _ (List.getElem?_eq_getElem bi),fl (j-i*R.sz-off) y _ aP ?_⟩
    rw [show j-i*R.sz-off=j-(i*R.sz+off) by omega]
    exact List.getElem?_eq_getElem bi
   ·rw [if_neg R5] at aP
    rw [if_neg (by omega)]
    refine ay j y ?_
    rw [show j=i*R.sz+(j-i*R.sz) by omega,AA ak he (by omega)]
    exact aP
  ·rw [if_neg mu] at aP
   rw [if_neg (by rw [qs];omega)]
   exact ay j y aP
end Go.VL
namespace Go.VL
set_option linter.unusedVariables false
set_option linter.unusedSimpArgs false
open Go
def S.h1 (s:S)(u:List (Nat×List ab)):S:=u.foldl (fun s p=>s.setRow p.1 p.2) s
@[simp] theorem S.afl (s:S):s.h1 []=s:=rfl
@[simp] theorem S.afm (s:S) (p:Nat×List ab):s.h1 [p]=s.setRow p.1 p.2:=rfl
section
variable {w:World} {ok:Nat→Prop} {a1:iZ} {bc:iQ} {v:Value}
theorem Rel.uq {x:Bool}(h:Rel w ok a1 bc (.b x) v):v = .bool x:=by cases h;rfl
theorem Rel.oC {k:IntKind}{x:Int}(h:Rel w ok a1 bc (.n k x) v):v = .int k x:=by cases h;rfl
theorem Rel.y3 {x:ByteArray}(h:Rel w ok a1 bc (.s x) v):v = .string x:=by cases h;rfl
theorem Rel.vp (h:Rel w ok a1 bc .ij v):v = .pointer none:=by cases h;rfl
theorem Rel.qe (h:Rel w ok a1 bc .eK v):v = .slice none 0 0:=by cases h;rfl
theorem Rel.EB (h:Rel w ok a1 bc .iE v): ∃a c,v = .slice (some a) 0 c:=by cases h;exact ⟨_,_,rfl⟩
theorem Rel.PZ {sz:Nat}(h:Rel w ok a1 bc (.ef sz none) v):v = .pointer none:=by cases h;rfl
theorem Rel.JZ {sz:Nat}{c:List aA}(h:Rel w ok a1 bc (.ef sz (some c)) v):Rel w ok a1 bc (.eE sz [c] 0 0) v:=by cases h;assumption
theorem Rel.EQ {f:Nat}{c:List aA}(h:Rel w ok a1 bc (.fn f c) v): ∃vs:List Value,v = .func (.func f) #[] vs.toArray∧vs.length=c.length ∧
 ∀(j:Nat) x u,c[j]? = some x→vs[j]? = some u→Rel w ok a1 bc x u:=by
 cases h with|fn vs aL ap=>exact ⟨vs,rfl,aL,ap⟩
theorem Rel.yE {c:List aA}(h:Rel w ok a1 bc (.agg c) v): ∃vs:List Value,v = .agg vs.toArray∧vs.length=c.length∧(∀(j:Nat) u,vs[j]? = some u→VL.j2 u=true) ∧
 ∀(j:Nat) x u,c[j]? = some x→vs[j]? = some u→Rel w ok a1 bc x u:=by
 cases h with|agg vs aL aJ ap=>exact ⟨vs,rfl,aL,aJ,ap⟩
theorem Rel.yF {c:List aA}(h:Rel w ok a1 bc (.df c) v): ∃vs:List Value,v = .tuple vs.toArray∧vs.length=c.length ∧
 ∀(j:Nat) x u,c[j]? = some x→vs[j]? = some u→Rel w ok a1 bc x u:=by
 cases h with|df vs aL ap=>exact ⟨vs,rfl,aL,ap⟩
theorem Rel.vw {r k i off sz:Nat}{p:Option (Nat×Nat)}(h:Rel w ok a1 bc (.ref r k i off) v)(cq:bc r k=some (sz,p)):
 p=none∨ ∃b m,p=some (b,m)∧v = .pointer (some ⟨b,i*sz+off,none⟩):=by
 cases h with
 | qh a hu a0 =>
  cases p with
  | none=>exact .inl rfl
  | some q=>exact absurd cq (a0 _ _)
 | ref hu h =>
  rw [cq] at h
  simp only [Option.some.injEq,Prod.mk.injEq] at h
  obtain ⟨rfl,rfl⟩:=h
  exact .inr ⟨_,_,rfl,rfl⟩
theorem Rel.Pt {r k i off sz b m:Nat}(h:Rel w ok a1 bc (.ref r k i off) v)(cq:bc r k=some (sz,some (b,m)))(R6:Nat):
 Rel w ok a1 bc (.ref r k i R6) (.pointer (some ⟨b,i*sz+R6,none⟩)):=by
 cases h with
 | qh a hu a0=>exact absurd cq (a0 _ _)
 | ref hu h=>exact .ref hu cq
theorem Rel.yG {sz i off:Nat}{es:List (List aA)}(h:Rel w ok a1 bc (.eE sz es i off) v): ∃dZ R,(ok dZ∧hl es)∧v = .pointer (some ⟨dZ,R+(i*sz+off),none⟩)∧oV w ok a1 bc dZ R sz es:=by
 cases h with
 | eE cs aY al aL hw aJ ap=>exact ⟨_,_,⟨aY,al⟩,rfl,aL,fun j x aa=>⟨cs j,hw j x aa,aJ j x aa,ap j x aa⟩⟩
theorem Rel.A0 {r k bZ len sz:Nat}{p:Option (Nat×Nat)}(h:Rel w ok a1 bc (.bC r k bZ len) v)(cq:bc r k=some (sz,p)):
 (p=none∧bZ=0∧len=0∧v = .slice none 0 0)∨ ∃b m a c,p=some (b,m)∧v = .slice a len c∧len≤c∧c<9223372036854775808∧(c=0∨(a=some ⟨b,bZ*sz,none⟩∧(bZ+c)*sz=m)):=by
 cases h with
 | nu a l c hu a0=>rw [cq] at a0;simp at a0
 | nP hu h =>
  rw [cq] at h
  simp only [Option.some.injEq,Prod.mk.injEq] at h
  exact .inl ⟨h.2,rfl,rfl,rfl⟩
 | bC hu h aL aJ hm =>
  rw [cq] at h
  simp only [Option.some.injEq,Prod.mk.injEq] at h
  obtain ⟨rfl,rfl⟩:=h
  exact .inr ⟨_,_,_,_,rfl,rfl,aL,aJ,hm.2.imp id fun e=>⟨e,hm.1⟩⟩
theorem Rel.vq {r k bZ len sz:Nat}{p:Option (Nat×Nat)}(h:Rel w ok a1 bc (.bC r k bZ len) v)(cq:bc r k=some (sz,p)):
 (p=none∧bZ=0∧len=0∧v = .slice none 0 0)∨ ∃b m a c,p=some (b,m)∧v = .slice a len c∧len≤c∧c<9223372036854775808∧(bZ+c)*sz=m∧(c=0∨a=some ⟨b,bZ*sz,none⟩):=by
 cases h with
 | nu a l c hu a0=>rw [cq] at a0;simp at a0
 | nP hu h =>
  rw [cq] at h
  simp only [Option.some.injEq,Prod.mk.injEq] at h
  exact .inl ⟨h.2,rfl,rfl,rfl⟩
 | bC hu h aL aJ hm =>
  rw [cq] at h
  simp only [Option.some.injEq,Prod.mk.injEq] at h
  obtain ⟨rfl,rfl⟩:=h
  exact .inr ⟨_,_,_,_,rfl,rfl,aL,aJ,hm⟩
theorem Rel.tg {sz:Nat}{es:List (List aA)}(h:Rel w ok a1 bc (.isl sz es) v):
 (es=[]∧ ∃a c,v = .slice a 0 c∧(a=none→c=0))∨ ∃dZ off c,(ok dZ∧hl es)∧v = .slice (some ⟨dZ,off,none⟩) es.length c∧es.length≤c∧oV w ok a1 bc dZ off sz es:=by
 cases h with
 | j6 sz a c h=>exact .inl ⟨rfl,a,c,rfl,h⟩
 | isl cs aY al aL aJ hw hC ap=>exact .inr ⟨_,_,_,⟨aY,al⟩,rfl,aJ,aL,fun j x aa=>⟨cs j,hw j x aa,hC j x aa,ap j x aa⟩⟩
theorem oV.isl {dZ off c sz:Nat}{es:List (List aA)}(h:oV w ok a1 bc dZ off sz es)(aY:ok dZ∧hl es)(aJ:es.length≤c):Rel w ok a1 bc (.isl sz es) (.slice (some ⟨dZ,off,none⟩) es.length c):=by
 have aa : ∀j:Nat,∃v,∀x,es.flatten[j]? = some x→w.cell? ⟨dZ,off+j,none⟩=some v∧VL.j2 v=true∧Rel w ok a1 bc x v:=by
  intro j
  cases aC:es.flatten[j]? with
  | none=>exact ⟨undef,fun x aa=>by simp at aa⟩
  | some y =>
   obtain ⟨v,o⟩:=h.2 j y aC
   exact ⟨v,fun x aa=>by simp at aa;subst aa;exact o⟩
 exact .isl (fun j=>(aa j).choose) aY.1 aY.2 h.1 aJ (fun j x aC=>((aa j).choose_spec x aC).1) (fun j x aC=>((aa j).choose_spec x aC).2.1) (fun j x aC=>((aa j).choose_spec x aC).2.2)
theorem oV.eE {dZ R i off sz:Nat}{es:List (List aA)}(h:oV w ok a1 bc dZ R sz es)(aY:ok dZ∧hl es):Rel w ok a1 bc (.eE sz es i off) (.pointer (some ⟨dZ,R+(i*sz+off),none⟩)):=by
 have aa : ∀j:Nat,∃v,∀x,es.flatten[j]? = some x→w.cell? ⟨dZ,R+j,none⟩=some v∧VL.j2 v=true∧Rel w ok a1 bc x v:=by
  intro j
  cases aC:es.flatten[j]? with
  | none=>exact ⟨undef,fun x aa=>by simp at aa⟩
  | some y =>
   obtain ⟨v,o⟩:=h.2 j y aC
   exact ⟨v,fun x aa=>by simp at aa;subst aa;exact o⟩
 exact .eE (fun j=>(aa j).choose) aY.1 aY.2 h.1 (fun j x aC=>((aa j).choose_spec x aC).1) (fun j x aC=>((aa j).choose_spec x aC).2.1) (fun j x aC=>((aa j).choose_spec x aC).2.2)
end
def Fin (P:Program)(g:G)(s:S)(a:Act)(w:World)(R:Oper)(bs:hD):Prop :=
 ∃v bJ bM,((execOp a.eval R).run P w = .ok (.value v) bJ∨((execOp a.eval R).run P w = .ok .skip bJ∧v=undef)) ∧
  cQ g (s.h1 bs.fQ) bM a bJ∧Rel bJ ((s.h1 bs.fQ).ok g bM bJ) (s.h1 bs.fQ).a1 ((s.h1 bs.fQ).bc bM) bs.val v
section
variable {P:Program} {g:G} {s:S} {ax:fs} {a:Act} {w:World} {R:Oper} {cJ:fE} {aV:Nat} {bs:hD}
theorem hY (h:cQ g s ax a w){v:Value}(iJ:(execOp a.eval R).run P w = .ok (.value v) w)(hu:bs.fQ=[])
 (ap:Rel w (s.ok g ax w) s.a1 (s.bc ax) bs.val v):Fin P g s a w R bs :=
 ⟨v,w,ax,.inl iJ,by rw [hu];exact h,by rw [hu];exact ap⟩
theorem QC {x:Operand}(h:cQ g s ax a w)(an:R.op = .move x∨R.op = .assign x)(ar:eU P s.E s.aU aV R cJ=some bs):Fin P g s a w R bs:=by
 have:bs={val:=eO s.E x}:=by rcases an with an|an<;>simp [eU,an] at ar<;>exact ar.symm
 subst this
 refine hY (v:=a.eval x) h ?_ rfl (h.eval x)
 rcases an with an|an<;>simp [execOp,an]
theorem ZJ {c x y:Operand}(h:cQ g s ax a w)(an:R.op = .pick c x y)(ar:eU P s.E s.aU aV R cJ=some bs)(cy:∀p∈bs.fo,p):Fin P g s a w R bs:=by
 have aJ:=h.eval c
 simp only [eU,an] at ar
 have key : ∀t:Bool,eO s.E c = .b t→bs.fQ=[]→bs.val=(if t then eO s.E x else eO s.E y)→Fin P g s a w R bs:=by
  intro t cq hu a3
  rw [cq] at aJ
  have e:a.eval c = .bool t:=aJ.uq
  refine hY (v:=if t then a.eval x else a.eval y) h (by simp [execOp,an,e,asBool]) hu ?_
  rw [a3];cases t
  ·exact h.eval y
  ·exact h.eval x
 split at ar
 ·rename_i z t cv
  simp at ar;subst ar
  have e:z=t:=cy _ (by simp)
  subst e
  exact key z cv rfl rfl
 ·rename_i cv _;simp at ar;subst ar;exact key true cv rfl rfl
 ·rename_i cv _;simp at ar;subst ar;exact key false cv rfl rfl
 ·simp at ar
theorem EC (h:cQ g s ax a w)(e2:s.aU aV=none){v:Value}{af:ab}{c:Array Value}{eF:TypeId}(aX:af.cu = .live)
 (iJ:(execOp a.eval R).run P w = .ok (.value v) (w.alloc (.cells c eF))) (hu:bs.fQ=[(aV,[af])]) (hlen : ∀e∈af.es,e.length=af.sz)
 (aJ : ∀(j:Nat) x,af.es.flatten[j]? = some x→ ∃v,c[j]? = some v∧j2 v=true∧Rel w (s.ok g ax w) s.a1 (s.bc ax) x v)
 (hval : ∀(bJ:World) (kG:Nat→Prop) (m3:iZ) (mr:iQ),m3 aV 0→mr aV 0=some (af.sz,some (w.heap.size,c.size))→Rel bJ kG m3 mr bs.val v):Fin P g s a w R bs:=by
 obtain ⟨bM,al,b4,-⟩:=h.alloc e2 af aX c eF hlen aJ
 have o:(s.setRow aV [af]).a1 aV 0:=by rw [ns];simp
 have J:(s.setRow aV [af]).bc bM aV 0=some (af.sz,some (w.heap.size,c.size)):=by simp [S.bc,lx,mi,aX,al]
 exact ⟨v,_,bM,.inl iJ,by rw [hu];exact b4,by rw [hu];exact hval _ _ _ _ o J⟩
theorem AB {t:TypeId}{z:List aA}(cv:qJ P t=some z): ∃i ew,P.info? t=some i∧i.zero=some ew∧z=ew.cells.toList.map ofValue ∧
 ∀(j:Nat) x,z[j]? = some x→ ∃v,ew.cells[j]? = some v∧j2 v=true∧ ∀(w:World) (ok:Nat→Prop) (a1:iZ) (bc:iQ),Rel w ok a1 bc x v:=by
 unfold qJ at cv
 cases ai:P.info? t with
 | none=>simp [ai] at cv
 | some i =>
  cases kw:i.zero with
  | none=>simp [ai,kw] at cv
  | some ew =>
   simp only [ai,kw] at cv
   split at cv
   ·rename_i nX
    simp only [Option.some.injEq] at cv
    refine ⟨i,ew,rfl,kw,cv.symm,fun j x aa=> ?_⟩
    subst cv
    rw [List.getElem?_map,Option.map_eq_some_iff] at aa
    obtain ⟨v,a3,rfl⟩:=aa
    refine ⟨v,by rw [← Array.getElem?_toList];exact a3,?_,fun w ok a1 bc=>OI v⟩
    exact List.all_eq_true.1 nX v (List.mem_of_getElem? a3)
   ·simp at cv
theorem YK {t:TypeId}(h:cQ g s ax a w)(e2:s.aU aV=none)(an:R.op = .alloc t)(ar:eU P s.E s.aU aV R cJ=some bs):Fin P g s a w R bs:=by
 simp only [eU,an] at ar
 split at ar
 ·rename_i z cv
  obtain ⟨i,ew,ai,kw,e,jR⟩:=AB cv
  simp only [Option.some.injEq] at ar
  subst ar
  refine EC (v:= .pointer (some ⟨w.heap.size,0,none⟩)) (c:=ew.cells) (eF:=t) (af:=⟨z.length,[z],.live⟩) h e2 rfl ?_ rfl (by simp) ?_ ?_
  ·simp [execOp,an,Instr.alloc,zeroValue,typeInfo,ai,kw,newVar,newRow]
  ·intro j x aa
   simp only [List.flatten_cons,List.flatten_nil,List.append_nil] at aa
   obtain ⟨v,o,J,ak⟩:=jR j x aa
   exact ⟨v,o,J,ak _ _ _ _⟩
  ·intro bJ kG m3 mr hu cq
   have:=Rel.ref (w:=bJ) (ok:=kG) (i:=0) (off:=0) hu cq
   simpa using this
 ·simp at ar
theorem aar {t:TypeId}{x:Operand}(h:cQ g s ax a w)(e2:s.aU aV=none)(an:R.op = .box t x)(ar:eU P s.E s.aU aV R cJ=some bs):Fin P g s a w R bs:=by
 simp only [eU,an] at ar
 have aa:=h.eval x
 have key : ∀af:ab,af.cu = .live→af.es=[(eO s.E x).cells]→af.sz=(eO s.E x).cells.length→((eO s.E x).one=true∨ ∃c,eO s.E x = .agg c) →
  bs.fQ=[(aV,[af])]→bs.val = .ref aV 0 0 0→Fin P g s a w R bs:=by
  intro af aX hx eZ lU hu a3
  obtain ⟨vs,az,aH,b2,dn⟩:=aa.cellsOf lU
  refine EC (v:= .pointer (some ⟨w.heap.size,0,none⟩)) (c:=(a.eval x).cells) (eF:=t) h e2 aX ?_ hu ?_ ?_ ?_
  ·simp [execOp,an,Instr.box,newVar,newRow]
  ·intro e he;rw [hx] at he;simp at he;rw [he,eZ]
  ·intro j y aP
   rw [hx] at aP
   simp only [List.flatten_cons,List.flatten_nil,List.append_nil] at aP
   have aC:j<vs.length:=by
    rcases Nat.lt_or_ge j (eO s.E x).cells.length with cw|cw
    ·omega
    ·rw [List.getElem?_eq_none cw] at aP;simp at aP
   refine ⟨vs[j],by rw [az];simp [aC],b2 j _ (List.getElem?_eq_getElem aC),dn j y _ aP (List.getElem?_eq_getElem aC)⟩
  ·intro bJ kG m3 mr oP cq
   have:=Rel.ref (w:=bJ) (ok:=kG) (i:=0) (off:=0) oP cq
   rw [a3];simpa using this
 split at ar
 ·rename_i c aJ
  simp only [Option.some.injEq] at ar
  subst ar
  exact key _ rfl (by rw [aJ];rfl) (by rw [aJ];rfl) (.inr ⟨c,aJ⟩) rfl rfl
 ·split at ar
  ·rename_i lU
   simp only [Option.some.injEq] at ar
   subst ar
   have e:(eO s.E x).cells=[eO s.E x]:=by
    generalize eO s.E x=y at lU
    cases y<;>first|rfl|simp [aA.one] at lU
   exact key _ rfl (by rw [e]) (by rw [e];rfl) (.inl lU) rfl rfl
  ·simp at ar
theorem h4 {s:S}{ax:fs}{r k:Nat}{af:ab}(h:s.af r k=some af):s.bc ax r k=some (af.sz,ax r k):=by simp [S.bc,h]
theorem th {row:Option (List ab)}{k:Nat}{af:ab}{cb:List Prop}(h:oJ row k cJ=some (af,cb))(cy:∀p∈cb,p):di row k=some af:=by
 unfold oJ at h
 split at h
 ·split at h
  ·simp at h;obtain ⟨rfl,rfl⟩:=h;exact cy _ (by simp)
  ·simp at h
 ·split at h
  ·rename_i cw;simp at h;obtain ⟨rfl,rfl⟩:=h;exact cw
  ·simp at h
theorem yu {es:List (List aA)}{i:Nat}{c:List aA}{cb:List Prop}(h:elemAt es i cJ=some (c,cb))(cy:∀p∈cb,p):es[i]? = some c:=by
 unfold elemAt at h
 split at h
 ·simp at h;obtain ⟨rfl,rfl⟩:=h;exact cy _ (by simp)
 ·simp at h;obtain ⟨rfl,rfl⟩:=h;exact cy _ (by simp)
 ·split at h
  ·rename_i cw;simp at h;obtain ⟨rfl,rfl⟩:=h;exact cw
  ·simp at h
theorem ZK {t:TypeId}{x:Operand}(h:cQ g s ax a w)(an:R.op = .load t x)(ar:eU P s.E s.aU aV R cJ=some bs)(cy:∀p∈bs.fo,p):Fin P g s a w R bs:=by
 simp only [eU,an] at ar
 have aa:=h.eval x
 split at ar
 ·rename_i r k i off gW
  rw [gW] at aa
  split at ar
  ·rename_i af cb bm
   split at ar
   ·rename_i c a4 mF
    split at ar
    ·rename_i v a3
     simp only [Option.some.injEq] at ar
     subst ar
     have jl:s.af r k=some af:=th bm fun p al=>cy p (by simp [al])
     have pO:=yu mF fun p al=>cy p (by simp [al])
     have fl:=h.obj r k af jl
     rcases aa.vw (h4 jl) with h0|⟨b,m,al,hval⟩
     ·rw [h0] at fl
      simp only [iU] at fl
      rw [fl] at pO;simp at pO
     ·rw [al] at fl
      obtain ⟨u,o,J⟩:=JG (P:=P) fl.rd pO a3
      refine hY (v:=u) h ?_ rfl J
      rw [Nat.zero_add] at o
      simp [execOp,an,hval,o]
    ·simp at ar
   ·simp at ar
  ·simp at ar
 ·rename_i sz es i off gW
  rw [gW] at aa
  split at ar
  ·rename_i c a4 mF
   split at ar
   ·rename_i v a3
    simp only [Option.some.injEq] at ar
    subst ar
    have pO:=yu mF fun p al=>cy p (by simp [al])
    obtain ⟨dZ,b9,aY,hval,iq⟩:=aa.yG
    obtain ⟨u,o,J⟩:=JG (P:=P) iq pO a3
    refine hY (v:=u) h ?_ rfl J
    simp [execOp,an,hval,o]
   ·simp at ar
  ·simp at ar
 ·simp at ar
end
end Go.VL
namespace Go.VL
set_option linter.unusedVariables false
set_option linter.unusedSimpArgs false
open Go
section
variable {P:Program} {g:G} {s:S} {ax:fs} {a:Act} {w:World} {R:Oper} {cJ:fE} {aV:Nat} {bs:hD}
theorem Pu (h:cQ g s ax a w){r k i off:Nat}{row:List ab}{af:ab}{c:List aA}{t:TypeId}{x y:Operand}(an:R.op = .store t x y)
 (gW:eO s.E x = .ref r k i off) (dD:s.aU r=some row) (bm:s.af r k=some af) (aX:af.cu = .live) (mF:af.es[i]? = some c)
 (lU:(eO s.E y).one=true∨ ∃c,eO s.E y = .agg c) (eZ:(eO s.E y).cells.length=P.cellsOf t) (Lz:(P.info? t).isSome=true)
 (ik:off+(eO s.E y).cells.length≤c.length) (ar:bs.val = .dead) (hu:bs.fQ=[(r,row.set k {af with es:=af.es.set i (setCells c off (eO s.E y).cells)})]):Fin P g s a w R bs:=by
 have aa:=h.eval x
 rw [gW] at aa
 have fl:=h.obj r k af bm
 rcases aa.vw (h4 bm) with h0|⟨b,m,al,hval⟩
 ·rw [h0] at fl;simp only [iU] at fl;rw [fl] at mF;simp at mF
 ·obtain ⟨bJ,o,J⟩:=Xb (P:=P) h dD bm aX al mF Lz (h.eval y) lU eZ ik
  refine ⟨undef,bJ,ax,.inr ⟨?_,rfl⟩,by rw [hu];exact J,by rw [ar];exact .dead _⟩
  simp [execOp,an,hval,o]
theorem YL {t:TypeId}{x y:Operand}(h:cQ g s ax a w)(an:R.op = .store t x y)(ar:eU P s.E s.aU aV R cJ=some bs)(cy:∀p∈bs.fo,p):Fin P g s a w R bs:=by
 simp only [eU,an] at ar
 split at ar
 ·rename_i r k i off gW
  split at ar
  ·simp at ar
  ·rename_i row dD
   split at ar
   ·rename_i af cb abJ
    split at ar
    ·simp at ar
    ·rename_i aX
     have aX:af.cu = .live:=by simpa using aX
     split at ar
     ·simp at ar
     ·rename_i lU
      have lU:=aA.OJ (by simpa using lU)
      split at ar
      ·simp at ar
      ·rename_i eZ
       simp only [not_or,Decidable.not_not,Bool.not_eq_false] at eZ
       have jl:(∀p∈cb,p)→s.af r k=some af:=fun bH=>by
        have:=th abJ bH
        unfold S.af;rw [dD];exact this
       split at ar
       ·split at ar
        ·rename_i zb
         simp only [Option.some.injEq] at ar
         subst ar;subst zb
         have dB:i<af.es.length:=cy _ (by simp)
         have hC:(eO s.E y).cells.length=af.sz:=cy _ (by simp)
         have BA:=jl fun p al=>cy p (by simp [al])
         have hlen:(af.es[i]).length=af.sz:=by
          have fl:=h.obj r k af BA
          cases al:ax r k with
          | none=>rw [al] at fl;simp only [iU] at fl;rw [fl] at dB;simp at dB
          | some q =>
           rw [al] at fl
           obtain ⟨_,_,_,_,ak,_⟩:=fl
           exact ak _ (List.getElem_mem dB)
         refine Pu h an gW dD BA aX (c:=af.es[i]) (List.getElem?_eq_getElem dB) lU eZ.1 eZ.2 (by omega) rfl ?_
         have e:setCells af.es[i] 0 (eO s.E y).cells=(eO s.E y).cells:=by
          simp [setCells,hlen,hC]
         rw [e]
        ·simp at ar
       ·split at ar
        ·rename_i c a4 mF
         split at ar
         ·rename_i ik
          simp only [Option.some.injEq] at ar
          subst ar
          exact Pu h an gW dD (jl fun p al=>cy p (by simp [al])) aX (yu mF fun p al=>cy p (by simp [al])) lU eZ.1 eZ.2 ik rfl rfl
         ·simp at ar
        ·simp at ar
   ·simp at ar
 ·simp at ar
theorem Xc {x:Operand}(h:cQ g s ax a w)(an:R.op = .nilCheck x)(ar:eU P s.E s.aU aV R cJ=some bs)(cy:∀p∈bs.fo,p):Fin P g s a w R bs:=by
 simp only [eU,an] at ar
 have aa:=h.eval x
 split at ar
 ·rename_i r k i off gW
  rw [gW] at aa
  split at ar
  ·rename_i af cb bm
   split at ar
   ·rename_i c a4 mF
    simp only [Option.some.injEq] at ar
    subst ar
    have jl:s.af r k=some af:=th bm fun p al=>cy p (by simp [al])
    have pO:=yu mF fun p al=>cy p (by simp [al])
    have fl:=h.obj r k af jl
    rcases aa.vw (h4 jl) with h0|⟨b,m,al,hval⟩
    ·rw [h0] at fl;simp only [iU] at fl;rw [fl] at pO;simp at pO
    ·refine hY (v:=a.eval x) h ?_ rfl aa
     simp [execOp,an,hval]
   ·simp at ar
  ·simp at ar
 ·rename_i sz es i off gW
  rw [gW] at aa
  simp only [Option.some.injEq] at ar
  subst ar
  obtain ⟨dZ,b9,aY,hval,iq⟩:=aa.yG
  refine hY (v:=a.eval x) h ?_ rfl aa
  simp [execOp,an,hval]
 ·rename_i f c gW
  rw [gW] at aa
  simp only [Option.some.injEq] at ar
  subst ar
  obtain ⟨vs,hval,-⟩:=aa.EQ
  refine hY (v:=a.eval x) h ?_ rfl aa
  simp [execOp,an,hval]
 ·simp at ar
theorem X6 {op:BinOp}{t:TypeId}{x y z:aA}{af:List Prop}(ar:K7 op x y=some (z,af))(cy:∀p∈af,p)
 {ok:Nat→Prop} {a1:iZ} {bc:iQ} {kY kZ:Value} (aa:Rel w ok a1 bc x kY) (aP:Rel w ok a1 bc y kZ) (p q:Operand) :
 ∃v,((do eqGuard op t p q kY kZ;binOp op t kY kZ):Sem Value).run P w = .ok v w∧Rel w ok a1 bc z v:=by
 unfold K7 at ar
 split at ar
 ·rename_i k n dJ nj
  have hb:=aa.oC;have hT:=aP.oC
  subst hb;subst hT
  have dN : ∀op,eqGuard op t p q (.int k n) (.int dJ nj)=pure ():=fun op=>eqGuard_at_int ..
  simp only [Sem.run_bind,dN,Sem.run_pure,Result.andThen_ok]
  split at ar
  ·simp only [Option.some.injEq,Prod.mk.injEq] at ar
   obtain ⟨rfl,rfl⟩:=ar
   have h0:0≤nj:=cy _ (by simp)
   exact ⟨_,by simp [binOp,Op.shift,show ¬nj<0 by omega],.n _ _⟩
  ·simp only [Option.some.injEq,Prod.mk.injEq] at ar
   obtain ⟨rfl,rfl⟩:=ar
   have h0:0≤nj:=cy _ (by simp)
   exact ⟨_,by simp [binOp,Op.shift,show ¬nj<0 by omega],.n _ _⟩
  ·split at ar
   ·simp at ar
   ·rename_i aX
    have aX:k=dJ:=by simpa using aX
    subst aX
    split at ar<;>simp only [Option.some.injEq,Prod.mk.injEq,reduceCtorEq] at ar
    all_goals (obtain ⟨rfl,rfl⟩:=ar)
    case h_4|h_5 =>
     have h0:nj≠0:=cy _ (by simp)
     exact ⟨_,by simp [binOp,Op.intDiv,h0],.n _ _⟩
    all_goals first
     | (refine ⟨_,?_,.n _ _⟩;rw [binOp_add];rfl)
     | (refine ⟨_,?_,.n _ _⟩;rw [binOp_sub];rfl)
     | (refine ⟨_,?_,.n _ _⟩;rw [binOp_mul];rfl)
     | (refine ⟨_,?_,.n _ _⟩;rw [binOp_and];rfl)
     | (refine ⟨_,?_,.n _ _⟩;rw [binOp_or];rfl)
     | (refine ⟨_,?_,.n _ _⟩;rw [binOp_xor];rfl)
     | (refine ⟨_,?_,.b _⟩;simp [binOp,Op.intCmp];done)
 ·rename_i cO ln
  have hb:=aa.y3;have hT:=aP.y3
  subst hb;subst hT
  have dN : ∀op,eqGuard op t p q (.string cO) (.string ln)=pure ():=fun op=>eqGuard_at_string ..
  simp only [Sem.run_bind,dN,Sem.run_pure,Result.andThen_ok]
  split at ar<;>simp only [Option.some.injEq,Prod.mk.injEq,reduceCtorEq] at ar
  all_goals (obtain ⟨rfl,rfl⟩:=ar)
  ·have h0:cO.size+ln.size<9223372036854775808:=cy _ (by simp)
   refine ⟨_,?_,.s _⟩
   have o : ¬((cO.size+ln.size:Nat):Int)>IntKind.i64.max:=by rw [IntKind.max_i64];omega
   rw [IntKind.max_i64] at o
   simp [binOp,Op.stringOp]
   omega
  ·exact ⟨_,by simp [binOp,Op.stringOp],.b _⟩
  ·exact ⟨_,by simp [binOp,Op.stringOp],.b _⟩
 ·simp at ar
theorem vk (t:TypeId)(x y:Value):Op.equal t x y=Op.equalIn (9999+1) t x y:=rfl
theorem Am {t:TypeId}{a b:Bool}(d:Nat)(bo:P.underlying t=some .bool):(Op.equalIn (d+1) t (.bool a) (.bool b)).run P w = .ok (a == b) w:=by
 unfold Op.equalIn;simp [run_underlying bo]
theorem AD {t e:TypeId}(d:Nat)(bo:P.underlying t=some (.pointer e)):(Op.equalIn (d+1) t (.pointer none) (.pointer none)).run P w = .ok true w:=by
 unfold Op.equalIn;simp [run_underlying bo]
theorem AE {t e:TypeId}{a:Addr}(d:Nat)(bo:P.underlying t=some (.pointer e)):(Op.equalIn (d+1) t (.pointer (some a)) (.pointer none)).run P w = .ok false w:=by
 unfold Op.equalIn;simp [run_underlying bo]
theorem AF {t e:TypeId}{a:Addr}(d:Nat)(bo:P.underlying t=some (.pointer e)):(Op.equalIn (d+1) t (.pointer none) (.pointer (some a))).run P w = .ok false w:=by
 unfold Op.equalIn;simp [run_underlying bo]
theorem AG {t e:TypeId}(d:Nat)(bo:P.underlying t=some (.slice e)):(Op.equalIn (d+1) t (.slice none 0 0) (.slice none 0 0)).run P w = .ok true w:=by
 unfold Op.equalIn;simp [run_underlying bo]
theorem OZ {t e:TypeId}{a:Addr}{c:Nat}(d:Nat)(bo:P.underlying t=some (.slice e))(n:Nat):(Op.equalIn (d+1) t (.slice (some a) n c) (.slice none 0 0)).run P w = .ok false w:=by
 unfold Op.equalIn;simp [run_underlying bo]
theorem yA {t:TypeId}{x y:aA}{r:Bool}(ar:sG P t x y=some r)
 {ok:Nat→Prop} {a1:iZ} {bc:iQ} {kY kZ:Value} (aa:Rel w ok a1 bc x kY) (aP:Rel w ok a1 bc y kZ) (p q:Operand) :
 ((do eqGuard .eql t p q kY kZ;binOp .eql t kY kZ):Sem Value).run P w = .ok (.bool r) w ∧
 ((do eqGuard .neq t p q kY kZ;binOp .neq t kY kZ):Sem Value).run P w = .ok (.bool !r) w:=by
 have key : ∀b:Bool,(∀op,eqGuard op t p q kY kZ=pure ())→binOp .eql t kY kZ=(do pure (.bool (← Op.equal t kY kZ)))→binOp .neq t kY kZ=(do pure (.bool (!(← Op.equal t kY kZ)))) →
  (Op.equal t kY kZ).run P w = .ok b w→((do eqGuard .eql t p q kY kZ;binOp .eql t kY kZ):Sem Value).run P w = .ok (.bool b) w ∧
  ((do eqGuard .neq t p q kY kZ;binOp .neq t kY kZ):Sem Value).run P w = .ok (.bool !b) w:=by
  intro b dN o J ak
  constructor
  ·rw [dN,o];simp [ak]
  ·rw [dN,J];simp [ak]
 unfold sG at ar
 split at ar
 ·rename_i cO ln bo
  simp only [Option.some.injEq] at ar;subst ar
  have hb:=aa.uq;have hT:=aP.uq
  subst hb;subst hT
  exact key _ (fun op=>eqGuard_at_bool ..) rfl rfl (by rw [vk];first|exact Am _ bo|exact AD _ bo|exact AE _ bo|exact AF _ bo|exact AG _ bo)
 ·rename_i e bo
  simp only [Option.some.injEq] at ar;subst ar
  have hb:=aa.vp;have hT:=aP.vp
  subst hb;subst hT
  exact key _ (fun op=>eqGuard_at_pointer ..) rfl rfl (by rw [vk];first|exact Am _ bo|exact AD _ bo|exact AE _ bo|exact AF _ bo|exact AG _ bo)
 ·rename_i e sz es i off bo
  simp only [Option.some.injEq] at ar;subst ar
  obtain ⟨dZ,b9,-,hb,-⟩:=aa.yG
  have hT:=aP.vp
  subst hb;subst hT
  exact key _ (fun op=>eqGuard_at_pointer ..) rfl rfl (by rw [vk];first|exact Am _ bo|exact AD _ bo|exact AE _ bo|exact AF _ bo|exact AG _ bo)
 ·rename_i e sz es i off bo
  simp only [Option.some.injEq] at ar;subst ar
  obtain ⟨dZ,b9,-,hT,-⟩:=aP.yG
  have hb:=aa.vp
  subst hb;subst hT
  exact key _ (fun op=>eqGuard_at_pointer ..) rfl rfl (by rw [vk];first|exact Am _ bo|exact AD _ bo|exact AE _ bo|exact AF _ bo|exact AG _ bo)
 ·rename_i e bo
  simp only [Option.some.injEq] at ar;subst ar
  have hb:=aa.qe;have hT:=aP.qe
  subst hb;subst hT
  exact key _ (fun op=>eqGuard_at_slice ..) rfl rfl (by rw [vk];first|exact Am _ bo|exact AD _ bo|exact AE _ bo|exact AF _ bo|exact AG _ bo)
 ·rename_i e bo
  simp only [Option.some.injEq] at ar;subst ar
  obtain ⟨wC,c,hb⟩:=aa.EB
  have hT:=aP.qe
  subst hb;subst hT
  exact key _ (fun op=>eqGuard_at_slice ..) rfl rfl (by rw [vk];exact OZ _ bo 0)
 ·simp at ar
theorem Rd {t e:TypeId}(bo:P.underlying t=some (.slice e)){sz:Nat}{es:List (List aA)}(cM:es≠[])
 {ok:Nat→Prop} {a1:iZ} {bc:iQ} {kY kZ:Value} (aa:Rel w ok a1 bc (.isl sz es) kY) (aP:Rel w ok a1 bc .eK kZ) (p q:Operand) :
 ((do eqGuard .eql t p q kY kZ;binOp .eql t kY kZ):Sem Value).run P w = .ok (.bool false) w ∧
 ((do eqGuard .neq t p q kY kZ;binOp .neq t kY kZ):Sem Value).run P w = .ok (.bool true) w:=by
 rcases aa.tg with ⟨h0,-⟩|⟨dZ,off,c,-,hb,-⟩
 ·exact absurd h0 cM
 ·have hT:=aP.qe
  subst hb;subst hT
  have ak:(Op.equal t (.slice (some ⟨dZ,off,none⟩) es.length c) (.slice none 0 0)).run P w = .ok false w:=by rw [vk];exact OZ _ bo _
  have dN : ∀op,eqGuard op t p q (.slice (some ⟨dZ,off,none⟩) es.length c) (.slice none 0 0)=pure ():=fun op=>eqGuard_at_slice ..
  have o:binOp .eql t (.slice (some ⟨dZ,off,none⟩) es.length c) (.slice none 0 0)=(do pure (.bool (← Op.equal t (.slice (some ⟨dZ,off,none⟩) es.length c) (.slice none 0 0)))):=rfl
  have J:binOp .neq t (.slice (some ⟨dZ,off,none⟩) es.length c) (.slice none 0 0)=(do pure (.bool (!(← Op.equal t (.slice (some ⟨dZ,off,none⟩) es.length c) (.slice none 0 0))))):=rfl
  constructor
  ·rw [dN,o];simp [ak]
  ·rw [dN,J];simp [ak]
theorem YM {op:BinOp}{t dH:TypeId}{x y:Operand}(h:cQ g s ax a w)(an:R.op = .binOp op t x y dH)(ar:eU P s.E s.aU aV R cJ=some bs)(cy:∀p∈bs.fo,p):Fin P g s a w R bs:=by
 simp only [eU,an] at ar
 have aa:=h.eval x
 have aP:=h.eval y
 split at ar
 ·rename_i v af aY
  simp only [Option.some.injEq] at ar
  subst ar
  obtain ⟨u,o,J⟩:=X6 (P:=P) (t:=t) aY cy aa aP x y
  refine hY (v:=u) h ?_ rfl J
  simp only [execOp,an]
  rw [Sem.run_bind,o];rfl
 ·split at ar
  ·cases he:sG P t (eO s.E x) (eO s.E y) with
   | none=>simp [he] at ar
   | some r =>
    simp [he] at ar;subst ar
    refine hY (v:= .bool r) h ?_ rfl (.b r)
    simp only [execOp,an]
    rw [Sem.run_bind,(yA (w:=w) he aa aP x y).1];rfl
  ·cases he:sG P t (eO s.E x) (eO s.E y) with
   | none=>simp [he] at ar
   | some r =>
    simp [he] at ar;subst ar
    refine hY (v:= .bool !r) h ?_ rfl (.b _)
    simp only [execOp,an]
    rw [Sem.run_bind,(yA (w:=w) he aa aP x y).2];rfl
  ·simp at ar
theorem ZL {op:UnOp}{t:TypeId}{x:Operand}(h:cQ g s ax a w)(an:R.op = .unOp op t x)(ar:eU P s.E s.aU aV R cJ=some bs):Fin P g s a w R bs:=by
 simp only [eU,an] at ar
 have aa:=h.eval x
 cases he:Lx op (eO s.E x) with
 | none=>simp [he] at ar
 | some v =>
  simp [he] at ar;subst ar
  unfold Lx at he
  split at he
  ·rename_i k n gW
   rw [gW] at aa
   simp only [Option.some.injEq] at he;subst he
   refine hY (v:= .int k (k.wrap (0-n))) h ?_ rfl (.n _ _)
   simp [execOp,an,aa.oC,Op.unary,Op.intArith]
  ·rename_i b gW
   rw [gW] at aa
   simp only [Option.some.injEq] at he;subst he
   refine hY (v:= .bool !b) h ?_ rfl (.b _)
   simp [execOp,an,aa.uq,Op.unary]
  ·simp at he
theorem Xx {t dH:TypeId}{x:Operand}(h:cQ g s ax a w)(an:R.op = .convert t dH x)(ar:eU P s.E s.aU aV R cJ=some bs):Fin P g s a w R bs:=by
 simp only [eU,an] at ar
 have aa:=h.eval x
 split at ar
 ·rename_i k dJ n bo gW
  rw [gW] at aa
  split at ar
  case isFalse=>simp at ar
  rename_i b4
  simp only [Option.some.injEq] at ar
  subst ar
  refine hY (v:= .int k (k.wrap n)) h ?_ rfl (.n _ _)
  cases Ss:P.underlying t with
  | none=>simp [Ss] at b4
  | some d=>simp [execOp,an,aa.oC,convert,run_underlying bo,run_underlying Ss,Conv.intToInt]
 ·rename_i r k bZ len bo gW
  rw [gW] at aa
  split at ar
  ·rename_i af Ff bm
   split at ar
   ·rename_i nH B0
    split at ar
    ·rename_i aJ
     simp only [Option.some.injEq] at ar
     subst ar
     obtain ⟨e,b4,he⟩ : ∃e,P.underlying t=some (.slice e)∧P.underlying e=some (.int .u8):=by
      unfold qk at Ff
      split at Ff
      ·rename_i e b4;exact ⟨e,b4,Ff⟩
      ·simp at Ff
     have dP:s.af r k=some af:=bm
     have fl:=h.obj r k af dP
     have hzero : ∀(nI:Option Addr) (c:Nat),len=0→(convert t dH (.slice nI 0 c)).run P w = .ok (.string (za nH)) w:=by
      intro nI c h0
      subst h0
      have:nH=[]:=by simpa [bytesOf] using B0
      subst this
      cases nI with
      | none=>rw [run_convert_bytes_string w t dH e none 0 c b4 he bo];simp [Conv.bytesToString,za]
      | some nI =>
       rw [run_convert_bytes_string w t dH e (some nI) 0 c b4 he bo,run_bytesToString w nI 0 c [] (by
        have:=run_loadCells_list (P:=P) w nI [] (fun j v aC=>by simp at aC)
        simpa using this)]
       rfl
     rcases aa.A0 (h4 dP) with ⟨al,rfl,rfl,hval⟩|⟨b,m,A,c,al,hval,rV,tF,hm⟩
     ·refine hY (v:= .string (za nH)) h ?_ rfl (.s _)
      simp [execOp,an,hval,hzero none 0 rfl]
     ·refine hY (v:= .string (za nH)) h ?_ rfl (.s _)
      by_cases h0:len=0
      ·subst h0;simp [execOp,an,hval,hzero A c rfl]
      ·rcases hm with hm|⟨hA,hm⟩
       ·omega
       ·subst hA
        rw [al] at fl
        have iq:=fl.rd
        have zh : ∀(es:List (List aA)) (nH:List Int),bytesOf es=some nH→es.length=nH.length∧ ∀(i:Nat) n,nH[i]? = some n→es[i]? = some [.n .u8 n]:=by
         intro es
         induction es with
         | nil=>intro nH h;simp [bytesOf] at h;subst h;exact ⟨rfl,fun i n ai=>by simp at ai⟩
         | cons x es ih =>
          intro nH h
          unfold bytesOf at h
          split at h
          ·simp at *
          ·rename_i n0 af1 Ft
           simp only [List.cons.injEq] at Ft
           obtain ⟨rfl,rfl⟩:=Ft
           rw [Option.map_eq_some_iff] at h
           obtain ⟨fT,acx,rfl⟩:=h
           obtain ⟨az,aH⟩:=ih fT acx
           refine ⟨by simp [az],fun i n ai=> ?_⟩
           cases i with
           | zero=>simp at ai;subst ai;rfl
           | succ i=>simpa using aH i n (by simpa using ai)
          ·simp at h
        obtain ⟨az,aH⟩:=zh _ _ B0
        have hlen:nH.length=len:=by rw [← az];simp;omega
        have abf:(loadCells ⟨b,bZ*af.sz,none⟩ len).run P w = .ok (nH.map (Value.int .u8)).toArray w:=by
         have:=run_loadCells_list (P:=P) w ⟨b,bZ*af.sz,none⟩ (nH.map (Value.int .u8)) (fun j v aC=>by
          rw [List.getElem?_map,Option.map_eq_some_iff] at aC
          obtain ⟨n,a0,rfl⟩:=aC
          have mu:=aH j n a0
          have vW:j<len:=by rw [← hlen];exact (List.getElem?_eq_some_iff.1 a0).1
          rw [List.getElem?_take_of_lt vW,List.getElem?_drop] at mu
          obtain ⟨v,v1,v2,v3⟩:=iq.2 ((bZ+j)*af.sz+0) (.n .u8 n) (by rw [AA iq.1 mu (by omega)];rfl)
          have a3:=v3.oC
          subst a3
          rw [rC,← v1,aJ.2]
          congr 2
          omega)
         rw [List.length_map,hlen] at this
         exact this
        have J:=run_bytesToString w ⟨b,bZ*af.sz,none⟩ len c nH abf
        rw [← run_convert_bytes_string w t dH e _ len c b4 he bo] at J
        simp [execOp,an,hval,J,za]
    ·simp at ar
   ·simp at ar
  ·simp at ar
 ·simp at ar
theorem Xd {f:Fn}{CE cl:Array Operand}(h:cQ g s ax a w)(an:R.op = .makeFunc f CE cl)(ar:eU P s.E s.aU aV R cJ=some bs):Fin P g s a w R bs:=by
 cases f with
 | func n =>
  simp only [eU,an] at ar
  split at ar
  ·rename_i acy
   simp only [Option.some.injEq] at ar;subst ar
   refine hY (v:= .func (.func n) #[] (cl.map a.eval)) h ?_ rfl ?_
   ·have:CE = #[]:=by simpa using acy
    subst this
    simp [execOp,an,Instr.makeFunc]
   ·have:=Rel.fn (f:=n) (c:=cl.toList.map (eO s.E)) (w:=w) (ok:=s.ok g ax w) (a1:=s.a1) (bc:=s.bc ax) (cl.toList.map a.eval) (by simp) (by
     intro j x v aa a3
     rw [List.getElem?_map,Option.map_eq_some_iff] at aa a3
     obtain ⟨p,al,rfl⟩:=aa
     obtain ⟨q,bi,rfl⟩:=a3
     rw [al] at bi;simp at bi;subst bi
     exact h.eval p)
    have e:(cl.toList.map a.eval).toArray=cl.map a.eval:=by apply Array.ext';rw [Array.toList_map]
    rw [e] at this
    exact this
  ·simp at ar
 | _=>simp [eU,an] at ar
theorem Xy {i:Nat}{x:Operand}(h:cQ g s ax a w)(an:R.op = .extract x i)(ar:eU P s.E s.aU aV R cJ=some bs):Fin P g s a w R bs:=by
 simp only [eU,an] at ar
 have aa:=h.eval x
 split at ar
 ·rename_i vs gW
  rw [gW] at aa
  cases ai:vs[i]? with
  | none=>simp [ai] at ar
  | some v =>
   simp [ai] at ar;subst ar
   obtain ⟨a1,hval,aL,ap⟩:=aa.yF
   have dB:i<a1.length:=by
    rcases Nat.lt_or_ge i vs.length with cw|cw
    ·omega
    ·rw [List.getElem?_eq_none cw] at ai;simp at ai
   have hu:a1[i]? = some a1[i]:=List.getElem?_eq_getElem dB
   refine hY (v:=a1[i]) h ?_ rfl (ap i v _ ai hu)
   simp [execOp,an,hval,Instr.extract,hu]
 ·simp at ar
end
end Go.VL
namespace Go.VL
set_option linter.unusedVariables false
set_option linter.unusedSimpArgs false
open Go
section
variable {P:Program} {g:G} {s:S} {ax:fs} {a:Act} {w:World} {R:Oper} {cJ:fE} {aV:Nat} {bs:hD}
theorem ss {t e:TypeId}(h:qk P t=some e):P.underlying t=some (.slice e):=by
 unfold qk at h
 split at h
 ·rename_i eH he;simp at h;subst h;exact he
 ·simp at h
theorem Jx {t:TypeId}{jW:Array Field}(h:fieldsOf P t=some jW):P.underlying t=some (.struct jW):=by
 unfold fieldsOf at h
 split at h
 ·rename_i eH he;simp at h;subst h;exact he
 ·simp at h
theorem Oq : ∀(z c:List aA),(rG z c).length=z.length
 | x::z,y::c=>by simp [rG,Oq z c]
 | [],_=>by simp [rG]
 | _::_,[]=>by simp [rG]
theorem WW (z:List aA)(cJ:fE):(tm z cJ).length=z.length:=by
 unfold tm
 split
 ·exact Oq z _
 ·rfl
theorem Xz (x y:aA){w:World}{ok:Nat→Prop}{a1:iZ}{bc:iQ}{v:Value}(h:Rel w ok a1 bc x v):Rel w ok a1 bc (A6 x y) v:=by
 unfold A6
 split
 ·rw [h.qe];exact .j6 _ _ _ (fun _=>rfl)
 ·rw [h.vp];exact .pN _
 ·rw [h.qe];exact .mY (.j6 _ _ _ (fun _=>rfl))
 ·exact h
theorem Pv : ∀(z c:List aA) (j:Nat) q,(rG z c)[j]? = some q→ ∃x,z[j]? = some x∧(q=x∨ ∃y,q=A6 x y)
 | x::z,y::c,0,q,h=>by simp [rG] at h;exact ⟨x,rfl,.inr ⟨y,h.symm⟩⟩
 | x::z,y::c,j+1,q,h=>by
  simp only [rG,List.getElem?_cons_succ] at h
  simpa using Pv z c j q h
 | [],c,j,q,h=>by simp [rG] at h
 | x::z,[],j,q,h=>⟨q,by simpa [rG] using h,.inl rfl⟩
theorem YN (z:List aA)(cJ:fE)(j:Nat)(q:aA)(h:(tm z cJ)[j]? = some q): ∃x,z[j]? = some x∧(q=x∨ ∃y,q=A6 x y):=by
 unfold tm at h
 split at h
 ·exact Pv z _ j q h
 ·exact ⟨q,h,.inl rfl⟩
theorem WX {t:TypeId}{x y:Operand}(h:cQ g s ax a w)(e2:s.aU aV=none)(an:R.op = .makeSlice t x y)(ar:eU P s.E s.aU aV R cJ=some bs)(cy:∀p∈bs.fo,p):Fin P g s a w R bs:=by
 simp only [eU,an] at ar
 have aa:=h.eval x
 have aP:=h.eval y
 split at ar
 ·rename_i e kc l jz c he abK abL
  rw [abK] at aa;rw [abL] at aP
  split at ar
  ·rename_i i z ai cv
   obtain ⟨e8,ew,jn,kw,sS,Re⟩:=AB cv
   rw [ai] at jn;simp at jn;subst jn
   simp only [Option.ite_none_right_eq_some,Option.some.injEq] at ar
   obtain ⟨eZ,ar⟩:=ar
   subst ar
   have mF:=WW z cJ
   have jR : ∀(j:Nat) q,(tm z cJ)[j]? = some q→ ∃v,ew.cells[j]? = some v∧VL.j2 v=true∧ ∀w ok a1 bc,Rel w ok a1 bc q v:=by
    intro j q bi
    obtain ⟨x,dI,nB⟩:=YN z cJ j q bi
    obtain ⟨v,v1,v2,v3⟩:=Re j x dI
    refine ⟨v,v1,v2,fun w ok a1 bc=> ?_⟩
    rcases nB with rfl|⟨y,rfl⟩
    ·exact v3 w ok a1 bc
    ·exact Xz x y (v3 w ok a1 bc)
   clear Re
   have h0:0≤l:=cy _ (by simp)
   have o:l≤c:=cy _ (by simp)
   have J:(i.bytes:Int)*c≤281474976710656:=cy _ (by simp)
   have ak:c<9223372036854775808:=cy _ (by simp)
   have nC:z.length=ew.cells.size:=by rw [sS];simp
   have iJ:=run_make (P:=P) w t e i ew (ss he) ai kw kc jz l c h0 o J (by omega)
   refine EC (v:= .slice (some ⟨w.heap.size,0,none⟩) l.toNat c.toNat) (af:=⟨z.length,List.replicate l.toNat (tm z cJ),.live⟩) (c:=madeCells ew.cells (c.toNat*i.size)) (eF:=e) h e2 rfl ?_ rfl ?_ ?_ ?_
   ·simp [execOp,an,aa.oC,aP.oC,iJ]
   ·intro eH lY;rw [List.eq_of_mem_replicate lY];exact mF
   ·intro j q bi
    have aL : ∀eH∈List.replicate l.toNat (tm z cJ),eH.length=z.length:=fun eH lY=>by rw [List.eq_of_mem_replicate lY];exact mF
    rcases Nat.eq_zero_or_pos z.length with rW|Fu
    ·have:tm z cJ=[]:=List.length_eq_zero_iff.1 (by omega)
     rw [this] at bi
     simp at bi
    ·rw [pE Fu _ aL,List.getElem?_replicate] at bi
     by_cases aC:j / z.length<l.toNat
     ·rw [if_pos aC] at bi
      simp only [Option.bind_some] at bi
      obtain ⟨v,az,aH,b2⟩:=jR _ _ bi
      refine ⟨v,?_,aH,b2 _ _ _ _⟩
      have dB:j<c.toNat*i.size:=by
       rw [← eZ]
       have:j<l.toNat*z.length:=(Nat.div_lt_iff_lt_mul Fu).1 aC
       exact Nat.lt_of_lt_of_le this (Nat.mul_le_mul_right _ (by omega))
      simp only [madeCells]
      rw [Array.getElem?_map,Array.getElem?_range]
      simp only [dB,if_true,Option.map_some]
      rw [nC] at az
      have hm:j % ew.cells.size<ew.cells.size:=Nat.mod_lt _ (by omega)
      rw [Array.getElem?_eq_getElem hm] at az
      rw [getElem!_pos ew.cells _ hm];exact az
     ·rw [if_neg aC] at bi;simp at bi
   ·intro bJ kG m3 mr hu cq
    refine Rel.bC hu cq (by omega) (by omega) ⟨?_,.inr (by simp)⟩
    rw [size_madeCells]
    simp only [Nat.zero_add,eZ]
  ·simp at ar
 ·simp at ar
theorem WY {t:TypeId}{x:Operand}{f:Nat}(h:cQ g s ax a w)(an:R.op = .fieldAddr t x f)(ar:eU P s.E s.aU aV R cJ=some bs)(cy:∀p∈bs.fo,p):Fin P g s a w R bs:=by
 simp only [eU,an] at ar
 have aa:=h.eval x
 split at ar
 ·rename_i jW B1
  split at ar
  ·rename_i fd uC
   split at ar
   ·simp at ar
   ·rename_i St
    have ai:(P.info? fd.type).isSome=true:=by
     cases ai:P.info? fd.type with
     | none=>simp [Program.cellsOf,ai] at St
     | some i=>rfl
    have iJ : ∀A:Addr,A.spot=none→(Instr.fieldAt t (.pointer (some A)) f).run P w = .ok (.pointer (some ⟨A.block,A.off+fd.offset,none⟩)) w:=by
     intro A hA
     have e:A.add fd.offset=⟨A.block,A.off+fd.offset,none⟩:=by
      obtain ⟨b,R,sp⟩:=A
      simp only at hA;subst hA
      exact rC b R _
     simp [Instr.fieldAt,run_underlying (Jx B1),uC,Instr.sureAddr,fieldPlace,s9 ai,St,e]
    split at ar
    ·rename_i r k i off gW
     rw [gW] at aa
     split at ar
     ·rename_i af cb bm
      split at ar
      ·rename_i c a4 mF
       simp only [Option.some.injEq] at ar;subst ar
       have jl:s.af r k=some af:=th bm fun p al=>cy p (by simp [al])
       have pO:=yu mF fun p al=>cy p (by simp [al])
       have fl:=h.obj r k af jl
       rcases aa.vw (h4 jl) with h0|⟨b,m,al,hval⟩
       ·rw [h0] at fl;simp only [iU] at fl;rw [fl] at pO;simp at pO
       ·refine hY (v:= .pointer (some ⟨b,i*af.sz+(off+fd.offset),none⟩)) h ?_ rfl ?_
        ·simp [execOp,an,hval,iJ,Nat.add_assoc]
        ·exact aa.Pt ((h4 jl).trans (by rw [al])) _
      ·simp at ar
     ·simp at ar
    ·rename_i sz es i off gW
     rw [gW] at aa
     simp only [Option.some.injEq] at ar;subst ar
     obtain ⟨dZ,b9,aY,hval,iq⟩:=aa.yG
     refine hY (v:= .pointer (some ⟨dZ,b9+(i*sz+(off+fd.offset)),none⟩)) h ?_ rfl (iq.eE aY)
     simp [execOp,an,hval,iJ,Nat.add_assoc]
    ·simp at ar
  ·simp at ar
 ·simp at ar
theorem Kk {t e:TypeId}{n:Nat}(h:Bz P t=some (n,e)):P.underlying t=some (.array n e)∧(P.info? e).isSome=true∧P.cellsOf e≠0∧1<n:=by
 unfold Bz at h
 split at h
 ·rename_i nj eH hu
  split at h
  ·rename_i aJ
   simp only [Option.some.injEq,Prod.mk.injEq] at h
   obtain ⟨rfl,rfl⟩:=h
   exact ⟨hu,aJ⟩
  ·simp at h
 ·simp at h
theorem YO {t:TypeId}{x y:Operand}(h:cQ g s ax a w)(an:R.op = .indexAddr t x y)(ar:y1 P s.aU t (eO s.E x) (eO s.E y) cJ=some bs)(cy:∀p∈bs.fo,p):Fin P g s a w R bs:=by
 unfold y1 at ar
 have aa:=h.eval x
 have aP:=h.eval y
 split at ar
 ·rename_i n e r k i off cu j ia ty BB
  rw [ty] at aa;rw [BB] at aP
  obtain ⟨hu,ai,aJ,a0⟩:=Kk ia
  split at ar
  ·rename_i af cb bm
   split at ar
   ·rename_i c a4 mF
    simp only [Option.some.injEq] at ar;subst ar
    have jl:s.af r k=some af:=th bm fun p al=>cy p (by simp [al])
    have pO:=yu mF fun p al=>cy p (by simp [al])
    have h0:0≤j:=cy _ (by simp)
    have o:j<n:=cy _ (by simp)
    have fl:=h.obj r k af jl
    rcases aa.vw (h4 jl) with cv|⟨b,m,al,hval⟩
    ·rw [cv] at fl;simp only [iU] at fl;rw [fl] at pO;simp at pO
    ·refine hY (v:= .pointer (some ⟨b,i*af.sz+(off+j.toNat*P.cellsOf e),none⟩)) h ?_ rfl ?_
     ·simp [execOp,an,hval,aP.oC,Instr.indexAt,asIntOf,run_underlying hu,Instr.sureAddr,h0,o,s9 ai,rC,Nat.add_assoc]
     ·exact aa.Pt ((h4 jl).trans (by rw [al])) _
   ·simp at ar
  ·simp at ar
 ·simp at ar
theorem WZ {t:TypeId}{x y:Operand}(h:cQ g s ax a w)(an:R.op = .indexAddr t x y)(ar:eU P s.E s.aU aV R cJ=some bs)(cy:∀p∈bs.fo,p):Fin P g s a w R bs:=by
 simp only [eU,an] at ar
 have aa:=h.eval x
 have aP:=h.eval y
 split at ar
 ·rename_i e k j he gW
  rw [gW] at aP
  have hu:=ss he
  have iJ : ∀(b R len cap:Nat),0≤j→j<len→(P.info? e).isSome=true →
   (Instr.indexAt t (.slice (some ⟨b,R,none⟩) len cap) (.int k j)).run P w = .ok (.pointer (some ⟨b,R+j.toNat*P.cellsOf e,none⟩)) w:=by
   intro b R len cap h0 o ai
   have eH:=rC b R (j.toNat*P.cellsOf e)
   simp [Instr.indexAt,asIntOf,run_underlying hu,h0,o,s9 ai,eH]
  have vI : ∀sz,sz=P.cellsOf e→sz≠0→(P.info? e).isSome=true:=by
   intro sz b4 cv
   cases ai:P.info? e with
   | none=>simp [Program.cellsOf,ai] at b4;exact absurd b4 cv
   | some i=>rfl
  split at ar
  ·rename_i sz es ty
   rw [ty] at aa
   simp only [Option.ite_none_right_eq_some,Option.some.injEq] at ar
   obtain ⟨⟨b4,cv⟩,ar⟩:=ar
   subst ar
   have h0:0≤j:=cy _ (by simp)
   have o:j<es.length:=cy _ (by simp)
   rcases aa.tg with ⟨B2,-⟩|⟨dZ,off,c,aY,hval,aJ,iq⟩
   ·subst B2;simp at o;omega
   ·refine hY (v:= .pointer (some ⟨dZ,off+(j.toNat*sz+0),none⟩)) h ?_ rfl (iq.eE aY)
    simp [execOp,an,hval,aP.oC,iJ _ _ _ _ h0 o (vI sz b4 cv),b4]
  ·rename_i r q bZ len ty
   rw [ty] at aa
   split at ar
   ·rename_i row dD
    split at ar
    ·rename_i af cb bm
     simp only [Option.ite_none_right_eq_some,Option.some.injEq] at ar
     obtain ⟨⟨b4,cv⟩,ar⟩:=ar
     subst ar
     have jl:s.af r q=some af:=by
      unfold S.af;rw [dD];exact th bm fun p al=>cy p (by simp [al])
     have h0:0≤j:=cy _ (by simp)
     have o:j<len:=cy _ (by simp)
     rcases aa.A0 (h4 jl) with ⟨-,-,J,-⟩|⟨b,m,A,c,al,hval,aL,-,hm⟩
     ·subst J;simp at o;omega
     ·rcases hm with hm|⟨hA,hm⟩
      ·omega
      ·subst hA
       have i5:=Ep jl
       refine hY (v:= .pointer (some ⟨b,(bZ+j.toNat)*af.sz+0,none⟩)) h ?_ rfl (.ref i5 ((h4 jl).trans (by rw [al])))
       simp [execOp,an,hval,aP.oC,iJ _ _ _ _ h0 o (vI _ b4 cv),b4,Nat.add_mul]
    ·simp at ar
   ·simp at ar
  ·simp at ar
 ·exact YO h an ar cy
theorem aas {c:Call}(h:cQ g s ax a w)(an:R.op = .call c)(aJ:c.callee = .builtin .len)(ar:eU P s.E s.aU aV R cJ=some bs)(cy:∀p∈bs.fo,p):Fin P g s a w R bs:=by
 obtain ⟨Fv,args,m5⟩:=c
 simp only at aJ;subst aJ
 simp only [eU,an] at ar
 have key : ∀(x:Operand) (n:Nat) (t:TypeId) (v:Value),args.toList=[x]→m5 = #[t]→bs.val = .n .i64 n→bs.fQ=[]→a.eval x=v →
  (Builtin.len_ #[t] R.type #[v]).run P w = .ok (goInt n) w→Fin P g s a w R bs:=by
  intro x n t v hargs lZ ap g9 a3 iJ
  subst lZ
  refine hY (v:=goInt n) h ?_ g9 (by rw [ap];exact .n _ _)
  have bH:args = #[x]:=by apply Array.ext';simpa using hargs
  subst bH
  simp [execOp,an,resolve,invoke,builtin,a3,iJ]
 have hargs : ∀y,args.toList.map (eO s.E)=[y]→ ∃x,args.toList=[x]∧eO s.E x=y:=by
  intro y aP
  match aL:args.toList,aP with
  | [x],aP=>simp at aP;exact ⟨x,rfl,aP⟩
 have oK:decide (m5.size=1)=true→ ∃t,m5 = #[t]∧m5.getD 0 0=t:=by
  intro eZ
  have eZ:m5.size=1:=by simpa using eZ
  obtain ⟨l⟩:=m5
  match l,eZ with
  | [t],_=>exact ⟨t,rfl,rfl⟩
 split at ar
 ·rename_i sz es e hm hu eZ
  obtain ⟨x,aa,gW⟩:=hargs _ hm
  obtain ⟨t,cq,nZ⟩:=oK eZ
  rw [nZ] at hu
  simp only [Option.some.injEq] at ar
  have ap:=h.eval x
  rw [gW] at ap
  rcases ap.tg with ⟨B2,A,c,hval,hA⟩|⟨dZ,off,c,aY,hval,-⟩
  ·exact key x es.length t _ aa cq (by rw [← ar]) (by rw [← ar]) hval (by subst B2;simp [Builtin.len_,run_underlying hu])
  ·exact key x es.length t _ aa cq (by rw [← ar]) (by rw [← ar]) hval (by simp [Builtin.len_,run_underlying hu])
 ·rename_i r k bZ len e hm hu eZ
  obtain ⟨x,aa,gW⟩:=hargs _ hm
  obtain ⟨t,cq,nZ⟩:=oK eZ
  rw [nZ] at hu
  split at ar
  ·rename_i row dD
   split at ar
   ·rename_i af cb bm
    simp only [Option.some.injEq] at ar
    have ap:=h.eval x
    rw [gW] at ap
    have jl:s.af r k=some af:=by
     unfold S.af;rw [dD];exact th bm fun p al=>cy p (by rw [← ar];exact al)
    rcases ap.A0 (h4 jl) with ⟨-,-,J,hval⟩|⟨b,m,A,c,al,hval,-⟩
    ·exact key x len t _ aa cq (by rw [← ar]) (by rw [← ar]) hval (by subst J;simp [Builtin.len_,run_underlying hu])
    ·exact key x len t _ aa cq (by rw [← ar]) (by rw [← ar]) hval (by simp [Builtin.len_,run_underlying hu])
   ·simp at ar
  ·simp at ar
 ·rename_i e hm hu eZ
  obtain ⟨x,aa,gW⟩:=hargs _ hm
  obtain ⟨t,cq,nZ⟩:=oK eZ
  rw [nZ] at hu
  simp only [Option.some.injEq] at ar
  have ap:=h.eval x
  rw [gW] at ap
  exact key x 0 t _ aa cq (by rw [← ar];rfl) (by rw [← ar]) ap.qe (by simp [Builtin.len_,run_underlying hu])
 ·rename_i b hm hu eZ
  obtain ⟨x,aa,gW⟩:=hargs _ hm
  obtain ⟨t,cq,nZ⟩:=oK eZ
  rw [nZ] at hu
  simp only [Option.some.injEq] at ar
  have ap:=h.eval x
  rw [gW] at ap
  exact key x b.size t _ aa cq (by rw [← ar]) (by rw [← ar]) ap.y3 (by simp [Builtin.len_,run_underlying hu])
 ·simp at ar
theorem DW {ok:Nat→Prop}{a1:iZ}{bc:iQ}{dZ off sz:Nat}{es:List (List aA)}(h:oV w ok a1 bc dZ off sz es)(l n:Nat)(aL:l≤es.length):
 oV w ok a1 bc dZ (off+l*sz) sz ((es.drop l).take n):=by
 have q1 : ∀e∈(es.drop l).take n,e.length=sz:=fun e he=>h.1 e (List.mem_of_mem_drop (List.mem_of_mem_take he))
 refine ⟨q1,fun j x aa=> ?_⟩
 rcases Nat.eq_zero_or_pos sz with h0|b4
 ·have az : ∀(l:List (List aA)),(∀e∈l,e.length=0)→l.flatten=[]:=by
   intro l aL;induction l with
   | nil=>rfl
   | cons a l ih=>rw [List.flatten_cons,ih fun e he=>aL e (by simp [he])];have:=aL a (by simp);simp_all
  rw [az _ (fun e he=>(q1 e he).trans h0)] at aa;simp at aa
 ·rw [pE b4 _ q1] at aa
  have aC:j / sz<n:=by
   rcases Nat.lt_or_ge (j / sz) n with cw|cw
   ·exact cw
   ·rw [List.getElem?_eq_none (by simp;omega)] at aa;simp at aa
  rw [List.getElem?_take,if_pos aC,List.getElem?_drop] at aa
  obtain ⟨v,az,aH,b2⟩:=h.2 (l*sz+j) x (by
   rw [pE b4 es h.1]
   have hi:(l*sz+j) / sz=l+j / sz:=by rw [Nat.mul_comm,Nat.mul_add_div b4]
   have iu:(l*sz+j) % sz=j % sz:=by rw [Nat.mul_comm,Nat.mul_add_mod]
   rw [hi,iu];exact aa)
  exact ⟨v,by rw [Nat.add_assoc];exact az,aH,b2⟩
theorem DO {t e:TypeId}(hu:P.underlying t=some (.slice e))(ai:(P.info? e).isSome=true)(A:Option Addr)(len cap:Nat)(bZ jn:Option Value)(l h:Nat)
 (Su:(bZ=none∧l=0)∨ ∃k,bZ=some (.int k l)) (Sv:(jn=none∧h=len)∨ ∃k,jn=some (.int k h)) (o:l≤h) (J:h≤len) (ak:len≤cap) :
 (Instr.sliceAt t (.slice A len cap) bZ jn none).run P w = .ok (.slice (if cap=l then A else A.map (·.add (l*P.cellsOf e))) (h-l) (cap-l)) w:=by
 have aY : ∀(k:IntKind) (n y:Nat) (code:BoundsCode),n≤y→(Instr.sliceBound (.int k n) y code).run P w = .ok n w:=by
  intro k n y code a0
  simp [Instr.sliceBound,asIntOf,a0]
 rcases Su with ⟨rfl,rfl⟩|⟨kc,rfl⟩<;>rcases Sv with ⟨rfl,rfl⟩|⟨jz,rfl⟩ <;>
  simp [Instr.sliceAt,Instr.slice,run_underlying hu,Instr.sliceBounds,s9 ai,aY,o,J,ak,Nat.le_trans J ak]
theorem yR {x:Option Operand}(h:cQ g s ax a w){d n:Nat}{af:List Prop}(aY:aw (x.map (eO s.E)) d=some (n,af))(cy:∀p∈af,p):
 (x.map a.eval=none∧n=d)∨ ∃k,x.map a.eval=some (.int k n):=by
 cases x with
 | none=>simp [aw] at aY;exact .inl ⟨rfl,aY.1.symm⟩
 | some x =>
  have aa:=h.eval x
  simp only [Option.map_some] at aY ⊢
  unfold aw at aY
  split at aY
  ·rename_i he;simp at he
  ·rename_i _ k y he
   simp only [Option.some.injEq] at he
   rw [he] at aa
   simp only [Option.some.injEq,Prod.mk.injEq] at aY
   obtain ⟨rfl,rfl⟩:=aY
   have h0:0≤y:=cy _ (by simp)
   refine .inr ⟨k,?_⟩
   rw [aa.oC,Int.toNat_of_nonneg h0]
  ·simp at aY
theorem YP {t:TypeId}{x:Operand}{bZ ai:Option Operand}(h:cQ g s ax a w)(an:R.op = .slice t x bZ ai none)(ar:eU P s.E s.aU aV R cJ=some bs)(cy:∀p∈bs.fo,p):Fin P g s a w R bs:=by
 simp only [eU,an] at ar
 have aa:=h.eval x
 have vI : ∀sz e,sz=P.cellsOf e→sz≠0→(P.info? e).isSome=true:=by
  intro sz e b4 cv
  cases ai:P.info? e with
  | none=>simp [Program.cellsOf,ai] at b4;exact absurd b4 cv
  | some i=>rfl
 split at ar
 ·rename_i e sz es hu gW
  rw [gW] at aa
  split at ar
  ·rename_i l cb n a4 aL a0
   simp only [Option.ite_none_right_eq_some,Option.some.injEq] at ar
   obtain ⟨⟨b4,cv⟩,ar⟩:=ar
   subst ar
   have gA:=yR h aL fun p al=>cy p (by simp [al])
   have ho:=yR h a0 fun p al=>cy p (by simp [al])
   have o:l≤n:=cy _ (by simp)
   have J:n≤es.length:=cy _ (by simp)
   rcases aa.tg with ⟨B2,A,c,hval,hA⟩|⟨dZ,off,c,aY,hval,aJ,iq⟩
   ·subst B2
    have LA:n=0:=by simpa using J
    subst LA
    have nD:l=0:=by omega
    subst nD
    refine hY (v:= .slice (if c=0 then A else A.map (·.add (0*P.cellsOf e))) (0-0) (c-0)) h ?_ rfl ?_
    ·have:=DO (w:=w) hu (vI sz e b4 cv) A 0 c (bZ.map a.eval) (ai.map a.eval) 0 0 gA ho (Nat.le_refl _) (Nat.le_refl _) (Nat.zero_le _)
     simp only [execOp,an,hval]
     simp only [Option.map_none,Sem.run_bind,this];rfl
    ·refine .j6 sz _ _ fun a0=> ?_
     split at a0
     ·rename_i m6;omega
     ·have:=hA (by simpa using a0)
      omega
   ·have hlen:((es.drop l).take (n-l)).length=n-l:=by simp;omega
    refine hY (v:= .slice (if c=l then some ⟨dZ,off,none⟩ else (some (⟨dZ,off,none⟩:Addr)).map (·.add (l*P.cellsOf e))) (n-l) (c-l)) h ?_ rfl ?_
    ·have:=DO (w:=w) hu (vI sz e b4 cv) (some ⟨dZ,off,none⟩) es.length c (bZ.map a.eval) (ai.map a.eval) l n gA ho o J aJ
     simp only [execOp,an,hval]
     simp only [Option.map_none,Sem.run_bind,this];rfl
    ·by_cases hC:c=l
     ·have:n-l=0:=by omega
      rw [this]
      show Rel _ _ _ _ (.isl sz ((es.drop l).take 0)) _
      rw [List.take_zero]
      exact .j6 sz _ _ (fun _=>by omega)
     ·rw [if_neg hC]
      simp only [Option.map_some,rC,← b4]
      have ap:=(DW iq l (n-l) (by omega)).isl (c:=c-l) ⟨aY.1,fun e he=>aY.2 e (List.mem_of_mem_drop (List.mem_of_mem_take he))⟩ (by rw [hlen];omega)
      rw [hlen] at ap
      exact ap
  ·simp at ar
 ·rename_i e r k F6 len hu gW
  rw [gW] at aa
  split at ar
  ·simp at ar
  ·rename_i row dD
   split at ar
   ·simp at ar
   ·rename_i af TD bm
    split at ar
    ·rename_i l cb n a4 aL a0
     simp only [Option.ite_none_right_eq_some,Option.some.injEq] at ar
     obtain ⟨⟨b4,cv⟩,ar⟩:=ar
     subst ar
     have jl:s.af r k=some af:=by
      unfold S.af;rw [dD];exact th bm fun p al=>cy p (by simp [al])
     have gA:=yR h aL fun p al=>cy p (by simp [al])
     have ho:=yR h a0 fun p al=>cy p (by simp [al])
     have o:l≤n:=cy _ (by simp)
     have J:n≤len:=cy _ (by simp)
     have i5:=Ep jl
     rcases aa.vq (h4 jl) with ⟨al,rfl,rfl,hval⟩|⟨b,m,A,c,al,hval,rV,tF,m7,hm⟩
     ·have LA:n=0:=by omega
      subst LA
      have nD:l=0:=by omega
      subst nD
      refine hY (v:= .slice none 0 0) h ?_ rfl (.nP i5 ((h4 jl).trans (by rw [al])))
      have:=DO (w:=w) hu (vI _ e b4 cv) none 0 0 (bZ.map a.eval) (ai.map a.eval) 0 0 gA ho (Nat.le_refl _) (Nat.le_refl _) (Nat.le_refl _)
      simp only [execOp,an,hval]
      simp only [Option.map_none,Sem.run_bind,this];rfl
     ·refine hY (v:= .slice (if c=l then A else A.map (·.add (l*P.cellsOf e))) (n-l) (c-l)) h ?_ rfl ?_
      ·have:=DO (w:=w) hu (vI _ e b4 cv) A len c (bZ.map a.eval) (ai.map a.eval) l n gA ho o J rV
       simp only [execOp,an,hval]
       simp only [Option.map_none,Sem.run_bind,this];rfl
      ·refine Rel.bC i5 ((h4 jl).trans (by rw [al])) (by omega) (by omega) ?_
       refine ⟨by rw [← m7];congr 1;omega,?_⟩
       by_cases hC:c=l
       ·exact .inl (by omega)
       ·rcases hm with hm|hA
        ·exact .inl (by omega)
        ·refine .inr ?_
         rw [if_neg hC,hA]
         simp only [Option.map_some,rC,← b4,Nat.add_mul]
    ·simp at ar
 ·rename_i b hu gW
  rw [gW] at aa
  split at ar
  ·rename_i l cb n a4 aL a0
   simp only [Option.some.injEq] at ar
   subst ar
   have gA:=yR h aL fun p al=>cy p (by simp [al])
   have ho:=yR h a0 fun p al=>cy p (by simp [al])
   have o:l≤n:=cy _ (by simp)
   have J:n≤b.size:=cy _ (by simp)
   refine hY (v:= .string (b.extract l n)) h ?_ rfl (.s _)
   have aY : ∀(k:IntKind) (n y:Nat) (code:BoundsCode),n≤y→(Instr.sliceBound (.int k n) y code).run P w = .ok n w:=by
    intro k n y code a0
    simp [Instr.sliceBound,asIntOf,a0]
   simp only [execOp,an,aa.y3,Option.map_none]
   rcases gA with ⟨az,rfl⟩|⟨kc,az⟩<;>rcases ho with ⟨aH,rfl⟩|⟨jz,aH⟩<;>rw [az,aH] <;>
    simp [Instr.sliceAt,Instr.slice,run_underlying hu,Instr.sliceBounds,aY,o,J]
  ·simp at ar
 ·simp at ar
end
end Go.VL
namespace Go.VL
set_option linter.unusedVariables false
set_option linter.unusedSimpArgs false
open Go
section
variable {P:Program} {g:G} {s:S} {ax:fs} {a:Act} {w:World} {R:Oper} {cJ:fE} {aV:Nat} {bs:hD}
theorem O0 {ok:Nat→Prop}{a1:iZ}{bc:iQ}{t:TypeId}{c:List aA}{off:Nat}{x:aA}{vs:List Value}(aL:vs.length=c.length)
 (jR : ∀(j:Nat) u,vs[j]? = some u→j2 u=true) (ap : ∀(j:Nat) x u,c[j]? = some x→vs[j]? = some u→Rel w ok a1 bc x u)
 (cq:qU P t c off=some x) : ∃v,(part t vs.toArray off).run P w = .ok v w∧Rel w ok a1 bc x v:=by
 unfold qU at cq
 split at cq
 ·simp at cq
 ·rename_i ai
  simp only [Bool.not_eq_true',Bool.not_eq_false,Bool.and_eq_true] at ai
  simp only [part,Sem.run_bind,Ps ai.1,Result.andThen]
  split at cq
  ·rename_i rP
   rw [rP]
   split at cq
   ·rename_i hle
    simp at cq;subst cq
    have e:(vs.toArray.extract off (off+P.cellsOf t))=((vs.drop off).take (P.cellsOf t)).toArray:=by
     apply Array.ext'
     simp [List.extract_eq_take_drop]
    refine ⟨.agg ((vs.drop off).take (P.cellsOf t)).toArray,by simp [s9 ai.2],?_⟩
    refine .agg _ (by simp;omega) ?_ ?_
    ·intro j v a3
     rw [List.getElem?_take] at a3
     split at a3
     ·rw [List.getElem?_drop] at a3;exact jR _ _ a3
     ·simp at a3
    ·intro j y v aP a3
     rw [List.getElem?_take] at a3 aP
     split at a3
     ·rename_i aC
      rw [if_pos aC] at aP
      rw [List.getElem?_drop] at a3 aP;exact ap _ _ _ aP a3
     ·simp at a3
   ·simp at cq
  ·rename_i rP
   have rP:A5 P t=false:=by simpa using rP
   rw [rP]
   split at cq
   ·rename_i y aP
    split at cq
    ·simp at cq;subst cq
     have zb:off<vs.length:=by
      rcases Nat.lt_or_ge off c.length with h|h
      ·omega
      ·rw [List.getElem?_eq_none h] at aP;simp at aP
     exact ⟨vs[off],by simp [zb],ap off y _ aP (List.getElem?_eq_getElem zb)⟩
    ·simp at cq
   ·simp at cq
theorem YQ {t:TypeId}{x:Operand}{f:Nat}(h:cQ g s ax a w)(an:R.op = .field t x f)(ar:eU P s.E s.aU aV R cJ=some bs):Fin P g s a w R bs:=by
 simp only [eU,an] at ar
 have aa:=h.eval x
 split at ar
 ·rename_i jW B1
  split at ar
  ·rename_i fd c uC gW
   rw [gW] at aa
   cases cq:qU P fd.type c fd.offset with
   | none=>simp [cq] at ar
   | some v =>
    simp [cq] at ar;subst ar
    obtain ⟨vs,hval,aL,aJ,ap⟩:=aa.yE
    obtain ⟨u,o,J⟩:=O0 aL aJ ap cq
    refine hY (v:=u) h ?_ rfl J
    simp [execOp,an,hval,Instr.field,run_underlying (Jx B1),uC,asAgg,o]
  ·simp at ar
 ·simp at ar
theorem Pw : ∀ {a b c:List aA},qm 0 a b=some c→c=a
 | [],[],c,h=>by simp [qm] at h;exact h
 | .n k x::a,.n dJ y::b,c,h=>by
  unfold qm at h
  split at h
  ·cases hm:qm 0 a b with
   | none=>simp [hm] at h
   | some d=>simp [hm] at h;rw [← h,Pw hm]
  ·simp at h
 | [],_::_,_,h=>by simp [qm] at h
theorem P0 {j:Int}(aC:j≠0): ∀ {a b c:List aA},qm j a b=some c→c=b
 | [],[],c,h=>by simp [qm] at h;exact h
 | .n k x::a,.n dJ y::b,c,h=>by
  unfold qm at h
  split at h
  ·rename_i aX
   subst aX
   cases hm:qm j a b with
   | none=>simp [hm] at h
   | some d=>simp [hm,aC] at h;rw [← h,P0 aC hm]
  ·simp at h
 | [],_::_,_,h=>by simp [qm] at h
theorem X7 {t:TypeId}{x y:Operand}(h:cQ g s ax a w)(an:R.op = .index t x y)(ar:Ky P t (eO s.E x) (eO s.E y)=some bs)(cy:∀p∈bs.fo,p):Fin P g s a w R bs:=by
 unfold Ky at ar
 have aa:=h.eval x
 have aP:=h.eval y
 split at ar
 ·rename_i e cs cu j ia ty BB
  rw [ty] at aa;rw [BB] at aP
  obtain ⟨hu,ai,-,-⟩:=Kk ia
  split at ar
  ·rename_i dO jO bH aY
   cases hm:qm j dO jO with
   | none=>simp [hm] at ar
   | some c =>
    simp only [hm,Option.map_some,Option.some.injEq] at ar;subst ar
    have h0:0≤j:=cy _ (by simp)
    have o:j<2:=cy _ (by simp)
    obtain ⟨vs,hval,aL,aJ,ap⟩:=aa.yE
    have key:qU P e cs (j.toNat*P.cellsOf e)=some (.agg c):=by
     have:j=0∨j=1:=by omega
     rcases this with rfl|rfl
     ·rw [Pw hm];exact bH
     ·rw [P0 (by decide) hm];exact aY
    obtain ⟨u,kc,jz⟩:=O0 aL aJ ap key
    refine hY (v:=u) h ?_ rfl jz
    simp [execOp,an,hval,aP.oC,Instr.index,asIntOf,run_underlying hu,h0,o,s9 ai,kc]
  ·simp at ar
 ·simp at ar
theorem YR {t:TypeId}{x y:Operand}(h:cQ g s ax a w)(an:R.op = .index t x y)(ar:eU P s.E s.aU aV R cJ=some bs)(cy:∀p∈bs.fo,p):Fin P g s a w R bs:=by
 simp only [eU,an] at ar
 have aa:=h.eval x
 have aP:=h.eval y
 split at ar
 ·rename_i b k j hu ty BB
  rw [ty] at aa;rw [BB] at aP
  simp only [Option.some.injEq] at ar;subst ar
  have h0:0≤j:=cy _ (by simp)
  have o:j<b.size:=cy _ (by simp)
  have J:j.toNat<b.size:=by omega
  refine hY (v:= .int .u8 (b[j.toNat]).toNat) h ?_ rfl ?_
  ·simp [execOp,an,aa.y3,aP.oC,Instr.index,asIntOf,run_underlying hu,h0,J]
  ·have e:b.data.toList.getD j.toNat 0=b[j.toNat]:=by
    rw [List.getD_eq_getElem?_getD,Array.getElem?_toList,Array.getElem?_eq_getElem (by simpa using J)];rfl
   show Rel _ _ _ _ (.n .u8 _) _
   rw [e];exact .n _ _
 ·exact X7 h an ar cy
theorem X8 (off:Nat): ∀(vs:List Value) (n:Nat) (cs:Array Value) (j:Nat),off+n+vs.length≤cs.size →
 ((vs.zipIdx n).foldl (fun cs (x:Value×Nat)=>cs.setIfInBounds (off+x.2) x.1) cs)[j]? = if off+n≤j∧j<off+n+vs.length then vs[j-(off+n)]? else cs[j]? := by
 intro vs
 induction vs with
 | nil=>intro n cs j h;simp;intro o J;omega
 | cons v vs ih =>
  intro n cs j h
  simp only [List.length_cons] at h
  simp only [List.zipIdx_cons,List.foldl_cons]
  rw [ih (n+1) _ j (by simp;omega)]
  simp only [List.length_cons,Array.getElem?_setIfInBounds]
  by_cases o:j=off+n
  ·subst o
   rw [if_neg (by omega),if_pos rfl,if_pos (by omega),if_pos (by omega)]
   simp
  ·by_cases J:off+(n+1)≤j∧j<off+(n+1)+vs.length
   ·rw [if_pos J,if_pos (by omega)]
    rw [show j-(off+n)=(j-(off+(n+1)))+1 by omega];rfl
   ·rw [if_neg J,if_neg (fun e=>o e.symm),if_neg (by omega)]
theorem WA (off:Nat): ∀(vs:List (Value×Nat)) (cs:Array Value),(vs.foldl (fun cs (x:Value×Nat)=>cs.setIfInBounds (off+x.2) x.1) cs).size=cs.size:=by
 intro vs
 induction vs with
 | nil=>intro cs;rfl
 | cons v vs ih=>intro cs;simp only [List.foldl_cons];rw [ih];simp
def zO (w:World)(ok:Nat→Prop)(a1:iZ)(bc:iQ)(c:List aA)(cs:Array Value):Prop :=
 cs.size=c.length∧(∀(j:Nat) u,cs[j]? = some u→j2 u=true)∧ ∀(j:Nat) x u,c[j]? = some x→cs[j]? = some u→Rel w ok a1 bc x u
theorem YS {ok:Nat→Prop}{a1:iZ}{bc:iQ}{c:List aA}{cs:Array Value}(h:zO w ok a1 bc c cs){x:aA}{v:Value}{off:Nat}(aa:Rel w ok a1 bc x v)(aJ:x.yx=true)
 (ik:off+x.cells.length≤c.length):v.cells.size=x.cells.length ∧
   zO w ok a1 bc (setCells c off x.cells) (v.cells.zipIdx.foldl (fun cs (y:Value×Nat)=>cs.setIfInBounds (off+y.2) y.1) cs):=by
 obtain ⟨vs,a3,aL,jR,ap⟩:=aa.cellsOf (aA.OJ aJ)
 have lZ : ∀j,(v.cells.zipIdx.foldl (fun cs (y:Value×Nat)=>cs.setIfInBounds (off+y.2) y.1) cs)[j]? = if off≤j∧j<off+vs.length then vs[j-off]? else cs[j]? := by
  intro j
  rw [a3]
  have:=X8 off vs 0 cs j (by rw [h.1];omega)
  simp only [Nat.add_zero] at this
  rw [← this,← Array.foldl_toList,Array.toList_zipIdx]
 refine ⟨by rw [a3];simpa using aL,?_,?_,?_⟩
 ·rw [N4 ik,← h.1,← Array.foldl_toList,WA]
 ·intro j u hu
  rw [lZ] at hu
  split at hu
  ·exact jR _ _ hu
  ·exact h.2.1 _ _ hu
 ·intro j y u aP hu
  rw [lZ] at hu
  rw [Jw ik] at aP
  by_cases mu:off≤j∧j<off+x.cells.length
  ·rw [if_pos mu] at aP
   rw [if_pos (by rw [aL];exact mu)] at hu
   exact ap _ _ _ aP hu
  ·rw [if_neg mu] at aP
   rw [if_neg (by rw [aL];exact mu)] at hu
   exact h.2.2 _ _ _ aP hu
theorem JH {ok:Nat→Prop}{a1:iZ}{bc:iQ}(place:Nat→Option (Nat×Nat)): ∀(l:List (Nat×Nat×aA)) (i9:List (Nat×Value)) (c:List aA) (cs:Array Value) (dY:List aA),
 zO w ok a1 bc c cs→l.length=i9.length →
 (∀(j:Nat) off size x i v,l[j]? = some (off,size,x)→i9[j]? = some (i,v)→place i=some (off,size)∧Rel w ok a1 bc x v) →
 sB c l=some dY→ ∃lf,Instr.fill place cs i9=some lf∧zO w ok a1 bc dY lf:=by
 intro l
 induction l with
 | nil =>
  intro i9 c cs dY h aL _ cc
  have:i9=[]:=List.length_eq_zero_iff.1 (by simpa using aL.symm)
  subst this
  simp [sB] at cc;subst cc
  exact ⟨cs,rfl,h⟩
 | cons q l ih =>
  intro i9 c cs dY h aL al cc
  obtain ⟨off,size,x⟩:=q
  match i9,aL with
  | (i,v)::i9,aL =>
   obtain ⟨acz,aa⟩:=al 0 off size x i v rfl rfl
   simp only [sB] at cc
   split at cc
   ·rename_i aJ
    simp only [Bool.and_eq_true,decide_eq_true_eq] at aJ
    obtain ⟨⟨o,J⟩,ak⟩:=aJ
    obtain ⟨az,aH⟩:=YS h aa o (off:=off) (by omega)
    obtain ⟨lf,f1,f2⟩:=ih i9 _ _ dY aH (by simpa using aL) (fun j off size x i v a b=>al (j+1) off size x i v a b) cc
    refine ⟨lf,?_,f2⟩
    rw [Instr.fill]
    simp only [acz]
    have hh : ¬(decide (v.cells.size≠size) || decide (off+v.cells.size>cs.size))=true:=by simp;rw [az,h.1];omega
    rw [if_neg hh]
    exact f1
   ·simp at cc
theorem mapM_some {α β:Type}(f:α→β)(p:α→Option β): ∀(l:List α),(∀x∈l,p x=some (f x))→l.mapM p=some (l.map f)
 | [],_=>rfl
 | x::l,h=>by
  rw [List.mapM_cons,h x (by simp),mapM_some f p l fun y aP=>h y (by simp [aP])];rfl
theorem QD {α β:Type}(p:α→Option β): ∀(l:List α) (gr:List β),l.mapM p=some gr→gr.length=l.length∧ ∀(j:Nat) x y,l[j]? = some x→gr[j]? = some y→p x=some y
 | [],gr,h=>by simp at h;subst h;exact ⟨rfl,fun j x y aa=>by simp at aa⟩
 | a::l,gr,h=>by
  rw [List.mapM_cons] at h
  cases bH:p a with
  | none=>simp [bH] at h
  | some b =>
   cases aL:l.mapM p with
   | none=>simp [bH,aL] at h
   | some r =>
    simp [bH,aL] at h;subst h
    obtain ⟨o,J⟩:=QD p l r aL
    refine ⟨by simp [o],fun j x y aa aP=> ?_⟩
    cases j with
    | zero=>simp at aa aP;subst aa;subst aP;exact bH
    | succ j=>simp at aa aP;exact J j x y aa aP
theorem Kl {t:TypeId}{z:List aA}(cv:qJ P t=some z): ∃i ew,P.info? t=some i∧i.zero=some ew∧ew.cells.size=z.length∧zO w (s.ok g ax w) s.a1 (s.bc ax) z ew.cells:=by
 obtain ⟨i,ew,ai,kw,sS,jR⟩:=AB cv
 have b4:ew.cells.size=z.length:=by rw [sS];simp
 refine ⟨i,ew,ai,kw,b4,b4,fun j u hu=> ?_,fun j x u aa hu=> ?_⟩
 ·have aC:j<z.length:=by
   have:=(Array.getElem?_eq_some_iff.1 hu).1;omega
  obtain ⟨v,az,aH,-⟩:=jR j z[j] (List.getElem?_eq_getElem aC)
  rw [hu] at az;simp at az;subst az;exact aH
 ·obtain ⟨v,az,-,b2⟩:=jR j x aa
  rw [hu] at az;simp at az;subst az;exact b2 _ _ _ _
theorem Xe {t:TypeId}{parts:Array (Nat×Operand)}(h:cQ g s ax a w)(an:R.op = .build t parts)(ar:JY P t (parts.toList.map fun p=>(p.1,eO s.E p.2))=some bs):Fin P g s a w R bs:=by
 unfold JY at ar
 split at ar
 ·rename_i n e z ia cv
  obtain ⟨hu,ai,-,-⟩:=Kk ia
  rw [List.map_map] at ar
  cases cc:sB z (parts.toList.map ((fun p:Nat×aA=>(p.1*P.cellsOf e,P.cellsOf e,p.2))∘fun p=>(p.1,eO s.E p.2))) with
  | none=>rw [cc] at ar;simp at ar
  | some c =>
   rw [cc] at ar
   simp only [Option.map_some,Option.some.injEq] at ar;subst ar
   obtain ⟨it,ew,vX,kw,eZ,hcs⟩:=Kl (w:=w) (s:=s) (g:=g) (ax:=ax) cv
   obtain ⟨MG,zi⟩:=Option.isSome_iff_exists.1 ai
   have abg:P.cellsOf e=MG.size:=by simp [Program.cellsOf,zi]
   obtain ⟨lf,f1,f2⟩:=JH (w:=w) (ok:=s.ok g ax w) (a1:=s.a1) (bc:=s.bc ax) (fun i=>some (i*MG.size,MG.size)) _ (parts.map fun (i,x)=>(i,a.eval x)).toList z ew.cells c hcs (by simp) (by
    intro j off size x i v aC a3
    simp only [List.getElem?_map,Option.map_eq_some_iff,Function.comp,Prod.mk.injEq] at aC
    simp only [Array.toList_map,List.getElem?_map,Option.map_eq_some_iff] at a3
    obtain ⟨p,al,az,aH,b2⟩:=aC
    obtain ⟨⟨e8,cO⟩,l0,a3⟩:=a3
    simp only [Prod.mk.injEq] at a3
    obtain ⟨rfl,rfl⟩:=a3
    rw [al] at l0
    have:=Option.some.inj l0
    subst this
    refine ⟨by rw [← az,← aH,abg],?_⟩
    rw [← b2];exact h.eval _) cc
   have aY:P.built t (parts.map fun (i,x)=>(i,a.eval x)).toList=some lf:=by
    unfold Program.built
    simp only [vX,hu,kw,zi]
    exact f1
   refine hY (v:= .agg lf) h ?_ rfl ?_
   ·have:=run_build w t _ lf aY
    simp [execOp,an,this]
   ·have:=Rel.agg (w:=w) (ok:=s.ok g ax w) (a1:=s.a1) (bc:=s.bc ax) (c:=c) lf.toList (by simpa using f2.1) (fun j u hu=>f2.2.1 j u (by simpa using hu)) (fun j x u aa hu=>f2.2.2 j x u aa (by simpa using hu))
    simpa using this
 ·simp at ar
theorem YT {t:TypeId}{parts:Array (Nat×Operand)}(h:cQ g s ax a w)(an:R.op = .build t parts)(ar:eU P s.E s.aU aV R cJ=some bs):Fin P g s a w R bs:=by
 simp only [eU,an] at ar
 split at ar
 ·rename_i jW z B1 cv
  split at ar
  ·simp at ar
  ·rename_i nX
   have nX : ∀f∈jW.toList,(P.info? f.type).isSome=true:=by
    rw [Bool.not_eq_false] at nX
    exact List.all_eq_true.1 nX
   split at ar
   ·rename_i l aL
    cases cc:sB z l with
    | none=>simp [cc] at ar
    | some c =>
     simp [cc] at ar;subst ar
     obtain ⟨it,ew,vX,kw,eZ,hcs⟩:=Kl (w:=w) (s:=s) (g:=g) (ax:=ax) cv
     obtain ⟨nk,p6⟩:=QD _ _ _ aL
     have abM:jW.toList.mapM (fun f=>(P.info? f.type).map fun i=>(f.offset,i.size))=some (jW.toList.map fun f=>(f.offset,P.cellsOf f.type)):=by
      refine mapM_some (fun f:Field=>(f.offset,P.cellsOf f.type)) _ _ fun f cc=> ?_
      have:=nX f cc
      cases ai:P.info? f.type with
      | none=>simp [ai] at this
      | some i=>simp [Program.cellsOf,ai]
     obtain ⟨lf,f1,f2⟩:=JH (w:=w) (ok:=s.ok g ax w) (a1:=s.a1) (bc:=s.bc ax) ((jW.toList.map fun f=>(f.offset,P.cellsOf f.type)).toArray[·]?) l (parts.map fun (i,x)=>(i,a.eval x)).toList z ew.cells c hcs (by simpa using nk) (by
      intro j off size x i v aC a3
      simp only [Array.toList_map,List.getElem?_map,Option.map_eq_some_iff] at a3
      obtain ⟨⟨e8,cO⟩,al,a3⟩:=a3
      simp only [Prod.mk.injEq] at a3
      obtain ⟨rfl,rfl⟩:=a3
      have:=p6 j _ _ al aC
      simp only [Option.map_eq_some_iff,Prod.mk.injEq] at this
      obtain ⟨fd,o,J,ak,ay⟩:=this
      subst J;subst ak;subst ay
      refine ⟨?_,h.eval cO⟩
      rw [List.getElem?_toArray,List.getElem?_map,Array.getElem?_toList,o];rfl) cc
     have aY:P.built t (parts.map fun (i,x)=>(i,a.eval x)).toList=some lf:=by
      unfold Program.built
      simp only [vX,Jx B1,kw,abM]
      exact f1
     refine hY (v:= .agg lf) h ?_ rfl ?_
     ·have:=run_build w t _ lf aY
      simp [execOp,an,this]
     ·have:=Rel.agg (w:=w) (ok:=s.ok g ax w) (a1:=s.a1) (bc:=s.bc ax) (c:=c) lf.toList (by simpa using f2.1) (fun j u hu=>f2.2.1 j u (by simpa using hu)) (fun j x u aa hu=>f2.2.2 j x u aa (by simpa using hu))
      simpa using this
   ·simp at ar
 ·exact Xe h an ar
theorem Wd {sz:Nat}{es:List (List aA)}(aL:∀e∈es,e.length=sz){i:Nat}(ai:i<es.length){c:List aA}(aJ:c.length=sz):
 setCells es.flatten (i*sz) c=(es.set i c).flatten:=by
 have hlen : ∀(es:List (List aA)),(∀e∈es,e.length=sz)→es.flatten.length=es.length*sz:=by
  intro es
  induction es with
  | nil=>simp
  | cons e es ih =>
   intro h
   rw [List.flatten_cons,List.length_append,ih fun x aa=>h x (by simp [aa]),h e (by simp),List.length_cons,Nat.add_mul];omega
 have ik:i*sz+c.length≤es.flatten.length:=by
  rw [hlen es aL,aJ]
  have:=Nat.mul_le_mul_right sz (show i+1≤es.length by omega)
  rw [Nat.add_mul] at this;omega
 apply List.ext_getElem?
 intro j
 rw [Jw ik,OK aL (List.getElem?_eq_getElem ai) aJ,aJ]
theorem O1 {sz:Nat}: ∀(l:List (Nat×aA)) (es gq:List (List aA)),(∀e∈es,e.length=sz)→y2 sz es l=some gq →
 sB es.flatten (l.map fun p=>(p.1*sz,sz,p.2))=some gq.flatten∧(∀e∈gq,e.length=sz)∧gq.length=es.length
 | [],es,gq,aL,h=>by simp [y2] at h;subst h;exact ⟨rfl,aL,rfl⟩
 | (i,x)::l,es,gq,aL,h=>by
  simp only [y2] at h
  split at h
  ·rename_i aJ
   simp only [Bool.and_eq_true,decide_eq_true_eq] at aJ
   obtain ⟨⟨o,J⟩,ak⟩:=aJ
   have Ly : ∀e∈es.set i x.cells,e.length=sz:=by
    intro e hm
    rcases List.mem_or_eq_of_mem_set hm with cw|cw
    ·exact aL e cw
    ·exact cw▸J
   obtain ⟨hi,iu,bK⟩:=O1 l (es.set i x.cells) gq Ly h
   have e:=Wd aL ak J
   have ik:i*sz+sz≤es.flatten.length:=by
    have:(setCells es.flatten (i*sz) x.cells).length=(es.set i x.cells).flatten.length:=by rw [e]
    have bi : ∀(es:List (List aA)),(∀e∈es,e.length=sz)→es.flatten.length=es.length*sz:=by
     intro es
     induction es with
     | nil=>simp
     | cons e es ih =>
      intro h
      rw [List.flatten_cons,List.length_append,ih fun x aa=>h x (by simp [aa]),h e (by simp),List.length_cons,Nat.add_mul];omega
    rw [bi es aL]
    have:=Nat.mul_le_mul_right sz (show i+1≤es.length by omega)
    rw [Nat.add_mul] at this;omega
   refine ⟨?_,iu,by simpa using bK⟩
   simp only [List.map_cons,sB,o,J,ik,decide_true,Bool.and_self,if_true]
   rw [e];exact hi
  ·simp at h
theorem WN {t:TypeId}{len:Nat}{parts:Array (Nat×Operand)}(h:cQ g s ax a w)(e2:s.aU aV=none)(an:R.op = .buildSlice t len parts)(ar:eU P s.E s.aU aV R cJ=some bs):Fin P g s a w R bs:=by
 simp only [eU,an] at ar
 split at ar
 ·rename_i e he
  split at ar
  ·rename_i z cv
   split at ar
   ·simp at ar
   ·rename_i aJ
    simp only [not_or,Nat.not_lt,Decidable.not_not] at aJ
    obtain ⟨m8,zj,zk⟩:=aJ
    split at ar
    ·rename_i es hx
     simp only [Option.some.injEq] at ar;subst ar
     obtain ⟨it,ew,vX,kw,eZ,hcs⟩:=Kl (w:=w) (s:=s) (g:=g) (ax:=ax) cv
     have jR:P.cellsOf e=it.size:=by simp [Program.cellsOf,vX]
     have R7 : ∀x∈List.replicate len z,x.length=z.length:=fun x aa=>by rw [List.eq_of_mem_replicate aa]
     obtain ⟨f1,f2,f3⟩:=O1 _ _ _ R7 hx
     have rW:zO w (s.ok g ax w) s.a1 (s.bc ax) (List.replicate len z).flatten ((Array.range (len*it.size)).map (ew.cells[· % ew.cells.size]!)):=by
      have Fu:0<z.length:=by omega
      have lZ : ∀j,j<len*it.size→((Array.range (len*it.size)).map (ew.cells[· % ew.cells.size]!))[j]? = ew.cells[j % z.length]? := by
       intro j aC
       rw [Array.getElem?_map,Array.getElem?_range]
       simp only [aC,if_true,Option.map_some]
       have hm:j % ew.cells.size<ew.cells.size:=Nat.mod_lt _ (by omega)
       rw [getElem!_pos ew.cells _ hm,← eZ,Array.getElem?_eq_getElem hm]
      have dB : ∀(j:Nat) u,((Array.range (len*it.size)).map (ew.cells[· % ew.cells.size]!))[j]? = some u→j<len*it.size:=by
       intro j u hu
       have:=(Array.getElem?_eq_some_iff.1 hu).1
       simpa using this
      refine ⟨by simp [← jR,← zj],fun j u hu=> ?_,fun j x u aa hu=> ?_⟩
      ·have aC:=dB j u hu
       rw [lZ j aC] at hu
       exact hcs.2.1 _ _ hu
      ·have aC:=dB j u hu
       rw [lZ j aC] at hu
       rw [pE Fu _ R7,List.getElem?_replicate] at aa
       split at aa
       ·exact hcs.2.2 _ _ _ aa hu
       ·simp at aa
     obtain ⟨lf,g1,g2⟩:=JH (w:=w) (ok:=s.ok g ax w) (a1:=s.a1) (bc:=s.bc ax) (fun i=>some (i*it.size,it.size)) ((parts.toList.map fun p=>(p.1,eO s.E p.2)).map fun p=>(p.1*z.length,z.length,p.2)) (parts.map fun (i,x)=>(i,a.eval x)).toList _ _ es.flatten rW (by simp) (by
      intro j off size x i v aC a3
      simp only [Array.toList_map,List.getElem?_map,Option.map_eq_some_iff,List.map_map] at a3 aC
      obtain ⟨⟨e8,cO⟩,al,a3⟩:=a3
      obtain ⟨⟨lo,fk⟩,BX,aC⟩:=aC
      rw [al] at BX
      simp only [Option.some.injEq,Prod.mk.injEq] at BX a3
      obtain ⟨rfl,rfl⟩:=BX
      obtain ⟨rfl,rfl⟩:=a3
      simp only [Function.comp,Prod.mk.injEq] at aC
      obtain ⟨rfl,rfl,rfl⟩:=aC
      exact ⟨by rw [← jR,← zj],h.eval cO⟩) f1
     have iJ:(Instr.buildSlice t len (parts.map fun (i,x)=>(i,a.eval x))).run P w = .ok (.slice (some ⟨w.heap.size,0,none⟩) len len) (w.alloc (.cells lf e)):=by
      have o : ¬len*it.size>2 ^ 24:=by rw [← jR,← zj];omega
      by_cases h0:len*it.size=0
      ·have nD:len=0:=by
        rcases Nat.eq_zero_or_pos len with cw|cw
        ·exact cw
        ·have:0<len*it.size:=Nat.mul_pos cw (by omega)
         omega
       subst nD
       have e0:((Array.range (0*it.size)).map (ew.cells[· % ew.cells.size]!)) = #[]:=by simp
       rw [e0] at g1
       have al:parts = #[]:=by
        obtain ⟨l⟩:=parts
        match l,hx with
        | [],_=>rfl
        | p::l,hx=>simp [y2] at hx
       subst al
       have abN:lf = #[]:=by simpa [Instr.fill] using g1.symm
       subst abN
       simp [Instr.buildSlice,run_underlying (ss he),sizeOf,typeInfo,vX,newRow,Instr.fill]
       rw [Array.range_zero',Array.map_empty]
      ·simp only [Instr.buildSlice,run_underlying (ss he),sizeOf,typeInfo,vX,newRow,zeroValue,kw,Sem.run_bind,Result.andThen_ok,run_program,Sem.run_pure,Sem.run_ite,o,h0,if_false]
       rw [g1];rfl
     refine EC (v:= .slice (some ⟨w.heap.size,0,none⟩) len len) (af:=⟨z.length,es,.live⟩) (c:=lf) (eF:=e) h e2 rfl ?_ rfl f2 ?_ ?_
     ·simp [execOp,an,iJ]
     ·intro j x aa
      have aC:j<lf.size:=by
       rw [g2.1]
       rcases Nat.lt_or_ge j es.flatten.length with cw|cw
       ·exact cw
       ·rw [List.getElem?_eq_none cw] at aa;simp at aa
      have hu:lf[j]? = some lf[j]:=Array.getElem?_eq_getElem aC
      exact ⟨_,hu,g2.2.1 _ _ hu,g2.2.2 _ _ _ aa hu⟩
     ·intro bJ kG m3 mr hu cq
      refine Rel.bC hu cq (Nat.le_refl _) ?_ ⟨?_,.inr (by simp)⟩
      ·have:len≤len*z.length:=Nat.le_mul_of_pos_right _ (by omega)
       omega
      ·rw [g2.1]
       have bi : ∀(es:List (List aA)),(∀e∈es,e.length=z.length)→es.flatten.length=es.length*z.length:=by
        intro es
        induction es with
        | nil=>simp
        | cons e es ih =>
         intro h
         rw [List.flatten_cons,List.length_append,ih fun x aa=>h x (by simp [aa]),h e (by simp),List.length_cons,Nat.add_mul];omega
       rw [bi es f2,f3];simp
    ·simp at ar
  ·simp at ar
 ·simp at ar
theorem Ed (h:cQ g s ax a w)(e2:s.aU aV=none)(ar:eU P s.E s.aU aV R cJ=some bs)(cy:∀p∈bs.fo,p):Fin P g s a w R bs:=by
 cases an:R.op with
 | move x=>exact QC h (.inl an) ar
 | assign x=>exact QC h (.inr an) ar
 | pick c x y=>exact ZJ h an ar cy
 | alloc t=>exact YK h e2 an ar
 | box t x=>exact aar h e2 an ar
 | load t x=>exact ZK h an ar cy
 | store t x y=>exact YL h an ar cy
 | nilCheck x=>exact Xc h an ar cy
 | binOp op t x y dH=>exact YM h an ar cy
 | unOp op t x=>exact ZL h an ar
 | convert t dH x=>exact Xx h an ar
 | makeFunc f CE cl=>exact Xd h an ar
 | makeSlice t x y=>exact WX h e2 an ar cy
 | fieldAddr t x f=>exact WY h an ar cy
 | field t x f=>exact YQ h an ar
 | indexAddr t x y=>exact WZ h an ar cy
 | index t x y=>exact YR h an ar cy
 | extract x i=>exact Xy h an ar
 | slice t x bZ ai MH =>
  cases MH with
  | none=>exact YP h an ar cy
  | some m=>simp [eU,an] at ar
 | build t i9=>exact YT h an ar
 | buildSlice t n i9=>exact WN h e2 an ar
 | call c =>
  obtain ⟨Fv,args,m5⟩:=c
  cases Fv with
  | builtin b=>cases b<;>first|exact aas h an rfl ar cy|simp [eU,an] at ar
  | value f=>simp [eU,an] at ar
  | invoke r m=>simp [eU,an] at ar
 | _=>simp [eU,an] at ar
end
end Go.VL
namespace Go.VL
set_option linter.unusedVariables false
set_option linter.unusedSimpArgs false
open Go
def aat:Option ab→fE
 | some R=> .hv R []
 | none=> .none
def rH (sz:Nat)(aU:Nat→Option (List ab))(a:fE):aA→Option (List (List aA)×List Prop)
 | .isl Fw es=>if Fw=sz then some (es,[]) else none
 | .bC r k bZ len=>match oJ (aU r) k a with
  | some (af,cb)=>if af.sz=sz then some ((af.es.drop bZ).take len,cb++[bZ+len≤af.es.length]) else none
  | none=>none
 | .eK=>some ([],[])
 | .iE=>some ([],[])
 | _=>none
def vF (P:Program)(sz:Nat)(z:List aA)(aU:Nat→Option (List ab))(a:fE)(t dH:TypeId)(y:aA):Option (List (List aA)×List Prop) :=
 if t=dH then rH sz aU a y else
 match P.underlying dH,y with
 | some (.int _),.n .i64 n=>some (List.replicate n.toNat z,[0≤n,n<9223372036854775808])
 | _,_=>none
def n1 (P:Program)(E:Nat→aA)(aU:Nat→Option (List ab))(aV:Nat)(b:Builtin)(args:List aA)(m5:List TypeId)(cJ:fE):Option hD :=
 match b,args,m5,cJ with
 | .append,[x,y],[t,dH],.aZ m R =>
  match qk P t with
  | none=>none
  | some e=>match P.info? e,qJ P e with
   | some i,some z =>
    if z.length≠i.size∨i.size=0∨i.bytes=0 then none else
    match vF P i.size z aU (aat R) t dH y with
    | none=>none
    | some (bz,cb)=>match x with
     | .eK=>some {val:= .bC aV 0 0 m,fQ:=[(aV,[⟨i.size,bz,.live⟩])],fo:=cb++[m=bz.length,m*i.bytes≤140737488355328]}
     | .bC r k 0 len=>match aU r with
      | none=>none
      | some row=>match di (some row) k with
       | none=>none
       | some af=>if af.cu = .live∧af.sz=i.size∧aV≠r then
        some {val:= .bC aV 0 0 m,fQ:=[(aV,[⟨i.size,af.es.take len++bz,.live⟩]),(r,row.set k {af with cu:= .gone})],fo:=cb++[len≤af.es.length,m=len+bz.length,m*i.bytes≤140737488355328]} else none
     | _=>none
   | _,_=>none
 | .append,[x,y],[t,dH],.cU =>
  match qk P t with
  | none=>none
  | some e=>match P.info? e,qJ P e with
   | some i,some z =>
    if z.length≠i.size∨i.size=0∨i.bytes=0 then none else
    match vF P i.size z aU .none t dH y with
    | none=>none
    | some (bz,cb)=>match x with
     | .bC r k 0 len=>match aU r with
      | none=>none
      | some row=>match di (some row) k with
       | none=>none
       | some af=>if af.cu = .live∧af.sz=i.size then
        some {val:= .bC r k 0 (len+bz.length),fQ:=[(r,row.set k {af with es:=af.es.take len++bz})],fo:=cb++[len+bz.length≤af.es.length,bz.length*i.bytes≤140737488355328]} else none
     | _=>none
   | _,_=>none
 | .copy,[.bC r k 0 len,y],[t,_],_ =>
  match qk P t with
  | none=>none
  | some e=>match P.info? e with
   | none=>none
   | some i=>match rH i.size aU .none y with
    | none=>none
    | some (bz,cb)=>match aU r with
     | none=>none
     | some row=>match di (some row) k with
      | none=>none
      | some af=>if af.cu = .live∧af.sz=i.size∧i.size≠0 then
       some {val:= .n .i64 bz.length,fQ:=[(r,row.set k {af with es:=bz++af.es.drop bz.length})],fo:=cb++[bz.length≤len,len≤af.es.length]} else none
 | .clear,[.bC r k 0 len],[t],_ =>
  match qk P t with
  | none=>none
  | some e=>match P.info? e,qJ P e with
   | some i,some z=>match aU r with
    | none=>none
    | some row=>match di (some row) k with
     | none=>none
     | some af=>if af.cu = .live∧af.sz=i.size∧z.length=i.size∧i.size≠0 then
      some {val:= .df [],fQ:=[(r,row.set k {af with es:=List.replicate len z})],fo:=[af.es.length=len]} else none
   | _,_=>none
 | .min,[.n k x,.n dJ y],_,_=>if k=dJ then some {val:= .n k (if y<x then y else x)} else none
 | _,_,_,_=>none
section
variable {g:G} {s:S} {ax:fs} {a:Act} {w bJ:World}
theorem cQ.gone (h:cQ g s ax a w){r k:Nat}{l:List ab}{R:ab}(ap:s.aU r=some l)(an:s.af r k=some R):
 cQ g (s.setRow r (l.set k {R with cu:= .gone})) ax a w ∧
  ∀x v,Rel w (s.ok g ax w) s.a1 (s.bc ax) x v→Rel w ((s.setRow r (l.set k {R with cu:= .gone})).ok g ax w) (s.setRow r (l.set k {R with cu:= .gone})).a1 ((s.setRow r (l.set k {R with cu:= .gone})).bc ax) x v:=by
 have bm : ∀q j p,(s.setRow r (l.set k {R with cu:= .gone})).af q j=some p→s.af q j=some p∧ ¬(q=r∧j=k):=by
  intro q j p al
  rw [lx] at al
  by_cases e:q=r
  ·subst e
   rw [if_pos rfl] at al
   unfold di at al
   simp only [List.getElem?_set] at al
   by_cases aH:k=j
   ·subst aH
    by_cases aX:k<l.length
    ·simp [aX] at al
    ·simp [aX] at al
   ·rw [if_neg aH] at al
    refine ⟨?_,fun fx=>aH fx.2.symm⟩
    unfold S.af;rw [ap];exact al
  ·rw [if_neg e] at al
   exact ⟨al,fun fx=>e fx.1⟩
 have c8:Step g s ax w (s.setRow r (l.set k {R with cu:= .gone})) ax w:=by
  refine ⟨DV s ap (by simp),fun q j bi=> ?_,fun b aL=> ?_,fun _ _ _=>rfl,Nat.le_refl _⟩
  ·cases al:(s.setRow r (l.set k {R with cu:= .gone})).af q j with
   | none=>right;simp [S.bc,al]
   | some p=>left;simp [S.bc,al,(bm q j p al).1]
  ·obtain ⟨q,j,p,m,o,J,ak⟩:=aL
   exact .inl ⟨q,j,p,m,(bm q j p o).1,J,ak⟩
 refine ⟨{toh6:=⟨?_,?_,?_,h.g7,h.mlt,h.nz,c8.stay h.stay,h.low⟩,env:=fun t=>c8.rel (h.env t),defers:=h.defers,jv:=h.jv},fun x v=>c8.rel⟩
 ·intro q j p al
  exact c8.obj (fun b m _=>rfl) (h.obj q j p (bm q j p al).1)
 ·intro q j p hG hS ka b m a6 o J ak ay
  exact h.inj q j p hG hS ka b m a6 (bm q j p o).1 (bm hG hS ka J).1 ak ay
 ·intro q j p b m o J
  exact h.own q j p b m (bm q j p o).1 J
theorem cQ.QE (h:cQ g s ax a w){aV sz:Nat}(e2:s.aU aV=none):
 ∃bM,bM aV 0=none∧cQ g (s.setRow aV [⟨sz,[],.live⟩]) bM a w:=by
 have bm : ∀q k,q≠aV→(s.setRow aV [⟨sz,[],.live⟩]).af q k=s.af q k:=fun q k bi=>by rw [lx,if_neg bi]
 let bM:fs:=fun q k=>if q=aV then none else ax q k
 have cM : ∀q k,s.a1 q k→q≠aV:=by
  rintro q k bi rfl;exact x4 e2 k bi
 have K8 : ∀k R,(s.setRow aV [⟨sz,[],.live⟩]).af aV k=some R→R=⟨sz,[],.live⟩:=by
  intro k R an
  rw [lx,if_pos rfl,mi] at an
  split at an
  ·simp at an;exact an.symm
  ·simp at an
 have c8:Step g s ax w (s.setRow aV [⟨sz,[],.live⟩]) bM w:=by
  refine ⟨fun q k bi=>(ns _ _ _ _ _).2 (by rw [if_neg (cM q k bi)];exact bi),fun q k bi=> .inl ?_,fun b aL=> ?_,fun _ _ _=>rfl,Nat.le_refl _⟩
  ·simp [S.bc,bm q k (cM q k bi),bM,cM q k bi]
  ·obtain ⟨q,k,R,m,o,J,ak⟩:=aL
   by_cases e:q=aV
   ·subst e;simp [bM] at ak
   ·rw [bm q k e] at o
    simp only [bM,if_neg e] at ak
    exact .inl ⟨q,k,R,m,o,J,ak⟩
 refine ⟨bM,by simp [bM],{toh6:=⟨?_,?_,?_,h.g7,h.mlt,h.nz,c8.stay h.stay,h.low⟩,env:=fun t=>c8.rel (h.env t),defers:=h.defers,jv:=h.jv}⟩
 ·intro q k R an
  by_cases e:q=aV
  ·subst e
   rw [K8 k R an]
   simp [bM,iU]
  ·rw [bm q k e] at an
   have:=c8.obj (fun b m _=>rfl) (h.obj q k R an)
   simpa [bM,e] using this
 ·intro q k R hG dJ b9 b m a6 o J ak ay
  have e:q≠aV:=by rintro rfl;simp [bM] at ak
  have eH:hG≠aV:=by rintro rfl;simp [bM] at ay
  rw [bm q k e] at o
  rw [bm hG dJ eH] at J
  simp only [bM,if_neg e] at ak
  simp only [bM,if_neg eH] at ay
  exact h.inj q k R hG dJ b9 b m a6 o J ak ay
 ·intro q k R b m o J
  have e:q≠aV:=by rintro rfl;simp [bM] at J
  rw [bm q k e] at o
  simp only [bM,if_neg e] at J
  exact h.own q k R b m o J
theorem cQ.turn (h:cQ g s ax a w){r k b m aV:Nat}{l:List ab}{R:ab}(ap:s.aU r=some l)(an:s.af r k=some R)(aX:R.cu = .live)(al:ax r k=some (b,m))
 (e2:s.aU aV=none) (b9:ab) (m9:b9.cu = .live) (c:Array Value) (eF:TypeId)
 (hw:bJ.heap[b]? = some (.cells c eF (0,0))) (eZ:bJ.heap.size=w.heap.size) (vE : ∀q,q≠b→bJ.heap[q]? = w.heap[q]?)
 (q5:bJ.os=w.os) (Lw:bJ.tape=w.tape) (K6:bJ.output=w.output) (hm:c.size=m) (hlen : ∀e∈b9.es,e.length=b9.sz)
 (aJ : ∀(j:Nat) x,b9.es.flatten[j]? = some x→ ∃v,c[j]? = some v∧j2 v=true∧Rel w (s.ok g ax w) s.a1 (s.bc ax) x v) :
 ∃bM,bM aV 0=some (b,m)∧cQ g ((s.setRow aV [b9]).setRow r (l.set k {R with cu:= .gone})) bM a bJ:=by
 have cM:r≠aV:=by rintro rfl;rw [e2] at ap;simp at ap
 have R8 : ∀k,¬s.a1 aV k:=x4 e2
 let bR:=(s.setRow aV [b9]).setRow r (l.set k {R with cu:= .gone})
 let bM:fs:=ax.set aV 0 (some (b,m))
 have bm : ∀q j p,bR.af q j=some p→(q=aV∧j=0∧p=b9)∨(q≠aV∧s.af q j=some p∧ ¬(q=r∧j=k)):=by
  intro q j p bi
  rw [lx] at bi
  by_cases e:q=r
  ·subst e
   rw [if_pos rfl] at bi
   unfold di at bi
   simp only [List.getElem?_set] at bi
   by_cases aH:k=j
   ·subst aH
    by_cases aX:k<l.length<;>simp [aX] at bi
   ·rw [if_neg aH] at bi
    refine .inr ⟨cM,?_,fun fx=>aH fx.2.symm⟩
    unfold S.af;rw [ap];exact bi
  ·rw [if_neg e,lx] at bi
   by_cases aH:q=aV
   ·subst aH
    rw [if_pos rfl,mi] at bi
    split at bi
    ·rename_i h0;simp at bi;exact .inl ⟨rfl,h0.1,bi.symm⟩
    ·simp at bi
   ·rw [if_neg aH] at bi
    exact .inr ⟨aH,bi,fun fx=>e fx.1⟩
 have lL : ∀q j,q≠aV→bM q j=ax q j:=fun q j bi=>by simp [bM,fs.set,bi]
 have zl:bM aV 0=some (b,m):=by simp [bM,fs.set]
 have qj:s.lR ax b:=⟨r,k,R,m,an,aX,al⟩
 have i5 : ∀q j,s.a1 q j→bR.a1 q j:=fun q j bi=>by
  have e:q≠aV:=fun e=>R8 j (e▸bi)
  rw [ns,ns,if_neg e]
  by_cases aH:q=r
  ·subst aH;rw [if_pos rfl];simpa [S.a1,ap] using bi
  ·rw [if_neg aH];exact bi
 have c8:Step g s ax w bR bM bJ:=by
  refine ⟨i5,fun q j bi=> ?_,fun q aL=> ?_,fun q bi aL=>vE q fun e=>aL (e▸qj),Nat.le_of_eq eZ.symm⟩
  ·have nB:q≠aV:=fun e=>R8 j (e▸bi)
   cases kn:bR.af q j with
   | none=>right;simp [S.bc,kn]
   | some p =>
    left
    rcases bm q j p kn with ⟨e,-⟩|⟨-,aH,-⟩
    ·exact absurd e nB
    ·simp [S.bc,kn,aH,lL q j nB]
  ·obtain ⟨hG,j,p,a6,o,J,ak⟩:=aL
   rcases bm hG j p o with ⟨rfl,rfl,rfl⟩|⟨az,aH,-⟩
   ·rw [zl] at ak;simp at ak;exact .inl (ak.1▸qj)
   ·rw [lL hG j az] at ak;exact .inl ⟨hG,j,p,a6,aH,J,ak⟩
 refine ⟨bM,zl,{toh6:=⟨?_,?_,?_,?_,h.mlt,h.nz,c8.stay h.stay,h.low⟩,env:=fun t=>c8.rel (h.env t),defers:=h.defers,jv:=h.jv}⟩
 ·intro q j p kn
  rcases bm q j p kn with ⟨rfl,rfl,rfl⟩|⟨az,aH,b2⟩
  ·rw [zl]
   exact ⟨c,eF,hw,hm,hlen,fun i x aa=>let ⟨v,f1,f2,f3⟩:=aJ i x aa;⟨v,f1,f2,c8.rel f3⟩⟩
  ·rw [lL q j az]
   refine c8.obj (fun jO a6 kH=>vE jO ?_) (h.obj q j p aH)
   rintro rfl
   exact b2 (h.inj q j p r k R jO a6 m aH an kH al)
 ·intro q j p hG hS ka jO h3 gC o J ak ay
  rcases bm q j p o with ⟨rfl,rfl,rfl⟩|⟨az,aH,b2⟩<;>rcases bm hG hS ka J with ⟨rfl,rfl,rfl⟩|⟨na,pT,B3⟩
  ·exact ⟨rfl,rfl⟩
  ·rw [zl] at ak;simp at ak
   rw [lL hG hS na] at ay
   obtain ⟨rfl,rfl⟩:=ak
   exact absurd (h.inj hG hS ka r k R b gC m pT an ay al) B3
  ·rw [zl] at ay;simp at ay
   rw [lL q j az] at ak
   obtain ⟨rfl,rfl⟩:=ay
   exact absurd (h.inj q j p r k R b h3 m aH an ak al) b2
  ·rw [lL q j az] at ak;rw [lL hG hS na] at ay
   exact h.inj q j p hG hS ka jO h3 gC aH pT ak ay
 ·intro q j p jO a6 o J
  rcases bm q j p o with ⟨rfl,rfl,rfl⟩|⟨az,aH,-⟩
  ·rw [zl] at J;simp at J
   rw [← J.1]
   exact h.own r k R b m an al
  ·rw [lL q j az] at J;exact h.own q j p jO a6 aH J
 ·refine h.g7.step q5 Lw K6 (Nat.le_of_eq eZ.symm) fun jO q6 kH=>vE jO ?_
  rintro rfl
  rcases h.own r k R jO m an al with o|o
  ·omega
  ·exact kH o
theorem oV.nY {ok:Nat→Prop}{a1:iZ}{bc:iQ}{dZ R sz:Nat}{es:List (List aA)}(h:oV w ok a1 bc dZ R sz es):
 ∃vs:List Value,vs.length=es.length*sz∧(∀(j:Nat) u,vs[j]? = some u→w.cell? ((⟨dZ,R,none⟩:Addr).add j)=some u)∧(∀u∈vs,u.oneCell'=true) ∧
  ∀(j:Nat) x u,es.flatten[j]? = some x→vs[j]? = some u→Rel w ok a1 bc x u:=by
 have jw:es.flatten.length=es.length*sz:=by
  have : ∀(es:List (List aA)),(∀e∈es,e.length=sz)→es.flatten.length=es.length*sz:=by
   intro es
   induction es with
   | nil=>intro _;simp
   | cons e es ih =>
    intro fx
    rw [List.flatten_cons,List.length_append,ih fun x aa=>fx x (by simp [aa]),fx e (by simp),List.length_cons,Nat.add_mul];omega
  exact this es h.1
 have aa : ∀i,i<es.length*sz→ ∃v,∀x,es.flatten[i]? = some x→w.cell? ⟨dZ,R+i,none⟩=some v∧j2 v=true∧Rel w ok a1 bc x v:=by
  intro i ai
  have aC:=List.getElem?_eq_getElem (l:=es.flatten) (i:=i) (by omega)
  obtain ⟨v,o⟩:=h.2 i _ aC
  exact ⟨v,fun x aa=>by rw [aC] at aa;simp at aa;subst aa;exact o⟩
 let vs:List Value:=(List.range (es.length*sz)).map fun i=>if ai:i<es.length*sz then (aa i ai).choose else undef
 have qs:vs.length=es.length*sz:=by simp [vs]
 have lZ : ∀(i:Nat) u x,vs[i]? = some u→es.flatten[i]? = some x→w.cell? ⟨dZ,R+i,none⟩=some u∧j2 u=true∧Rel w ok a1 bc x u:=by
  intro i u x hu B4
  have ai:i<es.length*sz:=by
   rcases Nat.lt_or_ge i vs.length with cw|cw
   ·omega
   ·rw [List.getElem?_eq_none cw] at hu;simp at hu
  simp only [vs,List.getElem?_map,List.getElem?_range ai,Option.map_some,dif_pos ai,Option.some.injEq] at hu
  subst hu
  exact (aa i ai).choose_spec x B4
 have hex : ∀(i:Nat) u,vs[i]? = some u→ ∃x,es.flatten[i]? = some x:=by
  intro i u hu
  have ai:i<es.flatten.length:=by
   rcases Nat.lt_or_ge i vs.length with cw|cw
   ·omega
   ·rw [List.getElem?_eq_none cw] at hu;simp at hu
  exact ⟨_,List.getElem?_eq_getElem ai⟩
 refine ⟨vs,qs,fun j u hu=> ?_,fun u hu=> ?_,fun j x u dI hu=>(lZ j u x hu dI).2.2⟩
 ·obtain ⟨x,B4⟩:=hex j u hu
  rw [rC];exact (lZ j u x hu B4).1
 ·obtain ⟨j,aC⟩:=List.getElem?_of_mem hu
  obtain ⟨x,B4⟩:=hex j u aC
  exact (lZ j u x aC B4).2.1
theorem WB {es bz:List (List aA)}{sz:Nat}{xs news:List Value}(aa:xs.length=es.length*sz)(he:∀e∈es,e.length=sz){j:Nat}{x:aA}(h:(es++bz).flatten[j]? = some x)
 {ok:Nat→Prop} {a1:iZ} {bc:iQ} (o : ∀(j:Nat) x u,es.flatten[j]? = some x→xs[j]? = some u→Rel w ok a1 bc x u) (J : ∀(j:Nat) x u,bz.flatten[j]? = some x→news[j]? = some u→Rel w ok a1 bc x u)
 {u:Value} (hu:(xs++news)[j]? = some u):Rel w ok a1 bc x u:=by
 have jw:es.flatten.length=es.length*sz:=by
  have : ∀(es:List (List aA)),(∀e∈es,e.length=sz)→es.flatten.length=es.length*sz:=by
   intro es
   induction es with
   | nil=>intro _;simp
   | cons e es ih =>
    intro fx
    rw [List.flatten_cons,List.length_append,ih fun x aa=>fx x (by simp [aa]),fx e (by simp),List.length_cons,Nat.add_mul];omega
  exact this es he
 rw [List.flatten_append,List.getElem?_append] at h
 rw [List.getElem?_append] at hu
 by_cases aC:j<es.flatten.length
 ·rw [if_pos aC] at h
  rw [if_pos (by omega)] at hu
  exact o j x u h hu
 ·rw [if_neg aC] at h
  rw [if_neg (by omega)] at hu
  rw [jw] at h
  rw [aa] at hu
  exact J _ x u h hu
variable {P:Program}
theorem P1 (h:cQ g s ax a w){sz:Nat}{x:aA}{fy:fE}{bz:List (List aA)}{af:List Prop}(he:rH sz s.aU fy x=some (bz,af))(bm:∀p∈af,p){v:Value}(a3:Rel w (s.ok g ax w) s.a1 (s.bc ax) x v):
 ∃A c,v = .slice A bz.length c∧(∀e∈bz,e.length=sz)∧(bz.length=0∨ ∃dZ off,A=some ⟨dZ,off,none⟩∧oV w (s.ok g ax w) s.a1 (s.bc ax) dZ off sz bz):=by
 cases x with
 | isl Fw es =>
  simp only [rH] at he
  split at he
  ·rename_i b4
   subst b4
   simp only [Option.some.injEq,Prod.mk.injEq] at he
   obtain ⟨rfl,rfl⟩:=he
   rcases a3.tg with ⟨rfl,A,c,rfl,-⟩|⟨dZ,off,c,-,rfl,-,iq⟩
   ·exact ⟨A,c,rfl,by simp,.inl rfl⟩
   ·exact ⟨_,c,rfl,iq.1,.inr ⟨dZ,off,rfl,iq⟩⟩
  ·simp at he
 | bC r k bZ len =>
  simp only [rH] at he
  split at he
  ·rename_i nE cb jl
   split at he
   ·rename_i b4
    simp only [Option.some.injEq,Prod.mk.injEq] at he
    obtain ⟨rfl,rfl⟩:=he
    have ik:bZ+len≤nE.es.length:=bm _ (by simp)
    have an:s.af r k=some nE:=th jl (fun p al=>bm p (by simp [al]))
    have fl:=h.obj r k nE an
    have aL:((nE.es.drop bZ).take len).length=len:=by simp;omega
    rcases a3.A0 (h4 an) with ⟨-,rfl,rfl,rfl⟩|⟨b,m,A,c,al,rfl,rV,-,hm⟩
    ·exact ⟨none,0,by simp,by simp,.inl (by simp)⟩
    ·rw [al] at fl
     have iq:=fl.rd
     subst b4
     have vO:=DW iq bZ len (by omega)
     refine ⟨A,c,by rw [aL],vO.1,?_⟩
     rcases hm with rfl|⟨rfl,-⟩
     ·left;rw [aL];omega
     ·right
      rw [Nat.zero_add] at vO
      exact ⟨b,_,rfl,vO⟩
   ·simp at he
  ·simp at he
 | eK =>
  simp only [rH,Option.some.injEq,Prod.mk.injEq] at he
  obtain ⟨rfl,rfl⟩:=he
  rw [a3.qe]
  exact ⟨none,0,rfl,by simp,.inl rfl⟩
 | iE =>
  simp only [rH,Option.some.injEq,Prod.mk.injEq] at he
  obtain ⟨rfl,rfl⟩:=he
  obtain ⟨A,c,rfl⟩:=a3.EB
  exact ⟨some A,c,rfl,by simp,.inl rfl⟩
 | _=>simp [rH] at he
structure K9 (P:Program) (w:World) (t dH eF e:TypeId) (i:TypeInfo) (ew nJ:Value) (n:Nat) (vs:List Value):Prop where
 zero:n=0→ ∀(B:Option Addr) (len cap:Nat),len≤cap→(Builtin.append_ #[t,dH] eF #[.slice B len cap,nJ]).run P w = .ok (.slice B len cap) w
 nil:0<n→(n:Int)≤9223372036854775807→n*i.bytes≤140737488355328 →
  (Builtin.append_ #[t,dH] eF #[.slice none 0 0,nJ]).run P w = .ok (.slice (some ⟨w.heap.size,0,none⟩) n (grownCap w n 0 e)) (w.drew.alloc (.cells (vs.toArray++Builtin.zeroCells ew.cells (grownCap w n 0 e-n)) e))
 room:0<n→ ∀(g iD lV:Nat) (lG:Array Value) (eH:TypeId),w.heap[g]? = some (.cells lG eH (0,0))→iD+n≤lV→iD*i.size+vs.length≤lG.size→n*i.bytes≤140737488355328 →
  (Builtin.append_ #[t,dH] eF #[.slice (some ⟨g,0,none⟩) iD lV,nJ]).run P w = .ok (.slice (some ⟨g,0,none⟩) (iD+n) lV) (w.setRow g (lG.toList.take (iD*i.size)++vs++lG.toList.drop (iD*i.size+vs.length)).toArray)
 grow:0<n→ ∀(b:Addr) (iD lV:Nat) (vP:List Value),vP.length=iD*i.size→(∀(j:Nat) v,vP[j]? = some v→w.cell? (b.add j)=some v)→lV<iD+n→((iD+n:Nat):Int)≤9223372036854775807→Builtin.nextslicecap (iD+n) lV*i.bytes≤281474976710656→n*i.bytes≤140737488355328 →
  (Builtin.append_ #[t,dH] eF #[.slice (some b) iD lV,nJ]).run P w = .ok (.slice (some ⟨w.heap.size,0,none⟩) (iD+n) (grownCap w (iD+n) lV e))
    (w.drew.alloc (.cells (vP.toArray++vs.toArray++Builtin.zeroCells ew.cells (grownCap w (iD+n) lV e-(iD+n))) e))
theorem We (t eF e:TypeId)(i:TypeInfo)(cq:P.underlying t=some (.slice e))(ai:P.info? e=some i)
 (g iD lV:Nat) (lG:Array Value) (eH:TypeId) (dN:w.heap[g]? = some (.cells lG eH (0,0)))
 (a:Addr) (m c:Nat) (news:List Value) (aL:news.length=m*i.size) (abh : ∀j u,news[j]? = some u→w.cell? (a.add j)=some u) (o : ∀u∈news,u.oneCell'=true)
 (tn:iD+m≤lV) (ik:iD*i.size+news.length≤lG.size) :
 (Builtin.append_ #[t,t] eF #[.slice (some ⟨g,0,none⟩) iD lV,.slice (some a) m c]).run P w =
   .ok (.slice (some ⟨g,0,none⟩) (iD+m) lV) (w.setRow g (lG.toList.take (iD*i.size)++news++lG.toList.drop (iD*i.size+news.length)).toArray):=by
 have cc:=run_firstCells_some (P:=P) w i.size m a m c news aL abh
 have ms:=run_storeCells_at P g (iD*i.size) eH news 0 lG w dN (by simpa using ik) o
 simp only [Nat.add_zero] at ms
 simp [Builtin.append_,run_underlying cq,sizeOf,typeInfo,ai,Builtin.lenOf,tn,cc,Addr.add_lit,ms]
theorem O2 {t eF e:TypeId}{i:TypeInfo}{ew:Value}(cq:P.underlying t=some (.slice e))(ai:P.info? e=some i)(cv:i.zero=some ew){A:Option Addr}{n c:Nat}{vs:List Value}(aL:vs.length=n*i.size)
 (hA:n=0∨ ∃a,A=some a∧ ∀(j:Nat) u,vs[j]? = some u→w.cell? (a.add j)=some u) (o : ∀u∈vs,u.oneCell'=true):K9 P w t t eF e i ew (.slice A n c) n vs where
 zero:=fun h0 B len cap BC=>by
  subst h0
  cases A<;>cases B<;>simp [Builtin.append_,run_underlying cq,sizeOf,typeInfo,ai,Builtin.lenOf,BC,Builtin.firstCells,loadCells,loadCellsFrom,storeCells]
 nil:=fun h0 vY zm=>by
  obtain ⟨a,rfl,bH⟩:=hA.resolve_left (by omega)
  exact run_append_nil (P:=P) w t eF e i ew cq ai cv a n c vs aL bH h0 vY (by omega)
 room:=fun a0 g iD lV lG eH dN tn ik _=>by
  obtain ⟨a,rfl,bH⟩:=hA.resolve_left (by omega)
  exact We t eF e i cq ai g iD lV lG eH dN a n c vs aL bH o tn ik
 grow:=fun a0 b iD lV vP an hold dN vY ik _=>by
  obtain ⟨a,rfl,bH⟩:=hA.resolve_left (by omega)
  exact run_append_grow (P:=P) w t eF e i ew cq ai cv b iD lV vP an hold a n c vs aL bH dN vY ik
theorem XA {t dH eF e:TypeId}{i:TypeInfo}{ew:Value}{k:IntKind}(cq:P.underlying t=some (.slice e))(nZ:P.underlying dH=some (.int k))(ai:P.info? e=some i)(cv:i.zero=some ew)(lH:ew.cells.size=i.size){m:Nat}(afR:(m:Int)<9223372036854775808)
 (o : ∀u∈(Builtin.zeroCells ew.cells m).toList,u.oneCell'=true):K9 P w t dH eF e i ew (.int .i64 m) m (Builtin.zeroCells ew.cells m).toList:=by
 have hw:IntKind.i64.wrap (m:Int)=m:=by simp [IntKind.wrap,IntKind.bits,IntKind.signed];omega
 have q2 : ¬((m:Int)<0):=by omega
 have rW : ∀a6,a6*i.size=0→Builtin.zeroCells ew.cells a6 = #[]:=fun a6 hm=>by
  apply Array.eq_empty_of_size_eq_zero
  rw [size_zeroCells,lH,hm]
 have Fx : ∀bJ:World,(if m*i.size=0 then (pure #[]:Sem (Array Value)) else do pure (Builtin.zeroCells (← zeroValue e).cells m)).run P bJ = .ok (Builtin.zeroCells ew.cells m) bJ:=fun bJ=>by
  split
  ·rename_i hm;rw [rW _ hm];rfl
  ·simp [zeroValue,typeInfo,ai,cv]
 have La : ∀b:Nat,m*b≤140737488355328→ ¬(281474976710656<(m:Int)*(b:Int)):=fun b aY=>by
  have:((m*b:Nat):Int)≤140737488355328:=by omega
  rw [Int.natCast_mul] at this
  omega
 refine ⟨fun a0 B len cap BC=> ?_,fun a0 vY zm=> ?_,fun a0 g iD lV lG eH dN tn ik zm=> ?_,fun a0 b iD lV vP an hold dN vY ik zm=> ?_⟩
 ·subst a0
  have LB:IntKind.i64.wrap 0=0:=by simpa using hw
  cases B<;>simp [Builtin.append_,run_underlying cq,run_underlying nZ,sizeOf,typeInfo,ai,BC,asInt,asIntOf,LB,storeCells]
 ·have LC : ¬m=0:=by omega
  have BD : ¬(9223372036854775807<(m:Int)):=by omega
  have ux:=La _ zm
  have BE : ¬(281474976710656<Builtin.nextslicecap m 0*i.bytes):=by rw [nextslicecap_zero a0];omega
  have J:=Fx w.drew
  by_cases hm:m*i.size=0
  ·simp [Builtin.append_,run_underlying cq,run_underlying nZ,sizeOf,typeInfo,zeroValue,ai,cv,asInt,asIntOf,hw,q2,ux,LC,BD,BE,Question.forced,run_firstCells_none,newRow,grownCap,hm,rW _ hm]
  ·simp [Builtin.append_,run_underlying cq,run_underlying nZ,sizeOf,typeInfo,zeroValue,ai,cv,asInt,asIntOf,hw,q2,ux,LC,BD,BE,Question.forced,run_firstCells_none,newRow,grownCap,hm]
 ·have ux:=La _ zm
  have ms:=run_storeCells_at P g (iD*i.size) eH (Builtin.zeroCells ew.cells m).toList 0 lG w dN (by simpa using ik) o
  simp only [Nat.add_zero] at ms
  by_cases hm:m*i.size=0
  ·rw [rW _ hm] at ms
   have abO:(storeCells ⟨g,iD*i.size,none⟩ []).run P w = .ok () (w.setRow g lG):=by simpa using ms
   simp [Builtin.append_,run_underlying cq,run_underlying nZ,sizeOf,typeInfo,zeroValue,ai,cv,asInt,asIntOf,hw,q2,ux,tn,hm,rW _ hm,Addr.add_lit,abO]
  ·simp [Builtin.append_,run_underlying cq,run_underlying nZ,sizeOf,typeInfo,zeroValue,ai,cv,asInt,asIntOf,hw,q2,ux,tn,hm,Addr.add_lit,ms]
 ·have ux:=La _ zm
  have Sw : ¬(iD+m≤lV):=by omega
  have BD : ¬(9223372036854775807<((iD:Int)+(m:Int))):=by omega
  have BE : ¬(281474976710656<Builtin.nextslicecap (iD+m) lV*i.bytes):=by omega
  have Sx:=run_firstCells_some (P:=P) w.drew i.size iD b iD lV vP an (by simpa using hold)
  by_cases hm:m*i.size=0
  ·simp [Builtin.append_,run_underlying cq,run_underlying nZ,sizeOf,typeInfo,zeroValue,ai,cv,asInt,asIntOf,hw,q2,ux,Sw,BD,BE,Question.forced,Sx,newRow,grownCap,hm,rW _ hm]
  ·simp [Builtin.append_,run_underlying cq,run_underlying nZ,sizeOf,typeInfo,zeroValue,ai,cv,asInt,asIntOf,hw,q2,ux,Sw,BD,BE,Question.forced,Sx,newRow,grownCap,hm]
theorem I9 {aV:Nat}{e:TypeId}{v:Value}{i:TypeInfo}{m:Nat}(h:cQ g s ax a w)(e2:s.aU aV=none){es:List (List aA)}(hlen:∀x∈es,x.length=i.size)(hm:m=es.length)
 {nY:List Value} {tQ:Array Value} {cap:Nat} (qs:nY.length=es.length*i.size) (lU : ∀u∈nY,u.oneCell'=true) (acA:tQ.size=(cap-m)*i.size) (BC:m≤cap) (abP:cap<9223372036854775808)
 (fl : ∀(j:Nat) x u,es.flatten[j]? = some x→nY[j]? = some u→Rel w (s.ok g ax w) s.a1 (s.bc ax) x u)
 (a3:v = .slice (some ⟨w.heap.size,0,none⟩) m cap) :
 ∃bM,cQ g (s.setRow aV [⟨i.size,es,.live⟩]) bM a (w.drew.alloc (.cells (nY.toArray++tQ) e)) ∧
  Rel (w.drew.alloc (.cells (nY.toArray++tQ) e)) ((s.setRow aV [⟨i.size,es,.live⟩]).ok g bM (w.drew.alloc (.cells (nY.toArray++tQ) e))) (s.setRow aV [⟨i.size,es,.live⟩]).a1 ((s.setRow aV [⟨i.size,es,.live⟩]).bc bM) (.bC aV 0 0 m) v:=by
 have bo:=h.drew
 have jw:es.flatten.length=es.length*i.size:=by
  have : ∀(es:List (List aA)),(∀e∈es,e.length=i.size)→es.flatten.length=es.length*i.size:=by
   intro es
   induction es with
   | nil=>intro _;simp
   | cons e es ih =>
    intro fx
    rw [List.flatten_cons,List.length_append,ih fun x aa=>fx x (by simp [aa]),fx e (by simp),List.length_cons,Nat.add_mul];omega
  exact this es hlen
 obtain ⟨bM,ha,h9,-⟩:=bo.alloc e2 ⟨i.size,es,.live⟩ rfl (nY.toArray++tQ) e hlen (fun j x aa=>by
  have aC:j<nY.length:=by
   rcases Nat.lt_or_ge j es.flatten.length with cw|cw
   ·omega
   ·rw [List.getElem?_eq_none cw] at aa;simp at aa
  refine ⟨nY[j],?_,lU _ (List.getElem_mem aC),?_⟩
  ·rw [Array.getElem?_append_left (by simpa using aC)]
   simp [aC]
  ·exact (fl j x _ aa (List.getElem?_eq_getElem aC)).drew)
 refine ⟨bM,h9,?_⟩
 subst a3
 have an:(s.setRow aV [⟨i.size,es,.live⟩]).af aV 0=some ⟨i.size,es,.live⟩:=by rw [lx,if_pos rfl,mi];simp
 refine Rel.bC (sz:=i.size) (dZ:=w.heap.size) (m:=(nY.toArray++tQ).size) ((ns _ _ _ _ _).2 (by simp)) ?_ BC abP ⟨?_,.inr (by simp)⟩
 ·rw [h4 an,ha];rfl
 ·simp only [Array.size_append,List.size_toArray,acA,qs,Nat.zero_add]
  rw [← hm,← Nat.add_mul]
  congr 1;omega
section
variable {R:Oper} {cJ:fE} {aV:Nat} {bs:hD}
theorem Px (h:cQ g s ax a w){t dH eF e:TypeId}{i:TypeInfo}{z:List aA}(hu:P.underlying t=some (.slice e))(ai:P.info? e=some i)(cv:qJ P e=some z)(nC:z.length=i.size)(ju:i.size≠0)
 {y:aA} {fy:fE} {bz:List (List aA)} {af:List Prop} (he:vF P i.size z s.aU fy t dH y=some (bz,af)) (bm : ∀p∈af,p) {nJ:Value} (aP:Rel w (s.ok g ax w) s.a1 (s.bc ax) y nJ) :
 ∃ew vs,i.zero=some ew∧ew.cells.size=i.size∧K9 P w t dH eF e i ew nJ bz.length vs∧(∀x∈bz,x.length=i.size)∧vs.length=bz.length*i.size∧(∀u∈vs,u.oneCell'=true) ∧
  ∀(j:Nat) x u,bz.flatten[j]? = some x→vs[j]? = some u→Rel w (s.ok g ax w) s.a1 (s.bc ax) x u:=by
 obtain ⟨e8,ew,jn,kw,sS,uD⟩:=AB cv
 rw [ai] at jn;simp at jn;subst jn
 have lH:ew.cells.size=i.size:=by rw [← nC,sS];simp
 unfold vF at he
 split at he
 ·rename_i acB
  subst acB
  obtain ⟨A,c,rfl,hlen,LD⟩:=P1 h he bm aP
  rcases LD with h0|⟨dZ,off,rfl,iq⟩
  ·have:bz=[]:=List.length_eq_zero_iff.1 h0
   subst this
   exact ⟨ew,[],kw,lH,O2 hu ai kw (by simp) (.inl rfl) (by simp),hlen,by simp,by simp,by simp⟩
  ·obtain ⟨vs,v1,v2,v3,v4⟩:=iq.nY
   exact ⟨ew,vs,kw,lH,O2 hu ai kw v1 (.inr ⟨_,rfl,v2⟩) v3,hlen,v1,v3,v4⟩
 ·split at he
  ·rename_i k n aX
   simp only [Option.some.injEq,Prod.mk.injEq] at he
   obtain ⟨rfl,rfl⟩:=he
   have h0:0≤n:=bm _ (by simp)
   have vY:n<9223372036854775808:=bm _ (by simp)
   obtain ⟨m,rfl⟩:=Int.eq_ofNat_of_zero_le h0
   have acC:nJ = .int .i64 m:=by cases aP;rfl
   subst acC
   have lZ : ∀(j:Nat) u,(Builtin.zeroCells ew.cells m).toList[j]? = some u→ew.cells[j % i.size]? = some u:=by
    intro j u n2
    have aC:=(List.getElem?_eq_some_iff.1 n2).1
    rw [Array.length_toList,size_zeroCells,lH] at aC
    have dB:j % i.size<ew.cells.size:=by rw [lH];exact Nat.mod_lt _ (by omega)
    rw [Array.getElem?_toList,Builtin.zeroCells,Array.getElem?_map,lH,Array.getElem?_range] at n2
    rw [if_pos aC] at n2
    simp only [Option.map_some,Option.some.injEq] at n2
    rw [← n2,Array.getElem?_eq_getElem dB,getElem!_pos ew.cells _ dB]
   refine ⟨ew,(Builtin.zeroCells ew.cells m).toList,kw,lH,?_,?_,?_,?_,?_⟩
   ·simp only [List.length_replicate,Int.toNat_natCast]
    refine XA hu aX ai kw lH (by omega) fun u rX=> ?_
    obtain ⟨j,aC⟩:=List.getElem?_of_mem rX
    have o:=lZ j u aC
    have dB:j % i.size<z.length:=by rw [nC];exact Nat.mod_lt _ (by omega)
    obtain ⟨v,v1,v2,-⟩:=uD _ _ (List.getElem?_eq_getElem dB)
    rw [o] at v1
    obtain rfl:=Option.some.inj v1
    exact v2
   ·intro x aa
    rw [List.mem_replicate] at aa
    rw [aa.2,nC]
   ·rw [Array.length_toList,size_zeroCells,lH];simp
   ·intro u rX
    obtain ⟨j,aC⟩:=List.getElem?_of_mem rX
    have o:=lZ j u aC
    have dB:j % i.size<z.length:=by rw [nC];exact Nat.mod_lt _ (by omega)
    obtain ⟨v,v1,v2,-⟩:=uD _ _ (List.getElem?_eq_getElem dB)
    rw [o] at v1
    obtain rfl:=Option.some.inj v1
    exact v2
   ·intro j x u aa n2
    rw [pE (sz:=i.size) (by omega) _ (fun eH lY=>by rw [List.mem_replicate] at lY;rw [lY.2,nC])] at aa
    have o:=lZ j u n2
    cases bi:(List.replicate (Int.toNat (m:Int)) z)[j / i.size]? with
    | none=>rw [bi] at aa;simp at aa
    | some eH =>
     have:=List.mem_of_getElem? bi
     rw [List.mem_replicate] at this
     rw [bi,this.2] at aa
     simp only [Option.bind_some] at aa
     obtain ⟨v,v1,-,v3⟩:=uD _ _ aa
     rw [o] at v1
     obtain rfl:=Option.some.inj v1
     exact v3 _ _ _ _
  ·simp at he
theorem XB (h:cQ g s ax a w)(e2:s.aU aV=none){x y:aA}{r8 nJ:Value}{t dH:TypeId}{m:Nat}{MI:Option ab}{eF:TypeId}(ar:n1 P s.E s.aU aV .append [x,y] [t,dH] (.aZ m MI)=some bs)(cy:∀p∈bs.fo,p)
 (aa:Rel w (s.ok g ax w) s.a1 (s.bc ax) x r8) (aP:Rel w (s.ok g ax w) s.a1 (s.bc ax) y nJ) :
 ∃v bJ bM,(Builtin.append_ #[t,dH] eF #[r8,nJ]).run P w = .ok v bJ∧cQ g (s.h1 bs.fQ) bM a bJ∧Rel bJ ((s.h1 bs.fQ).ok g bM bJ) (s.h1 bs.fQ).a1 ((s.h1 bs.fQ).bc bM) bs.val v:=by
 simp only [n1] at ar
 split at ar
 ·simp at ar
 ·rename_i e he
  have hu:=ss he
  split at ar
  ·rename_i i z ai cv
   split at ar
   ·simp at ar
   ·rename_i aJ
    simp only [not_or,Decidable.not_not] at aJ
    obtain ⟨nC,ju,zh⟩:=aJ
    split at ar
    ·simp at ar
    ·rename_i bz cb rQ
     have Fy:=fun al=>Px (eF:=eF) h hu ai cv nC ju rQ al aP
     by_cases aau:True
     ·
      split at ar
      ·
       simp only [Option.some.injEq] at ar
       subst ar
       have hm:m=bz.length:=cy _ (by simp)
       have vZ:m*i.bytes≤140737488355328:=cy _ (by simp)
       obtain ⟨ew,vs,kw,lH,hA,hlen,v1,v3,v4⟩:=Fy (fun p al=>cy p (by simp [al]))
       clear Fy
       rw [aa.qe]
       by_cases h0:bz.length=0
       ·have:bz=[]:=List.length_eq_zero_iff.1 h0
        subst this
        obtain ⟨bM,ha,h9⟩:=h.QE (sz:=i.size) e2
        refine ⟨_,w,bM,hA.zero h0 none 0 0 (Nat.le_refl _),h9,?_⟩
        subst hm
        have an:(s.setRow aV [⟨i.size,[],.live⟩]).af aV 0=some ⟨i.size,[],.live⟩:=by rw [lx,if_pos rfl,mi];simp
        exact .nP (sz:=i.size) ((ns _ _ _ _ _).2 (by simp)) (by show (s.setRow aV [⟨i.size,[],.live⟩]).bc bM aV 0=_;rw [h4 an,ha])
       ··have rY:bz.length*1≤bz.length*i.bytes:=Nat.mul_le_mul_left _ (by omega)
         rw [hm] at vZ
         have iJ:=hA.nil (by omega) (by omega) (by omega)
         have Sy:=grownCap_ge w bz.length 0 e
         have hle:=grownCap_le_maxLen w bz.length 0 e (by simp only [maxLen];omega)
         simp only [maxLen] at hle
         obtain ⟨bM,aR,bb⟩:=I9 (e:=e) (i:=i) (m:=m) (nY:=vs) (tQ:=Builtin.zeroCells ew.cells (grownCap w bz.length 0 e-bz.length)) (cap:=grownCap w bz.length 0 e) h e2 hlen hm v1 v3
          (by rw [size_zeroCells,lH,hm]) (by omega) (by omega) v4 rfl
         refine ⟨.slice (some ⟨w.heap.size,0,none⟩) m (grownCap w bz.length 0 e),_,bM,?_,aR,bb⟩
         rw [hm];exact iJ
      ·
       rename_i r k len
       split at ar
       ·simp at ar
       ·rename_i row dD
        split at ar
        ·simp at ar
        ·rename_i af bm
         split at ar
         ·rename_i v5
          obtain ⟨n3,eZ,cM⟩:=v5
          simp only [Option.some.injEq] at ar
          subst ar
          have an:s.af r k=some af:=by unfold S.af;rw [dD];exact bm
          have ik:len≤af.es.length:=cy _ (by simp)
          have hm:m=len+bz.length:=cy _ (by simp)
          have vZ:m*i.bytes≤140737488355328:=cy _ (by simp)
          have rY:m*1≤m*i.bytes:=Nat.mul_le_mul_left _ (Nat.one_le_iff_ne_zero.2 zh)
          obtain ⟨ew,vs,kw,lH,hA,hlen,v1,v3,v4⟩:=Fy (fun p al=>cy p (by simp [al]))
          clear Fy
          have af2:bz.length*i.bytes≤m*i.bytes:=Nat.mul_le_mul_right _ (by omega)
          have fl:=h.obj r k af an
          have LF:(af.es.take len).length=len:=by simp;omega
          have sC:(s.setRow aV [⟨i.size,af.es.take len++bz,.live⟩]).aU r=some row:=by simp [S.setRow,Ne.symm cM,dD]
          have qt : ∀bM:fs,((s.setRow aV [⟨i.size,af.es.take len++bz,.live⟩]).setRow r (row.set k {af with cu:= .gone})).af aV 0=some ⟨i.size,af.es.take len++bz,.live⟩:=by
           intro _
           rw [lx,if_neg cM,lx,if_pos rfl,mi];simp
          have BF:((s.setRow aV [⟨i.size,af.es.take len++bz,.live⟩]).setRow r (row.set k {af with cu:= .gone})).a1 aV 0:=by rw [ns,if_neg cM,ns,if_pos rfl];simp
          show ∃v bJ bM,_∧cQ g ((s.setRow aV [⟨i.size,af.es.take len++bz,.live⟩]).setRow r (row.set k {af with cu:= .gone})) bM a bJ∧_
          rcases aa.vq (h4 an) with ⟨al,-,rfl,rfl⟩|⟨b,M,ib,jr,al,rfl,rV,tF,dr,m7⟩
          ·
           rw [al] at fl
           simp only [iU] at fl
           have hx:af.es.take 0++bz=bz:=by simp
           by_cases h0:bz.length=0
           ·have:bz=[]:=List.length_eq_zero_iff.1 h0
            subst this
            obtain ⟨bM,ha,h9⟩:=h.QE (sz:=i.size) e2
            have qu:(s.setRow aV [⟨i.size,[],.live⟩]).af r k=some af:=by rw [lx,if_neg (Ne.symm cM)];exact an
            have abi:(s.setRow aV [⟨i.size,[],.live⟩]).aU r=some row:=by simp [S.setRow,Ne.symm cM,dD]
            obtain ⟨oW,-⟩:=h9.gone abi qu
            have BG:af.es.take 0++([]:List (List aA))=[]:=by simp
            rw [BG]
            rw [BG] at BF qt
            refine ⟨_,w,bM,hA.zero h0 none 0 0 (Nat.le_refl _),oW,?_⟩
            subst hm
            exact .nP (sz:=i.size) BF ((h4 (qt bM)).trans (by rw [ha]))
           ··have kH:m=bz.length:=by omega
             have iJ:=hA.nil (by omega) (by omega) (by omega)
             have Sy:=grownCap_ge w bz.length 0 e
             have hle:=grownCap_le_maxLen w bz.length 0 e (by simp only [maxLen];omega)
             simp only [maxLen] at hle
             obtain ⟨bM,aR,bb⟩:=I9 (e:=e) (i:=i) (m:=m) (nY:=vs) (tQ:=Builtin.zeroCells ew.cells (grownCap w bz.length 0 e-bz.length)) (cap:=grownCap w bz.length 0 e) h e2 hlen kH v1 v3
              (by rw [size_zeroCells,lH,kH]) (by omega) (by omega) v4 rfl
             rw [hx]
             rw [hx] at sC
             have qu:(s.setRow aV [⟨i.size,bz,.live⟩]).af r k=some af:=by rw [lx,if_neg (Ne.symm cM)];exact an
             obtain ⟨oW,CF⟩:=aR.gone sC qu
             refine ⟨.slice (some ⟨w.heap.size,0,none⟩) m (grownCap w bz.length 0 e),_,bM,?_,oW,CF _ _ bb⟩
             rw [kH];exact iJ
          ·
           rw [al] at fl
           have abj:=fl
           obtain ⟨cl,mE,g1,g2,g3,g4⟩:=fl
           have BH : ∀e∈af.es.take len++bz,e.length=i.size:=by
            intro eH lY
            rw [List.mem_append] at lY
            rcases lY with cw|cw
            ·rw [g3 eH (List.mem_of_mem_take cw),eZ]
            ·exact hlen eH cw
           have jw : ∀(es:List (List aA)),(∀e∈es,e.length=i.size)→es.flatten.length=es.length*i.size:=by
            intro es
            induction es with
            | nil=>intro _;simp
            | cons e es ih =>
             intro fx
             rw [List.flatten_cons,List.length_append,ih fun x aa=>fx x (by simp [aa]),fx e (by simp),List.length_cons,Nat.add_mul];omega
           by_cases h0:bz.length=0
           ·
            have:bz=[]:=List.length_eq_zero_iff.1 h0
            subst this
            have BG:af.es.take len++([]:List (List aA))=af.es.take len:=by simp
            rw [BG]
            rw [BG] at BF qt BH
            obtain ⟨bM,ha,h9⟩:=h.turn dD an n3 al e2 ⟨i.size,af.es.take len,.live⟩ rfl cl mE g1 rfl (fun _ _=>rfl) rfl rfl rfl g2 BH (fun j q bi=>by
             refine g4 j q ?_
             have aC:j<(af.es.take len).flatten.length:=by
              rcases Nat.lt_or_ge j (af.es.take len).flatten.length with cw|cw
              ·exact cw
              ·rw [List.getElem?_eq_none cw] at bi;simp at bi
             have Sz:af.es.flatten=(af.es.take len).flatten++(af.es.drop len).flatten:=by rw [← List.flatten_append,List.take_append_drop]
             rw [Sz,List.getElem?_append_left aC];exact bi)
            refine ⟨_,w,bM,hA.zero h0 ib len jr rV,h9,?_⟩
            have kH:m=len:=by simpa using hm
            subst kH
            refine .bC (sz:=i.size) (dZ:=b) (m:=M) BF ((h4 (qt bM)).trans (by rw [ha])) rV tF ?_
            rw [← eZ];exact ⟨dr,m7⟩
           ··
             have hold : ∃xs:List Value,xs.length=len*i.size∧(∀(j:Nat) u,xs[j]? = some u→w.cell? ((⟨b,0,none⟩:Addr).add j)=some u)∧(∀u∈xs,u.oneCell'=true) ∧
              ∀(j:Nat) x u,(af.es.take len).flatten[j]? = some x→xs[j]? = some u→Rel w (s.ok g ax w) s.a1 (s.bc ax) x u:=by
              have R9:=DW abj.rd 0 len (by omega)
              simp only [List.drop_zero,Nat.zero_mul,Nat.add_zero] at R9
              obtain ⟨xs,fz,fk,aQ,gI⟩:=R9.nY
              exact ⟨xs,by rw [fz,LF,eZ],fk,aQ,gI⟩
             obtain ⟨xs,fz,fk,aQ,gI⟩:=hold
             have acD:xs.length=(af.es.take len).length*i.size:=by rw [LF];exact fz
             have QF : ∀(j:Nat) x u,(af.es.take len++bz).flatten[j]? = some x→(xs++vs)[j]? = some u→Rel w (s.ok g ax w) s.a1 (s.bc ax) x u :=
              fun j x u acE n2=>WB acD (fun eH lY=>by rw [g3 eH (List.mem_of_mem_take lY),eZ]) acE gI v4 n2
             have BI:(af.es.take len++bz).length=m:=by rw [List.length_append,LF];exact hm.symm
             by_cases tn:len+bz.length≤jr
             ·
              rcases m7 with rfl|rfl
              ·omega
              ·rw [Nat.zero_mul] at *
               rw [Nat.zero_add] at dr
               have aav:len*i.size+vs.length≤cl.size:=by
                rw [v1,g2,← dr,eZ,← Nat.add_mul];exact Nat.mul_le_mul_right _ tn
               have iJ:=hA.room (by omega) b len jr cl mE g1 tn aav (by omega)
               have abQ:(w.setRow b (cl.toList.take (len*i.size)++vs++cl.toList.drop (len*i.size+vs.length)).toArray).heap.size=w.heap.size:=size_setRow _ _ _
               have SA:xs=cl.toList.take (len*i.size):=by
                apply List.ext_getElem?
                intro j
                rw [List.getElem?_take]
                by_cases aC:j<len*i.size
                ·rw [if_pos aC]
                 have sH:j<xs.length:=by omega
                 have:=fk j _ (List.getElem?_eq_getElem sH)
                 rw [rC,cell_of_row w b (0+j) cl mE (0,0) g1,Nat.zero_add] at this
                 rw [List.getElem?_eq_getElem sH,← this,Array.getElem?_toList]
                ·rw [if_neg aC,List.getElem?_eq_none (by omega)]
               obtain ⟨bM,ha,h9⟩:=h.turn dD an n3 al e2 ⟨i.size,af.es.take len++bz,.live⟩ rfl _ mE (setRow_heap w b cl _ mE _ g1) abQ (fun q bi=>setRow_other w b q _ bi) rfl rfl rfl
                (by rw [← g2];simp;omega) BH (fun j q bi=>by
                  have aC:j<(xs++vs).length:=by
                   have:j<(af.es.take len++bz).flatten.length:=by
                    rcases Nat.lt_or_ge j (af.es.take len++bz).flatten.length with cw|cw
                    ·exact cw
                    ·rw [List.getElem?_eq_none cw] at bi;simp at bi
                   rw [jw _ BH,BI] at this
                   rw [List.length_append,fz,v1,← Nat.add_mul,← hm];exact this
                  refine ⟨(xs++vs)[j],?_,?_,QF j q _ bi (List.getElem?_eq_getElem aC)⟩
                  ·rw [List.getElem?_toArray,List.getElem?_append_left (by rw [← SA];exact aC),← SA]
                   exact List.getElem?_eq_getElem aC
                  ·have:=List.getElem_mem aC
                   rw [List.mem_append] at this
                   rcases this with cw|cw
                   ·exact aQ _ cw
                   ·exact v3 _ cw)
               refine ⟨_,_,bM,iJ,h9,?_⟩
               rw [← hm]
               refine .bC (sz:=i.size) (dZ:=b) (m:=M) BF ((h4 (qt bM)).trans (by rw [ha])) (by omega) tF ⟨?_,.inr (by simp)⟩
               rw [Nat.zero_add,← eZ];exact dr
             ·
              have hA : ∃wC:Addr,(ib=some wC∧ ∀(j:Nat) u,xs[j]? = some u→w.cell? (wC.add j)=some u)∨(ib=none∧len=0∧jr=0):=by
               cases ib with
               | none =>
                refine ⟨⟨0,0,none⟩,.inr ⟨rfl,?_⟩⟩
                rcases m7 with cw|cw
                ·omega
                ·simp at cw
               | some wC =>
                refine ⟨wC,.inl ⟨rfl,?_⟩⟩
                rcases m7 with cw|cw
                ·have:len=0:=by omega
                 have:xs=[]:=List.length_eq_zero_iff.1 (by rw [fz,this];simp)
                 intro j u aC
                 rw [this] at aC;simp at aC
                ·simp at cw;subst cw;exact fk
              have Sy:=grownCap_ge w (len+bz.length) jr e
              have hle:=grownCap_le_maxLen w (len+bz.length) jr e (by simp only [maxLen];omega)
              simp only [maxLen] at hle
              have iJ:(Builtin.append_ #[t,dH] eF #[.slice ib len jr,nJ]).run P w = .ok (.slice (some ⟨w.heap.size,0,none⟩) (len+bz.length) (grownCap w (len+bz.length) jr e))
               (w.drew.alloc (.cells ((xs++vs).toArray++Builtin.zeroCells ew.cells (grownCap w (len+bz.length) jr e-(len+bz.length))) e)):=by
               have abR:(xs++vs).toArray=xs.toArray++vs.toArray:=by apply Array.ext';simp
               rw [abR]
               obtain ⟨wC,⟨rfl,acF⟩|⟨rfl,nD,m6⟩⟩:=hA
               ·exact hA.grow (by omega) wC len jr xs fz acF (by omega) (by omega) (growslice_fits (by omega) (by rw [← hm];exact vZ)) (by omega)
               ·subst nD;subst m6
                have acG:xs=[]:=List.length_eq_zero_iff.1 (by rw [fz];simp)
                subst acG
                have:=hA.nil (by omega) (by omega) (by omega)
                simpa using this
              obtain ⟨bM,aR,bb⟩:=I9 (e:=e) (i:=i) (m:=m) (nY:=xs++vs) (tQ:=Builtin.zeroCells ew.cells (grownCap w (len+bz.length) jr e-(len+bz.length))) (cap:=grownCap w (len+bz.length) jr e) h e2 BH BI.symm
               (by rw [List.length_append,fz,v1,BI,hm,Nat.add_mul]) (fun u hu=>by
                 rw [List.mem_append] at hu
                 rcases hu with cw|cw
                 ·exact aQ _ cw
                 ·exact v3 _ cw) (by rw [size_zeroCells,lH,hm]) (by omega) (by omega) QF rfl
              have qu:(s.setRow aV [⟨i.size,af.es.take len++bz,.live⟩]).af r k=some af:=by rw [lx,if_neg (Ne.symm cM)];exact an
              obtain ⟨oW,CF⟩:=aR.gone sC qu
              refine ⟨.slice (some ⟨w.heap.size,0,none⟩) m (grownCap w (len+bz.length) jr e),_,bM,?_,oW,CF _ _ bb⟩
              rw [hm];exact iJ
         ·simp at ar
      ·simp at ar
     ·exact absurd trivial aau
  ·simp at ar
end
end
section
variable {P:Program} {g:G} {s:S} {ax:fs} {a:Act} {w:World}
theorem AO {sz:Nat}: ∀ {es:List (List aA)},(∀e∈es,e.length=sz)→es.flatten.length=es.length*sz
 | [],_=>by simp
 | e::es,h=>by
  rw [List.flatten_cons,List.length_append,AO fun x aa=>h x (by simp [aa]),h e (by simp),List.length_cons,Nat.add_mul];omega
theorem cQ.putAt (h:cQ g s ax a w){r k p b M:Nat}{row:List ab}{af:ab}(ap:s.aU r=some row)(an:s.af r k=some af)(aX:af.cu = .live)(lL:ax r k=some (b,M)){bz gq:List (List aA)}{vs:List Value}
 (hlen : ∀x∈bz,x.length=af.sz) (v1:vs.length=bz.length*af.sz) (v3 : ∀u∈vs,u.oneCell'=true) (v4 : ∀(j:Nat) x u,bz.flatten[j]? = some x→vs[j]? = some u→Rel w (s.ok g ax w) s.a1 (s.bc ax) x u)
 (al:p+bz.length≤af.es.length) (q:Nat) (hx:gq=(af.es.take p++bz++af.es.drop (p+bz.length)).take q) :
 ∃cl mE,w.heap[b]? = some (.cells cl mE (0,0))∧cl.size=M∧af.es.length*af.sz≤M∧p*af.sz+vs.length≤cl.size ∧
  cQ g (s.setRow r (row.set k {af with es:=gq})) ax a (w.setRow b (cl.toList.take (p*af.sz)++vs++cl.toList.drop (p*af.sz+vs.length)).toArray) ∧
  ∀x v,Rel w (s.ok g ax w) s.a1 (s.bc ax) x v→Rel (w.setRow b (cl.toList.take (p*af.sz)++vs++cl.toList.drop (p*af.sz+vs.length)).toArray) ((s.setRow r (row.set k {af with es:=gq})).ok g ax (w.setRow b (cl.toList.take (p*af.sz)++vs++cl.toList.drop (p*af.sz+vs.length)).toArray)) (s.setRow r (row.set k {af with es:=gq})).a1 ((s.setRow r (row.set k {af with es:=gq})).bc ax) x v:=by
 have fl:=h.obj r k af an
 rw [lL] at fl
 obtain ⟨cl,mE,g1,g2,g3,g4⟩:=fl
 have jw:=AO g3
 have dr:af.es.length*af.sz≤M:=by
  rcases Nat.eq_zero_or_pos af.es.flatten.length with h0|ju
  ·omega
  ·obtain ⟨v,az,-⟩:=g4 (af.es.flatten.length-1) _ (List.getElem?_eq_getElem (by omega))
   have:=(Array.getElem?_eq_some_iff.1 az).1
   omega
 have hmul:p*af.sz+bz.length*af.sz≤af.es.length*af.sz:=by rw [← Nat.add_mul];exact Nat.mul_le_mul_right _ al
 have ik:p*af.sz+vs.length≤cl.size:=by omega
 refine ⟨cl,mE,g1,g2,dr,ik,?_⟩
 have abS : ∀e∈af.es.take p++bz++af.es.drop (p+bz.length),e.length=af.sz:=by
  intro e he
  simp only [List.mem_append] at he
  rcases he with (he|he)|he
  ·exact g3 e (List.mem_of_mem_take he)
  ·exact hlen e he
  ·exact g3 e (List.mem_of_mem_drop he)
 have hA:(af.es.take p).flatten.length=p*af.sz:=by rw [AO fun e he=>g3 e (List.mem_of_mem_take he),List.length_take];congr 1;omega
 have hj:(af.es.take (p+bz.length)).flatten.length=p*af.sz+bz.length*af.sz:=by rw [AO fun e he=>g3 e (List.mem_of_mem_take he),List.length_take,← Nat.add_mul];congr 1;omega
 have aen:bz.flatten.length=bz.length*af.sz:=AO hlen
 have o : ∀j,j<p*af.sz→(af.es.take p).flatten[j]? = af.es.flatten[j]? := fun j aC=>by
  conv=>rhs;rw [← List.take_append_drop p af.es,List.flatten_append,List.getElem?_append_left (by omega)]
 have J : ∀j,(af.es.drop (p+bz.length)).flatten[j]? = af.es.flatten[p*af.sz+bz.length*af.sz+j]? := fun j=>by
  conv=>rhs;rw [← List.take_append_drop (p+bz.length) af.es,List.flatten_append,List.getElem?_append_right (by omega),hj]
  congr 1;omega
 refine h.write ap an aX lL gq _ mE (setRow_heap w b cl _ mE _ g1) (size_setRow _ _ _) (fun q bi=>setRow_other w b q _ bi) rfl rfl rfl (by rw [← g2];simp;omega) ?_ ?_
 ·intro e he
  rw [hx] at he
  exact abS e (List.mem_of_mem_take he)
 ·intro j x aa
  have dI:(af.es.take p++bz++af.es.drop (p+bz.length)).flatten[j]? = some x:=by
   rw [hx] at aa
   have aC:=(List.getElem?_eq_some_iff.1 aa).1
   conv=>lhs;rw [← List.take_append_drop q (af.es.take p++bz++af.es.drop (p+bz.length)),List.flatten_append,List.getElem?_append_left aC]
   exact aa
  rw [List.flatten_append,List.flatten_append] at dI
  simp only [List.getElem?_toArray]
  have hC:(cl.toList.take (p*af.sz)).length=p*af.sz:=by rw [List.length_take,Array.length_toList];omega
  by_cases bN:j<p*af.sz
  ·rw [List.append_assoc,List.getElem?_append_left (by omega),o j bN] at dI
   obtain ⟨v,az,aH,b2⟩:=g4 j x dI
   refine ⟨v,?_,aH,b2⟩
   rw [List.append_assoc,List.getElem?_append_left (by omega),List.getElem?_take,if_pos bN,Array.getElem?_toList];exact az
  ·by_cases c2:j<p*af.sz+vs.length
   ·rw [List.append_assoc,List.getElem?_append_right (by omega),hA,List.getElem?_append_left (by omega)] at dI
    have a3:j-p*af.sz<vs.length:=by omega
    refine ⟨vs[j-p*af.sz],?_,v3 _ (List.getElem_mem a3),v4 _ _ _ dI (List.getElem?_eq_getElem a3)⟩
    rw [List.append_assoc,List.getElem?_append_right (by omega),hC,List.getElem?_append_left (by omega)]
    exact List.getElem?_eq_getElem a3
   ·rw [List.getElem?_append_right (by rw [List.length_append];omega),List.length_append,hA,aen,J] at dI
    rw [show p*af.sz+bz.length*af.sz+(j-(p*af.sz+bz.length*af.sz))=j by omega] at dI
    obtain ⟨v,az,aH,b2⟩:=g4 j x dI
    refine ⟨v,?_,aH,b2⟩
    rw [List.getElem?_append_right (by rw [List.length_append];omega),List.length_append,hC,List.getElem?_drop,Array.getElem?_toList]
    rw [show p*af.sz+vs.length+(j-(p*af.sz+vs.length))=j by omega];exact az
end
section
variable {P:Program} {g:G} {s:S} {ax:fs} {a:Act} {w:World} {aV:Nat} {bs:hD}
theorem ZM (h:cQ g s ax a w){x y:aA}{r8 nJ:Value}{t dH eF:TypeId}(ar:n1 P s.E s.aU aV .append [x,y] [t,dH] .cU=some bs)(cy:∀p∈bs.fo,p)
 (aa:Rel w (s.ok g ax w) s.a1 (s.bc ax) x r8) (aP:Rel w (s.ok g ax w) s.a1 (s.bc ax) y nJ) :
 ∃v bJ,(Builtin.append_ #[t,dH] eF #[r8,nJ]).run P w = .ok v bJ∧cQ g (s.h1 bs.fQ) ax a bJ∧Rel bJ ((s.h1 bs.fQ).ok g ax bJ) (s.h1 bs.fQ).a1 ((s.h1 bs.fQ).bc ax) bs.val v:=by
 simp only [n1] at ar
 split at ar
 ·simp at ar
 ·rename_i e he
  have hu:=ss he
  split at ar
  ·rename_i i z ai cv
   split at ar
   ·simp at ar
   ·rename_i aJ
    simp only [not_or,Decidable.not_not] at aJ
    obtain ⟨nC,ju,zh⟩:=aJ
    split at ar
    ·simp at ar
    ·rename_i bz cb rQ
     split at ar
     ·rename_i r k len
      split at ar
      ·simp at ar
      ·rename_i row dD
       split at ar
       ·simp at ar
       ·rename_i af bm
        split at ar
        ·rename_i v5
         obtain ⟨n3,eZ⟩:=v5
         simp only [Option.some.injEq] at ar
         subst ar
         have an:s.af r k=some af:=by unfold S.af;rw [dD];exact bm
         have ik:len+bz.length≤af.es.length:=cy _ (by simp)
         have vZ:bz.length*i.bytes≤140737488355328:=cy _ (by simp)
         obtain ⟨ew,vs,kw,lH,hA,hlen,v1,v3,v4⟩:=Px (eF:=eF) h hu ai cv nC ju rQ (fun p al=>cy p (by simp [al])) aP
         rw [← eZ] at v1
         have RI : ∀x∈bz,x.length=af.sz:=fun x aa=>by rw [hlen x aa,eZ]
         have hx:af.es.take len++bz=(af.es.take len++bz++af.es.drop (len+bz.length)).take (len+bz.length) :=
          (List.take_left' (by rw [List.length_append,List.length_take];omega)).symm
         rcases aa.vq (h4 an) with ⟨al,-,rfl,rfl⟩|⟨b,M,ib,jr,al,rfl,rV,tF,dr,m7⟩
         ·have fl:=h.obj r k af an
          rw [al] at fl
          simp only [iU] at fl
          rw [fl] at ik
          have h0:bz.length=0:=by simp at ik;exact List.length_eq_zero_iff.2 ik
          have v7:bz=[]:=List.length_eq_zero_iff.1 h0
          subst v7
          have k6:row.set k {af with es:=af.es.take 0++[]}=row:=by
           have o:({af with es:=af.es.take 0++[]}:ab)=af:=by cases af;simp only [] at fl;subst fl;rfl
           rw [o]
           have J:row[k]? = some af:=by
            unfold di at bm
            simp only at bm
            split at bm
            ·rename_i b9 dP
             split at bm
             ·simp at bm
             ·simp at bm;rw [← bm];exact dP
            ·simp at bm
           exact List.ext_getElem? fun j=>by
            rw [List.getElem?_set]
            split
            ·rename_i e;subst e
             have:=(List.getElem?_eq_some_iff.1 J).1
             rw [if_pos this,J]
            ·rfl
          refine ⟨_,w,hA.zero h0 none 0 0 (Nat.le_refl _),?_⟩
          have ei:s.setRow r row=s:=by
           have:(fun q=>if q=r then some row else s.aU q)=s.aU:=by
            funext q;split
            ·rename_i e;rw [e,dD]
            ·rfl
           show ({s with aU:=_}:S)=s
           rw [this]
          show cQ g (s.setRow r (row.set k {af with es:=af.es.take 0++[]})) ax a w∧Rel w ((s.setRow r (row.set k {af with es:=af.es.take 0++[]})).ok g ax w) (s.setRow r (row.set k {af with es:=af.es.take 0++[]})).a1 ((s.setRow r (row.set k {af with es:=af.es.take 0++[]})).bc ax) (.bC r k 0 0) (.slice none 0 0)
          rw [k6,ei]
          exact ⟨h,aa⟩
         ·obtain ⟨cl,mE,bN,c2,mL,sT,oX,tR⟩:=h.putAt dD an n3 al RI v1 v3 v4 ik (len+bz.length) hx
          have hle:af.es.length≤jr:=by
           rw [Nat.zero_add] at dr
           rw [← dr] at mL
           exact Nat.le_of_mul_le_mul_right mL (by omega)
          by_cases m6:jr=0
          ·have h0:bz.length=0:=by omega
           have nD:len=0:=by omega
           subst nD
           have v7:bz=[]:=List.length_eq_zero_iff.1 h0
           subst v7
           have LG:vs=[]:=List.length_eq_zero_iff.1 (by simpa using v1)
           subst LG
           have hw:w.setRow b (cl.toList.take (0*af.sz)++[]++cl.toList.drop (0*af.sz+0)).toArray=w:=by
            simp only [Nat.zero_mul,List.take_zero,List.nil_append,Nat.zero_add,List.drop_zero,Array.toArray_toList]
            exact setRow_self w b cl mE (0,0) bN
           simp only [List.length_nil] at oX tR
           rw [hw] at oX tR
           exact ⟨_,w,hA.zero h0 ib 0 jr (Nat.zero_le _),oX,tR _ _ aa⟩
          ·have B5:ib=some ⟨b,0,none⟩:=by
            rcases m7 with cw|cw
            ·exact absurd cw m6
            ·simpa using cw
           subst B5
           by_cases h0:bz.length=0
           ·have v7:bz=[]:=List.length_eq_zero_iff.1 h0
            subst v7
            have LG:vs=[]:=List.length_eq_zero_iff.1 (by simpa using v1)
            subst LG
            have hw:w.setRow b (cl.toList.take (len*af.sz)++[]++cl.toList.drop (len*af.sz+0)).toArray=w:=by
             simp only [List.append_nil,Nat.add_zero,List.take_append_drop,Array.toArray_toList]
             exact setRow_self w b cl mE (0,0) bN
            simp only [List.length_nil] at oX tR
            rw [hw] at oX tR
            exact ⟨_,w,hA.zero h0 _ len jr rV,oX,tR _ _ aa⟩
           ·have iJ:=hA.room (by omega) b len jr cl mE bN (by omega) (by rw [← eZ];exact sT) vZ
            rw [← eZ] at iJ
            refine ⟨_,_,iJ,oX,?_⟩
            have BA:(s.setRow r (row.set k {af with es:=af.es.take len++bz})).af r k=some {af with es:=af.es.take len++bz}:=by
             rw [lx,if_pos rfl,PY row k af _ bm (by simp [n3]),if_pos rfl]
            show Rel _ ((s.setRow r (row.set k {af with es:=af.es.take len++bz})).ok g ax _) (s.setRow r (row.set k {af with es:=af.es.take len++bz})).a1 ((s.setRow r (row.set k {af with es:=af.es.take len++bz})).bc ax) (.bC r k 0 (len+bz.length)) _
            refine .bC (sz:=af.sz) (dZ:=b) (m:=M) (Ep BA) ((h4 BA).trans (by rw [al])) (by omega) tF ⟨dr,.inr (by simp)⟩
        ·simp at ar
     ·simp at ar
  ·simp at ar
end
section
variable {P:Program} {g:G} {s:S} {ax:fs} {a:Act} {w:World} {aV:Nat} {bs:hD}
theorem OL {s:S}{r k:Nat}{row:List ab}{af:ab}(ap:s.aU r=some row)(an:di (some row) k=some af):s.setRow r (row.set k af)=s:=by
 have J:row[k]? = some af:=by
  unfold di at an
  simp only at an
  split at an
  ·rename_i b9 dP
   split at an
   ·simp at an
   ·simp at an;rw [← an];exact dP
  ·simp at an
 have ak:row.set k af=row:=List.ext_getElem? fun j=>by
  rw [List.getElem?_set]
  split
  ·rename_i e;subst e
   have:=(List.getElem?_eq_some_iff.1 J).1
   rw [if_pos this,J]
  ·rfl
 rw [ak]
 have:(fun q=>if q=r then some row else s.aU q)=s.aU:=by
  funext q;split
  ·rename_i e;rw [e,ap]
  ·rfl
 show ({s with aU:=_}:S)=s
 rw [this]
theorem XC {e:TypeId}{i:TypeInfo}{z:List aA}{ew:Value}(lH:ew.cells.size=i.size)(nC:z.length=i.size)(ju:i.size≠0)
 (uD : ∀(j:Nat) x,z[j]? = some x→ ∃v,ew.cells[j]? = some v∧j2 v=true∧ ∀(w:World) (ok:Nat→Prop) (a1:iZ) (bc:iQ),Rel w ok a1 bc x v) (m:Nat) :
 (Builtin.zeroCells ew.cells m).toList.length=m*i.size∧(∀u∈(Builtin.zeroCells ew.cells m).toList,u.oneCell'=true) ∧
   ∀(j:Nat) x u,(List.replicate m z).flatten[j]? = some x→(Builtin.zeroCells ew.cells m).toList[j]? = some u→ ∀(w:World) (ok:Nat→Prop) (a1:iZ) (bc:iQ),Rel w ok a1 bc x u:=by
 have lZ : ∀(j:Nat) u,(Builtin.zeroCells ew.cells m).toList[j]? = some u→ew.cells[j % i.size]? = some u:=by
  intro j u n2
  have aC:=(List.getElem?_eq_some_iff.1 n2).1
  rw [Array.length_toList,size_zeroCells,lH] at aC
  have dB:j % i.size<ew.cells.size:=by rw [lH];exact Nat.mod_lt _ (by omega)
  rw [Array.getElem?_toList,Builtin.zeroCells,Array.getElem?_map,lH,Array.getElem?_range] at n2
  rw [if_pos aC] at n2
  simp only [Option.map_some,Option.some.injEq] at n2
  rw [← n2,Array.getElem?_eq_getElem dB,getElem!_pos ew.cells _ dB]
 refine ⟨?_,?_,?_⟩
 ·rw [Array.length_toList,size_zeroCells,lH]
 ·intro u rX
  obtain ⟨j,aC⟩:=List.getElem?_of_mem rX
  have o:=lZ j u aC
  have dB:j % i.size<z.length:=by rw [nC];exact Nat.mod_lt _ (by omega)
  obtain ⟨v,v1,v2,-⟩:=uD _ _ (List.getElem?_eq_getElem dB)
  rw [o] at v1
  obtain rfl:=Option.some.inj v1
  exact v2
 ·intro j x u aa n2
  rw [pE (sz:=i.size) (by omega) _ (fun eH lY=>by rw [List.mem_replicate] at lY;rw [lY.2,nC])] at aa
  have o:=lZ j u n2
  cases bi:(List.replicate m z)[j / i.size]? with
  | none=>rw [bi] at aa;simp at aa
  | some eH =>
   have:=List.mem_of_getElem? bi
   rw [List.mem_replicate] at this
   rw [bi,this.2] at aa
   simp only [Option.bind_some] at aa
   obtain ⟨v,v1,-,v3⟩:=uD _ _ aa
   rw [o] at v1
   obtain rfl:=Option.some.inj v1
   exact v3
theorem YU (h:cQ g s ax a w){r k len:Nat}{y:aA}{r8 nJ:Value}{t dH eF:TypeId}{cJ:fE}(ar:n1 P s.E s.aU aV .copy [.bC r k 0 len,y] [t,dH] cJ=some bs)(cy:∀p∈bs.fo,p)
 (aa:Rel w (s.ok g ax w) s.a1 (s.bc ax) (.bC r k 0 len) r8) (aP:Rel w (s.ok g ax w) s.a1 (s.bc ax) y nJ) :
 ∃n bJ,(Builtin.copy_ #[t,dH] eF #[r8,nJ]).run P w = .ok (goInt n) bJ∧cQ g (s.h1 bs.fQ) ax a bJ∧bs.val = .n .i64 n:=by
 simp only [n1] at ar
 split at ar
 ·simp at ar
 ·rename_i e he
  have hu:=ss he
  split at ar
  ·simp at ar
  ·rename_i i ai
   split at ar
   ·simp at ar
   ·rename_i bz cb rQ
    split at ar
    ·simp at ar
    ·rename_i row dD
     split at ar
     ·simp at ar
     ·rename_i af bm
      split at ar
      ·rename_i v5
       obtain ⟨n3,eZ,ju⟩:=v5
       simp only [Option.some.injEq] at ar
       subst ar
       have an:s.af r k=some af:=by unfold S.af;rw [dD];exact bm
       have ik:bz.length≤len:=cy _ (by simp)
       have hle:len≤af.es.length:=cy _ (by simp)
       obtain ⟨A,c,rfl,hlen,LD⟩:=P1 h rQ (fun p al=>cy p (by simp [al])) aP
       show ∃n bJ,_∧cQ g (s.setRow r (row.set k {af with es:=bz++af.es.drop bz.length})) ax a bJ∧_
       by_cases h0:bz.length=0
       ·have v7:bz=[]:=List.length_eq_zero_iff.1 h0
        subst v7
        refine ⟨0,w,?_,?_,rfl⟩
        ·rcases aa.vq (h4 an) with ⟨-,-,rfl,rfl⟩|⟨b,M,ib,jr,-,rfl,-,-,-,-⟩
         ·cases A<;>simp [Builtin.copy_,run_underlying hu,sizeOf,typeInfo,ai,Builtin.lenOf,Builtin.firstCells,loadCells,loadCellsFrom]
         ·cases A<;>cases ib<;>simp [Builtin.copy_,run_underlying hu,sizeOf,typeInfo,ai,Builtin.lenOf,Builtin.firstCells,loadCells,loadCellsFrom,storeCells]
        ·rw [show ({af with es:=[]++af.es.drop ([]:List (List aA)).length}:ab)=af from rfl,OL dD bm];exact h
       ·obtain ⟨dZ,off,rfl,iq⟩:=LD.resolve_left h0
        obtain ⟨vs,v1,v2,v3,v4⟩:=iq.nY
        rw [← eZ] at v1
        rcases aa.vq (h4 an) with ⟨-,-,rfl,-⟩|⟨b,M,ib,jr,al,rfl,rV,tF,dr,m7⟩
        ·exact absurd (Nat.le_zero.1 ik) h0
        ·have B5:ib=some ⟨b,0,none⟩:=by
          rcases m7 with cw|cw
          ·exact absurd (show bz.length=0 by omega) h0
          ·simpa using cw
         subst B5
         obtain ⟨cl,mE,bN,c2,mL,sT,oX,-⟩:=h.putAt (p:=0) dD an n3 al (fun x aa=>by rw [hlen x aa,eZ]) v1 v3 v4 (by omega) af.es.length (gq:=bz++af.es.drop bz.length)
          (by rw [List.take_zero,List.nil_append,Nat.zero_add];exact (List.take_of_length_le (by simp;omega)).symm)
         simp only [Nat.zero_mul,Nat.zero_add,List.take_zero,List.nil_append] at sT oX
         have aL:=run_firstCells_some (P:=P) w i.size bz.length ⟨dZ,off,none⟩ bz.length c vs (by rw [v1,eZ]) v2
         have ms:=run_storeCells_at P b 0 mE vs 0 cl w bN (by simpa using sT) v3
         simp only [Nat.add_zero,List.take_zero,List.nil_append,Nat.zero_add] at ms
         refine ⟨bz.length,_,?_,oX,rfl⟩
         simp [Builtin.copy_,run_underlying hu,sizeOf,typeInfo,ai,Builtin.lenOf,Nat.min_eq_left ik,aL,ms]
      ·simp at ar
theorem X9 (h:cQ g s ax a w){r k len:Nat}{r8:Value}{t eF:TypeId}{cJ:fE}(ar:n1 P s.E s.aU aV .clear [.bC r k 0 len] [t] cJ=some bs)(cy:∀p∈bs.fo,p)
 (aa:Rel w (s.ok g ax w) s.a1 (s.bc ax) (.bC r k 0 len) r8) :
 ∃bJ,(Builtin.clear_ #[t] eF #[r8]).run P w = .ok (.tuple #[]) bJ∧cQ g (s.h1 bs.fQ) ax a bJ∧bs.val = .df []:=by
 simp only [n1] at ar
 split at ar
 ·simp at ar
 ·rename_i e he
  have hu:=ss he
  split at ar
  ·rename_i i z ai cv
   split at ar
   ·simp at ar
   ·rename_i row dD
    split at ar
    ·simp at ar
    ·rename_i af bm
     split at ar
     ·rename_i v5
      obtain ⟨n3,eZ,nC,ju⟩:=v5
      simp only [Option.some.injEq] at ar
      subst ar
      have an:s.af r k=some af:=by unfold S.af;rw [dD];exact bm
      have hle:af.es.length=len:=cy _ (by simp)
      show ∃bJ,_∧cQ g (s.setRow r (row.set k {af with es:=List.replicate len z})) ax a bJ∧_
      by_cases h0:len=0
      ·subst h0
       refine ⟨w,?_,?_,rfl⟩
       ·rcases aa.vq (h4 an) with ⟨-,-,-,rfl⟩|⟨b,M,ib,jr,-,rfl,-,-,-,-⟩
        ·simp [Builtin.clear_,run_underlying hu]
        ·cases ib<;>simp [Builtin.clear_,run_underlying hu]
       ·rw [show ({af with es:=List.replicate 0 z}:ab)=af by rw [List.replicate_zero,← List.length_eq_zero_iff.1 hle],OL dD bm];exact h
      ·obtain ⟨e8,ew,jn,kw,sS,uD⟩:=AB cv
       rw [ai] at jn;simp at jn;subst jn
       have lH:ew.cells.size=i.size:=by rw [← nC,sS];simp
       rcases aa.vq (h4 an) with ⟨-,-,rfl,-⟩|⟨b,M,ib,jr,al,rfl,rV,tF,dr,m7⟩
       ·exact absurd rfl h0
       ·have B5:ib=some ⟨b,0,none⟩:=by
         rcases m7 with cw|cw
         ·exact absurd (show len=0 by omega) h0
         ·simpa using cw
        subst B5
        obtain ⟨v1,v3,v4⟩:=XC (e:=e) lH nC ju uD len
        rw [← eZ] at v1
        obtain ⟨cl,mE,bN,c2,mL,sT,oX,-⟩:=h.putAt (p:=0) (bz:=List.replicate len z) dD an n3 al (fun x aa=>by rw [List.mem_replicate] at aa;rw [aa.2,nC,eZ]) (by simpa using v1) v3 (fun j x u o J=>v4 j x u o J _ _ _ _)
         (by simp;omega) len (gq:=List.replicate len z)
         (by simp [hle])
        simp only [Nat.zero_mul,Nat.zero_add,List.take_zero,List.nil_append] at sT oX
        have ms:=run_storeCells_at P b 0 mE (Builtin.zeroCells ew.cells len).toList 0 cl w bN (by simpa using sT) v3
        simp only [Nat.add_zero,List.take_zero,List.nil_append,Nat.zero_add] at ms
        refine ⟨_,?_,oX,rfl⟩
        cases len with
        | zero=>exact absurd rfl h0
        | succ n=>simp [Builtin.clear_,run_underlying hu,zeroValue,typeInfo,ai,kw,ms]
     ·simp at ar
  ·simp at ar
end
section
variable {g:G} {s:S} {ax:fs} {a:Act} {w:World}
def lS (row:List ab):List ab:=row.map fun R=>if R.cu = .live then {R with cu:= .hn} else R
theorem P2 (row:List ab)(k:Nat):di (some (lS row)) k=(di (some row) k).map fun R=>if R.cu = .live then {R with cu:= .hn} else R:=by
 simp only [di,lS,List.getElem?_map]
 cases row[k]? with
 | none=>rfl
 | some R =>
  obtain ⟨sz,es,cu⟩:=R
  cases cu<;>simp
theorem cQ.freeze (h:cQ g s ax a w){r:Nat}{row:List ab}(ap:s.aU r=some row):cQ g (s.setRow r (lS row)) ax a w:=by
 have bm : ∀q k R,(s.setRow r (lS row)).af q k=some R→ ∃p,s.af q k=some p∧R.sz=p.sz∧R.es=p.es∧(R.cu = .live→p.cu = .live∧q≠r):=by
  intro q k R an
  by_cases e:q=r
  ·subst e
   have:(s.setRow q (lS row)).aU q=some (lS row):=by simp [S.setRow]
   unfold S.af at an
   rw [this,P2] at an
   rw [Option.map_eq_some_iff] at an
   obtain ⟨p,al,rfl⟩:=an
   refine ⟨p,by unfold S.af;rw [ap];exact al,?_⟩
   split<;>simp_all
  ·have:(s.setRow r (lS row)).aU q=s.aU q:=by simp [S.setRow,e]
   unfold S.af at an
   rw [this] at an
   exact ⟨R,an,rfl,rfl,fun aL=>⟨aL,e⟩⟩
 have i5 : ∀q k,s.a1 q k→(s.setRow r (lS row)).a1 q k:=DV s ap (by simp [lS])
 have ld : ∀q k,(s.setRow r (lS row)).bc ax q k=s.bc ax q k:=by
  intro q k
  by_cases e:q=r
  ·subst e
   simp only [S.bc,S.af]
   have:(s.setRow q (lS row)).aU q=some (lS row):=by simp [S.setRow]
   rw [this,P2,ap]
   cases di (some row) k with
   | none=>rfl
   | some R=>simp only [Option.map_some,Option.some.injEq,Prod.mk.injEq,and_true];split<;>rfl
  ·have:(s.setRow r (lS row)).aU q=s.aU q:=by simp [S.setRow,e]
   simp [S.bc,S.af,this]
 have c8:Step g s ax w (s.setRow r (lS row)) ax w:=⟨i5,fun q k _=> .inl (ld q k),fun b aL=>by
  obtain ⟨q,k,R,m,o,J,ak⟩:=aL
  obtain ⟨p,ha,h9,oW,CF⟩:=bm q k R o
  exact .inl ⟨q,k,p,m,ha,(CF J).1,ak⟩,fun _ _ _=>rfl,Nat.le_refl _⟩
 refine {toh6:=⟨?_,?_,?_,h.g7,h.mlt,h.nz,?_,h.low⟩,env:=fun t=>c8.rel (h.env t),defers:=h.defers,jv:=h.jv}
 ·intro q k R an
  obtain ⟨p,ha,h9,oW,-⟩:=bm q k R an
  have al:=c8.obj (fun b m _=>rfl) (h.obj q k p ha)
  cases lL:ax q k with
  | none=>rw [lL] at al;simp only [iU] at al ⊢;rw [oW];exact al
  | some x =>
   obtain ⟨b,m⟩:=x
   rw [lL] at al
   obtain ⟨c,eF,az,aH,b2,dn⟩:=al
   exact ⟨c,eF,az,aH,by rw [h9,oW];exact b2,by rw [oW];exact dn⟩
 ·intro q k R hG dJ b9 b m a6 o J ak ay
  obtain ⟨p,ha,-⟩:=bm q k R o
  obtain ⟨ka,acH,-⟩:=bm hG dJ b9 J
  exact h.inj q k p hG dJ ka b m a6 ha acH ak ay
 ·intro q k R b m o J
  obtain ⟨p,ha,-⟩:=bm q k R o
  exact h.own q k p b m ha J
 ·intro j k aC
  obtain ⟨az,aH⟩:=h.stay j k aC
  exact ⟨i5 j k az,by rw [ld];exact aH⟩
end
def yS (P:Program)(t:TypeId):Bool :=
 match P.underlying t with
 | some (.pointer _)=>true
 | _=>false
def zn (P:Program)(E:Nat→aA)(aU:Nat→Option (List ab))(aV:Nat)(R:Oper)(cJ:fE):Option hD :=
 match R.op with
 | .call {callee:= .builtin b,args,argTypes}=>match b with
  | .len=>eU P E aU aV R cJ
  | b=>n1 P E aU aV b (args.toList.map (eO E)) argTypes.toList cJ
 | .binOp op t x y _=>match cJ,op,eO E x,eO E y with
  | .cU,.eql,.isl _ es,.eK=>if (qk P t).isSome then some {val:= .b false,fo:=[es≠[]]} else none
  | .cU,.neq,.isl _ es,.eK=>if (qk P t).isSome then some {val:= .b true,fo:=[es≠[]]} else none
  | .cU,.eql,.ef _ none,.ij=>if yS P t then some {val:= .b true} else none
  | .cU,.neq,.ef _ none,.ij=>if yS P t then some {val:= .b false} else none
  | .cU,.eql,.ef _ (some _),.ij=>if yS P t then some {val:= .b false} else none
  | .cU,.neq,.ef _ (some _),.ij=>if yS P t then some {val:= .b true} else none
  | .cU,_,_,_=>none
  | _,_,_,_=>eU P E aU aV R cJ
 | .nilCheck x=>match cJ,eO E x with
  | .cU,.ef sz (some c)=>some {val:= .eE sz [c] 0 0}
  | .cU,_=>none
  | _,_=>eU P E aU aV R cJ
 | _=>eU P E aU aV R cJ
section
variable {P:Program} {g:G} {s:S} {ax:fs} {a:Act} {w:World} {R:Oper} {cJ:fE} {aV:Nat} {bs:hD}
theorem ED {args:Array Operand}{E:Nat→aA}{x y:aA}(h:args.toList.map (eO E)=[x,y]): ∃p q,args = #[p,q]∧eO E p=x∧eO E q=y:=by
 obtain ⟨l⟩:=args
 match l,h with
 | [p,q],h=>simp at h;exact ⟨p,q,rfl,h.1,h.2⟩
theorem ZN {args:Array Operand}{E:Nat→aA}{x:aA}(h:args.toList.map (eO E)=[x]): ∃p,args = #[p]∧eO E p=x:=by
 obtain ⟨l⟩:=args
 match l,h with
 | [p],h=>simp at h;exact ⟨p,rfl,h⟩
theorem Ee {t:TypeId}(h:yS P t=true): ∃e,P.underlying t=some (.pointer e):=by
 unfold yS at h
 split at h
 ·rename_i e he;exact ⟨e,he⟩
 ·simp at h
theorem Ya (h:cQ g s ax a w)(e2:s.aU aV=none)(ar:zn P s.E s.aU aV R cJ=some bs)(cy:∀p∈bs.fo,p):Fin P g s a w R bs:=by
 unfold zn at ar
 split at ar
 ·rename_i b args m5 an
  split at ar
  ·exact Ed h e2 ar cy
  ·rename_i b aY
   unfold n1 at ar
   split at ar
   ·rename_i x y t dH m MI hargs oK
    have vJ:n1 P s.E s.aU aV .append [x,y] [t,dH] (.aZ m MI)=some bs:=ar
    obtain ⟨p,q,rfl,rfl,rfl⟩:=ED hargs
    obtain ⟨l⟩:=m5
    simp only at oK
    subst oK
    obtain ⟨v,bJ,bM,o,J,ak⟩:=XB (eF:=R.type) h e2 vJ cy (h.eval p) (h.eval q)
    exact ⟨v,bJ,bM,.inl (by simp [execOp,an,resolve,invoke,builtin,o]),J,ak⟩
   ·rename_i x y t dH hargs oK
    have vJ:n1 P s.E s.aU aV .append [x,y] [t,dH] .cU=some bs:=ar
    obtain ⟨p,q,rfl,rfl,rfl⟩:=ED hargs
    obtain ⟨l⟩:=m5
    simp only at oK
    subst oK
    obtain ⟨v,bJ,o,J,ak⟩:=ZM (eF:=R.type) h vJ cy (h.eval p) (h.eval q)
    exact ⟨v,bJ,ax,.inl (by simp [execOp,an,resolve,invoke,builtin,o]),J,ak⟩
   ·rename_i cJ r k len y t dH hargs oK
    have vJ:n1 P s.E s.aU aV .copy [.bC r k 0 len,y] [t,dH] cJ=some bs:=ar
    obtain ⟨p,q,rfl,al,rfl⟩:=ED hargs
    obtain ⟨l⟩:=m5
    simp only at oK
    subst oK
    have aa:=h.eval p
    rw [al] at aa
    obtain ⟨n,bJ,o,J,ak⟩:=YU (eF:=R.type) h vJ cy aa (h.eval q)
    refine ⟨goInt n,bJ,ax,.inl (by simp [execOp,an,resolve,invoke,builtin,o]),J,?_⟩
    rw [ak];exact .n _ _
   ·rename_i cJ r k len t hargs oK
    have vJ:n1 P s.E s.aU aV .clear [.bC r k 0 len] [t] cJ=some bs:=ar
    obtain ⟨p,rfl,al⟩:=ZN hargs
    obtain ⟨l⟩:=m5
    simp only at oK
    subst oK
    have aa:=h.eval p
    rw [al] at aa
    obtain ⟨bJ,o,J,ak⟩:=X9 (eF:=R.type) h vJ cy aa
    refine ⟨.tuple #[],bJ,ax,.inl (by simp [execOp,an,resolve,invoke,builtin,o]),J,?_⟩
    rw [ak];exact .df [] rfl (fun j x u aC=>by simp at aC)
   ·rename_i k x dJ y hargs
    split at ar
    ·rename_i aX
     simp only [Option.some.injEq] at ar
     subst ar;subst aX
     obtain ⟨p,q,rfl,al,bi⟩:=ED hargs
     have aa:=h.eval p
     have aP:=h.eval q
     rw [al] at aa;rw [bi] at aP
     refine hY (v:= .int k (if y<x then y else x)) h ?_ rfl (.n _ _)
     simp [execOp,an,resolve,invoke,builtin,Builtin.min_,aa.oC,aP.oC,Builtin.min2]
    ·simp at ar
   ·simp at ar
 ·rename_i op t x y dH an
  split at ar
  ·rename_i sz es aa aP
   split at ar
   ·rename_i he
    obtain ⟨e,he⟩:=Option.isSome_iff_exists.1 he
    simp only [Option.some.injEq] at ar
    subst ar
    have o:=h.eval x
    have J:=h.eval y
    rw [aa] at o;rw [aP] at J
    have cM:es≠[]:=cy _ (by simp)
    refine hY (v:= .bool false) h ?_ rfl (.b _)
    simp only [execOp,an]
    rw [Sem.run_bind,(Rd (w:=w) (ss he) cM o J x y).1];rfl
   ·simp at ar
  ·rename_i sz es aa aP
   split at ar
   ·rename_i he
    obtain ⟨e,he⟩:=Option.isSome_iff_exists.1 he
    simp only [Option.some.injEq] at ar
    subst ar
    have o:=h.eval x
    have J:=h.eval y
    rw [aa] at o;rw [aP] at J
    have cM:es≠[]:=cy _ (by simp)
    refine hY (v:= .bool true) h ?_ rfl (.b _)
    simp only [execOp,an]
    rw [Sem.run_bind,(Rd (w:=w) (ss he) cM o J x y).2];rfl
   ·simp at ar
  ·rename_i sz aa aP
   split at ar
   ·rename_i cq
    obtain ⟨e,he⟩:=Ee cq
    simp only [Option.some.injEq] at ar
    subst ar
    have o:=h.eval x
    have J:=h.eval y
    rw [aa] at o;rw [aP] at J
    have uE:Rel w (s.ok g ax w) s.a1 (s.bc ax) .ij (a.eval x):=by rw [o.PZ];exact .ij
    refine hY (v:= .bool true) h ?_ rfl (.b _)
    simp only [execOp,an]
    rw [Sem.run_bind,(yA (w:=w) (r:=true) (by simp [sG,he]) uE J x y).1];rfl
   ·simp at ar
  ·rename_i sz aa aP
   split at ar
   ·rename_i cq
    obtain ⟨e,he⟩:=Ee cq
    simp only [Option.some.injEq] at ar
    subst ar
    have o:=h.eval x
    have J:=h.eval y
    rw [aa] at o;rw [aP] at J
    have uE:Rel w (s.ok g ax w) s.a1 (s.bc ax) .ij (a.eval x):=by rw [o.PZ];exact .ij
    refine hY (v:= .bool false) h ?_ rfl (.b _)
    simp only [execOp,an]
    rw [Sem.run_bind,(yA (w:=w) (r:=true) (by simp [sG,he]) uE J x y).2];rfl
   ·simp at ar
  ·rename_i sz c aa aP
   split at ar
   ·rename_i cq
    obtain ⟨e,he⟩:=Ee cq
    simp only [Option.some.injEq] at ar
    subst ar
    have o:=h.eval x
    have J:=h.eval y
    rw [aa] at o;rw [aP] at J
    refine hY (v:= .bool false) h ?_ rfl (.b _)
    simp only [execOp,an]
    rw [Sem.run_bind,(yA (w:=w) (r:=false) (by simp [sG,he]) o.JZ J x y).1];rfl
   ·simp at ar
  ·rename_i sz c aa aP
   split at ar
   ·rename_i cq
    obtain ⟨e,he⟩:=Ee cq
    simp only [Option.some.injEq] at ar
    subst ar
    have o:=h.eval x
    have J:=h.eval y
    rw [aa] at o;rw [aP] at J
    refine hY (v:= .bool true) h ?_ rfl (.b _)
    simp only [execOp,an]
    rw [Sem.run_bind,(yA (w:=w) (r:=false) (by simp [sG,he]) o.JZ J x y).2];rfl
   ·simp at ar
  ·simp at ar
  ·exact Ed h e2 ar cy
 ·rename_i x an
  split at ar
  ·rename_i sz c aa
   simp only [Option.some.injEq] at ar
   subst ar
   have o:=h.eval x
   rw [aa] at o
   have J:=o.JZ
   obtain ⟨dZ,off,aY,hval,iq⟩:=J.yG
   refine hY (v:=a.eval x) h ?_ rfl J
   rw [hval]
   simp only [execOp,an,hval]
   rfl
  ·simp at ar
  ·exact Ed h e2 ar cy
 ·exact Ed h e2 ar cy
end
end Go.VL
namespace Go.VL
set_option linter.unusedVariables false
set_option linter.unusedSimpArgs false
open Go
theorem s4 {es:List (List aA)}{j:Nat}{x:aA}(h:es.flatten[j]? = some x): ∃e∈es,x∈e:=by
 have:=List.mem_of_getElem? h
 rw [List.mem_flatten] at this
 obtain ⟨e,he,aa⟩:=this
 exact ⟨e,he,aa⟩
theorem Rel.pure {w:World}{ok kG:Nat→Prop}{a1 m3:iZ}{bc mr:iQ}{x:aA}{v:Value}(h:Rel w ok a1 bc x v)(al:Pure x)(m4:∀b,ok b→kG b):Rel w kG m3 mr x v:=by
 induction h with
 | dead v=>exact .dead v
 | b x=>exact .b x
 | n k x=>exact .n k x
 | s x=>exact .s x
 | ij=>exact .ij
 | eK=>exact .eK
 | iE a c=>exact .iE a c
 | qh=>cases al
 | ref=>cases al
 | nu=>cases al
 | nP=>cases al
 | bC=>cases al
 | mY=>cases al
 | nW=>cases al
 | j6 sz a c h=>exact .j6 sz a c h
 | isl cs aY l0 aL aJ hw hC ap ih =>
  cases al with
  | isl h=>exact .isl cs (m4 _ aY) l0 aL aJ hw hC fun j x aa=>ih j x aa (by obtain ⟨e,he,q7⟩:=s4 aa;exact h e he x q7)
 | eE cs aY l0 aL hw hC ap ih =>
  cases al with
  | eE h=>exact .eE cs (m4 _ aY) l0 aL hw hC fun j x aa=>ih j x aa (by obtain ⟨e,he,q7⟩:=s4 aa;exact h e he x q7)
 | pN sz=>exact .pN sz
 | pp h ih =>
  cases al with
  | pp al=>exact .pp (ih (.eE fun e he x aa=>by rw [List.mem_singleton] at he;subst he;exact al x aa))
 | agg vs aL hC ap ih =>
  cases al with
  | agg h=>exact .agg vs aL hC fun j x v aa a3=>ih j x v aa a3 (h x (List.mem_of_getElem? aa))
 | df vs aL ap ih =>
  cases al with
  | df h=>exact .df vs aL fun j x v aa a3=>ih j x v aa a3 (h x (List.mem_of_getElem? aa))
 | fn vs aL ap ih =>
  cases al with
  | fn h=>exact .fn vs aL fun j x v aa a3=>ih j x v aa a3 (h x (List.mem_of_getElem? aa))
abbrev gJ:=Nat→Nat→Option (Nat×Nat)
structure Down (q:aA→Prop):Prop where
 agg : ∀c x,q (.agg c)→x∈c→q x
 df : ∀c x,q (.df c)→x∈c→q x
 fn : ∀f c x,q (.fn f c)→x∈c→q x
inductive hI (s:S) (aM:gJ) (b0:gd→Bool) (q:aA→Prop):aA→aA→Prop
 | dead (x:aA):hI s aM b0 q x .dead
 | pure {x:aA} (h:Pure x) (bi:q x):hI s aM b0 q x x
 | eK (sz:Nat):hI s aM b0 q .eK (.isl sz [])
 | iE (sz:Nat):hI s aM b0 q .iE (.isl sz [])
 | E2 (sz:Nat):hI s aM b0 q .ij (.ef sz none)
 | ef {sz:Nat} {x:aA} {c:List aA} (h:hI s aM b0 q x (.eE sz [c] 0 0)):hI s aM b0 q x (.ef sz (some c))
 | ref {r k j e8:Nat} (i off:Nat) (h:aM j e8=some (r,k)) (hu:s.a1 r k):hI s aM b0 q (.ref r k i off) (.ref j e8 i off)
 | bC {r k j e8:Nat} (bZ len:Nat) (h:aM j e8=some (r,k)) (hu:s.a1 r k):hI s aM b0 q (.bC r k bZ len) (.bC j e8 bZ len)
 | mY (r c sz:Nat):hI s aM b0 q (.iF r c sz none) (.isl sz [])
 | nW {r c sz k n:Nat} {cO:aA} (h:hI s aM b0 q (.bC r (k+c) 0 n) cO):hI s aM b0 q (.iF r c sz (some (k,n))) cO
 | iF {r eG c dY sz:Nat} (h:Option (Nat×Nat)) (hm : ∀k,aM eG (k+dY)=some (r,k+c)):hI s aM b0 q (.iF r c sz h) (.iF eG dY sz h)
 | eE {r k:Nat} {R:ab} {gq:List (List aA)} (i off:Nat) (an:s.af r k=some R) (bH:b0 R.cu=true) (ap:(∀j i,aM j i≠some (r,k))) (cM:R.es≠[]) (al:hl gq) (hle : ∀e∈gq,e.length=R.sz) (aL:gq.length=R.es.length)
  (h : ∀(j:Nat) x cO,R.es.flatten[j]? = some x→gq.flatten[j]? = some cO→hI s aM b0 q x cO):hI s aM b0 q (.ref r k i off) (.eE R.sz gq i off)
 | isl {r k bZ len:Nat} {R:ab} {gq:List (List aA)} (an:s.af r k=some R) (bH:b0 R.cu=true) (ap:(∀j i,aM j i≠some (r,k))) (ik:bZ+len≤R.es.length) (al:hl gq) (hle : ∀e∈gq,e.length=R.sz) (aL:gq.length=len)
  (h : ∀(j:Nat) x cO,((R.es.drop bZ).take len).flatten[j]? = some x→gq.flatten[j]? = some cO→hI s aM b0 q x cO):hI s aM b0 q (.bC r k bZ len) (.isl R.sz gq)
 | agg {c dY:List aA} (aL:dY.length=c.length) (h : ∀(j:Nat) x cO,c[j]? = some x→dY[j]? = some cO→hI s aM b0 q x cO):hI s aM b0 q (.agg c) (.agg dY)
 | df {c dY:List aA} (aL:dY.length=c.length) (h : ∀(j:Nat) x cO,c[j]? = some x→dY[j]? = some cO→hI s aM b0 q x cO):hI s aM b0 q (.df c) (.df dY)
 | fn {f:Nat} {c dY:List aA} (aL:dY.length=c.length) (h : ∀(j:Nat) x cO,c[j]? = some x→dY[j]? = some cO→hI s aM b0 q x cO):hI s aM b0 q (.fn f c) (.fn f dY)
theorem sn {sz:Nat}: ∀(es:List (List aA)),(∀e∈es,e.length=sz)→es.flatten.length=es.length*sz
 | [],_=>by simp
 | e::es,h=>by
  rw [List.flatten_cons,List.length_append,sn es fun x aa=>h x (by simp [aa]),h e (by simp),List.length_cons,Nat.add_mul];omega
theorem f9 {α:Type}{l:List α}{j:Nat}{x:α}(h:l[j]? = some x):j<l.length:=by
 rcases Nat.lt_or_ge j l.length with cw|cw
 ·exact cw
 ·rw [List.getElem?_eq_none cw] at h;simp at h
theorem hI.rel {g:G}{s:S}{ax:fs}{w:World}{aM:gJ}{b0:gd→Bool}{q:aA→Prop}(dr:h6 g s ax w){kG:Nat→Prop}{m3:iZ}{mr:iQ}
 (H1 : ∀x v,q x→Pure x→Rel w (s.ok g ax w) s.a1 (s.bc ax) x v→Rel w kG m3 mr x v)
 (F7 : ∀r k R b m,s.af r k=some R→b0 R.cu=true→(∀j i,aM j i≠some (r,k))→ax r k=some (b,m)→kG b)
 (CG : ∀j i r k,aM j i=some (r,k)→s.a1 r k→m3 j i∧(mr j i=s.bc ax r k∨mr j i=none)) {x cO:aA} (b4:hI s aM b0 q x cO) :
 ∀ {v:Value},Rel w (s.ok g ax w) s.a1 (s.bc ax) x v→Rel w kG m3 mr cO v:=by
 induction b4 with
 | dead x=>intro v _;exact .dead v
 | pure al bi=>intro v ap;exact H1 _ v bi al ap
 | eK sz=>intro v ap;rw [ap.qe];exact .j6 sz none 0 (fun _=>rfl)
 | iE sz=>intro v ap;obtain ⟨a,c,rfl⟩:=ap.EB;exact .j6 sz (some a) c (fun h=>by simp at h)
 | E2 sz=>intro v ap;rw [ap.vp];exact .pN sz
 | ef h ih=>intro v ap;exact .pp (ih ap)
 | @ref r k j e8 i off aC hu =>
  intro v ap
  obtain ⟨o,J⟩:=CG j e8 r k aC hu
  cases ap with
  | qh a oP a0 =>
   refine .qh a o fun sz p=> ?_
   rcases J with e|e<;>rw [e]
   ·exact a0 sz p
   ·simp
  | ref oP cq =>
   rcases J with e|e
   ·exact .ref o (e.trans cq)
   ·exact .qh _ o fun sz p=>by rw [e];simp
 | @bC r k j e8 bZ len aC hu =>
  intro v ap
  obtain ⟨o,J⟩:=CG j e8 r k aC hu
  cases ap with
  | nu a l c oP a0 =>
   refine .nu a l c o ?_
   rcases J with e|e<;>rw [e]
   exact a0
  | nP oP cq =>
   rcases J with e|e
   ·exact .nP o (e.trans cq)
   ·exact .nu _ _ _ o e
  | bC oP cq aL aJ hm =>
   rcases J with e|e
   ·exact .bC o (e.trans cq) aL aJ hm
   ·exact .nu _ _ _ o e
 | mY r c sz =>
  intro v ap
  cases ap with
  | mY h0 =>
   rcases h0.tg with ⟨-,a,c,rfl,bH⟩|⟨dZ,off,c,-,rfl,-⟩
   ·exact .j6 sz a c bH
   ·exact .j6 sz _ c (fun h=>by simp at h)
 | nW h ih =>
  intro v ap
  cases ap with
  | nW h0=>exact ih h0
 | @iF r eG c dY sz h hm =>
  intro v ap
  cases ap with
  | mY h0 =>
   rcases h0.tg with ⟨-,a,c,rfl,bH⟩|⟨dZ,off,c,-,rfl,-⟩
   ·exact .mY (.j6 sz a c bH)
   ·exact .mY (.j6 sz _ c (fun h=>by simp at h))
  | @nW _ _ _ k n _ h0 =>
   refine .nW ?_
   cases h0 with
   | nu a l bN oP a0 =>
    obtain ⟨o,J⟩:=CG _ _ _ _ (hm k) oP
    refine .nu a l bN o ?_
    rcases J with e|e<;>rw [e]
    exact a0
   | nP oP cq =>
    obtain ⟨o,J⟩:=CG _ _ _ _ (hm k) oP
    rcases J with e|e
    ·exact .nP o (e.trans cq)
    ·exact .nu _ _ _ o e
   | bC oP cq aL aJ m7 =>
    obtain ⟨o,J⟩:=CG _ _ _ _ (hm k) oP
    rcases J with e|e
    ·exact .bC o (e.trans cq) aL aJ m7
    ·exact .nu _ _ _ o e
 | @eE r k R gq i off an bH ap cM LH hle aL h ih =>
  intro v a3
  have fl:=dr.obj r k R an
  rcases a3.vw (h4 an) with h0|⟨b,m,al,hval⟩
  ·rw [h0] at fl;exact absurd fl cM
  ·rw [al] at fl
   have iq:=fl.rd
   rw [hval]
   have jw:gq.flatten.length=R.es.flatten.length:=by rw [sn gq hle,sn R.es iq.1,aL]
   have vO:oV w kG m3 mr b 0 R.sz gq:=by
    refine ⟨hle,fun j cO dI=> ?_⟩
    have dB:j<R.es.flatten.length:=by rw [← jw];exact f9 dI
    have aa:R.es.flatten[j]? = some R.es.flatten[j]:=List.getElem?_eq_getElem dB
    obtain ⟨u,az,aH,b2⟩:=iq.2 j _ aa
    exact ⟨u,az,aH,ih j _ cO aa dI b2⟩
   have:=vO.eE (i:=i) (off:=off) ⟨F7 r k R b m an bH ap al,LH⟩
   rw [Nat.zero_add] at this
   exact this
 | @isl r k bZ len R gq an bH ap ik LH hle aL h ih =>
  intro v a3
  have fl:=dr.obj r k R an
  rcases a3.A0 (h4 an) with ⟨al,rfl,rfl,hval⟩|⟨b,m,A,c,al,hval,rV,tF,hm⟩
  ·have:gq=[]:=List.length_eq_zero_iff.1 aL
   subst this
   rw [hval];exact .j6 _ none 0 (fun _=>rfl)
  ·rw [al] at fl
   rw [hval]
   rcases Nat.eq_zero_or_pos len with h0|ju
   ·subst h0
    have:gq=[]:=List.length_eq_zero_iff.1 aL
    subst this
    exact .j6 _ A c (fun a0=>by rcases hm with o|⟨o,-⟩<;>simp_all)
   ·rcases hm with hm|⟨hA,hm⟩
    ·omega
    ·subst hA
     have iq:=DW fl.rd bZ len (by omega)
     rw [Nat.zero_add] at iq
     have jw:gq.flatten.length=((R.es.drop bZ).take len).flatten.length:=by
      rw [sn gq hle,sn _ iq.1,aL,List.length_take,List.length_drop,Nat.min_eq_left (by omega)]
     have vO:oV w kG m3 mr b (bZ*R.sz) R.sz gq:=by
      refine ⟨hle,fun j cO dI=> ?_⟩
      have dB:j<((R.es.drop bZ).take len).flatten.length:=by rw [← jw];exact f9 dI
      have aa:=List.getElem?_eq_getElem dB
      obtain ⟨u,az,aH,b2⟩:=iq.2 j _ aa
      exact ⟨u,az,aH,ih j _ cO aa dI b2⟩
     have:=vO.isl (c:=c) ⟨F7 r k R b m an bH ap al,LH⟩ (by omega)
     rw [aL] at this
     exact this
 | @agg c dY aL h ih =>
  intro v a3
  obtain ⟨vs,rfl,o,J,ak⟩:=a3.yE
  refine .agg vs (by omega) J fun j cO u dI hu=> ?_
  have dB:j<c.length:=by have:=f9 dI;omega
  exact ih j _ cO (List.getElem?_eq_getElem dB) dI (ak j _ u (List.getElem?_eq_getElem dB) hu)
 | @df c dY aL h ih =>
  intro v a3
  obtain ⟨vs,rfl,o,ak⟩:=a3.yF
  refine .df vs (by omega) fun j cO u dI hu=> ?_
  have dB:j<c.length:=by have:=f9 dI;omega
  exact ih j _ cO (List.getElem?_eq_getElem dB) dI (ak j _ u (List.getElem?_eq_getElem dB) hu)
 | @fn f c dY aL h ih =>
  intro v a3
  obtain ⟨vs,rfl,o,ak⟩:=a3.EQ
  refine .fn vs (by omega) fun j cO u dI hu=> ?_
  have dB:j<c.length:=by have:=f9 dI;omega
  exact ih j _ cO (List.getElem?_eq_getElem dB) dI (ak j _ u (List.getElem?_eq_getElem dB) hu)
structure oQ (s:S) (aM:gJ) (b0:gd→Bool) (q:aA→Prop) (R b9:ab):Prop where
 sz:b9.sz=R.sz
 cu:b9.cu=R.cu∨(b9.cu = .hn∧R.cu = .live)∨b9.cu = .gone
 len:b9.es.length=R.es.length
 each : ∀e∈b9.es,e.length=R.sz
 at_ : ∀(j:Nat) x cO,R.es.flatten[j]? = some x→b9.es.flatten[j]? = some cO→hI s aM b0 q x cO
structure qv (s:S) (aM:gJ) (b0:gd→Bool) (q:aA→Prop) (hp:Nat→Option (List ab)):Prop where
 inj : ∀j i hS e8 p,aM j i=some p→aM hS e8=some p→j=hS∧i=e8
 at_ : ∀j i b9,di (hp j) i=some b9→ ∃r k R,aM j i=some (r,k)∧s.af r k=some R∧oQ s aM b0 q R b9
 a1 : ∀j i r k,aM j i=some (r,k)→s.a1 r k→i<((hp j).getD []).length
def jx (ax:fs)(aM:gJ):fs:=fun j i=>match aM j i with
 | some (r,k)=>ax r k
 | none=>none
theorem yT {ax:fs}{aM:gJ}{j i r k:Nat}(h:aM j i=some (r,k)):jx ax aM j i=ax r k:=by simp [jx,h]
def l1 (_:aA):Prop:=True
theorem abk:Down l1:=⟨fun _ _ _ _=>trivial,fun _ _ _ _=>trivial,fun _ _ _ _ _=>trivial⟩
section
variable {g:G} {s:S} {ax:fs} {w:World} {aM:gJ} {b0:gd→Bool} {q:aA→Prop} {bR:S}
theorem qv.af (h:qv s aM b0 q bR.aU){j i:Nat}{b9:ab}(an:bR.af j i=some b9): ∃r k R,aM j i=some (r,k)∧s.af r k=some R∧oQ s aM b0 q R b9:=h.at_ j i b9 an
theorem QG {R b9:ab}(h:oQ s aM b0 q R b9)(aL:b9.cu = .live):R.cu = .live:=by
 rcases h.cu with e|⟨e,-⟩|e
 ·exact e.symm.trans aL
 ·rw [e] at aL;simp at aL
 ·rw [e] at aL;simp at aL
theorem qv.live (h:qv s aM b0 q bR.aU)(b:Nat)(aL:bR.lR (jx ax aM) b): ∃r k R m,s.af r k=some R∧R.cu = .live∧ax r k=some (b,m)∧ ∃j i,aM j i=some (r,k):=by
 obtain ⟨j,i,b9,m,o,J,ak⟩:=aL
 obtain ⟨r,k,R,az,aH,b2⟩:=h.af o
 rw [yT az] at ak
 exact ⟨r,k,R,m,aH,QG b2 J,ak,j,i,az⟩
theorem qv.Fz (h:qv s aM b0 q bR.aU){j i r k:Nat}(aC:aM j i=some (r,k)):bR.bc (jx ax aM) j i=s.bc ax r k∨bR.bc (jx ax aM) j i=none:=by
 cases an:bR.af j i with
 | none=>right;simp [S.bc,an]
 | some b9 =>
  obtain ⟨eG,dJ,R,az,aH,b2⟩:=h.af an
  rw [aC] at az;simp only [Option.some.injEq,Prod.mk.injEq] at az
  obtain ⟨rfl,rfl⟩:=az
  left
  rw [h4 an,h4 aH,b2.sz,yT aC]
theorem h6.MJ (dr:h6 g s ax w)(h:qv s aM b0 q bR.aU){f6:G}(aX:Bx f6 w)(Bi:∀j k,f6.pw j k→bR.a1 j k∧(bR.bc (jx ax aM) j k=f6.rT j k∨bR.bc (jx ax aM) j k=none))(Lb:∀j k,f6.pw j k→j<f6.m)
 (abT : ∀b,f6.p5 b→b<f6.mK.heap.size) (halt : ∀b,f6.A b→b<f6.mK.heap.size)
 (Lc : ∀r k R b m,(∃j i,aM j i=some (r,k))→s.af r k=some R→ax r k=some (b,m)→f6.mK.heap.size≤b∨f6.p5 b)
 (H1 : ∀b,s.ok g ax w b→bR.ok f6 (jx ax aM) w b)
 (F7 : ∀r k R b m,s.af r k=some R→b0 R.cu=true→(∀j i,aM j i≠some (r,k))→ax r k=some (b,m)→bR.ok f6 (jx ax aM) w b) :
 h6 f6 bR (jx ax aM) w∧ ∀ {x cO:aA} {v:Value},hI s aM b0 q x cO→Rel w (s.ok g ax w) s.a1 (s.bc ax) x v→Rel w (bR.ok f6 (jx ax aM) w) bR.a1 (bR.bc (jx ax aM)) cO v:=by
 have fl : ∀ {x cO:aA} {v:Value},hI s aM b0 q x cO→Rel w (s.ok g ax w) s.a1 (s.bc ax) x v→Rel w (bR.ok f6 (jx ax aM) w) bR.a1 (bR.bc (jx ax aM)) cO v :=
  fun b4 ap=>b4.rel dr (fun x v _ al ap=>ap.pure al H1) F7 (fun j i r k aC hu=>⟨h.a1 j i r k aC hu,h.Fz aC⟩) ap
 refine ⟨⟨?_,?_,?_,aX,abT,halt,Bi,Lb⟩,fl⟩
 ·intro j k b9 dP
  obtain ⟨r,dJ,R,az,aH,b2⟩:=h.af dP
  have bm:=dr.obj r dJ R aH
  rw [yT az]
  cases al:ax r dJ with
  | none =>
   rw [al] at bm
   simp only [iU] at bm ⊢
   apply List.length_eq_zero_iff.1
   rw [b2.len,bm];rfl
  | some q =>
   obtain ⟨b,m⟩:=q
   rw [al] at bm
   obtain ⟨c,eF,o,J,ak,ay⟩:=bm
   have jw:b9.es.flatten.length=R.es.flatten.length:=by rw [sn _ b2.each,sn _ ak,b2.len]
   refine ⟨c,eF,o,J,by rw [b2.sz];exact b2.each,fun i cO dI=> ?_⟩
   have dB:i<R.es.flatten.length:=by rw [← jw];exact f9 dI
   have aa:=List.getElem?_eq_getElem dB
   obtain ⟨u,f1,f2,f3⟩:=ay i _ aa
   exact ⟨u,f1,f2,fl (b2.at_ i _ cO aa dI) f3⟩
 ·intro j k R hS dJ b9 b m a6 o J ak ay
  obtain ⟨r,kc,p,az,aH,-⟩:=h.af o
  obtain ⟨eG,acI,ka,na,pT,-⟩:=h.af J
  rw [yT az] at ak
  rw [yT na] at ay
  obtain ⟨rfl,rfl⟩:=dr.inj r kc p eG acI ka b m a6 aH pT ak ay
  exact h.inj _ _ _ _ _ az na
 ·intro j k R b m o J
  obtain ⟨r,kc,p,az,aH,-⟩:=h.af o
  rw [yT az] at J
  exact Lc r kc p b m ⟨j,k,az⟩ aH J
theorem cQ.QH {a:Act}(h:cQ g s ax a w)(c3:qv s aM (fun _=>true) q bR.aU)(ei:∀t,hI s aM (fun _=>true) q (s.E t) (bR.E t))(BJ:∀j k,g.pw j k→aM j k=some (j,k)):cQ g bR (jx ax aM) a w:=by
 have hh : ∀b,bR.lR (jx ax aM) b→s.lR ax b:=fun b aL=>by
  obtain ⟨r,k,R,m,o,J,ak,-⟩:=c3.live b aL
  exact ⟨r,k,R,m,o,J,ak⟩
 have Bi : ∀j k,g.pw j k→bR.a1 j k∧(bR.bc (jx ax aM) j k=g.rT j k∨bR.bc (jx ax aM) j k=none):=by
  intro j k aC
  obtain ⟨az,aH⟩:=h.stay j k aC
  refine ⟨c3.a1 j k j k (BJ j k aC) az,?_⟩
  rcases c3.Fz (ax:=ax) (BJ j k aC) with e|e
  ·rw [e];exact aH
  ·exact .inr e
 obtain ⟨o,J⟩:=h.toh6.MJ c3 h.g7 Bi h.low h.mlt h.nz (fun r k R b m _ an al=>h.own r k R b m an al)
  (fun b aY=>⟨aY.1,aY.2.1,fun aL=>aY.2.2 (hh b aL)⟩)
  (fun r k R b m an _ ap al=>by
    have bm:=h.obj r k R an
    rw [al] at bm
    obtain ⟨c,eF,az,-⟩:=bm
    refine ⟨(Array.getElem?_eq_some_iff.1 az).1,?_,fun aL=> ?_⟩
    ·rcases h.own r k R b m an al with e|e
     ·exact .inr (.inl e)
     ·exact .inr (.inr e)
    ·obtain ⟨eG,dJ,b9,a6,f1,f2,f3,⟨MK,tS,f4⟩⟩:=c3.live b aL
     obtain ⟨rfl,rfl⟩:=h.inj r k R eG dJ b9 b m a6 an f1 al f3
     exact ap MK tS f4)
 exact {toh6:=o,env:=fun t=>J (ei t) (h.env t),defers:=h.defers,jv:=h.jv}
end
end Go.VL
namespace Go.VL
set_option linter.unusedVariables false
set_option linter.unusedSimpArgs false
open Go
def e6 (T:List (List ab)):S:={E:=fun _=> .dead,aU:=fun r=>T[r]?}
def abl (P:Program)(f:FuncId)(args:List aA)(T:List (List ab))(r:aA)(ja:List (List ab)):Prop :=
 ∀(g:G) (ax:fs) (w:World) (vs:Array Value),g.mK=w→g.m=T.length→g.pw=(e6 T).a1→g.rT=(e6 T).bc ax→h6 g (e6 T) ax w→vs.size=args.length →
  (∀(j:Nat) x v,args[j]? = some x→vs[j]? = some v→Rel w ((e6 T).ok g ax w) (e6 T).a1 ((e6 T).bc ax) x v) →
  Calls P f vs w fun e bJ=> ∃v bM,e = .returned v∧h6 g (e6 ja) bM bJ∧Rel bJ ((e6 ja).ok g bM bJ) (e6 ja).a1 ((e6 ja).bc bM) r v
inductive cz:aA→Prop
 | dead:cz .dead
 | b (x:Bool):cz (.b x)
 | n (k:IntKind) (x:Int):cz (.n k x)
 | s (x:ByteArray):cz (.s x)
 | ij:cz .ij
 | eK:cz .eK
 | iE:cz .iE
 | j6 (sz:Nat):cz (.isl sz [])
 | ref (r k i off:Nat):cz (.ref r k i off)
 | bC (r k bZ len:Nat):cz (.bC r k bZ len)
 | iF (r c sz:Nat) (h:Option (Nat×Nat)):cz (.iF r c sz h)
 | agg {c:List aA} (h : ∀x∈c,cz x):cz (.agg c)
 | df {c:List aA} (h : ∀x∈c,cz x):cz (.df c)
theorem abm:Down cz:=⟨fun _ _ h aa=>by cases h with|agg h=>exact h _ aa,fun _ _ h aa=>by cases h with|df h=>exact h _ aa,fun _ _ _ h=>by cases h⟩
theorem Rel.dq {w bJ:World}{ok kG:Nat→Prop}{a1 m3:iZ}{bc mr:iQ}{x:aA}(b4:cz x): ∀ {v:Value},Pure x→Rel w ok a1 bc x v→Rel bJ kG m3 mr x v:=by
 induction b4 with
 | dead=>intro v _ h;exact .dead v
 | b x=>intro v _ h;rw [h.uq];exact .b x
 | n k x=>intro v _ h;rw [h.oC];exact .n k x
 | s x=>intro v _ h;rw [h.y3];exact .s x
 | ij=>intro v _ h;rw [h.vp];exact .ij
 | eK=>intro v _ h;rw [h.qe];exact .eK
 | iE=>intro v _ h;obtain ⟨a,c,rfl⟩:=h.EB;exact .iE a c
 | j6 sz =>
  intro v _ h
  rcases h.tg with ⟨-,a,c,rfl,bH⟩|⟨dZ,off,c,-,rfl,-⟩
  ·exact .j6 sz a c bH
  ·exact .j6 sz _ c (fun h=>by simp at h)
 | ref=>intro v al;cases al
 | bC=>intro v al;cases al
 | iF=>intro v al;cases al
 | @agg c aJ ih =>
  intro v al h
  obtain ⟨vs,rfl,o,J,ak⟩:=h.yE
  cases al with
  | agg al=>exact .agg vs o J fun j x u aa hu=>ih x (List.mem_of_getElem? aa) (al x (List.mem_of_getElem? aa)) (ak j x u aa hu)
 | @df c aJ ih =>
  intro v al h
  obtain ⟨vs,rfl,o,ak⟩:=h.yF
  cases al with
  | df al=>exact .df vs o fun j x u aa hu=>ih x (List.mem_of_getElem? aa) (al x (List.mem_of_getElem? aa)) (ak j x u aa hu)
section
variable {P:Program} {g:G} {s:S} {ax:fs} {a:Act} {w:World}
theorem A7 (h:h6 g s ax w){r k b m:Nat}{R:ab}(an:s.af r k=some R)(al:ax r k=some (b,m)):b<w.heap.size:=by
 have:=h.obj r k R an
 rw [al] at this
 obtain ⟨c,eF,e,-⟩:=this
 exact (Array.getElem?_eq_some_iff.1 e).1
theorem aaw (h:h6 g s ax w){r k b m:Nat}{R:ab}(an:s.af r k=some R)(aX:R.cu = .hn)(al:ax r k=some (b,m)):s.ok g ax w b:=by
 refine ⟨A7 h an al,?_,?_⟩
 ·rcases h.own r k R b m an al with e|e
  ·exact .inr (.inl e)
  ·exact .inr (.inr e)
 ·rintro ⟨eG,dJ,b9,a6,o,J,ak⟩
  obtain ⟨rfl,rfl⟩:=h.inj r k R eG dJ b9 b m a6 an o al ak
  rw [an] at o;simp at o;subst o;rw [aX] at J;simp at J
theorem enter (h:h6 g s ax w){aM:gJ}{b0:gd→Bool}{q:aA→Prop}{T:List (List ab)}(A:Nat→Prop)
 (hA : ∀b,A b→b<w.heap.size) (LI : ∀b,s.ok g ax w b→A b)
 (LJ : ∀r k R b m,s.af r k=some R→b0 R.cu=true→ax r k=some (b,m)→A b)
 (c3:qv s aM b0 q (e6 T).aU) (qj : ∀r k R,(∃j i,aM j i=some (r,k))→s.af r k=some R→R.cu = .live) :
 ∃f6:G,f6.mK=w∧f6.A=A∧f6.m=T.length∧f6.pw=(e6 T).a1∧f6.rT=(e6 T).bc (jx ax aM) ∧
  (f6.p5=fun b=> ∃r k R m,(∃j i,aM j i=some (r,k))∧s.af r k=some R∧ax r k=some (b,m))∧h6 f6 (e6 T) (jx ax aM) w ∧
  ∀ {x cO:aA} {v:Value},hI s aM b0 q x cO→Rel w (s.ok g ax w) s.a1 (s.bc ax) x v→Rel w ((e6 T).ok f6 (jx ax aM) w) (e6 T).a1 ((e6 T).bc (jx ax aM)) cO v:=by
 let f6:G:={mK:=w,A:=A,p5:=fun b=> ∃r k R m,(∃j i,aM j i=some (r,k))∧s.af r k=some R∧ax r k=some (b,m),N:=0,m:=T.length,pw:=(e6 T).a1,rT:=(e6 T).bc (jx ax aM)}
 refine ⟨f6,rfl,rfl,rfl,rfl,rfl,rfl,?_⟩
 have hh : ∀b,(e6 T).lR (jx ax aM) b→ ∃r k R m,s.af r k=some R∧R.cu = .live∧ax r k=some (b,m)∧ ∃j i,aM j i=some (r,k):=fun b aL=>c3.live b aL
 refine h6.MJ (bR:=e6 T) (f6:=f6) h c3 ⟨rfl,rfl,rfl,Nat.le_refl _,fun _ _ _=>rfl⟩ (fun j k aC=>⟨aC,.inl rfl⟩) ?_ ?_ hA ?_ ?_ ?_
 ·intro j k aC
  have aC:k<((T[j]?).getD []).length:=aC
  rcases Nat.lt_or_ge j T.length with o|o
  ·exact o
  ·rw [List.getElem?_eq_none o] at aC;simp at aC
 ·rintro b ⟨r,k,R,m,-,an,al⟩
  exact A7 h an al
 ·intro r k R b m hm an al
  exact .inr ⟨r,k,R,m,hm,an,al⟩
 ·intro b aY
  refine ⟨aY.1,.inl (LI b aY),fun aL=> ?_⟩
  obtain ⟨r,k,R,m,o,J,ak,-⟩:=hh b aL
  exact aY.2.2 ⟨r,k,R,m,o,J,ak⟩
 ·intro r k R b m an bH ap al
  refine ⟨A7 h an al,.inl (LJ r k R b m an bH al),fun aL=> ?_⟩
  obtain ⟨eG,dJ,b9,a6,o,J,ak,⟨j,i,aC⟩⟩:=hh b aL
  obtain ⟨rfl,rfl⟩:=h.inj r k R eG dJ b9 b m a6 an o al ak
  exact ap j i aC
theorem leave (h:cQ g s ax a w){bJ:World}{aM kz:gJ}{b0:gd→Bool}{q0 q:aA→Prop}{f6:G}{T dj:List (List ab)}{kM:fs}
 (dN:f6.mK=w) (hA:(∀b,f6.A b→s.ok g ax w b)∨(∀x,q x→cz x)) (v8:f6.pw=(e6 T).a1) (ld:f6.rT=(e6 T).bc (jx ax aM))
 (dr:f6.p5=fun b=> ∃r k R m,(∃j i,aM j i=some (r,k))∧s.af r k=some R∧ax r k=some (b,m))
 (qj : ∀r k R,(∃j i,aM j i=some (r,k))→s.af r k=some R→R.cu = .live)
 (c3:qv s aM b0 q0 (e6 T).aU) (o:h6 f6 (e6 dj) kM bJ)
 (Bj : ∀j i r k,aM j i=some (r,k)→kz r k=some (j,i)) (Fg : ∀r k j i,kz r k=some (j,i)→aM j i=some (r,k)∨ ¬s.a1 r k)
 (abU : ∀r k eG dJ p,kz r k=some p→kz eG dJ=some p→r=eG∧k=dJ)
 {s2:S} (ei:s2.E=s.E)
 (bm : ∀r k R,s2.af r k=some R→(∃j i p,kz r k=some (j,i)∧(e6 dj).af j i=some p∧oQ (e6 dj) kz (fun _=>false) q p R)∨(kz r k=none∧s.af r k=some R))
 (i5 : ∀r k,s.a1 r k→s2.a1 r k) (abV : ∀r k j i,kz r k=some (j,i)→(e6 dj).a1 j i→s2.a1 r k)
 {x cO:aA} {v:Value} (aa:hI (e6 dj) kz (fun _=>false) q x cO) (a3:Rel bJ ((e6 dj).ok f6 kM bJ) (e6 dj).a1 ((e6 dj).bc kM) x v) :
 ∃lp,cQ g s2 lp a bJ∧Rel bJ (s2.ok g lp bJ) s2.a1 (s2.bc lp) cO v:=by
 let lp:fs:=fun r k=>match kz r k with|some (j,i)=>kM j i|none=>ax r k
 have ha : ∀r k j i,kz r k=some (j,i)→lp r k=kM j i:=fun r k j i e=>by simp [lp,e]
 have h9 : ∀r k,kz r k=none→lp r k=ax r k:=fun r k e=>by simp [lp,e]
 have aX:=o.g7
 have eZ:w.heap.size≤bJ.heap.size:=by have:=aX.size;rw [dN] at this;exact this
 have tw : ∀b,b<w.heap.size→ ¬f6.p5 b→bJ.heap[b]? = w.heap[b]? := fun b aY kH=>by
  have:=aX.block b (by rw [dN];exact aY) kH
  rw [dN] at this;exact this
 have FA : ∀j k p b m,(e6 dj).af j k=some p→kM j k=some (b,m)→w.heap.size≤b∨ ∃r dJ R a6,(∃j i,aM j i=some (r,dJ))∧s.af r dJ=some R∧ax r dJ=some (b,a6):=by
  intro j k p b m al aY
  rcases o.own j k p b m al aY with e|e
  ·rw [dN] at e;exact .inl e
  ·rw [dr] at e;exact .inr e
 have hold : ∀q k R b m,kz q k=none→s.af q k=some R→ax q k=some (b,m)→b<w.heap.size∧ ¬f6.p5 b:=by
  intro q k R b m bi an al
  refine ⟨A7 h.toh6 an al,fun kH=> ?_⟩
  rw [dr] at kH
  obtain ⟨r,dJ,b9,a6,⟨j,i,ap⟩,dP,l0⟩:=kH
  obtain ⟨rfl,rfl⟩:=h.inj q k R r dJ b9 b m a6 an dP al l0
  rw [Bj _ _ _ _ ap] at bi;simp at bi
 have Rf : ∀b,s2.lR lp b→(e6 dj).lR kM b∨(∃q k R m,kz q k=none∧s.af q k=some R∧R.cu = .live∧ax q k=some (b,m)):=by
  rintro b ⟨q,k,R,m,an,n3,al⟩
  rcases bm q k R an with ⟨j,i,p,az,aH,b2⟩|⟨az,aH⟩
  ·rw [ha _ _ _ _ az] at al
   exact .inl ⟨j,i,p,m,aH,QG b2 n3,al⟩
  ·rw [h9 _ _ az] at al
   exact .inr ⟨q,k,R,m,az,aH,n3,al⟩
 have m4 : ∀b,s.ok g ax w b→s2.ok g lp bJ b:=by
  intro b aY
  refine ⟨Nat.lt_of_lt_of_le aY.1 eZ,aY.2.1,fun aL=> ?_⟩
  rcases Rf b aL with ⟨j,k,p,m,az,aH,b2⟩|⟨q,k,R,m,az,aH,b2,dn⟩
  ·rcases FA j k p b m az b2 with e|⟨r,dJ,R,a6,ap,an,al⟩
   ·have:=aY.1;omega
   ·exact aY.2.2 ⟨r,dJ,R,a6,an,qj r dJ R ap an,al⟩
  ·exact aY.2.2 ⟨q,k,R,m,aH,b2,dn⟩
 have Sa : ∀r k,s.a1 r k→s2.bc lp r k=s.bc ax r k∨s2.bc lp r k=none:=by
  intro r k ap
  cases an:s2.af r k with
  | none=>right;simp [S.bc,an]
  | some R =>
   left
   rcases bm r k R an with ⟨j,i,p,az,aH,b2⟩|⟨az,aH⟩
   ·rcases Fg r k j i az with aC|aC
    ·have ms:=(o.stay j i (by rw [v8];exact c3.a1 _ _ _ _ aC ap)).2
     rw [ld,h4 aH] at ms
     have ms:some (p.sz,kM j i)=(e6 T).bc (jx ax aM) j i:=by
      rcases ms with e|e
      ·exact e
      ·simp at e
     have:=c3.Fz (bR:=e6 T) (ax:=ax) aC
     rw [← ms] at this
     rw [h4 an,b2.sz,ha _ _ _ _ az]
     rcases this with e|e
     ·exact e
     ·simp at e
    ·exact absurd ap aC
   ·rw [h4 an,h4 aH,h9 _ _ az]
 have abn : ∀b,s.ok g ax w b→bJ.heap[b]? = w.heap[b]? := by
  intro b aY
  refine tw b aY.1 fun kH=> ?_
  rw [dr] at kH
  obtain ⟨r,dJ,R,a6,ap,an,al⟩:=kH
  exact aY.2.2 ⟨r,dJ,R,a6,an,qj r dJ R ap an,al⟩
 have fl : ∀ {y:aA} {u:Value},Rel w (s.ok g ax w) s.a1 (s.bc ax) y u→Rel bJ (s2.ok g lp bJ) s2.a1 (s2.bc lp) y u :=
  fun ap=>ap.mono m4 abn i5 Sa
 have abW:(∀b,f6.A b→s.ok g ax w b)→ ∀b,(e6 dj).ok f6 kM bJ b→s2.ok g lp bJ b:=by
  intro hA b aY
  have Lc:g.A b∨g.mK.heap.size≤b∨g.p5 b:=by
   rcases aY.2.1 with e|e|e
   ·exact (hA b e).2.1
   ·rw [dN] at e;exact .inr (.inl (Nat.le_trans h.g7.size e))
   ·rw [dr] at e
    obtain ⟨r,k,R,m,-,an,al⟩:=e
    rcases h.own r k R b m an al with e|e
    ·exact .inr (.inl e)
    ·exact .inr (.inr e)
  refine ⟨aY.1,Lc,fun aL=> ?_⟩
  rcases Rf b aL with e|⟨q,k,R,m,az,aH,b2,dn⟩
  ·exact aY.2.2 e
  ·have bi:=hold q k R b m az aH dn
   rcases aY.2.1 with e|e|e
   ·exact (hA b e).2.2 ⟨q,k,R,m,aH,b2,dn⟩
   ·rw [dN] at e;omega
   ·exact bi.2 e
 have RJ : ∀ {y ln:aA} {u:Value},hI (e6 dj) kz (fun _=>false) q y ln→Rel bJ ((e6 dj).ok f6 kM bJ) (e6 dj).a1 ((e6 dj).bc kM) y u→Rel bJ (s2.ok g lp bJ) s2.a1 (s2.bc lp) ln u:=by
  intro y ln u b4 ap
  refine b4.rel o (fun x v bi al ap=> ?_) (fun _ _ _ _ _ _ bH _ _=>by simp at bH) ?_ ap
  ·rcases hA with hA|hA
   ·exact ap.pure al (abW hA)
   ·exact ap.dq (hA x bi) al
  ·intro r k j i bi aC
   refine ⟨abV r k j i bi aC,?_⟩
   cases an:s2.af r k with
   | none=>right;simp [S.bc,an]
   | some R =>
    left
    rcases bm r k R an with ⟨hS,e8,p,az,aH,b2⟩|⟨az,-⟩
    ·rw [bi] at az;simp only [Option.some.injEq,Prod.mk.injEq] at az
     obtain ⟨rfl,rfl⟩:=az
     rw [h4 an,h4 aH,b2.sz,ha _ _ _ _ bi]
    ·rw [bi] at az;simp at az
 refine ⟨lp,{toh6:=⟨?_,?_,?_,?_,h.mlt,h.nz,?_,h.low⟩,env:=fun t=>by rw [ei];exact fl (h.env t),defers:=h.defers,jv:=h.jv},RJ aa a3⟩
 ·intro q k R an
  rcases bm q k R an with ⟨j,i,p,az,aH,b2⟩|⟨az,aH⟩
  ·have al:=o.obj j i p aH
   rw [ha _ _ _ _ az]
   cases kn:kM j i with
   | none =>
    rw [kn] at al
    simp only [iU] at al ⊢
    apply List.length_eq_zero_iff.1
    rw [b2.len,al];rfl
   | some tT =>
    obtain ⟨b,m⟩:=tT
    rw [kn] at al
    obtain ⟨c,eF,f1,f2,f3,f4⟩:=al
    have jw:R.es.flatten.length=p.es.flatten.length:=by rw [sn _ b2.each,sn _ f3,b2.len]
    refine ⟨c,eF,f1,f2,by rw [b2.sz];exact b2.each,fun i cO dI=> ?_⟩
    have dB:i<p.es.flatten.length:=by rw [← jw];exact f9 dI
    have iL:=List.getElem?_eq_getElem dB
    obtain ⟨u,js,l9,gK⟩:=f4 i _ iL
    exact ⟨u,js,l9,RJ (b2.at_ i _ cO iL dI) gK⟩
  ·have al:=h.obj q k R aH
   rw [h9 _ _ az]
   cases kn:ax q k with
   | none=>rw [kn] at al;exact al
   | some tT =>
    obtain ⟨b,m⟩:=tT
    rw [kn] at al
    obtain ⟨c,eF,f1,f2,f3,f4⟩:=al
    obtain ⟨rY,zo⟩:=hold q k R b m az aH kn
    refine ⟨c,eF,(tw b rY zo).trans f1,f2,f3,fun i cO dI=> ?_⟩
    obtain ⟨u,js,l9,gK⟩:=f4 i cO dI
    exact ⟨u,js,l9,fl gK⟩
 ·intro q k R hG dJ b9 b m a6 J ak ay aI
  rcases bm q k R J with ⟨j,i,p,az,aH,b2⟩|⟨az,aH⟩<;>rcases bm hG dJ b9 ak with ⟨hS,e8,ka,na,pT,B3⟩|⟨na,pT⟩
  ·rw [ha _ _ _ _ az] at ay;rw [ha _ _ _ _ na] at aI
   obtain ⟨rfl,rfl⟩:=o.inj j i p hS e8 ka b m a6 aH pT ay aI
   exact abU _ _ _ _ _ az na
  ·rw [ha _ _ _ _ az] at ay;rw [h9 _ _ na] at aI
   obtain ⟨f1,f2⟩:=hold hG dJ b9 b a6 na pT aI
   rcases FA j i p b m aH ay with e|e
   ·omega
   ·exact absurd (by rw [dr];exact e) f2
  ·rw [h9 _ _ az] at ay;rw [ha _ _ _ _ na] at aI
   obtain ⟨f1,f2⟩:=hold q k R b m az aH ay
   rcases FA hS e8 ka b a6 pT aI with e|e
   ·omega
   ·exact absurd (by rw [dr];exact e) f2
  ·rw [h9 _ _ az] at ay;rw [h9 _ _ na] at aI
   exact h.inj q k R hG dJ b9 b m a6 aH pT ay aI
 ·intro q k R b m J ay
  rcases bm q k R J with ⟨j,i,p,az,aH,b2⟩|⟨az,aH⟩
  ·rw [ha _ _ _ _ az] at ay
   rcases FA j i p b m aH ay with e|⟨r,dJ,b9,a6,ap,an,al⟩
   ·exact .inl (Nat.le_trans h.g7.size e)
   ·exact h.own r dJ b9 b a6 an al
  ·rw [h9 _ _ az] at ay;exact h.own q k R b m aH ay
 ·have az:=aX.os;have aH:=aX.tape;have b2:=aX.output
  rw [dN] at az aH b2
  refine h.g7.step az aH b2 eZ fun b aY n4=>tw b (Nat.lt_of_lt_of_le aY h.g7.size) fun kH=> ?_
  rw [dr] at kH
  obtain ⟨r,k,R,m,-,an,al⟩:=kH
  rcases h.own r k R b m an al with e|e
  ·omega
  ·exact n4 e
 ·intro j k aC
  obtain ⟨az,aH⟩:=h.stay j k aC
  refine ⟨i5 j k az,?_⟩
  rcases Sa j k az with e|e
  ·rw [e];exact aH
  ·exact .inr e
def kx (a b n:Nat):aA→aA
 | .ref r k i off=>if r=a then .ref b (n+k) i off else .ref r k i off
 | .bC r k bZ len=>if r=a then .bC b (n+k) bZ len else .bC r k bZ len
 | .iF r c sz h=>if r=a then .iF b (n+c) sz h else .iF r c sz h
 | .agg c=> .agg (zp c)
 | .df c=> .df (zp c)
 | x=>x
where zp:List aA→List aA
 | []=>[]
 | x::l=>kx a b n x::zp l
def mv (a b n:Nat)(R:ab):ab:={R with es:=R.es.map fun e=>e.map (kx a b n)}
def rI (R:ab):ab:=⟨0,[],.gone⟩
theorem ER (a b n:Nat): ∀l:List aA,kx.zp a b n l=l.map (kx a b n)
 | []=>rfl
 | x::l=>by rw [kx.zp,ER a b n l];rfl
theorem kh (l:List ab)(k:Nat):di (some l) k=(l[k]?).bind fun R=>if R.cu = .gone then none else some R:=by
 unfold di
 cases h:l[k]? <;> simp [h]
theorem map_flatten {es:List (List aA)}(f:aA→aA):(es.map fun e=>e.map f).flatten=es.flatten.map f:=by
 induction es with
 | nil=>rfl
 | cons e es ih=>rw [List.map_cons,List.flatten_cons,List.flatten_cons,List.map_append,ih]
theorem cQ.merge (h:cQ g s ax a w){r eG:Nat}{l gr:List ab}(ap:s.aU r=some l)(g9:s.aU eG=some gr)(cM:eG≠r):
 ∃bM,cQ g ((s.setRow eG (gr.map rI)).setRow r (l++gr.map (mv eG r l.length))) bM a w ∧
  ∀x v,Rel w (s.ok g ax w) s.a1 (s.bc ax) x v→Rel w (((s.setRow eG (gr.map rI)).setRow r (l++gr.map (mv eG r l.length))).ok g bM w)
   ((s.setRow eG (gr.map rI)).setRow r (l++gr.map (mv eG r l.length))).a1 (((s.setRow eG (gr.map rI)).setRow r (l++gr.map (mv eG r l.length))).bc bM) (kx eG r l.length x) v:=by
 generalize v9:(s.setRow eG (gr.map rI)).setRow r (l++gr.map (mv eG r l.length))=s2
 let bM:fs:=fun q k=>if q=r∧l.length≤k then ax eG (k-l.length) else ax q k
 have bm : ∀q k R,s2.af q k=some R→(q=r∧l.length≤k∧ ∃p,s.af eG (k-l.length)=some p∧R=mv eG r l.length p∧bM q k=ax eG (k-l.length)) ∨
  (q≠eG∧s.af q k=some R∧bM q k=ax q k∧ ¬(q=r∧l.length≤k)):=by
  intro q k R an
  subst v9
  rw [lx] at an
  by_cases e:q=r
  ·subst e
   rw [if_pos rfl] at an
   by_cases aX:l.length≤k
   ·left
    refine ⟨rfl,aX,?_⟩
    rw [kh,List.getElem?_append_right aX,List.getElem?_map] at an
    cases al:gr[k-l.length]? with
    | none=>rw [al] at an;simp at an
    | some p =>
     rw [al] at an
     simp only [Option.map_some,Option.bind_some] at an
     split at an
     ·simp at an
     ·rename_i dN
      simp only [Option.some.injEq] at an
      refine ⟨p,?_,an.symm,by simp [bM,aX]⟩
      unfold S.af
      rw [g9,kh,al,Option.bind_some,if_neg (by simpa [mv] using dN)]
   ·right
    refine ⟨Ne.symm cM,?_,by simp [bM,aX],fun fx=>aX fx.2⟩
    unfold S.af
    rw [ap,kh]
    rw [kh,List.getElem?_append_left (by omega)] at an
    exact an
  ·rw [if_neg e,lx] at an
   by_cases aH:q=eG
   ·subst aH
    rw [if_pos rfl,kh,List.getElem?_map] at an
    cases al:gr[k]? with
    | none=>rw [al] at an;simp at an
    | some p=>rw [al] at an;simp [rI] at an
   ·rw [if_neg aH] at an
    exact .inr ⟨aH,an,by simp [bM,e],fun fx=>e fx.1⟩
 have i5 : ∀q k,s.a1 q k→s2.a1 q k:=by
  intro q k bi
  subst v9
  rw [ns]
  by_cases e:q=r
  ·subst e;rw [if_pos rfl];simp [S.a1,ap] at bi;simp;omega
  ·rw [if_neg e,ns]
   by_cases aH:q=eG
   ·subst aH;rw [if_pos rfl];simpa [S.a1,g9] using bi
   ·rw [if_neg aH];exact bi
 have BK : ∀k,s.a1 eG k→s2.a1 r (l.length+k):=by
  intro k bi
  subst v9
  rw [ns,if_pos rfl]
  simp [S.a1,g9] at bi
  simp;omega
 have BL : ∀k,s2.bc bM r (l.length+k)=s.bc ax eG k:=by
  intro k
  subst v9
  simp only [S.bc]
  rw [lx,if_pos rfl]
  unfold S.af
  rw [g9,kh,kh,List.getElem?_append_right (by omega),List.getElem?_map,show l.length+k-l.length=k by omega]
  cases al:gr[k]? with
  | none=>simp
  | some p =>
   simp only [Option.map_some,Option.bind_some]
   by_cases dN:p.cu = .gone
   ·rw [if_pos dN,if_pos (by simpa [mv] using dN)];rfl
   ·rw [if_neg dN,if_neg (by simpa [mv] using dN)]
    simp [bM,mv]
 have ld : ∀q k,s.a1 q k→s2.bc bM q k=s.bc ax q k∨s2.bc bM q k=none:=by
  intro q k bi
  cases an:s2.af q k with
  | none=>right;simp [S.bc,an]
  | some R =>
   left
   rcases bm q k R an with ⟨rfl,aH,-⟩|⟨-,aH,b2,-⟩
   ·simp [S.a1,ap] at bi;omega
   ·rw [h4 an,h4 aH,b2]
 have qj : ∀b,s2.lR bM b→s.lR ax b:=by
  rintro b ⟨q,k,R,m,o,J,ak⟩
  rcases bm q k R o with ⟨-,-,p,az,aH,b2⟩|⟨-,az,aH,-⟩
  ·rw [b2] at ak;subst aH;exact ⟨eG,_,p,m,az,J,ak⟩
  ·rw [aH] at ak;exact ⟨q,k,R,m,az,J,ak⟩
 have c8:Step g s ax w s2 bM w:=⟨i5,ld,fun b aL=> .inl (qj b aL),fun _ _ _=>rfl,Nat.le_refl _⟩
 have B6 : ∀x v,Rel w (s.ok g ax w) s.a1 (s.bc ax) x v→Rel w (s2.ok g bM w) s2.a1 (s2.bc bM) (kx eG r l.length x) v:=by
  intro x v lg
  induction lg with
  | dead v=>exact .dead v
  | b x=>exact .b x
  | n k x=>exact .n k x
  | s x=>exact .s x
  | ij=>exact .ij
  | eK=>exact .eK
  | iE a c=>exact .iE a c
  | @qh aq k i off a hu fx =>
   unfold kx
   split
   ·rename_i e;subst e
    exact .qh a (BK k hu) (by rw [BL];exact fx)
   ·exact c8.rel (.qh a hu fx)
  | @ref aq k i off sz dZ m hu fx =>
   unfold kx
   split
   ·rename_i e;subst e
    exact .ref (BK k hu) (by rw [BL];exact fx)
   ·exact c8.rel (.ref hu fx)
  | @nu aq k bZ len a bN c2 hu fx =>
   unfold kx
   split
   ·rename_i e;subst e
    exact .nu a bN c2 (BK k hu) (by rw [BL];exact fx)
   ·exact c8.rel (.nu a bN c2 hu fx)
  | @nP aq k sz hu fx =>
   unfold kx
   split
   ·rename_i e;subst e
    exact .nP (BK k hu) (by rw [BL];exact fx)
   ·exact c8.rel (.nP hu fx)
  | @bC aq k bZ len sz dZ m c a hu fx aL aJ m7 =>
   unfold kx
   split
   ·rename_i e;subst e
    exact .bC (BK k hu) (by rw [BL];exact fx) aL aJ m7
   ·exact c8.rel (.bC hu fx aL aJ m7)
  | @mY aq c sz v h0 ih =>
   unfold kx
   split
   ·exact .mY (c8.rel h0)
   ·exact c8.rel (.mY h0)
  | @nW aq c sz k n v h0 ih =>
   unfold kx
   split
   ·rename_i e;subst e
    unfold kx at ih
    rw [if_pos rfl] at ih
    exact .nW (by rw [show k+(l.length+c)=l.length+(k+c) by omega];exact ih)
   ·exact c8.rel (.nW h0)
  | j6 sz a c h=>exact .j6 sz a c h
  | isl cs aY al aL aJ hw hC lg ih=>exact c8.rel (.isl cs aY al aL aJ hw hC lg)
  | eE cs aY al aL hw hC lg ih=>exact c8.rel (.eE cs aY al aL hw hC lg)
  | pN sz=>exact .pN sz
  | pp h0 ih=>exact c8.rel (.pp h0)
  | agg vs aL hC lg ih =>
   unfold kx
   rw [ER]
   refine .agg vs (by simpa using aL) hC fun j x v aa a3=> ?_
   rw [List.getElem?_map,Option.map_eq_some_iff] at aa
   obtain ⟨y,aP,rfl⟩:=aa
   exact ih j y v aP a3
  | df vs aL lg ih =>
   unfold kx
   rw [ER]
   refine .df vs (by simpa using aL) fun j x v aa a3=> ?_
   rw [List.getElem?_map,Option.map_eq_some_iff] at aa
   obtain ⟨y,aP,rfl⟩:=aa
   exact ih j y v aP a3
  | fn vs aL lg ih=>exact c8.rel (.fn vs aL lg)
 refine ⟨bM,{toh6:=⟨?_,?_,?_,h.g7,h.mlt,h.nz,?_,h.low⟩,env:=fun t=>by rw [show s2.E=s.E by rw [← v9];rfl];exact c8.rel (h.env t),defers:=h.defers,jv:=h.jv},B6⟩
 ·intro q k R an
  rcases bm q k R an with ⟨-,-,p,az,aH,b2⟩|⟨-,az,aH,-⟩
  ·rw [b2]
   subst aH
   have al:=h.obj eG _ p az
   cases kn:ax eG (k-l.length) with
   | none=>rw [kn] at al;simp only [iU] at al ⊢;simp [mv,al]
   | some tT =>
    obtain ⟨b,m⟩:=tT
    rw [kn] at al
    obtain ⟨c,eF,f1,f2,f3,f4⟩:=al
    refine ⟨c,eF,f1,f2,?_,fun j x aa=> ?_⟩
    ·intro e he
     simp only [mv,List.mem_map] at he
     obtain ⟨eH,lY,rfl⟩:=he
     simpa [mv] using f3 eH lY
    ·simp only [mv] at aa
     rw [map_flatten,List.getElem?_map,Option.map_eq_some_iff] at aa
     obtain ⟨y,aP,rfl⟩:=aa
     obtain ⟨u,js,l9,gK⟩:=f4 j y aP
     exact ⟨u,js,l9,B6 y u gK⟩
  ·rw [aH]
   exact c8.obj (fun b m _=>rfl) (h.obj q k R az)
 ·intro q k R aR kc cb b m a6 o J ak ay
  rcases bm q k R o with ⟨rfl,f1,p,az,aH,b2⟩|⟨f1,az,aH,f2⟩<;>rcases bm aR kc cb J with ⟨rfl,zq,ka,na,pT,B3⟩|⟨zq,na,pT,af3⟩
  ·rw [b2] at ak;rw [B3] at ay
   obtain ⟨-,e⟩:=h.inj _ _ _ _ _ _ b m a6 az na ak ay
   exact ⟨rfl,by omega⟩
  ·rw [b2] at ak;rw [pT] at ay
   obtain ⟨e,-⟩:=h.inj _ _ _ _ _ _ b m a6 az na ak ay
   exact absurd e.symm zq
  ·rw [aH] at ak;rw [B3] at ay
   obtain ⟨e,-⟩:=h.inj _ _ _ _ _ _ b m a6 az na ak ay
   exact absurd e f1
  ·rw [aH] at ak;rw [pT] at ay
   exact h.inj _ _ _ _ _ _ b m a6 az na ak ay
 ·intro q k R b m o J
  rcases bm q k R o with ⟨-,-,p,az,aH,b2⟩|⟨-,az,aH,-⟩
  ·rw [b2] at J;exact h.own eG _ p b m az J
  ·rw [aH] at J;exact h.own q k R b m az J
 ·exact c8.stay h.stay
end
end Go.VL
namespace Go.VL
set_option linter.unusedVariables false
set_option linter.unusedSimpArgs false
open Go
def aA.ig:aA→Bool
 | .dead | .b _ | .n .. | .s _ | .ij | .eK | .iE | .isl .. | .eE .. | .ef .. => true
 | _=>false
def aA.A8:aA→Bool
 | .agg c=>c.all aA.ig
 | .fn _ c=>c.all aA.ig
 | x=>x.ig
def aA.RK:aA→Bool
 | .df c=>c.all aA.A8
 | x=>x.A8
section
variable {w:World} {ok:Nat→Prop} {a1:iZ} {bc:iQ}
theorem Rel.y4 {x:aA}{v:Value}(h:Rel w ok a1 bc x v)(a0:x.ig=true):Pure x:=by
 cases h with
 | dead=>exact .dead
 | b=>exact .b _
 | n=>exact .n _ _
 | s=>exact .s _
 | ij=>exact .ij
 | eK=>exact .eK
 | iE=>exact .iE
 | j6=>exact .isl (by simp)
 | isl cs aY al=>exact .isl al
 | eE cs aY al=>exact .eE al
 | pN sz=>exact .pN sz
 | pp h=>cases h with|eE cs aY al=>exact .pp fun x aa=>al _ (List.mem_singleton.2 rfl) x aa
 | _=>simp [aA.ig] at a0
theorem O3 {c:List aA}{vs:List Value}(aL:vs.length=c.length)(ap:∀(j:Nat) x u,c[j]? = some x→vs[j]? = some u→Rel w ok a1 bc x u)
 (a0:c.all aA.ig=true) : ∀x∈c,Pure x:=by
 intro x aa
 obtain ⟨j,aC⟩:=List.getElem?_of_mem aa
 have dB:j<vs.length:=by have:=f9 aC;omega
 exact (ap j x _ aC (List.getElem?_eq_getElem dB)).y4 (List.all_eq_true.1 a0 x aa)
theorem Rel.E3 {x:aA}{v:Value}(h:Rel w ok a1 bc x v)(a0:x.A8=true):Pure x:=by
 cases h with
 | agg vs aL aJ ap=>exact .agg (O3 aL ap a0)
 | fn vs aL ap=>exact .fn (O3 aL ap a0)
 | dead=>exact .dead
 | b=>exact .b _
 | n=>exact .n _ _
 | s=>exact .s _
 | ij=>exact .ij
 | eK=>exact .eK
 | iE=>exact .iE
 | j6=>exact .isl (by simp)
 | isl cs aY al=>exact .isl al
 | eE cs aY al=>exact .eE al
 | pN sz=>exact .pN sz
 | pp h=>cases h with|eE cs aY al=>exact .pp fun x aa=>al _ (List.mem_singleton.2 rfl) x aa
 | _=>simp [aA.A8,aA.ig] at a0
theorem Rel.abo {x:aA}{v:Value}(h:Rel w ok a1 bc x v)(a0:x.RK=true):Pure x:=by
 by_cases cq : ∃c,x = .df c
 ·obtain ⟨c,rfl⟩:=cq
  obtain ⟨vs,rfl,aL,ap⟩:=h.yF
  refine .df fun x aa=> ?_
  obtain ⟨j,aC⟩:=List.getElem?_of_mem aa
  have dB:j<vs.length:=by have:=f9 aC;omega
  exact (ap j x _ aC (List.getElem?_eq_getElem dB)).E3 (List.all_eq_true.1 a0 x aa)
 ·refine h.E3 ?_
  cases x<;>first|exact a0|exact absurd ⟨_,rfl⟩ cq
end
def dd:List Nat→Nat→Option Nat
 | [],_=>none
 | x::l,r=>if x=r then some 0 else (dd l r).map (· + 1)
theorem O4 : ∀ {l:List Nat} {r j:Nat},dd l r=some j→l[j]? = some r
 | x::l,r,j,h=>by
  unfold dd at h
  split at h
  ·simp at h;subst h;simp [*]
  ·rw [Option.map_eq_some_iff] at h
   obtain ⟨i,ai,rfl⟩:=h
   simpa using O4 ai
theorem O5 : ∀ {l:List Nat} {r j:Nat},l.Nodup→l[j]? = some r→dd l r=some j
 | x::l,r,j,a0,h=>by
  rw [List.nodup_cons] at a0
  unfold dd
  cases j with
  | zero=>simp at h;simp [h]
  | succ j =>
   simp at h
   have:x≠r:=by rintro rfl;exact a0.1 (List.mem_of_getElem? h)
   rw [if_neg this,O5 a0.2 h];rfl
def B7 (et:Nat)(jM:List ab)(b0:gd→Bool)(x cO:aA):Prop :=
 (cO=x∧x.ig=true)∨(∃c sz,x = .iF et c sz none∧cO = .isl sz [])∨ ∃k bZ len R,(x = .bC et k bZ len∨ ∃c sz hU,k=hU+c∧bZ=0∧x = .iF et c sz (some (hU,len)))∧di (some jM) k=some R∧b0 R.cu=true∧bZ+len≤R.es.length ∧
   hl ((R.es.drop bZ).take len)∧cO = .isl R.sz ((R.es.drop bZ).take len)
def CH (et:Nat)(jM:List ab)(b0:gd→Bool)(sz:Nat)(es gq:List (List aA)):Prop :=
 gq.length=es.length∧(∀e∈gq,e.length=sz)∧ ∀(j:Nat) x cO,es.flatten[j]? = some x→gq.flatten[j]? = some cO→B7 et jM b0 x cO
def lB (aU:Nat→Option (List ab))(b6:Nat→Option Nat)(aM:gJ)(b0:gd→Bool):tP→aA→Option (aA×List Prop)
 | .id,x=>if x.ig then some (x,[]) else
  match x with
  | .ref r k i off=>match b6 r with
   | some j=>some (.ref j k i off,[])
   | none=>none
  | .bC r k bZ len=>match b6 r with
   | some j=>some (.bC j k bZ len,[])
   | none=>none
  | .iF r c sz h=>match b6 r with
   | some j=>some (.iF j c sz h,[])
   | none=>none
  | _=>none
 | .fM sz,.eK=>some (.isl sz [],[])
 | .fM sz,.iE=>some (.isl sz [],[])
 | .gn gq,.bC r k bZ len=>match di (aU r) k with
  | some R=>if b0 R.cu && (b6 r).isNone then some (.isl R.sz gq,[gq=(R.es.drop bZ).take len,bZ+len≤R.es.length,hl gq]) else none
  | none=>none
 | .i9,_=>some (.dead,[])
 | .d3 y,x=>if x.ig then some (y,[x=y]) else none
 | .len n,.bC r k bZ len=>match b6 r with
  | some j=>some (.bC j k bZ n,[len=n])
  | none=>none
 | .ll sz,x=>match x with
  | .ij=>some (.ef sz none,[])
  | .eE Fw [c] 0 0=>if Fw=sz then some (.ef sz (some c),[]) else none
  | _=>none
 | .at_ j i n,.bC r k bZ len=>some (.bC j i bZ n,[aM j i=some (r,k),len=n])
 | .at_ j i _,.ref r k x y=>some (.ref j i x y,[aM j i=some (r,k)])
 | .view et R gq,.bC r k bZ len=>match aU r,aU et with
  | some row,some jM=>if (b6 r).isNone && (b6 et).isNone then
   some (.isl R.sz gq,[di (some row) k=some R,b0 R.cu=true,bZ+len≤R.es.length,hl gq,CH et jM b0 R.sz ((R.es.drop bZ).take len) gq]) else none
  | _,_=>none
 | _,_=>none
def lC {α β:Type}(f:α→β→Option (β×List Prop)):List α→List β→Option (List β×List Prop)
 | [],[]=>some ([],[])
 | a::l,b::m=>match f a b,lC f l m with
  | some (jO,cb),some (a6,a4)=>some (jO::a6,cb++a4)
  | _,_=>none
 | _,_=>none
def oD (aU:Nat→Option (List ab))(b6:Nat→Option Nat)(aM:gJ)(b0:gd→Bool):zN→aA→Option (aA×List Prop)
 | .cj c,x=>if x.A8 then (match c with | .id=>some (x,[]) | .i9=>some (.dead,[]) | .d3 y=>some (y,[x=y])|c=>lB aU b6 aM b0 c x) else lB aU b6 aM b0 c x
 | .agg l,.agg c=>match lC (lB aU b6 aM b0) l c with
  | some (dY,af)=>some (.agg dY,af)
  | none=>none
 | .ptr l,.ref r k i off=>match di (aU r) k with
  | some R=>match R.es with
   | [c]=>if b0 R.cu && (b6 r).isNone then
    match lC (lB aU b6 aM b0) l c with
    | some (dY,af)=>some (.eE R.sz [dY] i off,af++[hl [dY]])
    | none=>none
    else none
   | _=>none
  | none=>none
 | .tx l,x=>match x with
  | .ref r k 0 0=>match di (aU r) k with
   | some R=>match R.es with
    | [c]=>if b0 R.cu && (b6 r).isNone then
     match lC (lB aU b6 aM b0) l c with
     | some (dY,af)=>some (.ef R.sz (some dY),af++[hl [dY]])
     | none=>none
     else none
    | _=>none
   | none=>none
  | _=>none
 | _,_=>none
def nR (aU:Nat→Option (List ab))(b6:Nat→Option Nat)(aM:gJ)(b0:gd→Bool):lm→aA→Option (aA×List Prop)
 | .bN c,x=>if x.RK then (match c with | .cj .id=>some (x,[])|c=>oD aU b6 aM b0 c x) else oD aU b6 aM b0 c x
 | .comp l,.df c=>match lC (oD aU b6 aM b0) l c with
  | some (dY,af)=>some (.df dY,af)
  | none=>none
 | .comp l,.fn f c=>match lC (oD aU b6 aM b0) l c with
  | some (dY,af)=>some (.fn f dY,af)
  | none=>none
 | _,_=>none
def uf (row:List ab):Prop:= ∀R∈row,hl R.es∧R.cu = .live
def k7 (row:List ab):Prop:= ∀R∈row,R.cu = .live∨R.cu = .gone
def n5 (b6:Nat→Option Nat):aA→aA
 | .ref r k i off=>match b6 r with|some j=> .ref j k i off|none=> .dead
 | .bC r k bZ len=>match b6 r with|some j=> .bC j k bZ len|none=> .dead
 | .iF r c sz h=>match b6 r with|some j=> .iF j c sz h|none=> .dead
 | x=>if x.ig then x else .dead
def ko (b6:Nat→Option Nat)(R:ab):ab:={R with es:=R.es.map fun e=>e.map (n5 b6)}
def iV (aU:Nat→Option (List ab))(b6:Nat→Option Nat)(aM:gJ)(b0:gd→Bool):iy→List ab→Option (List ab×List Prop)
 | .pure,row=>some (row,[uf row])
 | .d3 dU,row=>some (dU,[row=dU,uf dU])
 | .bw dU,row=>some (dU,[dU=row.map (ko b6),k7 row])
 | .box l,[R]=>match R.es with
  | [c]=>if R.cu = .live then match lC (lB aU b6 aM b0) l c with
   | some (dY,af)=>some ([{R with es:=[dY]}],af)
   | none=>none
   else none
  | _=>none
 | _,_=>none
structure tU (q:aA→Prop) (b0:gd→Bool):Prop extends Down q where
 all : ∀k,b0 k=true→ ∀x,q x
theorem uF (b0:gd→Bool):tU l1 b0:={toDown:=abk,all:=fun _ _ _=>trivial}
theorem acJ:tU cz (fun _=>false):={toDown:=abm,all:=fun _ h=>by simp at h}
structure mM (s:S) (aM:gJ) (b6:Nat→Option Nat) (b0:gd→Bool):Prop where
 ai : ∀r j,b6 r=some j→ ∀k,aM j k=some (r,k)
 a0 : ∀r,b6 r=none→ ∀k R,s.af r k=some R→b0 R.cu=true→ ∀j i,aM j i≠some (r,k)
section
variable {g:G} {s:S} {ax:fs} {w:World} {aM:gJ} {b6:Nat→Option Nat} {b0:gd→Bool} {q:aA→Prop}
theorem Er {α β:Type}(f:α→β→Option (β×List Prop)): ∀(l:List α) (m a6:List β) (af:List Prop),lC f l m=some (a6,af) →
 a6.length=m.length∧l.length=m.length∧ ∀(j:Nat) b jO,m[j]? = some b→a6[j]? = some jO→ ∃x b9,l[j]? = some x∧f x b=some (jO,b9)∧ ∀p∈b9,p∈af
 | [],[],a6,af,h=>by
  simp [lC] at h;obtain ⟨rfl,rfl⟩:=h
  exact ⟨rfl,rfl,fun j b jO aY=>by simp at aY⟩
 | [],_::_,_,_,h=>by simp [lC] at h
 | _::_,[],_,_,h=>by simp [lC] at h
 | x::l,b::m,a6,af,h=>by
  simp only [lC] at h
  split at h
  ·rename_i jO cb gC a4 o J
   simp only [Option.some.injEq,Prod.mk.injEq] at h
   obtain ⟨rfl,rfl⟩:=h
   obtain ⟨az,aH,b2⟩:=Er f l m gC a4 J
   refine ⟨by simp [az],by simp [aH],fun j c dY aJ vV=> ?_⟩
   cases j with
   | zero =>
    simp at aJ vV;subst aJ;subst vV
    exact ⟨x,cb,rfl,o,fun p al=>by simp [al]⟩
   | succ j =>
    simp at aJ vV
    obtain ⟨y,b9,f1,f2,f3⟩:=b2 j c dY aJ vV
    exact ⟨y,b9,by simpa using f1,f2,fun p al=>by simp [f3 p al]⟩
  ·simp at h
theorem J0 (dr:h6 g s ax w)(H:mM s aM b6 b0)(bo:tU q b0){c:tP}{x cO:aA}{af:List Prop}(h:lB s.aU b6 aM b0 c x=some (cO,af))(bm:∀p∈af,p)
 (bi:q x) {v:Value} (ap:Rel w (s.ok g ax w) s.a1 (s.bc ax) x v):hI s aM b0 q x cO:=by
 have i5 : ∀ {r k bZ len:Nat},x = .bC r k bZ len→s.a1 r k:=by
  intro r k bZ len e;subst e;cases ap<;>assumption
 cases c with
 | id =>
  simp only [lB] at h
  split at h
  ·rename_i a0
   simp only [Option.some.injEq,Prod.mk.injEq] at h
   obtain ⟨rfl,rfl⟩:=h
   exact .pure (ap.y4 a0) bi
  ·split at h
   ·rename_i r k i off _
    split at h
    ·rename_i j aC
     simp only [Option.some.injEq,Prod.mk.injEq] at h
     obtain ⟨rfl,rfl⟩:=h
     exact .ref i off (H.ai r j aC k) (by cases ap<;>assumption)
    ·simp at h
   ·rename_i r k bZ len _
    split at h
    ·rename_i j aC
     simp only [Option.some.injEq,Prod.mk.injEq] at h
     obtain ⟨rfl,rfl⟩:=h
     exact .bC bZ len (H.ai r j aC k) (i5 rfl)
    ·simp at h
   ·rename_i r c sz fx _
    split at h
    ·rename_i j aC
     simp only [Option.some.injEq,Prod.mk.injEq] at h
     obtain ⟨rfl,rfl⟩:=h
     exact .iF fx (fun k=>H.ai r j aC _)
    ·simp at h
   ·simp at h
 | fM sz =>
  cases x<;>simp [lB] at h
  ·obtain ⟨rfl,rfl⟩:=h
   exact .eK sz
  ·obtain ⟨rfl,rfl⟩:=h
   exact .iE sz
 | gn gq =>
  cases x<;>simp only [lB,reduceCtorEq] at h
  rename_i r k bZ len
  split at h
  ·rename_i R an
   split at h
   ·rename_i aJ
    simp only [Bool.and_eq_true,Option.isNone_iff_eq_none] at aJ
    simp only [Option.some.injEq,Prod.mk.injEq] at h
    obtain ⟨rfl,rfl⟩:=h
    have o:gq=(R.es.drop bZ).take len:=bm _ (by simp)
    have J:bZ+len≤R.es.length:=bm _ (by simp)
    have ak:hl gq:=bm _ (by simp)
    have dP:s.af r k=some R:=an
    have hlen : ∀e∈R.es,e.length=R.sz:=by
     have fI:=dr.obj r k R dP
     cases al:ax r k with
     | none=>rw [al] at fI;simp only [iU] at fI;rw [fI];simp
     | some q=>rw [al] at fI;obtain ⟨_,_,_,_,e,_⟩:=fI;exact e
    refine .isl dP aJ.1 (H.a0 r aJ.2 k R dP aJ.1) J ak ?_ ?_ ?_
    ·rw [o];exact fun e he=>hlen e (List.mem_of_mem_drop (List.mem_of_mem_take he))
    ·rw [o];simp;omega
    ·intro j y ln aP l2
     rw [o] at l2
     rw [aP] at l2;simp at l2;subst l2
     rw [o] at ak
     obtain ⟨e,he,B8⟩:=s4 aP
     exact .pure (ak e he y B8) (bo.all _ aJ.1 y)
   ·simp at h
  ·simp at h
 | i9 =>
  simp only [lB,Option.some.injEq,Prod.mk.injEq] at h
  obtain ⟨rfl,rfl⟩:=h
  exact .dead x
 | d3 y =>
  simp only [lB] at h
  split at h
  ·rename_i a0
   simp only [Option.some.injEq,Prod.mk.injEq] at h
   obtain ⟨rfl,rfl⟩:=h
   have e:x=y:=bm _ (by simp)
   subst e
   exact .pure (ap.y4 a0) bi
  ·simp at h
 | len n =>
  cases x<;>simp only [lB,reduceCtorEq] at h
  rename_i r k bZ len
  split at h
  ·rename_i j aC
   simp only [Option.some.injEq,Prod.mk.injEq] at h
   obtain ⟨rfl,rfl⟩:=h
   have e:len=n:=bm _ (by simp)
   subst e
   exact .bC bZ len (H.ai r j aC k) (i5 rfl)
  ·simp at h
 | at_ j i n =>
  cases x<;>simp only [lB,reduceCtorEq] at h
  ·rename_i r k x y
   simp only [Option.some.injEq,Prod.mk.injEq] at h
   obtain ⟨rfl,rfl⟩:=h
   exact .ref x y (bm _ (List.mem_cons_self)) (by cases ap<;>assumption)
  ·rename_i r k bZ len
   simp only [Option.some.injEq,Prod.mk.injEq] at h
   obtain ⟨rfl,rfl⟩:=h
   have e:len=n:=bm _ (by simp)
   subst e
   exact .bC bZ len (bm _ (List.mem_cons_self)) (i5 rfl)
 | view et R gq =>
  cases x<;>simp only [lB,reduceCtorEq] at h
  rename_i r k bZ len
  split at h
  ·rename_i row jM dD abp
   split at h
   ·rename_i aJ
    simp only [Bool.and_eq_true,Option.isNone_iff_eq_none] at aJ
    simp only [Option.some.injEq,Prod.mk.injEq] at h
    obtain ⟨rfl,rfl⟩:=h
    have o:di (some row) k=some R:=bm _ (by simp)
    have J:b0 R.cu=true:=bm _ (by simp)
    have ak:bZ+len≤R.es.length:=bm _ (by simp)
    have ay:hl gq:=bm _ (by simp)
    have aI:CH et jM b0 R.sz ((R.es.drop bZ).take len) gq:=bm _ (by simp)
    have dP:s.af r k=some R:=by unfold S.af;rw [dD];exact o
    obtain ⟨tV,rj,aeo⟩:=aI
    refine .isl dP J (H.a0 r aJ.1 k R dP J) ak ay rj (by rw [tV];simp;omega) fun j y ln aP l2=> ?_
    rcases aeo j y ln aP l2 with ⟨rfl,a0⟩|⟨c2,SB,rfl,rfl⟩|⟨jz,FB,Fh,p,B9,az,aH,b2,dn,rfl⟩
    ·obtain ⟨e,he,B8⟩:=s4 l2
     exact .pure (ay e he ln B8) (bo.all _ J _)
    ·exact .mY _ _ _
    ·have l0:s.af et jz=some p:=by unfold S.af;rw [abp];exact az
     have hlen : ∀e∈p.es,e.length=p.sz:=by
      have fI:=dr.obj et jz p l0
      cases al:ax et jz with
      | none=>rw [al] at fI;simp only [iU] at fI;rw [fI];simp
      | some q=>rw [al] at fI;obtain ⟨_,_,_,_,e,_⟩:=fI;exact e
     have RL:hI s aM b0 q (.bC et jz FB Fh) (.isl p.sz ((p.es.drop FB).take Fh)):=by
      refine .isl l0 aH (H.a0 et aJ.2 jz p l0 aH) b2 dn (fun e he=>hlen e (List.mem_of_mem_drop (List.mem_of_mem_take he))) (by simp;omega) fun j z agM cv wa=> ?_
      rw [cv] at wa;simp at wa;subst wa
      obtain ⟨e,he,acK⟩:=s4 cv
      exact .pure (dn e he z acK) (bo.all _ aH _)
     rcases B9 with rfl|⟨cj,af4,hU,rfl,rfl,rfl⟩
     ·exact RL
     ·exact .nW RL
   ·simp at h
  ·simp at h
 | ll sz =>
  simp only [lB] at h
  split at h
  ·simp only [Option.some.injEq,Prod.mk.injEq] at h
   obtain ⟨rfl,rfl⟩:=h
   exact .E2 _
  ·split at h
   ·rename_i e;subst e
    simp only [Option.some.injEq,Prod.mk.injEq] at h
    obtain ⟨rfl,rfl⟩:=h
    exact .ef (.pure (ap.y4 rfl) bi)
   ·simp at h
  ·simp at h
theorem AK (dr:h6 g s ax w)(H:mM s aM b6 b0)(bo:tU q b0){l:List tP}{c dY:List aA}{af:List Prop}(h:lC (lB s.aU b6 aM b0) l c=some (dY,af))(bm:∀p∈af,p)
 (bi : ∀x∈c,q x) {vs:List Value} (aL:vs.length=c.length) (ap : ∀(j:Nat) x u,c[j]? = some x→vs[j]? = some u→Rel w (s.ok g ax w) s.a1 (s.bc ax) x u) :
 dY.length=c.length∧ ∀(j:Nat) x cO,c[j]? = some x→dY[j]? = some cO→hI s aM b0 q x cO:=by
 obtain ⟨az,aH,b2⟩:=Er _ l c dY af h
 refine ⟨az,fun j x cO aa dI=> ?_⟩
 obtain ⟨y,b9,f1,f2,f3⟩:=b2 j x cO aa dI
 have dB:j<vs.length:=by have:=f9 aa;omega
 exact J0 dr H bo f2 (fun p al=>bm p (f3 p al)) (bi x (List.mem_of_getElem? aa)) (ap j x _ aa (List.getElem?_eq_getElem dB))
theorem J1 (dr:h6 g s ax w)(H:mM s aM b6 b0)(bo:tU q b0){c:zN}{x cO:aA}{af:List Prop}(h:oD s.aU b6 aM b0 c x=some (cO,af))(bm:∀p∈af,p)
 (bi:q x) {v:Value} (ap:Rel w (s.ok g ax w) s.a1 (s.bc ax) x v):hI s aM b0 q x cO:=by
 cases c with
 | cj c =>
  simp only [oD] at h
  split at h
  ·rename_i a0
   split at h
   ·simp only [Option.some.injEq,Prod.mk.injEq] at h
    obtain ⟨rfl,rfl⟩:=h
    exact .pure (ap.E3 a0) bi
   ·simp only [Option.some.injEq,Prod.mk.injEq] at h
    obtain ⟨rfl,rfl⟩:=h
    exact .dead _
   ·simp only [Option.some.injEq,Prod.mk.injEq] at h
    obtain ⟨rfl,rfl⟩:=h
    have e:=bm _ (List.mem_singleton.2 rfl)
    subst e
    exact .pure (ap.E3 a0) bi
   ·exact J0 dr H bo h bm bi ap
  ·exact J0 dr H bo h bm bi ap
 | agg l =>
  cases x<;>simp only [oD,reduceCtorEq] at h
  rename_i c
  split at h
  ·rename_i dY nE aJ
   simp only [Option.some.injEq,Prod.mk.injEq] at h
   obtain ⟨rfl,rfl⟩:=h
   obtain ⟨vs,rfl,aL,-,Ca⟩:=ap.yE
   obtain ⟨az,aH⟩:=AK dr H bo aJ bm (fun y aP=>bo.agg _ _ bi aP) aL Ca
   exact .agg az aH
  ·simp at h
 | ptr l =>
  cases x<;>simp only [oD,reduceCtorEq] at h
  rename_i r k i off
  split at h
  ·rename_i R an
   split at h
   ·rename_i c hx
    split at h
    ·rename_i aJ
     simp only [Bool.and_eq_true,Option.isNone_iff_eq_none] at aJ
     split at h
     ·rename_i dY nE hC
      simp only [Option.some.injEq,Prod.mk.injEq] at h
      obtain ⟨rfl,rfl⟩:=h
      have dP:s.af r k=some R:=an
      have fI:=dr.obj r k R dP
      cases al:ax r k with
      | none=>rw [al] at fI;simp only [iU] at fI;rw [hx] at fI;simp at fI
      | some q =>
       obtain ⟨b,m⟩:=q
       rw [al] at fI
       obtain ⟨cl,eF,g1,g2,g3,g4⟩:=fI
       have Ld:c.length=R.sz:=g3 c (by rw [hx];simp)
       have jw:R.es.flatten=c:=by rw [hx];simp
       have hcs : ∀j:Nat,j<c.length→ ∃u,cl[j]? = some u∧Rel w (s.ok g ax w) s.a1 (s.bc ax) c[j]! u:=by
        intro j aC
        obtain ⟨u,js,-,gK⟩:=g4 j c[j] (by rw [jw];exact List.getElem?_eq_getElem aC)
        exact ⟨u,js,by rw [getElem!_pos c j aC];exact gK⟩
       obtain ⟨az,aH⟩:=AK (vs:=(List.range c.length).map fun j=>(cl[j]?).getD undef) dr H bo hC (fun p al=>bm p (by simp [al])) (fun y _=>bo.all _ aJ.1 y) (by simp) (by
        intro j y u aP hu
        have aC:=f9 aP
        rw [List.getElem?_map,List.getElem?_range aC] at hu
        simp only [Option.map_some,Option.some.injEq] at hu
        obtain ⟨k0,js,gK⟩:=hcs j aC
        rw [js] at hu;simp at hu;subst hu
        rw [List.getElem?_eq_getElem aC] at aP;simp at aP;subst aP
        rw [getElem!_pos c j aC] at gK;exact gK)
       have tp:hl [dY]:=bm _ (by simp)
       refine .eE i off dP aJ.1 (H.a0 r aJ.2 k R dP aJ.1) (by rw [hx];simp) tp (by simp;omega) (by rw [hx];rfl) ?_
       ·intro j y ln aP l2
        rw [jw] at aP
        simp only [List.flatten_cons,List.flatten_nil,List.append_nil] at l2
        exact aH j y ln aP l2
     ·simp at h
    ·simp at h
   ·simp at h
  ·simp at h
 | tx l =>
  simp only [oD] at h
  split at h
  ·rename_i r k
   split at h
   ·rename_i R an
    split at h
    ·rename_i c hx
     split at h
     ·rename_i aJ
      simp only [Bool.and_eq_true,Option.isNone_iff_eq_none] at aJ
      split at h
      ·rename_i dY nE hC
       simp only [Option.some.injEq,Prod.mk.injEq] at h
       obtain ⟨rfl,rfl⟩:=h
       have dP:s.af r k=some R:=an
       have fI:=dr.obj r k R dP
       cases al:ax r k with
       | none=>rw [al] at fI;simp only [iU] at fI;rw [hx] at fI;simp at fI
       | some q =>
        obtain ⟨b,m⟩:=q
        rw [al] at fI
        obtain ⟨cl,eF,g1,g2,g3,g4⟩:=fI
        have Ld:c.length=R.sz:=g3 c (by rw [hx];simp)
        have jw:R.es.flatten=c:=by rw [hx];simp
        have hcs : ∀j:Nat,j<c.length→ ∃u,cl[j]? = some u∧Rel w (s.ok g ax w) s.a1 (s.bc ax) c[j]! u:=by
         intro j aC
         obtain ⟨u,js,-,gK⟩:=g4 j c[j] (by rw [jw];exact List.getElem?_eq_getElem aC)
         exact ⟨u,js,by rw [getElem!_pos c j aC];exact gK⟩
        obtain ⟨az,aH⟩:=AK (vs:=(List.range c.length).map fun j=>(cl[j]?).getD undef) dr H bo hC (fun p al=>bm p (by simp [al])) (fun y _=>bo.all _ aJ.1 y) (by simp) (by
         intro j y u aP hu
         have aC:=f9 aP
         rw [List.getElem?_map,List.getElem?_range aC] at hu
         simp only [Option.map_some,Option.some.injEq] at hu
         obtain ⟨k0,js,gK⟩:=hcs j aC
         rw [js] at hu;simp at hu;subst hu
         rw [List.getElem?_eq_getElem aC] at aP;simp at aP;subst aP
         rw [getElem!_pos c j aC] at gK;exact gK)
        have tp:hl [dY]:=bm _ (by simp)
        refine .ef (.eE 0 0 dP aJ.1 (H.a0 r aJ.2 k R dP aJ.1) (by rw [hx];simp) tp (by simp;omega) (by rw [hx];rfl) ?_)
        ·intro j y ln aP l2
         rw [jw] at aP
         simp only [List.flatten_cons,List.flatten_nil,List.append_nil] at l2
         exact aH j y ln aP l2
      ·simp at h
     ·simp at h
    ·simp at h
   ·simp at h
  ·simp at h
theorem AP (dr:h6 g s ax w)(H:mM s aM b6 b0)(bo:tU q b0){c:lm}{x cO:aA}{af:List Prop}(h:nR s.aU b6 aM b0 c x=some (cO,af))(bm:∀p∈af,p)
 (bi:q x) {v:Value} (ap:Rel w (s.ok g ax w) s.a1 (s.bc ax) x v):hI s aM b0 q x cO:=by
 have key : ∀(l:List zN) (c dY:List aA) (nE:List Prop) (vs:List Value),lC (oD s.aU b6 aM b0) l c=some (dY,nE)→(∀p∈nE,p)→(∀x∈c,q x)→vs.length=c.length →
  (∀(j:Nat) x u,c[j]? = some x→vs[j]? = some u→Rel w (s.ok g ax w) s.a1 (s.bc ax) x u)→dY.length=c.length∧ ∀(j:Nat) x cO,c[j]? = some x→dY[j]? = some cO→hI s aM b0 q x cO:=by
  intro l c dY nE vs h bm bi aL ap
  obtain ⟨az,aH,b2⟩:=Er _ l c dY nE h
  refine ⟨az,fun j x cO aa dI=> ?_⟩
  obtain ⟨y,b9,f1,f2,f3⟩:=b2 j x cO aa dI
  have dB:j<vs.length:=by have:=f9 aa;omega
  exact J1 dr H bo f2 (fun p al=>bm p (f3 p al)) (bi x (List.mem_of_getElem? aa)) (ap j x _ aa (List.getElem?_eq_getElem dB))
 cases c with
 | bN c =>
  simp only [nR] at h
  split at h
  ·rename_i a0
   split at h
   ·simp only [Option.some.injEq,Prod.mk.injEq] at h
    obtain ⟨rfl,rfl⟩:=h
    exact .pure (ap.abo a0) bi
   ·exact J1 dr H bo h bm bi ap
  ·exact J1 dr H bo h bm bi ap
 | comp l =>
  cases x<;>simp only [nR,reduceCtorEq] at h
  ·rename_i c
   split at h
   ·rename_i dY nE aJ
    simp only [Option.some.injEq,Prod.mk.injEq] at h
    obtain ⟨rfl,rfl⟩:=h
    obtain ⟨vs,rfl,aL,Ca⟩:=ap.yF
    obtain ⟨az,aH⟩:=key l c dY nE vs aJ bm (fun y aP=>bo.df _ _ bi aP) aL Ca
    exact .df az aH
   ·simp at h
  ·rename_i f c
   split at h
   ·rename_i dY nE aJ
    simp only [Option.some.injEq,Prod.mk.injEq] at h
    obtain ⟨rfl,rfl⟩:=h
    obtain ⟨vs,rfl,aL,Ca⟩:=ap.EQ
    obtain ⟨az,aH⟩:=key l c dY nE vs aJ bm (fun y aP=>bo.fn _ _ _ bi aP) aL Ca
    exact .fn az aH
   ·simp at h
theorem RM (dr:h6 g s ax w)(H:mM s aM b6 b0){r:Nat}{jZ:Nat→Nat}{row:List ab}(dD:∀k R,di (some row) k=some R→s.af r (jZ k)=some R)
 (bi : ∀k R,di (some row) k=some R→ ∀e∈R.es,∀x∈e,q x) :
 ∀(k:Nat) b9,di (some (row.map (ko b6))) k=some b9→ ∃R,di (some row) k=some R∧oQ s aM b0 q R b9:=by
 intro k b9 dP
 rw [kh,List.getElem?_map] at dP
 cases aX:row[k]? with
 | none=>rw [aX] at dP;simp at dP
 | some R =>
  rw [aX] at dP
  simp only [Option.map_some,Option.bind_some] at dP
  split at dP
  ·simp at dP
  ·rename_i dN
   simp only [Option.some.injEq] at dP
   subst dP
   have an:di (some row) k=some R:=by rw [kh,aX,Option.bind_some,if_neg (by simpa [ko] using dN)]
   have b4:s.af r (jZ k)=some R:=dD k R an
   refine ⟨R,an,?_⟩
   have fI:=dr.obj r (jZ k) R b4
   have hlen : ∀e∈R.es,e.length=R.sz:=by
    cases al:ax r (jZ k) with
    | none=>rw [al] at fI;simp only [iU] at fI;rw [fI];simp
    | some q=>rw [al] at fI;obtain ⟨_,_,_,_,e,_⟩:=fI;exact e
   refine ⟨rfl,.inl rfl,by simp [ko],?_,fun j x cO aa dI=> ?_⟩
   ·intro e he
    simp only [ko,List.mem_map] at he
    obtain ⟨eH,lY,rfl⟩:=he
    simpa using hlen eH lY
   ·simp only [ko] at dI
    rw [map_flatten,List.getElem?_map,aa] at dI
    simp only [Option.map_some,Option.some.injEq] at dI
    subst dI
    obtain ⟨e,he,q7⟩:=s4 aa
    have acL:=bi k R an e he x q7
    cases al:ax r (jZ k) with
    | none=>rw [al] at fI;simp only [iU] at fI;rw [fI] at aa;simp at aa
    | some tT =>
     obtain ⟨b,m⟩:=tT
     rw [al] at fI
     obtain ⟨c,eF,f1,f2,f3,f4⟩:=fI
     obtain ⟨u,js,l9,gK⟩:=f4 j x aa
     cases x with
     | ref bE jz lo abX =>
      cases cq:b6 bE with
      | none=>simp only [n5,cq];exact .dead _
      | some F8=>simp only [n5,cq];exact .ref lo abX (H.ai _ _ cq _) (by cases gK<;>assumption)
     | bC bE jz FB Fh =>
      cases cq:b6 bE with
      | none=>simp only [n5,cq];exact .dead _
      | some F8=>simp only [n5,cq];exact .bC FB Fh (H.ai _ _ cq _) (by cases gK<;>assumption)
     | iF bE c2 SB J =>
      cases cq:b6 bE with
      | none=>simp only [n5,cq];exact .dead _
      | some F8=>simp only [n5,cq];exact .iF J (fun k=>H.ai _ _ cq _)
     | _ =>
      simp only [n5]
      split
      ·rename_i a0;exact .pure (gK.y4 a0) acL
      ·exact .dead _
theorem Es (dr:h6 g s ax w)(H:mM s aM b6 b0)(bo:tU q b0){c:iy}{r:Nat}{jZ:Nat→Nat}{row dU:List ab}{af:List Prop}(dD:∀k R,di (some row) k=some R→s.af r (jZ k)=some R)
 (h:iV s.aU b6 aM b0 c row=some (dU,af)) (bm : ∀p∈af,p) (bi : ∀k R,di (some row) k=some R→ ∀e∈R.es,∀x∈e,q x) :
 dU.length=row.length∧(∀k R,di (some row) k=some R→R.cu = .live) ∧
 ∀(k:Nat) b9,di (some dU) k=some b9→ ∃R,di (some row) k=some R∧oQ s aM b0 q R b9:=by
 have hlen : ∀k R,di (some row) k=some R→ ∀e∈R.es,e.length=R.sz:=by
  intro k R an
  have dP:s.af r (jZ k)=some R:=dD k R an
  have fI:=dr.obj r (jZ k) R dP
  cases al:ax r (jZ k) with
  | none=>rw [al] at fI;simp only [iU] at fI;rw [fI];simp
  | some q=>rw [al] at fI;obtain ⟨_,_,_,_,e,_⟩:=fI;exact e
 have tp:uf row→(∀k R,di (some row) k=some R→R.cu = .live) ∧
  ∀(k:Nat) b9,di (some row) k=some b9→ ∃R,di (some row) k=some R∧oQ s aM b0 q R b9:=by
  intro al
  have q1 : ∀k R,di (some row) k=some R→R∈row:=by
   intro k R an
   unfold di at an
   simp only at an
   split at an
   ·rename_i b9 dP
    split at an
    ·simp at an
    ·simp at an;subst an;exact List.mem_of_getElem? dP
   ·simp at an
  refine ⟨fun k R an=>(al R (q1 k R an)).2,fun k R an=>⟨R,an,rfl,.inl rfl,rfl,hlen k R an,fun j x cO aa dI=> ?_⟩⟩
  rw [aa] at dI;simp at dI;subst dI
  obtain ⟨e,he,q7⟩:=s4 aa
  exact .pure ((al R (q1 k R an)).1 e he x q7) (bi k R an e he x q7)
 cases c with
 | pure =>
  simp only [iV,Option.some.injEq,Prod.mk.injEq] at h
  obtain ⟨rfl,rfl⟩:=h
  exact ⟨rfl,tp (bm _ (by simp))⟩
 | d3 aN =>
  simp only [iV,Option.some.injEq,Prod.mk.injEq] at h
  obtain ⟨rfl,rfl⟩:=h
  have e:row=aN:=bm _ (by simp)
  subst e
  exact ⟨rfl,tp (bm _ (by simp))⟩
 | bw aN =>
  simp only [iV,Option.some.injEq,Prod.mk.injEq] at h
  obtain ⟨rfl,rfl⟩:=h
  have e:aN=row.map (ko b6):=bm _ (by simp)
  have LK:k7 row:=bm _ (by simp)
  subst e
  refine ⟨by simp,fun k R an=>by
   unfold di at an
   simp only at an
   split at an
   ·rename_i b9 dP
    split at an
    ·simp at an
    ·rename_i dN
     simp at an;subst an
     exact (LK _ (List.mem_of_getElem? dP)).resolve_right dN
   ·simp at an,RM dr H dD bi⟩
 | rx aN=>cases row with
  | nil=>simp [iV] at h
  | cons R l=>cases l<;>simp [iV] at h
 | drop=>cases row with
  | nil=>simp [iV] at h
  | cons R l=>cases l<;>simp [iV] at h
 | box l =>
  match row,h with
  | [R],h =>
   simp only [iV] at h
   split at h
   ·rename_i c hx
    split at h
    ·rename_i n3
     split at h
     ·rename_i dY nE aJ
      simp only [Option.some.injEq,Prod.mk.injEq] at h
      obtain ⟨rfl,rfl⟩:=h
      have h0:di (some [R]) 0=some R:=by rw [mi];simp [n3]
      refine ⟨rfl,fun k p al=> ?_,fun k p al=> ?_⟩
      ·rw [mi] at al
       split at al
       ·simp at al;subst al;exact n3
       ·simp at al
      ·rw [mi] at al
       split at al
       ·rename_i tG
        obtain ⟨rfl,-⟩:=tG
        simp only [Option.some.injEq] at al;subst al
        refine ⟨R,h0,?_⟩
        have dP:s.af r (jZ 0)=some R:=dD 0 R h0
        have fI:=dr.obj r (jZ 0) R dP
        cases kn:ax r (jZ 0) with
        | none=>rw [kn] at fI;simp only [iU] at fI;rw [hx] at fI;simp at fI
        | some q =>
         obtain ⟨b,m⟩:=q
         rw [kn] at fI
         obtain ⟨cl,eF,g1,g2,g3,g4⟩:=fI
         have Ld:c.length=R.sz:=g3 c (by rw [hx];simp)
         have jw:R.es.flatten=c:=by rw [hx];simp
         obtain ⟨az,aH⟩:=AK (vs:=(List.range c.length).map fun j=>(cl[j]?).getD undef) dr H bo aJ bm (fun y aP=>bi 0 R h0 c (by rw [hx];simp) y aP) (by simp) (by
          intro j y u aP hu
          have aC:=f9 aP
          rw [List.getElem?_map,List.getElem?_range aC] at hu
          simp only [Option.map_some,Option.some.injEq] at hu
          obtain ⟨k0,js,-,gK⟩:=g4 j y (by rw [jw];exact aP)
          rw [js] at hu;simp at hu;subst hu
          exact gK)
         refine ⟨rfl,.inl rfl,by simp [hx],by simp;omega,fun j x cO aa dI=> ?_⟩
         rw [jw] at aa
         simp only [List.flatten_cons,List.flatten_nil,List.append_nil] at dI
         exact aH j x cO aa dI
       ·simp at al
     ·simp at h
    ·simp at h
   ·simp at h
  | [],h=>simp [iV] at h
  | _::_::_,h=>simp [iV] at h
end
end Go.VL
