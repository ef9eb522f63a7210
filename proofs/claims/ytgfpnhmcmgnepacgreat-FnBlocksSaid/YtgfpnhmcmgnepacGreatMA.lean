/- Lemmas, plain functions of the program, and what they answer. No condition. -/
import Derived.Below
import Derived.Eval
import Derived.KernelRfl
import Derived.Laws.Append
import Derived.Laws.AppendOwn
import Derived.Laws.BytesString
import Derived.Laws.Cells
import Derived.Laws.CopyRow
import Derived.Laws.Entries
import Derived.Laws.MakeOwn
import Derived.Laws.OwnMore
import Derived.Laws.Rows
import Derived.Laws.Slices
import Derived.Laws.Tables
import Derived.Orders
namespace Go.VL
set_option linter.unusedVariables false
set_option linter.unusedSimpArgs false
open Go
inductive ax where
 | dead
 | b (x:Bool)
 | n (k:IntKind) (x:Int)
 | s (x:ByteArray)
 | ik
 | ex
 | iQ
 | ref (r k i off:Nat)
 | bF (r k bV len:Nat)
 | iR (r c sz:Nat) (h:Option (Nat×Nat))
 | isl (sz:Nat) (es:List (List ax))
 | eu (sz:Nat) (es:List (List ax)) (i off:Nat)
 | eP (sz:Nat) (c:Option (List ax))
 | agg (c:List ax)
 | dB (vs:List ax)
 | fn (f:Nat) (cap:List ax)
 deriving Inhabited
inductive f7 where
 | live|iC|gone
 deriving DecidableEq,Inhabited
structure af where
 sz:Nat
 es:List (List ax)
 cn:f7
 deriving Inhabited
structure S where
 E:Nat→ax
 aR:Nat→Option (List af)
abbrev ke (v:Value):Bool:=v.oneCell'
abbrev fj:=Nat→Nat→Option (Nat×Nat)
abbrev i3:=Nat→Nat→Option (Nat×Option (Nat×Nat))
abbrev jg:=Nat→Nat→Prop
inductive Pure:ax→Prop
 | dead:Pure .dead
 | b (x:Bool):Pure (.b x)
 | n (k:IntKind) (x:Int):Pure (.n k x)
 | s (x:ByteArray):Pure (.s x)
 | ik:Pure .ik
 | ex:Pure .ex
 | iQ:Pure .iQ
 | isl {sz:Nat} {es:List (List ax)} (h : ∀e∈es,∀x∈e,Pure x):Pure (.isl sz es)
 | eu {sz i off:Nat} {es:List (List ax)} (h : ∀e∈es,∀x∈e,Pure x):Pure (.eu sz es i off)
 | pQ (sz:Nat):Pure (.eP sz none)
 | pp {sz:Nat} {c:List ax} (h : ∀x∈c,Pure x):Pure (.eP sz (some c))
 | agg {c:List ax} (h : ∀x∈c,Pure x):Pure (.agg c)
 | dB {c:List ax} (h : ∀x∈c,Pure x):Pure (.dB c)
 | fn {f:Nat} {c:List ax} (h : ∀x∈c,Pure x):Pure (.fn f c)
def gr (es:List (List ax)):Prop:= ∀e∈es,∀x∈e,Pure x
inductive Rel (w:World) (ok:Nat→Prop) (a0:jg) (ba:i3):ax→Value→Prop
 | dead (v:Value):Rel w ok a0 ba .dead v
 | b (x:Bool):Rel w ok a0 ba (.b x) (.bool x)
 | n (k:IntKind) (x:Int):Rel w ok a0 ba (.n k x) (.int k x)
 | s (x:ByteArray):Rel w ok a0 ba (.s x) (.string x)
 | ik:Rel w ok a0 ba .ik (.pointer none)
 | ex:Rel w ok a0 ba .ex (.slice none 0 0)
 | iQ (a:Addr) (c:Nat):Rel w ok a0 ba .iQ (.slice (some a) 0 c)
 | qd {r k i off:Nat} (a:Option Addr) (hu:a0 r k) (h : ∀sz p,ba r k≠some (sz,some p)):Rel w ok a0 ba (.ref r k i off) (.pointer a)
 | ref {r k i off sz d2 m:Nat} (hu:a0 r k) (h:ba r k=some (sz,some (d2,m))):Rel w ok a0 ba (.ref r k i off) (.pointer (some ⟨d2,i*sz+off,none⟩))
 | ns {r k bV len:Nat} (a:Option Addr) (l c:Nat) (hu:a0 r k) (h:ba r k=none):Rel w ok a0 ba (.bF r k bV len) (.slice a l c)
 | nP {r k sz:Nat} (hu:a0 r k) (h:ba r k=some (sz,none)):Rel w ok a0 ba (.bF r k 0 0) (.slice none 0 0)
 | bF {r k bV len sz d2 m c:Nat} {a:Option Addr} (hu:a0 r k) (h:ba r k=some (sz,some (d2,m))) (aL:len≤c) (aP:c<9223372036854775808)
  (hm:(bV+c)*sz=m∧(c=0∨a=some ⟨d2,bV*sz,none⟩)):Rel w ok a0 ba (.bF r k bV len) (.slice a len c)
 | mX {r c sz:Nat} {v:Value} (h:Rel w ok a0 ba (.isl sz []) v):Rel w ok a0 ba (.iR r c sz none) v
 | nY {r c sz k n:Nat} {v:Value} (h:Rel w ok a0 ba (.bF r (k+c) 0 n) v):Rel w ok a0 ba (.iR r c sz (some (k,n))) v
 | kh (sz:Nat) (a:Option Addr) (c:Nat) (h:a=none→c=0):Rel w ok a0 ba (.isl sz []) (.slice a 0 c)
 | isl {sz:Nat} {es:List (List ax)} {d2 off c:Nat} (cs:Nat→Value) (aJ:ok d2) (ah:gr es) (aL : ∀e∈es,e.length=sz) (aP:es.length≤c)
  (hw : ∀(j:Nat) x,es.flatten[j]? = some x→w.cell? ⟨d2,off+j,none⟩=some (cs j)) (j6 : ∀(j:Nat) x,es.flatten[j]? = some x→ke (cs j)=true)
  (ap : ∀(j:Nat) x,es.flatten[j]? = some x→Rel w ok a0 ba x (cs j)):Rel w ok a0 ba (.isl sz es) (.slice (some ⟨d2,off,none⟩) es.length c)
 | eu {sz:Nat} {es:List (List ax)} {d2 I i off:Nat} (cs:Nat→Value) (aJ:ok d2) (ah:gr es) (aL : ∀e∈es,e.length=sz)
  (hw : ∀(j:Nat) x,es.flatten[j]? = some x→w.cell? ⟨d2,I+j,none⟩=some (cs j)) (j6 : ∀(j:Nat) x,es.flatten[j]? = some x→ke (cs j)=true)
  (ap : ∀(j:Nat) x,es.flatten[j]? = some x→Rel w ok a0 ba x (cs j)):Rel w ok a0 ba (.eu sz es i off) (.pointer (some ⟨d2,I+(i*sz+off),none⟩))
 | pQ (sz:Nat):Rel w ok a0 ba (.eP sz none) (.pointer none)
 | pp {sz:Nat} {c:List ax} {v:Value} (h:Rel w ok a0 ba (.eu sz [c] 0 0) v):Rel w ok a0 ba (.eP sz (some c)) v
 | agg {c:List ax} (vs:List Value) (aL:vs.length=c.length) (j6 : ∀(j:Nat) v,vs[j]? = some v→ke v=true)
  (ap : ∀(j:Nat) x v,c[j]? = some x→vs[j]? = some v→Rel w ok a0 ba x v):Rel w ok a0 ba (.agg c) (.agg vs.toArray)
 | dB {c:List ax} (vs:List Value) (aL:vs.length=c.length)
  (ap : ∀(j:Nat) x v,c[j]? = some x→vs[j]? = some v→Rel w ok a0 ba x v):Rel w ok a0 ba (.dB c) (.tuple vs.toArray)
 | fn {f:Nat} {c:List ax} (vs:List Value) (aL:vs.length=c.length)
  (ap : ∀(j:Nat) x v,c[j]? = some x→vs[j]? = some v→Rel w ok a0 ba x v):Rel w ok a0 ba (.fn f c) (.func (.func f) #[] vs.toArray)
theorem Rel.mono {w bG:World}{ok kU:Nat→Prop}{a0 m3:jg}{ba my:i3}{a:ax}{v:Value}(h:Rel w ok a0 ba a v)
 (m4 : ∀b,ok b→kU b) (hw : ∀b,ok b→bG.heap[b]? = w.heap[b]?)
 (jr : ∀r k,a0 r k→m3 r k) (ls : ∀r k,a0 r k→my r k=ba r k∨my r k=none):Rel bG kU m3 my a v:=by
 have j6 : ∀b I,ok b→bG.cell? ⟨b,I,none⟩=w.cell? ⟨b,I,none⟩:=fun b I aJ=>World.cell?_of_block (hw b aJ)
 induction h with
 | dead v=>exact .dead v
 | b x=>exact .b x
 | n k x=>exact .n k x
 | s x=>exact .s x
 | ik=>exact .ik
 | ex=>exact .ex
 | iQ a c=>exact .iQ a c
 | @qd r k i off a hu h =>
  refine .qd a (jr r k hu) fun sz p=> ?_
  rcases ls r k hu with e|e<;>rw [e]
  ·exact h sz p
  ·simp
 | @ref r k i off sz d2 m hu h =>
  rcases ls r k hu with e|e
  ·exact .ref (jr r k hu) (e.trans h)
  ·exact .qd _ (jr r k hu) fun sz p=>by rw [e];simp
 | @ns r k bV len a l c hu h=>exact .ns a l c (jr r k hu) (by rcases ls r k hu with e|e<;>rw [e];exact h)
 | @nP r k sz hu h =>
  rcases ls r k hu with e|e
  ·exact .nP (jr r k hu) (e.trans h)
  ·exact .ns _ _ _ (jr r k hu) e
 | @bF r k bV len sz d2 m c a hu h aL aP hm =>
  rcases ls r k hu with e|e
  ·exact .bF (jr r k hu) (e.trans h) aL aP hm
  ·exact .ns _ _ _ (jr r k hu) e
 | mX h ih=>exact .mX ih
 | nY h ih=>exact .nY ih
 | kh sz a c h=>exact .kh sz a c h
 | isl cs aJ ah aL aP Br hr ap ih=>exact .isl cs (m4 _ aJ) ah aL aP (fun j x aa=>(j6 _ _ aJ).trans (Br j x aa)) hr ih
 | eu cs aJ ah aL Br hr ap ih=>exact .eu cs (m4 _ aJ) ah aL (fun j x aa=>(j6 _ _ aJ).trans (Br j x aa)) hr ih
 | pQ sz=>exact .pQ sz
 | pp h ih=>exact .pp ih
 | agg vs aL hr ap ih=>exact .agg vs aL hr ih
 | dB vs aL ap ih=>exact .dB vs aL ih
 | fn vs aL ap ih=>exact .fn vs aL ih
structure G where
 mN:World
 A:Nat→Prop
 p2:Nat→Prop
 N:Nat
 m:Nat
 pw:jg
 rH:i3
def S.a0 (s:S)(r k:Nat):Prop:=k<((s.aR r).getD []).length
def dk (row:Option (List af))(k:Nat):Option af :=
 match row with
 | some l=>match l[k]? with
  | some I=>if I.cn = .gone then none else some I
  | none=>none
 | none=>none
def S.aj (s:S)(r k:Nat):Option af:=dk (s.aR r) k
def S.ba (s:S)(av:fj):i3:=fun r k=>(s.aj r k).map fun I=>(I.sz,av r k)
def S.l0 (s:S)(av:fj)(b:Nat):Prop:= ∃r k I m,s.aj r k=some I∧I.cn = .live∧av r k=some (b,m)
def S.ok (s:S)(g:G)(av:fj)(w:World)(b:Nat):Prop :=
 b<w.heap.size∧(g.A b∨g.mN.heap.size≤b∨g.p2 b)∧ ¬s.l0 av b
def ja (w:World)(ok:Nat→Prop)(a0:jg)(ba:i3)(I:af):Option (Nat×Nat)→Prop
 | none=>I.es=[]
 | some (d2,m)=> ∃c eB,w.heap[d2]? = some (.cells c eB (0,0))∧c.size=m∧(∀e∈I.es,e.length=I.sz) ∧
  ∀(j:Nat) x,I.es.flatten[j]? = some x→ ∃v,c[j]? = some v∧ke v=true∧Rel w ok a0 ba x v
structure A6 (g:G) (w:World):Prop where
 os:w.os=g.mN.os
 tape:w.tape=g.mN.tape
 output:w.output=g.mN.output
 size:g.mN.heap.size≤w.heap.size
 block : ∀b,b<g.mN.heap.size→ ¬g.p2 b→w.heap[b]? = g.mN.heap[b]?
structure il (g:G) (s:S) (av:fj) (w:World):Prop where
 obj : ∀r k I,s.aj r k=some I→ja w (s.ok g av w) s.a0 (s.ba av) I (av r k)
 inj : ∀r k I eC dI b5 b m a4,s.aj r k=some I→s.aj eC dI=some b5→av r k=some (b,m)→av eC dI=some (b,a4)→r=eC∧k=dI
 own : ∀r k I b m,s.aj r k=some I→av r k=some (b,m)→g.mN.heap.size≤b∨g.p2 b
 hb:A6 g w
 mlt : ∀b,g.p2 b→b<g.mN.heap.size
 ny : ∀b,g.A b→b<g.mN.heap.size
 stay : ∀j k,g.pw j k→s.a0 j k∧(s.ba av j k=g.rH j k∨s.ba av j k=none)
 low : ∀j k,g.pw j k→j<g.m
structure cI (g:G) (s:S) (av:fj) (a:Act) (w:World):Prop extends il g s av w where
 env : ∀t,Rel w (s.ok g av w) s.a0 (s.ba av) (s.E t) (a.tmps.getD t undef)
 defers:a.defers=[]
 jQ:g.N≤a.tmps.size
def ofValue:Value→ax
 | .bool x=> .b x
 | .int k x=> .n k x
 | .string x=> .s x
 | .pointer none=> .ik
 | .slice none 0 0=> .ex
 | _=> .dead
theorem Nu {w:World}{ok:Nat→Prop}{a0:jg}{ba:i3}(v:Value):Rel w ok a0 ba (ofValue v) v:=by
 unfold ofValue
 split<;>constructor
def eH (E:Nat→ax):Operand→ax
 | .tmp t=>E t
 | .const v=>ofValue v
 | .global _=> .dead
 | .func f=> .fn f []
theorem cI.eval {g:G}{s:S}{av:fj}{a:Act}{w:World}(h:cI g s av a w)(x:Operand):
 Rel w (s.ok g av w) s.a0 (s.ba av) (eH s.E x) (a.eval x):=by
 cases x with
 | tmp t=>exact h.env t
 | const v=>exact Nu v
 | global g=>exact .dead _
 | func f=>exact .fn [] rfl (fun j x v aa=>by simp at aa)
def ax.cells:ax→List ax
 | .agg c=>c
 | x=>[x]
def ax.one:ax→Bool
 | .dead | .agg _ | .dB _=>false
 | _=>true
def ax.xX:ax→Bool
 | .dead | .dB _=>false
 | _=>true
theorem ax.Nv {v:ax}(h:v.xX=true):v.one=true∨ ∃c,v = .agg c:=by
 cases v<;>first|exact .inl rfl|exact .inr ⟨_,rfl⟩|simp [ax.xX] at h
theorem Rel.ke {w:World}{ok:Nat→Prop}{a0:jg}{ba:i3}{a:ax}{v:Value}(h:Rel w ok a0 ba a v)(bt:a.one=true):ke v=true:=by
 cases h with
 | pp h=>cases h;rfl
 | mX h=>cases h<;>rfl
 | nY h=>cases h<;>rfl
 | _=>first|rfl|simp [ax.one] at bt
theorem Rel.cellsOf {w:World}{ok:Nat→Prop}{a0:jg}{ba:i3}{a:ax}{v:Value}(h:Rel w ok a0 ba a v)(bt:a.one=true∨ ∃c,a = .agg c):
 ∃vs:List Value,v.cells=vs.toArray∧vs.length=a.cells.length∧(∀(j:Nat) x,vs[j]? = some x→VL.ke x=true) ∧
  ∀(j:Nat) x u,a.cells[j]? = some x→vs[j]? = some u→Rel w ok a0 ba x u:=by
 rcases bt with bt|⟨c,rfl⟩
 ·have aP:=h.ke bt
  refine ⟨[v],?_,?_,?_,?_⟩
  ·cases v<;>first|rfl|simp [VL.ke,Value.oneCell'] at aP
  ·cases a<;>first|rfl|simp [ax.one] at bt
  ·intro j x aa
   cases j with
   | zero=>simp at aa;subst aa;exact aP
   | succ j=>simp at aa
  ·intro j x u aa hu
   have e:a.cells=[a]:=by cases a<;>first|rfl|simp [ax.one] at bt
   rw [e] at aa
   cases j with
   | zero=>simp at aa hu;subst aa;subst hu;exact h
   | succ j=>simp at aa
 ·cases h with
  | agg vs aL j6 ap=>exact ⟨vs,rfl,aL,j6,ap⟩
end Go.VL
namespace Go.VL
set_option linter.unusedVariables false
set_option linter.unusedSimpArgs false
open Go
def S.put (s:S)(dst:Option Tmp)(v:ax):S :=
 match dst with
 | some t=>{s with E:=fun u=>if u=t then v else s.E u}
 | none=>s
def S.setRow (s:S)(r:Nat)(row:List af):S:={s with aR:=fun q=>if q=r then some row else s.aR q}
@[simp] theorem S.tY (s:S) (dst:Option Tmp) (v:ax):(s.put dst v).aR=s.aR:=by cases dst<;>rfl
@[simp] theorem S.ad3 (s:S) (r:Nat) (row:List af):(s.setRow r row).E=s.E:=rfl
theorem Ai {s bL:S}(h:bL.aR=s.aR):bL.aj=s.aj:=by funext r k;simp [S.aj,h]
theorem xY {s bL:S}(h:bL.aR=s.aR):bL.a0=s.a0:=by funext r k;simp [S.a0,h]
theorem xZ {s bL:S}(h:bL.aR=s.aR)(av:fj):bL.ba av=s.ba av:=by unfold S.ba;rw [Ai h]
theorem Vy {s bL:S}(h:bL.aR=s.aR)(av:fj):bL.l0 av=s.l0 av:=by unfold S.l0;rw [Ai h]
theorem Aj {s bL:S}(h:bL.aR=s.aR)(g:G)(av:fj)(w:World):bL.ok g av w=s.ok g av w:=by
 funext b;unfold S.ok;rw [Vy h]
theorem il.congr {g:G}{s bL:S}{av:fj}{w:World}(h:il g s av w)(e:bL.aR=s.aR):il g bL av w where
 obj:=by rw [Ai e,xY e,xZ e,Aj e];exact h.obj
 inj:=by rw [Ai e];exact h.inj
 own:=by rw [Ai e];exact h.own
 hb:=h.hb
 mlt:=h.mlt
 ny:=h.ny
 stay:=by rw [xY e,xZ e];exact h.stay
 low:=h.low
theorem Xs (a:Act)(dst:Option Tmp)(v:Value)(t:Nat)(eS:∀d,dst=some d→d<a.tmps.size):
 (a.put dst v).tmps.getD t undef=if dst=some t then v else a.tmps.getD t undef:=by
 cases dst with
 | none=>simp [Act.put]
 | some d =>
  have:=eS d rfl
  simp only [Act.put,Array.getD_eq_getD_getElem?,Array.getElem?_setIfInBounds,Option.some.injEq]
  by_cases e:d=t
  ·subst e;simp [this]
  ·simp [e]
theorem cI.put {g:G}{s:S}{av:fj}{a:Act}{w:World}(h:cI g s av a w)(dst:Option Tmp){x:ax}{v:Value}
 (bh : ∀d,dst=some d→d<g.N) (ap:Rel w (s.ok g av w) s.a0 (s.ba av) x v):cI g (s.put dst x) av (a.put dst v) w where
 toil:=h.toil.congr (S.tY s dst x)
 env:=by
  have e:=S.tY s dst x
  rw [Aj e,xY e,xZ e]
  intro t
  rw [Xs a dst v t fun d tf=>Nat.lt_of_lt_of_le (bh d tf) h.jQ]
  cases dst with
  | none=>simpa [S.put] using h.env t
  | some d =>
   simp only [S.put,Option.some.injEq]
   by_cases e:t=d
   ·subst e;simpa using ap
   ·rw [if_neg e,if_neg (Ne.symm e)];exact h.env t
 defers:=by cases dst<;>exact h.defers
 jQ:=by cases dst<;>simpa [Act.put] using h.jQ
structure Step (g:G) (s:S) (av:fj) (w:World) (bL:S) (bJ:fj) (bG:World):Prop where
 a0 : ∀r k,s.a0 r k→bL.a0 r k
 ba : ∀r k,s.a0 r k→bL.ba bJ r k=s.ba av r k∨bL.ba bJ r k=none
 live : ∀b,bL.l0 bJ b→s.l0 av b∨w.heap.size≤b
 heap : ∀b,b<w.heap.size→ ¬s.l0 av b→bG.heap[b]? = w.heap[b]?
 size:w.heap.size≤bG.heap.size
theorem Step.ok {g:G}{s bL:S}{av bJ:fj}{w bG:World}(h:Step g s av w bL bJ bG)(b:Nat)(aJ:s.ok g av w b):bL.ok g bJ bG b :=
 ⟨Nat.lt_of_lt_of_le aJ.1 h.size,aJ.2.1,fun aL=>by
  rcases h.live b aL with o|o
  ·exact aJ.2.2 o
  ·exact absurd aJ.1 (by omega)⟩
theorem Step.rel {g:G}{s bL:S}{av bJ:fj}{w bG:World}(h:Step g s av w bL bJ bG){x:ax}{v:Value}
 (ap:Rel w (s.ok g av w) s.a0 (s.ba av) x v):Rel bG (bL.ok g bJ bG) bL.a0 (bL.ba bJ) x v :=
 ap.mono h.ok (fun b aJ=>h.heap b aJ.1 aJ.2.2) h.a0 h.ba
theorem Step.obj {g:G}{s bL:S}{av bJ:fj}{w bG:World}(h:Step g s av w bL bJ bG){I:af}{p:Option (Nat×Nat)}
 (ah : ∀b m,p=some (b,m)→bG.heap[b]? = w.heap[b]?) (ak:ja w (s.ok g av w) s.a0 (s.ba av) I p) :
 ja bG (bL.ok g bJ bG) bL.a0 (bL.ba bJ) I p:=by
 cases p with
 | none=>exact ak
 | some q =>
  obtain ⟨b,m⟩:=q
  obtain ⟨c,eB,o,R,ad,aD⟩:=ak
  refine ⟨c,eB,(ah b m rfl).trans o,R,ad,fun j x aa=> ?_⟩
  obtain ⟨v,aw,aC,b1⟩:=aD j x aa
  exact ⟨v,aw,aC,h.rel b1⟩
theorem Step.stay {g:G}{s bL:S}{av bJ:fj}{w bG:World}(h:Step g s av w bL bJ bG)
 (bW : ∀j k,g.pw j k→s.a0 j k∧(s.ba av j k=g.rH j k∨s.ba av j k=none)) : ∀j k,g.pw j k→bL.a0 j k∧(bL.ba bJ j k=g.rH j k∨bL.ba bJ j k=none):=by
 intro j k aA
 obtain ⟨o,R⟩:=bW j k aA
 refine ⟨h.a0 j k o,?_⟩
 rcases h.ba j k o with e|e
 ·rw [e];exact R
 ·exact .inr e
theorem A6.step {g:G}{w bG:World}(h:A6 g w)(o:bG.os=w.os)(R:bG.tape=w.tape)(ad:bG.output=w.output)(aD:w.heap.size≤bG.heap.size)
 (aM : ∀b,b<g.mN.heap.size→ ¬g.p2 b→bG.heap[b]? = w.heap[b]?):A6 g bG :=
 ⟨o.trans h.os,R.trans h.tape,ad.trans h.output,Nat.le_trans h.size aD,fun b aJ hm=>(aM b aJ hm).trans (h.block b aJ hm)⟩
theorem lK (s:S)(r:Nat)(row:List af)(q k:Nat):(s.setRow r row).aj q k=if q=r then dk (some row) k else s.aj q k:=by
 unfold S.aj S.setRow
 by_cases e:q=r<;>simp [e]
theorem nr (s:S)(r:Nat)(row:List af)(q k:Nat):(s.setRow r row).a0 q k↔(if q=r then k<row.length else s.a0 q k):=by
 unfold S.a0 S.setRow
 by_cases e:q=r<;>simp [e]
theorem DV {s:S}{r k:Nat}{I:af}(h:s.aj r k=some I):s.a0 r k:=by
 unfold S.aj dk at h
 unfold S.a0
 cases ap:s.aR r with
 | none=>rw [ap] at h;simp at h
 | some l =>
  rw [ap] at h
  simp only at h
  rcases Nat.lt_or_ge k l.length with o|o
  ·simpa using o
  ·rw [List.getElem?_eq_none o] at h;simp at h
theorem xA {s:S}{r:Nat}(h:s.aR r=none)(k:Nat): ¬s.a0 r k:=by simp [S.a0,h]
theorem Dw (s:S){r:Nat}{l row:List af}(ap:s.aR r=some l)(aL:l.length≤row.length)(q k:Nat)(h:s.a0 q k):(s.setRow r row).a0 q k:=by
 rw [nr]
 by_cases e:q=r
 ·subst e;rw [if_pos rfl];simp [S.a0,ap] at h;omega
 ·rw [if_neg e];exact h
theorem ady {s:S}{r:Nat}(h:s.aR r=none)(k:Nat):s.aj r k=none:=by simp [S.aj,h,dk]
def fj.set (av:fj)(r k:Nat)(p:Option (Nat×Nat)):fj:=fun q j=>if q=r∧j=k then p else av q j
theorem mo (I:af)(k:Nat):dk (some [I]) k=if k=0∧I.cn≠ .gone then some I else none:=by
 unfold dk
 cases k with
 | zero=>by_cases h:I.cn = .gone<;>simp [h]
 | succ k=>simp
theorem Rel.drew {w:World}{ok:Nat→Prop}{a0:jg}{ba:i3}{x:ax}{v:Value}(h:Rel w ok a0 ba x v):Rel w.drew ok a0 ba x v :=
 h.mono (fun _ h=>h) (fun _ _=>rfl) (fun _ _ h=>h) (fun _ _ _=> .inl rfl)
theorem ja.drew {w:World}{ok:Nat→Prop}{a0:jg}{ba:i3}{I:af}{p:Option (Nat×Nat)}(h:ja w ok a0 ba I p):ja w.drew ok a0 ba I p:=by
 cases p with
 | none=>exact h
 | some q =>
  obtain ⟨c,eB,o,R,ad,aD⟩:=h
  exact ⟨c,eB,o,R,ad,fun j x aa=>let ⟨v,a,b,c⟩:=aD j x aa;⟨v,a,b,c.drew⟩⟩
theorem il.drew {g:G}{s:S}{av:fj}{w:World}(h:il g s av w):il g s av w.drew :=
 {obj:=fun r k I ak=>(h.obj r k I ak).drew,inj:=h.inj,own:=h.own,hb:=⟨h.hb.os,h.hb.tape,h.hb.output,h.hb.size,h.hb.block⟩,mlt:=h.mlt,ny:=h.ny,stay:=h.stay,low:=h.low}
theorem cI.drew {g:G}{s:S}{av:fj}{a:Act}{w:World}(h:cI g s av a w):cI g s av a w.drew where
 toil:=h.toil.drew
 env:=fun t=>(h.env t).drew
 defers:=h.defers
 jQ:=h.jQ
theorem cI.alloc {g:G}{s:S}{av:fj}{a:Act}{w:World}(h:cI g s av a w){r:Nat}(ap:s.aR r=none)(I:af)(aX:I.cn = .live)
 (c:Array Value) (eB:TypeId) (hlen : ∀e∈I.es,e.length=I.sz)
 (aP : ∀(j:Nat) x,I.es.flatten[j]? = some x→ ∃v,c[j]? = some v∧ke v=true∧Rel w (s.ok g av w) s.a0 (s.ba av) x v) :
 ∃bJ,bJ r 0=some (w.heap.size,c.size)∧cI g (s.setRow r [I]) bJ a (w.alloc (.cells c eB)) ∧
  ∀x v,Rel w (s.ok g av w) s.a0 (s.ba av) x v→Rel (w.alloc (.cells c eB)) ((s.setRow r [I]).ok g bJ (w.alloc (.cells c eB))) (s.setRow r [I]).a0 ((s.setRow r [I]).ba bJ) x v:=by
 have lT : ∀q k,q≠r→(av.set r 0 (some (w.heap.size,c.size))) q k=av q k:=fun q k a6=>by simp [fj.set,a6]
 have bi : ∀q k,q≠r→(s.setRow r [I]).aj q k=s.aj q k:=fun q k a6=>by rw [lK,if_neg a6]
 have yA : ∀k,(s.setRow r [I]).aj r k=if k=0 then some I else none:=fun k=>by
  rw [lK,if_pos rfl,mo];simp [aX]
 have s7 : ∀q k p b m,s.aj q k=some p→av q k=some (b,m)→b<w.heap.size:=fun q k p b m ah a6=>by
  have:=h.obj q k p ah
  rw [a6] at this
  obtain ⟨dM,mJ,fQ,_⟩:=this
  exact (Array.getElem?_eq_some_iff.1 fQ).1
 have c5:Step g s av w (s.setRow r [I]) (av.set r 0 (some (w.heap.size,c.size))) (w.alloc (.cells c eB)):=by
  refine ⟨fun q k a6=>(nr _ _ _ _ _).2 (by rw [if_neg (by rintro rfl;exact xA ap k a6)];exact a6),fun q k a6=> ?_,fun b aJ=> ?_,fun b aJ _=>heap_alloc_old w _ b aJ,by simp⟩
  ·have cu:q≠r:=by rintro rfl;exact xA ap k a6
   left
   simp only [S.ba,bi q k cu,lT q k cu]
  ·obtain ⟨q,k,p,m,o,R,ad⟩:=aJ
   by_cases e:q=r
   ·subst e
    rw [yA] at o
    by_cases e0:k=0
    ·subst e0;simp [fj.set] at ad;right;omega
    ·simp [e0] at o
   ·rw [bi q k e] at o;rw [lT q k e] at ad
    exact .inl ⟨q,k,p,m,o,R,ad⟩
 refine ⟨av.set r 0 (some (w.heap.size,c.size)),by simp [fj.set],?_,fun x v=>c5.rel⟩
 refine {toil:=⟨?_,?_,?_,?_,h.mlt,h.ny,c5.stay h.stay,h.low⟩,env:=fun t=>c5.rel (h.env t),defers:=h.defers,jQ:=h.jQ}
 ·intro q k p ah
  by_cases e:q=r
  ·subst e
   rw [yA] at ah
   by_cases e0:k=0
   ·subst e0
    simp at ah
    subst ah
    simp only [fj.set,and_self,if_true]
    exact ⟨c,eB,heap_alloc_new w _,rfl,hlen,fun j x aa=>let ⟨v,aw,aC,b1⟩:=aP j x aa;⟨v,aw,aC,c5.rel b1⟩⟩
   ·simp [e0] at ah
  ·rw [bi q k e] at ah
   rw [lT q k e]
   exact c5.obj (fun b m hm=>heap_alloc_old w _ b (s7 q k p b m ah hm)) (h.obj q k p ah)
 ·intro q k p hs dI km b m a4 o R ad aD
  by_cases e:q=r<;>by_cases eD:hs=r
  ·subst e;subst eD
   rw [yA] at o R
   by_cases e0:k=0<;>by_cases aw:dI=0<;>simp [e0,aw] at o R
   exact ⟨rfl,by omega⟩
  ·subst e
   rw [yA] at o;rw [bi _ _ eD] at R;rw [lT _ _ eD] at aD
   by_cases e0:k=0<;>simp [e0] at o
   subst e0
   simp [fj.set] at ad
   have:=s7 hs dI km b a4 R aD
   omega
  ·subst eD
   rw [bi _ _ e] at o;rw [yA] at R;rw [lT _ _ e] at ad
   by_cases e0:dI=0<;>simp [e0] at R
   subst e0
   simp [fj.set] at aD
   have:=s7 q k p b m o ad
   omega
  ·rw [bi _ _ e] at o;rw [bi _ _ eD] at R;rw [lT _ _ e] at ad;rw [lT _ _ eD] at aD
   exact h.inj q k p hs dI km b m a4 o R ad aD
 ·intro q k p b m o R
  by_cases e:q=r
  ·subst e
   rw [yA] at o
   by_cases e0:k=0<;>simp [e0] at o
   subst e0
   simp [fj.set] at R
   left
   have:=h.hb.size
   omega
  ·rw [bi _ _ e] at o;rw [lT _ _ e] at R
   exact h.own q k p b m o R
 ·exact h.hb.step rfl rfl rfl (by simp) fun b aJ _=>heap_alloc_old w _ b (Nat.lt_of_lt_of_le aJ h.hb.size)
theorem OL (l:List af)(k:Nat)(I b5:af)(h:dk (some l) k=some I)(aX:b5.cn≠ .gone)(j:Nat):
 dk (some (l.set k b5)) j=if j=k then some b5 else dk (some l) j:=by
 unfold dk at *
 have dC:k<l.length:=by
  rcases Nat.lt_or_ge k l.length with o|o
  ·exact o
  ·simp [List.getElem?_eq_none o] at h
 by_cases e:j=k
 ·subst e;simp [dC,aX]
 ·simp only [List.getElem?_set,if_neg (Ne.symm e),if_neg e]
theorem cI.write {g:G}{s:S}{av:fj}{a:Act}{w bG:World}(h:cI g s av a w){r k b m:Nat}{l:List af}{I:af}(ap:s.aR r=some l)(ak:s.aj r k=some I)
 (aX:I.cn = .live) (ah:av r k=some (b,m)) (es:List (List ax)) (c:Array Value) (eB:TypeId)
 (hw:bG.heap[b]? = some (.cells c eB (0,0))) (eS:bG.heap.size=w.heap.size) (vq : ∀q,q≠b→bG.heap[q]? = w.heap[q]?)
 (q4:bG.os=w.os) (KL:bG.tape=w.tape) (Kk:bG.output=w.output) (hm:c.size=m)
 (hlen : ∀e∈es,e.length=I.sz)
 (aP : ∀(j:Nat) x,es.flatten[j]? = some x→ ∃v,c[j]? = some v∧ke v=true∧Rel w (s.ok g av w) s.a0 (s.ba av) x v) :
 cI g (s.setRow r (l.set k {I with es})) av a bG ∧
  ∀x v,Rel w (s.ok g av w) s.a0 (s.ba av) x v→Rel bG ((s.setRow r (l.set k {I with es})).ok g av bG) (s.setRow r (l.set k {I with es})).a0 ((s.setRow r (l.set k {I with es})).ba av) x v:=by
 have hl:({I with es}:af).cn≠ .gone:=by rw [aX];simp
 have bi : ∀q j,(s.setRow r (l.set k {I with es})).aj q j=if q=r∧j=k then some {I with es} else s.aj q j:=by
  intro q j
  rw [lK]
  by_cases e:q=r
  ·subst e
   have dR:dk (some l) k=some I:=by rw [← ap];exact ak
   rw [if_pos rfl,OL l k I _ dR hl]
   by_cases aC:j=k<;>simp [aC,S.aj,ap]
  ·simp [e]
 have qh:s.l0 av b:=⟨r,k,I,m,ak,aX,ah⟩
 have c5:Step g s av w (s.setRow r (l.set k {I with es})) av bG:=by
  refine ⟨Dw s ap (by simp),fun q j a6=> .inl ?_,fun q a6=> ?_,fun q a6 aL=>vq q fun e=>aL (e▸qh),Nat.le_of_eq eS.symm⟩
  ·simp only [S.ba,bi]
   by_cases e:q=r∧j=k
   ·obtain ⟨rfl,rfl⟩:=e;simp [ak]
   ·rw [if_neg e]
  ·obtain ⟨hs,j,p,a4,o,R,ad⟩:=a6
   rw [bi] at o
   by_cases e:hs=r∧j=k
   ·obtain ⟨rfl,rfl⟩:=e
    exact .inl ⟨hs,j,I,a4,ak,aX,ad⟩
   ·rw [if_neg e] at o
    exact .inl ⟨hs,j,p,a4,o,R,ad⟩
 refine ⟨{toil:=⟨?_,?_,?_,?_,h.mlt,h.ny,c5.stay h.stay,h.low⟩,env:=fun t=>c5.rel (h.env t),defers:=h.defers,jQ:=h.jQ},fun x v=>c5.rel⟩
 ·intro q j p kt
  rw [bi] at kt
  by_cases e:q=r∧j=k
  ·obtain ⟨rfl,rfl⟩:=e
   simp at kt
   subst kt
   rw [ah]
   exact ⟨c,eB,hw,hm,hlen,fun j x aa=>let ⟨v,aw,aC,b1⟩:=aP j x aa;⟨v,aw,aC,c5.rel b1⟩⟩
  ·rw [if_neg e] at kt
   refine c5.obj (fun jT a4 kV=>vq jT ?_) (h.obj q j p kt)
   rintro rfl
   exact e (h.inj q j p r k I jT a4 m kt ak kV ah)
 ·intro q j p hs h2 km jT gi gB o R ad aD
  have key : ∀q j p,(s.setRow r (l.set k {I with es})).aj q j=some p→ ∃km,s.aj q j=some km:=by
   intro q j p a6
   rw [bi] at a6
   by_cases e:q=r∧j=k
   ·obtain ⟨rfl,rfl⟩:=e;exact ⟨I,ak⟩
   ·rw [if_neg e] at a6;exact ⟨p,a6⟩
  obtain ⟨hf,abm⟩:=key q j p o
  obtain ⟨iI,Bs⟩:=key hs h2 km R
  exact h.inj q j hf hs h2 iI jT gi gB abm Bs ad aD
 ·intro q j p jT a4 o R
  rw [bi] at o
  by_cases e:q=r∧j=k
  ·obtain ⟨rfl,rfl⟩:=e;exact h.own q j I jT a4 ak R
  ·rw [if_neg e] at o;exact h.own q j p jT a4 o R
 ·refine h.hb.step q4 KL Kk (Nat.le_of_eq eS.symm) fun jT pU kV=>vq jT ?_
  rintro rfl
  rcases h.own r k I jT m ak ah with o|o
  ·omega
  ·exact kV o
end Go.VL
namespace Go.VL
set_option linter.unusedVariables false
set_option linter.unusedSimpArgs false
open Go
inductive tv where
 | id
 | eU (es:List (List ax))
 | lU (sz:Nat)
 | jv
 | eg (x:ax)
 | len (n:Nat)
 | oR (sz:Nat)
 | at_ (j i n:Nat)
 | view (ek:Nat) (I:af) (es:List (List ax))
 deriving Inhabited
inductive zf where
 | cx (c:tv)
 | ptr (l:List tv)
 | s8 (l:List tv)
 | agg (l:List tv)
 deriving Inhabited
inductive lC where
 | bE (c:zf)
 | comp (l:List zf)
 deriving Inhabited
inductive iJ where
 | pure
 | box (l:List tv)
 | eg (row:List af)
 | bD (row:List af)
 | rx (row:List af)
 | drop
 deriving Inhabited
structure nz where
 bh:List (Nat×Nat):=[]
 dd:Option (Nat×Nat):=none
 deriving DecidableEq
inductive Src where
 | row (r:Nat)
 | aj (r k:Nat) (I:af)
 deriving Inhabited
structure Cb where
 aQ:List Src:=[]
 cO:List iJ:=[]
 ac:List lC
 r:ax
 d4:List (List af):=[]
 fu:lC:= .bE (.cx .id)
 gd:List iJ:=[]
 dG:List Nat:=[]
 dD:Bool:=true
inductive fo where
 | none
 | al (t:Bool)
 | cq (c:List ax)
 | hz (I:af) (c:List ax)
 | dh
 | call (c:Cb)
 | aY (m:Nat) (I:Option af:=Option.none)
 | fe (t:Nat) (v:ax) (a:fo)
 | wg (r:Nat) (a:fo)
 | Cc (r n:Nat) (a:fo)
structure hJ where
 val:ax
 fK:List (Nat×List af):=[]
 fg:List Prop:=[]
def AB (P:Program)(t:TypeId):Bool :=
 match P.underlying t with
 | some (.struct _)|some (.array _ _)=>true
 | _=>false
def yB (nG:List Int):ByteArray:=nG.foldl (fun r n=>r.push (UInt8.ofNat n.toNat)) ByteArray.empty
def bytesOf:List (List ax)→Option (List Int)
 | []=>some []
 | [.n .u8 n]::es=>(bytesOf es).map (n :: ·)
 | _=>none
def elemAt (es:List (List ax))(i:Nat):fo→Option (List ax×List Prop)
 | .cq c=>some (c,[es[i]? = some c])
 | .hz _ c=>some (c,[es[i]? = some c])
 | _=>match es[i]? with
  | some c=>some (c,[])
  | none=>none
def oG (row:Option (List af))(k:Nat):fo→Option (af×List Prop)
 | .hz I _=>match row with
  | some row=>some (I,[dk (some row) k=some I])
  | none=>none
 | _=>match dk row k with
  | some I=>some (I,[])
  | none=>none
def qU (P:Program)(t:TypeId)(c:List ax)(off:Nat):Option ax :=
 if !((P.underlying t).isSome && (P.info? t).isSome) then none else
 if AB P t then (if off+P.cellsOf t≤c.length then some (.agg ((c.drop off).take (P.cellsOf t))) else none)
 else match c[off]? with
  | some x=>if x.one then some x else none
  | none=>none
def Kl (op:BinOp)(x y:ax):Option (ax×List Prop) :=
 match x,y with
 | .n k a,.n dI b =>
  match op with
  | .shl=>some (.n k (k.wrap (a*2 ^ (min b.toNat k.bits))),[0≤b])
  | .shr=>some (.n k (a.fdiv (2 ^ (min b.toNat k.bits))),[0≤b])
  | _=>if k≠dI then none else
   match op with
   | .add=>some (.n k (k.wrap (a+b)),[])
   | .sub=>some (.n k (k.wrap (a-b)),[])
   | .mul=>some (.n k (k.wrap (a*b)),[])
   | .quo=>some (.n k (k.wrap (a.tdiv b)),[b≠0])
   | .rem=>some (.n k (a.tmod b),[b≠0])
   | .and=>some (.n k (k.wrap ((BitVec.ofInt k.bits a &&& BitVec.ofInt k.bits b).toNat)),[])
   | .or=>some (.n k (k.wrap ((BitVec.ofInt k.bits a ||| BitVec.ofInt k.bits b).toNat)),[])
   | .xor=>some (.n k (k.wrap ((BitVec.ofInt k.bits a ^^^ BitVec.ofInt k.bits b).toNat)),[])
   | .eql=>some (.b (a == b),[])
   | .neq=>some (.b (a != b),[])
   | .lss=>some (.b (decide (a<b)),[])
   | .leq=>some (.b (decide (a≤b)),[])
   | .gtr=>some (.b (decide (b<a)),[])
   | .geq=>some (.b (decide (b≤a)),[])
   | _=>none
 | .s a,.s b =>
  match op with
  | .add=>some (.s (a++b),[a.size+b.size<9223372036854775808])
  | .eql=>some (.b (a.toList == b.toList),[])
  | .neq=>some (.b (!(a.toList == b.toList)),[])
  | _=>none
 | _,_=>none
def sk (P:Program)(t:TypeId)(x y:ax):Option Bool :=
 match P.underlying t,x,y with
 | some .bool,.b a,.b c=>some (a == c)
 | some (.pointer _),.ik,.ik=>some true
 | some (.pointer _),.eu ..,.ik=>some false
 | some (.pointer _),.ik,.eu .. => some false
 | some (.slice _),.ex,.ex=>some true
 | some (.slice _),.iQ,.ex=>some false
 | _,_,_=>none
def KM (op:UnOp)(x:ax):Option ax :=
 match op,x with
 | .neg,.n k a=>some (.n k (k.wrap (0-a)))
 | .not,.b a=>some (.b (!a))
 | _,_=>none
def fieldsOf (P:Program)(t:TypeId):Option (Array Field) :=
 match P.underlying t with
 | some (.struct jL)=>some jL
 | _=>none
def qi (P:Program)(t:TypeId):Option TypeId :=
 match P.underlying t with
 | some (.slice e)=>some e
 | _=>none
def qJ (P:Program)(t:TypeId):Option (List ax) :=
 match P.info? t with
 | some i=>match i.zero with
  | some v=>if v.cells.toList.all (·.oneCell') then some (v.cells.toList.map ofValue) else none
  | none=>none
 | none=>none
def A7 (P:Program)(t:TypeId):Option (Nat×TypeId) :=
 match P.underlying t with
 | some (.array n e)=>if (P.info? e).isSome∧P.cellsOf e≠0∧1<n then some (n,e) else none
 | _=>none
def qk (j:Int):List ax→List ax→Option (List ax)
 | [],[]=>some []
 | .n k x::a,.n dI y::b=>if k=dI then (qk j a b).map (.n k (if j=0 then x else y) :: ·) else none
 | _,_=>none
def JR (P:Program)(t:TypeId)(x kn:ax):Option hJ :=
 match A7 P t,x,kn with
 | some (2,e),.agg cs,.n _ j=>match qU P e cs (0*P.cellsOf e),qU P e cs (1*P.cellsOf e) with
  | some (.agg a),some (.agg b)=>(qk j a b).map fun c=>{val:= .agg c,fg:=[0≤j,j<2]}
  | _,_=>none
 | _,_,_=>none
def ys (P:Program)(aR:Nat→Option (List af))(t:TypeId)(x kn:ax)(cB:fo):Option hJ :=
 match A7 P t,x,kn with
 | some (n,e),.ref r k i off,.n _ j=>match oG (aR r) k cB with
  | some (aj,b3)=>match elemAt aj.es i cB with
   | some (_,a9)=>some {val:= .ref r k i (off+j.toNat*P.cellsOf e),fg:=b3++a9++[0≤j,j<n]}
   | none=>none
  | none=>none
 | _,_,_=>none
def AD:ax→ax→ax
 | .ex,.isl sz []=> .isl sz []
 | .ik,.eP sz none=> .eP sz none
 | .ex,.iR r c sz none=> .iR r c sz none
 | x,_=>x
def rv:List ax→List ax→List ax
 | x::z,y::c=>AD x y::rv z c
 | z,_=>z
def sW (z:List ax):fo→List ax
 | .cq c=>rv z c
 | _=>z
def setCells (c:List ax)(off:Nat)(vs:List ax):List ax:=c.take off++vs++c.drop (off+vs.length)
def sc:List ax→List (Nat×Nat×ax)→Option (List ax)
 | c,[]=>some c
 | c,(off,size,x)::rest =>
  if x.xX && x.cells.length=size && decide (off+size≤c.length) then sc (setCells c off x.cells) rest else none
def yt (sz:Nat):List (List ax)→List (Nat×ax)→Option (List (List ax))
 | es,[]=>some es
 | es,(i,x)::rest=>if x.xX && x.cells.length=sz && decide (i<es.length) then yt sz (es.set i x.cells) rest else none
def az:Option ax→Nat→Option (Nat×List Prop)
 | none,d=>some (d,[])
 | some (.n _ x),_=>some (x.toNat,[0≤x])
 | _,_=>none
def Jp (P:Program)(t:TypeId)(parts:List (Nat×ax)):Option hJ :=
 match A7 P t,qJ P t with
 | some (_,e),some z=>(sc z (parts.map fun p=>(p.1*P.cellsOf e,P.cellsOf e,p.2))).map fun c=>{val:= .agg c}
 | _,_=>none
def eQ (P:Program)(E:Nat→ax)(aR:Nat→Option (List af))(aT:Nat)(I:Oper)(cB:fo):Option hJ :=
 let hL:=eH E
 match I.op with
 | .move x | .assign x=>some {val:=hL x}
 | .pick c a b =>
  match hL c,cB with
  | .b x,.al t=>some {val:=if t then hL a else hL b,fg:=[x=t]}
  | .b true,_=>some {val:=hL a}
  | .b false,_=>some {val:=hL b}
  | _,_=>none
 | .alloc t =>
  match qJ P t with
  | some c=>some {val:= .ref aT 0 0 0,fK:=[(aT,[⟨c.length,[c],.live⟩])]}
  | none=>none
 | .box _ x =>
  match hL x with
  | .agg c=>some {val:= .ref aT 0 0 0,fK:=[(aT,[⟨c.length,[c],.live⟩])]}
  | v=>if v.one then some {val:= .ref aT 0 0 0,fK:=[(aT,[⟨1,[[v]],.live⟩])]} else none
 | .load t x =>
  match hL x with
  | .ref r k i off =>
   match oG (aR r) k cB with
   | some (aj,b3)=>match elemAt aj.es i cB with
    | some (c,a9)=>match qU P t c off with
     | some v=>some {val:=v,fg:=b3++a9}
     | none=>none
    | none=>none
   | none=>none
  | .eu _ es i off =>
   match elemAt es i cB with
   | some (c,a9)=>match qU P t c off with
    | some v=>some {val:=v,fg:=a9}
    | none=>none
   | none=>none
  | _=>none
 | .store t x y =>
  match hL x with
  | .ref r k i off =>
   match aR r with
   | none=>none
   | some row =>
   match oG (some row) k cB with
   | some (aj,b3) =>
    if aj.cn≠ .live then none else
    let v:=hL y
    if v.xX=false then none else
    if v.cells.length≠P.cellsOf t∨(P.info? t).isSome=false then none else
    match cB with
    | .dh=>if off=0 then some {val:= .dead,fK:=[(r,row.set k {aj with es:=aj.es.set i v.cells})],fg:=b3++[i<aj.es.length,v.cells.length=aj.sz]} else none
    | _=>match elemAt aj.es i cB with
     | some (c,a9)=>if off+v.cells.length≤c.length then some {val:= .dead,fK:=[(r,row.set k {aj with es:=aj.es.set i (setCells c off v.cells)})],fg:=b3++a9} else none
     | none=>none
   | none=>none
  | _=>none
 | .nilCheck x =>
  match hL x with
  | .ref r k i off=>match oG (aR r) k cB with
   | some (aj,b3)=>match elemAt aj.es i cB with
    | some (_,a9)=>some {val:= .ref r k i off,fg:=b3++a9}
    | none=>none
   | none=>none
  | .eu sz es i off=>some {val:= .eu sz es i off}
  | .fn f c=>some {val:= .fn f c}
  | _=>none
 | .binOp op t x y _ =>
  match Kl op (hL x) (hL y) with
  | some (v,aj)=>some {val:=v,fg:=aj}
  | none=>match op with
   | .eql=>(sk P t (hL x) (hL y)).map fun r=>{val:= .b r}
   | .neq=>(sk P t (hL x) (hL y)).map fun r=>{val:= .b (!r)}
   | _=>none
 | .unOp op _ x=>(KM op (hL x)).map fun v=>{val:=v}
 | .convert src dst x =>
  match P.underlying dst,hL x with
  | some (.int k),.n _ a=>if (P.underlying src).isSome then some {val:= .n k (k.wrap a)} else none
  | some .string,.bF r k bV len =>
   match (qi P src).bind P.underlying,dk (aR r) k with
   | some (.int .u8),some aj=>match bytesOf ((aj.es.drop bV).take len) with
    | some nG=>if bV+len≤aj.es.length∧aj.sz=1 then some {val:= .s (yB nG)} else none
    | none=>none
   | _,_=>none
  | _,_=>none
 | .makeFunc (.func f) first captured =>
  if first.size=0 then some {val:= .fn f (captured.toList.map hL)} else none
 | .makeSlice t l c =>
  match qi P t,hL l,hL c with
  | some e,.n _ l,.n _ c =>
   match P.info? e,qJ P e with
   | some i,some z=>if z.length=i.size then some {val:= .bF aT 0 0 l.toNat,fK:=[(aT,[⟨z.length,List.replicate l.toNat (sW z cB),.live⟩])],fg:=[0≤l,l≤c,(i.bytes:Int)*c≤281474976710656,c<9223372036854775808]} else none
   | _,_=>none
  | _,_,_=>none
 | .fieldAddr t x f =>
  match fieldsOf P t with
  | some jL=>match jL[f]? with
   | some fd=>if P.cellsOf fd.type=0 then none else
    match hL x with
    | .ref r k i off=>match oG (aR r) k cB with
     | some (aj,b3)=>match elemAt aj.es i cB with
      | some (_,a9)=>some {val:= .ref r k i (off+fd.offset),fg:=b3++a9}
      | none=>none
     | none=>none
    | .eu sz es i off=>some {val:= .eu sz es i (off+fd.offset)}
    | _=>none
   | none=>none
  | none=>none
 | .field t x f =>
  match fieldsOf P t with
  | some jL=>match jL[f]?,hL x with
   | some fd,.agg c=>(qU P fd.type c fd.offset).map fun v=>{val:=v}
   | _,_=>none
  | none=>none
 | .indexAddr t x kn =>
  match qi P t,hL kn with
  | some e,.n _ j =>
   match hL x with
   | .isl sz es=>if sz=P.cellsOf e∧sz≠0 then some {val:= .eu sz es j.toNat 0,fg:=[0≤j,j<es.length]} else none
   | .bF r k bV len=>match aR r with
    | some row=>match oG (some row) k cB with
     | some (aj,b3)=>if aj.sz=P.cellsOf e∧aj.sz≠0 then some {val:= .ref r k (bV+j.toNat) 0,fg:=b3++[0≤j,j<len]} else none
     | none=>none
    | none=>none
   | _=>none
  | _,_=>ys P aR t (hL x) (hL kn) cB
 | .index t x kn =>
  match P.underlying t,hL x,hL kn with
  | some .string,.s s,.n _ j=>some {val:= .n .u8 (s.data.toList.getD j.toNat 0).toNat,fg:=[0≤j,j<s.size]}
  | _,_,_=>JR P t (hL x) (hL kn)
 | .extract x i =>
  match hL x with
  | .dB vs=>(vs[i]?).map fun v=>{val:=v}
  | _=>none
 | .slice t x bV ag none =>
  match P.underlying t,hL x with
  | some (.slice e),.isl sz es =>
   match az (bV.map hL) 0,az (ag.map hL) es.length with
   | some (l,b3),some (h,a9)=>if sz=P.cellsOf e∧sz≠0 then some {val:= .isl sz ((es.drop l).take (h-l)),fg:=b3++a9++[l≤h,h≤es.length]} else none
   | _,_=>none
  | some (.slice e),.bF r k Cd len =>
   match aR r with
   | none=>none
   | some row=>match oG (some row) k cB with
    | none=>none
    | some (aj,Sa) =>
     match az (bV.map hL) 0,az (ag.map hL) len with
     | some (l,b3),some (h,a9)=>if aj.sz=P.cellsOf e∧aj.sz≠0 then some {val:= .bF r k (Cd+l) (h-l),fg:=Sa++b3++a9++[l≤h,h≤len]} else none
     | _,_=>none
  | some .string,.s s =>
   match az (bV.map hL) 0,az (ag.map hL) s.size with
   | some (l,b3),some (h,a9)=>some {val:= .s (s.extract l h),fg:=b3++a9++[l≤h,h≤s.size]}
   | _,_=>none
  | _,_=>none
 | .build t parts =>
  match fieldsOf P t,qJ P t with
  | some jL,some z =>
   if jL.toList.all (fun f=>(P.info? f.type).isSome)=false then none else
   match parts.toList.mapM fun (p:Nat×Operand)=>(jL[p.1]?).map fun fd=>(fd.offset,P.cellsOf fd.type,hL p.2) with
   | some l=>(sc z l).map fun c=>{val:= .agg c}
   | none=>none
  | _,_=>Jp P t (parts.toList.map fun p=>(p.1,hL p.2))
 | .buildSlice t len parts =>
  match qi P t with
  | some e=>match qJ P e with
   | some z =>
    if len*z.length>16777216∨z.length≠P.cellsOf e∨z.length=0 then none else
    match yt z.length (List.replicate len z) (parts.toList.map fun p=>(p.1,hL p.2)) with
    | some es=>some {val:= .bF aT 0 0 len,fK:=[(aT,[⟨z.length,es,.live⟩])]}
    | none=>none
   | none=>none
  | none=>none
 | .call {callee:= .builtin .len,args,argTypes} =>
  match args.toList.map hL,P.underlying (argTypes.getD 0 0),decide (argTypes.size=1) with
  | [.isl _ es],some (.slice _),true=>some {val:= .n .i64 es.length}
  | [.bF r k _ len],some (.slice _),true=>match aR r with
   | some row=>match oG (some row) k cB with
    | some (_,b3)=>some {val:= .n .i64 len,fg:=b3}
    | none=>none
   | none=>none
  | [.ex],some (.slice _),true=>some {val:= .n .i64 0}
  | [.s x],some .string,true=>some {val:= .n .i64 x.size}
  | _,_,_=>none
 | _=>none
end Go.VL
namespace Go.VL
set_option linter.unusedVariables false
set_option linter.unusedSimpArgs false
open Go
theorem pK {α:Type}{sz:Nat}(bW:0<sz): ∀(es:List (List α)) (_ : ∀e∈es,e.length=sz) (j:Nat),
 es.flatten[j]? = (es[j / sz]?).bind (·[j % sz]?)
 | [],_,j=>by simp
 | e::es,h,j=>by
  have he:e.length=sz:=h e (by simp)
  rw [List.flatten_cons,List.getElem?_append]
  by_cases aA:j<sz
  ·rw [if_pos (by omega),Nat.div_eq_of_lt aA,Nat.mod_eq_of_lt aA];simp
  ·rw [if_neg (by omega),he,pK bW es (fun eD l6=>h eD (by simp [l6])) (j-sz)]
   have o:j / sz=(j-sz) / sz+1:=Nat.div_eq_sub_div bW (by omega)
   have R:j % sz=(j-sz) % sz:=Nat.mod_eq_sub_mod (by omega)
   rw [o,R];simp
theorem z7 {α:Type}{sz:Nat}{es:List (List α)}(aL:∀e∈es,e.length=sz){i:Nat}{c:List α}(he:es[i]? = some c){j:Nat}(aA:j<sz):
 es.flatten[i*sz+j]? = c[j]? := by
 have bW:0<sz:=by omega
 rw [pK bW es aL]
 have o:(i*sz+j) / sz=i:=by
  rw [Nat.mul_comm,Nat.mul_add_div bW,Nat.div_eq_of_lt aA];omega
 have R:(i*sz+j) % sz=j:=by
  rw [Nat.mul_comm,Nat.mul_add_mod,Nat.mod_eq_of_lt aA]
 rw [o,R,he];rfl
theorem Nw {α:Type}{sz:Nat}{es:List (List α)}(aL:∀e∈es,e.length=sz){i:Nat}{c dM:List α}(he:es[i]? = some c)(aP:dM.length=sz)(j:Nat):
 (es.set i dM).flatten[j]? = if i*sz≤j∧j<i*sz+sz then dM[j-i*sz]? else es.flatten[j]? := by
 rcases Nat.eq_zero_or_pos sz with h0|bW
 ·subst h0
  have aw : ∀(l:List (List α)),(∀e∈l,e.length=0)→l.flatten=[]:=by
   intro l aL;induction l with
   | nil=>rfl
   | cons a l ih=>rw [List.flatten_cons,ih fun e he=>aL e (by simp [he])];have:=aL a (by simp);simp_all
  rw [aw _ aL,aw (es.set i dM) (by
   intro e hm
   rcases List.mem_or_eq_of_mem_set hm with h|h
   ·exact aL e h
   ·exact h▸aP)]
  simp
 ·have KN : ∀e∈es.set i dM,e.length=sz:=by
   intro e hm
   rcases List.mem_or_eq_of_mem_set hm with h|h
   ·exact aL e h
   ·exact h▸aP
  have ag:i<es.length:=by
   rcases Nat.lt_or_ge i es.length with h|h
   ·exact h
   ·rw [List.getElem?_eq_none h] at he;simp at he
  rw [pK bW _ KN,pK bW _ aL]
  by_cases a6:j / sz=i
  ·have o:i*sz≤j∧j<i*sz+sz:=by
    subst a6
    constructor
    ·exact Nat.div_mul_le_self j sz
    ·have:=Nat.lt_div_mul_add (a:=j) bW;omega
   rw [if_pos o,a6,List.getElem?_set_self ag]
   have:j % sz=j-i*sz:=by
    subst a6;have:=Nat.div_add_mod j sz;rw [Nat.mul_comm] at this;omega
   simp [this]
  ·have o : ¬(i*sz≤j∧j<i*sz+sz):=by
    rintro ⟨a,b⟩
    apply a6
    obtain ⟨d,rfl⟩ : ∃d,j=i*sz+d:=⟨j-i*sz,by omega⟩
    rw [Nat.mul_comm i sz,Nat.mul_add_div bW,Nat.div_eq_of_lt (by omega)]
    omega
   rw [if_neg o,List.getElem?_set_ne (Ne.symm a6)]
def oS (w:World)(ok:Nat→Prop)(a0:jg)(ba:i3)(d2 I sz:Nat)(es:List (List ax)):Prop :=
 (∀e∈es,e.length=sz)∧ ∀(j:Nat) x,es.flatten[j]? = some x→ ∃v,w.cell? ⟨d2,I+j,none⟩=some v∧ke v=true∧Rel w ok a0 ba x v
theorem ja.rd {w:World}{ok:Nat→Prop}{a0:jg}{ba:i3}{I:af}{d2 m:Nat}(h:ja w ok a0 ba I (some (d2,m))):oS w ok a0 ba d2 0 I.sz I.es:=by
 obtain ⟨c,eB,o,R,ad,aD⟩:=h
 refine ⟨ad,fun j x aa=> ?_⟩
 obtain ⟨v,aw,aC,b1⟩:=aD j x aa
 exact ⟨v,by rw [cell_of_row w d2 (0+j) c eB (0,0) o,Nat.zero_add];exact aw,aC,b1⟩
theorem adS {w:World}{ok:Nat→Prop}{a0:jg}{ba:i3}{x:ax}{v:Value}(h:Rel w ok a0 ba x v)(ak:x.one=true):v.oneCell'=true:=h.ke ak
theorem Oc {P:Program}{t:TypeId}(h:(P.underlying t).isSome=true)(w:World):(isAgg t).run P w = .ok (AB P t) w:=by
 cases bh:P.underlying t with
 | none=>simp [bh] at h
 | some d=>cases d<;>simp [isAgg,AB,run_underlying bh,bh]
theorem sM {P:Program}{t:TypeId}(h:(P.info? t).isSome=true)(w:World):(sizeOf t).run P w = .ok (P.cellsOf t) w:=by
 cases ag:P.info? t with
 | none=>simp [ag] at h
 | some i=>simp [sizeOf,typeInfo,ag,Program.cellsOf]
theorem rr (b I n:Nat):(⟨b,I,none⟩:Addr).add n=⟨b,I+n,none⟩:=by unfold Addr.add;split<;>simp_all
theorem I7 {P:Program}{w:World}{ok:Nat→Prop}{a0:jg}{ba:i3}{d2 I sz i off:Nat}{es:List (List ax)}{c:List ax}{t:TypeId}{x:ax}
 (iD:oS w ok a0 ba d2 I sz es) (he:es[i]? = some c) (cp:qU P t c off=some x) :
 ∃v,(Instr.loadAt t (.pointer (some ⟨d2,I+(i*sz+off),none⟩))).run P w = .ok v w∧Rel w ok a0 ba x v:=by
 have hlen:c.length=sz:=iD.1 c (List.mem_of_getElem? he)
 unfold qU at cp
 split at cp
 ·simp at cp
 ·rename_i ag
  simp only [Bool.not_eq_true',Bool.not_eq_false,Bool.and_eq_true] at ag
  have j6 : ∀j,j<sz→ ∃y v,c[j]? = some y∧w.cell? ⟨d2,I+(i*sz+j),none⟩=some v∧ke v=true∧Rel w ok a0 ba y v:=by
   intro j aA
   have aK:c[j]? = some c[j]:=List.getElem?_eq_getElem (by omega)
   obtain ⟨v,aw,aC,b1⟩:=iD.2 (i*sz+j) c[j] (by rw [z7 iD.1 he aA,aK])
   exact ⟨_,v,aK,aw,aC,b1⟩
  simp only [Instr.loadAt,Instr.sureAddr,loadVar,Sem.run_bind,Sem.run_pure,Result.andThen,Oc ag.1,sM ag.2]
  split at cp
  ·rename_i rF
   rw [rF]
   split at cp
   ·rename_i hle
    simp at cp;subst cp
    have aL:=run_loadCells (P:=P) w ⟨d2,I+(i*sz+off),none⟩ (P.cellsOf t) (fun j=>(w.cell? ⟨d2,I+(i*sz+(off+j)),none⟩).getD undef) (by
     intro j aA
     obtain ⟨y,v,-,aw,-,-⟩:=j6 (off+j) (by omega)
     rw [rr,show I+(i*sz+off)+j=I+(i*sz+(off+j)) by omega,aw];rfl)
    refine ⟨.agg (List.map (fun j=>(w.cell? ⟨d2,I+(i*sz+(off+j)),none⟩).getD undef) (List.range (P.cellsOf t))).toArray,by simp [aL,Result.andThen,sM ag.2],?_⟩
    refine .agg _ (by simp;omega) ?_ ?_
    ·intro j v a2
     rw [List.getElem?_map,Option.map_eq_some_iff] at a2
     obtain ⟨q,n3,rfl⟩:=a2
     obtain ⟨rI,yK⟩:=List.getElem?_eq_some_iff.1 n3
     have a6:j<P.cellsOf t:=by simpa using rI
     obtain rfl:j=q:=by simpa using yK
     obtain ⟨y,v,-,aw,aC,-⟩:=j6 (off+j) (by omega)
     rw [aw];exact aC
    ·intro j y v aK a2
     rw [List.getElem?_map,Option.map_eq_some_iff] at a2
     obtain ⟨q,n3,rfl⟩:=a2
     obtain ⟨rI,yK⟩:=List.getElem?_eq_some_iff.1 n3
     have a6:j<P.cellsOf t:=by simpa using rI
     obtain rfl:j=q:=by simpa using yK
     rw [List.getElem?_take,if_pos a6,List.getElem?_drop] at aK
     obtain ⟨mg,v,h0,aw,aC,b1⟩:=j6 (off+j) (by omega)
     rw [h0] at aK;simp at aK;subst aK
     rw [aw];exact b1
   ·simp at cp
  ·rename_i rF
   have rF:AB P t=false:=by simpa using rF
   rw [rF]
   split at cp
   ·rename_i y aK
    split at cp
    ·simp at cp;subst cp
     have yC:off<sz:=by
      rcases Nat.lt_or_ge off c.length with h|h
      ·omega
      ·rw [List.getElem?_eq_none h] at aK;simp at aK
     obtain ⟨mg,v,h0,aw,aC,b1⟩:=j6 off yC
     rw [h0] at aK;simp at aK;subst aK
     exact ⟨v,by simp [aw],b1⟩
    ·simp at cp
   ·simp at cp
theorem MZ {c:List ax}{off:Nat}{vs:List ax}(h:off+vs.length≤c.length):(setCells c off vs).length=c.length:=by
 simp [setCells];omega
theorem IW {c:List ax}{off:Nat}{vs:List ax}(h:off+vs.length≤c.length)(j:Nat):
 (setCells c off vs)[j]? = if off≤j∧j<off+vs.length then vs[j-off]? else c[j]? := by
 unfold setCells
 rw [List.append_assoc,List.getElem?_append]
 have o:(c.take off).length=off:=by simp;omega
 rw [o]
 by_cases a:j<off
 ·rw [if_pos a,if_neg (by omega),List.getElem?_take,if_pos a]
 ·rw [if_neg a,List.getElem?_append]
  by_cases b:j<off+vs.length
  ·rw [if_pos (by omega),if_pos ⟨by omega,b⟩]
  ·rw [if_neg (by omega),if_neg (by omega),List.getElem?_drop]
   congr 1;omega
theorem Zh {c:Array Value}{p:Nat}{vs:List Value}(h:p+vs.length≤c.size)(j:Nat):
 (c.toList.take p++vs++c.toList.drop (p+vs.length)).toArray[j]? = if p≤j∧j<p+vs.length then vs[j-p]? else c[j]? := by
 rw [List.getElem?_toArray,List.append_assoc,List.getElem?_append]
 have o:(c.toList.take p).length=p:=by simp;omega
 rw [o]
 by_cases a:j<p
 ·rw [if_pos a,if_neg (by omega),List.getElem?_take,if_pos a,Array.getElem?_toList]
 ·rw [if_neg a,List.getElem?_append]
  by_cases b:j<p+vs.length
  ·rw [if_pos (by omega),if_pos ⟨by omega,b⟩]
  ·rw [if_neg (by omega),if_neg (by omega),List.getElem?_drop,Array.getElem?_toList]
   congr 1;omega
theorem VP {P:Program}{g:G}{s:S}{av:fj}{a:Act}{w:World}(h:cI g s av a w){r k b m i off:Nat}{l:List af}{I:af}{c:List ax}
 (ap:s.aR r=some l) (ak:s.aj r k=some I) (aX:I.cn = .live) (ah:av r k=some (b,m)) (he:I.es[i]? = some c)
 {t:TypeId} (KO:(P.info? t).isSome=true) {x:ax} {v:Value} (aa:Rel w (s.ok g av w) s.a0 (s.ba av) x v) (l3:x.one=true∨ ∃c,x = .agg c)
 (eS:x.cells.length=P.cellsOf t) (iz:off+x.cells.length≤c.length) :
 ∃bG,(Instr.storeAt t (.pointer (some ⟨b,i*I.sz+off,none⟩)) v).run P w = .ok () bG ∧
  cI g (s.setRow r (l.set k {I with es:=I.es.set i (setCells c off x.cells)})) av a bG:=by
 obtain ⟨vs,a2,qq,j6,fc⟩:=aa.cellsOf l3
 have bi:=h.obj r k I ak
 rw [ah] at bi
 obtain ⟨ch,eB,o,R,ad,aD⟩:=bi
 have hlen:c.length=I.sz:=ad c (List.mem_of_getElem? he)
 have yD:i*I.sz+off+vs.length≤ch.size:=by
  rcases Nat.eq_zero_or_pos I.sz with cd|cd
  ·have:off=0:=by omega
   have:vs.length=0:=by omega
   rw [cd];omega
  ·have aL:I.es.flatten[i*I.sz+(I.sz-1)]? = some (c[I.sz-1]'(by omega)):=by
    rw [z7 ad he (by omega)];exact List.getElem?_eq_getElem (by omega)
   obtain ⟨Sb,aw,-,-⟩:=aD _ _ aL
   have:=(Array.getElem?_eq_some_iff.1 aw).1
   omega
 have mz:=run_storeCells_at P b (i*I.sz+off) eB vs 0 ch w o (by simpa using yD) (fun Sb Bt=>by
  obtain ⟨q,a6⟩:=List.getElem?_of_mem Bt
  exact j6 q Sb a6)
 simp only [Nat.add_zero] at mz
 have iX:(Instr.storeAt t (.pointer (some ⟨b,i*I.sz+off,none⟩)) v).run P w =
  .ok () (w.setRow b (ch.toList.take (i*I.sz+off)++vs++ch.toList.drop (i*I.sz+off+vs.length)).toArray):=by
  have bW:v.cells.size=P.cellsOf t:=by rw [a2];simpa using qq.trans eS
  simp only [Instr.storeAt,Instr.sureAddr,storeVar,Sem.run_bind,Sem.run_pure,Result.andThen,sM KO,bW,ne_eq,not_true_eq_false,if_false]
  rw [a2]
  simpa using mz
 refine ⟨_,iX,?_⟩
 have aaB:(w.setRow b (ch.toList.take (i*I.sz+off)++vs++ch.toList.drop (i*I.sz+off+vs.length)).toArray).heap.size=w.heap.size:=size_setRow _ _ _
 have tg:(setCells c off x.cells).length=I.sz:=by rw [MZ iz];exact hlen
 refine (h.write ap ak aX ah _ _ eB (setRow_heap w b ch _ eB _ o) aaB (fun q a6=>setRow_other w b q _ a6) rfl rfl rfl ?_ ?_ ?_).1
 ·simp;omega
 ·intro e hm
  rcases List.mem_or_eq_of_mem_set hm with cv|cv
  ·exact ad e cv
  ·exact cv▸tg
 ·intro j y aK
  rw [Zh yD]
  rw [Nw ad he tg] at aK
  by_cases mA:i*I.sz≤j∧j<i*I.sz+I.sz
  ·rw [if_pos mA,IW iz] at aK
   by_cases QP:off≤j-i*I.sz∧j-i*I.sz<off+x.cells.length
   ·rw [if_pos QP] at aK
    rw [if_pos ⟨by omega,by omega⟩]
    have a6:j-(i*I.sz+off)<vs.length:=by omega
    refine ⟨vs[j-(i*I.sz+off)],List.getElem?_eq_getElem a6,j6 _ _ (List.getElem?_eq_getElem a6),fc (j-i*I.sz-off) y _ aK ?_⟩
    rw [show j-i*I.sz-off=j-(i*I.sz+off) by omega]
    exact List.getElem?_eq_getElem a6
   ·rw [if_neg QP] at aK
    rw [if_neg (by omega)]
    refine aD j y ?_
    rw [show j=i*I.sz+(j-i*I.sz) by omega,z7 ad he (by omega)]
    exact aK
  ·rw [if_neg mA] at aK
   rw [if_neg (by rw [qq];omega)]
   exact aD j y aK
end Go.VL
namespace Go.VL
set_option linter.unusedVariables false
set_option linter.unusedSimpArgs false
open Go
def S.h9 (s:S)(u:List (Nat×List af)):S:=u.foldl (fun s p=>s.setRow p.1 p.2) s
@[simp] theorem S.ad4 (s:S):s.h9 []=s:=rfl
@[simp] theorem S.ad5 (s:S) (p:Nat×List af):s.h9 [p]=s.setRow p.1 p.2:=rfl
section
variable {w:World} {ok:Nat→Prop} {a0:jg} {ba:i3} {v:Value}
theorem Rel.tZ {x:Bool}(h:Rel w ok a0 ba (.b x) v):v = .bool x:=by cases h;rfl
theorem Rel.oz {k:IntKind}{x:Int}(h:Rel w ok a0 ba (.n k x) v):v = .int k x:=by cases h;rfl
theorem Rel.yu {x:ByteArray}(h:Rel w ok a0 ba (.s x) v):v = .string x:=by cases h;rfl
theorem Rel.vf (h:Rel w ok a0 ba .ik v):v = .pointer none:=by cases h;rfl
theorem Rel.qb (h:Rel w ok a0 ba .ex v):v = .slice none 0 0:=by cases h;rfl
theorem Rel.Eb (h:Rel w ok a0 ba .iQ v): ∃a c,v = .slice (some a) 0 c:=by cases h;exact ⟨_,_,rfl⟩
theorem Rel.OM {sz:Nat}(h:Rel w ok a0 ba (.eP sz none) v):v = .pointer none:=by cases h;rfl
theorem Rel.Jq {sz:Nat}{c:List ax}(h:Rel w ok a0 ba (.eP sz (some c)) v):Rel w ok a0 ba (.eu sz [c] 0 0) v:=by cases h;assumption
theorem Rel.Eo {f:Nat}{c:List ax}(h:Rel w ok a0 ba (.fn f c) v): ∃vs:List Value,v = .func (.func f) #[] vs.toArray∧vs.length=c.length ∧
 ∀(j:Nat) x u,c[j]? = some x→vs[j]? = some u→Rel w ok a0 ba x u:=by
 cases h with|fn vs aL ap=>exact ⟨vs,rfl,aL,ap⟩
theorem Rel.x7 {c:List ax}(h:Rel w ok a0 ba (.agg c) v): ∃vs:List Value,v = .agg vs.toArray∧vs.length=c.length∧(∀(j:Nat) u,vs[j]? = some u→VL.ke u=true) ∧
 ∀(j:Nat) x u,c[j]? = some x→vs[j]? = some u→Rel w ok a0 ba x u:=by
 cases h with|agg vs aL aP ap=>exact ⟨vs,rfl,aL,aP,ap⟩
theorem Rel.x8 {c:List ax}(h:Rel w ok a0 ba (.dB c) v): ∃vs:List Value,v = .tuple vs.toArray∧vs.length=c.length ∧
 ∀(j:Nat) x u,c[j]? = some x→vs[j]? = some u→Rel w ok a0 ba x u:=by
 cases h with|dB vs aL ap=>exact ⟨vs,rfl,aL,ap⟩
theorem Rel.vk {r k i off sz:Nat}{p:Option (Nat×Nat)}(h:Rel w ok a0 ba (.ref r k i off) v)(cp:ba r k=some (sz,p)):
 p=none∨ ∃b m,p=some (b,m)∧v = .pointer (some ⟨b,i*sz+off,none⟩):=by
 cases h with
 | qd a hu a1 =>
  cases p with
  | none=>exact .inl rfl
  | some q=>exact absurd cp (a1 _ _)
 | ref hu h =>
  rw [cp] at h
  simp only [Option.some.injEq,Prod.mk.injEq] at h
  obtain ⟨rfl,rfl⟩:=h
  exact .inr ⟨_,_,rfl,rfl⟩
theorem Rel.aed {r k i off:Nat}(h:Rel w ok a0 ba (.ref r k i off) v): ∃a,v = .pointer a:=by
 cases h with
 | qd a=>exact ⟨a,rfl⟩
 | ref=>exact ⟨_,rfl⟩
theorem Rel.Od {r k i off sz b m:Nat}(h:Rel w ok a0 ba (.ref r k i off) v)(cp:ba r k=some (sz,some (b,m)))(QQ:Nat):
 Rel w ok a0 ba (.ref r k i QQ) (.pointer (some ⟨b,i*sz+QQ,none⟩)):=by
 cases h with
 | qd a hu a1=>exact absurd cp (a1 _ _)
 | ref hu h=>exact .ref hu cp
theorem Rel.x9 {sz i off:Nat}{es:List (List ax)}(h:Rel w ok a0 ba (.eu sz es i off) v): ∃d2 I,(ok d2∧gr es)∧v = .pointer (some ⟨d2,I+(i*sz+off),none⟩)∧oS w ok a0 ba d2 I sz es:=by
 cases h with
 | eu cs aJ ah aL hw aP ap=>exact ⟨_,_,⟨aJ,ah⟩,rfl,aL,fun j x aa=>⟨cs j,hw j x aa,aP j x aa,ap j x aa⟩⟩
theorem Rel.Au {r k bV len sz:Nat}{p:Option (Nat×Nat)}(h:Rel w ok a0 ba (.bF r k bV len) v)(cp:ba r k=some (sz,p)):
 (p=none∧bV=0∧len=0∧v = .slice none 0 0)∨ ∃b m a c,p=some (b,m)∧v = .slice a len c∧len≤c∧c<9223372036854775808∧(c=0∨(a=some ⟨b,bV*sz,none⟩∧(bV+c)*sz=m)):=by
 cases h with
 | ns a l c hu a1=>rw [cp] at a1;simp at a1
 | nP hu h =>
  rw [cp] at h
  simp only [Option.some.injEq,Prod.mk.injEq] at h
  exact .inl ⟨h.2,rfl,rfl,rfl⟩
 | bF hu h aL aP hm =>
  rw [cp] at h
  simp only [Option.some.injEq,Prod.mk.injEq] at h
  obtain ⟨rfl,rfl⟩:=h
  exact .inr ⟨_,_,_,_,rfl,rfl,aL,aP,hm.2.imp id fun e=>⟨e,hm.1⟩⟩
theorem Rel.vg {r k bV len sz:Nat}{p:Option (Nat×Nat)}(h:Rel w ok a0 ba (.bF r k bV len) v)(cp:ba r k=some (sz,p)):
 (p=none∧bV=0∧len=0∧v = .slice none 0 0)∨ ∃b m a c,p=some (b,m)∧v = .slice a len c∧len≤c∧c<9223372036854775808∧(bV+c)*sz=m∧(c=0∨a=some ⟨b,bV*sz,none⟩):=by
 cases h with
 | ns a l c hu a1=>rw [cp] at a1;simp at a1
 | nP hu h =>
  rw [cp] at h
  simp only [Option.some.injEq,Prod.mk.injEq] at h
  exact .inl ⟨h.2,rfl,rfl,rfl⟩
 | bF hu h aL aP hm =>
  rw [cp] at h
  simp only [Option.some.injEq,Prod.mk.injEq] at h
  obtain ⟨rfl,rfl⟩:=h
  exact .inr ⟨_,_,_,_,rfl,rfl,aL,aP,hm⟩
theorem Rel.adT {r k bV len:Nat}(h:Rel w ok a0 ba (.bF r k bV len) v): ∃a l c,v = .slice a l c:=by
 cases h<;>exact ⟨_,_,_,rfl⟩
theorem Rel.sQ {sz:Nat}{es:List (List ax)}(h:Rel w ok a0 ba (.isl sz es) v):
 (es=[]∧ ∃a c,v = .slice a 0 c∧(a=none→c=0))∨ ∃d2 off c,(ok d2∧gr es)∧v = .slice (some ⟨d2,off,none⟩) es.length c∧es.length≤c∧oS w ok a0 ba d2 off sz es:=by
 cases h with
 | kh sz a c h=>exact .inl ⟨rfl,a,c,rfl,h⟩
 | isl cs aJ ah aL aP hw hr ap=>exact .inr ⟨_,_,_,⟨aJ,ah⟩,rfl,aP,aL,fun j x aa=>⟨cs j,hw j x aa,hr j x aa,ap j x aa⟩⟩
theorem oS.isl {d2 off c sz:Nat}{es:List (List ax)}(h:oS w ok a0 ba d2 off sz es)(aJ:ok d2∧gr es)(aP:es.length≤c):Rel w ok a0 ba (.isl sz es) (.slice (some ⟨d2,off,none⟩) es.length c):=by
 have aa : ∀j:Nat,∃v,∀x,es.flatten[j]? = some x→w.cell? ⟨d2,off+j,none⟩=some v∧VL.ke v=true∧Rel w ok a0 ba x v:=by
  intro j
  cases aA:es.flatten[j]? with
  | none=>exact ⟨undef,fun x aa=>by simp at aa⟩
  | some y =>
   obtain ⟨v,o⟩:=h.2 j y aA
   exact ⟨v,fun x aa=>by simp at aa;subst aa;exact o⟩
 exact .isl (fun j=>(aa j).choose) aJ.1 aJ.2 h.1 aP (fun j x aA=>((aa j).choose_spec x aA).1) (fun j x aA=>((aa j).choose_spec x aA).2.1) (fun j x aA=>((aa j).choose_spec x aA).2.2)
theorem oS.eu {d2 I i off sz:Nat}{es:List (List ax)}(h:oS w ok a0 ba d2 I sz es)(aJ:ok d2∧gr es):Rel w ok a0 ba (.eu sz es i off) (.pointer (some ⟨d2,I+(i*sz+off),none⟩)):=by
 have aa : ∀j:Nat,∃v,∀x,es.flatten[j]? = some x→w.cell? ⟨d2,I+j,none⟩=some v∧VL.ke v=true∧Rel w ok a0 ba x v:=by
  intro j
  cases aA:es.flatten[j]? with
  | none=>exact ⟨undef,fun x aa=>by simp at aa⟩
  | some y =>
   obtain ⟨v,o⟩:=h.2 j y aA
   exact ⟨v,fun x aa=>by simp at aa;subst aa;exact o⟩
 exact .eu (fun j=>(aa j).choose) aJ.1 aJ.2 h.1 (fun j x aA=>((aa j).choose_spec x aA).1) (fun j x aA=>((aa j).choose_spec x aA).2.1) (fun j x aA=>((aa j).choose_spec x aA).2.2)
end
def Fin (P:Program)(g:G)(s:S)(a:Act)(w:World)(I:Oper)(bo:hJ):Prop :=
 ∃v bG bJ,((execOp a.eval I).run P w = .ok (.value v) bG∨((execOp a.eval I).run P w = .ok .skip bG∧v=undef)) ∧
  cI g (s.h9 bo.fK) bJ a bG∧Rel bG ((s.h9 bo.fK).ok g bJ bG) (s.h9 bo.fK).a0 ((s.h9 bo.fK).ba bJ) bo.val v
section
variable {P:Program} {g:G} {s:S} {av:fj} {a:Act} {w:World} {I:Oper} {cB:fo} {aT:Nat} {bo:hJ}
theorem h5 (h:cI g s av a w){v:Value}(iX:(execOp a.eval I).run P w = .ok (.value v) w)(hu:bo.fK=[])
 (ap:Rel w (s.ok g av w) s.a0 (s.ba av) bo.val v):Fin P g s a w I bo :=
 ⟨v,w,av,.inl iX,by rw [hu];exact h,by rw [hu];exact ap⟩
theorem Pn {x:Operand}(h:cI g s av a w)(ak:I.op = .move x∨I.op = .assign x)(ar:eQ P s.E s.aR aT I cB=some bo):Fin P g s a w I bo:=by
 have:bo={val:=eH s.E x}:=by rcases ak with ak|ak<;>simp [eQ,ak] at ar<;>exact ar.symm
 subst this
 refine h5 (v:=a.eval x) h ?_ rfl (h.eval x)
 rcases ak with ak|ak<;>simp [execOp,ak]
theorem Yv {c x y:Operand}(h:cI g s av a w)(ak:I.op = .pick c x y)(ar:eQ P s.E s.aR aT I cB=some bo)(cr:∀p∈bo.fg,p):Fin P g s a w I bo:=by
 have aP:=h.eval c
 simp only [eQ,ak] at ar
 have key : ∀t:Bool,eH s.E c = .b t→bo.fK=[]→bo.val=(if t then eH s.E x else eH s.E y)→Fin P g s a w I bo:=by
  intro t cp hu a2
  rw [cp] at aP
  have e:a.eval c = .bool t:=aP.tZ
  refine h5 (v:=if t then a.eval x else a.eval y) h (by simp [execOp,ak,e,asBool]) hu ?_
  rw [a2];cases t
  ·exact h.eval y
  ·exact h.eval x
 split at ar
 ·rename_i z t cd
  simp at ar;subst ar
  have e:z=t:=cr _ (by simp)
  subst e
  exact key z cd rfl rfl
 ·rename_i cd _;simp at ar;subst ar;exact key true cd rfl rfl
 ·rename_i cd _;simp at ar;subst ar;exact key false cd rfl rfl
 ·simp at ar
theorem Ec (h:cI g s av a w)(eT:s.aR aT=none){v:Value}{aj:af}{c:Array Value}{eB:TypeId}(aX:aj.cn = .live)
 (iX:(execOp a.eval I).run P w = .ok (.value v) (w.alloc (.cells c eB))) (hu:bo.fK=[(aT,[aj])]) (hlen : ∀e∈aj.es,e.length=aj.sz)
 (aP : ∀(j:Nat) x,aj.es.flatten[j]? = some x→ ∃v,c[j]? = some v∧ke v=true∧Rel w (s.ok g av w) s.a0 (s.ba av) x v)
 (hval : ∀(bG:World) (kU:Nat→Prop) (m3:jg) (my:i3),m3 aT 0→my aT 0=some (aj.sz,some (w.heap.size,c.size))→Rel bG kU m3 my bo.val v):Fin P g s a w I bo:=by
 obtain ⟨bJ,ah,bW,-⟩:=h.alloc eT aj aX c eB hlen aP
 have o:(s.setRow aT [aj]).a0 aT 0:=by rw [nr];simp
 have R:(s.setRow aT [aj]).ba bJ aT 0=some (aj.sz,some (w.heap.size,c.size)):=by simp [S.ba,lK,mo,aX,ah]
 exact ⟨v,_,bJ,.inl iX,by rw [hu];exact bW,by rw [hu];exact hval _ _ _ _ o R⟩
theorem z8 {t:TypeId}{z:List ax}(cd:qJ P t=some z): ∃i ep,P.info? t=some i∧i.zero=some ep∧z=ep.cells.toList.map ofValue ∧
 ∀(j:Nat) x,z[j]? = some x→ ∃v,ep.cells[j]? = some v∧ke v=true∧ ∀(w:World) (ok:Nat→Prop) (a0:jg) (ba:i3),Rel w ok a0 ba x v:=by
 unfold qJ at cd
 cases ag:P.info? t with
 | none=>simp [ag] at cd
 | some i =>
  cases kJ:i.zero with
  | none=>simp [ag,kJ] at cd
  | some ep =>
   simp only [ag,kJ] at cd
   split at cd
   ·rename_i nZ
    simp only [Option.some.injEq] at cd
    refine ⟨i,ep,rfl,kJ,cd.symm,fun j x aa=> ?_⟩
    subst cd
    rw [List.getElem?_map,Option.map_eq_some_iff] at aa
    obtain ⟨v,a2,rfl⟩:=aa
    refine ⟨v,by rw [← Array.getElem?_toList];exact a2,?_,fun w ok a0 ba=>Nu v⟩
    exact List.all_eq_true.1 nZ v (List.mem_of_getElem? a2)
   ·simp at cd
theorem Xt {t:TypeId}(h:cI g s av a w)(eT:s.aR aT=none)(ak:I.op = .alloc t)(ar:eQ P s.E s.aR aT I cB=some bo):Fin P g s a w I bo:=by
 simp only [eQ,ak] at ar
 split at ar
 ·rename_i z cd
  obtain ⟨i,ep,ag,kJ,e,j6⟩:=z8 cd
  simp only [Option.some.injEq] at ar
  subst ar
  refine Ec (v:= .pointer (some ⟨w.heap.size,0,none⟩)) (c:=ep.cells) (eB:=t) (aj:=⟨z.length,[z],.live⟩) h eT rfl ?_ rfl (by simp) ?_ ?_
  ·simp [execOp,ak,Instr.alloc,zeroValue,typeInfo,ag,kJ,newVar,newRow]
  ·intro j x aa
   simp only [List.flatten_cons,List.flatten_nil,List.append_nil] at aa
   obtain ⟨v,o,R,ad⟩:=j6 j x aa
   exact ⟨v,o,R,ad _ _ _ _⟩
  ·intro bG kU m3 my hu cp
   have:=Rel.ref (w:=bG) (ok:=kU) (i:=0) (off:=0) hu cp
   simpa using this
 ·simp at ar
theorem Zi {t:TypeId}{x:Operand}(h:cI g s av a w)(eT:s.aR aT=none)(ak:I.op = .box t x)(ar:eQ P s.E s.aR aT I cB=some bo):Fin P g s a w I bo:=by
 simp only [eQ,ak] at ar
 have aa:=h.eval x
 have key : ∀aj:af,aj.cn = .live→aj.es=[(eH s.E x).cells]→aj.sz=(eH s.E x).cells.length→((eH s.E x).one=true∨ ∃c,eH s.E x = .agg c) →
  bo.fK=[(aT,[aj])]→bo.val = .ref aT 0 0 0→Fin P g s a w I bo:=by
  intro aj aX hB eS l3 hu a2
  obtain ⟨vs,aw,aC,b1,dn⟩:=aa.cellsOf l3
  refine Ec (v:= .pointer (some ⟨w.heap.size,0,none⟩)) (c:=(a.eval x).cells) (eB:=t) h eT aX ?_ hu ?_ ?_ ?_
  ·simp [execOp,ak,Instr.box,newVar,newRow]
  ·intro e he;rw [hB] at he;simp at he;rw [he,eS]
  ·intro j y aK
   rw [hB] at aK
   simp only [List.flatten_cons,List.flatten_nil,List.append_nil] at aK
   have aA:j<vs.length:=by
    rcases Nat.lt_or_ge j (eH s.E x).cells.length with cv|cv
    ·omega
    ·rw [List.getElem?_eq_none cv] at aK;simp at aK
   refine ⟨vs[j],by rw [aw];simp [aA],b1 j _ (List.getElem?_eq_getElem aA),dn j y _ aK (List.getElem?_eq_getElem aA)⟩
  ·intro bG kU m3 my oL cp
   have:=Rel.ref (w:=bG) (ok:=kU) (i:=0) (off:=0) oL cp
   rw [a2];simpa using this
 split at ar
 ·rename_i c aP
  simp only [Option.some.injEq] at ar
  subst ar
  exact key _ rfl (by rw [aP];rfl) (by rw [aP];rfl) (.inr ⟨c,aP⟩) rfl rfl
 ·split at ar
  ·rename_i l3
   simp only [Option.some.injEq] at ar
   subst ar
   have e:(eH s.E x).cells=[eH s.E x]:=by
    generalize eH s.E x=y at l3
    cases y<;>first|rfl|simp [ax.one] at l3
   exact key _ rfl (by rw [e]) (by rw [e];rfl) (.inl l3) rfl rfl
  ·simp at ar
theorem ig {s:S}{av:fj}{r k:Nat}{aj:af}(h:s.aj r k=some aj):s.ba av r k=some (aj.sz,av r k):=by simp [S.ba,h]
theorem sR {row:Option (List af)}{k:Nat}{aj:af}{b3:List Prop}(h:oG row k cB=some (aj,b3))(cr:∀p∈b3,p):dk row k=some aj:=by
 unfold oG at h
 split at h
 ·split at h
  ·simp at h;obtain ⟨rfl,rfl⟩:=h;exact cr _ (by simp)
  ·simp at h
 ·split at h
  ·rename_i cv;simp at h;obtain ⟨rfl,rfl⟩:=h;exact cv
  ·simp at h
theorem xU {es:List (List ax)}{i:Nat}{c:List ax}{b3:List Prop}(h:elemAt es i cB=some (c,b3))(cr:∀p∈b3,p):es[i]? = some c:=by
 unfold elemAt at h
 split at h
 ·simp at h;obtain ⟨rfl,rfl⟩:=h;exact cr _ (by simp)
 ·simp at h;obtain ⟨rfl,rfl⟩:=h;exact cr _ (by simp)
 ·split at h
  ·rename_i cv;simp at h;obtain ⟨rfl,rfl⟩:=h;exact cv
  ·simp at h
theorem Yw {t:TypeId}{x:Operand}(h:cI g s av a w)(ak:I.op = .load t x)(ar:eQ P s.E s.aR aT I cB=some bo)(cr:∀p∈bo.fg,p):Fin P g s a w I bo:=by
 simp only [eQ,ak] at ar
 have aa:=h.eval x
 split at ar
 ·rename_i r k i off gU
  rw [gU] at aa
  split at ar
  ·rename_i aj b3 bi
   split at ar
   ·rename_i c a9 mK
    split at ar
    ·rename_i v a2
     simp only [Option.some.injEq] at ar
     subst ar
     have jH:s.aj r k=some aj:=sR bi fun p ah=>cr p (by simp [ah])
     have pR:=xU mK fun p ah=>cr p (by simp [ah])
     have fc:=h.obj r k aj jH
     rcases aa.vk (ig jH) with h0|⟨b,m,ah,hval⟩
     ·rw [h0] at fc
      simp only [ja] at fc
      rw [fc] at pR;simp at pR
     ·rw [ah] at fc
      obtain ⟨u,o,R⟩:=I7 (P:=P) fc.rd pR a2
      refine h5 (v:=u) h ?_ rfl R
      rw [Nat.zero_add] at o
      simp [execOp,ak,hval,o]
    ·simp at ar
   ·simp at ar
  ·simp at ar
 ·rename_i sz es i off gU
  rw [gU] at aa
  split at ar
  ·rename_i c a9 mK
   split at ar
   ·rename_i v a2
    simp only [Option.some.injEq] at ar
    subst ar
    have pR:=xU mK fun p ah=>cr p (by simp [ah])
    obtain ⟨d2,b5,aJ,hval,iD⟩:=aa.x9
    obtain ⟨u,o,R⟩:=I7 (P:=P) iD pR a2
    refine h5 (v:=u) h ?_ rfl R
    simp [execOp,ak,hval,o]
   ·simp at ar
  ·simp at ar
 ·simp at ar
end
end Go.VL
namespace Go.VL
set_option linter.unusedVariables false
set_option linter.unusedSimpArgs false
open Go
section
variable {P:Program} {g:G} {s:S} {av:fj} {a:Act} {w:World} {I:Oper} {cB:fo} {aT:Nat} {bo:hJ}
theorem Oe (h:cI g s av a w){r k i off:Nat}{row:List af}{aj:af}{c:List ax}{t:TypeId}{x y:Operand}(ak:I.op = .store t x y)
 (gU:eH s.E x = .ref r k i off) (dt:s.aR r=some row) (bi:s.aj r k=some aj) (aX:aj.cn = .live) (mK:aj.es[i]? = some c)
 (l3:(eH s.E y).one=true∨ ∃c,eH s.E y = .agg c) (eS:(eH s.E y).cells.length=P.cellsOf t) (KO:(P.info? t).isSome=true)
 (iz:off+(eH s.E y).cells.length≤c.length) (ar:bo.val = .dead) (hu:bo.fK=[(r,row.set k {aj with es:=aj.es.set i (setCells c off (eH s.E y).cells)})]):Fin P g s a w I bo:=by
 have aa:=h.eval x
 rw [gU] at aa
 have fc:=h.obj r k aj bi
 rcases aa.vk (ig bi) with h0|⟨b,m,ah,hval⟩
 ·rw [h0] at fc;simp only [ja] at fc;rw [fc] at mK;simp at mK
 ·obtain ⟨bG,o,R⟩:=VP (P:=P) h dt bi aX ah mK KO (h.eval y) l3 eS iz
  refine ⟨undef,bG,av,.inr ⟨?_,rfl⟩,by rw [hu];exact R,by rw [ar];exact .dead _⟩
  simp [execOp,ak,hval,o]
theorem Xu {t:TypeId}{x y:Operand}(h:cI g s av a w)(ak:I.op = .store t x y)(ar:eQ P s.E s.aR aT I cB=some bo)(cr:∀p∈bo.fg,p):Fin P g s a w I bo:=by
 simp only [eQ,ak] at ar
 split at ar
 ·rename_i r k i off gU
  split at ar
  ·simp at ar
  ·rename_i row dt
   split at ar
   ·rename_i aj b3 aaC
    split at ar
    ·simp at ar
    ·rename_i aX
     have aX:aj.cn = .live:=by simpa using aX
     split at ar
     ·simp at ar
     ·rename_i l3
      have l3:=ax.Nv (by simpa using l3)
      split at ar
      ·simp at ar
      ·rename_i eS
       simp only [not_or,Decidable.not_not,Bool.not_eq_false] at eS
       have jH:(∀p∈b3,p)→s.aj r k=some aj:=fun bt=>by
        have:=sR aaC bt
        unfold S.aj;rw [dt];exact this
       split at ar
       ·split at ar
        ·rename_i yC
         simp only [Option.some.injEq] at ar
         subst ar;subst yC
         have dC:i<aj.es.length:=cr _ (by simp)
         have hr:(eH s.E y).cells.length=aj.sz:=cr _ (by simp)
         have A8:=jH fun p ah=>cr p (by simp [ah])
         have hlen:(aj.es[i]).length=aj.sz:=by
          have fc:=h.obj r k aj A8
          cases ah:av r k with
          | none=>rw [ah] at fc;simp only [ja] at fc;rw [fc] at dC;simp at dC
          | some q =>
           rw [ah] at fc
           obtain ⟨_,_,_,_,ad,_⟩:=fc
           exact ad _ (List.getElem_mem dC)
         refine Oe h ak gU dt A8 aX (c:=aj.es[i]) (List.getElem?_eq_getElem dC) l3 eS.1 eS.2 (by omega) rfl ?_
         have e:setCells aj.es[i] 0 (eH s.E y).cells=(eH s.E y).cells:=by
          simp [setCells,hlen,hr]
         rw [e]
        ·simp at ar
       ·split at ar
        ·rename_i c a9 mK
         split at ar
         ·rename_i iz
          simp only [Option.some.injEq] at ar
          subst ar
          exact Oe h ak gU dt (jH fun p ah=>cr p (by simp [ah])) aX (xU mK fun p ah=>cr p (by simp [ah])) l3 eS.1 eS.2 iz rfl rfl
         ·simp at ar
        ·simp at ar
   ·simp at ar
 ·simp at ar
theorem VQ {x:Operand}(h:cI g s av a w)(ak:I.op = .nilCheck x)(ar:eQ P s.E s.aR aT I cB=some bo)(cr:∀p∈bo.fg,p):Fin P g s a w I bo:=by
 simp only [eQ,ak] at ar
 have aa:=h.eval x
 split at ar
 ·rename_i r k i off gU
  rw [gU] at aa
  split at ar
  ·rename_i aj b3 bi
   split at ar
   ·rename_i c a9 mK
    simp only [Option.some.injEq] at ar
    subst ar
    have jH:s.aj r k=some aj:=sR bi fun p ah=>cr p (by simp [ah])
    have pR:=xU mK fun p ah=>cr p (by simp [ah])
    have fc:=h.obj r k aj jH
    rcases aa.vk (ig jH) with h0|⟨b,m,ah,hval⟩
    ·rw [h0] at fc;simp only [ja] at fc;rw [fc] at pR;simp at pR
    ·refine h5 (v:=a.eval x) h ?_ rfl aa
     simp [execOp,ak,hval]
   ·simp at ar
  ·simp at ar
 ·rename_i sz es i off gU
  rw [gU] at aa
  simp only [Option.some.injEq] at ar
  subst ar
  obtain ⟨d2,b5,aJ,hval,iD⟩:=aa.x9
  refine h5 (v:=a.eval x) h ?_ rfl aa
  simp [execOp,ak,hval]
 ·rename_i f c gU
  rw [gU] at aa
  simp only [Option.some.injEq] at ar
  subst ar
  obtain ⟨vs,hval,-⟩:=aa.Eo
  refine h5 (v:=a.eval x) h ?_ rfl aa
  simp [execOp,ak,hval]
 ·simp at ar
theorem WM {op:BinOp}{t:TypeId}{x y z:ax}{aj:List Prop}(ar:Kl op x y=some (z,aj))(cr:∀p∈aj,p)
 {ok:Nat→Prop} {a0:jg} {ba:i3} {ld lf:Value} (aa:Rel w ok a0 ba x ld) (aK:Rel w ok a0 ba y lf) (p q:Operand) :
 ∃v,((do eqGuard op t p q ld lf;binOp op t ld lf):Sem Value).run P w = .ok v w∧Rel w ok a0 ba z v:=by
 unfold Kl at ar
 split at ar
 ·rename_i k n dI ng
  have ib:=aa.oz;have jh:=aK.oz
  subst ib;subst jh
  have dN : ∀op,eqGuard op t p q (.int k n) (.int dI ng)=pure ():=fun op=>eqGuard_at_int ..
  simp only [Sem.run_bind,dN,Sem.run_pure,Result.andThen_ok]
  split at ar
  ·simp only [Option.some.injEq,Prod.mk.injEq] at ar
   obtain ⟨rfl,rfl⟩:=ar
   have h0:0≤ng:=cr _ (by simp)
   exact ⟨_,by simp [binOp,Op.shift,show ¬ng<0 by omega],.n _ _⟩
  ·simp only [Option.some.injEq,Prod.mk.injEq] at ar
   obtain ⟨rfl,rfl⟩:=ar
   have h0:0≤ng:=cr _ (by simp)
   exact ⟨_,by simp [binOp,Op.shift,show ¬ng<0 by omega],.n _ _⟩
  ·split at ar
   ·simp at ar
   ·rename_i aX
    have aX:k=dI:=by simpa using aX
    subst aX
    split at ar<;>simp only [Option.some.injEq,Prod.mk.injEq,reduceCtorEq] at ar
    all_goals (obtain ⟨rfl,rfl⟩:=ar)
    case h_4|h_5 =>
     have h0:ng≠0:=cr _ (by simp)
     exact ⟨_,by simp [binOp,Op.intDiv,h0],.n _ _⟩
    all_goals first
     | (refine ⟨_,?_,.n _ _⟩;rw [binOp_add];rfl)
     | (refine ⟨_,?_,.n _ _⟩;rw [binOp_sub];rfl)
     | (refine ⟨_,?_,.n _ _⟩;rw [binOp_mul];rfl)
     | (refine ⟨_,?_,.n _ _⟩;rw [binOp_and];rfl)
     | (refine ⟨_,?_,.n _ _⟩;rw [binOp_or];rfl)
     | (refine ⟨_,?_,.n _ _⟩;rw [binOp_xor];rfl)
     | (refine ⟨_,?_,.b _⟩;simp [binOp,Op.intCmp];done)
 ·rename_i cF mg
  have ib:=aa.yu;have jh:=aK.yu
  subst ib;subst jh
  have dN : ∀op,eqGuard op t p q (.string cF) (.string mg)=pure ():=fun op=>eqGuard_at_string ..
  simp only [Sem.run_bind,dN,Sem.run_pure,Result.andThen_ok]
  split at ar<;>simp only [Option.some.injEq,Prod.mk.injEq,reduceCtorEq] at ar
  all_goals (obtain ⟨rfl,rfl⟩:=ar)
  ·have h0:cF.size+mg.size<9223372036854775808:=cr _ (by simp)
   refine ⟨_,?_,.s _⟩
   have o : ¬((cF.size+mg.size:Nat):Int)>IntKind.i64.max:=by rw [IntKind.max_i64];omega
   rw [IntKind.max_i64] at o
   simp [binOp,Op.stringOp]
   omega
  ·exact ⟨_,by simp [binOp,Op.stringOp],.b _⟩
  ·exact ⟨_,by simp [binOp,Op.stringOp],.b _⟩
 ·simp at ar
theorem va (t:TypeId)(x y:Value):Op.equal t x y=Op.equalIn (9999+1) t x y:=rfl
theorem zU {t:TypeId}{a b:Bool}(d:Nat)(bh:P.underlying t=some .bool):(Op.equalIn (d+1) t (.bool a) (.bool b)).run P w = .ok (a == b) w:=by
 unfold Op.equalIn;simp [run_underlying bh]
theorem z9 {t e:TypeId}(d:Nat)(bh:P.underlying t=some (.pointer e)):(Op.equalIn (d+1) t (.pointer none) (.pointer none)).run P w = .ok true w:=by
 unfold Op.equalIn;simp [run_underlying bh]
theorem Aa {t e:TypeId}{a:Addr}(d:Nat)(bh:P.underlying t=some (.pointer e)):(Op.equalIn (d+1) t (.pointer (some a)) (.pointer none)).run P w = .ok false w:=by
 unfold Op.equalIn;simp [run_underlying bh]
theorem Ab {t e:TypeId}{a:Addr}(d:Nat)(bh:P.underlying t=some (.pointer e)):(Op.equalIn (d+1) t (.pointer none) (.pointer (some a))).run P w = .ok false w:=by
 unfold Op.equalIn;simp [run_underlying bh]
theorem Ac {t e:TypeId}(d:Nat)(bh:P.underlying t=some (.slice e)):(Op.equalIn (d+1) t (.slice none 0 0) (.slice none 0 0)).run P w = .ok true w:=by
 unfold Op.equalIn;simp [run_underlying bh]
theorem NK {t e:TypeId}{a:Addr}{c:Nat}(d:Nat)(bh:P.underlying t=some (.slice e))(n:Nat):(Op.equalIn (d+1) t (.slice (some a) n c) (.slice none 0 0)).run P w = .ok false w:=by
 unfold Op.equalIn;simp [run_underlying bh]
theorem x1 {t:TypeId}{x y:ax}{r:Bool}(ar:sk P t x y=some r)
 {ok:Nat→Prop} {a0:jg} {ba:i3} {ld lf:Value} (aa:Rel w ok a0 ba x ld) (aK:Rel w ok a0 ba y lf) (p q:Operand) :
 ((do eqGuard .eql t p q ld lf;binOp .eql t ld lf):Sem Value).run P w = .ok (.bool r) w ∧
 ((do eqGuard .neq t p q ld lf;binOp .neq t ld lf):Sem Value).run P w = .ok (.bool !r) w:=by
 have key : ∀b:Bool,(∀op,eqGuard op t p q ld lf=pure ())→binOp .eql t ld lf=(do pure (.bool (← Op.equal t ld lf)))→binOp .neq t ld lf=(do pure (.bool (!(← Op.equal t ld lf)))) →
  (Op.equal t ld lf).run P w = .ok b w→((do eqGuard .eql t p q ld lf;binOp .eql t ld lf):Sem Value).run P w = .ok (.bool b) w ∧
  ((do eqGuard .neq t p q ld lf;binOp .neq t ld lf):Sem Value).run P w = .ok (.bool !b) w:=by
  intro b dN o R ad
  constructor
  ·rw [dN,o];simp [ad]
  ·rw [dN,R];simp [ad]
 unfold sk at ar
 split at ar
 ·rename_i cF mg bh
  simp only [Option.some.injEq] at ar;subst ar
  have ib:=aa.tZ;have jh:=aK.tZ
  subst ib;subst jh
  exact key _ (fun op=>eqGuard_at_bool ..) rfl rfl (by rw [va];first|exact zU _ bh|exact z9 _ bh|exact Aa _ bh|exact Ab _ bh|exact Ac _ bh)
 ·rename_i e bh
  simp only [Option.some.injEq] at ar;subst ar
  have ib:=aa.vf;have jh:=aK.vf
  subst ib;subst jh
  exact key _ (fun op=>eqGuard_at_pointer ..) rfl rfl (by rw [va];first|exact zU _ bh|exact z9 _ bh|exact Aa _ bh|exact Ab _ bh|exact Ac _ bh)
 ·rename_i e sz es i off bh
  simp only [Option.some.injEq] at ar;subst ar
  obtain ⟨d2,b5,-,ib,-⟩:=aa.x9
  have jh:=aK.vf
  subst ib;subst jh
  exact key _ (fun op=>eqGuard_at_pointer ..) rfl rfl (by rw [va];first|exact zU _ bh|exact z9 _ bh|exact Aa _ bh|exact Ab _ bh|exact Ac _ bh)
 ·rename_i e sz es i off bh
  simp only [Option.some.injEq] at ar;subst ar
  obtain ⟨d2,b5,-,jh,-⟩:=aK.x9
  have ib:=aa.vf
  subst ib;subst jh
  exact key _ (fun op=>eqGuard_at_pointer ..) rfl rfl (by rw [va];first|exact zU _ bh|exact z9 _ bh|exact Aa _ bh|exact Ab _ bh|exact Ac _ bh)
 ·rename_i e bh
  simp only [Option.some.injEq] at ar;subst ar
  have ib:=aa.qb;have jh:=aK.qb
  subst ib;subst jh
  exact key _ (fun op=>eqGuard_at_slice ..) rfl rfl (by rw [va];first|exact zU _ bh|exact z9 _ bh|exact Aa _ bh|exact Ab _ bh|exact Ac _ bh)
 ·rename_i e bh
  simp only [Option.some.injEq] at ar;subst ar
  obtain ⟨wh,c,ib⟩:=aa.Eb
  have jh:=aK.qb
  subst ib;subst jh
  exact key _ (fun op=>eqGuard_at_slice ..) rfl rfl (by rw [va];exact NK _ bh 0)
 ·simp at ar
theorem PW {t e:TypeId}(bh:P.underlying t=some (.slice e)){sz:Nat}{es:List (List ax)}(cu:es≠[])
 {ok:Nat→Prop} {a0:jg} {ba:i3} {ld lf:Value} (aa:Rel w ok a0 ba (.isl sz es) ld) (aK:Rel w ok a0 ba .ex lf) (p q:Operand) :
 ((do eqGuard .eql t p q ld lf;binOp .eql t ld lf):Sem Value).run P w = .ok (.bool false) w ∧
 ((do eqGuard .neq t p q ld lf;binOp .neq t ld lf):Sem Value).run P w = .ok (.bool true) w:=by
 rcases aa.sQ with ⟨h0,-⟩|⟨d2,off,c,-,ib,-⟩
 ·exact absurd h0 cu
 ·have jh:=aK.qb
  subst ib;subst jh
  have ad:(Op.equal t (.slice (some ⟨d2,off,none⟩) es.length c) (.slice none 0 0)).run P w = .ok false w:=by rw [va];exact NK _ bh _
  have dN : ∀op,eqGuard op t p q (.slice (some ⟨d2,off,none⟩) es.length c) (.slice none 0 0)=pure ():=fun op=>eqGuard_at_slice ..
  have o:binOp .eql t (.slice (some ⟨d2,off,none⟩) es.length c) (.slice none 0 0)=(do pure (.bool (← Op.equal t (.slice (some ⟨d2,off,none⟩) es.length c) (.slice none 0 0)))):=rfl
  have R:binOp .neq t (.slice (some ⟨d2,off,none⟩) es.length c) (.slice none 0 0)=(do pure (.bool (!(← Op.equal t (.slice (some ⟨d2,off,none⟩) es.length c) (.slice none 0 0))))):=rfl
  constructor
  ·rw [dN,o];simp [ad]
  ·rw [dN,R];simp [ad]
theorem Xv {op:BinOp}{t dE:TypeId}{x y:Operand}(h:cI g s av a w)(ak:I.op = .binOp op t x y dE)(ar:eQ P s.E s.aR aT I cB=some bo)(cr:∀p∈bo.fg,p):Fin P g s a w I bo:=by
 simp only [eQ,ak] at ar
 have aa:=h.eval x
 have aK:=h.eval y
 split at ar
 ·rename_i v aj aJ
  simp only [Option.some.injEq] at ar
  subst ar
  obtain ⟨u,o,R⟩:=WM (P:=P) (t:=t) aJ cr aa aK x y
  refine h5 (v:=u) h ?_ rfl R
  simp only [execOp,ak]
  rw [Sem.run_bind,o];rfl
 ·split at ar
  ·cases he:sk P t (eH s.E x) (eH s.E y) with
   | none=>simp [he] at ar
   | some r =>
    simp [he] at ar;subst ar
    refine h5 (v:= .bool r) h ?_ rfl (.b r)
    simp only [execOp,ak]
    rw [Sem.run_bind,(x1 (w:=w) he aa aK x y).1];rfl
  ·cases he:sk P t (eH s.E x) (eH s.E y) with
   | none=>simp [he] at ar
   | some r =>
    simp [he] at ar;subst ar
    refine h5 (v:= .bool !r) h ?_ rfl (.b _)
    simp only [execOp,ak]
    rw [Sem.run_bind,(x1 (w:=w) he aa aK x y).2];rfl
  ·simp at ar
theorem Yx {op:UnOp}{t:TypeId}{x:Operand}(h:cI g s av a w)(ak:I.op = .unOp op t x)(ar:eQ P s.E s.aR aT I cB=some bo):Fin P g s a w I bo:=by
 simp only [eQ,ak] at ar
 have aa:=h.eval x
 cases he:KM op (eH s.E x) with
 | none=>simp [he] at ar
 | some v =>
  simp [he] at ar;subst ar
  unfold KM at he
  split at he
  ·rename_i k n gU
   rw [gU] at aa
   simp only [Option.some.injEq] at he;subst he
   refine h5 (v:= .int k (k.wrap (0-n))) h ?_ rfl (.n _ _)
   simp [execOp,ak,aa.oz,Op.unary,Op.intArith]
  ·rename_i b gU
   rw [gU] at aa
   simp only [Option.some.injEq] at he;subst he
   refine h5 (v:= .bool !b) h ?_ rfl (.b _)
   simp [execOp,ak,aa.tZ,Op.unary]
  ·simp at he
theorem We {t dE:TypeId}{x:Operand}(h:cI g s av a w)(ak:I.op = .convert t dE x)(ar:eQ P s.E s.aR aT I cB=some bo):Fin P g s a w I bo:=by
 simp only [eQ,ak] at ar
 have aa:=h.eval x
 split at ar
 ·rename_i k dI n bh gU
  rw [gU] at aa
  split at ar
  case isFalse=>simp at ar
  rename_i bW
  simp only [Option.some.injEq] at ar
  subst ar
  refine h5 (v:= .int k (k.wrap n)) h ?_ rfl (.n _ _)
  cases Rb:P.underlying t with
  | none=>simp [Rb] at bW
  | some d=>simp [execOp,ak,aa.oz,convert,run_underlying bh,run_underlying Rb,Conv.intToInt]
 ·rename_i r k bV len bh gU
  rw [gU] at aa
  split at ar
  ·rename_i aj EO bi
   split at ar
   ·rename_i nG Bu
    split at ar
    ·rename_i aP
     simp only [Option.some.injEq] at ar
     subst ar
     obtain ⟨e,bW,he⟩ : ∃e,P.underlying t=some (.slice e)∧P.underlying e=some (.int .u8):=by
      unfold qi at EO
      split at EO
      ·rename_i e bW;exact ⟨e,bW,EO⟩
      ·simp at EO
     have dR:s.aj r k=some aj:=bi
     have fc:=h.obj r k aj dR
     have hzero : ∀(mO:Option Addr) (c:Nat),len=0→(convert t dE (.slice mO 0 c)).run P w = .ok (.string (yB nG)) w:=by
      intro mO c h0
      subst h0
      have:nG=[]:=by simpa [bytesOf] using Bu
      subst this
      cases mO with
      | none=>rw [run_convert_bytes_string w t dE e none 0 c bW he bh];simp [Conv.bytesToString,yB]
      | some mO =>
       rw [run_convert_bytes_string w t dE e (some mO) 0 c bW he bh,run_bytesToString w mO 0 c [] (by
        have:=run_loadCells_list (P:=P) w mO [] (fun j v aA=>by simp at aA)
        simpa using this)]
       rfl
     rcases aa.Au (ig dR) with ⟨ah,rfl,rfl,hval⟩|⟨b,m,A,c,ah,hval,rJ,th,hm⟩
     ·refine h5 (v:= .string (yB nG)) h ?_ rfl (.s _)
      simp [execOp,ak,hval,hzero none 0 rfl]
     ·refine h5 (v:= .string (yB nG)) h ?_ rfl (.s _)
      by_cases h0:len=0
      ·subst h0;simp [execOp,ak,hval,hzero A c rfl]
      ·rcases hm with hm|⟨hA,hm⟩
       ·omega
       ·subst hA
        rw [ah] at fc
        have iD:=fc.rd
        have yL : ∀(es:List (List ax)) (nG:List Int),bytesOf es=some nG→es.length=nG.length∧ ∀(i:Nat) n,nG[i]? = some n→es[i]? = some [.n .u8 n]:=by
         intro es
         induction es with
         | nil=>intro nG h;simp [bytesOf] at h;subst h;exact ⟨rfl,fun i n ag=>by simp at ag⟩
         | cons x es ih =>
          intro nG h
          unfold bytesOf at h
          split at h
          ·simp at *
          ·rename_i n0 aeK E1
           simp only [List.cons.injEq] at E1
           obtain ⟨rfl,rfl⟩:=E1
           rw [Option.map_eq_some_iff] at h
           obtain ⟨fT,yM,rfl⟩:=h
           obtain ⟨aw,aC⟩:=ih fT yM
           refine ⟨by simp [aw],fun i n ag=> ?_⟩
           cases i with
           | zero=>simp at ag;subst ag;rfl
           | succ i=>simpa using aC i n (by simpa using ag)
          ·simp at h
        obtain ⟨aw,aC⟩:=yL _ _ Bu
        have hlen:nG.length=len:=by rw [← aw];simp;omega
        have Z7:(loadCells ⟨b,bV*aj.sz,none⟩ len).run P w = .ok (nG.map (Value.int .u8)).toArray w:=by
         have:=run_loadCells_list (P:=P) w ⟨b,bV*aj.sz,none⟩ (nG.map (Value.int .u8)) (fun j v aA=>by
          rw [List.getElem?_map,Option.map_eq_some_iff] at aA
          obtain ⟨n,a1,rfl⟩:=aA
          have mA:=aC j n a1
          have vG:j<len:=by rw [← hlen];exact (List.getElem?_eq_some_iff.1 a1).1
          rw [List.getElem?_take_of_lt vG,List.getElem?_drop] at mA
          obtain ⟨v,v1,v2,v3⟩:=iD.2 ((bV+j)*aj.sz+0) (.n .u8 n) (by rw [z7 iD.1 mA (by omega)];rfl)
          have a2:=v3.oz
          subst a2
          rw [rr,← v1,aP.2]
          congr 2
          omega)
         rw [List.length_map,hlen] at this
         exact this
        have R:=run_bytesToString w ⟨b,bV*aj.sz,none⟩ len c nG Z7
        rw [← run_convert_bytes_string w t dE e _ len c bW he bh] at R
        simp [execOp,ak,hval,R,yB]
    ·simp at ar
   ·simp at ar
  ·simp at ar
 ·simp at ar
theorem VR {f:Fn}{Ce ch:Array Operand}(h:cI g s av a w)(ak:I.op = .makeFunc f Ce ch)(ar:eQ P s.E s.aR aT I cB=some bo):Fin P g s a w I bo:=by
 cases f with
 | func n =>
  simp only [eQ,ak] at ar
  split at ar
  ·rename_i abn
   simp only [Option.some.injEq] at ar;subst ar
   refine h5 (v:= .func (.func n) #[] (ch.map a.eval)) h ?_ rfl ?_
   ·have:Ce = #[]:=by simpa using abn
    subst this
    simp [execOp,ak,Instr.makeFunc]
   ·have:=Rel.fn (f:=n) (c:=ch.toList.map (eH s.E)) (w:=w) (ok:=s.ok g av w) (a0:=s.a0) (ba:=s.ba av) (ch.toList.map a.eval) (by simp) (by
     intro j x v aa a2
     rw [List.getElem?_map,Option.map_eq_some_iff] at aa a2
     obtain ⟨p,ah,rfl⟩:=aa
     obtain ⟨q,a6,rfl⟩:=a2
     rw [ah] at a6;simp at a6;subst a6
     exact h.eval p)
    have e:(ch.toList.map a.eval).toArray=ch.map a.eval:=by apply Array.ext';rw [Array.toList_map]
    rw [e] at this
    exact this
  ·simp at ar
 | _=>simp [eQ,ak] at ar
theorem Wf {i:Nat}{x:Operand}(h:cI g s av a w)(ak:I.op = .extract x i)(ar:eQ P s.E s.aR aT I cB=some bo):Fin P g s a w I bo:=by
 simp only [eQ,ak] at ar
 have aa:=h.eval x
 split at ar
 ·rename_i vs gU
  rw [gU] at aa
  cases ag:vs[i]? with
  | none=>simp [ag] at ar
  | some v =>
   simp [ag] at ar;subst ar
   obtain ⟨a0,hval,aL,ap⟩:=aa.x8
   have dC:i<a0.length:=by
    rcases Nat.lt_or_ge i vs.length with cv|cv
    ·omega
    ·rw [List.getElem?_eq_none cv] at ag;simp at ag
   have hu:a0[i]? = some a0[i]:=List.getElem?_eq_getElem dC
   refine h5 (v:=a0[i]) h ?_ rfl (ap i v _ ag hu)
   simp [execOp,ak,hval,Instr.extract,hu]
 ·simp at ar
end
end Go.VL
namespace Go.VL
set_option linter.unusedVariables false
set_option linter.unusedSimpArgs false
open Go
section
variable {P:Program} {g:G} {s:S} {av:fj} {a:Act} {w:World} {I:Oper} {cB:fo} {aT:Nat} {bo:hJ}
theorem r8 {t e:TypeId}(h:qi P t=some e):P.underlying t=some (.slice e):=by
 unfold qi at h
 split at h
 ·rename_i eD he;simp at h;subst h;exact he
 ·simp at h
theorem IX {t:TypeId}{jL:Array Field}(h:fieldsOf P t=some jL):P.underlying t=some (.struct jL):=by
 unfold fieldsOf at h
 split at h
 ·rename_i eD he;simp at h;subst h;exact he
 ·simp at h
theorem Ng : ∀(z c:List ax),(rv z c).length=z.length
 | x::z,y::c=>by simp [rv,Ng z c]
 | [],_=>by simp [rv]
 | _::_,[]=>by simp [rv]
theorem Vz (z:List ax)(cB:fo):(sW z cB).length=z.length:=by
 unfold sW
 split
 ·exact Ng z _
 ·rfl
theorem Wg (x y:ax){w:World}{ok:Nat→Prop}{a0:jg}{ba:i3}{v:Value}(h:Rel w ok a0 ba x v):Rel w ok a0 ba (AD x y) v:=by
 unfold AD
 split
 ·rw [h.qb];exact .kh _ _ _ (fun _=>rfl)
 ·rw [h.vf];exact .pQ _
 ·rw [h.qb];exact .mX (.kh _ _ _ (fun _=>rfl))
 ·exact h
theorem Of : ∀(z c:List ax) (j:Nat) q,(rv z c)[j]? = some q→ ∃x,z[j]? = some x∧(q=x∨ ∃y,q=AD x y)
 | x::z,y::c,0,q,h=>by simp [rv] at h;exact ⟨x,rfl,.inr ⟨y,h.symm⟩⟩
 | x::z,y::c,j+1,q,h=>by
  simp only [rv,List.getElem?_cons_succ] at h
  simpa using Of z c j q h
 | [],c,j,q,h=>by simp [rv] at h
 | x::z,[],j,q,h=>⟨q,by simpa [rv] using h,.inl rfl⟩
theorem Xw (z:List ax)(cB:fo)(j:Nat)(q:ax)(h:(sW z cB)[j]? = some q): ∃x,z[j]? = some x∧(q=x∨ ∃y,q=AD x y):=by
 unfold sW at h
 split at h
 ·exact Of z _ j q h
 ·exact ⟨q,h,.inl rfl⟩
theorem VA {t:TypeId}{x y:Operand}(h:cI g s av a w)(eT:s.aR aT=none)(ak:I.op = .makeSlice t x y)(ar:eQ P s.E s.aR aT I cB=some bo)(cr:∀p∈bo.fg,p):Fin P g s a w I bo:=by
 simp only [eQ,ak] at ar
 have aa:=h.eval x
 have aK:=h.eval y
 split at ar
 ·rename_i e j8 l jM c he aaD aaE
  rw [aaD] at aa;rw [aaE] at aK
  split at ar
  ·rename_i i z ag cd
   obtain ⟨fx,ep,j1,kJ,st,PX⟩:=z8 cd
   rw [ag] at j1;simp at j1;subst j1
   simp only [Option.ite_none_right_eq_some,Option.some.injEq] at ar
   obtain ⟨eS,ar⟩:=ar
   subst ar
   have mK:=Vz z cB
   have j6 : ∀(j:Nat) q,(sW z cB)[j]? = some q→ ∃v,ep.cells[j]? = some v∧VL.ke v=true∧ ∀w ok a0 ba,Rel w ok a0 ba q v:=by
    intro j q a6
    obtain ⟨x,dH,nA⟩:=Xw z cB j q a6
    obtain ⟨v,v1,v2,v3⟩:=PX j x dH
    refine ⟨v,v1,v2,fun w ok a0 ba=> ?_⟩
    rcases nA with rfl|⟨y,rfl⟩
    ·exact v3 w ok a0 ba
    ·exact Wg x y (v3 w ok a0 ba)
   clear PX
   have h0:0≤l:=cr _ (by simp)
   have o:l≤c:=cr _ (by simp)
   have R:(i.bytes:Int)*c≤281474976710656:=cr _ (by simp)
   have ad:c<9223372036854775808:=cr _ (by simp)
   have nB:z.length=ep.cells.size:=by rw [st];simp
   have iX:=run_make (P:=P) w t e i ep (r8 he) ag kJ j8 jM l c h0 o R (by omega)
   refine Ec (v:= .slice (some ⟨w.heap.size,0,none⟩) l.toNat c.toNat) (aj:=⟨z.length,List.replicate l.toNat (sW z cB),.live⟩) (c:=madeCells ep.cells (c.toNat*i.size)) (eB:=e) h eT rfl ?_ rfl ?_ ?_ ?_
   ·simp [execOp,ak,aa.oz,aK.oz,iX]
   ·intro eD l6;rw [List.eq_of_mem_replicate l6];exact mK
   ·intro j q a6
    have aL : ∀eD∈List.replicate l.toNat (sW z cB),eD.length=z.length:=fun eD l6=>by rw [List.eq_of_mem_replicate l6];exact mK
    rcases Nat.eq_zero_or_pos z.length with rK|E2
    ·have:sW z cB=[]:=List.length_eq_zero_iff.1 (by omega)
     rw [this] at a6
     simp at a6
    ·rw [pK E2 _ aL,List.getElem?_replicate] at a6
     by_cases aA:j / z.length<l.toNat
     ·rw [if_pos aA] at a6
      simp only [Option.bind_some] at a6
      obtain ⟨v,aw,aC,b1⟩:=j6 _ _ a6
      refine ⟨v,?_,aC,b1 _ _ _ _⟩
      have dC:j<c.toNat*i.size:=by
       rw [← eS]
       have:j<l.toNat*z.length:=(Nat.div_lt_iff_lt_mul E2).1 aA
       exact Nat.lt_of_lt_of_le this (Nat.mul_le_mul_right _ (by omega))
      simp only [madeCells]
      rw [Array.getElem?_map,Array.getElem?_range]
      simp only [dC,if_true,Option.map_some]
      rw [nB] at aw
      have hm:j % ep.cells.size<ep.cells.size:=Nat.mod_lt _ (by omega)
      rw [Array.getElem?_eq_getElem hm] at aw
      rw [getElem!_pos ep.cells _ hm];exact aw
     ·rw [if_neg aA] at a6;simp at a6
   ·intro bG kU m3 my hu cp
    refine Rel.bF hu cp (by omega) (by omega) ⟨?_,.inr (by simp)⟩
    rw [size_madeCells]
    simp only [Nat.zero_add,eS]
  ·simp at ar
 ·simp at ar
theorem VB {t:TypeId}{x:Operand}{f:Nat}(h:cI g s av a w)(ak:I.op = .fieldAddr t x f)(ar:eQ P s.E s.aR aT I cB=some bo)(cr:∀p∈bo.fg,p):Fin P g s a w I bo:=by
 simp only [eQ,ak] at ar
 have aa:=h.eval x
 split at ar
 ·rename_i jL Bv
  split at ar
  ·rename_i fd ur
   split at ar
   ·simp at ar
   ·rename_i Rc
    have ag:(P.info? fd.type).isSome=true:=by
     cases ag:P.info? fd.type with
     | none=>simp [Program.cellsOf,ag] at Rc
     | some i=>rfl
    have iX : ∀A:Addr,A.spot=none→(Instr.fieldAt t (.pointer (some A)) f).run P w = .ok (.pointer (some ⟨A.block,A.off+fd.offset,none⟩)) w:=by
     intro A hA
     have e:A.add fd.offset=⟨A.block,A.off+fd.offset,none⟩:=by
      obtain ⟨b,I,sp⟩:=A
      simp only at hA;subst hA
      exact rr b I _
     simp [Instr.fieldAt,run_underlying (IX Bv),ur,Instr.sureAddr,fieldPlace,sM ag,Rc,e]
    split at ar
    ·rename_i r k i off gU
     rw [gU] at aa
     split at ar
     ·rename_i aj b3 bi
      split at ar
      ·rename_i c a9 mK
       simp only [Option.some.injEq] at ar;subst ar
       have jH:s.aj r k=some aj:=sR bi fun p ah=>cr p (by simp [ah])
       have pR:=xU mK fun p ah=>cr p (by simp [ah])
       have fc:=h.obj r k aj jH
       rcases aa.vk (ig jH) with h0|⟨b,m,ah,hval⟩
       ·rw [h0] at fc;simp only [ja] at fc;rw [fc] at pR;simp at pR
       ·refine h5 (v:= .pointer (some ⟨b,i*aj.sz+(off+fd.offset),none⟩)) h ?_ rfl ?_
        ·simp [execOp,ak,hval,iX,Nat.add_assoc]
        ·exact aa.Od ((ig jH).trans (by rw [ah])) _
      ·simp at ar
     ·simp at ar
    ·rename_i sz es i off gU
     rw [gU] at aa
     simp only [Option.some.injEq] at ar;subst ar
     obtain ⟨d2,b5,aJ,hval,iD⟩:=aa.x9
     refine h5 (v:= .pointer (some ⟨d2,b5+(i*sz+(off+fd.offset)),none⟩)) h ?_ rfl (iD.eu aJ)
     simp [execOp,ak,hval,iX,Nat.add_assoc]
    ·simp at ar
  ·simp at ar
 ·simp at ar
theorem JH {t e:TypeId}{n:Nat}(h:A7 P t=some (n,e)):P.underlying t=some (.array n e)∧(P.info? e).isSome=true∧P.cellsOf e≠0∧1<n:=by
 unfold A7 at h
 split at h
 ·rename_i ng eD hu
  split at h
  ·rename_i aP
   simp only [Option.some.injEq,Prod.mk.injEq] at h
   obtain ⟨rfl,rfl⟩:=h
   exact ⟨hu,aP⟩
  ·simp at h
 ·simp at h
theorem Xx {t:TypeId}{x y:Operand}(h:cI g s av a w)(ak:I.op = .indexAddr t x y)(ar:ys P s.aR t (eH s.E x) (eH s.E y) cB=some bo)(cr:∀p∈bo.fg,p):Fin P g s a w I bo:=by
 unfold ys at ar
 have aa:=h.eval x
 have aK:=h.eval y
 split at ar
 ·rename_i n e r k i off cn j ht s9 A9
  rw [s9] at aa;rw [A9] at aK
  obtain ⟨hu,ag,aP,a1⟩:=JH ht
  split at ar
  ·rename_i aj b3 bi
   split at ar
   ·rename_i c a9 mK
    simp only [Option.some.injEq] at ar;subst ar
    have jH:s.aj r k=some aj:=sR bi fun p ah=>cr p (by simp [ah])
    have pR:=xU mK fun p ah=>cr p (by simp [ah])
    have h0:0≤j:=cr _ (by simp)
    have o:j<n:=cr _ (by simp)
    have fc:=h.obj r k aj jH
    rcases aa.vk (ig jH) with cd|⟨b,m,ah,hval⟩
    ·rw [cd] at fc;simp only [ja] at fc;rw [fc] at pR;simp at pR
    ·refine h5 (v:= .pointer (some ⟨b,i*aj.sz+(off+j.toNat*P.cellsOf e),none⟩)) h ?_ rfl ?_
     ·simp [execOp,ak,hval,aK.oz,Instr.indexAt,asIntOf,run_underlying hu,Instr.sureAddr,h0,o,sM ag,rr,Nat.add_assoc]
     ·exact aa.Od ((ig jH).trans (by rw [ah])) _
   ·simp at ar
  ·simp at ar
 ·simp at ar
theorem VC {t:TypeId}{x y:Operand}(h:cI g s av a w)(ak:I.op = .indexAddr t x y)(ar:eQ P s.E s.aR aT I cB=some bo)(cr:∀p∈bo.fg,p):Fin P g s a w I bo:=by
 simp only [eQ,ak] at ar
 have aa:=h.eval x
 have aK:=h.eval y
 split at ar
 ·rename_i e k j he gU
  rw [gU] at aK
  have hu:=r8 he
  have iX : ∀(b I len cap:Nat),0≤j→j<len→(P.info? e).isSome=true →
   (Instr.indexAt t (.slice (some ⟨b,I,none⟩) len cap) (.int k j)).run P w = .ok (.pointer (some ⟨b,I+j.toNat*P.cellsOf e,none⟩)) w:=by
   intro b I len cap h0 o ag
   have eD:=rr b I (j.toNat*P.cellsOf e)
   simp [Instr.indexAt,asIntOf,run_underlying hu,h0,o,sM ag,eD]
  have vv : ∀sz,sz=P.cellsOf e→sz≠0→(P.info? e).isSome=true:=by
   intro sz bW cd
   cases ag:P.info? e with
   | none=>simp [Program.cellsOf,ag] at bW;exact absurd bW cd
   | some i=>rfl
  split at ar
  ·rename_i sz es s9
   rw [s9] at aa
   simp only [Option.ite_none_right_eq_some,Option.some.injEq] at ar
   obtain ⟨⟨bW,cd⟩,ar⟩:=ar
   subst ar
   have h0:0≤j:=cr _ (by simp)
   have o:j<es.length:=cr _ (by simp)
   rcases aa.sQ with ⟨Bw,-⟩|⟨d2,off,c,aJ,hval,aP,iD⟩
   ·subst Bw;simp at o;omega
   ·refine h5 (v:= .pointer (some ⟨d2,off+(j.toNat*sz+0),none⟩)) h ?_ rfl (iD.eu aJ)
    simp [execOp,ak,hval,aK.oz,iX _ _ _ _ h0 o (vv sz bW cd),bW]
  ·rename_i r q bV len s9
   rw [s9] at aa
   split at ar
   ·rename_i row dt
    split at ar
    ·rename_i aj b3 bi
     simp only [Option.ite_none_right_eq_some,Option.some.injEq] at ar
     obtain ⟨⟨bW,cd⟩,ar⟩:=ar
     subst ar
     have jH:s.aj r q=some aj:=by
      unfold S.aj;rw [dt];exact sR bi fun p ah=>cr p (by simp [ah])
     have h0:0≤j:=cr _ (by simp)
     have o:j<len:=cr _ (by simp)
     rcases aa.Au (ig jH) with ⟨-,-,R,-⟩|⟨b,m,A,c,ah,hval,aL,-,hm⟩
     ·subst R;simp at o;omega
     ·rcases hm with hm|⟨hA,hm⟩
      ·omega
      ·subst hA
       have jr:=DV jH
       refine h5 (v:= .pointer (some ⟨b,(bV+j.toNat)*aj.sz+0,none⟩)) h ?_ rfl (.ref jr ((ig jH).trans (by rw [ah])))
       simp [execOp,ak,hval,aK.oz,iX _ _ _ _ h0 o (vv _ bW cd),bW,Nat.add_mul]
    ·simp at ar
   ·simp at ar
  ·simp at ar
 ·exact Xx h ak ar cr
theorem Zj {c:Call}(h:cI g s av a w)(ak:I.op = .call c)(aP:c.callee = .builtin .len)(ar:eQ P s.E s.aR aT I cB=some bo)(cr:∀p∈bo.fg,p):Fin P g s a w I bo:=by
 obtain ⟨E3,args,m5⟩:=c
 simp only at aP;subst aP
 simp only [eQ,ak] at ar
 have key : ∀(x:Operand) (n:Nat) (t:TypeId) (v:Value),args.toList=[x]→m5 = #[t]→bo.val = .n .i64 n→bo.fK=[]→a.eval x=v →
  (Builtin.len_ #[t] I.type #[v]).run P w = .ok (goInt n) w→Fin P g s a w I bo:=by
  intro x n t v hargs l7 ap hC a2 iX
  subst l7
  refine h5 (v:=goInt n) h ?_ hC (by rw [ap];exact .n _ _)
  have bt:args = #[x]:=by apply Array.ext';simpa using hargs
  subst bt
  simp [execOp,ak,resolve,invoke,builtin,a2,iX]
 have hargs : ∀y,args.toList.map (eH s.E)=[y]→ ∃x,args.toList=[x]∧eH s.E x=y:=by
  intro y aK
  match aL:args.toList,aK with
  | [x],aK=>simp at aK;exact ⟨x,rfl,aK⟩
 have oH:decide (m5.size=1)=true→ ∃t,m5 = #[t]∧m5.getD 0 0=t:=by
  intro eS
  have eS:m5.size=1:=by simpa using eS
  obtain ⟨l⟩:=m5
  match l,eS with
  | [t],_=>exact ⟨t,rfl,rfl⟩
 split at ar
 ·rename_i sz es e hm hu eS
  obtain ⟨x,aa,gU⟩:=hargs _ hm
  obtain ⟨t,cp,n4⟩:=oH eS
  rw [n4] at hu
  simp only [Option.some.injEq] at ar
  have ap:=h.eval x
  rw [gU] at ap
  rcases ap.sQ with ⟨Bw,A,c,hval,hA⟩|⟨d2,off,c,aJ,hval,-⟩
  ·exact key x es.length t _ aa cp (by rw [← ar]) (by rw [← ar]) hval (by subst Bw;simp [Builtin.len_,run_underlying hu])
  ·exact key x es.length t _ aa cp (by rw [← ar]) (by rw [← ar]) hval (by simp [Builtin.len_,run_underlying hu])
 ·rename_i r k bV len e hm hu eS
  obtain ⟨x,aa,gU⟩:=hargs _ hm
  obtain ⟨t,cp,n4⟩:=oH eS
  rw [n4] at hu
  split at ar
  ·rename_i row dt
   split at ar
   ·rename_i aj b3 bi
    simp only [Option.some.injEq] at ar
    have ap:=h.eval x
    rw [gU] at ap
    have jH:s.aj r k=some aj:=by
     unfold S.aj;rw [dt];exact sR bi fun p ah=>cr p (by rw [← ar];exact ah)
    rcases ap.Au (ig jH) with ⟨-,-,R,hval⟩|⟨b,m,A,c,ah,hval,-⟩
    ·exact key x len t _ aa cp (by rw [← ar]) (by rw [← ar]) hval (by subst R;simp [Builtin.len_,run_underlying hu])
    ·exact key x len t _ aa cp (by rw [← ar]) (by rw [← ar]) hval (by simp [Builtin.len_,run_underlying hu])
   ·simp at ar
  ·simp at ar
 ·rename_i e hm hu eS
  obtain ⟨x,aa,gU⟩:=hargs _ hm
  obtain ⟨t,cp,n4⟩:=oH eS
  rw [n4] at hu
  simp only [Option.some.injEq] at ar
  have ap:=h.eval x
  rw [gU] at ap
  exact key x 0 t _ aa cp (by rw [← ar];rfl) (by rw [← ar]) ap.qb (by simp [Builtin.len_,run_underlying hu])
 ·rename_i b hm hu eS
  obtain ⟨x,aa,gU⟩:=hargs _ hm
  obtain ⟨t,cp,n4⟩:=oH eS
  rw [n4] at hu
  simp only [Option.some.injEq] at ar
  have ap:=h.eval x
  rw [gU] at ap
  exact key x b.size t _ aa cp (by rw [← ar]) (by rw [← ar]) ap.yu (by simp [Builtin.len_,run_underlying hu])
 ·simp at ar
theorem Dx {ok:Nat→Prop}{a0:jg}{ba:i3}{d2 off sz:Nat}{es:List (List ax)}(h:oS w ok a0 ba d2 off sz es)(l n:Nat)(aL:l≤es.length):
 oS w ok a0 ba d2 (off+l*sz) sz ((es.drop l).take n):=by
 have qZ : ∀e∈(es.drop l).take n,e.length=sz:=fun e he=>h.1 e (List.mem_of_mem_drop (List.mem_of_mem_take he))
 refine ⟨qZ,fun j x aa=> ?_⟩
 rcases Nat.eq_zero_or_pos sz with h0|bW
 ·have aw : ∀(l:List (List ax)),(∀e∈l,e.length=0)→l.flatten=[]:=by
   intro l aL;induction l with
   | nil=>rfl
   | cons a l ih=>rw [List.flatten_cons,ih fun e he=>aL e (by simp [he])];have:=aL a (by simp);simp_all
  rw [aw _ (fun e he=>(qZ e he).trans h0)] at aa;simp at aa
 ·rw [pK bW _ qZ] at aa
  have aA:j / sz<n:=by
   rcases Nat.lt_or_ge (j / sz) n with cv|cv
   ·exact cv
   ·rw [List.getElem?_eq_none (by simp;omega)] at aa;simp at aa
  rw [List.getElem?_take,if_pos aA,List.getElem?_drop] at aa
  obtain ⟨v,aw,aC,b1⟩:=h.2 (l*sz+j) x (by
   rw [pK bW es h.1]
   have h3:(l*sz+j) / sz=l+j / sz:=by rw [Nat.mul_comm,Nat.mul_add_div bW]
   have j2:(l*sz+j) % sz=j % sz:=by rw [Nat.mul_comm,Nat.mul_add_mod]
   rw [h3,j2];exact aa)
  exact ⟨v,by rw [Nat.add_assoc];exact aw,aC,b1⟩
theorem Dq {t e:TypeId}(hu:P.underlying t=some (.slice e))(ag:(P.info? e).isSome=true)(A:Option Addr)(len cap:Nat)(bV j1:Option Value)(l h:Nat)
 (Rd:(bV=none∧l=0)∨ ∃k,bV=some (.int k l)) (Re:(j1=none∧h=len)∨ ∃k,j1=some (.int k h)) (o:l≤h) (R:h≤len) (ad:len≤cap) :
 (Instr.sliceAt t (.slice A len cap) bV j1 none).run P w = .ok (.slice (if cap=l then A else A.map (·.add (l*P.cellsOf e))) (h-l) (cap-l)) w:=by
 have aJ : ∀(k:IntKind) (n y:Nat) (code:BoundsCode),n≤y→(Instr.sliceBound (.int k n) y code).run P w = .ok n w:=by
  intro k n y code a1
  simp [Instr.sliceBound,asIntOf,a1]
 rcases Rd with ⟨rfl,rfl⟩|⟨j8,rfl⟩<;>rcases Re with ⟨rfl,rfl⟩|⟨jM,rfl⟩ <;>
  simp [Instr.sliceAt,Instr.slice,run_underlying hu,Instr.sliceBounds,sM ag,aJ,o,R,ad,Nat.le_trans R ad]
theorem yi {x:Option Operand}(h:cI g s av a w){d n:Nat}{aj:List Prop}(aJ:az (x.map (eH s.E)) d=some (n,aj))(cr:∀p∈aj,p):
 (x.map a.eval=none∧n=d)∨ ∃k,x.map a.eval=some (.int k n):=by
 cases x with
 | none=>simp [az] at aJ;exact .inl ⟨rfl,aJ.1.symm⟩
 | some x =>
  have aa:=h.eval x
  simp only [Option.map_some] at aJ ⊢
  unfold az at aJ
  split at aJ
  ·rename_i he;simp at he
  ·rename_i _ k y he
   simp only [Option.some.injEq] at he
   rw [he] at aa
   simp only [Option.some.injEq,Prod.mk.injEq] at aJ
   obtain ⟨rfl,rfl⟩:=aJ
   have h0:0≤y:=cr _ (by simp)
   refine .inr ⟨k,?_⟩
   rw [aa.oz,Int.toNat_of_nonneg h0]
  ·simp at aJ
theorem Xy {t:TypeId}{x:Operand}{bV ag:Option Operand}(h:cI g s av a w)(ak:I.op = .slice t x bV ag none)(ar:eQ P s.E s.aR aT I cB=some bo)(cr:∀p∈bo.fg,p):Fin P g s a w I bo:=by
 simp only [eQ,ak] at ar
 have aa:=h.eval x
 have vv : ∀sz e,sz=P.cellsOf e→sz≠0→(P.info? e).isSome=true:=by
  intro sz e bW cd
  cases ag:P.info? e with
  | none=>simp [Program.cellsOf,ag] at bW;exact absurd bW cd
  | some i=>rfl
 split at ar
 ·rename_i e sz es hu gU
  rw [gU] at aa
  split at ar
  ·rename_i l b3 n a9 aL a1
   simp only [Option.ite_none_right_eq_some,Option.some.injEq] at ar
   obtain ⟨⟨bW,cd⟩,ar⟩:=ar
   subst ar
   have hQ:=yi h aL fun p ah=>cr p (by simp [ah])
   have ko:=yi h a1 fun p ah=>cr p (by simp [ah])
   have o:l≤n:=cr _ (by simp)
   have R:n≤es.length:=cr _ (by simp)
   rcases aa.sQ with ⟨Bw,A,c,hval,hA⟩|⟨d2,off,c,aJ,hval,aP,iD⟩
   ·subst Bw
    have E4:n=0:=by simpa using R
    subst E4
    have nC:l=0:=by omega
    subst nC
    refine h5 (v:= .slice (if c=0 then A else A.map (·.add (0*P.cellsOf e))) (0-0) (c-0)) h ?_ rfl ?_
    ·have:=Dq (w:=w) hu (vv sz e bW cd) A 0 c (bV.map a.eval) (ag.map a.eval) 0 0 hQ ko (Nat.le_refl _) (Nat.le_refl _) (Nat.zero_le _)
     simp only [execOp,ak,hval]
     simp only [Option.map_none,Sem.run_bind,this];rfl
    ·refine .kh sz _ _ fun a1=> ?_
     split at a1
     ·rename_i m6;omega
     ·have:=hA (by simpa using a1)
      omega
   ·have hlen:((es.drop l).take (n-l)).length=n-l:=by simp;omega
    refine h5 (v:= .slice (if c=l then some ⟨d2,off,none⟩ else (some (⟨d2,off,none⟩:Addr)).map (·.add (l*P.cellsOf e))) (n-l) (c-l)) h ?_ rfl ?_
    ·have:=Dq (w:=w) hu (vv sz e bW cd) (some ⟨d2,off,none⟩) es.length c (bV.map a.eval) (ag.map a.eval) l n hQ ko o R aP
     simp only [execOp,ak,hval]
     simp only [Option.map_none,Sem.run_bind,this];rfl
    ·by_cases hr:c=l
     ·have:n-l=0:=by omega
      rw [this]
      show Rel _ _ _ _ (.isl sz ((es.drop l).take 0)) _
      rw [List.take_zero]
      exact .kh sz _ _ (fun _=>by omega)
     ·rw [if_neg hr]
      simp only [Option.map_some,rr,← bW]
      have ap:=(Dx iD l (n-l) (by omega)).isl (c:=c-l) ⟨aJ.1,fun e he=>aJ.2 e (List.mem_of_mem_drop (List.mem_of_mem_take he))⟩ (by rw [hlen];omega)
      rw [hlen] at ap
      exact ap
  ·simp at ar
 ·rename_i e r k Cd len hu gU
  rw [gU] at aa
  split at ar
  ·simp at ar
  ·rename_i row dt
   split at ar
   ·simp at ar
   ·rename_i aj Sa bi
    split at ar
    ·rename_i l b3 n a9 aL a1
     simp only [Option.ite_none_right_eq_some,Option.some.injEq] at ar
     obtain ⟨⟨bW,cd⟩,ar⟩:=ar
     subst ar
     have jH:s.aj r k=some aj:=by
      unfold S.aj;rw [dt];exact sR bi fun p ah=>cr p (by simp [ah])
     have hQ:=yi h aL fun p ah=>cr p (by simp [ah])
     have ko:=yi h a1 fun p ah=>cr p (by simp [ah])
     have o:l≤n:=cr _ (by simp)
     have R:n≤len:=cr _ (by simp)
     have jr:=DV jH
     rcases aa.vg (ig jH) with ⟨ah,rfl,rfl,hval⟩|⟨b,m,A,c,ah,hval,rJ,th,m7,hm⟩
     ·have E4:n=0:=by omega
      subst E4
      have nC:l=0:=by omega
      subst nC
      refine h5 (v:= .slice none 0 0) h ?_ rfl (.nP jr ((ig jH).trans (by rw [ah])))
      have:=Dq (w:=w) hu (vv _ e bW cd) none 0 0 (bV.map a.eval) (ag.map a.eval) 0 0 hQ ko (Nat.le_refl _) (Nat.le_refl _) (Nat.le_refl _)
      simp only [execOp,ak,hval]
      simp only [Option.map_none,Sem.run_bind,this];rfl
     ·refine h5 (v:= .slice (if c=l then A else A.map (·.add (l*P.cellsOf e))) (n-l) (c-l)) h ?_ rfl ?_
      ·have:=Dq (w:=w) hu (vv _ e bW cd) A len c (bV.map a.eval) (ag.map a.eval) l n hQ ko o R rJ
       simp only [execOp,ak,hval]
       simp only [Option.map_none,Sem.run_bind,this];rfl
      ·refine Rel.bF jr ((ig jH).trans (by rw [ah])) (by omega) (by omega) ?_
       refine ⟨by rw [← m7];congr 1;omega,?_⟩
       by_cases hr:c=l
       ·exact .inl (by omega)
       ·rcases hm with hm|hA
        ·exact .inl (by omega)
        ·refine .inr ?_
         rw [if_neg hr,hA]
         simp only [Option.map_some,rr,← bW,Nat.add_mul]
    ·simp at ar
 ·rename_i b hu gU
  rw [gU] at aa
  split at ar
  ·rename_i l b3 n a9 aL a1
   simp only [Option.some.injEq] at ar
   subst ar
   have hQ:=yi h aL fun p ah=>cr p (by simp [ah])
   have ko:=yi h a1 fun p ah=>cr p (by simp [ah])
   have o:l≤n:=cr _ (by simp)
   have R:n≤b.size:=cr _ (by simp)
   refine h5 (v:= .string (b.extract l n)) h ?_ rfl (.s _)
   have aJ : ∀(k:IntKind) (n y:Nat) (code:BoundsCode),n≤y→(Instr.sliceBound (.int k n) y code).run P w = .ok n w:=by
    intro k n y code a1
    simp [Instr.sliceBound,asIntOf,a1]
   simp only [execOp,ak,aa.yu,Option.map_none]
   rcases hQ with ⟨aw,rfl⟩|⟨j8,aw⟩<;>rcases ko with ⟨aC,rfl⟩|⟨jM,aC⟩<;>rw [aw,aC] <;>
    simp [Instr.sliceAt,Instr.slice,run_underlying hu,Instr.sliceBounds,aJ,o,R]
  ·simp at ar
 ·simp at ar
end
end Go.VL
namespace Go.VL
set_option linter.unusedVariables false
set_option linter.unusedSimpArgs false
open Go
section
variable {P:Program} {g:G} {s:S} {av:fj} {a:Act} {w:World} {I:Oper} {cB:fo} {aT:Nat} {bo:hJ}
theorem NL {ok:Nat→Prop}{a0:jg}{ba:i3}{t:TypeId}{c:List ax}{off:Nat}{x:ax}{vs:List Value}(aL:vs.length=c.length)
 (j6 : ∀(j:Nat) u,vs[j]? = some u→ke u=true) (ap : ∀(j:Nat) x u,c[j]? = some x→vs[j]? = some u→Rel w ok a0 ba x u)
 (cp:qU P t c off=some x) : ∃v,(part t vs.toArray off).run P w = .ok v w∧Rel w ok a0 ba x v:=by
 unfold qU at cp
 split at cp
 ·simp at cp
 ·rename_i ag
  simp only [Bool.not_eq_true',Bool.not_eq_false,Bool.and_eq_true] at ag
  simp only [part,Sem.run_bind,Oc ag.1,Result.andThen]
  split at cp
  ·rename_i rF
   rw [rF]
   split at cp
   ·rename_i hle
    simp at cp;subst cp
    have e:(vs.toArray.extract off (off+P.cellsOf t))=((vs.drop off).take (P.cellsOf t)).toArray:=by
     apply Array.ext'
     simp [List.extract_eq_take_drop]
    refine ⟨.agg ((vs.drop off).take (P.cellsOf t)).toArray,by simp [sM ag.2],?_⟩
    refine .agg _ (by simp;omega) ?_ ?_
    ·intro j v a2
     rw [List.getElem?_take] at a2
     split at a2
     ·rw [List.getElem?_drop] at a2;exact j6 _ _ a2
     ·simp at a2
    ·intro j y v aK a2
     rw [List.getElem?_take] at a2 aK
     split at a2
     ·rename_i aA
      rw [if_pos aA] at aK
      rw [List.getElem?_drop] at a2 aK;exact ap _ _ _ aK a2
     ·simp at a2
   ·simp at cp
  ·rename_i rF
   have rF:AB P t=false:=by simpa using rF
   rw [rF]
   split at cp
   ·rename_i y aK
    split at cp
    ·simp at cp;subst cp
     have yC:off<vs.length:=by
      rcases Nat.lt_or_ge off c.length with h|h
      ·omega
      ·rw [List.getElem?_eq_none h] at aK;simp at aK
     exact ⟨vs[off],by simp [yC],ap off y _ aK (List.getElem?_eq_getElem yC)⟩
    ·simp at cp
   ·simp at cp
theorem Xz {t:TypeId}{x:Operand}{f:Nat}(h:cI g s av a w)(ak:I.op = .field t x f)(ar:eQ P s.E s.aR aT I cB=some bo):Fin P g s a w I bo:=by
 simp only [eQ,ak] at ar
 have aa:=h.eval x
 split at ar
 ·rename_i jL Bv
  split at ar
  ·rename_i fd c ur gU
   rw [gU] at aa
   cases cp:qU P fd.type c fd.offset with
   | none=>simp [cp] at ar
   | some v =>
    simp [cp] at ar;subst ar
    obtain ⟨vs,hval,aL,aP,ap⟩:=aa.x7
    obtain ⟨u,o,R⟩:=NL aL aP ap cp
    refine h5 (v:=u) h ?_ rfl R
    simp [execOp,ak,hval,Instr.field,run_underlying (IX Bv),ur,asAgg,o]
  ·simp at ar
 ·simp at ar
theorem Og : ∀ {a b c:List ax},qk 0 a b=some c→c=a
 | [],[],c,h=>by simp [qk] at h;exact h
 | .n k x::a,.n dI y::b,c,h=>by
  unfold qk at h
  split at h
  ·cases hm:qk 0 a b with
   | none=>simp [hm] at h
   | some d=>simp [hm] at h;rw [← h,Og hm]
  ·simp at h
 | [],_::_,_,h=>by simp [qk] at h
theorem ON {j:Int}(aA:j≠0): ∀ {a b c:List ax},qk j a b=some c→c=b
 | [],[],c,h=>by simp [qk] at h;exact h
 | .n k x::a,.n dI y::b,c,h=>by
  unfold qk at h
  split at h
  ·rename_i aX
   subst aX
   cases hm:qk j a b with
   | none=>simp [hm] at h
   | some d=>simp [hm,aA] at h;rw [← h,ON aA hm]
  ·simp at h
 | [],_::_,_,h=>by simp [qk] at h
theorem WN {t:TypeId}{x y:Operand}(h:cI g s av a w)(ak:I.op = .index t x y)(ar:JR P t (eH s.E x) (eH s.E y)=some bo)(cr:∀p∈bo.fg,p):Fin P g s a w I bo:=by
 unfold JR at ar
 have aa:=h.eval x
 have aK:=h.eval y
 split at ar
 ·rename_i e cs cn j ht s9 A9
  rw [s9] at aa;rw [A9] at aK
  obtain ⟨hu,ag,-,-⟩:=JH ht
  split at ar
  ·rename_i dl jT bt aJ
   cases hm:qk j dl jT with
   | none=>simp [hm] at ar
   | some c =>
    simp only [hm,Option.map_some,Option.some.injEq] at ar;subst ar
    have h0:0≤j:=cr _ (by simp)
    have o:j<2:=cr _ (by simp)
    obtain ⟨vs,hval,aL,aP,ap⟩:=aa.x7
    have key:qU P e cs (j.toNat*P.cellsOf e)=some (.agg c):=by
     have:j=0∨j=1:=by omega
     rcases this with rfl|rfl
     ·rw [Og hm];exact bt
     ·rw [ON (by decide) hm];exact aJ
    obtain ⟨u,j8,jM⟩:=NL aL aP ap key
    refine h5 (v:=u) h ?_ rfl jM
    simp [execOp,ak,hval,aK.oz,Instr.index,asIntOf,run_underlying hu,h0,o,sM ag,j8]
  ·simp at ar
 ·simp at ar
theorem XA {t:TypeId}{x y:Operand}(h:cI g s av a w)(ak:I.op = .index t x y)(ar:eQ P s.E s.aR aT I cB=some bo)(cr:∀p∈bo.fg,p):Fin P g s a w I bo:=by
 simp only [eQ,ak] at ar
 have aa:=h.eval x
 have aK:=h.eval y
 split at ar
 ·rename_i b k j hu s9 A9
  rw [s9] at aa;rw [A9] at aK
  simp only [Option.some.injEq] at ar;subst ar
  have h0:0≤j:=cr _ (by simp)
  have o:j<b.size:=cr _ (by simp)
  have R:j.toNat<b.size:=by omega
  refine h5 (v:= .int .u8 (b[j.toNat]).toNat) h ?_ rfl ?_
  ·simp [execOp,ak,aa.yu,aK.oz,Instr.index,asIntOf,run_underlying hu,h0,R]
  ·have e:b.data.toList.getD j.toNat 0=b[j.toNat]:=by
    rw [List.getD_eq_getElem?_getD,Array.getElem?_toList,Array.getElem?_eq_getElem (by simpa using R)];rfl
   show Rel _ _ _ _ (.n .u8 _) _
   rw [e];exact .n _ _
 ·exact WN h ak ar cr
theorem WO (off:Nat): ∀(vs:List Value) (n:Nat) (cs:Array Value) (j:Nat),off+n+vs.length≤cs.size →
 ((vs.zipIdx n).foldl (fun cs (x:Value×Nat)=>cs.setIfInBounds (off+x.2) x.1) cs)[j]? = if off+n≤j∧j<off+n+vs.length then vs[j-(off+n)]? else cs[j]? := by
 intro vs
 induction vs with
 | nil=>intro n cs j h;simp;intro o R;omega
 | cons v vs ih =>
  intro n cs j h
  simp only [List.length_cons] at h
  simp only [List.zipIdx_cons,List.foldl_cons]
  rw [ih (n+1) _ j (by simp;omega)]
  simp only [List.length_cons,Array.getElem?_setIfInBounds]
  by_cases o:j=off+n
  ·subst o
   rw [if_neg (by omega),if_pos rfl,if_pos (by omega),if_pos (by omega)]
   simp
  ·by_cases R:off+(n+1)≤j∧j<off+(n+1)+vs.length
   ·rw [if_pos R,if_pos (by omega)]
    rw [show j-(off+n)=(j-(off+(n+1)))+1 by omega];rfl
   ·rw [if_neg R,if_neg (fun e=>o e.symm),if_neg (by omega)]
theorem Vg (off:Nat): ∀(vs:List (Value×Nat)) (cs:Array Value),(vs.foldl (fun cs (x:Value×Nat)=>cs.setIfInBounds (off+x.2) x.1) cs).size=cs.size:=by
 intro vs
 induction vs with
 | nil=>intro cs;rfl
 | cons v vs ih=>intro cs;simp only [List.foldl_cons];rw [ih];simp
def zg (w:World)(ok:Nat→Prop)(a0:jg)(ba:i3)(c:List ax)(cs:Array Value):Prop :=
 cs.size=c.length∧(∀(j:Nat) u,cs[j]? = some u→ke u=true)∧ ∀(j:Nat) x u,c[j]? = some x→cs[j]? = some u→Rel w ok a0 ba x u
theorem XB {ok:Nat→Prop}{a0:jg}{ba:i3}{c:List ax}{cs:Array Value}(h:zg w ok a0 ba c cs){x:ax}{v:Value}{off:Nat}(aa:Rel w ok a0 ba x v)(aP:x.xX=true)
 (iz:off+x.cells.length≤c.length):v.cells.size=x.cells.length ∧
   zg w ok a0 ba (setCells c off x.cells) (v.cells.zipIdx.foldl (fun cs (y:Value×Nat)=>cs.setIfInBounds (off+y.2) y.1) cs):=by
 obtain ⟨vs,a2,aL,j6,ap⟩:=aa.cellsOf (ax.Nv aP)
 have l7 : ∀j,(v.cells.zipIdx.foldl (fun cs (y:Value×Nat)=>cs.setIfInBounds (off+y.2) y.1) cs)[j]? = if off≤j∧j<off+vs.length then vs[j-off]? else cs[j]? := by
  intro j
  rw [a2]
  have:=WO off vs 0 cs j (by rw [h.1];omega)
  simp only [Nat.add_zero] at this
  rw [← this,← Array.foldl_toList,Array.toList_zipIdx]
 refine ⟨by rw [a2];simpa using aL,?_,?_,?_⟩
 ·rw [MZ iz,← h.1,← Array.foldl_toList,Vg]
 ·intro j u hu
  rw [l7] at hu
  split at hu
  ·exact j6 _ _ hu
  ·exact h.2.1 _ _ hu
 ·intro j y u aK hu
  rw [l7] at hu
  rw [IW iz] at aK
  by_cases mA:off≤j∧j<off+x.cells.length
  ·rw [if_pos mA] at aK
   rw [if_pos (by rw [aL];exact mA)] at hu
   exact ap _ _ _ aK hu
  ·rw [if_neg mA] at aK
   rw [if_neg (by rw [aL];exact mA)] at hu
   exact h.2.2 _ _ _ aK hu
theorem I8 {ok:Nat→Prop}{a0:jg}{ba:i3}(place:Nat→Option (Nat×Nat)): ∀(l:List (Nat×Nat×ax)) (jv:List (Nat×Value)) (c:List ax) (cs:Array Value) (dM:List ax),
 zg w ok a0 ba c cs→l.length=jv.length →
 (∀(j:Nat) off size x i v,l[j]? = some (off,size,x)→jv[j]? = some (i,v)→place i=some (off,size)∧Rel w ok a0 ba x v) →
 sc c l=some dM→ ∃lu,Instr.fill place cs jv=some lu∧zg w ok a0 ba dM lu:=by
 intro l
 induction l with
 | nil =>
  intro jv c cs dM h aL _ b9
  have:jv=[]:=List.length_eq_zero_iff.1 (by simpa using aL.symm)
  subst this
  simp [sc] at b9;subst b9
  exact ⟨cs,rfl,h⟩
 | cons q l ih =>
  intro jv c cs dM h aL ah b9
  obtain ⟨off,size,x⟩:=q
  match jv,aL with
  | (i,v)::jv,aL =>
   obtain ⟨abo,aa⟩:=ah 0 off size x i v rfl rfl
   simp only [sc] at b9
   split at b9
   ·rename_i aP
    simp only [Bool.and_eq_true,decide_eq_true_eq] at aP
    obtain ⟨⟨o,R⟩,ad⟩:=aP
    obtain ⟨aw,aC⟩:=XB h aa o (off:=off) (by omega)
    obtain ⟨lu,f1,f2⟩:=ih jv _ _ dM aC (by simpa using aL) (fun j off size x i v a b=>ah (j+1) off size x i v a b) b9
    refine ⟨lu,?_,f2⟩
    rw [Instr.fill]
    simp only [abo]
    have hl : ¬(decide (v.cells.size≠size) || decide (off+v.cells.size>cs.size))=true:=by simp;rw [aw,h.1];omega
    rw [if_neg hl]
    exact f1
   ·simp at b9
theorem mapM_some {α β:Type}(f:α→β)(p:α→Option β): ∀(l:List α),(∀x∈l,p x=some (f x))→l.mapM p=some (l.map f)
 | [],_=>rfl
 | x::l,h=>by
  rw [List.mapM_cons,h x (by simp),mapM_some f p l fun y aK=>h y (by simp [aK])];rfl
theorem Po {α β:Type}(p:α→Option β): ∀(l:List α) (gl:List β),l.mapM p=some gl→gl.length=l.length∧ ∀(j:Nat) x y,l[j]? = some x→gl[j]? = some y→p x=some y
 | [],gl,h=>by simp at h;subst h;exact ⟨rfl,fun j x y aa=>by simp at aa⟩
 | a::l,gl,h=>by
  rw [List.mapM_cons] at h
  cases bt:p a with
  | none=>simp [bt] at h
  | some b =>
   cases aL:l.mapM p with
   | none=>simp [bt,aL] at h
   | some r =>
    simp [bt,aL] at h;subst h
    obtain ⟨o,R⟩:=Po p l r aL
    refine ⟨by simp [o],fun j x y aa aK=> ?_⟩
    cases j with
    | zero=>simp at aa aK;subst aa;subst aK;exact bt
    | succ j=>simp at aa aK;exact R j x y aa aK
theorem JI {t:TypeId}{z:List ax}(cd:qJ P t=some z): ∃i ep,P.info? t=some i∧i.zero=some ep∧ep.cells.size=z.length∧zg w (s.ok g av w) s.a0 (s.ba av) z ep.cells:=by
 obtain ⟨i,ep,ag,kJ,st,j6⟩:=z8 cd
 have bW:ep.cells.size=z.length:=by rw [st];simp
 refine ⟨i,ep,ag,kJ,bW,bW,fun j u hu=> ?_,fun j x u aa hu=> ?_⟩
 ·have aA:j<z.length:=by
   have:=(Array.getElem?_eq_some_iff.1 hu).1;omega
  obtain ⟨v,aw,aC,-⟩:=j6 j z[j] (List.getElem?_eq_getElem aA)
  rw [hu] at aw;simp at aw;subst aw;exact aC
 ·obtain ⟨v,aw,-,b1⟩:=j6 j x aa
  rw [hu] at aw;simp at aw;subst aw;exact b1 _ _ _ _
theorem VS {t:TypeId}{parts:Array (Nat×Operand)}(h:cI g s av a w)(ak:I.op = .build t parts)(ar:Jp P t (parts.toList.map fun p=>(p.1,eH s.E p.2))=some bo):Fin P g s a w I bo:=by
 unfold Jp at ar
 split at ar
 ·rename_i n e z ht cd
  obtain ⟨hu,ag,-,-⟩:=JH ht
  rw [List.map_map] at ar
  cases b9:sc z (parts.toList.map ((fun p:Nat×ax=>(p.1*P.cellsOf e,P.cellsOf e,p.2))∘fun p=>(p.1,eH s.E p.2))) with
  | none=>rw [b9] at ar;simp at ar
  | some c =>
   rw [b9] at ar
   simp only [Option.map_some,Option.some.injEq] at ar;subst ar
   obtain ⟨it,ep,vH,kJ,eS,hcs⟩:=JI (w:=w) (s:=s) (g:=g) (av:=av) cd
   obtain ⟨LQ,yN⟩:=Option.isSome_iff_exists.1 ag
   have Z8:P.cellsOf e=LQ.size:=by simp [Program.cellsOf,yN]
   obtain ⟨lu,f1,f2⟩:=I8 (w:=w) (ok:=s.ok g av w) (a0:=s.a0) (ba:=s.ba av) (fun i=>some (i*LQ.size,LQ.size)) _ (parts.map fun (i,x)=>(i,a.eval x)).toList z ep.cells c hcs (by simp) (by
    intro j off size x i v aA a2
    simp only [List.getElem?_map,Option.map_eq_some_iff,Function.comp,Prod.mk.injEq] at aA
    simp only [Array.toList_map,List.getElem?_map,Option.map_eq_some_iff] at a2
    obtain ⟨p,ah,aw,aC,b1⟩:=aA
    obtain ⟨⟨fx,cF⟩,l8,a2⟩:=a2
    simp only [Prod.mk.injEq] at a2
    obtain ⟨rfl,rfl⟩:=a2
    rw [ah] at l8
    have:=Option.some.inj l8
    subst this
    refine ⟨by rw [← aw,← aC,Z8],?_⟩
    rw [← b1];exact h.eval _) b9
   have aJ:P.built t (parts.map fun (i,x)=>(i,a.eval x)).toList=some lu:=by
    unfold Program.built
    simp only [vH,hu,kJ,yN]
    exact f1
   refine h5 (v:= .agg lu) h ?_ rfl ?_
   ·have:=run_build w t _ lu aJ
    simp [execOp,ak,this]
   ·have:=Rel.agg (w:=w) (ok:=s.ok g av w) (a0:=s.a0) (ba:=s.ba av) (c:=c) lu.toList (by simpa using f2.1) (fun j u hu=>f2.2.1 j u (by simpa using hu)) (fun j x u aa hu=>f2.2.2 j x u aa (by simpa using hu))
    simpa using this
 ·simp at ar
theorem XC {t:TypeId}{parts:Array (Nat×Operand)}(h:cI g s av a w)(ak:I.op = .build t parts)(ar:eQ P s.E s.aR aT I cB=some bo):Fin P g s a w I bo:=by
 simp only [eQ,ak] at ar
 split at ar
 ·rename_i jL z Bv cd
  split at ar
  ·simp at ar
  ·rename_i nZ
   have nZ : ∀f∈jL.toList,(P.info? f.type).isSome=true:=by
    rw [Bool.not_eq_false] at nZ
    exact List.all_eq_true.1 nZ
   split at ar
   ·rename_i l aL
    cases b9:sc z l with
    | none=>simp [b9] at ar
    | some c =>
     simp [b9] at ar;subst ar
     obtain ⟨it,ep,vH,kJ,eS,hcs⟩:=JI (w:=w) (s:=s) (g:=g) (av:=av) cd
     obtain ⟨mG,qB⟩:=Po _ _ _ aL
     have aaF:jL.toList.mapM (fun f=>(P.info? f.type).map fun i=>(f.offset,i.size))=some (jL.toList.map fun f=>(f.offset,P.cellsOf f.type)):=by
      refine mapM_some (fun f:Field=>(f.offset,P.cellsOf f.type)) _ _ fun f b9=> ?_
      have:=nZ f b9
      cases ag:P.info? f.type with
      | none=>simp [ag] at this
      | some i=>simp [Program.cellsOf,ag]
     obtain ⟨lu,f1,f2⟩:=I8 (w:=w) (ok:=s.ok g av w) (a0:=s.a0) (ba:=s.ba av) ((jL.toList.map fun f=>(f.offset,P.cellsOf f.type)).toArray[·]?) l (parts.map fun (i,x)=>(i,a.eval x)).toList z ep.cells c hcs (by simpa using mG) (by
      intro j off size x i v aA a2
      simp only [Array.toList_map,List.getElem?_map,Option.map_eq_some_iff] at a2
      obtain ⟨⟨fx,cF⟩,ah,a2⟩:=a2
      simp only [Prod.mk.injEq] at a2
      obtain ⟨rfl,rfl⟩:=a2
      have:=qB j _ _ ah aA
      simp only [Option.map_eq_some_iff,Prod.mk.injEq] at this
      obtain ⟨fd,o,R,ad,aD⟩:=this
      subst R;subst ad;subst aD
      refine ⟨?_,h.eval cF⟩
      rw [List.getElem?_toArray,List.getElem?_map,Array.getElem?_toList,o];rfl) b9
     have aJ:P.built t (parts.map fun (i,x)=>(i,a.eval x)).toList=some lu:=by
      unfold Program.built
      simp only [vH,IX Bv,kJ,aaF]
      exact f1
     refine h5 (v:= .agg lu) h ?_ rfl ?_
     ·have:=run_build w t _ lu aJ
      simp [execOp,ak,this]
     ·have:=Rel.agg (w:=w) (ok:=s.ok g av w) (a0:=s.a0) (ba:=s.ba av) (c:=c) lu.toList (by simpa using f2.1) (fun j u hu=>f2.2.1 j u (by simpa using hu)) (fun j x u aa hu=>f2.2.2 j x u aa (by simpa using hu))
      simpa using this
   ·simp at ar
 ·exact VS h ak ar
theorem US {sz:Nat}{es:List (List ax)}(aL:∀e∈es,e.length=sz){i:Nat}(ag:i<es.length){c:List ax}(aP:c.length=sz):
 setCells es.flatten (i*sz) c=(es.set i c).flatten:=by
 have hlen : ∀(es:List (List ax)),(∀e∈es,e.length=sz)→es.flatten.length=es.length*sz:=by
  intro es
  induction es with
  | nil=>simp
  | cons e es ih =>
   intro h
   rw [List.flatten_cons,List.length_append,ih fun x aa=>h x (by simp [aa]),h e (by simp),List.length_cons,Nat.add_mul];omega
 have iz:i*sz+c.length≤es.flatten.length:=by
  rw [hlen es aL,aP]
  have:=Nat.mul_le_mul_right sz (show i+1≤es.length by omega)
  rw [Nat.add_mul] at this;omega
 apply List.ext_getElem?
 intro j
 rw [IW iz,Nw aL (List.getElem?_eq_getElem ag) aP,aP]
theorem NM {sz:Nat}: ∀(l:List (Nat×ax)) (es gk:List (List ax)),(∀e∈es,e.length=sz)→yt sz es l=some gk →
 sc es.flatten (l.map fun p=>(p.1*sz,sz,p.2))=some gk.flatten∧(∀e∈gk,e.length=sz)∧gk.length=es.length
 | [],es,gk,aL,h=>by simp [yt] at h;subst h;exact ⟨rfl,aL,rfl⟩
 | (i,x)::l,es,gk,aL,h=>by
  simp only [yt] at h
  split at h
  ·rename_i aP
   simp only [Bool.and_eq_true,decide_eq_true_eq] at aP
   obtain ⟨⟨o,R⟩,ad⟩:=aP
   have KN : ∀e∈es.set i x.cells,e.length=sz:=by
    intro e hm
    rcases List.mem_or_eq_of_mem_set hm with cv|cv
    ·exact aL e cv
    ·exact cv▸R
   obtain ⟨h3,j2,bI⟩:=NM l (es.set i x.cells) gk KN h
   have e:=US aL ad R
   have iz:i*sz+sz≤es.flatten.length:=by
    have:(setCells es.flatten (i*sz) x.cells).length=(es.set i x.cells).flatten.length:=by rw [e]
    have a6 : ∀(es:List (List ax)),(∀e∈es,e.length=sz)→es.flatten.length=es.length*sz:=by
     intro es
     induction es with
     | nil=>simp
     | cons e es ih =>
      intro h
      rw [List.flatten_cons,List.length_append,ih fun x aa=>h x (by simp [aa]),h e (by simp),List.length_cons,Nat.add_mul];omega
    rw [a6 es aL]
    have:=Nat.mul_le_mul_right sz (show i+1≤es.length by omega)
    rw [Nat.add_mul] at this;omega
   refine ⟨?_,j2,by simpa using bI⟩
   simp only [List.map_cons,sc,o,R,iz,decide_true,Bool.and_self,if_true]
   rw [e];exact h3
  ·simp at h
theorem Vq {t:TypeId}{len:Nat}{parts:Array (Nat×Operand)}(h:cI g s av a w)(eT:s.aR aT=none)(ak:I.op = .buildSlice t len parts)(ar:eQ P s.E s.aR aT I cB=some bo):Fin P g s a w I bo:=by
 simp only [eQ,ak] at ar
 split at ar
 ·rename_i e he
  split at ar
  ·rename_i z cd
   split at ar
   ·simp at ar
   ·rename_i aP
    simp only [not_or,Nat.not_lt,Decidable.not_not] at aP
    obtain ⟨m8,yO,yP⟩:=aP
    split at ar
    ·rename_i es hB
     simp only [Option.some.injEq] at ar;subst ar
     obtain ⟨it,ep,vH,kJ,eS,hcs⟩:=JI (w:=w) (s:=s) (g:=g) (av:=av) cd
     have j6:P.cellsOf e=it.size:=by simp [Program.cellsOf,vH]
     have QR : ∀x∈List.replicate len z,x.length=z.length:=fun x aa=>by rw [List.eq_of_mem_replicate aa]
     obtain ⟨f1,f2,f3⟩:=NM _ _ _ QR hB
     have rK:zg w (s.ok g av w) s.a0 (s.ba av) (List.replicate len z).flatten ((Array.range (len*it.size)).map (ep.cells[· % ep.cells.size]!)):=by
      have E2:0<z.length:=by omega
      have l7 : ∀j,j<len*it.size→((Array.range (len*it.size)).map (ep.cells[· % ep.cells.size]!))[j]? = ep.cells[j % z.length]? := by
       intro j aA
       rw [Array.getElem?_map,Array.getElem?_range]
       simp only [aA,if_true,Option.map_some]
       have hm:j % ep.cells.size<ep.cells.size:=Nat.mod_lt _ (by omega)
       rw [getElem!_pos ep.cells _ hm,← eS,Array.getElem?_eq_getElem hm]
      have dC : ∀(j:Nat) u,((Array.range (len*it.size)).map (ep.cells[· % ep.cells.size]!))[j]? = some u→j<len*it.size:=by
       intro j u hu
       have:=(Array.getElem?_eq_some_iff.1 hu).1
       simpa using this
      refine ⟨by simp [← j6,← yO],fun j u hu=> ?_,fun j x u aa hu=> ?_⟩
      ·have aA:=dC j u hu
       rw [l7 j aA] at hu
       exact hcs.2.1 _ _ hu
      ·have aA:=dC j u hu
       rw [l7 j aA] at hu
       rw [pK E2 _ QR,List.getElem?_replicate] at aa
       split at aa
       ·exact hcs.2.2 _ _ _ aa hu
       ·simp at aa
     obtain ⟨lu,g1,g2⟩:=I8 (w:=w) (ok:=s.ok g av w) (a0:=s.a0) (ba:=s.ba av) (fun i=>some (i*it.size,it.size)) ((parts.toList.map fun p=>(p.1,eH s.E p.2)).map fun p=>(p.1*z.length,z.length,p.2)) (parts.map fun (i,x)=>(i,a.eval x)).toList _ _ es.flatten rK (by simp) (by
      intro j off size x i v aA a2
      simp only [Array.toList_map,List.getElem?_map,Option.map_eq_some_iff,List.map_map] at a2 aA
      obtain ⟨⟨fx,cF⟩,ah,a2⟩:=a2
      obtain ⟨⟨qC,fy⟩,Bs,aA⟩:=aA
      rw [ah] at Bs
      simp only [Option.some.injEq,Prod.mk.injEq] at Bs a2
      obtain ⟨rfl,rfl⟩:=Bs
      obtain ⟨rfl,rfl⟩:=a2
      simp only [Function.comp,Prod.mk.injEq] at aA
      obtain ⟨rfl,rfl,rfl⟩:=aA
      exact ⟨by rw [← j6,← yO],h.eval cF⟩) f1
     have iX:(Instr.buildSlice t len (parts.map fun (i,x)=>(i,a.eval x))).run P w = .ok (.slice (some ⟨w.heap.size,0,none⟩) len len) (w.alloc (.cells lu e)):=by
      have o : ¬len*it.size>2 ^ 24:=by rw [← j6,← yO];omega
      by_cases h0:len*it.size=0
      ·have nC:len=0:=by
        rcases Nat.eq_zero_or_pos len with cv|cv
        ·exact cv
        ·have:0<len*it.size:=Nat.mul_pos cv (by omega)
         omega
       subst nC
       have e0:((Array.range (0*it.size)).map (ep.cells[· % ep.cells.size]!)) = #[]:=by simp
       rw [e0] at g1
       have ah:parts = #[]:=by
        obtain ⟨l⟩:=parts
        match l,hB with
        | [],_=>rfl
        | p::l,hB=>simp [yt] at hB
       subst ah
       have aaG:lu = #[]:=by simpa [Instr.fill] using g1.symm
       subst aaG
       simp [Instr.buildSlice,run_underlying (r8 he),sizeOf,typeInfo,vH,newRow,Instr.fill]
       rw [Array.range_zero',Array.map_empty]
      ·simp only [Instr.buildSlice,run_underlying (r8 he),sizeOf,typeInfo,vH,newRow,zeroValue,kJ,Sem.run_bind,Result.andThen_ok,run_program,Sem.run_pure,Sem.run_ite,o,h0,if_false]
       rw [g1];rfl
     refine Ec (v:= .slice (some ⟨w.heap.size,0,none⟩) len len) (aj:=⟨z.length,es,.live⟩) (c:=lu) (eB:=e) h eT rfl ?_ rfl f2 ?_ ?_
     ·simp [execOp,ak,iX]
     ·intro j x aa
      have aA:j<lu.size:=by
       rw [g2.1]
       rcases Nat.lt_or_ge j es.flatten.length with cv|cv
       ·exact cv
       ·rw [List.getElem?_eq_none cv] at aa;simp at aa
      have hu:lu[j]? = some lu[j]:=Array.getElem?_eq_getElem aA
      exact ⟨_,hu,g2.2.1 _ _ hu,g2.2.2 _ _ _ aa hu⟩
     ·intro bG kU m3 my hu cp
      refine Rel.bF hu cp (Nat.le_refl _) ?_ ⟨?_,.inr (by simp)⟩
      ·have:len≤len*z.length:=Nat.le_mul_of_pos_right _ (by omega)
       omega
      ·rw [g2.1]
       have a6 : ∀(es:List (List ax)),(∀e∈es,e.length=z.length)→es.flatten.length=es.length*z.length:=by
        intro es
        induction es with
        | nil=>simp
        | cons e es ih =>
         intro h
         rw [List.flatten_cons,List.length_append,ih fun x aa=>h x (by simp [aa]),h e (by simp),List.length_cons,Nat.add_mul];omega
       rw [a6 es f2,f3];simp
    ·simp at ar
  ·simp at ar
 ·simp at ar
theorem DL (h:cI g s av a w)(eT:s.aR aT=none)(ar:eQ P s.E s.aR aT I cB=some bo)(cr:∀p∈bo.fg,p):Fin P g s a w I bo:=by
 cases ak:I.op with
 | move x=>exact Pn h (.inl ak) ar
 | assign x=>exact Pn h (.inr ak) ar
 | pick c x y=>exact Yv h ak ar cr
 | alloc t=>exact Xt h eT ak ar
 | box t x=>exact Zi h eT ak ar
 | load t x=>exact Yw h ak ar cr
 | store t x y=>exact Xu h ak ar cr
 | nilCheck x=>exact VQ h ak ar cr
 | binOp op t x y dE=>exact Xv h ak ar cr
 | unOp op t x=>exact Yx h ak ar
 | convert t dE x=>exact We h ak ar
 | makeFunc f Ce ch=>exact VR h ak ar
 | makeSlice t x y=>exact VA h eT ak ar cr
 | fieldAddr t x f=>exact VB h ak ar cr
 | field t x f=>exact Xz h ak ar
 | indexAddr t x y=>exact VC h ak ar cr
 | index t x y=>exact XA h ak ar cr
 | extract x i=>exact Wf h ak ar
 | slice t x bV ag LR =>
  cases LR with
  | none=>exact Xy h ak ar cr
  | some m=>simp [eQ,ak] at ar
 | build t jv=>exact XC h ak ar
 | buildSlice t n jv=>exact Vq h eT ak ar
 | call c =>
  obtain ⟨E3,args,m5⟩:=c
  cases E3 with
  | builtin b=>cases b<;>first|exact Zj h ak rfl ar cr|simp [eQ,ak] at ar
  | value f=>simp [eQ,ak] at ar
  | invoke r m=>simp [eQ,ak] at ar
 | _=>simp [eQ,ak] at ar
end
end Go.VL
namespace Go.VL
set_option linter.unusedVariables false
set_option linter.unusedSimpArgs false
open Go
def Zk:Option af→fo
 | some I=> .hz I []
 | none=> .none
def ry (sz:Nat)(aR:Nat→Option (List af))(a:fo):ax→Option (List (List ax)×List Prop)
 | .isl E5 es=>if E5=sz then some (es,[]) else none
 | .bF r k bV len=>match oG (aR r) k a with
  | some (aj,b3)=>if aj.sz=sz then some ((aj.es.drop bV).take len,b3++[bV+len≤aj.es.length]) else none
  | none=>none
 | .ex=>some ([],[])
 | .iQ=>some ([],[])
 | _=>none
def vr (P:Program)(sz:Nat)(z:List ax)(aR:Nat→Option (List af))(a:fo)(t dE:TypeId)(y:ax):Option (List (List ax)×List Prop) :=
 if t=dE then ry sz aR a y else
 match P.underlying dE,y with
 | some (.int _),.n .i64 n=>some (List.replicate n.toNat z,[0≤n,n<9223372036854775808])
 | _,_=>none
def n5 (P:Program)(E:Nat→ax)(aR:Nat→Option (List af))(aT:Nat)(b:Builtin)(args:List ax)(m5:List TypeId)(cB:fo):Option hJ :=
 match b,args,m5,cB with
 | .append,[x,y],[t,dE],.aY m I =>
  match qi P t with
  | none=>none
  | some e=>match P.info? e,qJ P e with
   | some i,some z =>
    if z.length≠i.size∨i.size=0∨i.bytes=0 then none else
    match vr P i.size z aR (Zk I) t dE y with
    | none=>none
    | some (br,b3)=>match x with
     | .ex=>some {val:= .bF aT 0 0 m,fK:=[(aT,[⟨i.size,br,.live⟩])],fg:=b3++[m=br.length,m*i.bytes≤140737488355328]}
     | .bF r k 0 len=>match aR r with
      | none=>none
      | some row=>match dk (some row) k with
       | none=>none
       | some aj=>if aj.cn = .live∧aj.sz=i.size∧aT≠r then
        some {val:= .bF aT 0 0 m,fK:=[(aT,[⟨i.size,aj.es.take len++br,.live⟩]),(r,row.set k {aj with cn:= .gone})],fg:=b3++[len≤aj.es.length,m=len+br.length,m*i.bytes≤140737488355328]} else none
     | _=>none
   | _,_=>none
 | .append,[x,y],[t,dE],.dh =>
  match qi P t with
  | none=>none
  | some e=>match P.info? e,qJ P e with
   | some i,some z =>
    if z.length≠i.size∨i.size=0∨i.bytes=0 then none else
    match vr P i.size z aR .none t dE y with
    | none=>none
    | some (br,b3)=>match x with
     | .bF r k 0 len=>match aR r with
      | none=>none
      | some row=>match dk (some row) k with
       | none=>none
       | some aj=>if aj.cn = .live∧aj.sz=i.size then
        some {val:= .bF r k 0 (len+br.length),fK:=[(r,row.set k {aj with es:=aj.es.take len++br})],fg:=b3++[len+br.length≤aj.es.length,br.length*i.bytes≤140737488355328]} else none
     | _=>none
   | _,_=>none
 | .copy,[.bF r k 0 len,y],[t,_],_ =>
  match qi P t with
  | none=>none
  | some e=>match P.info? e with
   | none=>none
   | some i=>match ry i.size aR .none y with
    | none=>none
    | some (br,b3)=>match aR r with
     | none=>none
     | some row=>match dk (some row) k with
      | none=>none
      | some aj=>if aj.cn = .live∧aj.sz=i.size∧i.size≠0 then
       some {val:= .n .i64 br.length,fK:=[(r,row.set k {aj with es:=br++aj.es.drop br.length})],fg:=b3++[br.length≤len,len≤aj.es.length]} else none
 | .clear,[.bF r k 0 len],[t],_ =>
  match qi P t with
  | none=>none
  | some e=>match P.info? e,qJ P e with
   | some i,some z=>match aR r with
    | none=>none
    | some row=>match dk (some row) k with
     | none=>none
     | some aj=>if aj.cn = .live∧aj.sz=i.size∧z.length=i.size∧i.size≠0 then
      some {val:= .dB [],fK:=[(r,row.set k {aj with es:=List.replicate len z})],fg:=[aj.es.length=len]} else none
   | _,_=>none
 | .min,[.n k x,.n dI y],_,_=>if k=dI then some {val:= .n k (if y<x then y else x)} else none
 | _,_,_,_=>none
section
variable {g:G} {s:S} {av:fj} {a:Act} {w bG:World}
theorem cI.gone (h:cI g s av a w){r k:Nat}{l:List af}{I:af}(ap:s.aR r=some l)(ak:s.aj r k=some I):
 cI g (s.setRow r (l.set k {I with cn:= .gone})) av a w ∧
  ∀x v,Rel w (s.ok g av w) s.a0 (s.ba av) x v→Rel w ((s.setRow r (l.set k {I with cn:= .gone})).ok g av w) (s.setRow r (l.set k {I with cn:= .gone})).a0 ((s.setRow r (l.set k {I with cn:= .gone})).ba av) x v:=by
 have bi : ∀q j p,(s.setRow r (l.set k {I with cn:= .gone})).aj q j=some p→s.aj q j=some p∧ ¬(q=r∧j=k):=by
  intro q j p ah
  rw [lK] at ah
  by_cases e:q=r
  ·subst e
   rw [if_pos rfl] at ah
   unfold dk at ah
   simp only [List.getElem?_set] at ah
   by_cases aC:k=j
   ·subst aC
    by_cases aX:k<l.length
    ·simp [aX] at ah
    ·simp [aX] at ah
   ·rw [if_neg aC] at ah
    refine ⟨?_,fun fQ=>aC fQ.2.symm⟩
    unfold S.aj;rw [ap];exact ah
  ·rw [if_neg e] at ah
   exact ⟨ah,fun fQ=>e fQ.1⟩
 have c5:Step g s av w (s.setRow r (l.set k {I with cn:= .gone})) av w:=by
  refine ⟨Dw s ap (by simp),fun q j a6=> ?_,fun b aL=> ?_,fun _ _ _=>rfl,Nat.le_refl _⟩
  ·cases ah:(s.setRow r (l.set k {I with cn:= .gone})).aj q j with
   | none=>right;simp [S.ba,ah]
   | some p=>left;simp [S.ba,ah,(bi q j p ah).1]
  ·obtain ⟨q,j,p,m,o,R,ad⟩:=aL
   exact .inl ⟨q,j,p,m,(bi q j p o).1,R,ad⟩
 refine ⟨{toil:=⟨?_,?_,?_,h.hb,h.mlt,h.ny,c5.stay h.stay,h.low⟩,env:=fun t=>c5.rel (h.env t),defers:=h.defers,jQ:=h.jQ},fun x v=>c5.rel⟩
 ·intro q j p ah
  exact c5.obj (fun b m _=>rfl) (h.obj q j p (bi q j p ah).1)
 ·intro q j p hs h2 km b m a4 o R ad aD
  exact h.inj q j p hs h2 km b m a4 (bi q j p o).1 (bi hs h2 km R).1 ad aD
 ·intro q j p b m o R
  exact h.own q j p b m (bi q j p o).1 R
theorem cI.Pp (h:cI g s av a w){aT sz:Nat}(eT:s.aR aT=none):
 ∃bJ,bJ aT 0=none∧cI g (s.setRow aT [⟨sz,[],.live⟩]) bJ a w:=by
 have bi : ∀q k,q≠aT→(s.setRow aT [⟨sz,[],.live⟩]).aj q k=s.aj q k:=fun q k a6=>by rw [lK,if_neg a6]
 let bJ:fj:=fun q k=>if q=aT then none else av q k
 have cu : ∀q k,s.a0 q k→q≠aT:=by
  rintro q k a6 rfl;exact xA eT k a6
 have Km : ∀k I,(s.setRow aT [⟨sz,[],.live⟩]).aj aT k=some I→I=⟨sz,[],.live⟩:=by
  intro k I ak
  rw [lK,if_pos rfl,mo] at ak
  split at ak
  ·simp at ak;exact ak.symm
  ·simp at ak
 have c5:Step g s av w (s.setRow aT [⟨sz,[],.live⟩]) bJ w:=by
  refine ⟨fun q k a6=>(nr _ _ _ _ _).2 (by rw [if_neg (cu q k a6)];exact a6),fun q k a6=> .inl ?_,fun b aL=> ?_,fun _ _ _=>rfl,Nat.le_refl _⟩
  ·simp [S.ba,bi q k (cu q k a6),bJ,cu q k a6]
  ·obtain ⟨q,k,I,m,o,R,ad⟩:=aL
   by_cases e:q=aT
   ·subst e;simp [bJ] at ad
   ·rw [bi q k e] at o
    simp only [bJ,if_neg e] at ad
    exact .inl ⟨q,k,I,m,o,R,ad⟩
 refine ⟨bJ,by simp [bJ],{toil:=⟨?_,?_,?_,h.hb,h.mlt,h.ny,c5.stay h.stay,h.low⟩,env:=fun t=>c5.rel (h.env t),defers:=h.defers,jQ:=h.jQ}⟩
 ·intro q k I ak
  by_cases e:q=aT
  ·subst e
   rw [Km k I ak]
   simp [bJ,ja]
  ·rw [bi q k e] at ak
   have:=c5.obj (fun b m _=>rfl) (h.obj q k I ak)
   simpa [bJ,e] using this
 ·intro q k I hs dI b5 b m a4 o R ad aD
  have e:q≠aT:=by rintro rfl;simp [bJ] at ad
  have eD:hs≠aT:=by rintro rfl;simp [bJ] at aD
  rw [bi q k e] at o
  rw [bi hs dI eD] at R
  simp only [bJ,if_neg e] at ad
  simp only [bJ,if_neg eD] at aD
  exact h.inj q k I hs dI b5 b m a4 o R ad aD
 ·intro q k I b m o R
  have e:q≠aT:=by rintro rfl;simp [bJ] at R
  rw [bi q k e] at o
  simp only [bJ,if_neg e] at R
  exact h.own q k I b m o R
theorem cI.turn (h:cI g s av a w){r k b m aT:Nat}{l:List af}{I:af}(ap:s.aR r=some l)(ak:s.aj r k=some I)(aX:I.cn = .live)(ah:av r k=some (b,m))
 (eT:s.aR aT=none) (b5:af) (m9:b5.cn = .live) (c:Array Value) (eB:TypeId)
 (hw:bG.heap[b]? = some (.cells c eB (0,0))) (eS:bG.heap.size=w.heap.size) (vq : ∀q,q≠b→bG.heap[q]? = w.heap[q]?)
 (q4:bG.os=w.os) (KL:bG.tape=w.tape) (Kk:bG.output=w.output) (hm:c.size=m) (hlen : ∀e∈b5.es,e.length=b5.sz)
 (aP : ∀(j:Nat) x,b5.es.flatten[j]? = some x→ ∃v,c[j]? = some v∧ke v=true∧Rel w (s.ok g av w) s.a0 (s.ba av) x v) :
 ∃bJ,bJ aT 0=some (b,m)∧cI g ((s.setRow aT [b5]).setRow r (l.set k {I with cn:= .gone})) bJ a bG:=by
 have cu:r≠aT:=by rintro rfl;rw [eT] at ap;simp at ap
 have QS : ∀k,¬s.a0 aT k:=xA eT
 let bL:=(s.setRow aT [b5]).setRow r (l.set k {I with cn:= .gone})
 let bJ:fj:=av.set aT 0 (some (b,m))
 have bi : ∀q j p,bL.aj q j=some p→(q=aT∧j=0∧p=b5)∨(q≠aT∧s.aj q j=some p∧ ¬(q=r∧j=k)):=by
  intro q j p a6
  rw [lK] at a6
  by_cases e:q=r
  ·subst e
   rw [if_pos rfl] at a6
   unfold dk at a6
   simp only [List.getElem?_set] at a6
   by_cases aC:k=j
   ·subst aC
    by_cases aX:k<l.length<;>simp [aX] at a6
   ·rw [if_neg aC] at a6
    refine .inr ⟨cu,?_,fun fQ=>aC fQ.2.symm⟩
    unfold S.aj;rw [ap];exact a6
  ·rw [if_neg e,lK] at a6
   by_cases aC:q=aT
   ·subst aC
    rw [if_pos rfl,mo] at a6
    split at a6
    ·rename_i h0;simp at a6;exact .inl ⟨rfl,h0.1,a6.symm⟩
    ·simp at a6
   ·rw [if_neg aC] at a6
    exact .inr ⟨aC,a6,fun fQ=>e fQ.1⟩
 have lT : ∀q j,q≠aT→bJ q j=av q j:=fun q j a6=>by simp [bJ,fj.set,a6]
 have yQ:bJ aT 0=some (b,m):=by simp [bJ,fj.set]
 have qh:s.l0 av b:=⟨r,k,I,m,ak,aX,ah⟩
 have jr : ∀q j,s.a0 q j→bL.a0 q j:=fun q j a6=>by
  have e:q≠aT:=fun e=>QS j (e▸a6)
  rw [nr,nr,if_neg e]
  by_cases aC:q=r
  ·subst aC;rw [if_pos rfl];simpa [S.a0,ap] using a6
  ·rw [if_neg aC];exact a6
 have c5:Step g s av w bL bJ bG:=by
  refine ⟨jr,fun q j a6=> ?_,fun q aL=> ?_,fun q a6 aL=>vq q fun e=>aL (e▸qh),Nat.le_of_eq eS.symm⟩
  ·have nA:q≠aT:=fun e=>QS j (e▸a6)
   cases kt:bL.aj q j with
   | none=>right;simp [S.ba,kt]
   | some p =>
    left
    rcases bi q j p kt with ⟨e,-⟩|⟨-,aC,-⟩
    ·exact absurd e nA
    ·simp [S.ba,kt,aC,lT q j nA]
  ·obtain ⟨hs,j,p,a4,o,R,ad⟩:=aL
   rcases bi hs j p o with ⟨rfl,rfl,rfl⟩|⟨aw,aC,-⟩
   ·rw [yQ] at ad;simp at ad;exact .inl (ad.1▸qh)
   ·rw [lT hs j aw] at ad;exact .inl ⟨hs,j,p,a4,aC,R,ad⟩
 refine ⟨bJ,yQ,{toil:=⟨?_,?_,?_,?_,h.mlt,h.ny,c5.stay h.stay,h.low⟩,env:=fun t=>c5.rel (h.env t),defers:=h.defers,jQ:=h.jQ}⟩
 ·intro q j p kt
  rcases bi q j p kt with ⟨rfl,rfl,rfl⟩|⟨aw,aC,b1⟩
  ·rw [yQ]
   exact ⟨c,eB,hw,hm,hlen,fun i x aa=>let ⟨v,f1,f2,f3⟩:=aP i x aa;⟨v,f1,f2,c5.rel f3⟩⟩
  ·rw [lT q j aw]
   refine c5.obj (fun jT a4 kV=>vq jT ?_) (h.obj q j p aC)
   rintro rfl
   exact b1 (h.inj q j p r k I jT a4 m aC ak kV ah)
 ·intro q j p hs h2 km jT gi gB o R ad aD
  rcases bi q j p o with ⟨rfl,rfl,rfl⟩|⟨aw,aC,b1⟩<;>rcases bi hs h2 km R with ⟨rfl,rfl,rfl⟩|⟨na,pV,Bx⟩
  ·exact ⟨rfl,rfl⟩
  ·rw [yQ] at ad;simp at ad
   rw [lT hs h2 na] at aD
   obtain ⟨rfl,rfl⟩:=ad
   exact absurd (h.inj hs h2 km r k I b gB m pV ak aD ah) Bx
  ·rw [yQ] at aD;simp at aD
   rw [lT q j aw] at ad
   obtain ⟨rfl,rfl⟩:=aD
   exact absurd (h.inj q j p r k I b gi m aC ak ad ah) b1
  ·rw [lT q j aw] at ad;rw [lT hs h2 na] at aD
   exact h.inj q j p hs h2 km jT gi gB aC pV ad aD
 ·intro q j p jT a4 o R
  rcases bi q j p o with ⟨rfl,rfl,rfl⟩|⟨aw,aC,-⟩
  ·rw [yQ] at R;simp at R
   rw [← R.1]
   exact h.own r k I b m ak ah
  ·rw [lT q j aw] at R;exact h.own q j p jT a4 aC R
 ·refine h.hb.step q4 KL Kk (Nat.le_of_eq eS.symm) fun jT pU kV=>vq jT ?_
  rintro rfl
  rcases h.own r k I jT m ak ah with o|o
  ·omega
  ·exact kV o
theorem oS.n1 {ok:Nat→Prop}{a0:jg}{ba:i3}{d2 I sz:Nat}{es:List (List ax)}(h:oS w ok a0 ba d2 I sz es):
 ∃vs:List Value,vs.length=es.length*sz∧(∀(j:Nat) u,vs[j]? = some u→w.cell? ((⟨d2,I,none⟩:Addr).add j)=some u)∧(∀u∈vs,u.oneCell'=true) ∧
  ∀(j:Nat) x u,es.flatten[j]? = some x→vs[j]? = some u→Rel w ok a0 ba x u:=by
 have jR:es.flatten.length=es.length*sz:=by
  have : ∀(es:List (List ax)),(∀e∈es,e.length=sz)→es.flatten.length=es.length*sz:=by
   intro es
   induction es with
   | nil=>intro _;simp
   | cons e es ih =>
    intro fQ
    rw [List.flatten_cons,List.length_append,ih fun x aa=>fQ x (by simp [aa]),fQ e (by simp),List.length_cons,Nat.add_mul];omega
  exact this es h.1
 have aa : ∀i,i<es.length*sz→ ∃v,∀x,es.flatten[i]? = some x→w.cell? ⟨d2,I+i,none⟩=some v∧ke v=true∧Rel w ok a0 ba x v:=by
  intro i ag
  have aA:=List.getElem?_eq_getElem (l:=es.flatten) (i:=i) (by omega)
  obtain ⟨v,o⟩:=h.2 i _ aA
  exact ⟨v,fun x aa=>by rw [aA] at aa;simp at aa;subst aa;exact o⟩
 let vs:List Value:=(List.range (es.length*sz)).map fun i=>if ag:i<es.length*sz then (aa i ag).choose else undef
 have qq:vs.length=es.length*sz:=by simp [vs]
 have l7 : ∀(i:Nat) u x,vs[i]? = some u→es.flatten[i]? = some x→w.cell? ⟨d2,I+i,none⟩=some u∧ke u=true∧Rel w ok a0 ba x u:=by
  intro i u x hu Bz
  have ag:i<es.length*sz:=by
   rcases Nat.lt_or_ge i vs.length with cv|cv
   ·omega
   ·rw [List.getElem?_eq_none cv] at hu;simp at hu
  simp only [vs,List.getElem?_map,List.getElem?_range ag,Option.map_some,dif_pos ag,Option.some.injEq] at hu
  subst hu
  exact (aa i ag).choose_spec x Bz
 have hex : ∀(i:Nat) u,vs[i]? = some u→ ∃x,es.flatten[i]? = some x:=by
  intro i u hu
  have ag:i<es.flatten.length:=by
   rcases Nat.lt_or_ge i vs.length with cv|cv
   ·omega
   ·rw [List.getElem?_eq_none cv] at hu;simp at hu
  exact ⟨_,List.getElem?_eq_getElem ag⟩
 refine ⟨vs,qq,fun j u hu=> ?_,fun u hu=> ?_,fun j x u dH hu=>(l7 j u x hu dH).2.2⟩
 ·obtain ⟨x,Bz⟩:=hex j u hu
  rw [rr];exact (l7 j u x hu Bz).1
 ·obtain ⟨j,aA⟩:=List.getElem?_of_mem hu
  obtain ⟨x,Bz⟩:=hex j u aA
  exact (l7 j u x aA Bz).2.1
theorem Vh {es br:List (List ax)}{sz:Nat}{xs news:List Value}(aa:xs.length=es.length*sz)(he:∀e∈es,e.length=sz){j:Nat}{x:ax}(h:(es++br).flatten[j]? = some x)
 {ok:Nat→Prop} {a0:jg} {ba:i3} (o : ∀(j:Nat) x u,es.flatten[j]? = some x→xs[j]? = some u→Rel w ok a0 ba x u) (R : ∀(j:Nat) x u,br.flatten[j]? = some x→news[j]? = some u→Rel w ok a0 ba x u)
 {u:Value} (hu:(xs++news)[j]? = some u):Rel w ok a0 ba x u:=by
 have jR:es.flatten.length=es.length*sz:=by
  have : ∀(es:List (List ax)),(∀e∈es,e.length=sz)→es.flatten.length=es.length*sz:=by
   intro es
   induction es with
   | nil=>intro _;simp
   | cons e es ih =>
    intro fQ
    rw [List.flatten_cons,List.length_append,ih fun x aa=>fQ x (by simp [aa]),fQ e (by simp),List.length_cons,Nat.add_mul];omega
  exact this es he
 rw [List.flatten_append,List.getElem?_append] at h
 rw [List.getElem?_append] at hu
 by_cases aA:j<es.flatten.length
 ·rw [if_pos aA] at h
  rw [if_pos (by omega)] at hu
  exact o j x u h hu
 ·rw [if_neg aA] at h
  rw [if_neg (by omega)] at hu
  rw [jR] at h
  rw [aa] at hu
  exact R _ x u h hu
variable {P:Program}
theorem OO (h:cI g s av a w){sz:Nat}{x:ax}{fl:fo}{br:List (List ax)}{aj:List Prop}(he:ry sz s.aR fl x=some (br,aj))(bi:∀p∈aj,p){v:Value}(a2:Rel w (s.ok g av w) s.a0 (s.ba av) x v):
 ∃A c,v = .slice A br.length c∧(∀e∈br,e.length=sz)∧(br.length=0∨ ∃d2 off,A=some ⟨d2,off,none⟩∧oS w (s.ok g av w) s.a0 (s.ba av) d2 off sz br):=by
 cases x with
 | isl E5 es =>
  simp only [ry] at he
  split at he
  ·rename_i bW
   subst bW
   simp only [Option.some.injEq,Prod.mk.injEq] at he
   obtain ⟨rfl,rfl⟩:=he
   rcases a2.sQ with ⟨rfl,A,c,rfl,-⟩|⟨d2,off,c,-,rfl,-,iD⟩
   ·exact ⟨A,c,rfl,by simp,.inl rfl⟩
   ·exact ⟨_,c,rfl,iD.1,.inr ⟨d2,off,rfl,iD⟩⟩
  ·simp at he
 | bF r k bV len =>
  simp only [ry] at he
  split at he
  ·rename_i nD b3 jH
   split at he
   ·rename_i bW
    simp only [Option.some.injEq,Prod.mk.injEq] at he
    obtain ⟨rfl,rfl⟩:=he
    have iz:bV+len≤nD.es.length:=bi _ (by simp)
    have ak:s.aj r k=some nD:=sR jH (fun p ah=>bi p (by simp [ah]))
    have fc:=h.obj r k nD ak
    have aL:((nD.es.drop bV).take len).length=len:=by simp;omega
    rcases a2.Au (ig ak) with ⟨-,rfl,rfl,rfl⟩|⟨b,m,A,c,ah,rfl,rJ,-,hm⟩
    ·exact ⟨none,0,by simp,by simp,.inl (by simp)⟩
    ·rw [ah] at fc
     have iD:=fc.rd
     subst bW
     have vB:=Dx iD bV len (by omega)
     refine ⟨A,c,by rw [aL],vB.1,?_⟩
     rcases hm with rfl|⟨rfl,-⟩
     ·left;rw [aL];omega
     ·right
      rw [Nat.zero_add] at vB
      exact ⟨b,_,rfl,vB⟩
   ·simp at he
  ·simp at he
 | ex =>
  simp only [ry,Option.some.injEq,Prod.mk.injEq] at he
  obtain ⟨rfl,rfl⟩:=he
  rw [a2.qb]
  exact ⟨none,0,rfl,by simp,.inl rfl⟩
 | iQ =>
  simp only [ry,Option.some.injEq,Prod.mk.injEq] at he
  obtain ⟨rfl,rfl⟩:=he
  obtain ⟨A,c,rfl⟩:=a2.Eb
  exact ⟨some A,c,rfl,by simp,.inl rfl⟩
 | _=>simp [ry] at he
structure Kn (P:Program) (w:World) (t dE eB e:TypeId) (i:TypeInfo) (ep nH:Value) (n:Nat) (vs:List Value):Prop where
 zero:n=0→ ∀(B:Option Addr) (len cap:Nat),len≤cap→(Builtin.append_ #[t,dE] eB #[.slice B len cap,nH]).run P w = .ok (.slice B len cap) w
 nil:0<n→(n:Int)≤9223372036854775807→n*i.bytes≤140737488355328 →
  (Builtin.append_ #[t,dE] eB #[.slice none 0 0,nH]).run P w = .ok (.slice (some ⟨w.heap.size,0,none⟩) n (grownCap w n 0 e)) (w.drew.alloc (.cells (vs.toArray++Builtin.zeroCells ep.cells (grownCap w n 0 e-n)) e))
 room:0<n→ ∀(g iP l4:Nat) (lP:Array Value) (eD:TypeId),w.heap[g]? = some (.cells lP eD (0,0))→iP+n≤l4→iP*i.size+vs.length≤lP.size→n*i.bytes≤140737488355328 →
  (Builtin.append_ #[t,dE] eB #[.slice (some ⟨g,0,none⟩) iP l4,nH]).run P w = .ok (.slice (some ⟨g,0,none⟩) (iP+n) l4) (w.setRow g (lP.toList.take (iP*i.size)++vs++lP.toList.drop (iP*i.size+vs.length)).toArray)
 grow:0<n→ ∀(b:Addr) (iP l4:Nat) (vC:List Value),vC.length=iP*i.size→(∀(j:Nat) v,vC[j]? = some v→w.cell? (b.add j)=some v)→l4<iP+n→((iP+n:Nat):Int)≤9223372036854775807→Builtin.nextslicecap (iP+n) l4*i.bytes≤281474976710656→n*i.bytes≤140737488355328 →
  (Builtin.append_ #[t,dE] eB #[.slice (some b) iP l4,nH]).run P w = .ok (.slice (some ⟨w.heap.size,0,none⟩) (iP+n) (grownCap w (iP+n) l4 e))
    (w.drew.alloc (.cells (vC.toArray++vs.toArray++Builtin.zeroCells ep.cells (grownCap w (iP+n) l4 e-(iP+n))) e))
theorem UT (t eB e:TypeId)(i:TypeInfo)(cp:P.underlying t=some (.slice e))(ag:P.info? e=some i)
 (g iP l4:Nat) (lP:Array Value) (eD:TypeId) (dN:w.heap[g]? = some (.cells lP eD (0,0)))
 (a:Addr) (m c:Nat) (news:List Value) (aL:news.length=m*i.size) (Z9 : ∀j u,news[j]? = some u→w.cell? (a.add j)=some u) (o : ∀u∈news,u.oneCell'=true)
 (sX:iP+m≤l4) (iz:iP*i.size+news.length≤lP.size) :
 (Builtin.append_ #[t,t] eB #[.slice (some ⟨g,0,none⟩) iP l4,.slice (some a) m c]).run P w =
   .ok (.slice (some ⟨g,0,none⟩) (iP+m) l4) (w.setRow g (lP.toList.take (iP*i.size)++news++lP.toList.drop (iP*i.size+news.length)).toArray):=by
 have b9:=run_firstCells_some (P:=P) w i.size m a m c news aL Z9
 have mz:=run_storeCells_at P g (iP*i.size) eD news 0 lP w dN (by simpa using iz) o
 simp only [Nat.add_zero] at mz
 simp [Builtin.append_,run_underlying cp,sizeOf,typeInfo,ag,Builtin.lenOf,sX,b9,Addr.add_lit,mz]
theorem NN {t eB e:TypeId}{i:TypeInfo}{ep:Value}(cp:P.underlying t=some (.slice e))(ag:P.info? e=some i)(cd:i.zero=some ep){A:Option Addr}{n c:Nat}{vs:List Value}(aL:vs.length=n*i.size)
 (hA:n=0∨ ∃a,A=some a∧ ∀(j:Nat) u,vs[j]? = some u→w.cell? (a.add j)=some u) (o : ∀u∈vs,u.oneCell'=true):Kn P w t t eB e i ep (.slice A n c) n vs where
 zero:=fun h0 B len cap Ba=>by
  subst h0
  cases A<;>cases B<;>simp [Builtin.append_,run_underlying cp,sizeOf,typeInfo,ag,Builtin.lenOf,Ba,Builtin.firstCells,loadCells,loadCellsFrom,storeCells]
 nil:=fun h0 vI yR=>by
  obtain ⟨a,rfl,bt⟩:=hA.resolve_left (by omega)
  exact run_append_nil (P:=P) w t eB e i ep cp ag cd a n c vs aL bt h0 vI (by omega)
 room:=fun a1 g iP l4 lP eD dN sX iz _=>by
  obtain ⟨a,rfl,bt⟩:=hA.resolve_left (by omega)
  exact UT t eB e i cp ag g iP l4 lP eD dN a n c vs aL bt o sX iz
 grow:=fun a1 b iP l4 vC ak hold dN vI iz _=>by
  obtain ⟨a,rfl,bt⟩:=hA.resolve_left (by omega)
  exact run_append_grow (P:=P) w t eB e i ep cp ag cd b iP l4 vC ak hold a n c vs aL bt dN vI iz
theorem Wh {t dE eB e:TypeId}{i:TypeInfo}{ep:Value}{k:IntKind}(cp:P.underlying t=some (.slice e))(n4:P.underlying dE=some (.int k))(ag:P.info? e=some i)(cd:i.zero=some ep)(lQ:ep.cells.size=i.size){m:Nat}(aeA:(m:Int)<9223372036854775808)
 (o : ∀u∈(Builtin.zeroCells ep.cells m).toList,u.oneCell'=true):Kn P w t dE eB e i ep (.int .i64 m) m (Builtin.zeroCells ep.cells m).toList:=by
 have hw:IntKind.i64.wrap (m:Int)=m:=by simp [IntKind.wrap,IntKind.bits,IntKind.signed];omega
 have q1 : ¬((m:Int)<0):=by omega
 have rK : ∀a4,a4*i.size=0→Builtin.zeroCells ep.cells a4 = #[]:=fun a4 hm=>by
  apply Array.eq_empty_of_size_eq_zero
  rw [size_zeroCells,lQ,hm]
 have E6 : ∀bG:World,(if m*i.size=0 then (pure #[]:Sem (Array Value)) else do pure (Builtin.zeroCells (← zeroValue e).cells m)).run P bG = .ok (Builtin.zeroCells ep.cells m) bG:=fun bG=>by
  split
  ·rename_i hm;rw [rK _ hm];rfl
  ·simp [zeroValue,typeInfo,ag,cd]
 have Ko : ∀b:Nat,m*b≤140737488355328→ ¬(281474976710656<(m:Int)*(b:Int)):=fun b aJ=>by
  have:((m*b:Nat):Int)≤140737488355328:=by omega
  rw [Int.natCast_mul] at this
  omega
 refine ⟨fun a1 B len cap Ba=> ?_,fun a1 vI yR=> ?_,fun a1 g iP l4 lP eD dN sX iz yR=> ?_,fun a1 b iP l4 vC ak hold dN vI iz yR=> ?_⟩
 ·subst a1
  have KP:IntKind.i64.wrap 0=0:=by simpa using hw
  cases B<;>simp [Builtin.append_,run_underlying cp,run_underlying n4,sizeOf,typeInfo,ag,Ba,asInt,asIntOf,KP,storeCells]
 ·have KQ : ¬m=0:=by omega
  have Bb : ¬(9223372036854775807<(m:Int)):=by omega
  have ug:=Ko _ yR
  have Bc : ¬(281474976710656<Builtin.nextslicecap m 0*i.bytes):=by rw [nextslicecap_zero a1];omega
  have R:=E6 w.drew
  by_cases hm:m*i.size=0
  ·simp [Builtin.append_,run_underlying cp,run_underlying n4,sizeOf,typeInfo,zeroValue,ag,cd,asInt,asIntOf,hw,q1,ug,KQ,Bb,Bc,Question.forced,run_firstCells_none,newRow,grownCap,hm,rK _ hm]
  ·simp [Builtin.append_,run_underlying cp,run_underlying n4,sizeOf,typeInfo,zeroValue,ag,cd,asInt,asIntOf,hw,q1,ug,KQ,Bb,Bc,Question.forced,run_firstCells_none,newRow,grownCap,hm]
 ·have ug:=Ko _ yR
  have mz:=run_storeCells_at P g (iP*i.size) eD (Builtin.zeroCells ep.cells m).toList 0 lP w dN (by simpa using iz) o
  simp only [Nat.add_zero] at mz
  by_cases hm:m*i.size=0
  ·rw [rK _ hm] at mz
   have aaH:(storeCells ⟨g,iP*i.size,none⟩ []).run P w = .ok () (w.setRow g lP):=by simpa using mz
   simp [Builtin.append_,run_underlying cp,run_underlying n4,sizeOf,typeInfo,zeroValue,ag,cd,asInt,asIntOf,hw,q1,ug,sX,hm,rK _ hm,Addr.add_lit,aaH]
  ·simp [Builtin.append_,run_underlying cp,run_underlying n4,sizeOf,typeInfo,zeroValue,ag,cd,asInt,asIntOf,hw,q1,ug,sX,hm,Addr.add_lit,mz]
 ·have ug:=Ko _ yR
  have Rf : ¬(iP+m≤l4):=by omega
  have Bb : ¬(9223372036854775807<((iP:Int)+(m:Int))):=by omega
  have Bc : ¬(281474976710656<Builtin.nextslicecap (iP+m) l4*i.bytes):=by omega
  have Rg:=run_firstCells_some (P:=P) w.drew i.size iP b iP l4 vC ak (by simpa using hold)
  by_cases hm:m*i.size=0
  ·simp [Builtin.append_,run_underlying cp,run_underlying n4,sizeOf,typeInfo,zeroValue,ag,cd,asInt,asIntOf,hw,q1,ug,Rf,Bb,Bc,Question.forced,Rg,newRow,grownCap,hm,rK _ hm]
  ·simp [Builtin.append_,run_underlying cp,run_underlying n4,sizeOf,typeInfo,zeroValue,ag,cd,asInt,asIntOf,hw,q1,ug,Rf,Bb,Bc,Question.forced,Rg,newRow,grownCap,hm]
theorem Iv {aT:Nat}{e:TypeId}{v:Value}{i:TypeInfo}{m:Nat}(h:cI g s av a w)(eT:s.aR aT=none){es:List (List ax)}(hlen:∀x∈es,x.length=i.size)(hm:m=es.length)
 {n1:List Value} {tw:Array Value} {cap:Nat} (qq:n1.length=es.length*i.size) (l3 : ∀u∈n1,u.oneCell'=true) (abp:tw.size=(cap-m)*i.size) (Ba:m≤cap) (aaI:cap<9223372036854775808)
 (fc : ∀(j:Nat) x u,es.flatten[j]? = some x→n1[j]? = some u→Rel w (s.ok g av w) s.a0 (s.ba av) x u)
 (a2:v = .slice (some ⟨w.heap.size,0,none⟩) m cap) :
 ∃bJ,cI g (s.setRow aT [⟨i.size,es,.live⟩]) bJ a (w.drew.alloc (.cells (n1.toArray++tw) e)) ∧
  Rel (w.drew.alloc (.cells (n1.toArray++tw) e)) ((s.setRow aT [⟨i.size,es,.live⟩]).ok g bJ (w.drew.alloc (.cells (n1.toArray++tw) e))) (s.setRow aT [⟨i.size,es,.live⟩]).a0 ((s.setRow aT [⟨i.size,es,.live⟩]).ba bJ) (.bF aT 0 0 m) v:=by
 have bh:=h.drew
 have jR:es.flatten.length=es.length*i.size:=by
  have : ∀(es:List (List ax)),(∀e∈es,e.length=i.size)→es.flatten.length=es.length*i.size:=by
   intro es
   induction es with
   | nil=>intro _;simp
   | cons e es ih =>
    intro fQ
    rw [List.flatten_cons,List.length_append,ih fun x aa=>fQ x (by simp [aa]),fQ e (by simp),List.length_cons,Nat.add_mul];omega
  exact this es hlen
 obtain ⟨bJ,hf,iI,-⟩:=bh.alloc eT ⟨i.size,es,.live⟩ rfl (n1.toArray++tw) e hlen (fun j x aa=>by
  have aA:j<n1.length:=by
   rcases Nat.lt_or_ge j es.flatten.length with cv|cv
   ·omega
   ·rw [List.getElem?_eq_none cv] at aa;simp at aa
  refine ⟨n1[j],?_,l3 _ (List.getElem_mem aA),?_⟩
  ·rw [Array.getElem?_append_left (by simpa using aA)]
   simp [aA]
  ·exact (fc j x _ aa (List.getElem?_eq_getElem aA)).drew)
 refine ⟨bJ,iI,?_⟩
 subst a2
 have ak:(s.setRow aT [⟨i.size,es,.live⟩]).aj aT 0=some ⟨i.size,es,.live⟩:=by rw [lK,if_pos rfl,mo];simp
 refine Rel.bF (sz:=i.size) (d2:=w.heap.size) (m:=(n1.toArray++tw).size) ((nr _ _ _ _ _).2 (by simp)) ?_ Ba aaI ⟨?_,.inr (by simp)⟩
 ·rw [ig ak,hf];rfl
 ·simp only [Array.size_append,List.size_toArray,abp,qq,Nat.zero_add]
  rw [← hm,← Nat.add_mul]
  congr 1;omega
section
variable {I:Oper} {cB:fo} {aT:Nat} {bo:hJ}
theorem Oh (h:cI g s av a w){t dE eB e:TypeId}{i:TypeInfo}{z:List ax}(hu:P.underlying t=some (.slice e))(ag:P.info? e=some i)(cd:qJ P e=some z)(nB:z.length=i.size)(jP:i.size≠0)
 {y:ax} {fl:fo} {br:List (List ax)} {aj:List Prop} (he:vr P i.size z s.aR fl t dE y=some (br,aj)) (bi : ∀p∈aj,p) {nH:Value} (aK:Rel w (s.ok g av w) s.a0 (s.ba av) y nH) :
 ∃ep vs,i.zero=some ep∧ep.cells.size=i.size∧Kn P w t dE eB e i ep nH br.length vs∧(∀x∈br,x.length=i.size)∧vs.length=br.length*i.size∧(∀u∈vs,u.oneCell'=true) ∧
  ∀(j:Nat) x u,br.flatten[j]? = some x→vs[j]? = some u→Rel w (s.ok g av w) s.a0 (s.ba av) x u:=by
 obtain ⟨fx,ep,j1,kJ,st,us⟩:=z8 cd
 rw [ag] at j1;simp at j1;subst j1
 have lQ:ep.cells.size=i.size:=by rw [← nB,st];simp
 unfold vr at he
 split at he
 ·rename_i abq
  subst abq
  obtain ⟨A,c,rfl,hlen,KR⟩:=OO h he bi aK
  rcases KR with h0|⟨d2,off,rfl,iD⟩
  ·have:br=[]:=List.length_eq_zero_iff.1 h0
   subst this
   exact ⟨ep,[],kJ,lQ,NN hu ag kJ (by simp) (.inl rfl) (by simp),hlen,by simp,by simp,by simp⟩
  ·obtain ⟨vs,v1,v2,v3,v4⟩:=iD.n1
   exact ⟨ep,vs,kJ,lQ,NN hu ag kJ v1 (.inr ⟨_,rfl,v2⟩) v3,hlen,v1,v3,v4⟩
 ·split at he
  ·rename_i k n aX
   simp only [Option.some.injEq,Prod.mk.injEq] at he
   obtain ⟨rfl,rfl⟩:=he
   have h0:0≤n:=bi _ (by simp)
   have vI:n<9223372036854775808:=bi _ (by simp)
   obtain ⟨m,rfl⟩:=Int.eq_ofNat_of_zero_le h0
   have abr:nH = .int .i64 m:=by cases aK;rfl
   subst abr
   have l7 : ∀(j:Nat) u,(Builtin.zeroCells ep.cells m).toList[j]? = some u→ep.cells[j % i.size]? = some u:=by
    intro j u n6
    have aA:=(List.getElem?_eq_some_iff.1 n6).1
    rw [Array.length_toList,size_zeroCells,lQ] at aA
    have dC:j % i.size<ep.cells.size:=by rw [lQ];exact Nat.mod_lt _ (by omega)
    rw [Array.getElem?_toList,Builtin.zeroCells,Array.getElem?_map,lQ,Array.getElem?_range] at n6
    rw [if_pos aA] at n6
    simp only [Option.map_some,Option.some.injEq] at n6
    rw [← n6,Array.getElem?_eq_getElem dC,getElem!_pos ep.cells _ dC]
   refine ⟨ep,(Builtin.zeroCells ep.cells m).toList,kJ,lQ,?_,?_,?_,?_,?_⟩
   ·simp only [List.length_replicate,Int.toNat_natCast]
    refine Wh hu aX ag kJ lQ (by omega) fun u rL=> ?_
    obtain ⟨j,aA⟩:=List.getElem?_of_mem rL
    have o:=l7 j u aA
    have dC:j % i.size<z.length:=by rw [nB];exact Nat.mod_lt _ (by omega)
    obtain ⟨v,v1,v2,-⟩:=us _ _ (List.getElem?_eq_getElem dC)
    rw [o] at v1
    obtain rfl:=Option.some.inj v1
    exact v2
   ·intro x aa
    rw [List.mem_replicate] at aa
    rw [aa.2,nB]
   ·rw [Array.length_toList,size_zeroCells,lQ];simp
   ·intro u rL
    obtain ⟨j,aA⟩:=List.getElem?_of_mem rL
    have o:=l7 j u aA
    have dC:j % i.size<z.length:=by rw [nB];exact Nat.mod_lt _ (by omega)
    obtain ⟨v,v1,v2,-⟩:=us _ _ (List.getElem?_eq_getElem dC)
    rw [o] at v1
    obtain rfl:=Option.some.inj v1
    exact v2
   ·intro j x u aa n6
    rw [pK (sz:=i.size) (by omega) _ (fun eD l6=>by rw [List.mem_replicate] at l6;rw [l6.2,nB])] at aa
    have o:=l7 j u n6
    cases a6:(List.replicate (Int.toNat (m:Int)) z)[j / i.size]? with
    | none=>rw [a6] at aa;simp at aa
    | some eD =>
     have:=List.mem_of_getElem? a6
     rw [List.mem_replicate] at this
     rw [a6,this.2] at aa
     simp only [Option.bind_some] at aa
     obtain ⟨v,v1,-,v3⟩:=us _ _ aa
     rw [o] at v1
     obtain rfl:=Option.some.inj v1
     exact v3 _ _ _ _
  ·simp at he
theorem Wi (h:cI g s av a w)(eT:s.aR aT=none){x y:ax}{rS nH:Value}{t dE:TypeId}{m:Nat}{LS:Option af}{eB:TypeId}(ar:n5 P s.E s.aR aT .append [x,y] [t,dE] (.aY m LS)=some bo)(cr:∀p∈bo.fg,p)
 (aa:Rel w (s.ok g av w) s.a0 (s.ba av) x rS) (aK:Rel w (s.ok g av w) s.a0 (s.ba av) y nH) :
 ∃v bG bJ,(Builtin.append_ #[t,dE] eB #[rS,nH]).run P w = .ok v bG∧cI g (s.h9 bo.fK) bJ a bG∧Rel bG ((s.h9 bo.fK).ok g bJ bG) (s.h9 bo.fK).a0 ((s.h9 bo.fK).ba bJ) bo.val v:=by
 simp only [n5] at ar
 split at ar
 ·simp at ar
 ·rename_i e he
  have hu:=r8 he
  split at ar
  ·rename_i i z ag cd
   split at ar
   ·simp at ar
   ·rename_i aP
    simp only [not_or,Decidable.not_not] at aP
    obtain ⟨nB,jP,yL⟩:=aP
    split at ar
    ·simp at ar
    ·rename_i br b3 rG
     have E7:=fun ah=>Oh (eB:=eB) h hu ag cd nB jP rG ah aK
     by_cases Zl:True
     ·
      split at ar
      ·
       simp only [Option.some.injEq] at ar
       subst ar
       have hm:m=br.length:=cr _ (by simp)
       have BA:m*i.bytes≤140737488355328:=cr _ (by simp)
       obtain ⟨ep,vs,kJ,lQ,hA,hlen,v1,v3,v4⟩:=E7 (fun p ah=>cr p (by simp [ah]))
       clear E7
       rw [aa.qb]
       by_cases h0:br.length=0
       ·have:br=[]:=List.length_eq_zero_iff.1 h0
        subst this
        obtain ⟨bJ,hf,iI⟩:=h.Pp (sz:=i.size) eT
        refine ⟨_,w,bJ,hA.zero h0 none 0 0 (Nat.le_refl _),iI,?_⟩
        subst hm
        have ak:(s.setRow aT [⟨i.size,[],.live⟩]).aj aT 0=some ⟨i.size,[],.live⟩:=by rw [lK,if_pos rfl,mo];simp
        exact .nP (sz:=i.size) ((nr _ _ _ _ _).2 (by simp)) (by show (s.setRow aT [⟨i.size,[],.live⟩]).ba bJ aT 0=_;rw [ig ak,hf])
       ··have uu:br.length*1≤br.length*i.bytes:=Nat.mul_le_mul_left _ (by omega)
         rw [hm] at BA
         have iX:=hA.nil (by omega) (by omega) (by omega)
         have Rh:=grownCap_ge w br.length 0 e
         have hle:=grownCap_le_maxLen w br.length 0 e (by simp only [maxLen];omega)
         simp only [maxLen] at hle
         obtain ⟨bJ,aW,bk⟩:=Iv (e:=e) (i:=i) (m:=m) (n1:=vs) (tw:=Builtin.zeroCells ep.cells (grownCap w br.length 0 e-br.length)) (cap:=grownCap w br.length 0 e) h eT hlen hm v1 v3
          (by rw [size_zeroCells,lQ,hm]) (by omega) (by omega) v4 rfl
         refine ⟨.slice (some ⟨w.heap.size,0,none⟩) m (grownCap w br.length 0 e),_,bJ,?_,aW,bk⟩
         rw [hm];exact iX
      ·
       rename_i r k len
       split at ar
       ·simp at ar
       ·rename_i row dt
        split at ar
        ·simp at ar
        ·rename_i aj bi
         split at ar
         ·rename_i vJ
          obtain ⟨n7,eS,cu⟩:=vJ
          simp only [Option.some.injEq] at ar
          subst ar
          have ak:s.aj r k=some aj:=by unfold S.aj;rw [dt];exact bi
          have iz:len≤aj.es.length:=cr _ (by simp)
          have hm:m=len+br.length:=cr _ (by simp)
          have BA:m*i.bytes≤140737488355328:=cr _ (by simp)
          have uu:m*1≤m*i.bytes:=Nat.mul_le_mul_left _ (Nat.one_le_iff_ne_zero.2 yL)
          obtain ⟨ep,vs,kJ,lQ,hA,hlen,v1,v3,v4⟩:=E7 (fun p ah=>cr p (by simp [ah]))
          clear E7
          have aeL:br.length*i.bytes≤m*i.bytes:=Nat.mul_le_mul_right _ (by omega)
          have fc:=h.obj r k aj ak
          have KS:(aj.es.take len).length=len:=by simp;omega
          have sd:(s.setRow aT [⟨i.size,aj.es.take len++br,.live⟩]).aR r=some row:=by simp [S.setRow,Ne.symm cu,dt]
          have qs : ∀bJ:fj,((s.setRow aT [⟨i.size,aj.es.take len++br,.live⟩]).setRow r (row.set k {aj with cn:= .gone})).aj aT 0=some ⟨i.size,aj.es.take len++br,.live⟩:=by
           intro _
           rw [lK,if_neg cu,lK,if_pos rfl,mo];simp
          have Bd:((s.setRow aT [⟨i.size,aj.es.take len++br,.live⟩]).setRow r (row.set k {aj with cn:= .gone})).a0 aT 0:=by rw [nr,if_neg cu,nr,if_pos rfl];simp
          show ∃v bG bJ,_∧cI g ((s.setRow aT [⟨i.size,aj.es.take len++br,.live⟩]).setRow r (row.set k {aj with cn:= .gone})) bJ a bG∧_
          rcases aa.vg (ig ak) with ⟨ah,-,rfl,rfl⟩|⟨b,M,iu,kw,ah,rfl,rJ,th,dq,m7⟩
          ·
           rw [ah] at fc
           simp only [ja] at fc
           have hB:aj.es.take 0++br=br:=by simp
           by_cases h0:br.length=0
           ·have:br=[]:=List.length_eq_zero_iff.1 h0
            subst this
            obtain ⟨bJ,hf,iI⟩:=h.Pp (sz:=i.size) eT
            have qt:(s.setRow aT [⟨i.size,[],.live⟩]).aj r k=some aj:=by rw [lK,if_neg (Ne.symm cu)];exact ak
            have aaa:(s.setRow aT [⟨i.size,[],.live⟩]).aR r=some row:=by simp [S.setRow,Ne.symm cu,dt]
            obtain ⟨oT,-⟩:=iI.gone aaa qt
            have Be:aj.es.take 0++([]:List (List ax))=[]:=by simp
            rw [Be]
            rw [Be] at Bd qs
            refine ⟨_,w,bJ,hA.zero h0 none 0 0 (Nat.le_refl _),oT,?_⟩
            subst hm
            exact .nP (sz:=i.size) Bd ((ig (qs bJ)).trans (by rw [hf]))
           ··have kV:m=br.length:=by omega
             have iX:=hA.nil (by omega) (by omega) (by omega)
             have Rh:=grownCap_ge w br.length 0 e
             have hle:=grownCap_le_maxLen w br.length 0 e (by simp only [maxLen];omega)
             simp only [maxLen] at hle
             obtain ⟨bJ,aW,bk⟩:=Iv (e:=e) (i:=i) (m:=m) (n1:=vs) (tw:=Builtin.zeroCells ep.cells (grownCap w br.length 0 e-br.length)) (cap:=grownCap w br.length 0 e) h eT hlen kV v1 v3
              (by rw [size_zeroCells,lQ,kV]) (by omega) (by omega) v4 rfl
             rw [hB]
             rw [hB] at sd
             have qt:(s.setRow aT [⟨i.size,br,.live⟩]).aj r k=some aj:=by rw [lK,if_neg (Ne.symm cu)];exact ak
             obtain ⟨oT,Cf⟩:=aW.gone sd qt
             refine ⟨.slice (some ⟨w.heap.size,0,none⟩) m (grownCap w br.length 0 e),_,bJ,?_,oT,Cf _ _ bk⟩
             rw [kV];exact iX
          ·
           rw [ah] at fc
           have aab:=fc
           obtain ⟨ch,mJ,g1,g2,g3,g4⟩:=fc
           have Bf : ∀e∈aj.es.take len++br,e.length=i.size:=by
            intro eD l6
            rw [List.mem_append] at l6
            rcases l6 with cv|cv
            ·rw [g3 eD (List.mem_of_mem_take cv),eS]
            ·exact hlen eD cv
           have jR : ∀(es:List (List ax)),(∀e∈es,e.length=i.size)→es.flatten.length=es.length*i.size:=by
            intro es
            induction es with
            | nil=>intro _;simp
            | cons e es ih =>
             intro fQ
             rw [List.flatten_cons,List.length_append,ih fun x aa=>fQ x (by simp [aa]),fQ e (by simp),List.length_cons,Nat.add_mul];omega
           by_cases h0:br.length=0
           ·
            have:br=[]:=List.length_eq_zero_iff.1 h0
            subst this
            have Be:aj.es.take len++([]:List (List ax))=aj.es.take len:=by simp
            rw [Be]
            rw [Be] at Bd qs Bf
            obtain ⟨bJ,hf,iI⟩:=h.turn dt ak n7 ah eT ⟨i.size,aj.es.take len,.live⟩ rfl ch mJ g1 rfl (fun _ _=>rfl) rfl rfl rfl g2 Bf (fun j q a6=>by
             refine g4 j q ?_
             have aA:j<(aj.es.take len).flatten.length:=by
              rcases Nat.lt_or_ge j (aj.es.take len).flatten.length with cv|cv
              ·exact cv
              ·rw [List.getElem?_eq_none cv] at a6;simp at a6
             have Ri:aj.es.flatten=(aj.es.take len).flatten++(aj.es.drop len).flatten:=by rw [← List.flatten_append,List.take_append_drop]
             rw [Ri,List.getElem?_append_left aA];exact a6)
            refine ⟨_,w,bJ,hA.zero h0 iu len kw rJ,iI,?_⟩
            have kV:m=len:=by simpa using hm
            subst kV
            refine .bF (sz:=i.size) (d2:=b) (m:=M) Bd ((ig (qs bJ)).trans (by rw [hf])) rJ th ?_
            rw [← eS];exact ⟨dq,m7⟩
           ··
             have hold : ∃xs:List Value,xs.length=len*i.size∧(∀(j:Nat) u,xs[j]? = some u→w.cell? ((⟨b,0,none⟩:Addr).add j)=some u)∧(∀u∈xs,u.oneCell'=true) ∧
              ∀(j:Nat) x u,(aj.es.take len).flatten[j]? = some x→xs[j]? = some u→Rel w (s.ok g av w) s.a0 (s.ba av) x u:=by
              have QT:=Dx aab.rd 0 len (by omega)
              simp only [List.drop_zero,Nat.zero_mul,Nat.add_zero] at QT
              obtain ⟨xs,gp,fy,aO,gj⟩:=QT.n1
              exact ⟨xs,by rw [gp,KS,eS],fy,aO,gj⟩
             obtain ⟨xs,gp,fy,aO,gj⟩:=hold
             have abt:xs.length=(aj.es.take len).length*i.size:=by rw [KS];exact gp
             have Pq : ∀(j:Nat) x u,(aj.es.take len++br).flatten[j]? = some x→(xs++vs)[j]? = some u→Rel w (s.ok g av w) s.a0 (s.ba av) x u :=
              fun j x u abu n6=>Vh abt (fun eD l6=>by rw [g3 eD (List.mem_of_mem_take l6),eS]) abu gj v4 n6
             have Bg:(aj.es.take len++br).length=m:=by rw [List.length_append,KS];exact hm.symm
             by_cases sX:len+br.length≤kw
             ·
              rcases m7 with rfl|rfl
              ·omega
              ·rw [Nat.zero_mul] at *
               rw [Nat.zero_add] at dq
               have Zm:len*i.size+vs.length≤ch.size:=by
                rw [v1,g2,← dq,eS,← Nat.add_mul];exact Nat.mul_le_mul_right _ sX
               have iX:=hA.room (by omega) b len kw ch mJ g1 sX Zm (by omega)
               have aaJ:(w.setRow b (ch.toList.take (len*i.size)++vs++ch.toList.drop (len*i.size+vs.length)).toArray).heap.size=w.heap.size:=size_setRow _ _ _
               have Rj:xs=ch.toList.take (len*i.size):=by
                apply List.ext_getElem?
                intro j
                rw [List.getElem?_take]
                by_cases aA:j<len*i.size
                ·rw [if_pos aA]
                 have sl:j<xs.length:=by omega
                 have:=fy j _ (List.getElem?_eq_getElem sl)
                 rw [rr,cell_of_row w b (0+j) ch mJ (0,0) g1,Nat.zero_add] at this
                 rw [List.getElem?_eq_getElem sl,← this,Array.getElem?_toList]
                ·rw [if_neg aA,List.getElem?_eq_none (by omega)]
               obtain ⟨bJ,hf,iI⟩:=h.turn dt ak n7 ah eT ⟨i.size,aj.es.take len++br,.live⟩ rfl _ mJ (setRow_heap w b ch _ mJ _ g1) aaJ (fun q a6=>setRow_other w b q _ a6) rfl rfl rfl
                (by rw [← g2];simp;omega) Bf (fun j q a6=>by
                  have aA:j<(xs++vs).length:=by
                   have:j<(aj.es.take len++br).flatten.length:=by
                    rcases Nat.lt_or_ge j (aj.es.take len++br).flatten.length with cv|cv
                    ·exact cv
                    ·rw [List.getElem?_eq_none cv] at a6;simp at a6
                   rw [jR _ Bf,Bg] at this
                   rw [List.length_append,gp,v1,← Nat.add_mul,← hm];exact this
                  refine ⟨(xs++vs)[j],?_,?_,Pq j q _ a6 (List.getElem?_eq_getElem aA)⟩
                  ·rw [List.getElem?_toArray,List.getElem?_append_left (by rw [← Rj];exact aA),← Rj]
                   exact List.getElem?_eq_getElem aA
                  ·have:=List.getElem_mem aA
                   rw [List.mem_append] at this
                   rcases this with cv|cv
                   ·exact aO _ cv
                   ·exact v3 _ cv)
               refine ⟨_,_,bJ,iX,iI,?_⟩
               rw [← hm]
               refine .bF (sz:=i.size) (d2:=b) (m:=M) Bd ((ig (qs bJ)).trans (by rw [hf])) (by omega) th ⟨?_,.inr (by simp)⟩
               rw [Nat.zero_add,← eS];exact dq
             ·
              have hA : ∃wh:Addr,(iu=some wh∧ ∀(j:Nat) u,xs[j]? = some u→w.cell? (wh.add j)=some u)∨(iu=none∧len=0∧kw=0):=by
               cases iu with
               | none =>
                refine ⟨⟨0,0,none⟩,.inr ⟨rfl,?_⟩⟩
                rcases m7 with cv|cv
                ·omega
                ·simp at cv
               | some wh =>
                refine ⟨wh,.inl ⟨rfl,?_⟩⟩
                rcases m7 with cv|cv
                ·have:len=0:=by omega
                 have:xs=[]:=List.length_eq_zero_iff.1 (by rw [gp,this];simp)
                 intro j u aA
                 rw [this] at aA;simp at aA
                ·simp at cv;subst cv;exact fy
              have Rh:=grownCap_ge w (len+br.length) kw e
              have hle:=grownCap_le_maxLen w (len+br.length) kw e (by simp only [maxLen];omega)
              simp only [maxLen] at hle
              have iX:(Builtin.append_ #[t,dE] eB #[.slice iu len kw,nH]).run P w = .ok (.slice (some ⟨w.heap.size,0,none⟩) (len+br.length) (grownCap w (len+br.length) kw e))
               (w.drew.alloc (.cells ((xs++vs).toArray++Builtin.zeroCells ep.cells (grownCap w (len+br.length) kw e-(len+br.length))) e)):=by
               have aaK:(xs++vs).toArray=xs.toArray++vs.toArray:=by apply Array.ext';simp
               rw [aaK]
               obtain ⟨wh,⟨rfl,abv⟩|⟨rfl,nC,m6⟩⟩:=hA
               ·exact hA.grow (by omega) wh len kw xs gp abv (by omega) (by omega) (growslice_fits (by omega) (by rw [← hm];exact BA)) (by omega)
               ·subst nC;subst m6
                have abw:xs=[]:=List.length_eq_zero_iff.1 (by rw [gp];simp)
                subst abw
                have:=hA.nil (by omega) (by omega) (by omega)
                simpa using this
              obtain ⟨bJ,aW,bk⟩:=Iv (e:=e) (i:=i) (m:=m) (n1:=xs++vs) (tw:=Builtin.zeroCells ep.cells (grownCap w (len+br.length) kw e-(len+br.length))) (cap:=grownCap w (len+br.length) kw e) h eT Bf Bg.symm
               (by rw [List.length_append,gp,v1,Bg,hm,Nat.add_mul]) (fun u hu=>by
                 rw [List.mem_append] at hu
                 rcases hu with cv|cv
                 ·exact aO _ cv
                 ·exact v3 _ cv) (by rw [size_zeroCells,lQ,hm]) (by omega) (by omega) Pq rfl
              have qt:(s.setRow aT [⟨i.size,aj.es.take len++br,.live⟩]).aj r k=some aj:=by rw [lK,if_neg (Ne.symm cu)];exact ak
              obtain ⟨oT,Cf⟩:=aW.gone sd qt
              refine ⟨.slice (some ⟨w.heap.size,0,none⟩) m (grownCap w (len+br.length) kw e),_,bJ,?_,oT,Cf _ _ bk⟩
              rw [hm];exact iX
         ·simp at ar
      ·simp at ar
     ·exact absurd trivial Zl
  ·simp at ar
end
end
section
variable {P:Program} {g:G} {s:S} {av:fj} {a:Act} {w:World}
theorem Ak {sz:Nat}: ∀ {es:List (List ax)},(∀e∈es,e.length=sz)→es.flatten.length=es.length*sz
 | [],_=>by simp
 | e::es,h=>by
  rw [List.flatten_cons,List.length_append,Ak fun x aa=>h x (by simp [aa]),h e (by simp),List.length_cons,Nat.add_mul];omega
theorem cI.putAt (h:cI g s av a w){r k p b M:Nat}{row:List af}{aj:af}(ap:s.aR r=some row)(ak:s.aj r k=some aj)(aX:aj.cn = .live)(lT:av r k=some (b,M)){br gk:List (List ax)}{vs:List Value}
 (hlen : ∀x∈br,x.length=aj.sz) (v1:vs.length=br.length*aj.sz) (v3 : ∀u∈vs,u.oneCell'=true) (v4 : ∀(j:Nat) x u,br.flatten[j]? = some x→vs[j]? = some u→Rel w (s.ok g av w) s.a0 (s.ba av) x u)
 (ah:p+br.length≤aj.es.length) (q:Nat) (hB:gk=(aj.es.take p++br++aj.es.drop (p+br.length)).take q) :
 ∃ch mJ,w.heap[b]? = some (.cells ch mJ (0,0))∧ch.size=M∧aj.es.length*aj.sz≤M∧p*aj.sz+vs.length≤ch.size ∧
  cI g (s.setRow r (row.set k {aj with es:=gk})) av a (w.setRow b (ch.toList.take (p*aj.sz)++vs++ch.toList.drop (p*aj.sz+vs.length)).toArray) ∧
  ∀x v,Rel w (s.ok g av w) s.a0 (s.ba av) x v→Rel (w.setRow b (ch.toList.take (p*aj.sz)++vs++ch.toList.drop (p*aj.sz+vs.length)).toArray) ((s.setRow r (row.set k {aj with es:=gk})).ok g av (w.setRow b (ch.toList.take (p*aj.sz)++vs++ch.toList.drop (p*aj.sz+vs.length)).toArray)) (s.setRow r (row.set k {aj with es:=gk})).a0 ((s.setRow r (row.set k {aj with es:=gk})).ba av) x v:=by
 have fc:=h.obj r k aj ak
 rw [lT] at fc
 obtain ⟨ch,mJ,g1,g2,g3,g4⟩:=fc
 have jR:=Ak g3
 have dq:aj.es.length*aj.sz≤M:=by
  rcases Nat.eq_zero_or_pos aj.es.flatten.length with h0|jP
  ·omega
  ·obtain ⟨v,aw,-⟩:=g4 (aj.es.flatten.length-1) _ (List.getElem?_eq_getElem (by omega))
   have:=(Array.getElem?_eq_some_iff.1 aw).1
   omega
 have hmul:p*aj.sz+br.length*aj.sz≤aj.es.length*aj.sz:=by rw [← Nat.add_mul];exact Nat.mul_le_mul_right _ ah
 have iz:p*aj.sz+vs.length≤ch.size:=by omega
 refine ⟨ch,mJ,g1,g2,dq,iz,?_⟩
 have aaL : ∀e∈aj.es.take p++br++aj.es.drop (p+br.length),e.length=aj.sz:=by
  intro e he
  simp only [List.mem_append] at he
  rcases he with (he|he)|he
  ·exact g3 e (List.mem_of_mem_take he)
  ·exact hlen e he
  ·exact g3 e (List.mem_of_mem_drop he)
 have hA:(aj.es.take p).flatten.length=p*aj.sz:=by rw [Ak fun e he=>g3 e (List.mem_of_mem_take he),List.length_take];congr 1;omega
 have f8:(aj.es.take (p+br.length)).flatten.length=p*aj.sz+br.length*aj.sz:=by rw [Ak fun e he=>g3 e (List.mem_of_mem_take he),List.length_take,← Nat.add_mul];congr 1;omega
 have acX:br.flatten.length=br.length*aj.sz:=Ak hlen
 have o : ∀j,j<p*aj.sz→(aj.es.take p).flatten[j]? = aj.es.flatten[j]? := fun j aA=>by
  conv=>rhs;rw [← List.take_append_drop p aj.es,List.flatten_append,List.getElem?_append_left (by omega)]
 have R : ∀j,(aj.es.drop (p+br.length)).flatten[j]? = aj.es.flatten[p*aj.sz+br.length*aj.sz+j]? := fun j=>by
  conv=>rhs;rw [← List.take_append_drop (p+br.length) aj.es,List.flatten_append,List.getElem?_append_right (by omega),f8]
  congr 1;omega
 refine h.write ap ak aX lT gk _ mJ (setRow_heap w b ch _ mJ _ g1) (size_setRow _ _ _) (fun q a6=>setRow_other w b q _ a6) rfl rfl rfl (by rw [← g2];simp;omega) ?_ ?_
 ·intro e he
  rw [hB] at he
  exact aaL e (List.mem_of_mem_take he)
 ·intro j x aa
  have dH:(aj.es.take p++br++aj.es.drop (p+br.length)).flatten[j]? = some x:=by
   rw [hB] at aa
   have aA:=(List.getElem?_eq_some_iff.1 aa).1
   conv=>lhs;rw [← List.take_append_drop q (aj.es.take p++br++aj.es.drop (p+br.length)),List.flatten_append,List.getElem?_append_left aA]
   exact aa
  rw [List.flatten_append,List.flatten_append] at dH
  simp only [List.getElem?_toArray]
  have hr:(ch.toList.take (p*aj.sz)).length=p*aj.sz:=by rw [List.length_take,Array.length_toList];omega
  by_cases bE:j<p*aj.sz
  ·rw [List.append_assoc,List.getElem?_append_left (by omega),o j bE] at dH
   obtain ⟨v,aw,aC,b1⟩:=g4 j x dH
   refine ⟨v,?_,aC,b1⟩
   rw [List.append_assoc,List.getElem?_append_left (by omega),List.getElem?_take,if_pos bE,Array.getElem?_toList];exact aw
  ·by_cases cU:j<p*aj.sz+vs.length
   ·rw [List.append_assoc,List.getElem?_append_right (by omega),hA,List.getElem?_append_left (by omega)] at dH
    have a2:j-p*aj.sz<vs.length:=by omega
    refine ⟨vs[j-p*aj.sz],?_,v3 _ (List.getElem_mem a2),v4 _ _ _ dH (List.getElem?_eq_getElem a2)⟩
    rw [List.append_assoc,List.getElem?_append_right (by omega),hr,List.getElem?_append_left (by omega)]
    exact List.getElem?_eq_getElem a2
   ·rw [List.getElem?_append_right (by rw [List.length_append];omega),List.length_append,hA,acX,R] at dH
    rw [show p*aj.sz+br.length*aj.sz+(j-(p*aj.sz+br.length*aj.sz))=j by omega] at dH
    obtain ⟨v,aw,aC,b1⟩:=g4 j x dH
    refine ⟨v,?_,aC,b1⟩
    rw [List.getElem?_append_right (by rw [List.length_append];omega),List.length_append,hr,List.getElem?_drop,Array.getElem?_toList]
    rw [show p*aj.sz+vs.length+(j-(p*aj.sz+vs.length))=j by omega];exact aw
end
section
variable {P:Program} {g:G} {s:S} {av:fj} {a:Act} {w:World} {aT:Nat} {bo:hJ}
theorem Yy (h:cI g s av a w){x y:ax}{rS nH:Value}{t dE eB:TypeId}(ar:n5 P s.E s.aR aT .append [x,y] [t,dE] .dh=some bo)(cr:∀p∈bo.fg,p)
 (aa:Rel w (s.ok g av w) s.a0 (s.ba av) x rS) (aK:Rel w (s.ok g av w) s.a0 (s.ba av) y nH) :
 ∃v bG,(Builtin.append_ #[t,dE] eB #[rS,nH]).run P w = .ok v bG∧cI g (s.h9 bo.fK) av a bG∧Rel bG ((s.h9 bo.fK).ok g av bG) (s.h9 bo.fK).a0 ((s.h9 bo.fK).ba av) bo.val v:=by
 simp only [n5] at ar
 split at ar
 ·simp at ar
 ·rename_i e he
  have hu:=r8 he
  split at ar
  ·rename_i i z ag cd
   split at ar
   ·simp at ar
   ·rename_i aP
    simp only [not_or,Decidable.not_not] at aP
    obtain ⟨nB,jP,yL⟩:=aP
    split at ar
    ·simp at ar
    ·rename_i br b3 rG
     split at ar
     ·rename_i r k len
      split at ar
      ·simp at ar
      ·rename_i row dt
       split at ar
       ·simp at ar
       ·rename_i aj bi
        split at ar
        ·rename_i vJ
         obtain ⟨n7,eS⟩:=vJ
         simp only [Option.some.injEq] at ar
         subst ar
         have ak:s.aj r k=some aj:=by unfold S.aj;rw [dt];exact bi
         have iz:len+br.length≤aj.es.length:=cr _ (by simp)
         have BA:br.length*i.bytes≤140737488355328:=cr _ (by simp)
         obtain ⟨ep,vs,kJ,lQ,hA,hlen,v1,v3,v4⟩:=Oh (eB:=eB) h hu ag cd nB jP rG (fun p ah=>cr p (by simp [ah])) aK
         rw [← eS] at v1
         have Qv : ∀x∈br,x.length=aj.sz:=fun x aa=>by rw [hlen x aa,eS]
         have hB:aj.es.take len++br=(aj.es.take len++br++aj.es.drop (len+br.length)).take (len+br.length) :=
          (List.take_left' (by rw [List.length_append,List.length_take];omega)).symm
         rcases aa.vg (ig ak) with ⟨ah,-,rfl,rfl⟩|⟨b,M,iu,kw,ah,rfl,rJ,th,dq,m7⟩
         ·have fc:=h.obj r k aj ak
          rw [ah] at fc
          simp only [ja] at fc
          rw [fc] at iz
          have h0:br.length=0:=by simp at iz;exact List.length_eq_zero_iff.2 iz
          have vK:br=[]:=List.length_eq_zero_iff.1 h0
          subst vK
          have lm:row.set k {aj with es:=aj.es.take 0++[]}=row:=by
           have o:({aj with es:=aj.es.take 0++[]}:af)=aj:=by cases aj;simp only [] at fc;subst fc;rfl
           rw [o]
           have R:row[k]? = some aj:=by
            unfold dk at bi
            simp only at bi
            split at bi
            ·rename_i b5 dR
             split at bi
             ·simp at bi
             ·simp at bi;rw [← bi];exact dR
            ·simp at bi
           exact List.ext_getElem? fun j=>by
            rw [List.getElem?_set]
            split
            ·rename_i e;subst e
             have:=(List.getElem?_eq_some_iff.1 R).1
             rw [if_pos this,R]
            ·rfl
          refine ⟨_,w,hA.zero h0 none 0 0 (Nat.le_refl _),?_⟩
          have ee:s.setRow r row=s:=by
           have:(fun q=>if q=r then some row else s.aR q)=s.aR:=by
            funext q;split
            ·rename_i e;rw [e,dt]
            ·rfl
           show ({s with aR:=_}:S)=s
           rw [this]
          show cI g (s.setRow r (row.set k {aj with es:=aj.es.take 0++[]})) av a w∧Rel w ((s.setRow r (row.set k {aj with es:=aj.es.take 0++[]})).ok g av w) (s.setRow r (row.set k {aj with es:=aj.es.take 0++[]})).a0 ((s.setRow r (row.set k {aj with es:=aj.es.take 0++[]})).ba av) (.bF r k 0 0) (.slice none 0 0)
          rw [lm,ee]
          exact ⟨h,aa⟩
         ·obtain ⟨ch,mJ,bE,cU,nI,su,oU,tx⟩:=h.putAt dt ak n7 ah Qv v1 v3 v4 iz (len+br.length) hB
          have hle:aj.es.length≤kw:=by
           rw [Nat.zero_add] at dq
           rw [← dq] at nI
           exact Nat.le_of_mul_le_mul_right nI (by omega)
          by_cases m6:kw=0
          ·have h0:br.length=0:=by omega
           have nC:len=0:=by omega
           subst nC
           have vK:br=[]:=List.length_eq_zero_iff.1 h0
           subst vK
           have KT:vs=[]:=List.length_eq_zero_iff.1 (by simpa using v1)
           subst KT
           have hw:w.setRow b (ch.toList.take (0*aj.sz)++[]++ch.toList.drop (0*aj.sz+0)).toArray=w:=by
            simp only [Nat.zero_mul,List.take_zero,List.nil_append,Nat.zero_add,List.drop_zero,Array.toArray_toList]
            exact setRow_self w b ch mJ (0,0) bE
           simp only [List.length_nil] at oU tx
           rw [hw] at oU tx
           exact ⟨_,w,hA.zero h0 iu 0 kw (Nat.zero_le _),oU,tx _ _ aa⟩
          ·have BB:iu=some ⟨b,0,none⟩:=by
            rcases m7 with cv|cv
            ·exact absurd cv m6
            ·simpa using cv
           subst BB
           by_cases h0:br.length=0
           ·have vK:br=[]:=List.length_eq_zero_iff.1 h0
            subst vK
            have KT:vs=[]:=List.length_eq_zero_iff.1 (by simpa using v1)
            subst KT
            have hw:w.setRow b (ch.toList.take (len*aj.sz)++[]++ch.toList.drop (len*aj.sz+0)).toArray=w:=by
             simp only [List.append_nil,Nat.add_zero,List.take_append_drop,Array.toArray_toList]
             exact setRow_self w b ch mJ (0,0) bE
            simp only [List.length_nil] at oU tx
            rw [hw] at oU tx
            exact ⟨_,w,hA.zero h0 _ len kw rJ,oU,tx _ _ aa⟩
           ·have iX:=hA.room (by omega) b len kw ch mJ bE (by omega) (by rw [← eS];exact su) BA
            rw [← eS] at iX
            refine ⟨_,_,iX,oU,?_⟩
            have A8:(s.setRow r (row.set k {aj with es:=aj.es.take len++br})).aj r k=some {aj with es:=aj.es.take len++br}:=by
             rw [lK,if_pos rfl,OL row k aj _ bi (by simp [n7]),if_pos rfl]
            show Rel _ ((s.setRow r (row.set k {aj with es:=aj.es.take len++br})).ok g av _) (s.setRow r (row.set k {aj with es:=aj.es.take len++br})).a0 ((s.setRow r (row.set k {aj with es:=aj.es.take len++br})).ba av) (.bF r k 0 (len+br.length)) _
            refine .bF (sz:=aj.sz) (d2:=b) (m:=M) (DV A8) ((ig A8).trans (by rw [ah])) (by omega) th ⟨dq,.inr (by simp)⟩
        ·simp at ar
     ·simp at ar
  ·simp at ar
end
section
variable {P:Program} {g:G} {s:S} {av:fj} {a:Act} {w:World} {aT:Nat} {bo:hJ}
theorem Nx {s:S}{r k:Nat}{row:List af}{aj:af}(ap:s.aR r=some row)(ak:dk (some row) k=some aj):s.setRow r (row.set k aj)=s:=by
 have R:row[k]? = some aj:=by
  unfold dk at ak
  simp only at ak
  split at ak
  ·rename_i b5 dR
   split at ak
   ·simp at ak
   ·simp at ak;rw [← ak];exact dR
  ·simp at ak
 have ad:row.set k aj=row:=List.ext_getElem? fun j=>by
  rw [List.getElem?_set]
  split
  ·rename_i e;subst e
   have:=(List.getElem?_eq_some_iff.1 R).1
   rw [if_pos this,R]
  ·rfl
 rw [ad]
 have:(fun q=>if q=r then some row else s.aR q)=s.aR:=by
  funext q;split
  ·rename_i e;rw [e,ap]
  ·rfl
 show ({s with aR:=_}:S)=s
 rw [this]
theorem Wj {e:TypeId}{i:TypeInfo}{z:List ax}{ep:Value}(lQ:ep.cells.size=i.size)(nB:z.length=i.size)(jP:i.size≠0)
 (us : ∀(j:Nat) x,z[j]? = some x→ ∃v,ep.cells[j]? = some v∧ke v=true∧ ∀(w:World) (ok:Nat→Prop) (a0:jg) (ba:i3),Rel w ok a0 ba x v) (m:Nat) :
 (Builtin.zeroCells ep.cells m).toList.length=m*i.size∧(∀u∈(Builtin.zeroCells ep.cells m).toList,u.oneCell'=true) ∧
   ∀(j:Nat) x u,(List.replicate m z).flatten[j]? = some x→(Builtin.zeroCells ep.cells m).toList[j]? = some u→ ∀(w:World) (ok:Nat→Prop) (a0:jg) (ba:i3),Rel w ok a0 ba x u:=by
 have l7 : ∀(j:Nat) u,(Builtin.zeroCells ep.cells m).toList[j]? = some u→ep.cells[j % i.size]? = some u:=by
  intro j u n6
  have aA:=(List.getElem?_eq_some_iff.1 n6).1
  rw [Array.length_toList,size_zeroCells,lQ] at aA
  have dC:j % i.size<ep.cells.size:=by rw [lQ];exact Nat.mod_lt _ (by omega)
  rw [Array.getElem?_toList,Builtin.zeroCells,Array.getElem?_map,lQ,Array.getElem?_range] at n6
  rw [if_pos aA] at n6
  simp only [Option.map_some,Option.some.injEq] at n6
  rw [← n6,Array.getElem?_eq_getElem dC,getElem!_pos ep.cells _ dC]
 refine ⟨?_,?_,?_⟩
 ·rw [Array.length_toList,size_zeroCells,lQ]
 ·intro u rL
  obtain ⟨j,aA⟩:=List.getElem?_of_mem rL
  have o:=l7 j u aA
  have dC:j % i.size<z.length:=by rw [nB];exact Nat.mod_lt _ (by omega)
  obtain ⟨v,v1,v2,-⟩:=us _ _ (List.getElem?_eq_getElem dC)
  rw [o] at v1
  obtain rfl:=Option.some.inj v1
  exact v2
 ·intro j x u aa n6
  rw [pK (sz:=i.size) (by omega) _ (fun eD l6=>by rw [List.mem_replicate] at l6;rw [l6.2,nB])] at aa
  have o:=l7 j u n6
  cases a6:(List.replicate m z)[j / i.size]? with
  | none=>rw [a6] at aa;simp at aa
  | some eD =>
   have:=List.mem_of_getElem? a6
   rw [List.mem_replicate] at this
   rw [a6,this.2] at aa
   simp only [Option.bind_some] at aa
   obtain ⟨v,v1,-,v3⟩:=us _ _ aa
   rw [o] at v1
   obtain rfl:=Option.some.inj v1
   exact v3
theorem XD (h:cI g s av a w){r k len:Nat}{y:ax}{rS nH:Value}{t dE eB:TypeId}{cB:fo}(ar:n5 P s.E s.aR aT .copy [.bF r k 0 len,y] [t,dE] cB=some bo)(cr:∀p∈bo.fg,p)
 (aa:Rel w (s.ok g av w) s.a0 (s.ba av) (.bF r k 0 len) rS) (aK:Rel w (s.ok g av w) s.a0 (s.ba av) y nH) :
 ∃n bG,(Builtin.copy_ #[t,dE] eB #[rS,nH]).run P w = .ok (goInt n) bG∧cI g (s.h9 bo.fK) av a bG∧bo.val = .n .i64 n:=by
 simp only [n5] at ar
 split at ar
 ·simp at ar
 ·rename_i e he
  have hu:=r8 he
  split at ar
  ·simp at ar
  ·rename_i i ag
   split at ar
   ·simp at ar
   ·rename_i br b3 rG
    split at ar
    ·simp at ar
    ·rename_i row dt
     split at ar
     ·simp at ar
     ·rename_i aj bi
      split at ar
      ·rename_i vJ
       obtain ⟨n7,eS,jP⟩:=vJ
       simp only [Option.some.injEq] at ar
       subst ar
       have ak:s.aj r k=some aj:=by unfold S.aj;rw [dt];exact bi
       have iz:br.length≤len:=cr _ (by simp)
       have hle:len≤aj.es.length:=cr _ (by simp)
       obtain ⟨A,c,rfl,hlen,KR⟩:=OO h rG (fun p ah=>cr p (by simp [ah])) aK
       show ∃n bG,_∧cI g (s.setRow r (row.set k {aj with es:=br++aj.es.drop br.length})) av a bG∧_
       by_cases h0:br.length=0
       ·have vK:br=[]:=List.length_eq_zero_iff.1 h0
        subst vK
        refine ⟨0,w,?_,?_,rfl⟩
        ·rcases aa.vg (ig ak) with ⟨-,-,rfl,rfl⟩|⟨b,M,iu,kw,-,rfl,-,-,-,-⟩
         ·cases A<;>simp [Builtin.copy_,run_underlying hu,sizeOf,typeInfo,ag,Builtin.lenOf,Builtin.firstCells,loadCells,loadCellsFrom]
         ·cases A<;>cases iu<;>simp [Builtin.copy_,run_underlying hu,sizeOf,typeInfo,ag,Builtin.lenOf,Builtin.firstCells,loadCells,loadCellsFrom,storeCells]
        ·rw [show ({aj with es:=[]++aj.es.drop ([]:List (List ax)).length}:af)=aj from rfl,Nx dt bi];exact h
       ·obtain ⟨d2,off,rfl,iD⟩:=KR.resolve_left h0
        obtain ⟨vs,v1,v2,v3,v4⟩:=iD.n1
        rw [← eS] at v1
        rcases aa.vg (ig ak) with ⟨-,-,rfl,-⟩|⟨b,M,iu,kw,ah,rfl,rJ,th,dq,m7⟩
        ·exact absurd (Nat.le_zero.1 iz) h0
        ·have BB:iu=some ⟨b,0,none⟩:=by
          rcases m7 with cv|cv
          ·exact absurd (show br.length=0 by omega) h0
          ·simpa using cv
         subst BB
         obtain ⟨ch,mJ,bE,cU,nI,su,oU,-⟩:=h.putAt (p:=0) dt ak n7 ah (fun x aa=>by rw [hlen x aa,eS]) v1 v3 v4 (by omega) aj.es.length (gk:=br++aj.es.drop br.length)
          (by rw [List.take_zero,List.nil_append,Nat.zero_add];exact (List.take_of_length_le (by simp;omega)).symm)
         simp only [Nat.zero_mul,Nat.zero_add,List.take_zero,List.nil_append] at su oU
         have aL:=run_firstCells_some (P:=P) w i.size br.length ⟨d2,off,none⟩ br.length c vs (by rw [v1,eS]) v2
         have mz:=run_storeCells_at P b 0 mJ vs 0 ch w bE (by simpa using su) v3
         simp only [Nat.add_zero,List.take_zero,List.nil_append,Nat.zero_add] at mz
         refine ⟨br.length,_,?_,oU,rfl⟩
         simp [Builtin.copy_,run_underlying hu,sizeOf,typeInfo,ag,Builtin.lenOf,Nat.min_eq_left iz,aL,mz]
      ·simp at ar
theorem WQ (h:cI g s av a w){r k len:Nat}{rS:Value}{t eB:TypeId}{cB:fo}(ar:n5 P s.E s.aR aT .clear [.bF r k 0 len] [t] cB=some bo)(cr:∀p∈bo.fg,p)
 (aa:Rel w (s.ok g av w) s.a0 (s.ba av) (.bF r k 0 len) rS) :
 ∃bG,(Builtin.clear_ #[t] eB #[rS]).run P w = .ok (.tuple #[]) bG∧cI g (s.h9 bo.fK) av a bG∧bo.val = .dB []:=by
 simp only [n5] at ar
 split at ar
 ·simp at ar
 ·rename_i e he
  have hu:=r8 he
  split at ar
  ·rename_i i z ag cd
   split at ar
   ·simp at ar
   ·rename_i row dt
    split at ar
    ·simp at ar
    ·rename_i aj bi
     split at ar
     ·rename_i vJ
      obtain ⟨n7,eS,nB,jP⟩:=vJ
      simp only [Option.some.injEq] at ar
      subst ar
      have ak:s.aj r k=some aj:=by unfold S.aj;rw [dt];exact bi
      have hle:aj.es.length=len:=cr _ (by simp)
      show ∃bG,_∧cI g (s.setRow r (row.set k {aj with es:=List.replicate len z})) av a bG∧_
      by_cases h0:len=0
      ·subst h0
       refine ⟨w,?_,?_,rfl⟩
       ·rcases aa.vg (ig ak) with ⟨-,-,-,rfl⟩|⟨b,M,iu,kw,-,rfl,-,-,-,-⟩
        ·simp [Builtin.clear_,run_underlying hu]
        ·cases iu<;>simp [Builtin.clear_,run_underlying hu]
       ·rw [show ({aj with es:=List.replicate 0 z}:af)=aj by rw [List.replicate_zero,← List.length_eq_zero_iff.1 hle],Nx dt bi];exact h
      ·obtain ⟨fx,ep,j1,kJ,st,us⟩:=z8 cd
       rw [ag] at j1;simp at j1;subst j1
       have lQ:ep.cells.size=i.size:=by rw [← nB,st];simp
       rcases aa.vg (ig ak) with ⟨-,-,rfl,-⟩|⟨b,M,iu,kw,ah,rfl,rJ,th,dq,m7⟩
       ·exact absurd rfl h0
       ·have BB:iu=some ⟨b,0,none⟩:=by
         rcases m7 with cv|cv
         ·exact absurd (show len=0 by omega) h0
         ·simpa using cv
        subst BB
        obtain ⟨v1,v3,v4⟩:=Wj (e:=e) lQ nB jP us len
        rw [← eS] at v1
        obtain ⟨ch,mJ,bE,cU,nI,su,oU,-⟩:=h.putAt (p:=0) (br:=List.replicate len z) dt ak n7 ah (fun x aa=>by rw [List.mem_replicate] at aa;rw [aa.2,nB,eS]) (by simpa using v1) v3 (fun j x u o R=>v4 j x u o R _ _ _ _)
         (by simp;omega) len (gk:=List.replicate len z)
         (by simp [hle])
        simp only [Nat.zero_mul,Nat.zero_add,List.take_zero,List.nil_append] at su oU
        have mz:=run_storeCells_at P b 0 mJ (Builtin.zeroCells ep.cells len).toList 0 ch w bE (by simpa using su) v3
        simp only [Nat.add_zero,List.take_zero,List.nil_append,Nat.zero_add] at mz
        refine ⟨_,?_,oU,rfl⟩
        cases len with
        | zero=>exact absurd rfl h0
        | succ n=>simp [Builtin.clear_,run_underlying hu,zeroValue,typeInfo,ag,kJ,mz]
     ·simp at ar
  ·simp at ar
end
section
variable {g:G} {s:S} {av:fj} {a:Act} {w:World}
def l1 (row:List af):List af:=row.map fun I=>if I.cn = .live then {I with cn:= .iC} else I
theorem OP (row:List af)(k:Nat):dk (some (l1 row)) k=(dk (some row) k).map fun I=>if I.cn = .live then {I with cn:= .iC} else I:=by
 simp only [dk,l1,List.getElem?_map]
 cases row[k]? with
 | none=>rfl
 | some I =>
  obtain ⟨sz,es,cn⟩:=I
  cases cn<;>simp
theorem cI.freeze (h:cI g s av a w){r:Nat}{row:List af}(ap:s.aR r=some row):cI g (s.setRow r (l1 row)) av a w:=by
 have bi : ∀q k I,(s.setRow r (l1 row)).aj q k=some I→ ∃p,s.aj q k=some p∧I.sz=p.sz∧I.es=p.es∧(I.cn = .live→p.cn = .live∧q≠r):=by
  intro q k I ak
  by_cases e:q=r
  ·subst e
   have:(s.setRow q (l1 row)).aR q=some (l1 row):=by simp [S.setRow]
   unfold S.aj at ak
   rw [this,OP] at ak
   rw [Option.map_eq_some_iff] at ak
   obtain ⟨p,ah,rfl⟩:=ak
   refine ⟨p,by unfold S.aj;rw [ap];exact ah,?_⟩
   split<;>simp_all
  ·have:(s.setRow r (l1 row)).aR q=s.aR q:=by simp [S.setRow,e]
   unfold S.aj at ak
   rw [this] at ak
   exact ⟨I,ak,rfl,rfl,fun aL=>⟨aL,e⟩⟩
 have jr : ∀q k,s.a0 q k→(s.setRow r (l1 row)).a0 q k:=Dw s ap (by simp [l1])
 have ls : ∀q k,(s.setRow r (l1 row)).ba av q k=s.ba av q k:=by
  intro q k
  by_cases e:q=r
  ·subst e
   simp only [S.ba,S.aj]
   have:(s.setRow q (l1 row)).aR q=some (l1 row):=by simp [S.setRow]
   rw [this,OP,ap]
   cases dk (some row) k with
   | none=>rfl
   | some I=>simp only [Option.map_some,Option.some.injEq,Prod.mk.injEq,and_true];split<;>rfl
  ·have:(s.setRow r (l1 row)).aR q=s.aR q:=by simp [S.setRow,e]
   simp [S.ba,S.aj,this]
 have c5:Step g s av w (s.setRow r (l1 row)) av w:=⟨jr,fun q k _=> .inl (ls q k),fun b aL=>by
  obtain ⟨q,k,I,m,o,R,ad⟩:=aL
  obtain ⟨p,hf,iI,oT,Cf⟩:=bi q k I o
  exact .inl ⟨q,k,p,m,hf,(Cf R).1,ad⟩,fun _ _ _=>rfl,Nat.le_refl _⟩
 refine {toil:=⟨?_,?_,?_,h.hb,h.mlt,h.ny,?_,h.low⟩,env:=fun t=>c5.rel (h.env t),defers:=h.defers,jQ:=h.jQ}
 ·intro q k I ak
  obtain ⟨p,hf,iI,oT,-⟩:=bi q k I ak
  have ah:=c5.obj (fun b m _=>rfl) (h.obj q k p hf)
  cases lT:av q k with
  | none=>rw [lT] at ah;simp only [ja] at ah ⊢;rw [oT];exact ah
  | some x =>
   obtain ⟨b,m⟩:=x
   rw [lT] at ah
   obtain ⟨c,eB,aw,aC,b1,dn⟩:=ah
   exact ⟨c,eB,aw,aC,by rw [iI,oT];exact b1,by rw [oT];exact dn⟩
 ·intro q k I hs dI b5 b m a4 o R ad aD
  obtain ⟨p,hf,-⟩:=bi q k I o
  obtain ⟨km,abx,-⟩:=bi hs dI b5 R
  exact h.inj q k p hs dI km b m a4 hf abx ad aD
 ·intro q k I b m o R
  obtain ⟨p,hf,-⟩:=bi q k I o
  exact h.own q k p b m hf R
 ·intro j k aA
  obtain ⟨aw,aC⟩:=h.stay j k aA
  exact ⟨jr j k aw,by rw [ls];exact aC⟩
end
def yj (P:Program)(t:TypeId):Bool :=
 match P.underlying t with
 | some (.pointer _)=>true
 | _=>false
def yS (P:Program)(E:Nat→ax)(aR:Nat→Option (List af))(aT:Nat)(I:Oper)(cB:fo):Option hJ :=
 match I.op with
 | .call {callee:= .builtin b,args,argTypes}=>match b with
  | .len=>eQ P E aR aT I cB
  | b=>n5 P E aR aT b (args.toList.map (eH E)) argTypes.toList cB
 | .binOp op t x y _=>match cB,op,eH E x,eH E y with
  | .dh,.eql,.isl _ es,.ex=>if (qi P t).isSome then some {val:= .b false,fg:=[es≠[]]} else none
  | .dh,.neq,.isl _ es,.ex=>if (qi P t).isSome then some {val:= .b true,fg:=[es≠[]]} else none
  | .dh,.eql,.eP _ none,.ik=>if yj P t then some {val:= .b true} else none
  | .dh,.neq,.eP _ none,.ik=>if yj P t then some {val:= .b false} else none
  | .dh,.eql,.eP _ (some _),.ik=>if yj P t then some {val:= .b false} else none
  | .dh,.neq,.eP _ (some _),.ik=>if yj P t then some {val:= .b true} else none
  | .dh,_,_,_=>none
  | _,_,_,_=>eQ P E aR aT I cB
 | .nilCheck x=>match cB,eH E x with
  | .dh,.eP sz (some c)=>some {val:= .eu sz [c] 0 0}
  | .dh,_=>none
  | _,_=>eQ P E aR aT I cB
 | _=>eQ P E aR aT I cB
section
variable {P:Program} {g:G} {s:S} {av:fj} {a:Act} {w:World} {I:Oper} {cB:fo} {aT:Nat} {bo:hJ}
theorem Ed {args:Array Operand}{E:Nat→ax}{x y:ax}(h:args.toList.map (eH E)=[x,y]): ∃p q,args = #[p,q]∧eH E p=x∧eH E q=y:=by
 obtain ⟨l⟩:=args
 match l,h with
 | [p,q],h=>simp at h;exact ⟨p,q,rfl,h.1,h.2⟩
theorem Yz {args:Array Operand}{E:Nat→ax}{x:ax}(h:args.toList.map (eH E)=[x]): ∃p,args = #[p]∧eH E p=x:=by
 obtain ⟨l⟩:=args
 match l,h with
 | [p],h=>simp at h;exact ⟨p,rfl,h⟩
theorem DM {t:TypeId}(h:yj P t=true): ∃e,P.underlying t=some (.pointer e):=by
 unfold yj at h
 split at h
 ·rename_i e he;exact ⟨e,he⟩
 ·simp at h
theorem WR (h:cI g s av a w)(eT:s.aR aT=none)(ar:yS P s.E s.aR aT I cB=some bo)(cr:∀p∈bo.fg,p):Fin P g s a w I bo:=by
 unfold yS at ar
 split at ar
 ·rename_i b args m5 ak
  split at ar
  ·exact DL h eT ar cr
  ·rename_i b aJ
   unfold n5 at ar
   split at ar
   ·rename_i x y t dE m LS hargs oH
    have vw:n5 P s.E s.aR aT .append [x,y] [t,dE] (.aY m LS)=some bo:=ar
    obtain ⟨p,q,rfl,rfl,rfl⟩:=Ed hargs
    obtain ⟨l⟩:=m5
    simp only at oH
    subst oH
    obtain ⟨v,bG,bJ,o,R,ad⟩:=Wi (eB:=I.type) h eT vw cr (h.eval p) (h.eval q)
    exact ⟨v,bG,bJ,.inl (by simp [execOp,ak,resolve,invoke,builtin,o]),R,ad⟩
   ·rename_i x y t dE hargs oH
    have vw:n5 P s.E s.aR aT .append [x,y] [t,dE] .dh=some bo:=ar
    obtain ⟨p,q,rfl,rfl,rfl⟩:=Ed hargs
    obtain ⟨l⟩:=m5
    simp only at oH
    subst oH
    obtain ⟨v,bG,o,R,ad⟩:=Yy (eB:=I.type) h vw cr (h.eval p) (h.eval q)
    exact ⟨v,bG,av,.inl (by simp [execOp,ak,resolve,invoke,builtin,o]),R,ad⟩
   ·rename_i cB r k len y t dE hargs oH
    have vw:n5 P s.E s.aR aT .copy [.bF r k 0 len,y] [t,dE] cB=some bo:=ar
    obtain ⟨p,q,rfl,ah,rfl⟩:=Ed hargs
    obtain ⟨l⟩:=m5
    simp only at oH
    subst oH
    have aa:=h.eval p
    rw [ah] at aa
    obtain ⟨n,bG,o,R,ad⟩:=XD (eB:=I.type) h vw cr aa (h.eval q)
    refine ⟨goInt n,bG,av,.inl (by simp [execOp,ak,resolve,invoke,builtin,o]),R,?_⟩
    rw [ad];exact .n _ _
   ·rename_i cB r k len t hargs oH
    have vw:n5 P s.E s.aR aT .clear [.bF r k 0 len] [t] cB=some bo:=ar
    obtain ⟨p,rfl,ah⟩:=Yz hargs
    obtain ⟨l⟩:=m5
    simp only at oH
    subst oH
    have aa:=h.eval p
    rw [ah] at aa
    obtain ⟨bG,o,R,ad⟩:=WQ (eB:=I.type) h vw cr aa
    refine ⟨.tuple #[],bG,av,.inl (by simp [execOp,ak,resolve,invoke,builtin,o]),R,?_⟩
    rw [ad];exact .dB [] rfl (fun j x u aA=>by simp at aA)
   ·rename_i k x dI y hargs
    split at ar
    ·rename_i aX
     simp only [Option.some.injEq] at ar
     subst ar;subst aX
     obtain ⟨p,q,rfl,ah,a6⟩:=Ed hargs
     have aa:=h.eval p
     have aK:=h.eval q
     rw [ah] at aa;rw [a6] at aK
     refine h5 (v:= .int k (if y<x then y else x)) h ?_ rfl (.n _ _)
     simp [execOp,ak,resolve,invoke,builtin,Builtin.min_,aa.oz,aK.oz,Builtin.min2]
    ·simp at ar
   ·simp at ar
 ·rename_i op t x y dE ak
  split at ar
  ·rename_i sz es aa aK
   split at ar
   ·rename_i he
    obtain ⟨e,he⟩:=Option.isSome_iff_exists.1 he
    simp only [Option.some.injEq] at ar
    subst ar
    have o:=h.eval x
    have R:=h.eval y
    rw [aa] at o;rw [aK] at R
    have cu:es≠[]:=cr _ (by simp)
    refine h5 (v:= .bool false) h ?_ rfl (.b _)
    simp only [execOp,ak]
    rw [Sem.run_bind,(PW (w:=w) (r8 he) cu o R x y).1];rfl
   ·simp at ar
  ·rename_i sz es aa aK
   split at ar
   ·rename_i he
    obtain ⟨e,he⟩:=Option.isSome_iff_exists.1 he
    simp only [Option.some.injEq] at ar
    subst ar
    have o:=h.eval x
    have R:=h.eval y
    rw [aa] at o;rw [aK] at R
    have cu:es≠[]:=cr _ (by simp)
    refine h5 (v:= .bool true) h ?_ rfl (.b _)
    simp only [execOp,ak]
    rw [Sem.run_bind,(PW (w:=w) (r8 he) cu o R x y).2];rfl
   ·simp at ar
  ·rename_i sz aa aK
   split at ar
   ·rename_i cp
    obtain ⟨e,he⟩:=DM cp
    simp only [Option.some.injEq] at ar
    subst ar
    have o:=h.eval x
    have R:=h.eval y
    rw [aa] at o;rw [aK] at R
    have yT:Rel w (s.ok g av w) s.a0 (s.ba av) .ik (a.eval x):=by rw [o.OM];exact .ik
    refine h5 (v:= .bool true) h ?_ rfl (.b _)
    simp only [execOp,ak]
    rw [Sem.run_bind,(x1 (w:=w) (r:=true) (by simp [sk,he]) yT R x y).1];rfl
   ·simp at ar
  ·rename_i sz aa aK
   split at ar
   ·rename_i cp
    obtain ⟨e,he⟩:=DM cp
    simp only [Option.some.injEq] at ar
    subst ar
    have o:=h.eval x
    have R:=h.eval y
    rw [aa] at o;rw [aK] at R
    have yT:Rel w (s.ok g av w) s.a0 (s.ba av) .ik (a.eval x):=by rw [o.OM];exact .ik
    refine h5 (v:= .bool false) h ?_ rfl (.b _)
    simp only [execOp,ak]
    rw [Sem.run_bind,(x1 (w:=w) (r:=true) (by simp [sk,he]) yT R x y).2];rfl
   ·simp at ar
  ·rename_i sz c aa aK
   split at ar
   ·rename_i cp
    obtain ⟨e,he⟩:=DM cp
    simp only [Option.some.injEq] at ar
    subst ar
    have o:=h.eval x
    have R:=h.eval y
    rw [aa] at o;rw [aK] at R
    refine h5 (v:= .bool false) h ?_ rfl (.b _)
    simp only [execOp,ak]
    rw [Sem.run_bind,(x1 (w:=w) (r:=false) (by simp [sk,he]) o.Jq R x y).1];rfl
   ·simp at ar
  ·rename_i sz c aa aK
   split at ar
   ·rename_i cp
    obtain ⟨e,he⟩:=DM cp
    simp only [Option.some.injEq] at ar
    subst ar
    have o:=h.eval x
    have R:=h.eval y
    rw [aa] at o;rw [aK] at R
    refine h5 (v:= .bool true) h ?_ rfl (.b _)
    simp only [execOp,ak]
    rw [Sem.run_bind,(x1 (w:=w) (r:=false) (by simp [sk,he]) o.Jq R x y).2];rfl
   ·simp at ar
  ·simp at ar
  ·exact DL h eT ar cr
 ·rename_i x ak
  split at ar
  ·rename_i sz c aa
   simp only [Option.some.injEq] at ar
   subst ar
   have o:=h.eval x
   rw [aa] at o
   have R:=o.Jq
   obtain ⟨d2,off,aJ,hval,iD⟩:=R.x9
   refine h5 (v:=a.eval x) h ?_ rfl R
   rw [hval]
   simp only [execOp,ak,hval]
   rfl
  ·simp at ar
  ·exact DL h eT ar cr
 ·exact DL h eT ar cr
end
end Go.VL
namespace Go.VL
set_option linter.unusedVariables false
set_option linter.unusedSimpArgs false
open Go
theorem sF {es:List (List ax)}{j:Nat}{x:ax}(h:es.flatten[j]? = some x): ∃e∈es,x∈e:=by
 have:=List.mem_of_getElem? h
 rw [List.mem_flatten] at this
 obtain ⟨e,he,aa⟩:=this
 exact ⟨e,he,aa⟩
theorem Rel.pure {w:World}{ok kU:Nat→Prop}{a0 m3:jg}{ba my:i3}{x:ax}{v:Value}(h:Rel w ok a0 ba x v)(ah:Pure x)(m4:∀b,ok b→kU b):Rel w kU m3 my x v:=by
 induction h with
 | dead v=>exact .dead v
 | b x=>exact .b x
 | n k x=>exact .n k x
 | s x=>exact .s x
 | ik=>exact .ik
 | ex=>exact .ex
 | iQ a c=>exact .iQ a c
 | qd=>cases ah
 | ref=>cases ah
 | ns=>cases ah
 | nP=>cases ah
 | bF=>cases ah
 | mX=>cases ah
 | nY=>cases ah
 | kh sz a c h=>exact .kh sz a c h
 | isl cs aJ l8 aL aP hw hr ap ih =>
  cases ah with
  | isl h=>exact .isl cs (m4 _ aJ) l8 aL aP hw hr fun j x aa=>ih j x aa (by obtain ⟨e,he,q5⟩:=sF aa;exact h e he x q5)
 | eu cs aJ l8 aL hw hr ap ih =>
  cases ah with
  | eu h=>exact .eu cs (m4 _ aJ) l8 aL hw hr fun j x aa=>ih j x aa (by obtain ⟨e,he,q5⟩:=sF aa;exact h e he x q5)
 | pQ sz=>exact .pQ sz
 | pp h ih =>
  cases ah with
  | pp ah=>exact .pp (ih (.eu fun e he x aa=>by rw [List.mem_singleton] at he;subst he;exact ah x aa))
 | agg vs aL hr ap ih =>
  cases ah with
  | agg h=>exact .agg vs aL hr fun j x v aa a2=>ih j x v aa a2 (h x (List.mem_of_getElem? aa))
 | dB vs aL ap ih =>
  cases ah with
  | dB h=>exact .dB vs aL fun j x v aa a2=>ih j x v aa a2 (h x (List.mem_of_getElem? aa))
 | fn vs aL ap ih =>
  cases ah with
  | fn h=>exact .fn vs aL fun j x v aa a2=>ih j x v aa a2 (h x (List.mem_of_getElem? aa))
abbrev gI:=Nat→Nat→Option (Nat×Nat)
structure Down (q:ax→Prop):Prop where
 agg : ∀c x,q (.agg c)→x∈c→q x
 dB : ∀c x,q (.dB c)→x∈c→q x
 fn : ∀f c x,q (.fn f c)→x∈c→q x
inductive hM (s:S) (aQ:gI) (bS:f7→Bool) (q:ax→Prop):ax→ax→Prop
 | dead (x:ax):hM s aQ bS q x .dead
 | pure {x:ax} (h:Pure x) (a6:q x):hM s aQ bS q x x
 | ex (sz:Nat):hM s aQ bS q .ex (.isl sz [])
 | iQ (sz:Nat):hM s aQ bS q .iQ (.isl sz [])
 | EB (sz:Nat):hM s aQ bS q .ik (.eP sz none)
 | eP {sz:Nat} {x:ax} {c:List ax} (h:hM s aQ bS q x (.eu sz [c] 0 0)):hM s aQ bS q x (.eP sz (some c))
 | ref {r k j fx:Nat} (i off:Nat) (h:aQ j fx=some (r,k)) (hu:s.a0 r k):hM s aQ bS q (.ref r k i off) (.ref j fx i off)
 | bF {r k j fx:Nat} (bV len:Nat) (h:aQ j fx=some (r,k)) (hu:s.a0 r k):hM s aQ bS q (.bF r k bV len) (.bF j fx bV len)
 | mX (r c sz:Nat):hM s aQ bS q (.iR r c sz none) (.isl sz [])
 | nY {r c sz k n:Nat} {cF:ax} (h:hM s aQ bS q (.bF r (k+c) 0 n) cF):hM s aQ bS q (.iR r c sz (some (k,n))) cF
 | iR {r eC c dM sz:Nat} (h:Option (Nat×Nat)) (hm : ∀k,aQ eC (k+dM)=some (r,k+c)):hM s aQ bS q (.iR r c sz h) (.iR eC dM sz h)
 | eu {r k:Nat} {I:af} {gk:List (List ax)} (i off:Nat) (ak:s.aj r k=some I) (bt:bS I.cn=true) (ap:(∀j i,aQ j i≠some (r,k))) (cu:I.es≠[]) (ah:gr gk) (hle : ∀e∈gk,e.length=I.sz) (aL:gk.length=I.es.length)
  (h : ∀(j:Nat) x cF,I.es.flatten[j]? = some x→gk.flatten[j]? = some cF→hM s aQ bS q x cF):hM s aQ bS q (.ref r k i off) (.eu I.sz gk i off)
 | isl {r k bV len:Nat} {I:af} {gk:List (List ax)} (ak:s.aj r k=some I) (bt:bS I.cn=true) (ap:(∀j i,aQ j i≠some (r,k))) (iz:bV+len≤I.es.length) (ah:gr gk) (hle : ∀e∈gk,e.length=I.sz) (aL:gk.length=len)
  (h : ∀(j:Nat) x cF,((I.es.drop bV).take len).flatten[j]? = some x→gk.flatten[j]? = some cF→hM s aQ bS q x cF):hM s aQ bS q (.bF r k bV len) (.isl I.sz gk)
 | agg {c dM:List ax} (aL:dM.length=c.length) (h : ∀(j:Nat) x cF,c[j]? = some x→dM[j]? = some cF→hM s aQ bS q x cF):hM s aQ bS q (.agg c) (.agg dM)
 | dB {c dM:List ax} (aL:dM.length=c.length) (h : ∀(j:Nat) x cF,c[j]? = some x→dM[j]? = some cF→hM s aQ bS q x cF):hM s aQ bS q (.dB c) (.dB dM)
 | fn {f:Nat} {c dM:List ax} (aL:dM.length=c.length) (h : ∀(j:Nat) x cF,c[j]? = some x→dM[j]? = some cF→hM s aQ bS q x cF):hM s aQ bS q (.fn f c) (.fn f dM)
theorem r4 {sz:Nat}: ∀(es:List (List ax)),(∀e∈es,e.length=sz)→es.flatten.length=es.length*sz
 | [],_=>by simp
 | e::es,h=>by
  rw [List.flatten_cons,List.length_append,r4 es fun x aa=>h x (by simp [aa]),h e (by simp),List.length_cons,Nat.add_mul];omega
theorem fE {α:Type}{l:List α}{j:Nat}{x:α}(h:l[j]? = some x):j<l.length:=by
 rcases Nat.lt_or_ge j l.length with cv|cv
 ·exact cv
 ·rw [List.getElem?_eq_none cv] at h;simp at h
theorem hM.rel {g:G}{s:S}{av:fj}{w:World}{aQ:gI}{bS:f7→Bool}{q:ax→Prop}(dq:il g s av w){kU:Nat→Prop}{m3:jg}{my:i3}
 (H1 : ∀x v,q x→Pure x→Rel w (s.ok g av w) s.a0 (s.ba av) x v→Rel w kU m3 my x v)
 (FF : ∀r k I b m,s.aj r k=some I→bS I.cn=true→(∀j i,aQ j i≠some (r,k))→av r k=some (b,m)→kU b)
 (Cg : ∀j i r k,aQ j i=some (r,k)→s.a0 r k→m3 j i∧(my j i=s.ba av r k∨my j i=none)) {x cF:ax} (bW:hM s aQ bS q x cF) :
 ∀ {v:Value},Rel w (s.ok g av w) s.a0 (s.ba av) x v→Rel w kU m3 my cF v:=by
 induction bW with
 | dead x=>intro v _;exact .dead v
 | pure ah a6=>intro v ap;exact H1 _ v a6 ah ap
 | ex sz=>intro v ap;rw [ap.qb];exact .kh sz none 0 (fun _=>rfl)
 | iQ sz=>intro v ap;obtain ⟨a,c,rfl⟩:=ap.Eb;exact .kh sz (some a) c (fun h=>by simp at h)
 | EB sz=>intro v ap;rw [ap.vf];exact .pQ sz
 | eP h ih=>intro v ap;exact .pp (ih ap)
 | @ref r k j fx i off aA hu =>
  intro v ap
  obtain ⟨o,R⟩:=Cg j fx r k aA hu
  cases ap with
  | qd a oL a1 =>
   refine .qd a o fun sz p=> ?_
   rcases R with e|e<;>rw [e]
   ·exact a1 sz p
   ·simp
  | ref oL cp =>
   rcases R with e|e
   ·exact .ref o (e.trans cp)
   ·exact .qd _ o fun sz p=>by rw [e];simp
 | @bF r k j fx bV len aA hu =>
  intro v ap
  obtain ⟨o,R⟩:=Cg j fx r k aA hu
  cases ap with
  | ns a l c oL a1 =>
   refine .ns a l c o ?_
   rcases R with e|e<;>rw [e]
   exact a1
  | nP oL cp =>
   rcases R with e|e
   ·exact .nP o (e.trans cp)
   ·exact .ns _ _ _ o e
  | bF oL cp aL aP hm =>
   rcases R with e|e
   ·exact .bF o (e.trans cp) aL aP hm
   ·exact .ns _ _ _ o e
 | mX r c sz =>
  intro v ap
  cases ap with
  | mX h0 =>
   rcases h0.sQ with ⟨-,a,c,rfl,bt⟩|⟨d2,off,c,-,rfl,-⟩
   ·exact .kh sz a c bt
   ·exact .kh sz _ c (fun h=>by simp at h)
 | nY h ih =>
  intro v ap
  cases ap with
  | nY h0=>exact ih h0
 | @iR r eC c dM sz h hm =>
  intro v ap
  cases ap with
  | mX h0 =>
   rcases h0.sQ with ⟨-,a,c,rfl,bt⟩|⟨d2,off,c,-,rfl,-⟩
   ·exact .mX (.kh sz a c bt)
   ·exact .mX (.kh sz _ c (fun h=>by simp at h))
  | @nY _ _ _ k n _ h0 =>
   refine .nY ?_
   cases h0 with
   | ns a l bE oL a1 =>
    obtain ⟨o,R⟩:=Cg _ _ _ _ (hm k) oL
    refine .ns a l bE o ?_
    rcases R with e|e<;>rw [e]
    exact a1
   | nP oL cp =>
    obtain ⟨o,R⟩:=Cg _ _ _ _ (hm k) oL
    rcases R with e|e
    ·exact .nP o (e.trans cp)
    ·exact .ns _ _ _ o e
   | bF oL cp aL aP m7 =>
    obtain ⟨o,R⟩:=Cg _ _ _ _ (hm k) oL
    rcases R with e|e
    ·exact .bF o (e.trans cp) aL aP m7
    ·exact .ns _ _ _ o e
 | @eu r k I gk i off ak bt ap cu KU hle aL h ih =>
  intro v a2
  have fc:=dq.obj r k I ak
  rcases a2.vk (ig ak) with h0|⟨b,m,ah,hval⟩
  ·rw [h0] at fc;exact absurd fc cu
  ·rw [ah] at fc
   have iD:=fc.rd
   rw [hval]
   have jR:gk.flatten.length=I.es.flatten.length:=by rw [r4 gk hle,r4 I.es iD.1,aL]
   have vB:oS w kU m3 my b 0 I.sz gk:=by
    refine ⟨hle,fun j cF dH=> ?_⟩
    have dC:j<I.es.flatten.length:=by rw [← jR];exact fE dH
    have aa:I.es.flatten[j]? = some I.es.flatten[j]:=List.getElem?_eq_getElem dC
    obtain ⟨u,aw,aC,b1⟩:=iD.2 j _ aa
    exact ⟨u,aw,aC,ih j _ cF aa dH b1⟩
   have:=vB.eu (i:=i) (off:=off) ⟨FF r k I b m ak bt ap ah,KU⟩
   rw [Nat.zero_add] at this
   exact this
 | @isl r k bV len I gk ak bt ap iz KU hle aL h ih =>
  intro v a2
  have fc:=dq.obj r k I ak
  rcases a2.Au (ig ak) with ⟨ah,rfl,rfl,hval⟩|⟨b,m,A,c,ah,hval,rJ,th,hm⟩
  ·have:gk=[]:=List.length_eq_zero_iff.1 aL
   subst this
   rw [hval];exact .kh _ none 0 (fun _=>rfl)
  ·rw [ah] at fc
   rw [hval]
   rcases Nat.eq_zero_or_pos len with h0|jP
   ·subst h0
    have:gk=[]:=List.length_eq_zero_iff.1 aL
    subst this
    exact .kh _ A c (fun a1=>by rcases hm with o|⟨o,-⟩<;>simp_all)
   ·rcases hm with hm|⟨hA,hm⟩
    ·omega
    ·subst hA
     have iD:=Dx fc.rd bV len (by omega)
     rw [Nat.zero_add] at iD
     have jR:gk.flatten.length=((I.es.drop bV).take len).flatten.length:=by
      rw [r4 gk hle,r4 _ iD.1,aL,List.length_take,List.length_drop,Nat.min_eq_left (by omega)]
     have vB:oS w kU m3 my b (bV*I.sz) I.sz gk:=by
      refine ⟨hle,fun j cF dH=> ?_⟩
      have dC:j<((I.es.drop bV).take len).flatten.length:=by rw [← jR];exact fE dH
      have aa:=List.getElem?_eq_getElem dC
      obtain ⟨u,aw,aC,b1⟩:=iD.2 j _ aa
      exact ⟨u,aw,aC,ih j _ cF aa dH b1⟩
     have:=vB.isl (c:=c) ⟨FF r k I b m ak bt ap ah,KU⟩ (by omega)
     rw [aL] at this
     exact this
 | @agg c dM aL h ih =>
  intro v a2
  obtain ⟨vs,rfl,o,R,ad⟩:=a2.x7
  refine .agg vs (by omega) R fun j cF u dH hu=> ?_
  have dC:j<c.length:=by have:=fE dH;omega
  exact ih j _ cF (List.getElem?_eq_getElem dC) dH (ad j _ u (List.getElem?_eq_getElem dC) hu)
 | @dB c dM aL h ih =>
  intro v a2
  obtain ⟨vs,rfl,o,ad⟩:=a2.x8
  refine .dB vs (by omega) fun j cF u dH hu=> ?_
  have dC:j<c.length:=by have:=fE dH;omega
  exact ih j _ cF (List.getElem?_eq_getElem dC) dH (ad j _ u (List.getElem?_eq_getElem dC) hu)
 | @fn f c dM aL h ih =>
  intro v a2
  obtain ⟨vs,rfl,o,ad⟩:=a2.Eo
  refine .fn vs (by omega) fun j cF u dH hu=> ?_
  have dC:j<c.length:=by have:=fE dH;omega
  exact ih j _ cF (List.getElem?_eq_getElem dC) dH (ad j _ u (List.getElem?_eq_getElem dC) hu)
structure oM (s:S) (aQ:gI) (bS:f7→Bool) (q:ax→Prop) (I b5:af):Prop where
 sz:b5.sz=I.sz
 cn:b5.cn=I.cn∨(b5.cn = .iC∧I.cn = .live)∨b5.cn = .gone
 len:b5.es.length=I.es.length
 each : ∀e∈b5.es,e.length=I.sz
 at_ : ∀(j:Nat) x cF,I.es.flatten[j]? = some x→b5.es.flatten[j]? = some cF→hM s aQ bS q x cF
structure qu (s:S) (aQ:gI) (bS:f7→Bool) (q:ax→Prop) (hv:Nat→Option (List af)):Prop where
 inj : ∀j i h2 fx p,aQ j i=some p→aQ h2 fx=some p→j=h2∧i=fx
 at_ : ∀j i b5,dk (hv j) i=some b5→ ∃r k I,aQ j i=some (r,k)∧s.aj r k=some I∧oM s aQ bS q I b5
 a0 : ∀j i r k,aQ j i=some (r,k)→s.a0 r k→i<((hv j).getD []).length
def jS (av:fj)(aQ:gI):fj:=fun j i=>match aQ j i with
 | some (r,k)=>av r k
 | none=>none
theorem yk {av:fj}{aQ:gI}{j i r k:Nat}(h:aQ j i=some (r,k)):jS av aQ j i=av r k:=by simp [jS,h]
def l9 (_:ax):Prop:=True
theorem aac:Down l9:=⟨fun _ _ _ _=>trivial,fun _ _ _ _=>trivial,fun _ _ _ _ _=>trivial⟩
section
variable {g:G} {s:S} {av:fj} {w:World} {aQ:gI} {bS:f7→Bool} {q:ax→Prop} {bL:S}
theorem qu.aj (h:qu s aQ bS q bL.aR){j i:Nat}{b5:af}(ak:bL.aj j i=some b5): ∃r k I,aQ j i=some (r,k)∧s.aj r k=some I∧oM s aQ bS q I b5:=h.at_ j i b5 ak
theorem Pr {I b5:af}(h:oM s aQ bS q I b5)(aL:b5.cn = .live):I.cn = .live:=by
 rcases h.cn with e|⟨e,-⟩|e
 ·exact e.symm.trans aL
 ·rw [e] at aL;simp at aL
 ·rw [e] at aL;simp at aL
theorem qu.live (h:qu s aQ bS q bL.aR)(b:Nat)(aL:bL.l0 (jS av aQ) b): ∃r k I m,s.aj r k=some I∧I.cn = .live∧av r k=some (b,m)∧ ∃j i,aQ j i=some (r,k):=by
 obtain ⟨j,i,b5,m,o,R,ad⟩:=aL
 obtain ⟨r,k,I,aw,aC,b1⟩:=h.aj o
 rw [yk aw] at ad
 exact ⟨r,k,I,m,aC,Pr b1 R,ad,j,i,aw⟩
theorem qu.E8 (h:qu s aQ bS q bL.aR){j i r k:Nat}(aA:aQ j i=some (r,k)):bL.ba (jS av aQ) j i=s.ba av r k∨bL.ba (jS av aQ) j i=none:=by
 cases ak:bL.aj j i with
 | none=>right;simp [S.ba,ak]
 | some b5 =>
  obtain ⟨eC,dI,I,aw,aC,b1⟩:=h.aj ak
  rw [aA] at aw;simp only [Option.some.injEq,Prod.mk.injEq] at aw
  obtain ⟨rfl,rfl⟩:=aw
  left
  rw [ig ak,ig aC,b1.sz,yk aA]
theorem il.LU (dq:il g s av w)(h:qu s aQ bS q bL.aR){fU:G}(aX:A6 fU w)(AP:∀j k,fU.pw j k→bL.a0 j k∧(bL.ba (jS av aQ) j k=fU.rH j k∨bL.ba (jS av aQ) j k=none))(Kp:∀j k,fU.pw j k→j<fU.m)
 (aaM : ∀b,fU.p2 b→b<fU.mN.heap.size) (halt : ∀b,fU.A b→b<fU.mN.heap.size)
 (Kq : ∀r k I b m,(∃j i,aQ j i=some (r,k))→s.aj r k=some I→av r k=some (b,m)→fU.mN.heap.size≤b∨fU.p2 b)
 (H1 : ∀b,s.ok g av w b→bL.ok fU (jS av aQ) w b)
 (FF : ∀r k I b m,s.aj r k=some I→bS I.cn=true→(∀j i,aQ j i≠some (r,k))→av r k=some (b,m)→bL.ok fU (jS av aQ) w b) :
 il fU bL (jS av aQ) w∧ ∀ {x cF:ax} {v:Value},hM s aQ bS q x cF→Rel w (s.ok g av w) s.a0 (s.ba av) x v→Rel w (bL.ok fU (jS av aQ) w) bL.a0 (bL.ba (jS av aQ)) cF v:=by
 have fc : ∀ {x cF:ax} {v:Value},hM s aQ bS q x cF→Rel w (s.ok g av w) s.a0 (s.ba av) x v→Rel w (bL.ok fU (jS av aQ) w) bL.a0 (bL.ba (jS av aQ)) cF v :=
  fun bW ap=>bW.rel dq (fun x v _ ah ap=>ap.pure ah H1) FF (fun j i r k aA hu=>⟨h.a0 j i r k aA hu,h.E8 aA⟩) ap
 refine ⟨⟨?_,?_,?_,aX,aaM,halt,AP,Kp⟩,fc⟩
 ·intro j k b5 dR
  obtain ⟨r,dI,I,aw,aC,b1⟩:=h.aj dR
  have bi:=dq.obj r dI I aC
  rw [yk aw]
  cases ah:av r dI with
  | none =>
   rw [ah] at bi
   simp only [ja] at bi ⊢
   apply List.length_eq_zero_iff.1
   rw [b1.len,bi];rfl
  | some q =>
   obtain ⟨b,m⟩:=q
   rw [ah] at bi
   obtain ⟨c,eB,o,R,ad,aD⟩:=bi
   have jR:b5.es.flatten.length=I.es.flatten.length:=by rw [r4 _ b1.each,r4 _ ad,b1.len]
   refine ⟨c,eB,o,R,by rw [b1.sz];exact b1.each,fun i cF dH=> ?_⟩
   have dC:i<I.es.flatten.length:=by rw [← jR];exact fE dH
   have aa:=List.getElem?_eq_getElem dC
   obtain ⟨u,f1,f2,f3⟩:=aD i _ aa
   exact ⟨u,f1,f2,fc (b1.at_ i _ cF aa dH) f3⟩
 ·intro j k I h2 dI b5 b m a4 o R ad aD
  obtain ⟨r,j8,p,aw,aC,-⟩:=h.aj o
  obtain ⟨eC,aby,km,na,pV,-⟩:=h.aj R
  rw [yk aw] at ad
  rw [yk na] at aD
  obtain ⟨rfl,rfl⟩:=dq.inj r j8 p eC aby km b m a4 aC pV ad aD
  exact h.inj _ _ _ _ _ aw na
 ·intro j k I b m o R
  obtain ⟨r,j8,p,aw,aC,-⟩:=h.aj o
  rw [yk aw] at R
  exact Kq r j8 p b m ⟨j,k,aw⟩ aC R
theorem cI.Ps {a:Act}(h:cI g s av a w)(cX:qu s aQ (fun _=>true) q bL.aR)(ee:∀t,hM s aQ (fun _=>true) q (s.E t) (bL.E t))(Bh:∀j k,g.pw j k→aQ j k=some (j,k)):cI g bL (jS av aQ) a w:=by
 have hl : ∀b,bL.l0 (jS av aQ) b→s.l0 av b:=fun b aL=>by
  obtain ⟨r,k,I,m,o,R,ad,-⟩:=cX.live b aL
  exact ⟨r,k,I,m,o,R,ad⟩
 have AP : ∀j k,g.pw j k→bL.a0 j k∧(bL.ba (jS av aQ) j k=g.rH j k∨bL.ba (jS av aQ) j k=none):=by
  intro j k aA
  obtain ⟨aw,aC⟩:=h.stay j k aA
  refine ⟨cX.a0 j k j k (Bh j k aA) aw,?_⟩
  rcases cX.E8 (av:=av) (Bh j k aA) with e|e
  ·rw [e];exact aC
  ·exact .inr e
 obtain ⟨o,R⟩:=h.toil.LU cX h.hb AP h.low h.mlt h.ny (fun r k I b m _ ak ah=>h.own r k I b m ak ah)
  (fun b aJ=>⟨aJ.1,aJ.2.1,fun aL=>aJ.2.2 (hl b aL)⟩)
  (fun r k I b m ak _ ap ah=>by
    have bi:=h.obj r k I ak
    rw [ah] at bi
    obtain ⟨c,eB,aw,-⟩:=bi
    refine ⟨(Array.getElem?_eq_some_iff.1 aw).1,?_,fun aL=> ?_⟩
    ·rcases h.own r k I b m ak ah with e|e
     ·exact .inr (.inl e)
     ·exact .inr (.inr e)
    ·obtain ⟨eC,dI,b5,a4,f1,f2,f3,⟨LV,qD,f4⟩⟩:=cX.live b aL
     obtain ⟨rfl,rfl⟩:=h.inj r k I eC dI b5 b m a4 ak f1 ah f3
     exact ap LV qD f4)
 exact {toil:=o,env:=fun t=>R (ee t) (h.env t),defers:=h.defers,jQ:=h.jQ}
end
end Go.VL
namespace Go.VL
set_option linter.unusedVariables false
set_option linter.unusedSimpArgs false
open Go
def eV (T:List (List af)):S:={E:=fun _=> .dead,aR:=fun r=>T[r]?}
def aad (P:Program)(f:FuncId)(args:List ax)(T:List (List af))(r:ax)(jw:List (List af)):Prop :=
 ∀(g:G) (av:fj) (w:World) (vs:Array Value),g.mN=w→g.m=T.length→g.pw=(eV T).a0→g.rH=(eV T).ba av→il g (eV T) av w→vs.size=args.length →
  (∀(j:Nat) x v,args[j]? = some x→vs[j]? = some v→Rel w ((eV T).ok g av w) (eV T).a0 ((eV T).ba av) x v) →
  Calls P f vs w fun e bG=> ∃v bJ,e = .returned v∧il g (eV jw) bJ bG∧Rel bG ((eV jw).ok g bJ bG) (eV jw).a0 ((eV jw).ba bJ) r v
inductive cf:ax→Prop
 | dead:cf .dead
 | b (x:Bool):cf (.b x)
 | n (k:IntKind) (x:Int):cf (.n k x)
 | s (x:ByteArray):cf (.s x)
 | ik:cf .ik
 | ex:cf .ex
 | iQ:cf .iQ
 | kh (sz:Nat):cf (.isl sz [])
 | ref (r k i off:Nat):cf (.ref r k i off)
 | bF (r k bV len:Nat):cf (.bF r k bV len)
 | iR (r c sz:Nat) (h:Option (Nat×Nat)):cf (.iR r c sz h)
 | agg {c:List ax} (h : ∀x∈c,cf x):cf (.agg c)
 | dB {c:List ax} (h : ∀x∈c,cf x):cf (.dB c)
theorem aae:Down cf:=⟨fun _ _ h aa=>by cases h with|agg h=>exact h _ aa,fun _ _ h aa=>by cases h with|dB h=>exact h _ aa,fun _ _ _ h=>by cases h⟩
theorem Rel.dD {w bG:World}{ok kU:Nat→Prop}{a0 m3:jg}{ba my:i3}{x:ax}(bW:cf x): ∀ {v:Value},Pure x→Rel w ok a0 ba x v→Rel bG kU m3 my x v:=by
 induction bW with
 | dead=>intro v _ h;exact .dead v
 | b x=>intro v _ h;rw [h.tZ];exact .b x
 | n k x=>intro v _ h;rw [h.oz];exact .n k x
 | s x=>intro v _ h;rw [h.yu];exact .s x
 | ik=>intro v _ h;rw [h.vf];exact .ik
 | ex=>intro v _ h;rw [h.qb];exact .ex
 | iQ=>intro v _ h;obtain ⟨a,c,rfl⟩:=h.Eb;exact .iQ a c
 | kh sz =>
  intro v _ h
  rcases h.sQ with ⟨-,a,c,rfl,bt⟩|⟨d2,off,c,-,rfl,-⟩
  ·exact .kh sz a c bt
  ·exact .kh sz _ c (fun h=>by simp at h)
 | ref=>intro v ah;cases ah
 | bF=>intro v ah;cases ah
 | iR=>intro v ah;cases ah
 | @agg c aP ih =>
  intro v ah h
  obtain ⟨vs,rfl,o,R,ad⟩:=h.x7
  cases ah with
  | agg ah=>exact .agg vs o R fun j x u aa hu=>ih x (List.mem_of_getElem? aa) (ah x (List.mem_of_getElem? aa)) (ad j x u aa hu)
 | @dB c aP ih =>
  intro v ah h
  obtain ⟨vs,rfl,o,ad⟩:=h.x8
  cases ah with
  | dB ah=>exact .dB vs o fun j x u aa hu=>ih x (List.mem_of_getElem? aa) (ah x (List.mem_of_getElem? aa)) (ad j x u aa hu)
section
variable {P:Program} {g:G} {s:S} {av:fj} {a:Act} {w:World}
theorem AE (h:il g s av w){r k b m:Nat}{I:af}(ak:s.aj r k=some I)(ah:av r k=some (b,m)):b<w.heap.size:=by
 have:=h.obj r k I ak
 rw [ah] at this
 obtain ⟨c,eB,e,-⟩:=this
 exact (Array.getElem?_eq_some_iff.1 e).1
theorem Zn (h:il g s av w){r k b m:Nat}{I:af}(ak:s.aj r k=some I)(aX:I.cn = .iC)(ah:av r k=some (b,m)):s.ok g av w b:=by
 refine ⟨AE h ak ah,?_,?_⟩
 ·rcases h.own r k I b m ak ah with e|e
  ·exact .inr (.inl e)
  ·exact .inr (.inr e)
 ·rintro ⟨eC,dI,b5,a4,o,R,ad⟩
  obtain ⟨rfl,rfl⟩:=h.inj r k I eC dI b5 b m a4 ak o ah ad
  rw [ak] at o;simp at o;subst o;rw [aX] at R;simp at R
theorem enter (h:il g s av w){aQ:gI}{bS:f7→Bool}{q:ax→Prop}{T:List (List af)}(A:Nat→Prop)
 (hA : ∀b,A b→b<w.heap.size) (KV : ∀b,s.ok g av w b→A b)
 (KW : ∀r k I b m,s.aj r k=some I→bS I.cn=true→av r k=some (b,m)→A b)
 (cX:qu s aQ bS q (eV T).aR) (qh : ∀r k I,(∃j i,aQ j i=some (r,k))→s.aj r k=some I→I.cn = .live) :
 ∃fU:G,fU.mN=w∧fU.A=A∧fU.m=T.length∧fU.pw=(eV T).a0∧fU.rH=(eV T).ba (jS av aQ) ∧
  (fU.p2=fun b=> ∃r k I m,(∃j i,aQ j i=some (r,k))∧s.aj r k=some I∧av r k=some (b,m))∧il fU (eV T) (jS av aQ) w ∧
  ∀ {x cF:ax} {v:Value},hM s aQ bS q x cF→Rel w (s.ok g av w) s.a0 (s.ba av) x v→Rel w ((eV T).ok fU (jS av aQ) w) (eV T).a0 ((eV T).ba (jS av aQ)) cF v:=by
 let fU:G:={mN:=w,A:=A,p2:=fun b=> ∃r k I m,(∃j i,aQ j i=some (r,k))∧s.aj r k=some I∧av r k=some (b,m),N:=0,m:=T.length,pw:=(eV T).a0,rH:=(eV T).ba (jS av aQ)}
 refine ⟨fU,rfl,rfl,rfl,rfl,rfl,rfl,?_⟩
 have hl : ∀b,(eV T).l0 (jS av aQ) b→ ∃r k I m,s.aj r k=some I∧I.cn = .live∧av r k=some (b,m)∧ ∃j i,aQ j i=some (r,k):=fun b aL=>cX.live b aL
 refine il.LU (bL:=eV T) (fU:=fU) h cX ⟨rfl,rfl,rfl,Nat.le_refl _,fun _ _ _=>rfl⟩ (fun j k aA=>⟨aA,.inl rfl⟩) ?_ ?_ hA ?_ ?_ ?_
 ·intro j k aA
  have aA:k<((T[j]?).getD []).length:=aA
  rcases Nat.lt_or_ge j T.length with o|o
  ·exact o
  ·rw [List.getElem?_eq_none o] at aA;simp at aA
 ·rintro b ⟨r,k,I,m,-,ak,ah⟩
  exact AE h ak ah
 ·intro r k I b m hm ak ah
  exact .inr ⟨r,k,I,m,hm,ak,ah⟩
 ·intro b aJ
  refine ⟨aJ.1,.inl (KV b aJ),fun aL=> ?_⟩
  obtain ⟨r,k,I,m,o,R,ad,-⟩:=hl b aL
  exact aJ.2.2 ⟨r,k,I,m,o,R,ad⟩
 ·intro r k I b m ak bt ap ah
  refine ⟨AE h ak ah,.inl (KW r k I b m ak bt ah),fun aL=> ?_⟩
  obtain ⟨eC,dI,b5,a4,o,R,ad,⟨j,i,aA⟩⟩:=hl b aL
  obtain ⟨rfl,rfl⟩:=h.inj r k I eC dI b5 b m a4 ak o ah ad
  exact ap j i aA
theorem leave (h:cI g s av a w){bG:World}{aQ kN:gI}{bS:f7→Bool}{q0 q:ax→Prop}{fU:G}{T d4:List (List af)}{k0:fj}
 (dN:fU.mN=w) (hA:(∀b,fU.A b→s.ok g av w b)∨(∀x,q x→cf x)) (vL:fU.pw=(eV T).a0) (ls:fU.rH=(eV T).ba (jS av aQ))
 (dq:fU.p2=fun b=> ∃r k I m,(∃j i,aQ j i=some (r,k))∧s.aj r k=some I∧av r k=some (b,m))
 (qh : ∀r k I,(∃j i,aQ j i=some (r,k))→s.aj r k=some I→I.cn = .live)
 (cX:qu s aQ bS q0 (eV T).aR) (o:il fU (eV d4) k0 bG)
 (AQ : ∀j i r k,aQ j i=some (r,k)→kN r k=some (j,i)) (EP : ∀r k j i,kN r k=some (j,i)→aQ j i=some (r,k)∨ ¬s.a0 r k)
 (aaN : ∀r k eC dI p,kN r k=some p→kN eC dI=some p→r=eC∧k=dI)
 {s2:S} (ee:s2.E=s.E)
 (bi : ∀r k I,s2.aj r k=some I→(∃j i p,kN r k=some (j,i)∧(eV d4).aj j i=some p∧oM (eV d4) kN (fun _=>false) q p I)∨(kN r k=none∧s.aj r k=some I))
 (jr : ∀r k,s.a0 r k→s2.a0 r k) (aaO : ∀r k j i,kN r k=some (j,i)→(eV d4).a0 j i→s2.a0 r k)
 {x cF:ax} {v:Value} (aa:hM (eV d4) kN (fun _=>false) q x cF) (a2:Rel bG ((eV d4).ok fU k0 bG) (eV d4).a0 ((eV d4).ba k0) x v) :
 ∃lD,cI g s2 lD a bG∧Rel bG (s2.ok g lD bG) s2.a0 (s2.ba lD) cF v:=by
 let lD:fj:=fun r k=>match kN r k with|some (j,i)=>k0 j i|none=>av r k
 have hf : ∀r k j i,kN r k=some (j,i)→lD r k=k0 j i:=fun r k j i e=>by simp [lD,e]
 have iI : ∀r k,kN r k=none→lD r k=av r k:=fun r k e=>by simp [lD,e]
 have aX:=o.hb
 have eS:w.heap.size≤bG.heap.size:=by have:=aX.size;rw [dN] at this;exact this
 have s7 : ∀b,b<w.heap.size→ ¬fU.p2 b→bG.heap[b]? = w.heap[b]? := fun b aJ kV=>by
  have:=aX.block b (by rw [dN];exact aJ) kV
  rw [dN] at this;exact this
 have E9 : ∀j k p b m,(eV d4).aj j k=some p→k0 j k=some (b,m)→w.heap.size≤b∨ ∃r dI I a4,(∃j i,aQ j i=some (r,dI))∧s.aj r dI=some I∧av r dI=some (b,a4):=by
  intro j k p b m ah aJ
  rcases o.own j k p b m ah aJ with e|e
  ·rw [dN] at e;exact .inl e
  ·rw [dq] at e;exact .inr e
 have hold : ∀q k I b m,kN q k=none→s.aj q k=some I→av q k=some (b,m)→b<w.heap.size∧ ¬fU.p2 b:=by
  intro q k I b m a6 ak ah
  refine ⟨AE h.toil ak ah,fun kV=> ?_⟩
  rw [dq] at kV
  obtain ⟨r,dI,b5,a4,⟨j,i,ap⟩,dR,l8⟩:=kV
  obtain ⟨rfl,rfl⟩:=h.inj q k I r dI b5 b m a4 ak dR ah l8
  rw [AQ _ _ _ _ ap] at a6;simp at a6
 have PY : ∀b,s2.l0 lD b→(eV d4).l0 k0 b∨(∃q k I m,kN q k=none∧s.aj q k=some I∧I.cn = .live∧av q k=some (b,m)):=by
  rintro b ⟨q,k,I,m,ak,n7,ah⟩
  rcases bi q k I ak with ⟨j,i,p,aw,aC,b1⟩|⟨aw,aC⟩
  ·rw [hf _ _ _ _ aw] at ah
   exact .inl ⟨j,i,p,m,aC,Pr b1 n7,ah⟩
  ·rw [iI _ _ aw] at ah
   exact .inr ⟨q,k,I,m,aw,aC,n7,ah⟩
 have m4 : ∀b,s.ok g av w b→s2.ok g lD bG b:=by
  intro b aJ
  refine ⟨Nat.lt_of_lt_of_le aJ.1 eS,aJ.2.1,fun aL=> ?_⟩
  rcases PY b aL with ⟨j,k,p,m,aw,aC,b1⟩|⟨q,k,I,m,aw,aC,b1,dn⟩
  ·rcases E9 j k p b m aw b1 with e|⟨r,dI,I,a4,ap,ak,ah⟩
   ·have:=aJ.1;omega
   ·exact aJ.2.2 ⟨r,dI,I,a4,ak,qh r dI I ap ak,ah⟩
  ·exact aJ.2.2 ⟨q,k,I,m,aC,b1,dn⟩
 have QU : ∀r k,s.a0 r k→s2.ba lD r k=s.ba av r k∨s2.ba lD r k=none:=by
  intro r k ap
  cases ak:s2.aj r k with
  | none=>right;simp [S.ba,ak]
  | some I =>
   left
   rcases bi r k I ak with ⟨j,i,p,aw,aC,b1⟩|⟨aw,aC⟩
   ·rcases EP r k j i aw with aA|aA
    ·have mz:=(o.stay j i (by rw [vL];exact cX.a0 _ _ _ _ aA ap)).2
     rw [ls,ig aC] at mz
     have mz:some (p.sz,k0 j i)=(eV T).ba (jS av aQ) j i:=by
      rcases mz with e|e
      ·exact e
      ·simp at e
     have:=cX.E8 (bL:=eV T) (av:=av) aA
     rw [← mz] at this
     rw [ig ak,b1.sz,hf _ _ _ _ aw]
     rcases this with e|e
     ·exact e
     ·simp at e
    ·exact absurd ap aA
   ·rw [ig ak,ig aC,iI _ _ aw]
 have aaf : ∀b,s.ok g av w b→bG.heap[b]? = w.heap[b]? := by
  intro b aJ
  refine s7 b aJ.1 fun kV=> ?_
  rw [dq] at kV
  obtain ⟨r,dI,I,a4,ap,ak,ah⟩:=kV
  exact aJ.2.2 ⟨r,dI,I,a4,ak,qh r dI I ap ak,ah⟩
 have fc : ∀ {y:ax} {u:Value},Rel w (s.ok g av w) s.a0 (s.ba av) y u→Rel bG (s2.ok g lD bG) s2.a0 (s2.ba lD) y u :=
  fun ap=>ap.mono m4 aaf jr QU
 have aaP:(∀b,fU.A b→s.ok g av w b)→ ∀b,(eV d4).ok fU k0 bG b→s2.ok g lD bG b:=by
  intro hA b aJ
  have Kq:g.A b∨g.mN.heap.size≤b∨g.p2 b:=by
   rcases aJ.2.1 with e|e|e
   ·exact (hA b e).2.1
   ·rw [dN] at e;exact .inr (.inl (Nat.le_trans h.hb.size e))
   ·rw [dq] at e
    obtain ⟨r,k,I,m,-,ak,ah⟩:=e
    rcases h.own r k I b m ak ah with e|e
    ·exact .inr (.inl e)
    ·exact .inr (.inr e)
  refine ⟨aJ.1,Kq,fun aL=> ?_⟩
  rcases PY b aL with e|⟨q,k,I,m,aw,aC,b1,dn⟩
  ·exact aJ.2.2 e
  ·have a6:=hold q k I b m aw aC dn
   rcases aJ.2.1 with e|e|e
   ·exact (hA b e).2.2 ⟨q,k,I,m,aC,b1,dn⟩
   ·rw [dN] at e;omega
   ·exact a6.2 e
 have Qw : ∀ {y mg:ax} {u:Value},hM (eV d4) kN (fun _=>false) q y mg→Rel bG ((eV d4).ok fU k0 bG) (eV d4).a0 ((eV d4).ba k0) y u→Rel bG (s2.ok g lD bG) s2.a0 (s2.ba lD) mg u:=by
  intro y mg u bW ap
  refine bW.rel o (fun x v a6 ah ap=> ?_) (fun _ _ _ _ _ _ bt _ _=>by simp at bt) ?_ ap
  ·rcases hA with hA|hA
   ·exact ap.pure ah (aaP hA)
   ·exact ap.dD (hA x a6) ah
  ·intro r k j i a6 aA
   refine ⟨aaO r k j i a6 aA,?_⟩
   cases ak:s2.aj r k with
   | none=>right;simp [S.ba,ak]
   | some I =>
    left
    rcases bi r k I ak with ⟨h2,fx,p,aw,aC,b1⟩|⟨aw,-⟩
    ·rw [a6] at aw;simp only [Option.some.injEq,Prod.mk.injEq] at aw
     obtain ⟨rfl,rfl⟩:=aw
     rw [ig ak,ig aC,b1.sz,hf _ _ _ _ a6]
    ·rw [a6] at aw;simp at aw
 refine ⟨lD,{toil:=⟨?_,?_,?_,?_,h.mlt,h.ny,?_,h.low⟩,env:=fun t=>by rw [ee];exact fc (h.env t),defers:=h.defers,jQ:=h.jQ},Qw aa a2⟩
 ·intro q k I ak
  rcases bi q k I ak with ⟨j,i,p,aw,aC,b1⟩|⟨aw,aC⟩
  ·have ah:=o.obj j i p aC
   rw [hf _ _ _ _ aw]
   cases kt:k0 j i with
   | none =>
    rw [kt] at ah
    simp only [ja] at ah ⊢
    apply List.length_eq_zero_iff.1
    rw [b1.len,ah];rfl
   | some ty =>
    obtain ⟨b,m⟩:=ty
    rw [kt] at ah
    obtain ⟨c,eB,f1,f2,f3,f4⟩:=ah
    have jR:I.es.flatten.length=p.es.flatten.length:=by rw [r4 _ b1.each,r4 _ f3,b1.len]
    refine ⟨c,eB,f1,f2,by rw [b1.sz];exact b1.each,fun i cF dH=> ?_⟩
    have dC:i<p.es.flatten.length:=by rw [← jR];exact fE dH
    have iZ:=List.getElem?_eq_getElem dC
    obtain ⟨u,j3,mP,gW⟩:=f4 i _ iZ
    exact ⟨u,j3,mP,Qw (b1.at_ i _ cF iZ dH) gW⟩
  ·have ah:=h.obj q k I aC
   rw [iI _ _ aw]
   cases kt:av q k with
   | none=>rw [kt] at ah;exact ah
   | some ty =>
    obtain ⟨b,m⟩:=ty
    rw [kt] at ah
    obtain ⟨c,eB,f1,f2,f3,f4⟩:=ah
    obtain ⟨uu,KX⟩:=hold q k I b m aw aC kt
    refine ⟨c,eB,(s7 b uu KX).trans f1,f2,f3,fun i cF dH=> ?_⟩
    obtain ⟨u,j3,mP,gW⟩:=f4 i cF dH
    exact ⟨u,j3,mP,fc gW⟩
 ·intro q k I hs dI b5 b m a4 R ad aD aM
  rcases bi q k I R with ⟨j,i,p,aw,aC,b1⟩|⟨aw,aC⟩<;>rcases bi hs dI b5 ad with ⟨h2,fx,km,na,pV,Bx⟩|⟨na,pV⟩
  ·rw [hf _ _ _ _ aw] at aD;rw [hf _ _ _ _ na] at aM
   obtain ⟨rfl,rfl⟩:=o.inj j i p h2 fx km b m a4 aC pV aD aM
   exact aaN _ _ _ _ _ aw na
  ·rw [hf _ _ _ _ aw] at aD;rw [iI _ _ na] at aM
   obtain ⟨f1,f2⟩:=hold hs dI b5 b a4 na pV aM
   rcases E9 j i p b m aC aD with e|e
   ·omega
   ·exact absurd (by rw [dq];exact e) f2
  ·rw [iI _ _ aw] at aD;rw [hf _ _ _ _ na] at aM
   obtain ⟨f1,f2⟩:=hold q k I b m aw aC aD
   rcases E9 h2 fx km b a4 pV aM with e|e
   ·omega
   ·exact absurd (by rw [dq];exact e) f2
  ·rw [iI _ _ aw] at aD;rw [iI _ _ na] at aM
   exact h.inj q k I hs dI b5 b m a4 aC pV aD aM
 ·intro q k I b m R aD
  rcases bi q k I R with ⟨j,i,p,aw,aC,b1⟩|⟨aw,aC⟩
  ·rw [hf _ _ _ _ aw] at aD
   rcases E9 j i p b m aC aD with e|⟨r,dI,b5,a4,ap,ak,ah⟩
   ·exact .inl (Nat.le_trans h.hb.size e)
   ·exact h.own r dI b5 b a4 ak ah
  ·rw [iI _ _ aw] at aD;exact h.own q k I b m aC aD
 ·have aw:=aX.os;have aC:=aX.tape;have b1:=aX.output
  rw [dN] at aw aC b1
  refine h.hb.step aw aC b1 eS fun b aJ n8=>s7 b (Nat.lt_of_lt_of_le aJ h.hb.size) fun kV=> ?_
  rw [dq] at kV
  obtain ⟨r,k,I,m,-,ak,ah⟩:=kV
  rcases h.own r k I b m ak ah with e|e
  ·omega
  ·exact n8 e
 ·intro j k aA
  obtain ⟨aw,aC⟩:=h.stay j k aA
  refine ⟨jr j k aw,?_⟩
  rcases QU j k aw with e|e
  ·rw [e];exact aC
  ·exact .inr e
def kK (a b n:Nat):ax→ax
 | .ref r k i off=>if r=a then .ref b (n+k) i off else .ref r k i off
 | .bF r k bV len=>if r=a then .bF b (n+k) bV len else .bF r k bV len
 | .iR r c sz h=>if r=a then .iR b (n+c) sz h else .iR r c sz h
 | .agg c=> .agg (yU c)
 | .dB c=> .dB (yU c)
 | x=>x
where yU:List ax→List ax
 | []=>[]
 | x::l=>kK a b n x::yU l
def mB (a b n:Nat)(I:af):af:={I with es:=I.es.map fun e=>e.map (kK a b n)}
def rz (I:af):af:=⟨0,[],.gone⟩
theorem Ep (a b n:Nat): ∀l:List ax,kK.yU a b n l=l.map (kK a b n)
 | []=>rfl
 | x::l=>by rw [kK.yU,Ep a b n l];rfl
theorem kr (l:List af)(k:Nat):dk (some l) k=(l[k]?).bind fun I=>if I.cn = .gone then none else some I:=by
 unfold dk
 cases h:l[k]? <;> simp [h]
theorem map_flatten {es:List (List ax)}(f:ax→ax):(es.map fun e=>e.map f).flatten=es.flatten.map f:=by
 induction es with
 | nil=>rfl
 | cons e es ih=>rw [List.map_cons,List.flatten_cons,List.flatten_cons,List.map_append,ih]
theorem cI.merge (h:cI g s av a w){r eC:Nat}{l gl:List af}(ap:s.aR r=some l)(hC:s.aR eC=some gl)(cu:eC≠r):
 ∃bJ,cI g ((s.setRow eC (gl.map rz)).setRow r (l++gl.map (mB eC r l.length))) bJ a w ∧
  ∀x v,Rel w (s.ok g av w) s.a0 (s.ba av) x v→Rel w (((s.setRow eC (gl.map rz)).setRow r (l++gl.map (mB eC r l.length))).ok g bJ w)
   ((s.setRow eC (gl.map rz)).setRow r (l++gl.map (mB eC r l.length))).a0 (((s.setRow eC (gl.map rz)).setRow r (l++gl.map (mB eC r l.length))).ba bJ) (kK eC r l.length x) v:=by
 generalize vM:(s.setRow eC (gl.map rz)).setRow r (l++gl.map (mB eC r l.length))=s2
 let bJ:fj:=fun q k=>if q=r∧l.length≤k then av eC (k-l.length) else av q k
 have bi : ∀q k I,s2.aj q k=some I→(q=r∧l.length≤k∧ ∃p,s.aj eC (k-l.length)=some p∧I=mB eC r l.length p∧bJ q k=av eC (k-l.length)) ∨
  (q≠eC∧s.aj q k=some I∧bJ q k=av q k∧ ¬(q=r∧l.length≤k)):=by
  intro q k I ak
  subst vM
  rw [lK] at ak
  by_cases e:q=r
  ·subst e
   rw [if_pos rfl] at ak
   by_cases aX:l.length≤k
   ·left
    refine ⟨rfl,aX,?_⟩
    rw [kr,List.getElem?_append_right aX,List.getElem?_map] at ak
    cases ah:gl[k-l.length]? with
    | none=>rw [ah] at ak;simp at ak
    | some p =>
     rw [ah] at ak
     simp only [Option.map_some,Option.bind_some] at ak
     split at ak
     ·simp at ak
     ·rename_i dN
      simp only [Option.some.injEq] at ak
      refine ⟨p,?_,ak.symm,by simp [bJ,aX]⟩
      unfold S.aj
      rw [hC,kr,ah,Option.bind_some,if_neg (by simpa [mB] using dN)]
   ·right
    refine ⟨Ne.symm cu,?_,by simp [bJ,aX],fun fQ=>aX fQ.2⟩
    unfold S.aj
    rw [ap,kr]
    rw [kr,List.getElem?_append_left (by omega)] at ak
    exact ak
  ·rw [if_neg e,lK] at ak
   by_cases aC:q=eC
   ·subst aC
    rw [if_pos rfl,kr,List.getElem?_map] at ak
    cases ah:gl[k]? with
    | none=>rw [ah] at ak;simp at ak
    | some p=>rw [ah] at ak;simp [rz] at ak
   ·rw [if_neg aC] at ak
    exact .inr ⟨aC,ak,by simp [bJ,e],fun fQ=>e fQ.1⟩
 have jr : ∀q k,s.a0 q k→s2.a0 q k:=by
  intro q k a6
  subst vM
  rw [nr]
  by_cases e:q=r
  ·subst e;rw [if_pos rfl];simp [S.a0,ap] at a6;simp;omega
  ·rw [if_neg e,nr]
   by_cases aC:q=eC
   ·subst aC;rw [if_pos rfl];simpa [S.a0,hC] using a6
   ·rw [if_neg aC];exact a6
 have Bi : ∀k,s.a0 eC k→s2.a0 r (l.length+k):=by
  intro k a6
  subst vM
  rw [nr,if_pos rfl]
  simp [S.a0,hC] at a6
  simp;omega
 have Bj : ∀k,s2.ba bJ r (l.length+k)=s.ba av eC k:=by
  intro k
  subst vM
  simp only [S.ba]
  rw [lK,if_pos rfl]
  unfold S.aj
  rw [hC,kr,kr,List.getElem?_append_right (by omega),List.getElem?_map,show l.length+k-l.length=k by omega]
  cases ah:gl[k]? with
  | none=>simp
  | some p =>
   simp only [Option.map_some,Option.bind_some]
   by_cases dN:p.cn = .gone
   ·rw [if_pos dN,if_pos (by simpa [mB] using dN)];rfl
   ·rw [if_neg dN,if_neg (by simpa [mB] using dN)]
    simp [bJ,mB]
 have ls : ∀q k,s.a0 q k→s2.ba bJ q k=s.ba av q k∨s2.ba bJ q k=none:=by
  intro q k a6
  cases ak:s2.aj q k with
  | none=>right;simp [S.ba,ak]
  | some I =>
   left
   rcases bi q k I ak with ⟨rfl,aC,-⟩|⟨-,aC,b1,-⟩
   ·simp [S.a0,ap] at a6;omega
   ·rw [ig ak,ig aC,b1]
 have qh : ∀b,s2.l0 bJ b→s.l0 av b:=by
  rintro b ⟨q,k,I,m,o,R,ad⟩
  rcases bi q k I o with ⟨-,-,p,aw,aC,b1⟩|⟨-,aw,aC,-⟩
  ·rw [b1] at ad;subst aC;exact ⟨eC,_,p,m,aw,R,ad⟩
  ·rw [aC] at ad;exact ⟨q,k,I,m,aw,R,ad⟩
 have c5:Step g s av w s2 bJ w:=⟨jr,ls,fun b aL=> .inl (qh b aL),fun _ _ _=>rfl,Nat.le_refl _⟩
 have BC : ∀x v,Rel w (s.ok g av w) s.a0 (s.ba av) x v→Rel w (s2.ok g bJ w) s2.a0 (s2.ba bJ) (kK eC r l.length x) v:=by
  intro x v lv
  induction lv with
  | dead v=>exact .dead v
  | b x=>exact .b x
  | n k x=>exact .n k x
  | s x=>exact .s x
  | ik=>exact .ik
  | ex=>exact .ex
  | iQ a c=>exact .iQ a c
  | @qd an k i off a hu fQ =>
   unfold kK
   split
   ·rename_i e;subst e
    exact .qd a (Bi k hu) (by rw [Bj];exact fQ)
   ·exact c5.rel (.qd a hu fQ)
  | @ref an k i off sz d2 m hu fQ =>
   unfold kK
   split
   ·rename_i e;subst e
    exact .ref (Bi k hu) (by rw [Bj];exact fQ)
   ·exact c5.rel (.ref hu fQ)
  | @ns an k bV len a bE cU hu fQ =>
   unfold kK
   split
   ·rename_i e;subst e
    exact .ns a bE cU (Bi k hu) (by rw [Bj];exact fQ)
   ·exact c5.rel (.ns a bE cU hu fQ)
  | @nP an k sz hu fQ =>
   unfold kK
   split
   ·rename_i e;subst e
    exact .nP (Bi k hu) (by rw [Bj];exact fQ)
   ·exact c5.rel (.nP hu fQ)
  | @bF an k bV len sz d2 m c a hu fQ aL aP m7 =>
   unfold kK
   split
   ·rename_i e;subst e
    exact .bF (Bi k hu) (by rw [Bj];exact fQ) aL aP m7
   ·exact c5.rel (.bF hu fQ aL aP m7)
  | @mX an c sz v h0 ih =>
   unfold kK
   split
   ·exact .mX (c5.rel h0)
   ·exact c5.rel (.mX h0)
  | @nY an c sz k n v h0 ih =>
   unfold kK
   split
   ·rename_i e;subst e
    unfold kK at ih
    rw [if_pos rfl] at ih
    exact .nY (by rw [show k+(l.length+c)=l.length+(k+c) by omega];exact ih)
   ·exact c5.rel (.nY h0)
  | kh sz a c h=>exact .kh sz a c h
  | isl cs aJ ah aL aP hw hr lv ih=>exact c5.rel (.isl cs aJ ah aL aP hw hr lv)
  | eu cs aJ ah aL hw hr lv ih=>exact c5.rel (.eu cs aJ ah aL hw hr lv)
  | pQ sz=>exact .pQ sz
  | pp h0 ih=>exact c5.rel (.pp h0)
  | agg vs aL hr lv ih =>
   unfold kK
   rw [Ep]
   refine .agg vs (by simpa using aL) hr fun j x v aa a2=> ?_
   rw [List.getElem?_map,Option.map_eq_some_iff] at aa
   obtain ⟨y,aK,rfl⟩:=aa
   exact ih j y v aK a2
  | dB vs aL lv ih =>
   unfold kK
   rw [Ep]
   refine .dB vs (by simpa using aL) fun j x v aa a2=> ?_
   rw [List.getElem?_map,Option.map_eq_some_iff] at aa
   obtain ⟨y,aK,rfl⟩:=aa
   exact ih j y v aK a2
  | fn vs aL lv ih=>exact c5.rel (.fn vs aL lv)
 refine ⟨bJ,{toil:=⟨?_,?_,?_,h.hb,h.mlt,h.ny,?_,h.low⟩,env:=fun t=>by rw [show s2.E=s.E by rw [← vM];rfl];exact c5.rel (h.env t),defers:=h.defers,jQ:=h.jQ},BC⟩
 ·intro q k I ak
  rcases bi q k I ak with ⟨-,-,p,aw,aC,b1⟩|⟨-,aw,aC,-⟩
  ·rw [b1]
   subst aC
   have ah:=h.obj eC _ p aw
   cases kt:av eC (k-l.length) with
   | none=>rw [kt] at ah;simp only [ja] at ah ⊢;simp [mB,ah]
   | some ty =>
    obtain ⟨b,m⟩:=ty
    rw [kt] at ah
    obtain ⟨c,eB,f1,f2,f3,f4⟩:=ah
    refine ⟨c,eB,f1,f2,?_,fun j x aa=> ?_⟩
    ·intro e he
     simp only [mB,List.mem_map] at he
     obtain ⟨eD,l6,rfl⟩:=he
     simpa [mB] using f3 eD l6
    ·simp only [mB] at aa
     rw [map_flatten,List.getElem?_map,Option.map_eq_some_iff] at aa
     obtain ⟨y,aK,rfl⟩:=aa
     obtain ⟨u,j3,mP,gW⟩:=f4 j y aK
     exact ⟨u,j3,mP,BC y u gW⟩
  ·rw [aC]
   exact c5.obj (fun b m _=>rfl) (h.obj q k I aw)
 ·intro q k I aW j8 b3 b m a4 o R ad aD
  rcases bi q k I o with ⟨rfl,f1,p,aw,aC,b1⟩|⟨f1,aw,aC,f2⟩<;>rcases bi aW j8 b3 R with ⟨rfl,yV,km,na,pV,Bx⟩|⟨yV,na,pV,aeM⟩
  ·rw [b1] at ad;rw [Bx] at aD
   obtain ⟨-,e⟩:=h.inj _ _ _ _ _ _ b m a4 aw na ad aD
   exact ⟨rfl,by omega⟩
  ·rw [b1] at ad;rw [pV] at aD
   obtain ⟨e,-⟩:=h.inj _ _ _ _ _ _ b m a4 aw na ad aD
   exact absurd e.symm yV
  ·rw [aC] at ad;rw [Bx] at aD
   obtain ⟨e,-⟩:=h.inj _ _ _ _ _ _ b m a4 aw na ad aD
   exact absurd e f1
  ·rw [aC] at ad;rw [pV] at aD
   exact h.inj _ _ _ _ _ _ b m a4 aw na ad aD
 ·intro q k I b m o R
  rcases bi q k I o with ⟨-,-,p,aw,aC,b1⟩|⟨-,aw,aC,-⟩
  ·rw [b1] at R;exact h.own eC _ p b m aw R
  ·rw [aC] at R;exact h.own q k I b m aw R
 ·exact c5.stay h.stay
end
end Go.VL
namespace Go.VL
set_option linter.unusedVariables false
set_option linter.unusedSimpArgs false
open Go
def ax.iy:ax→Bool
 | .dead | .b _ | .n .. | .s _ | .ik | .ex | .iQ | .isl .. | .eu .. | .eP .. => true
 | _=>false
def ax.AF:ax→Bool
 | .agg c=>c.all ax.iy
 | .fn _ c=>c.all ax.iy
 | x=>x.iy
def ax.Qx:ax→Bool
 | .dB c=>c.all ax.AF
 | x=>x.AF
section
variable {w:World} {ok:Nat→Prop} {a0:jg} {ba:i3}
theorem Rel.yv {x:ax}{v:Value}(h:Rel w ok a0 ba x v)(a1:x.iy=true):Pure x:=by
 cases h with
 | dead=>exact .dead
 | b=>exact .b _
 | n=>exact .n _ _
 | s=>exact .s _
 | ik=>exact .ik
 | ex=>exact .ex
 | iQ=>exact .iQ
 | kh=>exact .isl (by simp)
 | isl cs aJ ah=>exact .isl ah
 | eu cs aJ ah=>exact .eu ah
 | pQ sz=>exact .pQ sz
 | pp h=>cases h with|eu cs aJ ah=>exact .pp fun x aa=>ah _ (List.mem_singleton.2 rfl) x aa
 | _=>simp [ax.iy] at a1
theorem NO {c:List ax}{vs:List Value}(aL:vs.length=c.length)(ap:∀(j:Nat) x u,c[j]? = some x→vs[j]? = some u→Rel w ok a0 ba x u)
 (a1:c.all ax.iy=true) : ∀x∈c,Pure x:=by
 intro x aa
 obtain ⟨j,aA⟩:=List.getElem?_of_mem aa
 have dC:j<vs.length:=by have:=fE aA;omega
 exact (ap j x _ aA (List.getElem?_eq_getElem dC)).yv (List.all_eq_true.1 a1 x aa)
theorem Rel.EC {x:ax}{v:Value}(h:Rel w ok a0 ba x v)(a1:x.AF=true):Pure x:=by
 cases h with
 | agg vs aL aP ap=>exact .agg (NO aL ap a1)
 | fn vs aL ap=>exact .fn (NO aL ap a1)
 | dead=>exact .dead
 | b=>exact .b _
 | n=>exact .n _ _
 | s=>exact .s _
 | ik=>exact .ik
 | ex=>exact .ex
 | iQ=>exact .iQ
 | kh=>exact .isl (by simp)
 | isl cs aJ ah=>exact .isl ah
 | eu cs aJ ah=>exact .eu ah
 | pQ sz=>exact .pQ sz
 | pp h=>cases h with|eu cs aJ ah=>exact .pp fun x aa=>ah _ (List.mem_singleton.2 rfl) x aa
 | _=>simp [ax.AF,ax.iy] at a1
theorem Rel.aag {x:ax}{v:Value}(h:Rel w ok a0 ba x v)(a1:x.Qx=true):Pure x:=by
 by_cases cp : ∃c,x = .dB c
 ·obtain ⟨c,rfl⟩:=cp
  obtain ⟨vs,rfl,aL,ap⟩:=h.x8
  refine .dB fun x aa=> ?_
  obtain ⟨j,aA⟩:=List.getElem?_of_mem aa
  have dC:j<vs.length:=by have:=fE aA;omega
  exact (ap j x _ aA (List.getElem?_eq_getElem dC)).EC (List.all_eq_true.1 a1 x aa)
 ·refine h.EC ?_
  cases x<;>first|exact a1|exact absurd ⟨_,rfl⟩ cp
end
def c8:List Nat→Nat→Option Nat
 | [],_=>none
 | x::l,r=>if x=r then some 0 else (c8 l r).map (· + 1)
theorem NP : ∀ {l:List Nat} {r j:Nat},c8 l r=some j→l[j]? = some r
 | x::l,r,j,h=>by
  unfold c8 at h
  split at h
  ·simp at h;subst h;simp [*]
  ·rw [Option.map_eq_some_iff] at h
   obtain ⟨i,ag,rfl⟩:=h
   simpa using NP ag
theorem NQ : ∀ {l:List Nat} {r j:Nat},l.Nodup→l[j]? = some r→c8 l r=some j
 | x::l,r,j,a1,h=>by
  rw [List.nodup_cons] at a1
  unfold c8
  cases j with
  | zero=>simp at h;simp [h]
  | succ j =>
   simp at h
   have:x≠r:=by rintro rfl;exact a1.1 (List.mem_of_getElem? h)
   rw [if_neg this,NQ a1.2 h];rfl
def BD (ek:Nat)(j0:List af)(bS:f7→Bool)(x cF:ax):Prop :=
 (cF=x∧x.iy=true)∨(∃c sz,x = .iR ek c sz none∧cF = .isl sz [])∨ ∃k bV len I,(x = .bF ek k bV len∨ ∃c sz ji,k=ji+c∧bV=0∧x = .iR ek c sz (some (ji,len)))∧dk (some j0) k=some I∧bS I.cn=true∧bV+len≤I.es.length ∧
   gr ((I.es.drop bV).take len)∧cF = .isl I.sz ((I.es.drop bV).take len)
def Ch (ek:Nat)(j0:List af)(bS:f7→Bool)(sz:Nat)(es gk:List (List ax)):Prop :=
 gk.length=es.length∧(∀e∈gk,e.length=sz)∧ ∀(j:Nat) x cF,es.flatten[j]? = some x→gk.flatten[j]? = some cF→BD ek j0 bS x cF
def lN (aR:Nat→Option (List af))(b7:Nat→Option Nat)(aQ:gI)(bS:f7→Bool):tv→ax→Option (ax×List Prop)
 | .id,x=>if x.iy then some (x,[]) else
  match x with
  | .ref r k i off=>match b7 r with
   | some j=>some (.ref j k i off,[])
   | none=>none
  | .bF r k bV len=>match b7 r with
   | some j=>some (.bF j k bV len,[])
   | none=>none
  | .iR r c sz h=>match b7 r with
   | some j=>some (.iR j c sz h,[])
   | none=>none
  | _=>none
 | .lU sz,.ex=>some (.isl sz [],[])
 | .lU sz,.iQ=>some (.isl sz [],[])
 | .eU gk,.bF r k bV len=>match dk (aR r) k with
  | some I=>if bS I.cn && (b7 r).isNone then some (.isl I.sz gk,[gk=(I.es.drop bV).take len,bV+len≤I.es.length,gr gk]) else none
  | none=>none
 | .jv,_=>some (.dead,[])
 | .eg y,x=>if x.iy then some (y,[x=y]) else none
 | .len n,.bF r k bV len=>match b7 r with
  | some j=>some (.bF j k bV n,[len=n])
  | none=>none
 | .oR sz,x=>match x with
  | .ik=>some (.eP sz none,[])
  | .eu E5 [c] 0 0=>if E5=sz then some (.eP sz (some c),[]) else none
  | _=>none
 | .at_ j i n,.bF r k bV len=>some (.bF j i bV n,[aQ j i=some (r,k),len=n])
 | .at_ j i _,.ref r k x y=>some (.ref j i x y,[aQ j i=some (r,k)])
 | .view ek I gk,.bF r k bV len=>match aR r,aR ek with
  | some row,some j0=>if (b7 r).isNone && (b7 ek).isNone then
   some (.isl I.sz gk,[dk (some row) k=some I,bS I.cn=true,bV+len≤I.es.length,gr gk,Ch ek j0 bS I.sz ((I.es.drop bV).take len) gk]) else none
  | _,_=>none
 | _,_=>none
def lO {α β:Type}(f:α→β→Option (β×List Prop)):List α→List β→Option (List β×List Prop)
 | [],[]=>some ([],[])
 | a::l,b::m=>match f a b,lO f l m with
  | some (jT,b3),some (a4,a9)=>some (jT::a4,b3++a9)
  | _,_=>none
 | _,_=>none
def oA (aR:Nat→Option (List af))(b7:Nat→Option Nat)(aQ:gI)(bS:f7→Bool):zf→ax→Option (ax×List Prop)
 | .cx c,x=>if x.AF then (match c with | .id=>some (x,[]) | .jv=>some (.dead,[]) | .eg y=>some (y,[x=y])|c=>lN aR b7 aQ bS c x) else lN aR b7 aQ bS c x
 | .agg l,.agg c=>match lO (lN aR b7 aQ bS) l c with
  | some (dM,aj)=>some (.agg dM,aj)
  | none=>none
 | .ptr l,.ref r k i off=>match dk (aR r) k with
  | some I=>match I.es with
   | [c]=>if bS I.cn && (b7 r).isNone then
    match lO (lN aR b7 aQ bS) l c with
    | some (dM,aj)=>some (.eu I.sz [dM] i off,aj++[gr [dM]])
    | none=>none
    else none
   | _=>none
  | none=>none
 | .s8 l,x=>match x with
  | .ref r k 0 0=>match dk (aR r) k with
   | some I=>match I.es with
    | [c]=>if bS I.cn && (b7 r).isNone then
     match lO (lN aR b7 aQ bS) l c with
     | some (dM,aj)=>some (.eP I.sz (some dM),aj++[gr [dM]])
     | none=>none
     else none
    | _=>none
   | none=>none
  | _=>none
 | _,_=>none
def nT (aR:Nat→Option (List af))(b7:Nat→Option Nat)(aQ:gI)(bS:f7→Bool):lC→ax→Option (ax×List Prop)
 | .bE c,x=>if x.Qx then (match c with | .cx .id=>some (x,[])|c=>oA aR b7 aQ bS c x) else oA aR b7 aQ bS c x
 | .comp l,.dB c=>match lO (oA aR b7 aQ bS) l c with
  | some (dM,aj)=>some (.dB dM,aj)
  | none=>none
 | .comp l,.fn f c=>match lO (oA aR b7 aQ bS) l c with
  | some (dM,aj)=>some (.fn f dM,aj)
  | none=>none
 | _,_=>none
def tO (row:List af):Prop:= ∀I∈row,gr I.es∧I.cn = .live
def nv (row:List af):Prop:= ∀I∈row,I.cn = .live∨I.cn = .gone
def n9 (b7:Nat→Option Nat):ax→ax
 | .ref r k i off=>match b7 r with|some j=> .ref j k i off|none=> .dead
 | .bF r k bV len=>match b7 r with|some j=> .bF j k bV len|none=> .dead
 | .iR r c sz h=>match b7 r with|some j=> .iR j c sz h|none=> .dead
 | x=>if x.iy then x else .dead
def ku (b7:Nat→Option Nat)(I:af):af:={I with es:=I.es.map fun e=>e.map (n9 b7)}
def jb (aR:Nat→Option (List af))(b7:Nat→Option Nat)(aQ:gI)(bS:f7→Bool):iJ→List af→Option (List af×List Prop)
 | .pure,row=>some (row,[tO row])
 | .eg dV,row=>some (dV,[row=dV,tO dV])
 | .bD dV,row=>some (dV,[dV=row.map (ku b7),nv row])
 | .box l,[I]=>match I.es with
  | [c]=>if I.cn = .live then match lO (lN aR b7 aQ bS) l c with
   | some (dM,aj)=>some ([{I with es:=[dM]}],aj)
   | none=>none
   else none
  | _=>none
 | _,_=>none
structure tz (q:ax→Prop) (bS:f7→Bool):Prop extends Down q where
 all : ∀k,bS k=true→ ∀x,q x
theorem uv (bS:f7→Bool):tz l9 bS:={toDown:=aac,all:=fun _ _ _=>trivial}
theorem abz:tz cf (fun _=>false):={toDown:=aae,all:=fun _ h=>by simp at h}
structure mQ (s:S) (aQ:gI) (b7:Nat→Option Nat) (bS:f7→Bool):Prop where
 ag : ∀r j,b7 r=some j→ ∀k,aQ j k=some (r,k)
 a1 : ∀r,b7 r=none→ ∀k I,s.aj r k=some I→bS I.cn=true→ ∀j i,aQ j i≠some (r,k)
section
variable {g:G} {s:S} {av:fj} {w:World} {aQ:gI} {b7:Nat→Option Nat} {bS:f7→Bool} {q:ax→Prop}
theorem DW {α β:Type}(f:α→β→Option (β×List Prop)): ∀(l:List α) (m a4:List β) (aj:List Prop),lO f l m=some (a4,aj) →
 a4.length=m.length∧l.length=m.length∧ ∀(j:Nat) b jT,m[j]? = some b→a4[j]? = some jT→ ∃x b5,l[j]? = some x∧f x b=some (jT,b5)∧ ∀p∈b5,p∈aj
 | [],[],a4,aj,h=>by
  simp [lO] at h;obtain ⟨rfl,rfl⟩:=h
  exact ⟨rfl,rfl,fun j b jT aJ=>by simp at aJ⟩
 | [],_::_,_,_,h=>by simp [lO] at h
 | _::_,[],_,_,h=>by simp [lO] at h
 | x::l,b::m,a4,aj,h=>by
  simp only [lO] at h
  split at h
  ·rename_i jT b3 gB a9 o R
   simp only [Option.some.injEq,Prod.mk.injEq] at h
   obtain ⟨rfl,rfl⟩:=h
   obtain ⟨aw,aC,b1⟩:=DW f l m gB a9 R
   refine ⟨by simp [aw],by simp [aC],fun j c dM aP tg=> ?_⟩
   cases j with
   | zero =>
    simp at aP tg;subst aP;subst tg
    exact ⟨x,b3,rfl,o,fun p ah=>by simp [ah]⟩
   | succ j =>
    simp at aP tg
    obtain ⟨y,b5,f1,f2,f3⟩:=b1 j c dM aP tg
    exact ⟨y,b5,by simpa using f1,f2,fun p ah=>by simp [f3 p ah]⟩
  ·simp at h
theorem Jr (dq:il g s av w)(H:mQ s aQ b7 bS)(bh:tz q bS){c:tv}{x cF:ax}{aj:List Prop}(h:lN s.aR b7 aQ bS c x=some (cF,aj))(bi:∀p∈aj,p)
 (a6:q x) {v:Value} (ap:Rel w (s.ok g av w) s.a0 (s.ba av) x v):hM s aQ bS q x cF:=by
 have jr : ∀ {r k bV len:Nat},x = .bF r k bV len→s.a0 r k:=by
  intro r k bV len e;subst e;cases ap<;>assumption
 cases c with
 | id =>
  simp only [lN] at h
  split at h
  ·rename_i a1
   simp only [Option.some.injEq,Prod.mk.injEq] at h
   obtain ⟨rfl,rfl⟩:=h
   exact .pure (ap.yv a1) a6
  ·split at h
   ·rename_i r k i off _
    split at h
    ·rename_i j aA
     simp only [Option.some.injEq,Prod.mk.injEq] at h
     obtain ⟨rfl,rfl⟩:=h
     exact .ref i off (H.ag r j aA k) (by cases ap<;>assumption)
    ·simp at h
   ·rename_i r k bV len _
    split at h
    ·rename_i j aA
     simp only [Option.some.injEq,Prod.mk.injEq] at h
     obtain ⟨rfl,rfl⟩:=h
     exact .bF bV len (H.ag r j aA k) (jr rfl)
    ·simp at h
   ·rename_i r c sz fQ _
    split at h
    ·rename_i j aA
     simp only [Option.some.injEq,Prod.mk.injEq] at h
     obtain ⟨rfl,rfl⟩:=h
     exact .iR fQ (fun k=>H.ag r j aA _)
    ·simp at h
   ·simp at h
 | lU sz =>
  cases x<;>simp [lN] at h
  ·obtain ⟨rfl,rfl⟩:=h
   exact .ex sz
  ·obtain ⟨rfl,rfl⟩:=h
   exact .iQ sz
 | eU gk =>
  cases x<;>simp only [lN,reduceCtorEq] at h
  rename_i r k bV len
  split at h
  ·rename_i I ak
   split at h
   ·rename_i aP
    simp only [Bool.and_eq_true,Option.isNone_iff_eq_none] at aP
    simp only [Option.some.injEq,Prod.mk.injEq] at h
    obtain ⟨rfl,rfl⟩:=h
    have o:gk=(I.es.drop bV).take len:=bi _ (by simp)
    have R:bV+len≤I.es.length:=bi _ (by simp)
    have ad:gr gk:=bi _ (by simp)
    have dR:s.aj r k=some I:=ak
    have hlen : ∀e∈I.es,e.length=I.sz:=by
     have fw:=dq.obj r k I dR
     cases ah:av r k with
     | none=>rw [ah] at fw;simp only [ja] at fw;rw [fw];simp
     | some q=>rw [ah] at fw;obtain ⟨_,_,_,_,e,_⟩:=fw;exact e
    refine .isl dR aP.1 (H.a1 r aP.2 k I dR aP.1) R ad ?_ ?_ ?_
    ·rw [o];exact fun e he=>hlen e (List.mem_of_mem_drop (List.mem_of_mem_take he))
    ·rw [o];simp;omega
    ·intro j y mg aK oa
     rw [o] at oa
     rw [aK] at oa;simp at oa;subst oa
     rw [o] at ad
     obtain ⟨e,he,BE⟩:=sF aK
     exact .pure (ad e he y BE) (bh.all _ aP.1 y)
   ·simp at h
  ·simp at h
 | jv =>
  simp only [lN,Option.some.injEq,Prod.mk.injEq] at h
  obtain ⟨rfl,rfl⟩:=h
  exact .dead x
 | eg y =>
  simp only [lN] at h
  split at h
  ·rename_i a1
   simp only [Option.some.injEq,Prod.mk.injEq] at h
   obtain ⟨rfl,rfl⟩:=h
   have e:x=y:=bi _ (by simp)
   subst e
   exact .pure (ap.yv a1) a6
  ·simp at h
 | len n =>
  cases x<;>simp only [lN,reduceCtorEq] at h
  rename_i r k bV len
  split at h
  ·rename_i j aA
   simp only [Option.some.injEq,Prod.mk.injEq] at h
   obtain ⟨rfl,rfl⟩:=h
   have e:len=n:=bi _ (by simp)
   subst e
   exact .bF bV len (H.ag r j aA k) (jr rfl)
  ·simp at h
 | at_ j i n =>
  cases x<;>simp only [lN,reduceCtorEq] at h
  ·rename_i r k x y
   simp only [Option.some.injEq,Prod.mk.injEq] at h
   obtain ⟨rfl,rfl⟩:=h
   exact .ref x y (bi _ (List.mem_cons_self)) (by cases ap<;>assumption)
  ·rename_i r k bV len
   simp only [Option.some.injEq,Prod.mk.injEq] at h
   obtain ⟨rfl,rfl⟩:=h
   have e:len=n:=bi _ (by simp)
   subst e
   exact .bF bV len (bi _ (List.mem_cons_self)) (jr rfl)
 | view ek I gk =>
  cases x<;>simp only [lN,reduceCtorEq] at h
  rename_i r k bV len
  split at h
  ·rename_i row j0 dt aah
   split at h
   ·rename_i aP
    simp only [Bool.and_eq_true,Option.isNone_iff_eq_none] at aP
    simp only [Option.some.injEq,Prod.mk.injEq] at h
    obtain ⟨rfl,rfl⟩:=h
    have o:dk (some row) k=some I:=bi _ (by simp)
    have R:bS I.cn=true:=bi _ (by simp)
    have ad:bV+len≤I.es.length:=bi _ (by simp)
    have aD:gr gk:=bi _ (by simp)
    have aM:Ch ek j0 bS I.sz ((I.es.drop bV).take len) gk:=bi _ (by simp)
    have dR:s.aj r k=some I:=by unfold S.aj;rw [dt];exact o
    obtain ⟨qE,pF,Ci⟩:=aM
    refine .isl dR R (H.a1 r aP.1 k I dR R) ad aD pF (by rw [qE];simp;omega) fun j y mg aK oa=> ?_
    rcases Ci j y mg aK oa with ⟨rfl,a1⟩|⟨cU,Rk,rfl,rfl⟩|⟨jM,Fa,EQ,p,BF,aw,aC,b1,dn,rfl⟩
    ·obtain ⟨e,he,BE⟩:=sF oa
     exact .pure (aD e he mg BE) (bh.all _ R _)
    ·exact .mX _ _ _
    ·have l8:s.aj ek jM=some p:=by unfold S.aj;rw [aah];exact aw
     have hlen : ∀e∈p.es,e.length=p.sz:=by
      have fw:=dq.obj ek jM p l8
      cases ah:av ek jM with
      | none=>rw [ah] at fw;simp only [ja] at fw;rw [fw];simp
      | some q=>rw [ah] at fw;obtain ⟨_,_,_,_,e,_⟩:=fw;exact e
     have Qy:hM s aQ bS q (.bF ek jM Fa EQ) (.isl p.sz ((p.es.drop Fa).take EQ)):=by
      refine .isl l8 aC (H.a1 ek aP.2 jM p l8 aC) b1 dn (fun e he=>hlen e (List.mem_of_mem_drop (List.mem_of_mem_take he))) (by simp;omega) fun j z LW cd vN=> ?_
      rw [cd] at vN;simp at vN;subst vN
      obtain ⟨e,he,abA⟩:=sF cd
      exact .pure (dn e he z abA) (bh.all _ aC _)
     rcases BF with rfl|⟨cx,aeN,ji,rfl,rfl,rfl⟩
     ·exact Qy
     ·exact .nY Qy
   ·simp at h
  ·simp at h
 | oR sz =>
  simp only [lN] at h
  split at h
  ·simp only [Option.some.injEq,Prod.mk.injEq] at h
   obtain ⟨rfl,rfl⟩:=h
   exact .EB _
  ·split at h
   ·rename_i e;subst e
    simp only [Option.some.injEq,Prod.mk.injEq] at h
    obtain ⟨rfl,rfl⟩:=h
    exact .eP (.pure (ap.yv rfl) a6)
   ·simp at h
  ·simp at h
theorem Ag (dq:il g s av w)(H:mQ s aQ b7 bS)(bh:tz q bS){l:List tv}{c dM:List ax}{aj:List Prop}(h:lO (lN s.aR b7 aQ bS) l c=some (dM,aj))(bi:∀p∈aj,p)
 (a6 : ∀x∈c,q x) {vs:List Value} (aL:vs.length=c.length) (ap : ∀(j:Nat) x u,c[j]? = some x→vs[j]? = some u→Rel w (s.ok g av w) s.a0 (s.ba av) x u) :
 dM.length=c.length∧ ∀(j:Nat) x cF,c[j]? = some x→dM[j]? = some cF→hM s aQ bS q x cF:=by
 obtain ⟨aw,aC,b1⟩:=DW _ l c dM aj h
 refine ⟨aw,fun j x cF aa dH=> ?_⟩
 obtain ⟨y,b5,f1,f2,f3⟩:=b1 j x cF aa dH
 have dC:j<vs.length:=by have:=fE aa;omega
 exact Jr dq H bh f2 (fun p ah=>bi p (f3 p ah)) (a6 x (List.mem_of_getElem? aa)) (ap j x _ aa (List.getElem?_eq_getElem dC))
theorem Js (dq:il g s av w)(H:mQ s aQ b7 bS)(bh:tz q bS){c:zf}{x cF:ax}{aj:List Prop}(h:oA s.aR b7 aQ bS c x=some (cF,aj))(bi:∀p∈aj,p)
 (a6:q x) {v:Value} (ap:Rel w (s.ok g av w) s.a0 (s.ba av) x v):hM s aQ bS q x cF:=by
 cases c with
 | cx c =>
  simp only [oA] at h
  split at h
  ·rename_i a1
   split at h
   ·simp only [Option.some.injEq,Prod.mk.injEq] at h
    obtain ⟨rfl,rfl⟩:=h
    exact .pure (ap.EC a1) a6
   ·simp only [Option.some.injEq,Prod.mk.injEq] at h
    obtain ⟨rfl,rfl⟩:=h
    exact .dead _
   ·simp only [Option.some.injEq,Prod.mk.injEq] at h
    obtain ⟨rfl,rfl⟩:=h
    have e:=bi _ (List.mem_singleton.2 rfl)
    subst e
    exact .pure (ap.EC a1) a6
   ·exact Jr dq H bh h bi a6 ap
  ·exact Jr dq H bh h bi a6 ap
 | agg l =>
  cases x<;>simp only [oA,reduceCtorEq] at h
  rename_i c
  split at h
  ·rename_i dM nD aP
   simp only [Option.some.injEq,Prod.mk.injEq] at h
   obtain ⟨rfl,rfl⟩:=h
   obtain ⟨vs,rfl,aL,-,BG⟩:=ap.x7
   obtain ⟨aw,aC⟩:=Ag dq H bh aP bi (fun y aK=>bh.agg _ _ a6 aK) aL BG
   exact .agg aw aC
  ·simp at h
 | ptr l =>
  cases x<;>simp only [oA,reduceCtorEq] at h
  rename_i r k i off
  split at h
  ·rename_i I ak
   split at h
   ·rename_i c hB
    split at h
    ·rename_i aP
     simp only [Bool.and_eq_true,Option.isNone_iff_eq_none] at aP
     split at h
     ·rename_i dM nD hr
      simp only [Option.some.injEq,Prod.mk.injEq] at h
      obtain ⟨rfl,rfl⟩:=h
      have dR:s.aj r k=some I:=ak
      have fw:=dq.obj r k I dR
      cases ah:av r k with
      | none=>rw [ah] at fw;simp only [ja] at fw;rw [hB] at fw;simp at fw
      | some q =>
       obtain ⟨b,m⟩:=q
       rw [ah] at fw
       obtain ⟨ch,eB,g1,g2,g3,g4⟩:=fw
       have Kr:c.length=I.sz:=g3 c (by rw [hB];simp)
       have jR:I.es.flatten=c:=by rw [hB];simp
       have hcs : ∀j:Nat,j<c.length→ ∃u,ch[j]? = some u∧Rel w (s.ok g av w) s.a0 (s.ba av) c[j]! u:=by
        intro j aA
        obtain ⟨u,j3,-,gW⟩:=g4 j c[j] (by rw [jR];exact List.getElem?_eq_getElem aA)
        exact ⟨u,j3,by rw [getElem!_pos c j aA];exact gW⟩
       obtain ⟨aw,aC⟩:=Ag (vs:=(List.range c.length).map fun j=>(ch[j]?).getD undef) dq H bh hr (fun p ah=>bi p (by simp [ah])) (fun y _=>bh.all _ aP.1 y) (by simp) (by
        intro j y u aK hu
        have aA:=fE aK
        rw [List.getElem?_map,List.getElem?_range aA] at hu
        simp only [Option.map_some,Option.some.injEq] at hu
        obtain ⟨lg,j3,gW⟩:=hcs j aA
        rw [j3] at hu;simp at hu;subst hu
        rw [List.getElem?_eq_getElem aA] at aK;simp at aK;subst aK
        rw [getElem!_pos c j aA] at gW;exact gW)
       have sY:gr [dM]:=bi _ (by simp)
       refine .eu i off dR aP.1 (H.a1 r aP.2 k I dR aP.1) (by rw [hB];simp) sY (by simp;omega) (by rw [hB];rfl) ?_
       ·intro j y mg aK oa
        rw [jR] at aK
        simp only [List.flatten_cons,List.flatten_nil,List.append_nil] at oa
        exact aC j y mg aK oa
     ·simp at h
    ·simp at h
   ·simp at h
  ·simp at h
 | s8 l =>
  simp only [oA] at h
  split at h
  ·rename_i r k
   split at h
   ·rename_i I ak
    split at h
    ·rename_i c hB
     split at h
     ·rename_i aP
      simp only [Bool.and_eq_true,Option.isNone_iff_eq_none] at aP
      split at h
      ·rename_i dM nD hr
       simp only [Option.some.injEq,Prod.mk.injEq] at h
       obtain ⟨rfl,rfl⟩:=h
       have dR:s.aj r k=some I:=ak
       have fw:=dq.obj r k I dR
       cases ah:av r k with
       | none=>rw [ah] at fw;simp only [ja] at fw;rw [hB] at fw;simp at fw
       | some q =>
        obtain ⟨b,m⟩:=q
        rw [ah] at fw
        obtain ⟨ch,eB,g1,g2,g3,g4⟩:=fw
        have Kr:c.length=I.sz:=g3 c (by rw [hB];simp)
        have jR:I.es.flatten=c:=by rw [hB];simp
        have hcs : ∀j:Nat,j<c.length→ ∃u,ch[j]? = some u∧Rel w (s.ok g av w) s.a0 (s.ba av) c[j]! u:=by
         intro j aA
         obtain ⟨u,j3,-,gW⟩:=g4 j c[j] (by rw [jR];exact List.getElem?_eq_getElem aA)
         exact ⟨u,j3,by rw [getElem!_pos c j aA];exact gW⟩
        obtain ⟨aw,aC⟩:=Ag (vs:=(List.range c.length).map fun j=>(ch[j]?).getD undef) dq H bh hr (fun p ah=>bi p (by simp [ah])) (fun y _=>bh.all _ aP.1 y) (by simp) (by
         intro j y u aK hu
         have aA:=fE aK
         rw [List.getElem?_map,List.getElem?_range aA] at hu
         simp only [Option.map_some,Option.some.injEq] at hu
         obtain ⟨lg,j3,gW⟩:=hcs j aA
         rw [j3] at hu;simp at hu;subst hu
         rw [List.getElem?_eq_getElem aA] at aK;simp at aK;subst aK
         rw [getElem!_pos c j aA] at gW;exact gW)
        have sY:gr [dM]:=bi _ (by simp)
        refine .eP (.eu 0 0 dR aP.1 (H.a1 r aP.2 k I dR aP.1) (by rw [hB];simp) sY (by simp;omega) (by rw [hB];rfl) ?_)
        ·intro j y mg aK oa
         rw [jR] at aK
         simp only [List.flatten_cons,List.flatten_nil,List.append_nil] at oa
         exact aC j y mg aK oa
      ·simp at h
     ·simp at h
    ·simp at h
   ·simp at h
  ·simp at h
theorem Al (dq:il g s av w)(H:mQ s aQ b7 bS)(bh:tz q bS){c:lC}{x cF:ax}{aj:List Prop}(h:nT s.aR b7 aQ bS c x=some (cF,aj))(bi:∀p∈aj,p)
 (a6:q x) {v:Value} (ap:Rel w (s.ok g av w) s.a0 (s.ba av) x v):hM s aQ bS q x cF:=by
 have key : ∀(l:List zf) (c dM:List ax) (nD:List Prop) (vs:List Value),lO (oA s.aR b7 aQ bS) l c=some (dM,nD)→(∀p∈nD,p)→(∀x∈c,q x)→vs.length=c.length →
  (∀(j:Nat) x u,c[j]? = some x→vs[j]? = some u→Rel w (s.ok g av w) s.a0 (s.ba av) x u)→dM.length=c.length∧ ∀(j:Nat) x cF,c[j]? = some x→dM[j]? = some cF→hM s aQ bS q x cF:=by
  intro l c dM nD vs h bi a6 aL ap
  obtain ⟨aw,aC,b1⟩:=DW _ l c dM nD h
  refine ⟨aw,fun j x cF aa dH=> ?_⟩
  obtain ⟨y,b5,f1,f2,f3⟩:=b1 j x cF aa dH
  have dC:j<vs.length:=by have:=fE aa;omega
  exact Js dq H bh f2 (fun p ah=>bi p (f3 p ah)) (a6 x (List.mem_of_getElem? aa)) (ap j x _ aa (List.getElem?_eq_getElem dC))
 cases c with
 | bE c =>
  simp only [nT] at h
  split at h
  ·rename_i a1
   split at h
   ·simp only [Option.some.injEq,Prod.mk.injEq] at h
    obtain ⟨rfl,rfl⟩:=h
    exact .pure (ap.aag a1) a6
   ·exact Js dq H bh h bi a6 ap
  ·exact Js dq H bh h bi a6 ap
 | comp l =>
  cases x<;>simp only [nT,reduceCtorEq] at h
  ·rename_i c
   split at h
   ·rename_i dM nD aP
    simp only [Option.some.injEq,Prod.mk.injEq] at h
    obtain ⟨rfl,rfl⟩:=h
    obtain ⟨vs,rfl,aL,BG⟩:=ap.x8
    obtain ⟨aw,aC⟩:=key l c dM nD vs aP bi (fun y aK=>bh.dB _ _ a6 aK) aL BG
    exact .dB aw aC
   ·simp at h
  ·rename_i f c
   split at h
   ·rename_i dM nD aP
    simp only [Option.some.injEq,Prod.mk.injEq] at h
    obtain ⟨rfl,rfl⟩:=h
    obtain ⟨vs,rfl,aL,BG⟩:=ap.Eo
    obtain ⟨aw,aC⟩:=key l c dM nD vs aP bi (fun y aK=>bh.fn _ _ _ a6 aK) aL BG
    exact .fn aw aC
   ·simp at h
theorem Qz (dq:il g s av w)(H:mQ s aQ b7 bS){r:Nat}{ka:Nat→Nat}{row:List af}(dt:∀k I,dk (some row) k=some I→s.aj r (ka k)=some I)
 (a6 : ∀k I,dk (some row) k=some I→ ∀e∈I.es,∀x∈e,q x) :
 ∀(k:Nat) b5,dk (some (row.map (ku b7))) k=some b5→ ∃I,dk (some row) k=some I∧oM s aQ bS q I b5:=by
 intro k b5 dR
 rw [kr,List.getElem?_map] at dR
 cases aX:row[k]? with
 | none=>rw [aX] at dR;simp at dR
 | some I =>
  rw [aX] at dR
  simp only [Option.map_some,Option.bind_some] at dR
  split at dR
  ·simp at dR
  ·rename_i dN
   simp only [Option.some.injEq] at dR
   subst dR
   have ak:dk (some row) k=some I:=by rw [kr,aX,Option.bind_some,if_neg (by simpa [ku] using dN)]
   have bW:s.aj r (ka k)=some I:=dt k I ak
   refine ⟨I,ak,?_⟩
   have fw:=dq.obj r (ka k) I bW
   have hlen : ∀e∈I.es,e.length=I.sz:=by
    cases ah:av r (ka k) with
    | none=>rw [ah] at fw;simp only [ja] at fw;rw [fw];simp
    | some q=>rw [ah] at fw;obtain ⟨_,_,_,_,e,_⟩:=fw;exact e
   refine ⟨rfl,.inl rfl,by simp [ku],?_,fun j x cF aa dH=> ?_⟩
   ·intro e he
    simp only [ku,List.mem_map] at he
    obtain ⟨eD,l6,rfl⟩:=he
    simpa using hlen eD l6
   ·simp only [ku] at dH
    rw [map_flatten,List.getElem?_map,aa] at dH
    simp only [Option.map_some,Option.some.injEq] at dH
    subst dH
    obtain ⟨e,he,q5⟩:=sF aa
    have abB:=a6 k I ak e he x q5
    cases ah:av r (ka k) with
    | none=>rw [ah] at fw;simp only [ja] at fw;rw [fw] at aa;simp at aa
    | some ty =>
     obtain ⟨b,m⟩:=ty
     rw [ah] at fw
     obtain ⟨c,eB,f1,f2,f3,f4⟩:=fw
     obtain ⟨u,j3,mP,gW⟩:=f4 j x aa
     cases x with
     | ref cb jM qC aaQ =>
      cases cp:b7 cb with
      | none=>simp only [n9,cp];exact .dead _
      | some zh=>simp only [n9,cp];exact .ref qC aaQ (H.ag _ _ cp _) (by cases gW<;>assumption)
     | bF cb jM Fa EQ =>
      cases cp:b7 cb with
      | none=>simp only [n9,cp];exact .dead _
      | some zh=>simp only [n9,cp];exact .bF Fa EQ (H.ag _ _ cp _) (by cases gW<;>assumption)
     | iR cb cU Rk R =>
      cases cp:b7 cb with
      | none=>simp only [n9,cp];exact .dead _
      | some zh=>simp only [n9,cp];exact .iR R (fun k=>H.ag _ _ cp _)
     | _ =>
      simp only [n9]
      split
      ·rename_i a1;exact .pure (gW.yv a1) abB
      ·exact .dead _
theorem DX (dq:il g s av w)(H:mQ s aQ b7 bS)(bh:tz q bS){c:iJ}{r:Nat}{ka:Nat→Nat}{row dV:List af}{aj:List Prop}(dt:∀k I,dk (some row) k=some I→s.aj r (ka k)=some I)
 (h:jb s.aR b7 aQ bS c row=some (dV,aj)) (bi : ∀p∈aj,p) (a6 : ∀k I,dk (some row) k=some I→ ∀e∈I.es,∀x∈e,q x) :
 dV.length=row.length∧(∀k I,dk (some row) k=some I→I.cn = .live) ∧
 ∀(k:Nat) b5,dk (some dV) k=some b5→ ∃I,dk (some row) k=some I∧oM s aQ bS q I b5:=by
 have hlen : ∀k I,dk (some row) k=some I→ ∀e∈I.es,e.length=I.sz:=by
  intro k I ak
  have dR:s.aj r (ka k)=some I:=dt k I ak
  have fw:=dq.obj r (ka k) I dR
  cases ah:av r (ka k) with
  | none=>rw [ah] at fw;simp only [ja] at fw;rw [fw];simp
  | some q=>rw [ah] at fw;obtain ⟨_,_,_,_,e,_⟩:=fw;exact e
 have sY:tO row→(∀k I,dk (some row) k=some I→I.cn = .live) ∧
  ∀(k:Nat) b5,dk (some row) k=some b5→ ∃I,dk (some row) k=some I∧oM s aQ bS q I b5:=by
  intro ah
  have qZ : ∀k I,dk (some row) k=some I→I∈row:=by
   intro k I ak
   unfold dk at ak
   simp only at ak
   split at ak
   ·rename_i b5 dR
    split at ak
    ·simp at ak
    ·simp at ak;subst ak;exact List.mem_of_getElem? dR
   ·simp at ak
  refine ⟨fun k I ak=>(ah I (qZ k I ak)).2,fun k I ak=>⟨I,ak,rfl,.inl rfl,rfl,hlen k I ak,fun j x cF aa dH=> ?_⟩⟩
  rw [aa] at dH;simp at dH;subst dH
  obtain ⟨e,he,q5⟩:=sF aa
  exact .pure ((ah I (qZ k I ak)).1 e he x q5) (a6 k I ak e he x q5)
 cases c with
 | pure =>
  simp only [jb,Option.some.injEq,Prod.mk.injEq] at h
  obtain ⟨rfl,rfl⟩:=h
  exact ⟨rfl,sY (bi _ (by simp))⟩
 | eg aS =>
  simp only [jb,Option.some.injEq,Prod.mk.injEq] at h
  obtain ⟨rfl,rfl⟩:=h
  have e:row=aS:=bi _ (by simp)
  subst e
  exact ⟨rfl,sY (bi _ (by simp))⟩
 | bD aS =>
  simp only [jb,Option.some.injEq,Prod.mk.injEq] at h
  obtain ⟨rfl,rfl⟩:=h
  have e:aS=row.map (ku b7):=bi _ (by simp)
  have KY:nv row:=bi _ (by simp)
  subst e
  refine ⟨by simp,fun k I ak=>by
   unfold dk at ak
   simp only at ak
   split at ak
   ·rename_i b5 dR
    split at ak
    ·simp at ak
    ·rename_i dN
     simp at ak;subst ak
     exact (KY _ (List.mem_of_getElem? dR)).resolve_right dN
   ·simp at ak,Qz dq H dt a6⟩
 | rx aS=>cases row with
  | nil=>simp [jb] at h
  | cons I l=>cases l<;>simp [jb] at h
 | drop=>cases row with
  | nil=>simp [jb] at h
  | cons I l=>cases l<;>simp [jb] at h
 | box l =>
  match row,h with
  | [I],h =>
   simp only [jb] at h
   split at h
   ·rename_i c hB
    split at h
    ·rename_i n7
     split at h
     ·rename_i dM nD aP
      simp only [Option.some.injEq,Prod.mk.injEq] at h
      obtain ⟨rfl,rfl⟩:=h
      have h0:dk (some [I]) 0=some I:=by rw [mo];simp [n7]
      refine ⟨rfl,fun k p ah=> ?_,fun k p ah=> ?_⟩
      ·rw [mo] at ah
       split at ah
       ·simp at ah;subst ah;exact n7
       ·simp at ah
      ·rw [mo] at ah
       split at ah
       ·rename_i ti
        obtain ⟨rfl,-⟩:=ti
        simp only [Option.some.injEq] at ah;subst ah
        refine ⟨I,h0,?_⟩
        have dR:s.aj r (ka 0)=some I:=dt 0 I h0
        have fw:=dq.obj r (ka 0) I dR
        cases kt:av r (ka 0) with
        | none=>rw [kt] at fw;simp only [ja] at fw;rw [hB] at fw;simp at fw
        | some q =>
         obtain ⟨b,m⟩:=q
         rw [kt] at fw
         obtain ⟨ch,eB,g1,g2,g3,g4⟩:=fw
         have Kr:c.length=I.sz:=g3 c (by rw [hB];simp)
         have jR:I.es.flatten=c:=by rw [hB];simp
         obtain ⟨aw,aC⟩:=Ag (vs:=(List.range c.length).map fun j=>(ch[j]?).getD undef) dq H bh aP bi (fun y aK=>a6 0 I h0 c (by rw [hB];simp) y aK) (by simp) (by
          intro j y u aK hu
          have aA:=fE aK
          rw [List.getElem?_map,List.getElem?_range aA] at hu
          simp only [Option.map_some,Option.some.injEq] at hu
          obtain ⟨lg,j3,-,gW⟩:=g4 j y (by rw [jR];exact aK)
          rw [j3] at hu;simp at hu;subst hu
          exact gW)
         refine ⟨rfl,.inl rfl,by simp [hB],by simp;omega,fun j x cF aa dH=> ?_⟩
         rw [jR] at aa
         simp only [List.flatten_cons,List.flatten_nil,List.append_nil] at dH
         exact aC j x cF aa dH
       ·simp at ah
     ·simp at h
    ·simp at h
   ·simp at h
  | [],h=>simp [jb] at h
  | _::_::_,h=>simp [jb] at h
end
end Go.VL
