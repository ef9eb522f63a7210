/- Lemmas, plain functions of the program, and what they answer. No condition. -/
import Derived.Below
import Derived.Eval
import Derived.KernelRfl
import Derived.Laws.Append
import Derived.Laws.AppendOwn
import Derived.Laws.BytesString
import Derived.Laws.Cells
import Derived.Laws.CopyRow
import Derived.Laws.Entries
import Derived.Laws.MakeOwn
import Derived.Laws.OwnMore
import Derived.Laws.Rows
import Derived.Laws.Slices
import Derived.Laws.Tables
import Derived.Orders
namespace Go.VL
set_option linter.unusedVariables false
set_option linter.unusedSimpArgs false
open Go
inductive aw where
 | dead
 | b (x:Bool)
 | n (k:IntKind) (x:Int)
 | s (x:ByteArray)
 | hh
 | eL
 | hx
 | ref (r k i off:Nat)
 | bu (r k bD len:Nat)
 | hQ (r c sz:Nat) (h:Option (Nat×Nat))
 | isl (sz:Nat) (es:List (List aw))
 | dV (sz:Nat) (es:List (List aw)) (i off:Nat)
 | eZ (sz:Nat) (c:Option (List aw))
 | agg (c:List aw)
 | dm (vs:List aw)
 | fn (f:Nat) (cap:List aw)
 deriving Inhabited
inductive fE where
 | live|ix|gone
 deriving DecidableEq,Inhabited
structure al where
 sz:Nat
 es:List (List aw)
 cg:fE
 deriving Inhabited
structure S where
 E:Nat→aw
 aR:Nat→Option (List al)
abbrev jf (v:Value):Bool:=v.oneCell'
abbrev eS:=Nat→Nat→Option (Nat×Nat)
abbrev h6:=Nat→Nat→Option (Nat×Option (Nat×Nat))
abbrev ik:=Nat→Nat→Prop
inductive Pure:aw→Prop
 | dead:Pure .dead
 | b (x:Bool):Pure (.b x)
 | n (k:IntKind) (x:Int):Pure (.n k x)
 | s (x:ByteArray):Pure (.s x)
 | hh:Pure .hh
 | eL:Pure .eL
 | hx:Pure .hx
 | isl {sz:Nat} {es:List (List aw)} (h : ∀e∈es,∀x∈e,Pure x):Pure (.isl sz es)
 | dV {sz i off:Nat} {es:List (List aw)} (h : ∀e∈es,∀x∈e,Pure x):Pure (.dV sz es i off)
 | oJ (sz:Nat):Pure (.eZ sz none)
 | oh {sz:Nat} {c:List aw} (h : ∀x∈c,Pure x):Pure (.eZ sz (some c))
 | agg {c:List aw} (h : ∀x∈c,Pure x):Pure (.agg c)
 | dm {c:List aw} (h : ∀x∈c,Pure x):Pure (.dm c)
 | fn {f:Nat} {c:List aw} (h : ∀x∈c,Pure x):Pure (.fn f c)
def gU (es:List (List aw)):Prop:= ∀e∈es,∀x∈e,Pure x
inductive Rel (w:World) (ok:Nat→Prop) (aV:ik) (a4:h6):aw→Value→Prop
 | dead (v:Value):Rel w ok aV a4 .dead v
 | b (x:Bool):Rel w ok aV a4 (.b x) (.bool x)
 | n (k:IntKind) (x:Int):Rel w ok aV a4 (.n k x) (.int k x)
 | s (x:ByteArray):Rel w ok aV a4 (.s x) (.string x)
 | hh:Rel w ok aV a4 .hh (.pointer none)
 | eL:Rel w ok aV a4 .eL (.slice none 0 0)
 | hx (a:Addr) (c:Nat):Rel w ok aV a4 .hx (.slice (some a) 0 c)
 | o5 {r k i off:Nat} (a:Option Addr) (hu:aV r k) (h : ∀sz p,a4 r k≠some (sz,some p)):Rel w ok aV a4 (.ref r k i off) (.pointer a)
 | ref {r k i off sz dz m:Nat} (hu:aV r k) (h:a4 r k=some (sz,some (dz,m))):Rel w ok aV a4 (.ref r k i off) (.pointer (some ⟨dz,i*sz+off,none⟩))
 | mo {r k bD len:Nat} (a:Option Addr) (l c:Nat) (hu:aV r k) (h:a4 r k=none):Rel w ok aV a4 (.bu r k bD len) (.slice a l c)
 | mK {r k sz:Nat} (hu:aV r k) (h:a4 r k=some (sz,none)):Rel w ok aV a4 (.bu r k 0 0) (.slice none 0 0)
 | bu {r k bD len sz dz m c:Nat} {a:Option Addr} (hu:aV r k) (h:a4 r k=some (sz,some (dz,m))) (aG:len≤c) (aP:c<9223372036854775808)
  (hm:(bD+c)*sz=m∧(c=0∨a=some ⟨dz,bD*sz,none⟩)):Rel w ok aV a4 (.bu r k bD len) (.slice a len c)
 | lT {r c sz:Nat} {v:Value} (h:Rel w ok aV a4 (.isl sz []) v):Rel w ok aV a4 (.hQ r c sz none) v
 | mT {r c sz k n:Nat} {v:Value} (h:Rel w ok aV a4 (.bu r (k+c) 0 n) v):Rel w ok aV a4 (.hQ r c sz (some (k,n))) v
 | i5 (sz:Nat) (a:Option Addr) (c:Nat) (h:a=none→c=0):Rel w ok aV a4 (.isl sz []) (.slice a 0 c)
 | isl {sz:Nat} {es:List (List aw)} {dz off c:Nat} (cs:Nat→Value) (aM:ok dz) (ak:gU es) (aG : ∀e∈es,e.length=sz) (aP:es.length≤c)
  (hw : ∀(j:Nat) x,es.flatten[j]? = some x→w.cell? ⟨dz,off+j,none⟩=some (cs j)) (i4 : ∀(j:Nat) x,es.flatten[j]? = some x→jf (cs j)=true)
  (an : ∀(j:Nat) x,es.flatten[j]? = some x→Rel w ok aV a4 x (cs j)):Rel w ok aV a4 (.isl sz es) (.slice (some ⟨dz,off,none⟩) es.length c)
 | dV {sz:Nat} {es:List (List aw)} {dz I i off:Nat} (cs:Nat→Value) (aM:ok dz) (ak:gU es) (aG : ∀e∈es,e.length=sz)
  (hw : ∀(j:Nat) x,es.flatten[j]? = some x→w.cell? ⟨dz,I+j,none⟩=some (cs j)) (i4 : ∀(j:Nat) x,es.flatten[j]? = some x→jf (cs j)=true)
  (an : ∀(j:Nat) x,es.flatten[j]? = some x→Rel w ok aV a4 x (cs j)):Rel w ok aV a4 (.dV sz es i off) (.pointer (some ⟨dz,I+(i*sz+off),none⟩))
 | oJ (sz:Nat):Rel w ok aV a4 (.eZ sz none) (.pointer none)
 | oh {sz:Nat} {c:List aw} {v:Value} (h:Rel w ok aV a4 (.dV sz [c] 0 0) v):Rel w ok aV a4 (.eZ sz (some c)) v
 | agg {c:List aw} (vs:List Value) (aG:vs.length=c.length) (i4 : ∀(j:Nat) v,vs[j]? = some v→jf v=true)
  (an : ∀(j:Nat) x v,c[j]? = some x→vs[j]? = some v→Rel w ok aV a4 x v):Rel w ok aV a4 (.agg c) (.agg vs.toArray)
 | dm {c:List aw} (vs:List Value) (aG:vs.length=c.length)
  (an : ∀(j:Nat) x v,c[j]? = some x→vs[j]? = some v→Rel w ok aV a4 x v):Rel w ok aV a4 (.dm c) (.tuple vs.toArray)
 | fn {f:Nat} {c:List aw} (vs:List Value) (aG:vs.length=c.length)
  (an : ∀(j:Nat) x v,c[j]? = some x→vs[j]? = some v→Rel w ok aV a4 x v):Rel w ok aV a4 (.fn f c) (.func (.func f) #[] vs.toArray)
theorem Rel.mono {w bx:World}{ok jO:Nat→Prop}{aV lY:ik}{a4 lk:h6}{a:aw}{v:Value}(h:Rel w ok aV a4 a v)
 (lZ : ∀b,ok b→jO b) (hw : ∀b,ok b→bx.heap[b]? = w.heap[b]?)
 (iy : ∀r k,aV r k→lY r k) (ki : ∀r k,aV r k→lk r k=a4 r k∨lk r k=none):Rel bx jO lY lk a v:=by
 have i4 : ∀b I,ok b→bx.cell? ⟨b,I,none⟩=w.cell? ⟨b,I,none⟩:=fun b I aM=>World.cell?_of_block (hw b aM)
 induction h with
 | dead v=>exact .dead v
 | b x=>exact .b x
 | n k x=>exact .n k x
 | s x=>exact .s x
 | hh=>exact .hh
 | eL=>exact .eL
 | hx a c=>exact .hx a c
 | @o5 r k i off a hu h =>
  refine .o5 a (iy r k hu) fun sz p=> ?_
  rcases ki r k hu with e|e<;>rw [e]
  ·exact h sz p
  ·simp
 | @ref r k i off sz dz m hu h =>
  rcases ki r k hu with e|e
  ·exact .ref (iy r k hu) (e.trans h)
  ·exact .o5 _ (iy r k hu) fun sz p=>by rw [e];simp
 | @mo r k bD len a l c hu h=>exact .mo a l c (iy r k hu) (by rcases ki r k hu with e|e<;>rw [e];exact h)
 | @mK r k sz hu h =>
  rcases ki r k hu with e|e
  ·exact .mK (iy r k hu) (e.trans h)
  ·exact .mo _ _ _ (iy r k hu) e
 | @bu r k bD len sz dz m c a hu h aG aP hm =>
  rcases ki r k hu with e|e
  ·exact .bu (iy r k hu) (e.trans h) aG aP hm
  ·exact .mo _ _ _ (iy r k hu) e
 | lT h ih=>exact .lT ih
 | mT h ih=>exact .mT ih
 | i5 sz a c h=>exact .i5 sz a c h
 | isl cs aM ak aG aP zO hG an ih=>exact .isl cs (lZ _ aM) ak aG aP (fun j x aa=>(i4 _ _ aM).trans (zO j x aa)) hG ih
 | dV cs aM ak aG zO hG an ih=>exact .dV cs (lZ _ aM) ak aG (fun j x aa=>(i4 _ _ aM).trans (zO j x aa)) hG ih
 | oJ sz=>exact .oJ sz
 | oh h ih=>exact .oh ih
 | agg vs aG hG an ih=>exact .agg vs aG hG ih
 | dm vs aG an ih=>exact .dm vs aG ih
 | fn vs aG an ih=>exact .fn vs aG ih
structure G where
 lF:World
 A:Nat→Prop
 oV:Nat→Prop
 N:Nat
 m:Nat
 ou:ik
 qA:h6
def S.aV (s:S)(r k:Nat):Prop:=k<((s.aR r).getD []).length
def c0 (row:Option (List al))(k:Nat):Option al :=
 match row with
 | some l=>match l[k]? with
  | some I=>if I.cg = .gone then none else some I
  | none=>none
 | none=>none
def S.ah (s:S)(r k:Nat):Option al:=c0 (s.aR r) k
def S.a4 (s:S)(av:eS):h6:=fun r k=>(s.ah r k).map fun I=>(I.sz,av r k)
def S.kK (s:S)(av:eS)(b:Nat):Prop:= ∃r k I m,s.ah r k=some I∧I.cg = .live∧av r k=some (b,m)
def S.ok (s:S)(g:G)(av:eS)(w:World)(b:Nat):Prop :=
 b<w.heap.size∧(g.A b∨g.lF.heap.size≤b∨g.oV b)∧ ¬s.kK av b
def iv (w:World)(ok:Nat→Prop)(aV:ik)(a4:h6)(I:al):Option (Nat×Nat)→Prop
 | none=>I.es=[]
 | some (dz,m)=> ∃c d4,w.heap[dz]? = some (.cells c d4 (0,0))∧c.size=m∧(∀e∈I.es,e.length=I.sz) ∧
  ∀(j:Nat) x,I.es.flatten[j]? = some x→ ∃v,c[j]? = some v∧jf v=true∧Rel w ok aV a4 x v
structure zs (g:G) (w:World):Prop where
 os:w.os=g.lF.os
 tape:w.tape=g.lF.tape
 output:w.output=g.lF.output
 size:g.lF.heap.size≤w.heap.size
 block : ∀b,b<g.lF.heap.size→ ¬g.oV b→w.heap[b]? = g.lF.heap[b]?
structure hi (g:G) (s:S) (av:eS) (w:World):Prop where
 obj : ∀r k I,s.ah r k=some I→iv w (s.ok g av w) s.aV (s.a4 av) I (av r k)
 inj : ∀r k I d5 dl bX b m a0,s.ah r k=some I→s.ah d5 dl=some bX→av r k=some (b,m)→av d5 dl=some (b,a0)→r=d5∧k=dl
 own : ∀r k I b m,s.ah r k=some I→av r k=some (b,m)→g.lF.heap.size≤b∨g.oV b
 gk:zs g w
 mlt : ∀b,g.oV b→b<g.lF.heap.size
 mv : ∀b,g.A b→b<g.lF.heap.size
 stay : ∀j k,g.ou j k→s.aV j k∧(s.a4 av j k=g.qA j k∨s.a4 av j k=none)
 low : ∀j k,g.ou j k→j<g.m
structure cE (g:G) (s:S) (av:eS) (a:Act) (w:World):Prop extends hi g s av w where
 env : ∀t,Rel w (s.ok g av w) s.aV (s.a4 av) (s.E t) (a.tmps.getD t undef)
 defers:a.defers=[]
 iN:g.N≤a.tmps.size
def ofValue:Value→aw
 | .bool x=> .b x
 | .int k x=> .n k x
 | .string x=> .s x
 | .pointer none=> .hh
 | .slice none 0 0=> .eL
 | _=> .dead
theorem LS {w:World}{ok:Nat→Prop}{aV:ik}{a4:h6}(v:Value):Rel w ok aV a4 (ofValue v) v:=by
 unfold ofValue
 split<;>constructor
def eH (E:Nat→aw):Operand→aw
 | .tmp t=>E t
 | .const v=>ofValue v
 | .global _=> .dead
 | .func f=> .fn f []
theorem cE.eval {g:G}{s:S}{av:eS}{a:Act}{w:World}(h:cE g s av a w)(x:Operand):
 Rel w (s.ok g av w) s.aV (s.a4 av) (eH s.E x) (a.eval x):=by
 cases x with
 | tmp t=>exact h.env t
 | const v=>exact LS v
 | global g=>exact .dead _
 | func f=>exact .fn [] rfl (fun j x v aa=>by simp at aa)
def aw.cells:aw→List aw
 | .agg c=>c
 | x=>[x]
def aw.one:aw→Bool
 | .dead | .agg _ | .dm _=>false
 | _=>true
def aw.wv:aw→Bool
 | .dead | .dm _=>false
 | _=>true
theorem aw.LU {v:aw}(h:v.wv=true):v.one=true∨ ∃c,v = .agg c:=by
 cases v<;>first|exact .inl rfl|exact .inr ⟨_,rfl⟩|simp [aw.wv] at h
theorem Rel.jf {w:World}{ok:Nat→Prop}{aV:ik}{a4:h6}{a:aw}{v:Value}(h:Rel w ok aV a4 a v)(bA:a.one=true):jf v=true:=by
 cases h with
 | oh h=>cases h;rfl
 | lT h=>cases h<;>rfl
 | mT h=>cases h<;>rfl
 | _=>first|rfl|simp [aw.one] at bA
theorem Rel.cellsOf {w:World}{ok:Nat→Prop}{aV:ik}{a4:h6}{a:aw}{v:Value}(h:Rel w ok aV a4 a v)(bA:a.one=true∨ ∃c,a = .agg c):
 ∃vs:List Value,v.cells=vs.toArray∧vs.length=a.cells.length∧(∀(j:Nat) x,vs[j]? = some x→VL.jf x=true) ∧
  ∀(j:Nat) x u,a.cells[j]? = some x→vs[j]? = some u→Rel w ok aV a4 x u:=by
 rcases bA with bA|⟨c,rfl⟩
 ·have aP:=h.jf bA
  refine ⟨[v],?_,?_,?_,?_⟩
  ·cases v<;>first|rfl|simp [VL.jf,Value.oneCell'] at aP
  ·cases a<;>first|rfl|simp [aw.one] at bA
  ·intro j x aa
   cases j with
   | zero=>simp at aa;subst aa;exact aP
   | succ j=>simp at aa
  ·intro j x u aa hu
   have e:a.cells=[a]:=by cases a<;>first|rfl|simp [aw.one] at bA
   rw [e] at aa
   cases j with
   | zero=>simp at aa hu;subst aa;subst hu;exact h
   | succ j=>simp at aa
 ·cases h with
  | agg vs aG i4 an=>exact ⟨vs,rfl,aG,i4,an⟩
end Go.VL
namespace Go.VL
set_option linter.unusedVariables false
set_option linter.unusedSimpArgs false
open Go
def S.put (s:S)(dst:Option Tmp)(v:aw):S :=
 match dst with
 | some t=>{s with E:=fun u=>if u=t then v else s.E u}
 | none=>s
def S.setRow (s:S)(r:Nat)(row:List al):S:={s with aR:=fun q=>if q=r then some row else s.aR q}
@[simp] theorem S.sN (s:S) (dst:Option Tmp) (v:aw):(s.put dst v).aR=s.aR:=by cases dst<;>rfl
@[simp] theorem S.abF (s:S) (r:Nat) (row:List al):(s.setRow r row).E=s.E:=rfl
theorem yE {s bG:S}(h:bG.aR=s.aR):bG.ah=s.ah:=by funext r k;simp [S.ah,h]
theorem wx {s bG:S}(h:bG.aR=s.aR):bG.aV=s.aV:=by funext r k;simp [S.aV,h]
theorem wy {s bG:S}(h:bG.aR=s.aR)(av:eS):bG.a4 av=s.a4 av:=by unfold S.a4;rw [yE h]
theorem TA {s bG:S}(h:bG.aR=s.aR)(av:eS):bG.kK av=s.kK av:=by unfold S.kK;rw [yE h]
theorem yF {s bG:S}(h:bG.aR=s.aR)(g:G)(av:eS)(w:World):bG.ok g av w=s.ok g av w:=by
 funext b;unfold S.ok;rw [TA h]
theorem hi.congr {g:G}{s bG:S}{av:eS}{w:World}(h:hi g s av w)(e:bG.aR=s.aR):hi g bG av w where
 obj:=by rw [yE e,wx e,wy e,yF e];exact h.obj
 inj:=by rw [yE e];exact h.inj
 own:=by rw [yE e];exact h.own
 gk:=h.gk
 mlt:=h.mlt
 mv:=h.mv
 stay:=by rw [wx e,wy e];exact h.stay
 low:=h.low
theorem Vk (a:Act)(dst:Option Tmp)(v:Value)(t:Nat)(ev:∀d,dst=some d→d<a.tmps.size):
 (a.put dst v).tmps.getD t undef=if dst=some t then v else a.tmps.getD t undef:=by
 cases dst with
 | none=>simp [Act.put]
 | some d =>
  have:=ev d rfl
  simp only [Act.put,Array.getD_eq_getD_getElem?,Array.getElem?_setIfInBounds,Option.some.injEq]
  by_cases e:d=t
  ·subst e;simp [this]
  ·simp [e]
theorem cE.put {g:G}{s:S}{av:eS}{a:Act}{w:World}(h:cE g s av a w)(dst:Option Tmp){x:aw}{v:Value}
 (ba : ∀d,dst=some d→d<g.N) (an:Rel w (s.ok g av w) s.aV (s.a4 av) x v):cE g (s.put dst x) av (a.put dst v) w where
 tohi:=h.tohi.congr (S.sN s dst x)
 env:=by
  have e:=S.sN s dst x
  rw [yF e,wx e,wy e]
  intro t
  rw [Vk a dst v t fun d r9=>Nat.lt_of_lt_of_le (ba d r9) h.iN]
  cases dst with
  | none=>simpa [S.put] using h.env t
  | some d =>
   simp only [S.put,Option.some.injEq]
   by_cases e:t=d
   ·subst e;simpa using an
   ·rw [if_neg e,if_neg (Ne.symm e)];exact h.env t
 defers:=by cases dst<;>exact h.defers
 iN:=by cases dst<;>simpa [Act.put] using h.iN
structure Step (g:G) (s:S) (av:eS) (w:World) (bG:S) (bC:eS) (bx:World):Prop where
 aV : ∀r k,s.aV r k→bG.aV r k
 a4 : ∀r k,s.aV r k→bG.a4 bC r k=s.a4 av r k∨bG.a4 bC r k=none
 live : ∀b,bG.kK bC b→s.kK av b∨w.heap.size≤b
 heap : ∀b,b<w.heap.size→ ¬s.kK av b→bx.heap[b]? = w.heap[b]?
 size:w.heap.size≤bx.heap.size
theorem Step.ok {g:G}{s bG:S}{av bC:eS}{w bx:World}(h:Step g s av w bG bC bx)(b:Nat)(aM:s.ok g av w b):bG.ok g bC bx b :=
 ⟨Nat.lt_of_lt_of_le aM.1 h.size,aM.2.1,fun aG=>by
  rcases h.live b aG with o|o
  ·exact aM.2.2 o
  ·exact absurd aM.1 (by omega)⟩
theorem Step.rel {g:G}{s bG:S}{av bC:eS}{w bx:World}(h:Step g s av w bG bC bx){x:aw}{v:Value}
 (an:Rel w (s.ok g av w) s.aV (s.a4 av) x v):Rel bx (bG.ok g bC bx) bG.aV (bG.a4 bC) x v :=
 an.mono h.ok (fun b aM=>h.heap b aM.1 aM.2.2) h.aV h.a4
theorem Step.obj {g:G}{s bG:S}{av bC:eS}{w bx:World}(h:Step g s av w bG bC bx){I:al}{p:Option (Nat×Nat)}
 (ak : ∀b m,p=some (b,m)→bx.heap[b]? = w.heap[b]?) (aj:iv w (s.ok g av w) s.aV (s.a4 av) I p) :
 iv bx (bG.ok g bC bx) bG.aV (bG.a4 bC) I p:=by
 cases p with
 | none=>exact aj
 | some q =>
  obtain ⟨b,m⟩:=q
  obtain ⟨c,d4,o,R,ae,ay⟩:=aj
  refine ⟨c,d4,(ak b m rfl).trans o,R,ae,fun j x aa=> ?_⟩
  obtain ⟨v,ax,aF,b4⟩:=ay j x aa
  exact ⟨v,ax,aF,h.rel b4⟩
theorem Step.stay {g:G}{s bG:S}{av bC:eS}{w bx:World}(h:Step g s av w bG bC bx)
 (bR : ∀j k,g.ou j k→s.aV j k∧(s.a4 av j k=g.qA j k∨s.a4 av j k=none)) : ∀j k,g.ou j k→bG.aV j k∧(bG.a4 bC j k=g.qA j k∨bG.a4 bC j k=none):=by
 intro j k aC
 obtain ⟨o,R⟩:=bR j k aC
 refine ⟨h.aV j k o,?_⟩
 rcases h.a4 j k o with e|e
 ·rw [e];exact R
 ·exact .inr e
theorem zs.step {g:G}{w bx:World}(h:zs g w)(o:bx.os=w.os)(R:bx.tape=w.tape)(ae:bx.output=w.output)(ay:w.heap.size≤bx.heap.size)
 (aK : ∀b,b<g.lF.heap.size→ ¬g.oV b→bx.heap[b]? = w.heap[b]?):zs g bx :=
 ⟨o.trans h.os,R.trans h.tape,ae.trans h.output,Nat.le_trans h.size ay,fun b aM hm=>(aK b aM hm).trans (h.block b aM hm)⟩
theorem kw (s:S)(r:Nat)(row:List al)(q k:Nat):(s.setRow r row).ah q k=if q=r then c0 (some row) k else s.ah q k:=by
 unfold S.ah S.setRow
 by_cases e:q=r<;>simp [e]
theorem mn (s:S)(r:Nat)(row:List al)(q k:Nat):(s.setRow r row).aV q k↔(if q=r then k<row.length else s.aV q k):=by
 unfold S.aV S.setRow
 by_cases e:q=r<;>simp [e]
theorem Co {s:S}{r k:Nat}{I:al}(h:s.ah r k=some I):s.aV r k:=by
 unfold S.ah c0 at h
 unfold S.aV
 cases an:s.aR r with
 | none=>rw [an] at h;simp at h
 | some l =>
  rw [an] at h
  simp only at h
  rcases Nat.lt_or_ge k l.length with o|o
  ·simpa using o
  ·rw [List.getElem?_eq_none o] at h;simp at h
theorem vU {s:S}{r:Nat}(h:s.aR r=none)(k:Nat): ¬s.aV r k:=by simp [S.aV,h]
theorem BZ (s:S){r:Nat}{l row:List al}(an:s.aR r=some l)(aG:l.length≤row.length)(q k:Nat)(h:s.aV q k):(s.setRow r row).aV q k:=by
 rw [mn]
 by_cases e:q=r
 ·subst e;rw [if_pos rfl];simp [S.aV,an] at h;omega
 ·rw [if_neg e];exact h
theorem aa8 {s:S}{r:Nat}(h:s.aR r=none)(k:Nat):s.ah r k=none:=by simp [S.ah,h,c0]
def eS.set (av:eS)(r k:Nat)(p:Option (Nat×Nat)):eS:=fun q j=>if q=r∧j=k then p else av q j
theorem k8 (I:al)(k:Nat):c0 (some [I]) k=if k=0∧I.cg≠ .gone then some I else none:=by
 unfold c0
 cases k with
 | zero=>by_cases h:I.cg = .gone<;>simp [h]
 | succ k=>simp
theorem Rel.drew {w:World}{ok:Nat→Prop}{aV:ik}{a4:h6}{x:aw}{v:Value}(h:Rel w ok aV a4 x v):Rel w.drew ok aV a4 x v :=
 h.mono (fun _ h=>h) (fun _ _=>rfl) (fun _ _ h=>h) (fun _ _ _=> .inl rfl)
theorem iv.drew {w:World}{ok:Nat→Prop}{aV:ik}{a4:h6}{I:al}{p:Option (Nat×Nat)}(h:iv w ok aV a4 I p):iv w.drew ok aV a4 I p:=by
 cases p with
 | none=>exact h
 | some q =>
  obtain ⟨c,d4,o,R,ae,ay⟩:=h
  exact ⟨c,d4,o,R,ae,fun j x aa=>let ⟨v,a,b,c⟩:=ay j x aa;⟨v,a,b,c.drew⟩⟩
theorem hi.drew {g:G}{s:S}{av:eS}{w:World}(h:hi g s av w):hi g s av w.drew :=
 {obj:=fun r k I aj=>(h.obj r k I aj).drew,inj:=h.inj,own:=h.own,gk:=⟨h.gk.os,h.gk.tape,h.gk.output,h.gk.size,h.gk.block⟩,mlt:=h.mlt,mv:=h.mv,stay:=h.stay,low:=h.low}
theorem cE.drew {g:G}{s:S}{av:eS}{a:Act}{w:World}(h:cE g s av a w):cE g s av a w.drew where
 tohi:=h.tohi.drew
 env:=fun t=>(h.env t).drew
 defers:=h.defers
 iN:=h.iN
theorem cE.alloc {g:G}{s:S}{av:eS}{a:Act}{w:World}(h:cE g s av a w){r:Nat}(an:s.aR r=none)(I:al)(aU:I.cg = .live)
 (c:Array Value) (d4:TypeId) (hlen : ∀e∈I.es,e.length=I.sz)
 (aP : ∀(j:Nat) x,I.es.flatten[j]? = some x→ ∃v,c[j]? = some v∧jf v=true∧Rel w (s.ok g av w) s.aV (s.a4 av) x v) :
 ∃bC,bC r 0=some (w.heap.size,c.size)∧cE g (s.setRow r [I]) bC a (w.alloc (.cells c d4)) ∧
  ∀x v,Rel w (s.ok g av w) s.aV (s.a4 av) x v→Rel (w.alloc (.cells c d4)) ((s.setRow r [I]).ok g bC (w.alloc (.cells c d4))) (s.setRow r [I]).aV ((s.setRow r [I]).a4 bC) x v:=by
 have kF : ∀q k,q≠r→(av.set r 0 (some (w.heap.size,c.size))) q k=av q k:=fun q k a8=>by simp [eS.set,a8]
 have bd : ∀q k,q≠r→(s.setRow r [I]).ah q k=s.ah q k:=fun q k a8=>by rw [kw,if_neg a8]
 have w1 : ∀k,(s.setRow r [I]).ah r k=if k=0 then some I else none:=fun k=>by
  rw [kw,if_pos rfl,k8];simp [aU]
 have r3 : ∀q k p b m,s.ah q k=some p→av q k=some (b,m)→b<w.heap.size:=fun q k p b m ak a8=>by
  have:=h.obj q k p ak
  rw [a8] at this
  obtain ⟨dw,lz,eO,_⟩:=this
  exact (Array.getElem?_eq_some_iff.1 eO).1
 have cM:Step g s av w (s.setRow r [I]) (av.set r 0 (some (w.heap.size,c.size))) (w.alloc (.cells c d4)):=by
  refine ⟨fun q k a8=>(mn _ _ _ _ _).2 (by rw [if_neg (by rintro rfl;exact vU an k a8)];exact a8),fun q k a8=> ?_,fun b aM=> ?_,fun b aM _=>heap_alloc_old w _ b aM,by simp⟩
  ·have cF:q≠r:=by rintro rfl;exact vU an k a8
   left
   simp only [S.a4,bd q k cF,kF q k cF]
  ·obtain ⟨q,k,p,m,o,R,ae⟩:=aM
   by_cases e:q=r
   ·subst e
    rw [w1] at o
    by_cases e0:k=0
    ·subst e0;simp [eS.set] at ae;right;omega
    ·simp [e0] at o
   ·rw [bd q k e] at o;rw [kF q k e] at ae
    exact .inl ⟨q,k,p,m,o,R,ae⟩
 refine ⟨av.set r 0 (some (w.heap.size,c.size)),by simp [eS.set],?_,fun x v=>cM.rel⟩
 refine {tohi:=⟨?_,?_,?_,?_,h.mlt,h.mv,cM.stay h.stay,h.low⟩,env:=fun t=>cM.rel (h.env t),defers:=h.defers,iN:=h.iN}
 ·intro q k p ak
  by_cases e:q=r
  ·subst e
   rw [w1] at ak
   by_cases e0:k=0
   ·subst e0
    simp at ak
    subst ak
    simp only [eS.set,and_self,if_true]
    exact ⟨c,d4,heap_alloc_new w _,rfl,hlen,fun j x aa=>let ⟨v,ax,aF,b4⟩:=aP j x aa;⟨v,ax,aF,cM.rel b4⟩⟩
   ·simp [e0] at ak
  ·rw [bd q k e] at ak
   rw [kF q k e]
   exact cM.obj (fun b m hm=>heap_alloc_old w _ b (r3 q k p b m ak hm)) (h.obj q k p ak)
 ·intro q k p gJ dl jl b m a0 o R ae ay
  by_cases e:q=r<;>by_cases d9:gJ=r
  ·subst e;subst d9
   rw [w1] at o R
   by_cases e0:k=0<;>by_cases ax:dl=0<;>simp [e0,ax] at o R
   exact ⟨rfl,by omega⟩
  ·subst e
   rw [w1] at o;rw [bd _ _ d9] at R;rw [kF _ _ d9] at ay
   by_cases e0:k=0<;>simp [e0] at o
   subst e0
   simp [eS.set] at ae
   have:=r3 gJ dl jl b a0 R ay
   omega
  ·subst d9
   rw [bd _ _ e] at o;rw [w1] at R;rw [kF _ _ e] at ae
   by_cases e0:dl=0<;>simp [e0] at R
   subst e0
   simp [eS.set] at ay
   have:=r3 q k p b m o ae
   omega
  ·rw [bd _ _ e] at o;rw [bd _ _ d9] at R;rw [kF _ _ e] at ae;rw [kF _ _ d9] at ay
   exact h.inj q k p gJ dl jl b m a0 o R ae ay
 ·intro q k p b m o R
  by_cases e:q=r
  ·subst e
   rw [w1] at o
   by_cases e0:k=0<;>simp [e0] at o
   subst e0
   simp [eS.set] at R
   left
   have:=h.gk.size
   omega
  ·rw [bd _ _ e] at o;rw [kF _ _ e] at R
   exact h.own q k p b m o R
 ·exact h.gk.step rfl rfl rfl (by simp) fun b aM _=>heap_alloc_old w _ b (Nat.lt_of_lt_of_le aM h.gk.size)
theorem M5 (l:List al)(k:Nat)(I bX:al)(h:c0 (some l) k=some I)(aU:bX.cg≠ .gone)(j:Nat):
 c0 (some (l.set k bX)) j=if j=k then some bX else c0 (some l) j:=by
 unfold c0 at *
 have di:k<l.length:=by
  rcases Nat.lt_or_ge k l.length with o|o
  ·exact o
  ·simp [List.getElem?_eq_none o] at h
 by_cases e:j=k
 ·subst e;simp [di,aU]
 ·simp only [List.getElem?_set,if_neg (Ne.symm e),if_neg e]
theorem cE.write {g:G}{s:S}{av:eS}{a:Act}{w bx:World}(h:cE g s av a w){r k b m:Nat}{l:List al}{I:al}(an:s.aR r=some l)(aj:s.ah r k=some I)
 (aU:I.cg = .live) (ak:av r k=some (b,m)) (es:List (List aw)) (c:Array Value) (d4:TypeId)
 (hw:bx.heap[b]? = some (.cells c d4 (0,0))) (ev:bx.heap.size=w.heap.size) (tZ : ∀q,q≠b→bx.heap[q]? = w.heap[q]?)
 (pX:bx.os=w.os) (I6:bx.tape=w.tape) (ID:bx.output=w.output) (hm:c.size=m)
 (hlen : ∀e∈es,e.length=I.sz)
 (aP : ∀(j:Nat) x,es.flatten[j]? = some x→ ∃v,c[j]? = some v∧jf v=true∧Rel w (s.ok g av w) s.aV (s.a4 av) x v) :
 cE g (s.setRow r (l.set k {I with es})) av a bx ∧
  ∀x v,Rel w (s.ok g av w) s.aV (s.a4 av) x v→Rel bx ((s.setRow r (l.set k {I with es})).ok g av bx) (s.setRow r (l.set k {I with es})).aV ((s.setRow r (l.set k {I with es})).a4 av) x v:=by
 have gu:({I with es}:al).cg≠ .gone:=by rw [aU];simp
 have bd : ∀q j,(s.setRow r (l.set k {I with es})).ah q j=if q=r∧j=k then some {I with es} else s.ah q j:=by
  intro q j
  rw [kw]
  by_cases e:q=r
  ·subst e
   have dn:c0 (some l) k=some I:=by rw [← an];exact aj
   rw [if_pos rfl,M5 l k I _ dn gu]
   by_cases aF:j=k<;>simp [aF,S.ah,an]
  ·simp [e]
 have o7:s.kK av b:=⟨r,k,I,m,aj,aU,ak⟩
 have cM:Step g s av w (s.setRow r (l.set k {I with es})) av bx:=by
  refine ⟨BZ s an (by simp),fun q j a8=> .inl ?_,fun q a8=> ?_,fun q a8 aG=>tZ q fun e=>aG (e▸o7),Nat.le_of_eq ev.symm⟩
  ·simp only [S.a4,bd]
   by_cases e:q=r∧j=k
   ·obtain ⟨rfl,rfl⟩:=e;simp [aj]
   ·rw [if_neg e]
  ·obtain ⟨gJ,j,p,a0,o,R,ae⟩:=a8
   rw [bd] at o
   by_cases e:gJ=r∧j=k
   ·obtain ⟨rfl,rfl⟩:=e
    exact .inl ⟨gJ,j,I,a0,aj,aU,ae⟩
   ·rw [if_neg e] at o
    exact .inl ⟨gJ,j,p,a0,o,R,ae⟩
 refine ⟨{tohi:=⟨?_,?_,?_,?_,h.mlt,h.mv,cM.stay h.stay,h.low⟩,env:=fun t=>cM.rel (h.env t),defers:=h.defers,iN:=h.iN},fun x v=>cM.rel⟩
 ·intro q j p jq
  rw [bd] at jq
  by_cases e:q=r∧j=k
  ·obtain ⟨rfl,rfl⟩:=e
   simp at jq
   subst jq
   rw [ak]
   exact ⟨c,d4,hw,hm,hlen,fun j x aa=>let ⟨v,ax,aF,b4⟩:=aP j x aa;⟨v,ax,aF,cM.rel b4⟩⟩
  ·rw [if_neg e] at jq
   refine cM.obj (fun jm a0 jP=>tZ jm ?_) (h.obj q j p jq)
   rintro rfl
   exact e (h.inj q j p r k I jm a0 m jq aj jP ak)
 ·intro q j p gJ g7 jl jm hd fW o R ae ay
  have key : ∀q j p,(s.setRow r (l.set k {I with es})).ah q j=some p→ ∃jl,s.ah q j=some jl:=by
   intro q j p a8
   rw [bd] at a8
   by_cases e:q=r∧j=k
   ·obtain ⟨rfl,rfl⟩:=e;exact ⟨I,aj⟩
   ·rw [if_neg e] at a8;exact ⟨p,a8⟩
  obtain ⟨gK,YY⟩:=key q j p o
  obtain ⟨h7,zP⟩:=key gJ g7 jl R
  exact h.inj q j gK gJ g7 h7 jm hd fW YY zP ae ay
 ·intro q j p jm a0 o R
  rw [bd] at o
  by_cases e:q=r∧j=k
  ·obtain ⟨rfl,rfl⟩:=e;exact h.own q j I jm a0 aj R
  ·rw [if_neg e] at o;exact h.own q j p jm a0 o R
 ·refine h.gk.step pX I6 ID (Nat.le_of_eq ev.symm) fun jm pY jP=>tZ jm ?_
  rintro rfl
  rcases h.own r k I jm m aj ak with o|o
  ·omega
  ·exact jP o
end Go.VL
namespace Go.VL
set_option linter.unusedVariables false
set_option linter.unusedSimpArgs false
open Go
inductive sk where
 | id
 | fI (es:List (List aw))
 | gm (sz:Nat)
 | iQ
 | dL (x:aw)
 | len (n:Nat)
 | lG (sz:Nat)
 | at_ (j i n:Nat)
 | view (dP:Nat) (I:al) (es:List (List aw))
 deriving Inhabited
inductive xA where
 | cu (c:sk)
 | ptr (l:List sk)
 | r4 (l:List sk)
 | agg (l:List sk)
 deriving Inhabited
inductive kn where
 | bF (c:xA)
 | comp (l:List xA)
 deriving Inhabited
inductive hI where
 | pure
 | box (l:List sk)
 | dL (row:List al)
 | bz (row:List al)
 | rx (row:List al)
 | drop
 deriving Inhabited
structure mw where
 ba:List (Nat×Nat):=[]
 cY:Option (Nat×Nat):=none
 deriving DecidableEq
inductive Src where
 | row (r:Nat)
 | ah (r k:Nat) (I:al)
 deriving Inhabited
structure Az where
 aL:List Src:=[]
 cq:List hI:=[]
 ac:List kn
 r:aw
 dh:List (List al):=[]
 ez:kn:= .bF (.cu .id)
 e5:List hI:=[]
 dD:List Nat:=[]
 dB:Bool:=true
inductive e6 where
 | none
 | ao (t:Bool)
 | c4 (c:List aw)
 | gB (I:al) (c:List aw)
 | dx
 | call (c:Az)
 | a3 (m:Nat) (I:Option al:=Option.none)
 | fy (t:Nat) (v:aw) (a:e6)
 | sl (r:Nat) (a:e6)
 | AA (r n:Nat) (a:e6)
structure hj where
 val:aw
 fh:List (Nat×List al):=[]
 e1:List Prop:=[]
def y0 (P:Program)(t:TypeId):Bool :=
 match P.underlying t with
 | some (.struct _)|some (.array _ _)=>true
 | _=>false
def w2 (mD:List Int):ByteArray:=mD.foldl (fun r n=>r.push (UInt8.ofNat n.toNat)) ByteArray.empty
def bytesOf:List (List aw)→Option (List Int)
 | []=>some []
 | [.n .u8 n]::es=>(bytesOf es).map (n :: ·)
 | _=>none
def elemAt (es:List (List aw))(i:Nat):e6→Option (List aw×List Prop)
 | .c4 c=>some (c,[es[i]? = some c])
 | .gB _ c=>some (c,[es[i]? = some c])
 | _=>match es[i]? with
  | some c=>some (c,[])
  | none=>none
def oi (row:Option (List al))(k:Nat):e6→Option (al×List Prop)
 | .gB I _=>match row with
  | some row=>some (I,[c0 (some row) k=some I])
  | none=>none
 | _=>match c0 row k with
  | some I=>some (I,[])
  | none=>none
def rT (P:Program)(t:TypeId)(c:List aw)(off:Nat):Option aw :=
 if !((P.underlying t).isSome && (P.info? t).isSome) then none else
 if y0 P t then (if off+P.cellsOf t≤c.length then some (.agg ((c.drop off).take (P.cellsOf t))) else none)
 else match c[off]? with
  | some x=>if x.one then some x else none
  | none=>none
def IE (op:BinOp)(x y:aw):Option (aw×List Prop) :=
 match x,y with
 | .n k a,.n dl b =>
  match op with
  | .shl=>some (.n k (k.wrap (a*2 ^ (min b.toNat k.bits))),[0≤b])
  | .shr=>some (.n k (a.fdiv (2 ^ (min b.toNat k.bits))),[0≤b])
  | _=>if k≠dl then none else
   match op with
   | .add=>some (.n k (k.wrap (a+b)),[])
   | .sub=>some (.n k (k.wrap (a-b)),[])
   | .mul=>some (.n k (k.wrap (a*b)),[])
   | .quo=>some (.n k (k.wrap (a.tdiv b)),[b≠0])
   | .rem=>some (.n k (a.tmod b),[b≠0])
   | .and=>some (.n k (k.wrap ((BitVec.ofInt k.bits a &&& BitVec.ofInt k.bits b).toNat)),[])
   | .or=>some (.n k (k.wrap ((BitVec.ofInt k.bits a ||| BitVec.ofInt k.bits b).toNat)),[])
   | .xor=>some (.n k (k.wrap ((BitVec.ofInt k.bits a ^^^ BitVec.ofInt k.bits b).toNat)),[])
   | .eql=>some (.b (a == b),[])
   | .neq=>some (.b (a != b),[])
   | .lss=>some (.b (decide (a<b)),[])
   | .leq=>some (.b (decide (a≤b)),[])
   | .gtr=>some (.b (decide (b<a)),[])
   | .geq=>some (.b (decide (b≤a)),[])
   | _=>none
 | .s a,.s b =>
  match op with
  | .add=>some (.s (a++b),[a.size+b.size<9223372036854775808])
  | .eql=>some (.b (a.toList == b.toList),[])
  | .neq=>some (.b (!(a.toList == b.toList)),[])
  | _=>none
 | _,_=>none
def re (P:Program)(t:TypeId)(x y:aw):Option Bool :=
 match P.underlying t,x,y with
 | some .bool,.b a,.b c=>some (a == c)
 | some (.pointer _),.hh,.hh=>some true
 | some (.pointer _),.dV ..,.hh=>some false
 | some (.pointer _),.hh,.dV .. => some false
 | some (.slice _),.eL,.eL=>some true
 | some (.slice _),.hx,.eL=>some false
 | _,_,_=>none
def I7 (op:UnOp)(x:aw):Option aw :=
 match op,x with
 | .neg,.n k a=>some (.n k (k.wrap (0-a)))
 | .not,.b a=>some (.b (!a))
 | _,_=>none
def fieldsOf (P:Program)(t:TypeId):Option (Array Field) :=
 match P.underlying t with
 | some (.struct jE)=>some jE
 | _=>none
def o8 (P:Program)(t:TypeId):Option TypeId :=
 match P.underlying t with
 | some (.slice e)=>some e
 | _=>none
def qi (P:Program)(t:TypeId):Option (List aw) :=
 match P.info? t with
 | some i=>match i.zero with
  | some v=>if v.cells.toList.all (·.oneCell') then some (v.cells.toList.map ofValue) else none
  | none=>none
 | none=>none
def y1:aw→aw→aw
 | .eL,.isl sz []=> .isl sz []
 | .hh,.eZ sz none=> .eZ sz none
 | .eL,.hQ r c sz none=> .hQ r c sz none
 | x,_=>x
def qn:List aw→List aw→List aw
 | x::z,y::c=>y1 x y::qn z c
 | z,_=>z
def rU (z:List aw):e6→List aw
 | .c4 c=>qn z c
 | _=>z
def setCells (c:List aw)(off:Nat)(vs:List aw):List aw:=c.take off++vs++c.drop (off+vs.length)
def sO:List aw→List (Nat×Nat×aw)→Option (List aw)
 | c,[]=>some c
 | c,(off,size,x)::rest =>
  if x.wv && x.cells.length=size && decide (off+size≤c.length) then sO (setCells c off x.cells) rest else none
def wU (sz:Nat):List (List aw)→List (Nat×aw)→Option (List (List aw))
 | es,[]=>some es
 | es,(i,x)::rest=>if x.wv && x.cells.length=sz && decide (i<es.length) then wU sz (es.set i x.cells) rest else none
def aD:Option aw→Nat→Option (Nat×List Prop)
 | none,d=>some (d,[])
 | some (.n _ x),_=>some (x.toNat,[0≤x])
 | _,_=>none
def el (P:Program)(E:Nat→aw)(aR:Nat→Option (List al))(aQ:Nat)(I:Oper)(cG:e6):Option hj :=
 let hz:=eH E
 match I.op with
 | .move x | .assign x=>some {val:=hz x}
 | .pick c a b =>
  match hz c,cG with
  | .b x,.ao t=>some {val:=if t then hz a else hz b,e1:=[x=t]}
  | .b true,_=>some {val:=hz a}
  | .b false,_=>some {val:=hz b}
  | _,_=>none
 | .alloc t =>
  match qi P t with
  | some c=>some {val:= .ref aQ 0 0 0,fh:=[(aQ,[⟨c.length,[c],.live⟩])]}
  | none=>none
 | .box _ x =>
  match hz x with
  | .agg c=>some {val:= .ref aQ 0 0 0,fh:=[(aQ,[⟨c.length,[c],.live⟩])]}
  | v=>if v.one then some {val:= .ref aQ 0 0 0,fh:=[(aQ,[⟨1,[[v]],.live⟩])]} else none
 | .load t x =>
  match hz x with
  | .ref r k i off =>
   match oi (aR r) k cG with
   | some (ah,bY)=>match elemAt ah.es i cG with
    | some (c,a9)=>match rT P t c off with
     | some v=>some {val:=v,e1:=bY++a9}
     | none=>none
    | none=>none
   | none=>none
  | .dV _ es i off =>
   match elemAt es i cG with
   | some (c,a9)=>match rT P t c off with
    | some v=>some {val:=v,e1:=a9}
    | none=>none
   | none=>none
  | _=>none
 | .store t x y =>
  match hz x with
  | .ref r k i off =>
   match aR r with
   | none=>none
   | some row =>
   match oi (some row) k cG with
   | some (ah,bY) =>
    if ah.cg≠ .live then none else
    let v:=hz y
    if v.wv=false then none else
    if v.cells.length≠P.cellsOf t∨(P.info? t).isSome=false then none else
    match cG with
    | .dx=>if off=0 then some {val:= .dead,fh:=[(r,row.set k {ah with es:=ah.es.set i v.cells})],e1:=bY++[i<ah.es.length,v.cells.length=ah.sz]} else none
    | _=>match elemAt ah.es i cG with
     | some (c,a9)=>if off+v.cells.length≤c.length then some {val:= .dead,fh:=[(r,row.set k {ah with es:=ah.es.set i (setCells c off v.cells)})],e1:=bY++a9} else none
     | none=>none
   | none=>none
  | _=>none
 | .nilCheck x =>
  match hz x with
  | .ref r k i off=>match oi (aR r) k cG with
   | some (ah,bY)=>match elemAt ah.es i cG with
    | some (_,a9)=>some {val:= .ref r k i off,e1:=bY++a9}
    | none=>none
   | none=>none
  | .dV sz es i off=>some {val:= .dV sz es i off}
  | .fn f c=>some {val:= .fn f c}
  | _=>none
 | .binOp op t x y _ =>
  match IE op (hz x) (hz y) with
  | some (v,ah)=>some {val:=v,e1:=ah}
  | none=>match op with
   | .eql=>(re P t (hz x) (hz y)).map fun r=>{val:= .b r}
   | .neq=>(re P t (hz x) (hz y)).map fun r=>{val:= .b (!r)}
   | _=>none
 | .unOp op _ x=>(I7 op (hz x)).map fun v=>{val:=v}
 | .convert src dst x =>
  match P.underlying dst,hz x with
  | some (.int k),.n _ a=>if (P.underlying src).isSome then some {val:= .n k (k.wrap a)} else none
  | some .string,.bu r k bD len =>
   match (o8 P src).bind P.underlying,c0 (aR r) k with
   | some (.int .u8),some ah=>match bytesOf ((ah.es.drop bD).take len) with
    | some mD=>if bD+len≤ah.es.length∧ah.sz=1 then some {val:= .s (w2 mD)} else none
    | none=>none
   | _,_=>none
  | _,_=>none
 | .makeFunc (.func f) first captured =>
  if first.size=0 then some {val:= .fn f (captured.toList.map hz)} else none
 | .makeSlice t l c =>
  match o8 P t,hz l,hz c with
  | some e,.n _ l,.n _ c =>
   match P.info? e,qi P e with
   | some i,some z=>if z.length=i.size then some {val:= .bu aQ 0 0 l.toNat,fh:=[(aQ,[⟨z.length,List.replicate l.toNat (rU z cG),.live⟩])],e1:=[0≤l,l≤c,(i.bytes:Int)*c≤281474976710656,c<9223372036854775808]} else none
   | _,_=>none
  | _,_,_=>none
 | .fieldAddr t x f =>
  match fieldsOf P t with
  | some jE=>match jE[f]? with
   | some fd=>if P.cellsOf fd.type=0 then none else
    match hz x with
    | .ref r k i off=>match oi (aR r) k cG with
     | some (ah,bY)=>match elemAt ah.es i cG with
      | some (_,a9)=>some {val:= .ref r k i (off+fd.offset),e1:=bY++a9}
      | none=>none
     | none=>none
    | .dV sz es i off=>some {val:= .dV sz es i (off+fd.offset)}
    | _=>none
   | none=>none
  | none=>none
 | .field t x f =>
  match fieldsOf P t with
  | some jE=>match jE[f]?,hz x with
   | some fd,.agg c=>(rT P fd.type c fd.offset).map fun v=>{val:=v}
   | _,_=>none
  | none=>none
 | .indexAddr t x lH =>
  match o8 P t,hz lH with
  | some e,.n _ j =>
   match hz x with
   | .isl sz es=>if sz=P.cellsOf e∧sz≠0 then some {val:= .dV sz es j.toNat 0,e1:=[0≤j,j<es.length]} else none
   | .bu r k bD len=>match aR r with
    | some row=>match oi (some row) k cG with
     | some (ah,bY)=>if ah.sz=P.cellsOf e∧ah.sz≠0 then some {val:= .ref r k (bD+j.toNat) 0,e1:=bY++[0≤j,j<len]} else none
     | none=>none
    | none=>none
   | _=>none
  | _,_=>none
 | .index t x lH =>
  match P.underlying t,hz x,hz lH with
  | some .string,.s s,.n _ j=>some {val:= .n .u8 (s.data.toList.getD j.toNat 0).toNat,e1:=[0≤j,j<s.size]}
  | _,_,_=>none
 | .extract x i =>
  match hz x with
  | .dm vs=>(vs[i]?).map fun v=>{val:=v}
  | _=>none
 | .slice t x bD af none =>
  match P.underlying t,hz x with
  | some (.slice e),.isl sz es =>
   match aD (bD.map hz) 0,aD (af.map hz) es.length with
   | some (l,bY),some (h,a9)=>if sz=P.cellsOf e∧sz≠0 then some {val:= .isl sz ((es.drop l).take (h-l)),e1:=bY++a9++[l≤h,h≤es.length]} else none
   | _,_=>none
  | some (.slice e),.bu r k Qq len =>
   match aR r with
   | none=>none
   | some row=>match oi (some row) k cG with
    | none=>none
    | some (ah,Qr) =>
     match aD (bD.map hz) 0,aD (af.map hz) len with
     | some (l,bY),some (h,a9)=>if ah.sz=P.cellsOf e∧ah.sz≠0 then some {val:= .bu r k (Qq+l) (h-l),e1:=Qr++bY++a9++[l≤h,h≤len]} else none
     | _,_=>none
  | some .string,.s s =>
   match aD (bD.map hz) 0,aD (af.map hz) s.size with
   | some (l,bY),some (h,a9)=>some {val:= .s (s.extract l h),e1:=bY++a9++[l≤h,h≤s.size]}
   | _,_=>none
  | _,_=>none
 | .build t parts =>
  match fieldsOf P t,qi P t with
  | some jE,some z =>
   if jE.toList.all (fun f=>(P.info? f.type).isSome)=false then none else
   match parts.toList.mapM fun (p:Nat×Operand)=>(jE[p.1]?).map fun fd=>(fd.offset,P.cellsOf fd.type,hz p.2) with
   | some l=>(sO z l).map fun c=>{val:= .agg c}
   | none=>none
  | _,_=>none
 | .buildSlice t len parts =>
  match o8 P t with
  | some e=>match qi P e with
   | some z =>
    if len*z.length>16777216∨z.length≠P.cellsOf e∨z.length=0 then none else
    match wU z.length (List.replicate len z) (parts.toList.map fun p=>(p.1,hz p.2)) with
    | some es=>some {val:= .bu aQ 0 0 len,fh:=[(aQ,[⟨z.length,es,.live⟩])]}
    | none=>none
   | none=>none
  | none=>none
 | .call {callee:= .builtin .len,args,argTypes} =>
  match args.toList.map hz,P.underlying (argTypes.getD 0 0),decide (argTypes.size=1) with
  | [.isl _ es],some (.slice _),true=>some {val:= .n .i64 es.length}
  | [.bu r k _ len],some (.slice _),true=>match aR r with
   | some row=>match oi (some row) k cG with
    | some (_,bY)=>some {val:= .n .i64 len,e1:=bY}
    | none=>none
   | none=>none
  | [.eL],some (.slice _),true=>some {val:= .n .i64 0}
  | [.s x],some .string,true=>some {val:= .n .i64 x.size}
  | _,_,_=>none
 | _=>none
end Go.VL
namespace Go.VL
set_option linter.unusedVariables false
set_option linter.unusedSimpArgs false
open Go
theorem oE {α:Type}{sz:Nat}(bR:0<sz): ∀(es:List (List α)) (_ : ∀e∈es,e.length=sz) (j:Nat),
 es.flatten[j]? = (es[j / sz]?).bind (·[j % sz]?)
 | [],_,j=>by simp
 | e::es,h,j=>by
  have he:e.length=sz:=h e (by simp)
  rw [List.flatten_cons,List.getElem?_append]
  by_cases aC:j<sz
  ·rw [if_pos (by omega),Nat.div_eq_of_lt aC,Nat.mod_eq_of_lt aC];simp
  ·rw [if_neg (by omega),he,oE bR es (fun d9 kR=>h d9 (by simp [kR])) (j-sz)]
   have o:j / sz=(j-sz) / sz+1:=Nat.div_eq_sub_div bR (by omega)
   have R:j % sz=(j-sz) % sz:=Nat.mod_eq_sub_mod (by omega)
   rw [o,R];simp
theorem ys {α:Type}{sz:Nat}{es:List (List α)}(aG:∀e∈es,e.length=sz){i:Nat}{c:List α}(he:es[i]? = some c){j:Nat}(aC:j<sz):
 es.flatten[i*sz+j]? = c[j]? := by
 have bR:0<sz:=by omega
 rw [oE bR es aG]
 have o:(i*sz+j) / sz=i:=by
  rw [Nat.mul_comm,Nat.mul_add_div bR,Nat.div_eq_of_lt aC];omega
 have R:(i*sz+j) % sz=j:=by
  rw [Nat.mul_comm,Nat.mul_add_mod,Nat.mod_eq_of_lt aC]
 rw [o,R,he];rfl
theorem LV {α:Type}{sz:Nat}{es:List (List α)}(aG:∀e∈es,e.length=sz){i:Nat}{c dw:List α}(he:es[i]? = some c)(aP:dw.length=sz)(j:Nat):
 (es.set i dw).flatten[j]? = if i*sz≤j∧j<i*sz+sz then dw[j-i*sz]? else es.flatten[j]? := by
 rcases Nat.eq_zero_or_pos sz with h0|bR
 ·subst h0
  have ax : ∀(l:List (List α)),(∀e∈l,e.length=0)→l.flatten=[]:=by
   intro l aG;induction l with
   | nil=>rfl
   | cons a l ih=>rw [List.flatten_cons,ih fun e he=>aG e (by simp [he])];have:=aG a (by simp);simp_all
  rw [ax _ aG,ax (es.set i dw) (by
   intro e hm
   rcases List.mem_or_eq_of_mem_set hm with h|h
   ·exact aG e h
   ·exact h▸aP)]
  simp
 ·have I8 : ∀e∈es.set i dw,e.length=sz:=by
   intro e hm
   rcases List.mem_or_eq_of_mem_set hm with h|h
   ·exact aG e h
   ·exact h▸aP
  have af:i<es.length:=by
   rcases Nat.lt_or_ge i es.length with h|h
   ·exact h
   ·rw [List.getElem?_eq_none h] at he;simp at he
  rw [oE bR _ I8,oE bR _ aG]
  by_cases a8:j / sz=i
  ·have o:i*sz≤j∧j<i*sz+sz:=by
    subst a8
    constructor
    ·exact Nat.div_mul_le_self j sz
    ·have:=Nat.lt_div_mul_add (a:=j) bR;omega
   rw [if_pos o,a8,List.getElem?_set_self af]
   have:j % sz=j-i*sz:=by
    subst a8;have:=Nat.div_add_mod j sz;rw [Nat.mul_comm] at this;omega
   simp [this]
  ·have o : ¬(i*sz≤j∧j<i*sz+sz):=by
    rintro ⟨a,b⟩
    apply a8
    obtain ⟨d,rfl⟩ : ∃d,j=i*sz+d:=⟨j-i*sz,by omega⟩
    rw [Nat.mul_comm i sz,Nat.mul_add_div bR,Nat.div_eq_of_lt (by omega)]
    omega
   rw [if_neg o,List.getElem?_set_ne (Ne.symm a8)]
def nI (w:World)(ok:Nat→Prop)(aV:ik)(a4:h6)(dz I sz:Nat)(es:List (List aw)):Prop :=
 (∀e∈es,e.length=sz)∧ ∀(j:Nat) x,es.flatten[j]? = some x→ ∃v,w.cell? ⟨dz,I+j,none⟩=some v∧jf v=true∧Rel w ok aV a4 x v
theorem iv.rd {w:World}{ok:Nat→Prop}{aV:ik}{a4:h6}{I:al}{dz m:Nat}(h:iv w ok aV a4 I (some (dz,m))):nI w ok aV a4 dz 0 I.sz I.es:=by
 obtain ⟨c,d4,o,R,ae,ay⟩:=h
 refine ⟨ae,fun j x aa=> ?_⟩
 obtain ⟨v,ax,aF,b4⟩:=ay j x aa
 exact ⟨v,by rw [cell_of_row w dz (0+j) c d4 (0,0) o,Nat.zero_add];exact ax,aF,b4⟩
theorem abt {w:World}{ok:Nat→Prop}{aV:ik}{a4:h6}{x:aw}{v:Value}(h:Rel w ok aV a4 x v)(aj:x.one=true):v.oneCell'=true:=h.jf aj
theorem MF {P:Program}{t:TypeId}(h:(P.underlying t).isSome=true)(w:World):(isAgg t).run P w = .ok (y0 P t) w:=by
 cases ba:P.underlying t with
 | none=>simp [ba] at h
 | some d=>cases d<;>simp [isAgg,y0,run_underlying ba,ba]
theorem tG {P:Program}{t:TypeId}(h:(P.info? t).isSome=true)(w:World):(sizeOf t).run P w = .ok (P.cellsOf t) w:=by
 cases af:P.info? t with
 | none=>simp [af] at h
 | some i=>simp [sizeOf,typeInfo,af,Program.cellsOf]
theorem q3 (b I n:Nat):(⟨b,I,none⟩:Addr).add n=⟨b,I+n,none⟩:=by unfold Addr.add;split<;>simp_all
theorem Hh {P:Program}{w:World}{ok:Nat→Prop}{aV:ik}{a4:h6}{dz I sz i off:Nat}{es:List (List aw)}{c:List aw}{t:TypeId}{x:aw}
 (hy:nI w ok aV a4 dz I sz es) (he:es[i]? = some c) (ch:rT P t c off=some x) :
 ∃v,(Instr.loadAt t (.pointer (some ⟨dz,I+(i*sz+off),none⟩))).run P w = .ok v w∧Rel w ok aV a4 x v:=by
 have hlen:c.length=sz:=hy.1 c (List.mem_of_getElem? he)
 unfold rT at ch
 split at ch
 ·simp at ch
 ·rename_i af
  simp only [Bool.not_eq_true',Bool.not_eq_false,Bool.and_eq_true] at af
  have i4 : ∀j,j<sz→ ∃y v,c[j]? = some y∧w.cell? ⟨dz,I+(i*sz+j),none⟩=some v∧jf v=true∧Rel w ok aV a4 y v:=by
   intro j aC
   have aS:c[j]? = some c[j]:=List.getElem?_eq_getElem (by omega)
   obtain ⟨v,ax,aF,b4⟩:=hy.2 (i*sz+j) c[j] (by rw [ys hy.1 he aC,aS])
   exact ⟨_,v,aS,ax,aF,b4⟩
  simp only [Instr.loadAt,Instr.sureAddr,loadVar,Sem.run_bind,Sem.run_pure,Result.andThen,MF af.1,tG af.2]
  split at ch
  ·rename_i qw
   rw [qw]
   split at ch
   ·rename_i hle
    simp at ch;subst ch
    have aG:=run_loadCells (P:=P) w ⟨dz,I+(i*sz+off),none⟩ (P.cellsOf t) (fun j=>(w.cell? ⟨dz,I+(i*sz+(off+j)),none⟩).getD undef) (by
     intro j aC
     obtain ⟨y,v,-,ax,-,-⟩:=i4 (off+j) (by omega)
     rw [q3,show I+(i*sz+off)+j=I+(i*sz+(off+j)) by omega,ax];rfl)
    refine ⟨.agg (List.map (fun j=>(w.cell? ⟨dz,I+(i*sz+(off+j)),none⟩).getD undef) (List.range (P.cellsOf t))).toArray,by simp [aG,Result.andThen,tG af.2],?_⟩
    refine .agg _ (by simp;omega) ?_ ?_
    ·intro j v aY
     rw [List.getElem?_map,Option.map_eq_some_iff] at aY
     obtain ⟨q,nB,rfl⟩:=aY
     obtain ⟨qB,w9⟩:=List.getElem?_eq_some_iff.1 nB
     have a8:j<P.cellsOf t:=by simpa using qB
     obtain rfl:j=q:=by simpa using w9
     obtain ⟨y,v,-,ax,aF,-⟩:=i4 (off+j) (by omega)
     rw [ax];exact aF
    ·intro j y v aS aY
     rw [List.getElem?_map,Option.map_eq_some_iff] at aY
     obtain ⟨q,nB,rfl⟩:=aY
     obtain ⟨qB,w9⟩:=List.getElem?_eq_some_iff.1 nB
     have a8:j<P.cellsOf t:=by simpa using qB
     obtain rfl:j=q:=by simpa using w9
     rw [List.getElem?_take,if_pos a8,List.getElem?_drop] at aS
     obtain ⟨k1,v,h0,ax,aF,b4⟩:=i4 (off+j) (by omega)
     rw [h0] at aS;simp at aS;subst aS
     rw [ax];exact b4
   ·simp at ch
  ·rename_i qw
   have qw:y0 P t=false:=by simpa using qw
   rw [qw]
   split at ch
   ·rename_i y aS
    split at ch
    ·simp at ch;subst ch
     have w3:off<sz:=by
      rcases Nat.lt_or_ge off c.length with h|h
      ·omega
      ·rw [List.getElem?_eq_none h] at aS;simp at aS
     obtain ⟨k1,v,h0,ax,aF,b4⟩:=i4 off w3
     rw [h0] at aS;simp at aS;subst aS
     exact ⟨v,by simp [ax],b4⟩
    ·simp at ch
   ·simp at ch
theorem Ln {c:List aw}{off:Nat}{vs:List aw}(h:off+vs.length≤c.length):(setCells c off vs).length=c.length:=by
 simp [setCells];omega
theorem G5 {c:List aw}{off:Nat}{vs:List aw}(h:off+vs.length≤c.length)(j:Nat):
 (setCells c off vs)[j]? = if off≤j∧j<off+vs.length then vs[j-off]? else c[j]? := by
 unfold setCells
 rw [List.append_assoc,List.getElem?_append]
 have o:(c.take off).length=off:=by simp;omega
 rw [o]
 by_cases a:j<off
 ·rw [if_pos a,if_neg (by omega),List.getElem?_take,if_pos a]
 ·rw [if_neg a,List.getElem?_append]
  by_cases b:j<off+vs.length
  ·rw [if_pos (by omega),if_pos ⟨by omega,b⟩]
  ·rw [if_neg (by omega),if_neg (by omega),List.getElem?_drop]
   congr 1;omega
theorem WW {c:Array Value}{p:Nat}{vs:List Value}(h:p+vs.length≤c.size)(j:Nat):
 (c.toList.take p++vs++c.toList.drop (p+vs.length)).toArray[j]? = if p≤j∧j<p+vs.length then vs[j-p]? else c[j]? := by
 rw [List.getElem?_toArray,List.append_assoc,List.getElem?_append]
 have o:(c.toList.take p).length=p:=by simp;omega
 rw [o]
 by_cases a:j<p
 ·rw [if_pos a,if_neg (by omega),List.getElem?_take,if_pos a,Array.getElem?_toList]
 ·rw [if_neg a,List.getElem?_append]
  by_cases b:j<p+vs.length
  ·rw [if_pos (by omega),if_pos ⟨by omega,b⟩]
  ·rw [if_neg (by omega),if_neg (by omega),List.getElem?_drop,Array.getElem?_toList]
   congr 1;omega
theorem TP {P:Program}{g:G}{s:S}{av:eS}{a:Act}{w:World}(h:cE g s av a w){r k b m i off:Nat}{l:List al}{I:al}{c:List aw}
 (an:s.aR r=some l) (aj:s.ah r k=some I) (aU:I.cg = .live) (ak:av r k=some (b,m)) (he:I.es[i]? = some c)
 {t:TypeId} (I9:(P.info? t).isSome=true) {x:aw} {v:Value} (aa:Rel w (s.ok g av w) s.aV (s.a4 av) x v) (kO:x.one=true∨ ∃c,x = .agg c)
 (ev:x.cells.length=P.cellsOf t) (hs:off+x.cells.length≤c.length) :
 ∃bx,(Instr.storeAt t (.pointer (some ⟨b,i*I.sz+off,none⟩)) v).run P w = .ok () bx ∧
  cE g (s.setRow r (l.set k {I with es:=I.es.set i (setCells c off x.cells)})) av a bx:=by
 obtain ⟨vs,aY,pg,i4,eX⟩:=aa.cellsOf kO
 have bd:=h.obj r k I aj
 rw [ak] at bd
 obtain ⟨ca,d4,o,R,ae,ay⟩:=bd
 have hlen:c.length=I.sz:=ae c (List.mem_of_getElem? he)
 have w4:i*I.sz+off+vs.length≤ca.size:=by
  rcases Nat.eq_zero_or_pos I.sz with cd|cd
  ·have:off=0:=by omega
   have:vs.length=0:=by omega
   rw [cd];omega
  ·have aG:I.es.flatten[i*I.sz+(I.sz-1)]? = some (c[I.sz-1]'(by omega)):=by
    rw [ys ae he (by omega)];exact List.getElem?_eq_getElem (by omega)
   obtain ⟨Qs,ax,-,-⟩:=ay _ _ aG
   have:=(Array.getElem?_eq_some_iff.1 ax).1
   omega
 have ll:=run_storeCells_at P b (i*I.sz+off) d4 vs 0 ca w o (by simpa using w4) (fun Qs zQ=>by
  obtain ⟨q,a8⟩:=List.getElem?_of_mem zQ
  exact i4 q Qs a8)
 simp only [Nat.add_zero] at ll
 have h1:(Instr.storeAt t (.pointer (some ⟨b,i*I.sz+off,none⟩)) v).run P w =
  .ok () (w.setRow b (ca.toList.take (i*I.sz+off)++vs++ca.toList.drop (i*I.sz+off+vs.length)).toArray):=by
  have bR:v.cells.size=P.cellsOf t:=by rw [aY];simpa using pg.trans ev
  simp only [Instr.storeAt,Instr.sureAddr,storeVar,Sem.run_bind,Sem.run_pure,Result.andThen,tG I9,bR,ne_eq,not_true_eq_false,if_false]
  rw [aY]
  simpa using ll
 refine ⟨_,h1,?_⟩
 have Ya:(w.setRow b (ca.toList.take (i*I.sz+off)++vs++ca.toList.drop (i*I.sz+off+vs.length)).toArray).heap.size=w.heap.size:=size_setRow _ _ _
 have ul:(setCells c off x.cells).length=I.sz:=by rw [Ln hs];exact hlen
 refine (h.write an aj aU ak _ _ d4 (setRow_heap w b ca _ d4 _ o) Ya (fun q a8=>setRow_other w b q _ a8) rfl rfl rfl ?_ ?_ ?_).1
 ·simp;omega
 ·intro e hm
  rcases List.mem_or_eq_of_mem_set hm with cj|cj
  ·exact ae e cj
  ·exact cj▸ul
 ·intro j y aS
  rw [WW w4]
  rw [LV ae he ul] at aS
  by_cases lm:i*I.sz≤j∧j<i*I.sz+I.sz
  ·rw [if_pos lm,G5 hs] at aS
   by_cases O9:off≤j-i*I.sz∧j-i*I.sz<off+x.cells.length
   ·rw [if_pos O9] at aS
    rw [if_pos ⟨by omega,by omega⟩]
    have a8:j-(i*I.sz+off)<vs.length:=by omega
    refine ⟨vs[j-(i*I.sz+off)],List.getElem?_eq_getElem a8,i4 _ _ (List.getElem?_eq_getElem a8),eX (j-i*I.sz-off) y _ aS ?_⟩
    rw [show j-i*I.sz-off=j-(i*I.sz+off) by omega]
    exact List.getElem?_eq_getElem a8
   ·rw [if_neg O9] at aS
    rw [if_neg (by omega)]
    refine ay j y ?_
    rw [show j=i*I.sz+(j-i*I.sz) by omega,ys ae he (by omega)]
    exact aS
  ·rw [if_neg lm] at aS
   rw [if_neg (by rw [pg];omega)]
   exact ay j y aS
end Go.VL
namespace Go.VL
set_option linter.unusedVariables false
set_option linter.unusedSimpArgs false
open Go
def S.ha (s:S)(u:List (Nat×List al)):S:=u.foldl (fun s p=>s.setRow p.1 p.2) s
@[simp] theorem S.abG (s:S):s.ha []=s:=rfl
@[simp] theorem S.abH (s:S) (p:Nat×List al):s.ha [p]=s.setRow p.1 p.2:=rfl
section
variable {w:World} {ok:Nat→Prop} {aV:ik} {a4:h6} {v:Value}
theorem Rel.sP {x:Bool}(h:Rel w ok aV a4 (.b x) v):v = .bool x:=by cases h;rfl
theorem Rel.oH {k:IntKind}{x:Int}(h:Rel w ok aV a4 (.n k x) v):v = .int k x:=by cases h;rfl
theorem Rel.wV {x:ByteArray}(h:Rel w ok aV a4 (.s x) v):v = .string x:=by cases h;rfl
theorem Rel.tO (h:Rel w ok aV a4 .hh v):v = .pointer none:=by cases h;rfl
theorem Rel.o4 (h:Rel w ok aV a4 .eL v):v = .slice none 0 0:=by cases h;rfl
theorem Rel.CA (h:Rel w ok aV a4 .hx v): ∃a c,v = .slice (some a) 0 c:=by cases h;exact ⟨_,_,rfl⟩
theorem Rel.M6 {sz:Nat}(h:Rel w ok aV a4 (.eZ sz none) v):v = .pointer none:=by cases h;rfl
theorem Rel.Hz {sz:Nat}{c:List aw}(h:Rel w ok aV a4 (.eZ sz (some c)) v):Rel w ok aV a4 (.dV sz [c] 0 0) v:=by cases h;assumption
theorem Rel.CR {f:Nat}{c:List aw}(h:Rel w ok aV a4 (.fn f c) v): ∃vs:List Value,v = .func (.func f) #[] vs.toArray∧vs.length=c.length ∧
 ∀(j:Nat) x u,c[j]? = some x→vs[j]? = some u→Rel w ok aV a4 x u:=by
 cases h with|fn vs aG an=>exact ⟨vs,rfl,aG,an⟩
theorem Rel.yR {c:List aw}(h:Rel w ok aV a4 (.agg c) v): ∃vs:List Value,v = .agg vs.toArray∧vs.length=c.length∧(∀(j:Nat) u,vs[j]? = some u→VL.jf u=true) ∧
 ∀(j:Nat) x u,c[j]? = some x→vs[j]? = some u→Rel w ok aV a4 x u:=by
 cases h with|agg vs aG aP an=>exact ⟨vs,rfl,aG,aP,an⟩
theorem Rel.wD {c:List aw}(h:Rel w ok aV a4 (.dm c) v): ∃vs:List Value,v = .tuple vs.toArray∧vs.length=c.length ∧
 ∀(j:Nat) x u,c[j]? = some x→vs[j]? = some u→Rel w ok aV a4 x u:=by
 cases h with|dm vs aG an=>exact ⟨vs,rfl,aG,an⟩
theorem Rel.wE {r k i off sz:Nat}{p:Option (Nat×Nat)}(h:Rel w ok aV a4 (.ref r k i off) v)(ch:a4 r k=some (sz,p)):
 p=none∨ ∃b m,p=some (b,m)∧v = .pointer (some ⟨b,i*sz+off,none⟩):=by
 cases h with
 | o5 a hu a1 =>
  cases p with
  | none=>exact .inl rfl
  | some q=>exact absurd ch (a1 _ _)
 | ref hu h =>
  rw [ch] at h
  simp only [Option.some.injEq,Prod.mk.injEq] at h
  obtain ⟨rfl,rfl⟩:=h
  exact .inr ⟨_,_,rfl,rfl⟩
theorem Rel.abP {r k i off:Nat}(h:Rel w ok aV a4 (.ref r k i off) v): ∃a,v = .pointer a:=by
 cases h with
 | o5 a=>exact ⟨a,rfl⟩
 | ref=>exact ⟨_,rfl⟩
theorem Rel.UF {r k i off sz b m:Nat}(h:Rel w ok aV a4 (.ref r k i off) v)(ch:a4 r k=some (sz,some (b,m)))(Pa:Nat):
 Rel w ok aV a4 (.ref r k i Pa) (.pointer (some ⟨b,i*sz+Pa,none⟩)):=by
 cases h with
 | o5 a hu a1=>exact absurd ch (a1 _ _)
 | ref hu h=>exact .ref hu ch
theorem Rel.wF {sz i off:Nat}{es:List (List aw)}(h:Rel w ok aV a4 (.dV sz es i off) v): ∃dz I,(ok dz∧gU es)∧v = .pointer (some ⟨dz,I+(i*sz+off),none⟩)∧nI w ok aV a4 dz I sz es:=by
 cases h with
 | dV cs aM ak aG hw aP an=>exact ⟨_,_,⟨aM,ak⟩,rfl,aG,fun j x aa=>⟨cs j,hw j x aa,aP j x aa,an j x aa⟩⟩
theorem Rel.yS {r k bD len sz:Nat}{p:Option (Nat×Nat)}(h:Rel w ok aV a4 (.bu r k bD len) v)(ch:a4 r k=some (sz,p)):
 (p=none∧bD=0∧len=0∧v = .slice none 0 0)∨ ∃b m a c,p=some (b,m)∧v = .slice a len c∧len≤c∧c<9223372036854775808∧(c=0∨(a=some ⟨b,bD*sz,none⟩∧(bD+c)*sz=m)):=by
 cases h with
 | mo a l c hu a1=>rw [ch] at a1;simp at a1
 | mK hu h =>
  rw [ch] at h
  simp only [Option.some.injEq,Prod.mk.injEq] at h
  exact .inl ⟨h.2,rfl,rfl,rfl⟩
 | bu hu h aG aP hm =>
  rw [ch] at h
  simp only [Option.some.injEq,Prod.mk.injEq] at h
  obtain ⟨rfl,rfl⟩:=h
  exact .inr ⟨_,_,_,_,rfl,rfl,aG,aP,hm.2.imp id fun e=>⟨e,hm.1⟩⟩
theorem Rel.tP {r k bD len sz:Nat}{p:Option (Nat×Nat)}(h:Rel w ok aV a4 (.bu r k bD len) v)(ch:a4 r k=some (sz,p)):
 (p=none∧bD=0∧len=0∧v = .slice none 0 0)∨ ∃b m a c,p=some (b,m)∧v = .slice a len c∧len≤c∧c<9223372036854775808∧(bD+c)*sz=m∧(c=0∨a=some ⟨b,bD*sz,none⟩):=by
 cases h with
 | mo a l c hu a1=>rw [ch] at a1;simp at a1
 | mK hu h =>
  rw [ch] at h
  simp only [Option.some.injEq,Prod.mk.injEq] at h
  exact .inl ⟨h.2,rfl,rfl,rfl⟩
 | bu hu h aG aP hm =>
  rw [ch] at h
  simp only [Option.some.injEq,Prod.mk.injEq] at h
  obtain ⟨rfl,rfl⟩:=h
  exact .inr ⟨_,_,_,_,rfl,rfl,aG,aP,hm⟩
theorem Rel.abu {r k bD len:Nat}(h:Rel w ok aV a4 (.bu r k bD len) v): ∃a l c,v = .slice a l c:=by
 cases h<;>exact ⟨_,_,_,rfl⟩
theorem Rel.rM {sz:Nat}{es:List (List aw)}(h:Rel w ok aV a4 (.isl sz es) v):
 (es=[]∧ ∃a c,v = .slice a 0 c∧(a=none→c=0))∨ ∃dz off c,(ok dz∧gU es)∧v = .slice (some ⟨dz,off,none⟩) es.length c∧es.length≤c∧nI w ok aV a4 dz off sz es:=by
 cases h with
 | i5 sz a c h=>exact .inl ⟨rfl,a,c,rfl,h⟩
 | isl cs aM ak aG aP hw hG an=>exact .inr ⟨_,_,_,⟨aM,ak⟩,rfl,aP,aG,fun j x aa=>⟨cs j,hw j x aa,hG j x aa,an j x aa⟩⟩
theorem nI.isl {dz off c sz:Nat}{es:List (List aw)}(h:nI w ok aV a4 dz off sz es)(aM:ok dz∧gU es)(aP:es.length≤c):Rel w ok aV a4 (.isl sz es) (.slice (some ⟨dz,off,none⟩) es.length c):=by
 have aa : ∀j:Nat,∃v,∀x,es.flatten[j]? = some x→w.cell? ⟨dz,off+j,none⟩=some v∧VL.jf v=true∧Rel w ok aV a4 x v:=by
  intro j
  cases aC:es.flatten[j]? with
  | none=>exact ⟨undef,fun x aa=>by simp at aa⟩
  | some y =>
   obtain ⟨v,o⟩:=h.2 j y aC
   exact ⟨v,fun x aa=>by simp at aa;subst aa;exact o⟩
 exact .isl (fun j=>(aa j).choose) aM.1 aM.2 h.1 aP (fun j x aC=>((aa j).choose_spec x aC).1) (fun j x aC=>((aa j).choose_spec x aC).2.1) (fun j x aC=>((aa j).choose_spec x aC).2.2)
theorem nI.dV {dz I i off sz:Nat}{es:List (List aw)}(h:nI w ok aV a4 dz I sz es)(aM:ok dz∧gU es):Rel w ok aV a4 (.dV sz es i off) (.pointer (some ⟨dz,I+(i*sz+off),none⟩)):=by
 have aa : ∀j:Nat,∃v,∀x,es.flatten[j]? = some x→w.cell? ⟨dz,I+j,none⟩=some v∧VL.jf v=true∧Rel w ok aV a4 x v:=by
  intro j
  cases aC:es.flatten[j]? with
  | none=>exact ⟨undef,fun x aa=>by simp at aa⟩
  | some y =>
   obtain ⟨v,o⟩:=h.2 j y aC
   exact ⟨v,fun x aa=>by simp at aa;subst aa;exact o⟩
 exact .dV (fun j=>(aa j).choose) aM.1 aM.2 h.1 (fun j x aC=>((aa j).choose_spec x aC).1) (fun j x aC=>((aa j).choose_spec x aC).2.1) (fun j x aC=>((aa j).choose_spec x aC).2.2)
end
def Fin (P:Program)(g:G)(s:S)(a:Act)(w:World)(I:Oper)(bn:hj):Prop :=
 ∃v bx bC,((execOp a.eval I).run P w = .ok (.value v) bx∨((execOp a.eval I).run P w = .ok .skip bx∧v=undef)) ∧
  cE g (s.ha bn.fh) bC a bx∧Rel bx ((s.ha bn.fh).ok g bC bx) (s.ha bn.fh).aV ((s.ha bn.fh).a4 bC) bn.val v
section
variable {P:Program} {g:G} {s:S} {av:eS} {a:Act} {w:World} {I:Oper} {cG:e6} {aQ:Nat} {bn:hj}
theorem hB (h:cE g s av a w){v:Value}(h1:(execOp a.eval I).run P w = .ok (.value v) w)(hu:bn.fh=[])
 (an:Rel w (s.ok g av w) s.aV (s.a4 av) bn.val v):Fin P g s a w I bn :=
 ⟨v,w,av,.inl h1,by rw [hu];exact h,by rw [hu];exact an⟩
theorem NF {x:Operand}(h:cE g s av a w)(aj:I.op = .move x∨I.op = .assign x)(ar:el P s.E s.aR aQ I cG=some bn):Fin P g s a w I bn:=by
 have:bn={val:=eH s.E x}:=by rcases aj with aj|aj<;>simp [el,aj] at ar<;>exact ar.symm
 subst this
 refine hB (v:=a.eval x) h ?_ rfl (h.eval x)
 rcases aj with aj|aj<;>simp [execOp,aj]
theorem Wf {c x y:Operand}(h:cE g s av a w)(aj:I.op = .pick c x y)(ar:el P s.E s.aR aQ I cG=some bn)(cp:∀p∈bn.e1,p):Fin P g s a w I bn:=by
 have aP:=h.eval c
 simp only [el,aj] at ar
 have key : ∀t:Bool,eH s.E c = .b t→bn.fh=[]→bn.val=(if t then eH s.E x else eH s.E y)→Fin P g s a w I bn:=by
  intro t ch hu aY
  rw [ch] at aP
  have e:a.eval c = .bool t:=aP.sP
  refine hB (v:=if t then a.eval x else a.eval y) h (by simp [execOp,aj,e,asBool]) hu ?_
  rw [aY];cases t
  ·exact h.eval y
  ·exact h.eval x
 split at ar
 ·rename_i z t cd
  simp at ar;subst ar
  have e:z=t:=cp _ (by simp)
  subst e
  exact key z cd rfl rfl
 ·rename_i cd _;simp at ar;subst ar;exact key true cd rfl rfl
 ·rename_i cd _;simp at ar;subst ar;exact key false cd rfl rfl
 ·simp at ar
theorem CB (h:cE g s av a w)(et:s.aR aQ=none){v:Value}{ah:al}{c:Array Value}{d4:TypeId}(aU:ah.cg = .live)
 (h1:(execOp a.eval I).run P w = .ok (.value v) (w.alloc (.cells c d4))) (hu:bn.fh=[(aQ,[ah])]) (hlen : ∀e∈ah.es,e.length=ah.sz)
 (aP : ∀(j:Nat) x,ah.es.flatten[j]? = some x→ ∃v,c[j]? = some v∧jf v=true∧Rel w (s.ok g av w) s.aV (s.a4 av) x v)
 (hval : ∀(bx:World) (jO:Nat→Prop) (lY:ik) (lk:h6),lY aQ 0→lk aQ 0=some (ah.sz,some (w.heap.size,c.size))→Rel bx jO lY lk bn.val v):Fin P g s a w I bn:=by
 obtain ⟨bC,ak,bR,-⟩:=h.alloc et ah aU c d4 hlen aP
 have o:(s.setRow aQ [ah]).aV aQ 0:=by rw [mn];simp
 have R:(s.setRow aQ [ah]).a4 bC aQ 0=some (ah.sz,some (w.heap.size,c.size)):=by simp [S.a4,kw,k8,aU,ak]
 exact ⟨v,_,bC,.inl h1,by rw [hu];exact bR,by rw [hu];exact hval _ _ _ _ o R⟩
theorem yt {t:TypeId}{z:List aw}(cd:qi P t=some z): ∃i dY,P.info? t=some i∧i.zero=some dY∧z=dY.cells.toList.map ofValue ∧
 ∀(j:Nat) x,z[j]? = some x→ ∃v,dY.cells[j]? = some v∧jf v=true∧ ∀(w:World) (ok:Nat→Prop) (aV:ik) (a4:h6),Rel w ok aV a4 x v:=by
 unfold qi at cd
 cases af:P.info? t with
 | none=>simp [af] at cd
 | some i =>
  cases j6:i.zero with
  | none=>simp [af,j6] at cd
  | some dY =>
   simp only [af,j6] at cd
   split at cd
   ·rename_i mU
    simp only [Option.some.injEq] at cd
    refine ⟨i,dY,rfl,j6,cd.symm,fun j x aa=> ?_⟩
    subst cd
    rw [List.getElem?_map,Option.map_eq_some_iff] at aa
    obtain ⟨v,aY,rfl⟩:=aa
    refine ⟨v,by rw [← Array.getElem?_toList];exact aY,?_,fun w ok aV a4=>LS v⟩
    exact List.all_eq_true.1 mU v (List.mem_of_getElem? aY)
   ·simp at cd
theorem Vl {t:TypeId}(h:cE g s av a w)(et:s.aR aQ=none)(aj:I.op = .alloc t)(ar:el P s.E s.aR aQ I cG=some bn):Fin P g s a w I bn:=by
 simp only [el,aj] at ar
 split at ar
 ·rename_i z cd
  obtain ⟨i,dY,af,j6,e,i4⟩:=yt cd
  simp only [Option.some.injEq] at ar
  subst ar
  refine CB (v:= .pointer (some ⟨w.heap.size,0,none⟩)) (c:=dY.cells) (d4:=t) (ah:=⟨z.length,[z],.live⟩) h et rfl ?_ rfl (by simp) ?_ ?_
  ·simp [execOp,aj,Instr.alloc,zeroValue,typeInfo,af,j6,newVar,newRow]
  ·intro j x aa
   simp only [List.flatten_cons,List.flatten_nil,List.append_nil] at aa
   obtain ⟨v,o,R,ae⟩:=i4 j x aa
   exact ⟨v,o,R,ae _ _ _ _⟩
  ·intro bx jO lY lk hu ch
   have:=Rel.ref (w:=bx) (ok:=jO) (i:=0) (off:=0) hu ch
   simpa using this
 ·simp at ar
theorem WX {t:TypeId}{x:Operand}(h:cE g s av a w)(et:s.aR aQ=none)(aj:I.op = .box t x)(ar:el P s.E s.aR aQ I cG=some bn):Fin P g s a w I bn:=by
 simp only [el,aj] at ar
 have aa:=h.eval x
 have key : ∀ah:al,ah.cg = .live→ah.es=[(eH s.E x).cells]→ah.sz=(eH s.E x).cells.length→((eH s.E x).one=true∨ ∃c,eH s.E x = .agg c) →
  bn.fh=[(aQ,[ah])]→bn.val = .ref aQ 0 0 0→Fin P g s a w I bn:=by
  intro ah aU gC ev kO hu aY
  obtain ⟨vs,ax,aF,b4,dy⟩:=aa.cellsOf kO
  refine CB (v:= .pointer (some ⟨w.heap.size,0,none⟩)) (c:=(a.eval x).cells) (d4:=t) h et aU ?_ hu ?_ ?_ ?_
  ·simp [execOp,aj,Instr.box,newVar,newRow]
  ·intro e he;rw [gC] at he;simp at he;rw [he,ev]
  ·intro j y aS
   rw [gC] at aS
   simp only [List.flatten_cons,List.flatten_nil,List.append_nil] at aS
   have aC:j<vs.length:=by
    rcases Nat.lt_or_ge j (eH s.E x).cells.length with cj|cj
    ·omega
    ·rw [List.getElem?_eq_none cj] at aS;simp at aS
   refine ⟨vs[j],by rw [ax];simp [aC],b4 j _ (List.getElem?_eq_getElem aC),dy j y _ aS (List.getElem?_eq_getElem aC)⟩
  ·intro bx jO lY lk nC ch
   have:=Rel.ref (w:=bx) (ok:=jO) (i:=0) (off:=0) nC ch
   rw [aY];simpa using this
 split at ar
 ·rename_i c aP
  simp only [Option.some.injEq] at ar
  subst ar
  exact key _ rfl (by rw [aP];rfl) (by rw [aP];rfl) (.inr ⟨c,aP⟩) rfl rfl
 ·split at ar
  ·rename_i kO
   simp only [Option.some.injEq] at ar
   subst ar
   have e:(eH s.E x).cells=[eH s.E x]:=by
    generalize eH s.E x=y at kO
    cases y<;>first|rfl|simp [aw.one] at kO
   exact key _ rfl (by rw [e]) (by rw [e];rfl) (.inl kO) rfl rfl
  ·simp at ar
theorem hD {s:S}{av:eS}{r k:Nat}{ah:al}(h:s.ah r k=some ah):s.a4 av r k=some (ah.sz,av r k):=by simp [S.a4,h]
theorem sG {row:Option (List al)}{k:Nat}{ah:al}{bY:List Prop}(h:oi row k cG=some (ah,bY))(cp:∀p∈bY,p):c0 row k=some ah:=by
 unfold oi at h
 split at h
 ·split at h
  ·simp at h;obtain ⟨rfl,rfl⟩:=h;exact cp _ (by simp)
  ·simp at h
 ·split at h
  ·rename_i cj;simp at h;obtain ⟨rfl,rfl⟩:=h;exact cj
  ·simp at h
theorem yA {es:List (List aw)}{i:Nat}{c:List aw}{bY:List Prop}(h:elemAt es i cG=some (c,bY))(cp:∀p∈bY,p):es[i]? = some c:=by
 unfold elemAt at h
 split at h
 ·simp at h;obtain ⟨rfl,rfl⟩:=h;exact cp _ (by simp)
 ·simp at h;obtain ⟨rfl,rfl⟩:=h;exact cp _ (by simp)
 ·split at h
  ·rename_i cj;simp at h;obtain ⟨rfl,rfl⟩:=h;exact cj
  ·simp at h
theorem Wg {t:TypeId}{x:Operand}(h:cE g s av a w)(aj:I.op = .load t x)(ar:el P s.E s.aR aQ I cG=some bn)(cp:∀p∈bn.e1,p):Fin P g s a w I bn:=by
 simp only [el,aj] at ar
 have aa:=h.eval x
 split at ar
 ·rename_i r k i off gf
  rw [gf] at aa
  split at ar
  ·rename_i ah bY bd
   split at ar
   ·rename_i c a9 mx
    split at ar
    ·rename_i v aY
     simp only [Option.some.injEq] at ar
     subst ar
     have jj:s.ah r k=some ah:=sG bd fun p ak=>cp p (by simp [ak])
     have qx:=yA mx fun p ak=>cp p (by simp [ak])
     have eX:=h.obj r k ah jj
     rcases aa.wE (hD jj) with h0|⟨b,m,ak,hval⟩
     ·rw [h0] at eX
      simp only [iv] at eX
      rw [eX] at qx;simp at qx
     ·rw [ak] at eX
      obtain ⟨u,o,R⟩:=Hh (P:=P) eX.rd qx aY
      refine hB (v:=u) h ?_ rfl R
      rw [Nat.zero_add] at o
      simp [execOp,aj,hval,o]
    ·simp at ar
   ·simp at ar
  ·simp at ar
 ·rename_i sz es i off gf
  rw [gf] at aa
  split at ar
  ·rename_i c a9 mx
   split at ar
   ·rename_i v aY
    simp only [Option.some.injEq] at ar
    subst ar
    have qx:=yA mx fun p ak=>cp p (by simp [ak])
    obtain ⟨dz,bX,aM,hval,hy⟩:=aa.wF
    obtain ⟨u,o,R⟩:=Hh (P:=P) hy qx aY
    refine hB (v:=u) h ?_ rfl R
    simp [execOp,aj,hval,o]
   ·simp at ar
  ·simp at ar
 ·simp at ar
end
end Go.VL
namespace Go.VL
set_option linter.unusedVariables false
set_option linter.unusedSimpArgs false
open Go
section
variable {P:Program} {g:G} {s:S} {av:eS} {a:Act} {w:World} {I:Oper} {cG:e6} {aQ:Nat} {bn:hj}
theorem MG (h:cE g s av a w){r k i off:Nat}{row:List al}{ah:al}{c:List aw}{t:TypeId}{x y:Operand}(aj:I.op = .store t x y)
 (gf:eH s.E x = .ref r k i off) (c8:s.aR r=some row) (bd:s.ah r k=some ah) (aU:ah.cg = .live) (mx:ah.es[i]? = some c)
 (kO:(eH s.E y).one=true∨ ∃c,eH s.E y = .agg c) (ev:(eH s.E y).cells.length=P.cellsOf t) (I9:(P.info? t).isSome=true)
 (hs:off+(eH s.E y).cells.length≤c.length) (ar:bn.val = .dead) (hu:bn.fh=[(r,row.set k {ah with es:=ah.es.set i (setCells c off (eH s.E y).cells)})]):Fin P g s a w I bn:=by
 have aa:=h.eval x
 rw [gf] at aa
 have eX:=h.obj r k ah bd
 rcases aa.wE (hD bd) with h0|⟨b,m,ak,hval⟩
 ·rw [h0] at eX;simp only [iv] at eX;rw [eX] at mx;simp at mx
 ·obtain ⟨bx,o,R⟩:=TP (P:=P) h c8 bd aU ak mx I9 (h.eval y) kO ev hs
  refine ⟨undef,bx,av,.inr ⟨?_,rfl⟩,by rw [hu];exact R,by rw [ar];exact .dead _⟩
  simp [execOp,aj,hval,o]
theorem Vm {t:TypeId}{x y:Operand}(h:cE g s av a w)(aj:I.op = .store t x y)(ar:el P s.E s.aR aQ I cG=some bn)(cp:∀p∈bn.e1,p):Fin P g s a w I bn:=by
 simp only [el,aj] at ar
 split at ar
 ·rename_i r k i off gf
  split at ar
  ·simp at ar
  ·rename_i row c8
   split at ar
   ·rename_i ah bY Yb
    split at ar
    ·simp at ar
    ·rename_i aU
     have aU:ah.cg = .live:=by simpa using aU
     split at ar
     ·simp at ar
     ·rename_i kO
      have kO:=aw.LU (by simpa using kO)
      split at ar
      ·simp at ar
      ·rename_i ev
       simp only [not_or,Decidable.not_not,Bool.not_eq_false] at ev
       have jj:(∀p∈bY,p)→s.ah r k=some ah:=fun bA=>by
        have:=sG Yb bA
        unfold S.ah;rw [c8];exact this
       split at ar
       ·split at ar
        ·rename_i w3
         simp only [Option.some.injEq] at ar
         subst ar;subst w3
         have di:i<ah.es.length:=cp _ (by simp)
         have hG:(eH s.E y).cells.length=ah.sz:=cp _ (by simp)
         have zt:=jj fun p ak=>cp p (by simp [ak])
         have hlen:(ah.es[i]).length=ah.sz:=by
          have eX:=h.obj r k ah zt
          cases ak:av r k with
          | none=>rw [ak] at eX;simp only [iv] at eX;rw [eX] at di;simp at di
          | some q =>
           rw [ak] at eX
           obtain ⟨_,_,_,_,ae,_⟩:=eX
           exact ae _ (List.getElem_mem di)
         refine MG h aj gf c8 zt aU (c:=ah.es[i]) (List.getElem?_eq_getElem di) kO ev.1 ev.2 (by omega) rfl ?_
         have e:setCells ah.es[i] 0 (eH s.E y).cells=(eH s.E y).cells:=by
          simp [setCells,hlen,hG]
         rw [e]
        ·simp at ar
       ·split at ar
        ·rename_i c a9 mx
         split at ar
         ·rename_i hs
          simp only [Option.some.injEq] at ar
          subst ar
          exact MG h aj gf c8 (jj fun p ak=>cp p (by simp [ak])) aU (yA mx fun p ak=>cp p (by simp [ak])) kO ev.1 ev.2 hs rfl rfl
         ·simp at ar
        ·simp at ar
   ·simp at ar
 ·simp at ar
theorem TQ {x:Operand}(h:cE g s av a w)(aj:I.op = .nilCheck x)(ar:el P s.E s.aR aQ I cG=some bn)(cp:∀p∈bn.e1,p):Fin P g s a w I bn:=by
 simp only [el,aj] at ar
 have aa:=h.eval x
 split at ar
 ·rename_i r k i off gf
  rw [gf] at aa
  split at ar
  ·rename_i ah bY bd
   split at ar
   ·rename_i c a9 mx
    simp only [Option.some.injEq] at ar
    subst ar
    have jj:s.ah r k=some ah:=sG bd fun p ak=>cp p (by simp [ak])
    have qx:=yA mx fun p ak=>cp p (by simp [ak])
    have eX:=h.obj r k ah jj
    rcases aa.wE (hD jj) with h0|⟨b,m,ak,hval⟩
    ·rw [h0] at eX;simp only [iv] at eX;rw [eX] at qx;simp at qx
    ·refine hB (v:=a.eval x) h ?_ rfl aa
     simp [execOp,aj,hval]
   ·simp at ar
  ·simp at ar
 ·rename_i sz es i off gf
  rw [gf] at aa
  simp only [Option.some.injEq] at ar
  subst ar
  obtain ⟨dz,bX,aM,hval,hy⟩:=aa.wF
  refine hB (v:=a.eval x) h ?_ rfl aa
  simp [execOp,aj,hval]
 ·rename_i f c gf
  rw [gf] at aa
  simp only [Option.some.injEq] at ar
  subst ar
  obtain ⟨vs,hval,-⟩:=aa.CR
  refine hB (v:=a.eval x) h ?_ rfl aa
  simp [execOp,aj,hval]
 ·simp at ar
theorem UG {op:BinOp}{t:TypeId}{x y z:aw}{ah:List Prop}(ar:IE op x y=some (z,ah))(cp:∀p∈ah,p)
 {ok:Nat→Prop} {aV:ik} {a4:h6} {j8 j9:Value} (aa:Rel w ok aV a4 x j8) (aS:Rel w ok aV a4 y j9) (p q:Operand) :
 ∃v,((do eqGuard op t p q j8 j9;binOp op t j8 j9):Sem Value).run P w = .ok v w∧Rel w ok aV a4 z v:=by
 unfold IE at ar
 split at ar
 ·rename_i k n dl mE
  have hf:=aa.oH;have il:=aS.oH
  subst hf;subst il
  have dt : ∀op,eqGuard op t p q (.int k n) (.int dl mE)=pure ():=fun op=>eqGuard_at_int ..
  simp only [Sem.run_bind,dt,Sem.run_pure,Result.andThen_ok]
  split at ar
  ·simp only [Option.some.injEq,Prod.mk.injEq] at ar
   obtain ⟨rfl,rfl⟩:=ar
   have h0:0≤mE:=cp _ (by simp)
   exact ⟨_,by simp [binOp,Op.shift,show ¬mE<0 by omega],.n _ _⟩
  ·simp only [Option.some.injEq,Prod.mk.injEq] at ar
   obtain ⟨rfl,rfl⟩:=ar
   have h0:0≤mE:=cp _ (by simp)
   exact ⟨_,by simp [binOp,Op.shift,show ¬mE<0 by omega],.n _ _⟩
  ·split at ar
   ·simp at ar
   ·rename_i aU
    have aU:k=dl:=by simpa using aU
    subst aU
    split at ar<;>simp only [Option.some.injEq,Prod.mk.injEq,reduceCtorEq] at ar
    all_goals (obtain ⟨rfl,rfl⟩:=ar)
    case h_4|h_5 =>
     have h0:mE≠0:=cp _ (by simp)
     exact ⟨_,by simp [binOp,Op.intDiv,h0],.n _ _⟩
    all_goals first
     | (refine ⟨_,?_,.n _ _⟩;rw [binOp_add];rfl)
     | (refine ⟨_,?_,.n _ _⟩;rw [binOp_sub];rfl)
     | (refine ⟨_,?_,.n _ _⟩;rw [binOp_mul];rfl)
     | (refine ⟨_,?_,.n _ _⟩;rw [binOp_and];rfl)
     | (refine ⟨_,?_,.n _ _⟩;rw [binOp_or];rfl)
     | (refine ⟨_,?_,.n _ _⟩;rw [binOp_xor];rfl)
     | (refine ⟨_,?_,.b _⟩;simp [binOp,Op.intCmp];done)
 ·rename_i cA k1
  have hf:=aa.wV;have il:=aS.wV
  subst hf;subst il
  have dt : ∀op,eqGuard op t p q (.string cA) (.string k1)=pure ():=fun op=>eqGuard_at_string ..
  simp only [Sem.run_bind,dt,Sem.run_pure,Result.andThen_ok]
  split at ar<;>simp only [Option.some.injEq,Prod.mk.injEq,reduceCtorEq] at ar
  all_goals (obtain ⟨rfl,rfl⟩:=ar)
  ·have h0:cA.size+k1.size<9223372036854775808:=cp _ (by simp)
   refine ⟨_,?_,.s _⟩
   have o : ¬((cA.size+k1.size:Nat):Int)>IntKind.i64.max:=by rw [IntKind.max_i64];omega
   rw [IntKind.max_i64] at o
   simp [binOp,Op.stringOp]
   omega
  ·exact ⟨_,by simp [binOp,Op.stringOp],.b _⟩
  ·exact ⟨_,by simp [binOp,Op.stringOp],.b _⟩
 ·simp at ar
theorem tJ (t:TypeId)(x y:Value):Op.equal t x y=Op.equalIn (9999+1) t x y:=rfl
theorem yg {t:TypeId}{a b:Bool}(d:Nat)(ba:P.underlying t=some .bool):(Op.equalIn (d+1) t (.bool a) (.bool b)).run P w = .ok (a == b) w:=by
 unfold Op.equalIn;simp [run_underlying ba]
theorem yu {t e:TypeId}(d:Nat)(ba:P.underlying t=some (.pointer e)):(Op.equalIn (d+1) t (.pointer none) (.pointer none)).run P w = .ok true w:=by
 unfold Op.equalIn;simp [run_underlying ba]
theorem yv {t e:TypeId}{a:Addr}(d:Nat)(ba:P.underlying t=some (.pointer e)):(Op.equalIn (d+1) t (.pointer (some a)) (.pointer none)).run P w = .ok false w:=by
 unfold Op.equalIn;simp [run_underlying ba]
theorem yw {t e:TypeId}{a:Addr}(d:Nat)(ba:P.underlying t=some (.pointer e)):(Op.equalIn (d+1) t (.pointer none) (.pointer (some a))).run P w = .ok false w:=by
 unfold Op.equalIn;simp [run_underlying ba]
theorem yx {t e:TypeId}(d:Nat)(ba:P.underlying t=some (.slice e)):(Op.equalIn (d+1) t (.slice none 0 0) (.slice none 0 0)).run P w = .ok true w:=by
 unfold Op.equalIn;simp [run_underlying ba]
theorem Md {t e:TypeId}{a:Addr}{c:Nat}(d:Nat)(ba:P.underlying t=some (.slice e))(n:Nat):(Op.equalIn (d+1) t (.slice (some a) n c) (.slice none 0 0)).run P w = .ok false w:=by
 unfold Op.equalIn;simp [run_underlying ba]
theorem wz {t:TypeId}{x y:aw}{r:Bool}(ar:re P t x y=some r)
 {ok:Nat→Prop} {aV:ik} {a4:h6} {j8 j9:Value} (aa:Rel w ok aV a4 x j8) (aS:Rel w ok aV a4 y j9) (p q:Operand) :
 ((do eqGuard .eql t p q j8 j9;binOp .eql t j8 j9):Sem Value).run P w = .ok (.bool r) w ∧
 ((do eqGuard .neq t p q j8 j9;binOp .neq t j8 j9):Sem Value).run P w = .ok (.bool !r) w:=by
 have key : ∀b:Bool,(∀op,eqGuard op t p q j8 j9=pure ())→binOp .eql t j8 j9=(do pure (.bool (← Op.equal t j8 j9)))→binOp .neq t j8 j9=(do pure (.bool (!(← Op.equal t j8 j9)))) →
  (Op.equal t j8 j9).run P w = .ok b w→((do eqGuard .eql t p q j8 j9;binOp .eql t j8 j9):Sem Value).run P w = .ok (.bool b) w ∧
  ((do eqGuard .neq t p q j8 j9;binOp .neq t j8 j9):Sem Value).run P w = .ok (.bool !b) w:=by
  intro b dt o R ae
  constructor
  ·rw [dt,o];simp [ae]
  ·rw [dt,R];simp [ae]
 unfold re at ar
 split at ar
 ·rename_i cA k1 ba
  simp only [Option.some.injEq] at ar;subst ar
  have hf:=aa.sP;have il:=aS.sP
  subst hf;subst il
  exact key _ (fun op=>eqGuard_at_bool ..) rfl rfl (by rw [tJ];first|exact yg _ ba|exact yu _ ba|exact yv _ ba|exact yw _ ba|exact yx _ ba)
 ·rename_i e ba
  simp only [Option.some.injEq] at ar;subst ar
  have hf:=aa.tO;have il:=aS.tO
  subst hf;subst il
  exact key _ (fun op=>eqGuard_at_pointer ..) rfl rfl (by rw [tJ];first|exact yg _ ba|exact yu _ ba|exact yv _ ba|exact yw _ ba|exact yx _ ba)
 ·rename_i e sz es i off ba
  simp only [Option.some.injEq] at ar;subst ar
  obtain ⟨dz,bX,-,hf,-⟩:=aa.wF
  have il:=aS.tO
  subst hf;subst il
  exact key _ (fun op=>eqGuard_at_pointer ..) rfl rfl (by rw [tJ];first|exact yg _ ba|exact yu _ ba|exact yv _ ba|exact yw _ ba|exact yx _ ba)
 ·rename_i e sz es i off ba
  simp only [Option.some.injEq] at ar;subst ar
  obtain ⟨dz,bX,-,il,-⟩:=aS.wF
  have hf:=aa.tO
  subst hf;subst il
  exact key _ (fun op=>eqGuard_at_pointer ..) rfl rfl (by rw [tJ];first|exact yg _ ba|exact yu _ ba|exact yv _ ba|exact yw _ ba|exact yx _ ba)
 ·rename_i e ba
  simp only [Option.some.injEq] at ar;subst ar
  have hf:=aa.o4;have il:=aS.o4
  subst hf;subst il
  exact key _ (fun op=>eqGuard_at_slice ..) rfl rfl (by rw [tJ];first|exact yg _ ba|exact yu _ ba|exact yv _ ba|exact yw _ ba|exact yx _ ba)
 ·rename_i e ba
  simp only [Option.some.injEq] at ar;subst ar
  obtain ⟨uN,c,hf⟩:=aa.CA
  have il:=aS.o4
  subst hf;subst il
  exact key _ (fun op=>eqGuard_at_slice ..) rfl rfl (by rw [tJ];exact Md _ ba 0)
 ·simp at ar
theorem Od {t e:TypeId}(ba:P.underlying t=some (.slice e)){sz:Nat}{es:List (List aw)}(cF:es≠[])
 {ok:Nat→Prop} {aV:ik} {a4:h6} {j8 j9:Value} (aa:Rel w ok aV a4 (.isl sz es) j8) (aS:Rel w ok aV a4 .eL j9) (p q:Operand) :
 ((do eqGuard .eql t p q j8 j9;binOp .eql t j8 j9):Sem Value).run P w = .ok (.bool false) w ∧
 ((do eqGuard .neq t p q j8 j9;binOp .neq t j8 j9):Sem Value).run P w = .ok (.bool true) w:=by
 rcases aa.rM with ⟨h0,-⟩|⟨dz,off,c,-,hf,-⟩
 ·exact absurd h0 cF
 ·have il:=aS.o4
  subst hf;subst il
  have ae:(Op.equal t (.slice (some ⟨dz,off,none⟩) es.length c) (.slice none 0 0)).run P w = .ok false w:=by rw [tJ];exact Md _ ba _
  have dt : ∀op,eqGuard op t p q (.slice (some ⟨dz,off,none⟩) es.length c) (.slice none 0 0)=pure ():=fun op=>eqGuard_at_slice ..
  have o:binOp .eql t (.slice (some ⟨dz,off,none⟩) es.length c) (.slice none 0 0)=(do pure (.bool (← Op.equal t (.slice (some ⟨dz,off,none⟩) es.length c) (.slice none 0 0)))):=rfl
  have R:binOp .neq t (.slice (some ⟨dz,off,none⟩) es.length c) (.slice none 0 0)=(do pure (.bool (!(← Op.equal t (.slice (some ⟨dz,off,none⟩) es.length c) (.slice none 0 0))))):=rfl
  constructor
  ·rw [dt,o];simp [ae]
  ·rw [dt,R];simp [ae]
theorem Vn {op:BinOp}{t dc:TypeId}{x y:Operand}(h:cE g s av a w)(aj:I.op = .binOp op t x y dc)(ar:el P s.E s.aR aQ I cG=some bn)(cp:∀p∈bn.e1,p):Fin P g s a w I bn:=by
 simp only [el,aj] at ar
 have aa:=h.eval x
 have aS:=h.eval y
 split at ar
 ·rename_i v ah aM
  simp only [Option.some.injEq] at ar
  subst ar
  obtain ⟨u,o,R⟩:=UG (P:=P) (t:=t) aM cp aa aS x y
  refine hB (v:=u) h ?_ rfl R
  simp only [execOp,aj]
  rw [Sem.run_bind,o];rfl
 ·split at ar
  ·cases he:re P t (eH s.E x) (eH s.E y) with
   | none=>simp [he] at ar
   | some r =>
    simp [he] at ar;subst ar
    refine hB (v:= .bool r) h ?_ rfl (.b r)
    simp only [execOp,aj]
    rw [Sem.run_bind,(wz (w:=w) he aa aS x y).1];rfl
  ·cases he:re P t (eH s.E x) (eH s.E y) with
   | none=>simp [he] at ar
   | some r =>
    simp [he] at ar;subst ar
    refine hB (v:= .bool !r) h ?_ rfl (.b _)
    simp only [execOp,aj]
    rw [Sem.run_bind,(wz (w:=w) he aa aS x y).2];rfl
  ·simp at ar
theorem Wh {op:UnOp}{t:TypeId}{x:Operand}(h:cE g s av a w)(aj:I.op = .unOp op t x)(ar:el P s.E s.aR aQ I cG=some bn):Fin P g s a w I bn:=by
 simp only [el,aj] at ar
 have aa:=h.eval x
 cases he:I7 op (eH s.E x) with
 | none=>simp [he] at ar
 | some v =>
  simp [he] at ar;subst ar
  unfold I7 at he
  split at he
  ·rename_i k n gf
   rw [gf] at aa
   simp only [Option.some.injEq] at he;subst he
   refine hB (v:= .int k (k.wrap (0-n))) h ?_ rfl (.n _ _)
   simp [execOp,aj,aa.oH,Op.unary,Op.intArith]
  ·rename_i b gf
   rw [gf] at aa
   simp only [Option.some.injEq] at he;subst he
   refine hB (v:= .bool !b) h ?_ rfl (.b _)
   simp [execOp,aj,aa.sP,Op.unary]
  ·simp at he
theorem T9 {t dc:TypeId}{x:Operand}(h:cE g s av a w)(aj:I.op = .convert t dc x)(ar:el P s.E s.aR aQ I cG=some bn):Fin P g s a w I bn:=by
 simp only [el,aj] at ar
 have aa:=h.eval x
 split at ar
 ·rename_i k dl n ba gf
  rw [gf] at aa
  split at ar
  case isFalse=>simp at ar
  rename_i bR
  simp only [Option.some.injEq] at ar
  subst ar
  refine hB (v:= .int k (k.wrap n)) h ?_ rfl (.n _ _)
  cases Pv:P.underlying t with
  | none=>simp [Pv] at bR
  | some d=>simp [execOp,aj,aa.oH,convert,run_underlying ba,run_underlying Pv,Conv.intToInt]
 ·rename_i r k bD len ba gf
  rw [gf] at aa
  split at ar
  ·rename_i ah Dg bd
   split at ar
   ·rename_i mD zR
    split at ar
    ·rename_i aP
     simp only [Option.some.injEq] at ar
     subst ar
     obtain ⟨e,bR,he⟩ : ∃e,P.underlying t=some (.slice e)∧P.underlying e=some (.int .u8):=by
      unfold o8 at Dg
      split at Dg
      ·rename_i e bR;exact ⟨e,bR,Dg⟩
      ·simp at Dg
     have dn:s.ah r k=some ah:=bd
     have eX:=h.obj r k ah dn
     have hzero : ∀(pu:Option Addr) (c:Nat),len=0→(convert t dc (.slice pu 0 c)).run P w = .ok (.string (w2 mD)) w:=by
      intro pu c h0
      subst h0
      have:mD=[]:=by simpa [bytesOf] using zR
      subst this
      cases pu with
      | none=>rw [run_convert_bytes_string w t dc e none 0 c bR he ba];simp [Conv.bytesToString,w2]
      | some pu =>
       rw [run_convert_bytes_string w t dc e (some pu) 0 c bR he ba,run_bytesToString w pu 0 c [] (by
        have:=run_loadCells_list (P:=P) w pu [] (fun j v aC=>by simp at aC)
        simpa using this)]
       rfl
     rcases aa.yS (hD dn) with ⟨ak,rfl,rfl,hval⟩|⟨b,m,A,c,ak,hval,qC,sa,hm⟩
     ·refine hB (v:= .string (w2 mD)) h ?_ rfl (.s _)
      simp [execOp,aj,hval,hzero none 0 rfl]
     ·refine hB (v:= .string (w2 mD)) h ?_ rfl (.s _)
      by_cases h0:len=0
      ·subst h0;simp [execOp,aj,hval,hzero A c rfl]
      ·rcases hm with hm|⟨hA,hm⟩
       ·omega
       ·subst hA
        rw [ak] at eX
        have hy:=eX.rd
        have xa : ∀(es:List (List aw)) (mD:List Int),bytesOf es=some mD→es.length=mD.length∧ ∀(i:Nat) n,mD[i]? = some n→es[i]? = some [.n .u8 n]:=by
         intro es
         induction es with
         | nil=>intro mD h;simp [bytesOf] at h;subst h;exact ⟨rfl,fun i n af=>by simp at af⟩
         | cons x es ih =>
          intro mD h
          unfold bytesOf at h
          split at h
          ·simp at *
          ·rename_i n0 acr Ds
           simp only [List.cons.injEq] at Ds
           obtain ⟨rfl,rfl⟩:=Ds
           rw [Option.map_eq_some_iff] at h
           obtain ⟨fz,YZ,rfl⟩:=h
           obtain ⟨ax,aF⟩:=ih fz YZ
           refine ⟨by simp [ax],fun i n af=> ?_⟩
           cases i with
           | zero=>simp at af;subst af;rfl
           | succ i=>simpa using aF i n (by simpa using af)
          ·simp at h
        obtain ⟨ax,aF⟩:=xa _ _ zR
        have hlen:mD.length=len:=by rw [← ax];simp;omega
        have XJ:(loadCells ⟨b,bD*ah.sz,none⟩ len).run P w = .ok (mD.map (Value.int .u8)).toArray w:=by
         have:=run_loadCells_list (P:=P) w ⟨b,bD*ah.sz,none⟩ (mD.map (Value.int .u8)) (fun j v aC=>by
          rw [List.getElem?_map,Option.map_eq_some_iff] at aC
          obtain ⟨n,a1,rfl⟩:=aC
          have lm:=aF j n a1
          have um:j<len:=by rw [← hlen];exact (List.getElem?_eq_some_iff.1 a1).1
          rw [List.getElem?_take_of_lt um,List.getElem?_drop] at lm
          obtain ⟨v,v1,v2,v3⟩:=hy.2 ((bD+j)*ah.sz+0) (.n .u8 n) (by rw [ys hy.1 lm (by omega)];rfl)
          have aY:=v3.oH
          subst aY
          rw [q3,← v1,aP.2]
          congr 2
          omega)
         rw [List.length_map,hlen] at this
         exact this
        have R:=run_bytesToString w ⟨b,bD*ah.sz,none⟩ len c mD XJ
        rw [← run_convert_bytes_string w t dc e _ len c bR he ba] at R
        simp [execOp,aj,hval,R,w2]
    ·simp at ar
   ·simp at ar
  ·simp at ar
 ·simp at ar
theorem TR {f:Fn}{AB ca:Array Operand}(h:cE g s av a w)(aj:I.op = .makeFunc f AB ca)(ar:el P s.E s.aR aQ I cG=some bn):Fin P g s a w I bn:=by
 cases f with
 | func n =>
  simp only [el,aj] at ar
  split at ar
  ·rename_i Y0
   simp only [Option.some.injEq] at ar;subst ar
   refine hB (v:= .func (.func n) #[] (ca.map a.eval)) h ?_ rfl ?_
   ·have:AB = #[]:=by simpa using Y0
    subst this
    simp [execOp,aj,Instr.makeFunc]
   ·have:=Rel.fn (f:=n) (c:=ca.toList.map (eH s.E)) (w:=w) (ok:=s.ok g av w) (aV:=s.aV) (a4:=s.a4 av) (ca.toList.map a.eval) (by simp) (by
     intro j x v aa aY
     rw [List.getElem?_map,Option.map_eq_some_iff] at aa aY
     obtain ⟨p,ak,rfl⟩:=aa
     obtain ⟨q,a8,rfl⟩:=aY
     rw [ak] at a8;simp at a8;subst a8
     exact h.eval p)
    have e:(ca.toList.map a.eval).toArray=ca.map a.eval:=by apply Array.ext';rw [Array.toList_map]
    rw [e] at this
    exact this
  ·simp at ar
 | _=>simp [el,aj] at ar
theorem Ua {i:Nat}{x:Operand}(h:cE g s av a w)(aj:I.op = .extract x i)(ar:el P s.E s.aR aQ I cG=some bn):Fin P g s a w I bn:=by
 simp only [el,aj] at ar
 have aa:=h.eval x
 split at ar
 ·rename_i vs gf
  rw [gf] at aa
  cases af:vs[i]? with
  | none=>simp [af] at ar
  | some v =>
   simp [af] at ar;subst ar
   obtain ⟨aV,hval,aG,an⟩:=aa.wD
   have di:i<aV.length:=by
    rcases Nat.lt_or_ge i vs.length with cj|cj
    ·omega
    ·rw [List.getElem?_eq_none cj] at af;simp at af
   have hu:aV[i]? = some aV[i]:=List.getElem?_eq_getElem di
   refine hB (v:=aV[i]) h ?_ rfl (an i v _ af hu)
   simp [execOp,aj,hval,Instr.extract,hu]
 ·simp at ar
end
end Go.VL
namespace Go.VL
set_option linter.unusedVariables false
set_option linter.unusedSimpArgs false
open Go
section
variable {P:Program} {g:G} {s:S} {av:eS} {a:Act} {w:World} {I:Oper} {cG:e6} {aQ:Nat} {bn:hj}
theorem q4 {t e:TypeId}(h:o8 P t=some e):P.underlying t=some (.slice e):=by
 unfold o8 at h
 split at h
 ·rename_i d9 he;simp at h;subst h;exact he
 ·simp at h
theorem G6 {t:TypeId}{jE:Array Field}(h:fieldsOf P t=some jE):P.underlying t=some (.struct jE):=by
 unfold fieldsOf at h
 split at h
 ·rename_i d9 he;simp at h;subst h;exact he
 ·simp at h
theorem LF : ∀(z c:List aw),(qn z c).length=z.length
 | x::z,y::c=>by simp [qn,LF z c]
 | [],_=>by simp [qn]
 | _::_,[]=>by simp [qn]
theorem TB (z:List aw)(cG:e6):(rU z cG).length=z.length:=by
 unfold rU
 split
 ·exact LF z _
 ·rfl
theorem Ub (x y:aw){w:World}{ok:Nat→Prop}{aV:ik}{a4:h6}{v:Value}(h:Rel w ok aV a4 x v):Rel w ok aV a4 (y1 x y) v:=by
 unfold y1
 split
 ·rw [h.o4];exact .i5 _ _ _ (fun _=>rfl)
 ·rw [h.tO];exact .oJ _
 ·rw [h.o4];exact .lT (.i5 _ _ _ (fun _=>rfl))
 ·exact h
theorem MH : ∀(z c:List aw) (j:Nat) q,(qn z c)[j]? = some q→ ∃x,z[j]? = some x∧(q=x∨ ∃y,q=y1 x y)
 | x::z,y::c,0,q,h=>by simp [qn] at h;exact ⟨x,rfl,.inr ⟨y,h.symm⟩⟩
 | x::z,y::c,j+1,q,h=>by
  simp only [qn,List.getElem?_cons_succ] at h
  simpa using MH z c j q h
 | [],c,j,q,h=>by simp [qn] at h
 | x::z,[],j,q,h=>⟨q,by simpa [qn] using h,.inl rfl⟩
theorem Vo (z:List aw)(cG:e6)(j:Nat)(q:aw)(h:(rU z cG)[j]? = some q): ∃x,z[j]? = some x∧(q=x∨ ∃y,q=y1 x y):=by
 unfold rU at h
 split at h
 ·exact MH z _ j q h
 ·exact ⟨q,h,.inl rfl⟩
theorem TC {t:TypeId}{x y:Operand}(h:cE g s av a w)(et:s.aR aQ=none)(aj:I.op = .makeSlice t x y)(ar:el P s.E s.aR aQ I cG=some bn)(cp:∀p∈bn.e1,p):Fin P g s a w I bn:=by
 simp only [el,aj] at ar
 have aa:=h.eval x
 have aS:=h.eval y
 split at ar
 ·rename_i e ka l jV c he Yc Yd
  rw [Yc] at aa;rw [Yd] at aS
  split at ar
  ·rename_i i z af cd
   obtain ⟨eI,dY,i1,j6,rp,Oe⟩:=yt cd
   rw [af] at i1;simp at i1;subst i1
   simp only [Option.ite_none_right_eq_some,Option.some.injEq] at ar
   obtain ⟨ev,ar⟩:=ar
   subst ar
   have mx:=TB z cG
   have i4 : ∀(j:Nat) q,(rU z cG)[j]? = some q→ ∃v,dY.cells[j]? = some v∧VL.jf v=true∧ ∀w ok aV a4,Rel w ok aV a4 q v:=by
    intro j q a8
    obtain ⟨x,df,my⟩:=Vo z cG j q a8
    obtain ⟨v,v1,v2,v3⟩:=Oe j x df
    refine ⟨v,v1,v2,fun w ok aV a4=> ?_⟩
    rcases my with rfl|⟨y,rfl⟩
    ·exact v3 w ok aV a4
    ·exact Ub x y (v3 w ok aV a4)
   clear Oe
   have h0:0≤l:=cp _ (by simp)
   have o:l≤c:=cp _ (by simp)
   have R:(i.bytes:Int)*c≤281474976710656:=cp _ (by simp)
   have ae:c<9223372036854775808:=cp _ (by simp)
   have mz:z.length=dY.cells.size:=by rw [rp];simp
   have h1:=run_make (P:=P) w t e i dY (q4 he) af j6 ka jV l c h0 o R (by omega)
   refine CB (v:= .slice (some ⟨w.heap.size,0,none⟩) l.toNat c.toNat) (ah:=⟨z.length,List.replicate l.toNat (rU z cG),.live⟩) (c:=madeCells dY.cells (c.toNat*i.size)) (d4:=e) h et rfl ?_ rfl ?_ ?_ ?_
   ·simp [execOp,aj,aa.oH,aS.oH,h1]
   ·intro d9 kR;rw [List.eq_of_mem_replicate kR];exact mx
   ·intro j q a8
    have aG : ∀d9∈List.replicate l.toNat (rU z cG),d9.length=z.length:=fun d9 kR=>by rw [List.eq_of_mem_replicate kR];exact mx
    rcases Nat.eq_zero_or_pos z.length with qD|Dt
    ·have:rU z cG=[]:=List.length_eq_zero_iff.1 (by omega)
     rw [this] at a8
     simp at a8
    ·rw [oE Dt _ aG,List.getElem?_replicate] at a8
     by_cases aC:j / z.length<l.toNat
     ·rw [if_pos aC] at a8
      simp only [Option.bind_some] at a8
      obtain ⟨v,ax,aF,b4⟩:=i4 _ _ a8
      refine ⟨v,?_,aF,b4 _ _ _ _⟩
      have di:j<c.toNat*i.size:=by
       rw [← ev]
       have:j<l.toNat*z.length:=(Nat.div_lt_iff_lt_mul Dt).1 aC
       exact Nat.lt_of_lt_of_le this (Nat.mul_le_mul_right _ (by omega))
      simp only [madeCells]
      rw [Array.getElem?_map,Array.getElem?_range]
      simp only [di,if_true,Option.map_some]
      rw [mz] at ax
      have hm:j % dY.cells.size<dY.cells.size:=Nat.mod_lt _ (by omega)
      rw [Array.getElem?_eq_getElem hm] at ax
      rw [getElem!_pos dY.cells _ hm];exact ax
     ·rw [if_neg aC] at a8;simp at a8
   ·intro bx jO lY lk hu ch
    refine Rel.bu hu ch (by omega) (by omega) ⟨?_,.inr (by simp)⟩
    rw [size_madeCells]
    simp only [Nat.zero_add,ev]
  ·simp at ar
 ·simp at ar
theorem TD {t:TypeId}{x:Operand}{f:Nat}(h:cE g s av a w)(aj:I.op = .fieldAddr t x f)(ar:el P s.E s.aR aQ I cG=some bn)(cp:∀p∈bn.e1,p):Fin P g s a w I bn:=by
 simp only [el,aj] at ar
 have aa:=h.eval x
 split at ar
 ·rename_i jE zS
  split at ar
  ·rename_i fd s4
   split at ar
   ·simp at ar
   ·rename_i Pw
    have af:(P.info? fd.type).isSome=true:=by
     cases af:P.info? fd.type with
     | none=>simp [Program.cellsOf,af] at Pw
     | some i=>rfl
    have h1 : ∀A:Addr,A.spot=none→(Instr.fieldAt t (.pointer (some A)) f).run P w = .ok (.pointer (some ⟨A.block,A.off+fd.offset,none⟩)) w:=by
     intro A hA
     have e:A.add fd.offset=⟨A.block,A.off+fd.offset,none⟩:=by
      obtain ⟨b,I,sp⟩:=A
      simp only at hA;subst hA
      exact q3 b I _
     simp [Instr.fieldAt,run_underlying (G6 zS),s4,Instr.sureAddr,fieldPlace,tG af,Pw,e]
    split at ar
    ·rename_i r k i off gf
     rw [gf] at aa
     split at ar
     ·rename_i ah bY bd
      split at ar
      ·rename_i c a9 mx
       simp only [Option.some.injEq] at ar;subst ar
       have jj:s.ah r k=some ah:=sG bd fun p ak=>cp p (by simp [ak])
       have qx:=yA mx fun p ak=>cp p (by simp [ak])
       have eX:=h.obj r k ah jj
       rcases aa.wE (hD jj) with h0|⟨b,m,ak,hval⟩
       ·rw [h0] at eX;simp only [iv] at eX;rw [eX] at qx;simp at qx
       ·refine hB (v:= .pointer (some ⟨b,i*ah.sz+(off+fd.offset),none⟩)) h ?_ rfl ?_
        ·simp [execOp,aj,hval,h1,Nat.add_assoc]
        ·exact aa.UF ((hD jj).trans (by rw [ak])) _
      ·simp at ar
     ·simp at ar
    ·rename_i sz es i off gf
     rw [gf] at aa
     simp only [Option.some.injEq] at ar;subst ar
     obtain ⟨dz,bX,aM,hval,hy⟩:=aa.wF
     refine hB (v:= .pointer (some ⟨dz,bX+(i*sz+(off+fd.offset)),none⟩)) h ?_ rfl (hy.dV aM)
     simp [execOp,aj,hval,h1,Nat.add_assoc]
    ·simp at ar
  ·simp at ar
 ·simp at ar
theorem TE {t:TypeId}{x y:Operand}(h:cE g s av a w)(aj:I.op = .indexAddr t x y)(ar:el P s.E s.aR aQ I cG=some bn)(cp:∀p∈bn.e1,p):Fin P g s a w I bn:=by
 simp only [el,aj] at ar
 have aa:=h.eval x
 have aS:=h.eval y
 split at ar
 ·rename_i e k j he gf
  rw [gf] at aS
  have hu:=q4 he
  have h1 : ∀(b I len cap:Nat),0≤j→j<len→(P.info? e).isSome=true →
   (Instr.indexAt t (.slice (some ⟨b,I,none⟩) len cap) (.int k j)).run P w = .ok (.pointer (some ⟨b,I+j.toNat*P.cellsOf e,none⟩)) w:=by
   intro b I len cap h0 o af
   have d9:=q3 b I (j.toNat*P.cellsOf e)
   simp [Instr.indexAt,asIntOf,run_underlying hu,h0,o,tG af,d9]
  have ub : ∀sz,sz=P.cellsOf e→sz≠0→(P.info? e).isSome=true:=by
   intro sz bR cd
   cases af:P.info? e with
   | none=>simp [Program.cellsOf,af] at bR;exact absurd bR cd
   | some i=>rfl
  split at ar
  ·rename_i sz es zu
   rw [zu] at aa
   simp only [Option.ite_none_right_eq_some,Option.some.injEq] at ar
   obtain ⟨⟨bR,cd⟩,ar⟩:=ar
   subst ar
   have h0:0≤j:=cp _ (by simp)
   have o:j<es.length:=cp _ (by simp)
   rcases aa.rM with ⟨zT,-⟩|⟨dz,off,c,aM,hval,aP,hy⟩
   ·subst zT;simp at o;omega
   ·refine hB (v:= .pointer (some ⟨dz,off+(j.toNat*sz+0),none⟩)) h ?_ rfl (hy.dV aM)
    simp [execOp,aj,hval,aS.oH,h1 _ _ _ _ h0 o (ub sz bR cd),bR]
  ·rename_i r q bD len zu
   rw [zu] at aa
   split at ar
   ·rename_i row c8
    split at ar
    ·rename_i ah bY bd
     simp only [Option.ite_none_right_eq_some,Option.some.injEq] at ar
     obtain ⟨⟨bR,cd⟩,ar⟩:=ar
     subst ar
     have jj:s.ah r q=some ah:=by
      unfold S.ah;rw [c8];exact sG bd fun p ak=>cp p (by simp [ak])
     have h0:0≤j:=cp _ (by simp)
     have o:j<len:=cp _ (by simp)
     rcases aa.yS (hD jj) with ⟨-,-,R,-⟩|⟨b,m,A,c,ak,hval,aG,-,hm⟩
     ·subst R;simp at o;omega
     ·rcases hm with hm|⟨hA,hm⟩
      ·omega
      ·subst hA
       have iy:=Co jj
       refine hB (v:= .pointer (some ⟨b,(bD+j.toNat)*ah.sz+0,none⟩)) h ?_ rfl (.ref iy ((hD jj).trans (by rw [ak])))
       simp [execOp,aj,hval,aS.oH,h1 _ _ _ _ h0 o (ub _ bR cd),bR,Nat.add_mul]
    ·simp at ar
   ·simp at ar
  ·simp at ar
 ·simp at ar
theorem Vp {t:TypeId}{x y:Operand}(h:cE g s av a w)(aj:I.op = .index t x y)(ar:el P s.E s.aR aQ I cG=some bn)(cp:∀p∈bn.e1,p):Fin P g s a w I bn:=by
 simp only [el,aj] at ar
 have aa:=h.eval x
 have aS:=h.eval y
 split at ar
 ·rename_i b k j hu zu Ye
  rw [zu] at aa;rw [Ye] at aS
  simp only [Option.some.injEq] at ar;subst ar
  have h0:0≤j:=cp _ (by simp)
  have o:j<b.size:=cp _ (by simp)
  have R:j.toNat<b.size:=by omega
  refine hB (v:= .int .u8 (b[j.toNat]).toNat) h ?_ rfl ?_
  ·simp [execOp,aj,aa.wV,aS.oH,Instr.index,asIntOf,run_underlying hu,h0,R]
  ·have e:b.data.toList.getD j.toNat 0=b[j.toNat]:=by
    rw [List.getD_eq_getElem?_getD,Array.getElem?_toList,Array.getElem?_eq_getElem (by simpa using R)];rfl
   show Rel _ _ _ _ (.n .u8 _) _
   rw [e];exact .n _ _
 ·simp at ar
theorem WY {c:Call}(h:cE g s av a w)(aj:I.op = .call c)(aP:c.callee = .builtin .len)(ar:el P s.E s.aR aQ I cG=some bn)(cp:∀p∈bn.e1,p):Fin P g s a w I bn:=by
 obtain ⟨Du,args,l0⟩:=c
 simp only at aP;subst aP
 simp only [el,aj] at ar
 have key : ∀(x:Operand) (n:Nat) (t:TypeId) (v:Value),args.toList=[x]→l0 = #[t]→bn.val = .n .i64 n→bn.fh=[]→a.eval x=v →
  (Builtin.len_ #[t] I.type #[v]).run P w = .ok (goInt n) w→Fin P g s a w I bn:=by
  intro x n t v hargs kS an gD aY h1
  subst kS
  refine hB (v:=goInt n) h ?_ gD (by rw [an];exact .n _ _)
  have bA:args = #[x]:=by apply Array.ext';simpa using hargs
  subst bA
  simp [execOp,aj,resolve,invoke,builtin,aY,h1]
 have hargs : ∀y,args.toList.map (eH s.E)=[y]→ ∃x,args.toList=[x]∧eH s.E x=y:=by
  intro y aS
  match aG:args.toList,aS with
  | [x],aS=>simp at aS;exact ⟨x,rfl,aS⟩
 have ny:decide (l0.size=1)=true→ ∃t,l0 = #[t]∧l0.getD 0 0=t:=by
  intro ev
  have ev:l0.size=1:=by simpa using ev
  obtain ⟨l⟩:=l0
  match l,ev with
  | [t],_=>exact ⟨t,rfl,rfl⟩
 split at ar
 ·rename_i sz es e hm hu ev
  obtain ⟨x,aa,gf⟩:=hargs _ hm
  obtain ⟨t,ch,mW⟩:=ny ev
  rw [mW] at hu
  simp only [Option.some.injEq] at ar
  have an:=h.eval x
  rw [gf] at an
  rcases an.rM with ⟨zT,A,c,hval,hA⟩|⟨dz,off,c,aM,hval,-⟩
  ·exact key x es.length t _ aa ch (by rw [← ar]) (by rw [← ar]) hval (by subst zT;simp [Builtin.len_,run_underlying hu])
  ·exact key x es.length t _ aa ch (by rw [← ar]) (by rw [← ar]) hval (by simp [Builtin.len_,run_underlying hu])
 ·rename_i r k bD len e hm hu ev
  obtain ⟨x,aa,gf⟩:=hargs _ hm
  obtain ⟨t,ch,mW⟩:=ny ev
  rw [mW] at hu
  split at ar
  ·rename_i row c8
   split at ar
   ·rename_i ah bY bd
    simp only [Option.some.injEq] at ar
    have an:=h.eval x
    rw [gf] at an
    have jj:s.ah r k=some ah:=by
     unfold S.ah;rw [c8];exact sG bd fun p ak=>cp p (by rw [← ar];exact ak)
    rcases an.yS (hD jj) with ⟨-,-,R,hval⟩|⟨b,m,A,c,ak,hval,-⟩
    ·exact key x len t _ aa ch (by rw [← ar]) (by rw [← ar]) hval (by subst R;simp [Builtin.len_,run_underlying hu])
    ·exact key x len t _ aa ch (by rw [← ar]) (by rw [← ar]) hval (by simp [Builtin.len_,run_underlying hu])
   ·simp at ar
  ·simp at ar
 ·rename_i e hm hu ev
  obtain ⟨x,aa,gf⟩:=hargs _ hm
  obtain ⟨t,ch,mW⟩:=ny ev
  rw [mW] at hu
  simp only [Option.some.injEq] at ar
  have an:=h.eval x
  rw [gf] at an
  exact key x 0 t _ aa ch (by rw [← ar];rfl) (by rw [← ar]) an.o4 (by simp [Builtin.len_,run_underlying hu])
 ·rename_i b hm hu ev
  obtain ⟨x,aa,gf⟩:=hargs _ hm
  obtain ⟨t,ch,mW⟩:=ny ev
  rw [mW] at hu
  simp only [Option.some.injEq] at ar
  have an:=h.eval x
  rw [gf] at an
  exact key x b.size t _ aa ch (by rw [← ar]) (by rw [← ar]) an.wV (by simp [Builtin.len_,run_underlying hu])
 ·simp at ar
theorem B0 {ok:Nat→Prop}{aV:ik}{a4:h6}{dz off sz:Nat}{es:List (List aw)}(h:nI w ok aV a4 dz off sz es)(l n:Nat)(aG:l≤es.length):
 nI w ok aV a4 dz (off+l*sz) sz ((es.drop l).take n):=by
 have pU : ∀e∈(es.drop l).take n,e.length=sz:=fun e he=>h.1 e (List.mem_of_mem_drop (List.mem_of_mem_take he))
 refine ⟨pU,fun j x aa=> ?_⟩
 rcases Nat.eq_zero_or_pos sz with h0|bR
 ·have ax : ∀(l:List (List aw)),(∀e∈l,e.length=0)→l.flatten=[]:=by
   intro l aG;induction l with
   | nil=>rfl
   | cons a l ih=>rw [List.flatten_cons,ih fun e he=>aG e (by simp [he])];have:=aG a (by simp);simp_all
  rw [ax _ (fun e he=>(pU e he).trans h0)] at aa;simp at aa
 ·rw [oE bR _ pU] at aa
  have aC:j / sz<n:=by
   rcases Nat.lt_or_ge (j / sz) n with cj|cj
   ·exact cj
   ·rw [List.getElem?_eq_none (by simp;omega)] at aa;simp at aa
  rw [List.getElem?_take,if_pos aC,List.getElem?_drop] at aa
  obtain ⟨v,ax,aF,b4⟩:=h.2 (l*sz+j) x (by
   rw [oE bR es h.1]
   have hn:(l*sz+j) / sz=l+j / sz:=by rw [Nat.mul_comm,Nat.mul_add_div bR]
   have im:(l*sz+j) % sz=j % sz:=by rw [Nat.mul_comm,Nat.mul_add_mod]
   rw [hn,im];exact aa)
  exact ⟨v,by rw [Nat.add_assoc];exact ax,aF,b4⟩
theorem BP {t e:TypeId}(hu:P.underlying t=some (.slice e))(af:(P.info? e).isSome=true)(A:Option Addr)(len cap:Nat)(bD i1:Option Value)(l h:Nat)
 (Px:(bD=none∧l=0)∨ ∃k,bD=some (.int k l)) (Py:(i1=none∧h=len)∨ ∃k,i1=some (.int k h)) (o:l≤h) (R:h≤len) (ae:len≤cap) :
 (Instr.sliceAt t (.slice A len cap) bD i1 none).run P w = .ok (.slice (if cap=l then A else A.map (·.add (l*P.cellsOf e))) (h-l) (cap-l)) w:=by
 have aM : ∀(k:IntKind) (n y:Nat) (code:BoundsCode),n≤y→(Instr.sliceBound (.int k n) y code).run P w = .ok n w:=by
  intro k n y code a1
  simp [Instr.sliceBound,asIntOf,a1]
 rcases Px with ⟨rfl,rfl⟩|⟨ka,rfl⟩<;>rcases Py with ⟨rfl,rfl⟩|⟨jV,rfl⟩ <;>
  simp [Instr.sliceAt,Instr.slice,run_underlying hu,Instr.sliceBounds,tG af,aM,o,R,ae,Nat.le_trans R ae]
theorem wM {x:Option Operand}(h:cE g s av a w){d n:Nat}{ah:List Prop}(aM:aD (x.map (eH s.E)) d=some (n,ah))(cp:∀p∈ah,p):
 (x.map a.eval=none∧n=d)∨ ∃k,x.map a.eval=some (.int k n):=by
 cases x with
 | none=>simp [aD] at aM;exact .inl ⟨rfl,aM.1.symm⟩
 | some x =>
  have aa:=h.eval x
  simp only [Option.map_some] at aM ⊢
  unfold aD at aM
  split at aM
  ·rename_i he;simp at he
  ·rename_i _ k y he
   simp only [Option.some.injEq] at he
   rw [he] at aa
   simp only [Option.some.injEq,Prod.mk.injEq] at aM
   obtain ⟨rfl,rfl⟩:=aM
   have h0:0≤y:=cp _ (by simp)
   refine .inr ⟨k,?_⟩
   rw [aa.oH,Int.toNat_of_nonneg h0]
  ·simp at aM
theorem Vq {t:TypeId}{x:Operand}{bD af:Option Operand}(h:cE g s av a w)(aj:I.op = .slice t x bD af none)(ar:el P s.E s.aR aQ I cG=some bn)(cp:∀p∈bn.e1,p):Fin P g s a w I bn:=by
 simp only [el,aj] at ar
 have aa:=h.eval x
 have ub : ∀sz e,sz=P.cellsOf e→sz≠0→(P.info? e).isSome=true:=by
  intro sz e bR cd
  cases af:P.info? e with
  | none=>simp [Program.cellsOf,af] at bR;exact absurd bR cd
  | some i=>rfl
 split at ar
 ·rename_i e sz es hu gf
  rw [gf] at aa
  split at ar
  ·rename_i l bY n a9 aG a1
   simp only [Option.ite_none_right_eq_some,Option.some.injEq] at ar
   obtain ⟨⟨bR,cd⟩,ar⟩:=ar
   subst ar
   have gF:=wM h aG fun p ak=>cp p (by simp [ak])
   have h8:=wM h a1 fun p ak=>cp p (by simp [ak])
   have o:l≤n:=cp _ (by simp)
   have R:n≤es.length:=cp _ (by simp)
   rcases aa.rM with ⟨zT,A,c,hval,hA⟩|⟨dz,off,c,aM,hval,aP,hy⟩
   ·subst zT
    have Ja:n=0:=by simpa using R
    subst Ja
    have mA:l=0:=by omega
    subst mA
    refine hB (v:= .slice (if c=0 then A else A.map (·.add (0*P.cellsOf e))) (0-0) (c-0)) h ?_ rfl ?_
    ·have:=BP (w:=w) hu (ub sz e bR cd) A 0 c (bD.map a.eval) (af.map a.eval) 0 0 gF h8 (Nat.le_refl _) (Nat.le_refl _) (Nat.zero_le _)
     simp only [execOp,aj,hval]
     simp only [Option.map_none,Sem.run_bind,this];rfl
    ·refine .i5 sz _ _ fun a1=> ?_
     split at a1
     ·rename_i l1;omega
     ·have:=hA (by simpa using a1)
      omega
   ·have hlen:((es.drop l).take (n-l)).length=n-l:=by simp;omega
    refine hB (v:= .slice (if c=l then some ⟨dz,off,none⟩ else (some (⟨dz,off,none⟩:Addr)).map (·.add (l*P.cellsOf e))) (n-l) (c-l)) h ?_ rfl ?_
    ·have:=BP (w:=w) hu (ub sz e bR cd) (some ⟨dz,off,none⟩) es.length c (bD.map a.eval) (af.map a.eval) l n gF h8 o R aP
     simp only [execOp,aj,hval]
     simp only [Option.map_none,Sem.run_bind,this];rfl
    ·by_cases hG:c=l
     ·have:n-l=0:=by omega
      rw [this]
      show Rel _ _ _ _ (.isl sz ((es.drop l).take 0)) _
      rw [List.take_zero]
      exact .i5 sz _ _ (fun _=>by omega)
     ·rw [if_neg hG]
      simp only [Option.map_some,q3,← bR]
      have an:=(B0 hy l (n-l) (by omega)).isl (c:=c-l) ⟨aM.1,fun e he=>aM.2 e (List.mem_of_mem_drop (List.mem_of_mem_take he))⟩ (by rw [hlen];omega)
      rw [hlen] at an
      exact an
  ·simp at ar
 ·rename_i e r k Qq len hu gf
  rw [gf] at aa
  split at ar
  ·simp at ar
  ·rename_i row c8
   split at ar
   ·simp at ar
   ·rename_i ah Qr bd
    split at ar
    ·rename_i l bY n a9 aG a1
     simp only [Option.ite_none_right_eq_some,Option.some.injEq] at ar
     obtain ⟨⟨bR,cd⟩,ar⟩:=ar
     subst ar
     have jj:s.ah r k=some ah:=by
      unfold S.ah;rw [c8];exact sG bd fun p ak=>cp p (by simp [ak])
     have gF:=wM h aG fun p ak=>cp p (by simp [ak])
     have h8:=wM h a1 fun p ak=>cp p (by simp [ak])
     have o:l≤n:=cp _ (by simp)
     have R:n≤len:=cp _ (by simp)
     have iy:=Co jj
     rcases aa.tP (hD jj) with ⟨ak,rfl,rfl,hval⟩|⟨b,m,A,c,ak,hval,qC,sa,l2,hm⟩
     ·have Ja:n=0:=by omega
      subst Ja
      have mA:l=0:=by omega
      subst mA
      refine hB (v:= .slice none 0 0) h ?_ rfl (.mK iy ((hD jj).trans (by rw [ak])))
      have:=BP (w:=w) hu (ub _ e bR cd) none 0 0 (bD.map a.eval) (af.map a.eval) 0 0 gF h8 (Nat.le_refl _) (Nat.le_refl _) (Nat.le_refl _)
      simp only [execOp,aj,hval]
      simp only [Option.map_none,Sem.run_bind,this];rfl
     ·refine hB (v:= .slice (if c=l then A else A.map (·.add (l*P.cellsOf e))) (n-l) (c-l)) h ?_ rfl ?_
      ·have:=BP (w:=w) hu (ub _ e bR cd) A len c (bD.map a.eval) (af.map a.eval) l n gF h8 o R qC
       simp only [execOp,aj,hval]
       simp only [Option.map_none,Sem.run_bind,this];rfl
      ·refine Rel.bu iy ((hD jj).trans (by rw [ak])) (by omega) (by omega) ?_
       refine ⟨by rw [← l2];congr 1;omega,?_⟩
       by_cases hG:c=l
       ·exact .inl (by omega)
       ·rcases hm with hm|hA
        ·exact .inl (by omega)
        ·refine .inr ?_
         rw [if_neg hG,hA]
         simp only [Option.map_some,q3,← bR,Nat.add_mul]
    ·simp at ar
 ·rename_i b hu gf
  rw [gf] at aa
  split at ar
  ·rename_i l bY n a9 aG a1
   simp only [Option.some.injEq] at ar
   subst ar
   have gF:=wM h aG fun p ak=>cp p (by simp [ak])
   have h8:=wM h a1 fun p ak=>cp p (by simp [ak])
   have o:l≤n:=cp _ (by simp)
   have R:n≤b.size:=cp _ (by simp)
   refine hB (v:= .string (b.extract l n)) h ?_ rfl (.s _)
   have aM : ∀(k:IntKind) (n y:Nat) (code:BoundsCode),n≤y→(Instr.sliceBound (.int k n) y code).run P w = .ok n w:=by
    intro k n y code a1
    simp [Instr.sliceBound,asIntOf,a1]
   simp only [execOp,aj,aa.wV,Option.map_none]
   rcases gF with ⟨ax,rfl⟩|⟨ka,ax⟩<;>rcases h8 with ⟨aF,rfl⟩|⟨jV,aF⟩<;>rw [ax,aF] <;>
    simp [Instr.sliceAt,Instr.slice,run_underlying hu,Instr.sliceBounds,aM,o,R]
  ·simp at ar
 ·simp at ar
end
end Go.VL
namespace Go.VL
set_option linter.unusedVariables false
set_option linter.unusedSimpArgs false
open Go
section
variable {P:Program} {g:G} {s:S} {av:eS} {a:Act} {w:World} {I:Oper} {cG:e6} {aQ:Nat} {bn:hj}
theorem Uc {ok:Nat→Prop}{aV:ik}{a4:h6}{t:TypeId}{c:List aw}{off:Nat}{x:aw}{vs:List Value}(aG:vs.length=c.length)
 (i4 : ∀(j:Nat) u,vs[j]? = some u→jf u=true) (an : ∀(j:Nat) x u,c[j]? = some x→vs[j]? = some u→Rel w ok aV a4 x u)
 (ch:rT P t c off=some x) : ∃v,(part t vs.toArray off).run P w = .ok v w∧Rel w ok aV a4 x v:=by
 unfold rT at ch
 split at ch
 ·simp at ch
 ·rename_i af
  simp only [Bool.not_eq_true',Bool.not_eq_false,Bool.and_eq_true] at af
  simp only [part,Sem.run_bind,MF af.1,Result.andThen]
  split at ch
  ·rename_i qw
   rw [qw]
   split at ch
   ·rename_i hle
    simp at ch;subst ch
    have e:(vs.toArray.extract off (off+P.cellsOf t))=((vs.drop off).take (P.cellsOf t)).toArray:=by
     apply Array.ext'
     simp [List.extract_eq_take_drop]
    refine ⟨.agg ((vs.drop off).take (P.cellsOf t)).toArray,by simp [tG af.2],?_⟩
    refine .agg _ (by simp;omega) ?_ ?_
    ·intro j v aY
     rw [List.getElem?_take] at aY
     split at aY
     ·rw [List.getElem?_drop] at aY;exact i4 _ _ aY
     ·simp at aY
    ·intro j y v aS aY
     rw [List.getElem?_take] at aY aS
     split at aY
     ·rename_i aC
      rw [if_pos aC] at aS
      rw [List.getElem?_drop] at aY aS;exact an _ _ _ aS aY
     ·simp at aY
   ·simp at ch
  ·rename_i qw
   have qw:y0 P t=false:=by simpa using qw
   rw [qw]
   split at ch
   ·rename_i y aS
    split at ch
    ·simp at ch;subst ch
     have w3:off<vs.length:=by
      rcases Nat.lt_or_ge off c.length with h|h
      ·omega
      ·rw [List.getElem?_eq_none h] at aS;simp at aS
     exact ⟨vs[off],by simp [w3],an off y _ aS (List.getElem?_eq_getElem w3)⟩
    ·simp at ch
   ·simp at ch
theorem Vr {t:TypeId}{x:Operand}{f:Nat}(h:cE g s av a w)(aj:I.op = .field t x f)(ar:el P s.E s.aR aQ I cG=some bn):Fin P g s a w I bn:=by
 simp only [el,aj] at ar
 have aa:=h.eval x
 split at ar
 ·rename_i jE zS
  split at ar
  ·rename_i fd c s4 gf
   rw [gf] at aa
   cases ch:rT P fd.type c fd.offset with
   | none=>simp [ch] at ar
   | some v =>
    simp [ch] at ar;subst ar
    obtain ⟨vs,hval,aG,aP,an⟩:=aa.yR
    obtain ⟨u,o,R⟩:=Uc aG aP an ch
    refine hB (v:=u) h ?_ rfl R
    simp [execOp,aj,hval,Instr.field,run_underlying (G6 zS),s4,asAgg,o]
  ·simp at ar
 ·simp at ar
theorem UH (off:Nat): ∀(vs:List Value) (n:Nat) (cs:Array Value) (j:Nat),off+n+vs.length≤cs.size →
 ((vs.zipIdx n).foldl (fun cs (x:Value×Nat)=>cs.setIfInBounds (off+x.2) x.1) cs)[j]? = if off+n≤j∧j<off+n+vs.length then vs[j-(off+n)]? else cs[j]? := by
 intro vs
 induction vs with
 | nil=>intro n cs j h;simp;intro o R;omega
 | cons v vs ih =>
  intro n cs j h
  simp only [List.length_cons] at h
  simp only [List.zipIdx_cons,List.foldl_cons]
  rw [ih (n+1) _ j (by simp;omega)]
  simp only [List.length_cons,Array.getElem?_setIfInBounds]
  by_cases o:j=off+n
  ·subst o
   rw [if_neg (by omega),if_pos rfl,if_pos (by omega),if_pos (by omega)]
   simp
  ·by_cases R:off+(n+1)≤j∧j<off+(n+1)+vs.length
   ·rw [if_pos R,if_pos (by omega)]
    rw [show j-(off+n)=(j-(off+(n+1)))+1 by omega];rfl
   ·rw [if_neg R,if_neg (fun e=>o e.symm),if_neg (by omega)]
theorem Tk (off:Nat): ∀(vs:List (Value×Nat)) (cs:Array Value),(vs.foldl (fun cs (x:Value×Nat)=>cs.setIfInBounds (off+x.2) x.1) cs).size=cs.size:=by
 intro vs
 induction vs with
 | nil=>intro cs;rfl
 | cons v vs ih=>intro cs;simp only [List.foldl_cons];rw [ih];simp
def xB (w:World)(ok:Nat→Prop)(aV:ik)(a4:h6)(c:List aw)(cs:Array Value):Prop :=
 cs.size=c.length∧(∀(j:Nat) u,cs[j]? = some u→jf u=true)∧ ∀(j:Nat) x u,c[j]? = some x→cs[j]? = some u→Rel w ok aV a4 x u
theorem Vs {ok:Nat→Prop}{aV:ik}{a4:h6}{c:List aw}{cs:Array Value}(h:xB w ok aV a4 c cs){x:aw}{v:Value}{off:Nat}(aa:Rel w ok aV a4 x v)(aP:x.wv=true)
 (hs:off+x.cells.length≤c.length):v.cells.size=x.cells.length ∧
   xB w ok aV a4 (setCells c off x.cells) (v.cells.zipIdx.foldl (fun cs (y:Value×Nat)=>cs.setIfInBounds (off+y.2) y.1) cs):=by
 obtain ⟨vs,aY,aG,i4,an⟩:=aa.cellsOf (aw.LU aP)
 have kS : ∀j,(v.cells.zipIdx.foldl (fun cs (y:Value×Nat)=>cs.setIfInBounds (off+y.2) y.1) cs)[j]? = if off≤j∧j<off+vs.length then vs[j-off]? else cs[j]? := by
  intro j
  rw [aY]
  have:=UH off vs 0 cs j (by rw [h.1];omega)
  simp only [Nat.add_zero] at this
  rw [← this,← Array.foldl_toList,Array.toList_zipIdx]
 refine ⟨by rw [aY];simpa using aG,?_,?_,?_⟩
 ·rw [Ln hs,← h.1,← Array.foldl_toList,Tk]
 ·intro j u hu
  rw [kS] at hu
  split at hu
  ·exact i4 _ _ hu
  ·exact h.2.1 _ _ hu
 ·intro j y u aS hu
  rw [kS] at hu
  rw [G5 hs] at aS
  by_cases lm:off≤j∧j<off+x.cells.length
  ·rw [if_pos lm] at aS
   rw [if_pos (by rw [aG];exact lm)] at hu
   exact an _ _ _ aS hu
  ·rw [if_neg lm] at aS
   rw [if_neg (by rw [aG];exact lm)] at hu
   exact h.2.2 _ _ _ aS hu
theorem Me {ok:Nat→Prop}{aV:ik}{a4:h6}(place:Nat→Option (Nat×Nat)): ∀(l:List (Nat×Nat×aw)) (iQ:List (Nat×Value)) (c:List aw) (cs:Array Value) (dw:List aw),
 xB w ok aV a4 c cs→l.length=iQ.length →
 (∀(j:Nat) off size x i v,l[j]? = some (off,size,x)→iQ[j]? = some (i,v)→place i=some (off,size)∧Rel w ok aV a4 x v) →
 sO c l=some dw→ ∃l3,Instr.fill place cs iQ=some l3∧xB w ok aV a4 dw l3:=by
 intro l
 induction l with
 | nil =>
  intro iQ c cs dw h aG _ b7
  have:iQ=[]:=List.length_eq_zero_iff.1 (by simpa using aG.symm)
  subst this
  simp [sO] at b7;subst b7
  exact ⟨cs,rfl,h⟩
 | cons q l ih =>
  intro iQ c cs dw h aG ak b7
  obtain ⟨off,size,x⟩:=q
  match iQ,aG with
  | (i,v)::iQ,aG =>
   obtain ⟨Y1,aa⟩:=ak 0 off size x i v rfl rfl
   simp only [sO] at b7
   split at b7
   ·rename_i aP
    simp only [Bool.and_eq_true,decide_eq_true_eq] at aP
    obtain ⟨⟨o,R⟩,ae⟩:=aP
    obtain ⟨ax,aF⟩:=Vs h aa o (off:=off) (by omega)
    obtain ⟨l3,f1,f2⟩:=ih iQ _ _ dw aF (by simpa using aG) (fun j off size x i v a b=>ak (j+1) off size x i v a b) b7
    refine ⟨l3,?_,f2⟩
    rw [Instr.fill]
    simp only [Y1]
    have gu : ¬(decide (v.cells.size≠size) || decide (off+v.cells.size>cs.size))=true:=by simp;rw [ax,h.1];omega
    rw [if_neg gu]
    exact f1
   ·simp at b7
theorem mapM_some {α β:Type}(f:α→β)(p:α→Option β): ∀(l:List α),(∀x∈l,p x=some (f x))→l.mapM p=some (l.map f)
 | [],_=>rfl
 | x::l,h=>by
  rw [List.mapM_cons,h x (by simp),mapM_some f p l fun y aS=>h y (by simp [aS])];rfl
theorem NG {α β:Type}(p:α→Option β): ∀(l:List α) (fM:List β),l.mapM p=some fM→fM.length=l.length∧ ∀(j:Nat) x y,l[j]? = some x→fM[j]? = some y→p x=some y
 | [],fM,h=>by simp at h;subst h;exact ⟨rfl,fun j x y aa=>by simp at aa⟩
 | a::l,fM,h=>by
  rw [List.mapM_cons] at h
  cases bA:p a with
  | none=>simp [bA] at h
  | some b =>
   cases aG:l.mapM p with
   | none=>simp [bA,aG] at h
   | some r =>
    simp [bA,aG] at h;subst h
    obtain ⟨o,R⟩:=NG p l r aG
    refine ⟨by simp [o],fun j x y aa aS=> ?_⟩
    cases j with
    | zero=>simp at aa aS;subst aa;subst aS;exact bA
    | succ j=>simp at aa aS;exact R j x y aa aS
theorem NH {t:TypeId}{z:List aw}(cd:qi P t=some z): ∃i dY,P.info? t=some i∧i.zero=some dY∧dY.cells.size=z.length∧xB w (s.ok g av w) s.aV (s.a4 av) z dY.cells:=by
 obtain ⟨i,dY,af,j6,rp,i4⟩:=yt cd
 have bR:dY.cells.size=z.length:=by rw [rp];simp
 refine ⟨i,dY,af,j6,bR,bR,fun j u hu=> ?_,fun j x u aa hu=> ?_⟩
 ·have aC:j<z.length:=by
   have:=(Array.getElem?_eq_some_iff.1 hu).1;omega
  obtain ⟨v,ax,aF,-⟩:=i4 j z[j] (List.getElem?_eq_getElem aC)
  rw [hu] at ax;simp at ax;subst ax;exact aF
 ·obtain ⟨v,ax,-,b4⟩:=i4 j x aa
  rw [hu] at ax;simp at ax;subst ax;exact b4 _ _ _ _
theorem Vt {t:TypeId}{parts:Array (Nat×Operand)}(h:cE g s av a w)(aj:I.op = .build t parts)(ar:el P s.E s.aR aQ I cG=some bn):Fin P g s a w I bn:=by
 simp only [el,aj] at ar
 split at ar
 ·rename_i jE z zS cd
  split at ar
  ·simp at ar
  ·rename_i mU
   have mU : ∀f∈jE.toList,(P.info? f.type).isSome=true:=by
    rw [Bool.not_eq_false] at mU
    exact List.all_eq_true.1 mU
   split at ar
   ·rename_i l aG
    cases b7:sO z l with
    | none=>simp [b7] at ar
    | some c =>
     simp [b7] at ar;subst ar
     obtain ⟨it,dY,zU,j6,ev,hcs⟩:=NH (w:=w) (s:=s) (g:=g) (av:=av) cd
     obtain ⟨me,oW⟩:=NG _ _ _ aG
     have Yf:jE.toList.mapM (fun f=>(P.info? f.type).map fun i=>(f.offset,i.size))=some (jE.toList.map fun f=>(f.offset,P.cellsOf f.type)):=by
      refine mapM_some (fun f:Field=>(f.offset,P.cellsOf f.type)) _ _ fun f b7=> ?_
      have:=mU f b7
      cases af:P.info? f.type with
      | none=>simp [af] at this
      | some i=>simp [Program.cellsOf,af]
     obtain ⟨l3,f1,f2⟩:=Me (w:=w) (ok:=s.ok g av w) (aV:=s.aV) (a4:=s.a4 av) ((jE.toList.map fun f=>(f.offset,P.cellsOf f.type)).toArray[·]?) l (parts.map fun (i,x)=>(i,a.eval x)).toList z dY.cells c hcs (by simpa using me) (by
      intro j off size x i v aC aY
      simp only [Array.toList_map,List.getElem?_map,Option.map_eq_some_iff] at aY
      obtain ⟨⟨eI,cA⟩,ak,aY⟩:=aY
      simp only [Prod.mk.injEq] at aY
      obtain ⟨rfl,rfl⟩:=aY
      have:=oW j _ _ ak aC
      simp only [Option.map_eq_some_iff,Prod.mk.injEq] at this
      obtain ⟨fd,o,R,ae,ay⟩:=this
      subst R;subst ae;subst ay
      refine ⟨?_,h.eval cA⟩
      rw [List.getElem?_toArray,List.getElem?_map,Array.getElem?_toList,o];rfl) b7
     have aM:P.built t (parts.map fun (i,x)=>(i,a.eval x)).toList=some l3:=by
      unfold Program.built
      simp only [zU,G6 zS,j6,Yf]
      exact f1
     refine hB (v:= .agg l3) h ?_ rfl ?_
     ·have:=run_build w t _ l3 aM
      simp [execOp,aj,this]
     ·have:=Rel.agg (w:=w) (ok:=s.ok g av w) (aV:=s.aV) (a4:=s.a4 av) (c:=c) l3.toList (by simpa using f2.1) (fun j u hu=>f2.2.1 j u (by simpa using hu)) (fun j x u aa hu=>f2.2.2 j x u aa (by simpa using hu))
      simpa using this
   ·simp at ar
 ·simp at ar
theorem SS {sz:Nat}{es:List (List aw)}(aG:∀e∈es,e.length=sz){i:Nat}(af:i<es.length){c:List aw}(aP:c.length=sz):
 setCells es.flatten (i*sz) c=(es.set i c).flatten:=by
 have hlen : ∀(es:List (List aw)),(∀e∈es,e.length=sz)→es.flatten.length=es.length*sz:=by
  intro es
  induction es with
  | nil=>simp
  | cons e es ih =>
   intro h
   rw [List.flatten_cons,List.length_append,ih fun x aa=>h x (by simp [aa]),h e (by simp),List.length_cons,Nat.add_mul];omega
 have hs:i*sz+c.length≤es.flatten.length:=by
  rw [hlen es aG,aP]
  have:=Nat.mul_le_mul_right sz (show i+1≤es.length by omega)
  rw [Nat.add_mul] at this;omega
 apply List.ext_getElem?
 intro j
 rw [G5 hs,LV aG (List.getElem?_eq_getElem af) aP,aP]
theorem Mf {sz:Nat}: ∀(l:List (Nat×aw)) (es fL:List (List aw)),(∀e∈es,e.length=sz)→wU sz es l=some fL →
 sO es.flatten (l.map fun p=>(p.1*sz,sz,p.2))=some fL.flatten∧(∀e∈fL,e.length=sz)∧fL.length=es.length
 | [],es,fL,aG,h=>by simp [wU] at h;subst h;exact ⟨rfl,aG,rfl⟩
 | (i,x)::l,es,fL,aG,h=>by
  simp only [wU] at h
  split at h
  ·rename_i aP
   simp only [Bool.and_eq_true,decide_eq_true_eq] at aP
   obtain ⟨⟨o,R⟩,ae⟩:=aP
   have I8 : ∀e∈es.set i x.cells,e.length=sz:=by
    intro e hm
    rcases List.mem_or_eq_of_mem_set hm with cj|cj
    ·exact aG e cj
    ·exact cj▸R
   obtain ⟨hn,im,bs⟩:=Mf l (es.set i x.cells) fL I8 h
   have e:=SS aG ae R
   have hs:i*sz+sz≤es.flatten.length:=by
    have:(setCells es.flatten (i*sz) x.cells).length=(es.set i x.cells).flatten.length:=by rw [e]
    have a8 : ∀(es:List (List aw)),(∀e∈es,e.length=sz)→es.flatten.length=es.length*sz:=by
     intro es
     induction es with
     | nil=>simp
     | cons e es ih =>
      intro h
      rw [List.flatten_cons,List.length_append,ih fun x aa=>h x (by simp [aa]),h e (by simp),List.length_cons,Nat.add_mul];omega
    rw [a8 es aG]
    have:=Nat.mul_le_mul_right sz (show i+1≤es.length by omega)
    rw [Nat.add_mul] at this;omega
   refine ⟨?_,im,by simpa using bs⟩
   simp only [List.map_cons,sO,o,R,hs,decide_true,Bool.and_self,if_true]
   rw [e];exact hn
  ·simp at h
theorem Tu {t:TypeId}{len:Nat}{parts:Array (Nat×Operand)}(h:cE g s av a w)(et:s.aR aQ=none)(aj:I.op = .buildSlice t len parts)(ar:el P s.E s.aR aQ I cG=some bn):Fin P g s a w I bn:=by
 simp only [el,aj] at ar
 split at ar
 ·rename_i e he
  split at ar
  ·rename_i z cd
   split at ar
   ·simp at ar
   ·rename_i aP
    simp only [not_or,Nat.not_lt,Decidable.not_not] at aP
    obtain ⟨l4,xb,xc⟩:=aP
    split at ar
    ·rename_i es gC
     simp only [Option.some.injEq] at ar;subst ar
     obtain ⟨it,dY,zU,j6,ev,hcs⟩:=NH (w:=w) (s:=s) (g:=g) (av:=av) cd
     have i4:P.cellsOf e=it.size:=by simp [Program.cellsOf,zU]
     have Pb : ∀x∈List.replicate len z,x.length=z.length:=fun x aa=>by rw [List.eq_of_mem_replicate aa]
     obtain ⟨f1,f2,f3⟩:=Mf _ _ _ Pb gC
     have qD:xB w (s.ok g av w) s.aV (s.a4 av) (List.replicate len z).flatten ((Array.range (len*it.size)).map (dY.cells[· % dY.cells.size]!)):=by
      have Dt:0<z.length:=by omega
      have kS : ∀j,j<len*it.size→((Array.range (len*it.size)).map (dY.cells[· % dY.cells.size]!))[j]? = dY.cells[j % z.length]? := by
       intro j aC
       rw [Array.getElem?_map,Array.getElem?_range]
       simp only [aC,if_true,Option.map_some]
       have hm:j % dY.cells.size<dY.cells.size:=Nat.mod_lt _ (by omega)
       rw [getElem!_pos dY.cells _ hm,← ev,Array.getElem?_eq_getElem hm]
      have di : ∀(j:Nat) u,((Array.range (len*it.size)).map (dY.cells[· % dY.cells.size]!))[j]? = some u→j<len*it.size:=by
       intro j u hu
       have:=(Array.getElem?_eq_some_iff.1 hu).1
       simpa using this
      refine ⟨by simp [← i4,← xb],fun j u hu=> ?_,fun j x u aa hu=> ?_⟩
      ·have aC:=di j u hu
       rw [kS j aC] at hu
       exact hcs.2.1 _ _ hu
      ·have aC:=di j u hu
       rw [kS j aC] at hu
       rw [oE Dt _ Pb,List.getElem?_replicate] at aa
       split at aa
       ·exact hcs.2.2 _ _ _ aa hu
       ·simp at aa
     obtain ⟨l3,g1,g2⟩:=Me (w:=w) (ok:=s.ok g av w) (aV:=s.aV) (a4:=s.a4 av) (fun i=>some (i*it.size,it.size)) ((parts.toList.map fun p=>(p.1,eH s.E p.2)).map fun p=>(p.1*z.length,z.length,p.2)) (parts.map fun (i,x)=>(i,a.eval x)).toList _ _ es.flatten qD (by simp) (by
      intro j off size x i v aC aY
      simp only [Array.toList_map,List.getElem?_map,Option.map_eq_some_iff,List.map_map] at aY aC
      obtain ⟨⟨eI,cA⟩,ak,aY⟩:=aY
      obtain ⟨⟨mF,eN⟩,zP,aC⟩:=aC
      rw [ak] at zP
      simp only [Option.some.injEq,Prod.mk.injEq] at zP aY
      obtain ⟨rfl,rfl⟩:=zP
      obtain ⟨rfl,rfl⟩:=aY
      simp only [Function.comp,Prod.mk.injEq] at aC
      obtain ⟨rfl,rfl,rfl⟩:=aC
      exact ⟨by rw [← i4,← xb],h.eval cA⟩) f1
     have h1:(Instr.buildSlice t len (parts.map fun (i,x)=>(i,a.eval x))).run P w = .ok (.slice (some ⟨w.heap.size,0,none⟩) len len) (w.alloc (.cells l3 e)):=by
      have o : ¬len*it.size>2 ^ 24:=by rw [← i4,← xb];omega
      by_cases h0:len*it.size=0
      ·have mA:len=0:=by
        rcases Nat.eq_zero_or_pos len with cj|cj
        ·exact cj
        ·have:0<len*it.size:=Nat.mul_pos cj (by omega)
         omega
       subst mA
       have e0:((Array.range (0*it.size)).map (dY.cells[· % dY.cells.size]!)) = #[]:=by simp
       rw [e0] at g1
       have ak:parts = #[]:=by
        obtain ⟨l⟩:=parts
        match l,gC with
        | [],_=>rfl
        | p::l,gC=>simp [wU] at gC
       subst ak
       have Yg:l3 = #[]:=by simpa [Instr.fill] using g1.symm
       subst Yg
       simp [Instr.buildSlice,run_underlying (q4 he),sizeOf,typeInfo,zU,newRow,Instr.fill]
       rw [Array.range_zero',Array.map_empty]
      ·simp only [Instr.buildSlice,run_underlying (q4 he),sizeOf,typeInfo,zU,newRow,zeroValue,j6,Sem.run_bind,Result.andThen_ok,run_program,Sem.run_pure,Sem.run_ite,o,h0,if_false]
       rw [g1];rfl
     refine CB (v:= .slice (some ⟨w.heap.size,0,none⟩) len len) (ah:=⟨z.length,es,.live⟩) (c:=l3) (d4:=e) h et rfl ?_ rfl f2 ?_ ?_
     ·simp [execOp,aj,h1]
     ·intro j x aa
      have aC:j<l3.size:=by
       rw [g2.1]
       rcases Nat.lt_or_ge j es.flatten.length with cj|cj
       ·exact cj
       ·rw [List.getElem?_eq_none cj] at aa;simp at aa
      have hu:l3[j]? = some l3[j]:=Array.getElem?_eq_getElem aC
      exact ⟨_,hu,g2.2.1 _ _ hu,g2.2.2 _ _ _ aa hu⟩
     ·intro bx jO lY lk hu ch
      refine Rel.bu hu ch (Nat.le_refl _) ?_ ⟨?_,.inr (by simp)⟩
      ·have:len≤len*z.length:=Nat.le_mul_of_pos_right _ (by omega)
       omega
      ·rw [g2.1]
       have a8 : ∀(es:List (List aw)),(∀e∈es,e.length=z.length)→es.flatten.length=es.length*z.length:=by
        intro es
        induction es with
        | nil=>simp
        | cons e es ih =>
         intro h
         rw [List.flatten_cons,List.length_append,ih fun x aa=>h x (by simp [aa]),h e (by simp),List.length_cons,Nat.add_mul];omega
       rw [a8 es f2,f3];simp
    ·simp at ar
  ·simp at ar
 ·simp at ar
theorem Cf (h:cE g s av a w)(et:s.aR aQ=none)(ar:el P s.E s.aR aQ I cG=some bn)(cp:∀p∈bn.e1,p):Fin P g s a w I bn:=by
 cases aj:I.op with
 | move x=>exact NF h (.inl aj) ar
 | assign x=>exact NF h (.inr aj) ar
 | pick c x y=>exact Wf h aj ar cp
 | alloc t=>exact Vl h et aj ar
 | box t x=>exact WX h et aj ar
 | load t x=>exact Wg h aj ar cp
 | store t x y=>exact Vm h aj ar cp
 | nilCheck x=>exact TQ h aj ar cp
 | binOp op t x y dc=>exact Vn h aj ar cp
 | unOp op t x=>exact Wh h aj ar
 | convert t dc x=>exact T9 h aj ar
 | makeFunc f AB ca=>exact TR h aj ar
 | makeSlice t x y=>exact TC h et aj ar cp
 | fieldAddr t x f=>exact TD h aj ar cp
 | field t x f=>exact Vr h aj ar
 | indexAddr t x y=>exact TE h aj ar cp
 | index t x y=>exact Vp h aj ar cp
 | extract x i=>exact Ua h aj ar
 | slice t x bD af Ki =>
  cases Ki with
  | none=>exact Vq h aj ar cp
  | some m=>simp [el,aj] at ar
 | build t iQ=>exact Vt h aj ar
 | buildSlice t n iQ=>exact Tu h et aj ar
 | call c =>
  obtain ⟨Du,args,l0⟩:=c
  cases Du with
  | builtin b=>cases b<;>first|exact WY h aj rfl ar cp|simp [el,aj] at ar
  | value f=>simp [el,aj] at ar
  | invoke r m=>simp [el,aj] at ar
 | _=>simp [el,aj] at ar
end
end Go.VL
namespace Go.VL
set_option linter.unusedVariables false
set_option linter.unusedSimpArgs false
open Go
def WZ:Option al→e6
 | some I=> .gB I []
 | none=> .none
def qp (sz:Nat)(aR:Nat→Option (List al))(a:e6):aw→Option (List (List aw)×List Prop)
 | .isl Dv es=>if Dv=sz then some (es,[]) else none
 | .bu r k bD len=>match oi (aR r) k a with
  | some (ah,bY)=>if ah.sz=sz then some ((ah.es.drop bD).take len,bY++[bD+len≤ah.es.length]) else none
  | none=>none
 | .eL=>some ([],[])
 | .hx=>some ([],[])
 | _=>none
def t0 (P:Program)(sz:Nat)(z:List aw)(aR:Nat→Option (List al))(a:e6)(t dc:TypeId)(y:aw):Option (List (List aw)×List Prop) :=
 if t=dc then qp sz aR a y else
 match P.underlying dc,y with
 | some (.int _),.n .i64 n=>some (List.replicate n.toNat z,[0≤n,n<9223372036854775808])
 | _,_=>none
def mX (P:Program)(E:Nat→aw)(aR:Nat→Option (List al))(aQ:Nat)(b:Builtin)(args:List aw)(l0:List TypeId)(cG:e6):Option hj :=
 match b,args,l0,cG with
 | .append,[x,y],[t,dc],.a3 m I =>
  match o8 P t with
  | none=>none
  | some e=>match P.info? e,qi P e with
   | some i,some z =>
    if z.length≠i.size∨i.size=0∨i.bytes=0 then none else
    match t0 P i.size z aR (WZ I) t dc y with
    | none=>none
    | some (bm,bY)=>match x with
     | .eL=>some {val:= .bu aQ 0 0 m,fh:=[(aQ,[⟨i.size,bm,.live⟩])],e1:=bY++[m=bm.length,m*i.bytes≤140737488355328]}
     | .bu r k 0 len=>match aR r with
      | none=>none
      | some row=>match c0 (some row) k with
       | none=>none
       | some ah=>if ah.cg = .live∧ah.sz=i.size∧aQ≠r then
        some {val:= .bu aQ 0 0 m,fh:=[(aQ,[⟨i.size,ah.es.take len++bm,.live⟩]),(r,row.set k {ah with cg:= .gone})],e1:=bY++[len≤ah.es.length,m=len+bm.length,m*i.bytes≤140737488355328]} else none
     | _=>none
   | _,_=>none
 | .append,[x,y],[t,dc],.dx =>
  match o8 P t with
  | none=>none
  | some e=>match P.info? e,qi P e with
   | some i,some z =>
    if z.length≠i.size∨i.size=0∨i.bytes=0 then none else
    match t0 P i.size z aR .none t dc y with
    | none=>none
    | some (bm,bY)=>match x with
     | .bu r k 0 len=>match aR r with
      | none=>none
      | some row=>match c0 (some row) k with
       | none=>none
       | some ah=>if ah.cg = .live∧ah.sz=i.size then
        some {val:= .bu r k 0 (len+bm.length),fh:=[(r,row.set k {ah with es:=ah.es.take len++bm})],e1:=bY++[len+bm.length≤ah.es.length,bm.length*i.bytes≤140737488355328]} else none
     | _=>none
   | _,_=>none
 | .copy,[.bu r k 0 len,y],[t,_],_ =>
  match o8 P t with
  | none=>none
  | some e=>match P.info? e with
   | none=>none
   | some i=>match qp i.size aR .none y with
    | none=>none
    | some (bm,bY)=>match aR r with
     | none=>none
     | some row=>match c0 (some row) k with
      | none=>none
      | some ah=>if ah.cg = .live∧ah.sz=i.size∧i.size≠0 then
       some {val:= .n .i64 bm.length,fh:=[(r,row.set k {ah with es:=bm++ah.es.drop bm.length})],e1:=bY++[bm.length≤len,len≤ah.es.length]} else none
 | .clear,[.bu r k 0 len],[t],_ =>
  match o8 P t with
  | none=>none
  | some e=>match P.info? e,qi P e with
   | some i,some z=>match aR r with
    | none=>none
    | some row=>match c0 (some row) k with
     | none=>none
     | some ah=>if ah.cg = .live∧ah.sz=i.size∧z.length=i.size∧i.size≠0 then
      some {val:= .dm [],fh:=[(r,row.set k {ah with es:=List.replicate len z})],e1:=[ah.es.length=len]} else none
   | _,_=>none
 | .min,[.n k x,.n dl y],_,_=>if k=dl then some {val:= .n k (if y<x then y else x)} else none
 | _,_,_,_=>none
section
variable {g:G} {s:S} {av:eS} {a:Act} {w bx:World}
theorem cE.gone (h:cE g s av a w){r k:Nat}{l:List al}{I:al}(an:s.aR r=some l)(aj:s.ah r k=some I):
 cE g (s.setRow r (l.set k {I with cg:= .gone})) av a w ∧
  ∀x v,Rel w (s.ok g av w) s.aV (s.a4 av) x v→Rel w ((s.setRow r (l.set k {I with cg:= .gone})).ok g av w) (s.setRow r (l.set k {I with cg:= .gone})).aV ((s.setRow r (l.set k {I with cg:= .gone})).a4 av) x v:=by
 have bd : ∀q j p,(s.setRow r (l.set k {I with cg:= .gone})).ah q j=some p→s.ah q j=some p∧ ¬(q=r∧j=k):=by
  intro q j p ak
  rw [kw] at ak
  by_cases e:q=r
  ·subst e
   rw [if_pos rfl] at ak
   unfold c0 at ak
   simp only [List.getElem?_set] at ak
   by_cases aF:k=j
   ·subst aF
    by_cases aU:k<l.length
    ·simp [aU] at ak
    ·simp [aU] at ak
   ·rw [if_neg aF] at ak
    refine ⟨?_,fun eO=>aF eO.2.symm⟩
    unfold S.ah;rw [an];exact ak
  ·rw [if_neg e] at ak
   exact ⟨ak,fun eO=>e eO.1⟩
 have cM:Step g s av w (s.setRow r (l.set k {I with cg:= .gone})) av w:=by
  refine ⟨BZ s an (by simp),fun q j a8=> ?_,fun b aG=> ?_,fun _ _ _=>rfl,Nat.le_refl _⟩
  ·cases ak:(s.setRow r (l.set k {I with cg:= .gone})).ah q j with
   | none=>right;simp [S.a4,ak]
   | some p=>left;simp [S.a4,ak,(bd q j p ak).1]
  ·obtain ⟨q,j,p,m,o,R,ae⟩:=aG
   exact .inl ⟨q,j,p,m,(bd q j p o).1,R,ae⟩
 refine ⟨{tohi:=⟨?_,?_,?_,h.gk,h.mlt,h.mv,cM.stay h.stay,h.low⟩,env:=fun t=>cM.rel (h.env t),defers:=h.defers,iN:=h.iN},fun x v=>cM.rel⟩
 ·intro q j p ak
  exact cM.obj (fun b m _=>rfl) (h.obj q j p (bd q j p ak).1)
 ·intro q j p gJ g7 jl b m a0 o R ae ay
  exact h.inj q j p gJ g7 jl b m a0 (bd q j p o).1 (bd gJ g7 jl R).1 ae ay
 ·intro q j p b m o R
  exact h.own q j p b m (bd q j p o).1 R
theorem cE.NI (h:cE g s av a w){aQ sz:Nat}(et:s.aR aQ=none):
 ∃bC,bC aQ 0=none∧cE g (s.setRow aQ [⟨sz,[],.live⟩]) bC a w:=by
 have bd : ∀q k,q≠aQ→(s.setRow aQ [⟨sz,[],.live⟩]).ah q k=s.ah q k:=fun q k a8=>by rw [kw,if_neg a8]
 let bC:eS:=fun q k=>if q=aQ then none else av q k
 have cF : ∀q k,s.aV q k→q≠aQ:=by
  rintro q k a8 rfl;exact vU et k a8
 have IF : ∀k I,(s.setRow aQ [⟨sz,[],.live⟩]).ah aQ k=some I→I=⟨sz,[],.live⟩:=by
  intro k I aj
  rw [kw,if_pos rfl,k8] at aj
  split at aj
  ·simp at aj;exact aj.symm
  ·simp at aj
 have cM:Step g s av w (s.setRow aQ [⟨sz,[],.live⟩]) bC w:=by
  refine ⟨fun q k a8=>(mn _ _ _ _ _).2 (by rw [if_neg (cF q k a8)];exact a8),fun q k a8=> .inl ?_,fun b aG=> ?_,fun _ _ _=>rfl,Nat.le_refl _⟩
  ·simp [S.a4,bd q k (cF q k a8),bC,cF q k a8]
  ·obtain ⟨q,k,I,m,o,R,ae⟩:=aG
   by_cases e:q=aQ
   ·subst e;simp [bC] at ae
   ·rw [bd q k e] at o
    simp only [bC,if_neg e] at ae
    exact .inl ⟨q,k,I,m,o,R,ae⟩
 refine ⟨bC,by simp [bC],{tohi:=⟨?_,?_,?_,h.gk,h.mlt,h.mv,cM.stay h.stay,h.low⟩,env:=fun t=>cM.rel (h.env t),defers:=h.defers,iN:=h.iN}⟩
 ·intro q k I aj
  by_cases e:q=aQ
  ·subst e
   rw [IF k I aj]
   simp [bC,iv]
  ·rw [bd q k e] at aj
   have:=cM.obj (fun b m _=>rfl) (h.obj q k I aj)
   simpa [bC,e] using this
 ·intro q k I gJ dl bX b m a0 o R ae ay
  have e:q≠aQ:=by rintro rfl;simp [bC] at ae
  have d9:gJ≠aQ:=by rintro rfl;simp [bC] at ay
  rw [bd q k e] at o
  rw [bd gJ dl d9] at R
  simp only [bC,if_neg e] at ae
  simp only [bC,if_neg d9] at ay
  exact h.inj q k I gJ dl bX b m a0 o R ae ay
 ·intro q k I b m o R
  have e:q≠aQ:=by rintro rfl;simp [bC] at R
  rw [bd q k e] at o
  simp only [bC,if_neg e] at R
  exact h.own q k I b m o R
theorem cE.turn (h:cE g s av a w){r k b m aQ:Nat}{l:List al}{I:al}(an:s.aR r=some l)(aj:s.ah r k=some I)(aU:I.cg = .live)(ak:av r k=some (b,m))
 (et:s.aR aQ=none) (bX:al) (l5:bX.cg = .live) (c:Array Value) (d4:TypeId)
 (hw:bx.heap[b]? = some (.cells c d4 (0,0))) (ev:bx.heap.size=w.heap.size) (tZ : ∀q,q≠b→bx.heap[q]? = w.heap[q]?)
 (pX:bx.os=w.os) (I6:bx.tape=w.tape) (ID:bx.output=w.output) (hm:c.size=m) (hlen : ∀e∈bX.es,e.length=bX.sz)
 (aP : ∀(j:Nat) x,bX.es.flatten[j]? = some x→ ∃v,c[j]? = some v∧jf v=true∧Rel w (s.ok g av w) s.aV (s.a4 av) x v) :
 ∃bC,bC aQ 0=some (b,m)∧cE g ((s.setRow aQ [bX]).setRow r (l.set k {I with cg:= .gone})) bC a bx:=by
 have cF:r≠aQ:=by rintro rfl;rw [et] at an;simp at an
 have Pc : ∀k,¬s.aV aQ k:=vU et
 let bG:=(s.setRow aQ [bX]).setRow r (l.set k {I with cg:= .gone})
 let bC:eS:=av.set aQ 0 (some (b,m))
 have bd : ∀q j p,bG.ah q j=some p→(q=aQ∧j=0∧p=bX)∨(q≠aQ∧s.ah q j=some p∧ ¬(q=r∧j=k)):=by
  intro q j p a8
  rw [kw] at a8
  by_cases e:q=r
  ·subst e
   rw [if_pos rfl] at a8
   unfold c0 at a8
   simp only [List.getElem?_set] at a8
   by_cases aF:k=j
   ·subst aF
    by_cases aU:k<l.length<;>simp [aU] at a8
   ·rw [if_neg aF] at a8
    refine .inr ⟨cF,?_,fun eO=>aF eO.2.symm⟩
    unfold S.ah;rw [an];exact a8
  ·rw [if_neg e,kw] at a8
   by_cases aF:q=aQ
   ·subst aF
    rw [if_pos rfl,k8] at a8
    split at a8
    ·rename_i h0;simp at a8;exact .inl ⟨rfl,h0.1,a8.symm⟩
    ·simp at a8
   ·rw [if_neg aF] at a8
    exact .inr ⟨aF,a8,fun eO=>e eO.1⟩
 have kF : ∀q j,q≠aQ→bC q j=av q j:=fun q j a8=>by simp [bC,eS.set,a8]
 have xd:bC aQ 0=some (b,m):=by simp [bC,eS.set]
 have o7:s.kK av b:=⟨r,k,I,m,aj,aU,ak⟩
 have iy : ∀q j,s.aV q j→bG.aV q j:=fun q j a8=>by
  have e:q≠aQ:=fun e=>Pc j (e▸a8)
  rw [mn,mn,if_neg e]
  by_cases aF:q=r
  ·subst aF;rw [if_pos rfl];simpa [S.aV,an] using a8
  ·rw [if_neg aF];exact a8
 have cM:Step g s av w bG bC bx:=by
  refine ⟨iy,fun q j a8=> ?_,fun q aG=> ?_,fun q a8 aG=>tZ q fun e=>aG (e▸o7),Nat.le_of_eq ev.symm⟩
  ·have my:q≠aQ:=fun e=>Pc j (e▸a8)
   cases jq:bG.ah q j with
   | none=>right;simp [S.a4,jq]
   | some p =>
    left
    rcases bd q j p jq with ⟨e,-⟩|⟨-,aF,-⟩
    ·exact absurd e my
    ·simp [S.a4,jq,aF,kF q j my]
  ·obtain ⟨gJ,j,p,a0,o,R,ae⟩:=aG
   rcases bd gJ j p o with ⟨rfl,rfl,rfl⟩|⟨ax,aF,-⟩
   ·rw [xd] at ae;simp at ae;exact .inl (ae.1▸o7)
   ·rw [kF gJ j ax] at ae;exact .inl ⟨gJ,j,p,a0,aF,R,ae⟩
 refine ⟨bC,xd,{tohi:=⟨?_,?_,?_,?_,h.mlt,h.mv,cM.stay h.stay,h.low⟩,env:=fun t=>cM.rel (h.env t),defers:=h.defers,iN:=h.iN}⟩
 ·intro q j p jq
  rcases bd q j p jq with ⟨rfl,rfl,rfl⟩|⟨ax,aF,b4⟩
  ·rw [xd]
   exact ⟨c,d4,hw,hm,hlen,fun i x aa=>let ⟨v,f1,f2,f3⟩:=aP i x aa;⟨v,f1,f2,cM.rel f3⟩⟩
  ·rw [kF q j ax]
   refine cM.obj (fun jm a0 jP=>tZ jm ?_) (h.obj q j p aF)
   rintro rfl
   exact b4 (h.inj q j p r k I jm a0 m aF aj jP ak)
 ·intro q j p gJ g7 jl jm hd fW o R ae ay
  rcases bd q j p o with ⟨rfl,rfl,rfl⟩|⟨ax,aF,b4⟩<;>rcases bd gJ g7 jl R with ⟨rfl,rfl,rfl⟩|⟨l6,oP,zV⟩
  ·exact ⟨rfl,rfl⟩
  ·rw [xd] at ae;simp at ae
   rw [kF gJ g7 l6] at ay
   obtain ⟨rfl,rfl⟩:=ae
   exact absurd (h.inj gJ g7 jl r k I b fW m oP aj ay ak) zV
  ·rw [xd] at ay;simp at ay
   rw [kF q j ax] at ae
   obtain ⟨rfl,rfl⟩:=ay
   exact absurd (h.inj q j p r k I b hd m aF aj ae ak) b4
  ·rw [kF q j ax] at ae;rw [kF gJ g7 l6] at ay
   exact h.inj q j p gJ g7 jl jm hd fW aF oP ae ay
 ·intro q j p jm a0 o R
  rcases bd q j p o with ⟨rfl,rfl,rfl⟩|⟨ax,aF,-⟩
  ·rw [xd] at R;simp at R
   rw [← R.1]
   exact h.own r k I b m aj ak
  ·rw [kF q j ax] at R;exact h.own q j p jm a0 aF R
 ·refine h.gk.step pX I6 ID (Nat.le_of_eq ev.symm) fun jm pY jP=>tZ jm ?_
  rintro rfl
  rcases h.own r k I jm m aj ak with o|o
  ·omega
  ·exact jP o
theorem nI.mV {ok:Nat→Prop}{aV:ik}{a4:h6}{dz I sz:Nat}{es:List (List aw)}(h:nI w ok aV a4 dz I sz es):
 ∃vs:List Value,vs.length=es.length*sz∧(∀(j:Nat) u,vs[j]? = some u→w.cell? ((⟨dz,I,none⟩:Addr).add j)=some u)∧(∀u∈vs,u.oneCell'=true) ∧
  ∀(j:Nat) x u,es.flatten[j]? = some x→vs[j]? = some u→Rel w ok aV a4 x u:=by
 have iO:es.flatten.length=es.length*sz:=by
  have : ∀(es:List (List aw)),(∀e∈es,e.length=sz)→es.flatten.length=es.length*sz:=by
   intro es
   induction es with
   | nil=>intro _;simp
   | cons e es ih =>
    intro eO
    rw [List.flatten_cons,List.length_append,ih fun x aa=>eO x (by simp [aa]),eO e (by simp),List.length_cons,Nat.add_mul];omega
  exact this es h.1
 have aa : ∀i,i<es.length*sz→ ∃v,∀x,es.flatten[i]? = some x→w.cell? ⟨dz,I+i,none⟩=some v∧jf v=true∧Rel w ok aV a4 x v:=by
  intro i af
  have aC:=List.getElem?_eq_getElem (l:=es.flatten) (i:=i) (by omega)
  obtain ⟨v,o⟩:=h.2 i _ aC
  exact ⟨v,fun x aa=>by rw [aC] at aa;simp at aa;subst aa;exact o⟩
 let vs:List Value:=(List.range (es.length*sz)).map fun i=>if af:i<es.length*sz then (aa i af).choose else undef
 have pg:vs.length=es.length*sz:=by simp [vs]
 have kS : ∀(i:Nat) u x,vs[i]? = some u→es.flatten[i]? = some x→w.cell? ⟨dz,I+i,none⟩=some u∧jf u=true∧Rel w ok aV a4 x u:=by
  intro i u x hu zW
  have af:i<es.length*sz:=by
   rcases Nat.lt_or_ge i vs.length with cj|cj
   ·omega
   ·rw [List.getElem?_eq_none cj] at hu;simp at hu
  simp only [vs,List.getElem?_map,List.getElem?_range af,Option.map_some,dif_pos af,Option.some.injEq] at hu
  subst hu
  exact (aa i af).choose_spec x zW
 have hex : ∀(i:Nat) u,vs[i]? = some u→ ∃x,es.flatten[i]? = some x:=by
  intro i u hu
  have af:i<es.flatten.length:=by
   rcases Nat.lt_or_ge i vs.length with cj|cj
   ·omega
   ·rw [List.getElem?_eq_none cj] at hu;simp at hu
  exact ⟨_,List.getElem?_eq_getElem af⟩
 refine ⟨vs,pg,fun j u hu=> ?_,fun u hu=> ?_,fun j x u df hu=>(kS j u x hu df).2.2⟩
 ·obtain ⟨x,zW⟩:=hex j u hu
  rw [q3];exact (kS j u x hu zW).1
 ·obtain ⟨j,aC⟩:=List.getElem?_of_mem hu
  obtain ⟨x,zW⟩:=hex j u aC
  exact (kS j u x aC zW).2.1
theorem Tl {es bm:List (List aw)}{sz:Nat}{xs news:List Value}(aa:xs.length=es.length*sz)(he:∀e∈es,e.length=sz){j:Nat}{x:aw}(h:(es++bm).flatten[j]? = some x)
 {ok:Nat→Prop} {aV:ik} {a4:h6} (o : ∀(j:Nat) x u,es.flatten[j]? = some x→xs[j]? = some u→Rel w ok aV a4 x u) (R : ∀(j:Nat) x u,bm.flatten[j]? = some x→news[j]? = some u→Rel w ok aV a4 x u)
 {u:Value} (hu:(xs++news)[j]? = some u):Rel w ok aV a4 x u:=by
 have iO:es.flatten.length=es.length*sz:=by
  have : ∀(es:List (List aw)),(∀e∈es,e.length=sz)→es.flatten.length=es.length*sz:=by
   intro es
   induction es with
   | nil=>intro _;simp
   | cons e es ih =>
    intro eO
    rw [List.flatten_cons,List.length_append,ih fun x aa=>eO x (by simp [aa]),eO e (by simp),List.length_cons,Nat.add_mul];omega
  exact this es he
 rw [List.flatten_append,List.getElem?_append] at h
 rw [List.getElem?_append] at hu
 by_cases aC:j<es.flatten.length
 ·rw [if_pos aC] at h
  rw [if_pos (by omega)] at hu
  exact o j x u h hu
 ·rw [if_neg aC] at h
  rw [if_neg (by omega)] at hu
  rw [iO] at h
  rw [aa] at hu
  exact R _ x u h hu
variable {P:Program}
theorem M7 (h:cE g s av a w){sz:Nat}{x:aw}{eV:e6}{bm:List (List aw)}{ah:List Prop}(he:qp sz s.aR eV x=some (bm,ah))(bd:∀p∈ah,p){v:Value}(aY:Rel w (s.ok g av w) s.aV (s.a4 av) x v):
 ∃A c,v = .slice A bm.length c∧(∀e∈bm,e.length=sz)∧(bm.length=0∨ ∃dz off,A=some ⟨dz,off,none⟩∧nI w (s.ok g av w) s.aV (s.a4 av) dz off sz bm):=by
 cases x with
 | isl Dv es =>
  simp only [qp] at he
  split at he
  ·rename_i bR
   subst bR
   simp only [Option.some.injEq,Prod.mk.injEq] at he
   obtain ⟨rfl,rfl⟩:=he
   rcases aY.rM with ⟨rfl,A,c,rfl,-⟩|⟨dz,off,c,-,rfl,-,hy⟩
   ·exact ⟨A,c,rfl,by simp,.inl rfl⟩
   ·exact ⟨_,c,rfl,hy.1,.inr ⟨dz,off,rfl,hy⟩⟩
  ·simp at he
 | bu r k bD len =>
  simp only [qp] at he
  split at he
  ·rename_i mB bY jj
   split at he
   ·rename_i bR
    simp only [Option.some.injEq,Prod.mk.injEq] at he
    obtain ⟨rfl,rfl⟩:=he
    have hs:bD+len≤mB.es.length:=bd _ (by simp)
    have aj:s.ah r k=some mB:=sG jj (fun p ak=>bd p (by simp [ak]))
    have eX:=h.obj r k mB aj
    have aG:((mB.es.drop bD).take len).length=len:=by simp;omega
    rcases aY.yS (hD aj) with ⟨-,rfl,rfl,rfl⟩|⟨b,m,A,c,ak,rfl,qC,-,hm⟩
    ·exact ⟨none,0,by simp,by simp,.inl (by simp)⟩
    ·rw [ak] at eX
     have hy:=eX.rd
     subst bR
     have ug:=B0 hy bD len (by omega)
     refine ⟨A,c,by rw [aG],ug.1,?_⟩
     rcases hm with rfl|⟨rfl,-⟩
     ·left;rw [aG];omega
     ·right
      rw [Nat.zero_add] at ug
      exact ⟨b,_,rfl,ug⟩
   ·simp at he
  ·simp at he
 | eL =>
  simp only [qp,Option.some.injEq,Prod.mk.injEq] at he
  obtain ⟨rfl,rfl⟩:=he
  rw [aY.o4]
  exact ⟨none,0,rfl,by simp,.inl rfl⟩
 | hx =>
  simp only [qp,Option.some.injEq,Prod.mk.injEq] at he
  obtain ⟨rfl,rfl⟩:=he
  obtain ⟨A,c,rfl⟩:=aY.CA
  exact ⟨some A,c,rfl,by simp,.inl rfl⟩
 | _=>simp [qp] at he
structure IG (P:Program) (w:World) (t dc d4 e:TypeId) (i:TypeInfo) (dY mG:Value) (n:Nat) (vs:List Value):Prop where
 zero:n=0→ ∀(B:Option Addr) (len cap:Nat),len≤cap→(Builtin.append_ #[t,dc] d4 #[.slice B len cap,mG]).run P w = .ok (.slice B len cap) w
 nil:0<n→(n:Int)≤9223372036854775807→n*i.bytes≤140737488355328 →
  (Builtin.append_ #[t,dc] d4 #[.slice none 0 0,mG]).run P w = .ok (.slice (some ⟨w.heap.size,0,none⟩) n (grownCap w n 0 e)) (w.drew.alloc (.cells (vs.toArray++Builtin.zeroCells dY.cells (grownCap w n 0 e-n)) e))
 room:0<n→ ∀(g hO kP:Nat) (kC:Array Value) (d9:TypeId),w.heap[g]? = some (.cells kC d9 (0,0))→hO+n≤kP→hO*i.size+vs.length≤kC.size→n*i.bytes≤140737488355328 →
  (Builtin.append_ #[t,dc] d4 #[.slice (some ⟨g,0,none⟩) hO kP,mG]).run P w = .ok (.slice (some ⟨g,0,none⟩) (hO+n) kP) (w.setRow g (kC.toList.take (hO*i.size)++vs++kC.toList.drop (hO*i.size+vs.length)).toArray)
 grow:0<n→ ∀(b:Addr) (hO kP:Nat) (uh:List Value),uh.length=hO*i.size→(∀(j:Nat) v,uh[j]? = some v→w.cell? (b.add j)=some v)→kP<hO+n→((hO+n:Nat):Int)≤9223372036854775807→Builtin.nextslicecap (hO+n) kP*i.bytes≤281474976710656→n*i.bytes≤140737488355328 →
  (Builtin.append_ #[t,dc] d4 #[.slice (some b) hO kP,mG]).run P w = .ok (.slice (some ⟨w.heap.size,0,none⟩) (hO+n) (grownCap w (hO+n) kP e))
    (w.drew.alloc (.cells (uh.toArray++vs.toArray++Builtin.zeroCells dY.cells (grownCap w (hO+n) kP e-(hO+n))) e))
theorem SU (t d4 e:TypeId)(i:TypeInfo)(ch:P.underlying t=some (.slice e))(af:P.info? e=some i)
 (g hO kP:Nat) (kC:Array Value) (d9:TypeId) (dt:w.heap[g]? = some (.cells kC d9 (0,0)))
 (a:Addr) (m c:Nat) (news:List Value) (aG:news.length=m*i.size) (XK : ∀j u,news[j]? = some u→w.cell? (a.add j)=some u) (o : ∀u∈news,u.oneCell'=true)
 (rV:hO+m≤kP) (hs:hO*i.size+news.length≤kC.size) :
 (Builtin.append_ #[t,t] d4 #[.slice (some ⟨g,0,none⟩) hO kP,.slice (some a) m c]).run P w =
   .ok (.slice (some ⟨g,0,none⟩) (hO+m) kP) (w.setRow g (kC.toList.take (hO*i.size)++news++kC.toList.drop (hO*i.size+news.length)).toArray):=by
 have b7:=run_firstCells_some (P:=P) w i.size m a m c news aG XK
 have ll:=run_storeCells_at P g (hO*i.size) d9 news 0 kC w dt (by simpa using hs) o
 simp only [Nat.add_zero] at ll
 simp [Builtin.append_,run_underlying ch,sizeOf,typeInfo,af,Builtin.lenOf,rV,b7,Addr.add_lit,ll]
theorem Mg {t d4 e:TypeId}{i:TypeInfo}{dY:Value}(ch:P.underlying t=some (.slice e))(af:P.info? e=some i)(cd:i.zero=some dY){A:Option Addr}{n c:Nat}{vs:List Value}(aG:vs.length=n*i.size)
 (hA:n=0∨ ∃a,A=some a∧ ∀(j:Nat) u,vs[j]? = some u→w.cell? (a.add j)=some u) (o : ∀u∈vs,u.oneCell'=true):IG P w t t d4 e i dY (.slice A n c) n vs where
 zero:=fun h0 B len cap zv=>by
  subst h0
  cases A<;>cases B<;>simp [Builtin.append_,run_underlying ch,sizeOf,typeInfo,af,Builtin.lenOf,zv,Builtin.firstCells,loadCells,loadCellsFrom,storeCells]
 nil:=fun h0 uo xe=>by
  obtain ⟨a,rfl,bA⟩:=hA.resolve_left (by omega)
  exact run_append_nil (P:=P) w t d4 e i dY ch af cd a n c vs aG bA h0 uo (by omega)
 room:=fun a1 g hO kP kC d9 dt rV hs _=>by
  obtain ⟨a,rfl,bA⟩:=hA.resolve_left (by omega)
  exact SU t d4 e i ch af g hO kP kC d9 dt a n c vs aG bA o rV hs
 grow:=fun a1 b hO kP uh aj hold dt uo hs _=>by
  obtain ⟨a,rfl,bA⟩:=hA.resolve_left (by omega)
  exact run_append_grow (P:=P) w t d4 e i dY ch af cd b hO kP uh aj hold a n c vs aG bA dt uo hs
theorem Ud {t dc d4 e:TypeId}{i:TypeInfo}{dY:Value}{k:IntKind}(ch:P.underlying t=some (.slice e))(mW:P.underlying dc=some (.int k))(af:P.info? e=some i)(cd:i.zero=some dY)(kD:dY.cells.size=i.size){m:Nat}(acf:(m:Int)<9223372036854775808)
 (o : ∀u∈(Builtin.zeroCells dY.cells m).toList,u.oneCell'=true):IG P w t dc d4 e i dY (.int .i64 m) m (Builtin.zeroCells dY.cells m).toList:=by
 have hw:IntKind.i64.wrap (m:Int)=m:=by simp [IntKind.wrap,IntKind.bits,IntKind.signed];omega
 have pV : ¬((m:Int)<0):=by omega
 have qD : ∀a0,a0*i.size=0→Builtin.zeroCells dY.cells a0 = #[]:=fun a0 hm=>by
  apply Array.eq_empty_of_size_eq_zero
  rw [size_zeroCells,kD,hm]
 have Dw : ∀bx:World,(if m*i.size=0 then (pure #[]:Sem (Array Value)) else do pure (Builtin.zeroCells (← zeroValue e).cells m)).run P bx = .ok (Builtin.zeroCells dY.cells m) bx:=fun bx=>by
  split
  ·rename_i hm;rw [qD _ hm];rfl
  ·simp [zeroValue,typeInfo,af,cd]
 have IH : ∀b:Nat,m*b≤140737488355328→ ¬(281474976710656<(m:Int)*(b:Int)):=fun b aM=>by
  have:((m*b:Nat):Int)≤140737488355328:=by omega
  rw [Int.natCast_mul] at this
  omega
 refine ⟨fun a1 B len cap zv=> ?_,fun a1 uo xe=> ?_,fun a1 g hO kP kC d9 dt rV hs xe=> ?_,fun a1 b hO kP uh aj hold dt uo hs xe=> ?_⟩
 ·subst a1
  have Jb:IntKind.i64.wrap 0=0:=by simpa using hw
  cases B<;>simp [Builtin.append_,run_underlying ch,run_underlying mW,sizeOf,typeInfo,af,zv,asInt,asIntOf,Jb,storeCells]
 ·have Jc : ¬m=0:=by omega
  have zw : ¬(9223372036854775807<(m:Int)):=by omega
  have sW:=IH _ xe
  have zx : ¬(281474976710656<Builtin.nextslicecap m 0*i.bytes):=by rw [nextslicecap_zero a1];omega
  have R:=Dw w.drew
  by_cases hm:m*i.size=0
  ·simp [Builtin.append_,run_underlying ch,run_underlying mW,sizeOf,typeInfo,zeroValue,af,cd,asInt,asIntOf,hw,pV,sW,Jc,zw,zx,Question.forced,run_firstCells_none,newRow,grownCap,hm,qD _ hm]
  ·simp [Builtin.append_,run_underlying ch,run_underlying mW,sizeOf,typeInfo,zeroValue,af,cd,asInt,asIntOf,hw,pV,sW,Jc,zw,zx,Question.forced,run_firstCells_none,newRow,grownCap,hm]
 ·have sW:=IH _ xe
  have ll:=run_storeCells_at P g (hO*i.size) d9 (Builtin.zeroCells dY.cells m).toList 0 kC w dt (by simpa using hs) o
  simp only [Nat.add_zero] at ll
  by_cases hm:m*i.size=0
  ·rw [qD _ hm] at ll
   have Yh:(storeCells ⟨g,hO*i.size,none⟩ []).run P w = .ok () (w.setRow g kC):=by simpa using ll
   simp [Builtin.append_,run_underlying ch,run_underlying mW,sizeOf,typeInfo,zeroValue,af,cd,asInt,asIntOf,hw,pV,sW,rV,hm,qD _ hm,Addr.add_lit,Yh]
  ·simp [Builtin.append_,run_underlying ch,run_underlying mW,sizeOf,typeInfo,zeroValue,af,cd,asInt,asIntOf,hw,pV,sW,rV,hm,Addr.add_lit,ll]
 ·have sW:=IH _ xe
  have Pz : ¬(hO+m≤kP):=by omega
  have zw : ¬(9223372036854775807<((hO:Int)+(m:Int))):=by omega
  have zx : ¬(281474976710656<Builtin.nextslicecap (hO+m) kP*i.bytes):=by omega
  have PA:=run_firstCells_some (P:=P) w.drew i.size hO b hO kP uh aj (by simpa using hold)
  by_cases hm:m*i.size=0
  ·simp [Builtin.append_,run_underlying ch,run_underlying mW,sizeOf,typeInfo,zeroValue,af,cd,asInt,asIntOf,hw,pV,sW,Pz,zw,zx,Question.forced,PA,newRow,grownCap,hm,qD _ hm]
  ·simp [Builtin.append_,run_underlying ch,run_underlying mW,sizeOf,typeInfo,zeroValue,af,cd,asInt,asIntOf,hw,pV,sW,Pz,zw,zx,Question.forced,PA,newRow,grownCap,hm]
theorem GI {aQ:Nat}{e:TypeId}{v:Value}{i:TypeInfo}{m:Nat}(h:cE g s av a w)(et:s.aR aQ=none){es:List (List aw)}(hlen:∀x∈es,x.length=i.size)(hm:m=es.length)
 {mV:List Value} {sm:Array Value} {cap:Nat} (pg:mV.length=es.length*i.size) (kO : ∀u∈mV,u.oneCell'=true) (Y2:sm.size=(cap-m)*i.size) (zv:m≤cap) (Yi:cap<9223372036854775808)
 (eX : ∀(j:Nat) x u,es.flatten[j]? = some x→mV[j]? = some u→Rel w (s.ok g av w) s.aV (s.a4 av) x u)
 (aY:v = .slice (some ⟨w.heap.size,0,none⟩) m cap) :
 ∃bC,cE g (s.setRow aQ [⟨i.size,es,.live⟩]) bC a (w.drew.alloc (.cells (mV.toArray++sm) e)) ∧
  Rel (w.drew.alloc (.cells (mV.toArray++sm) e)) ((s.setRow aQ [⟨i.size,es,.live⟩]).ok g bC (w.drew.alloc (.cells (mV.toArray++sm) e))) (s.setRow aQ [⟨i.size,es,.live⟩]).aV ((s.setRow aQ [⟨i.size,es,.live⟩]).a4 bC) (.bu aQ 0 0 m) v:=by
 have ba:=h.drew
 have iO:es.flatten.length=es.length*i.size:=by
  have : ∀(es:List (List aw)),(∀e∈es,e.length=i.size)→es.flatten.length=es.length*i.size:=by
   intro es
   induction es with
   | nil=>intro _;simp
   | cons e es ih =>
    intro eO
    rw [List.flatten_cons,List.length_append,ih fun x aa=>eO x (by simp [aa]),eO e (by simp),List.length_cons,Nat.add_mul];omega
  exact this es hlen
 obtain ⟨bC,gK,h7,-⟩:=ba.alloc et ⟨i.size,es,.live⟩ rfl (mV.toArray++sm) e hlen (fun j x aa=>by
  have aC:j<mV.length:=by
   rcases Nat.lt_or_ge j es.flatten.length with cj|cj
   ·omega
   ·rw [List.getElem?_eq_none cj] at aa;simp at aa
  refine ⟨mV[j],?_,kO _ (List.getElem_mem aC),?_⟩
  ·rw [Array.getElem?_append_left (by simpa using aC)]
   simp [aC]
  ·exact (eX j x _ aa (List.getElem?_eq_getElem aC)).drew)
 refine ⟨bC,h7,?_⟩
 subst aY
 have aj:(s.setRow aQ [⟨i.size,es,.live⟩]).ah aQ 0=some ⟨i.size,es,.live⟩:=by rw [kw,if_pos rfl,k8];simp
 refine Rel.bu (sz:=i.size) (dz:=w.heap.size) (m:=(mV.toArray++sm).size) ((mn _ _ _ _ _).2 (by simp)) ?_ zv Yi ⟨?_,.inr (by simp)⟩
 ·rw [hD aj,gK];rfl
 ·simp only [Array.size_append,List.size_toArray,Y2,pg,Nat.zero_add]
  rw [← hm,← Nat.add_mul]
  congr 1;omega
section
variable {I:Oper} {cG:e6} {aQ:Nat} {bn:hj}
theorem MI (h:cE g s av a w){t dc d4 e:TypeId}{i:TypeInfo}{z:List aw}(hu:P.underlying t=some (.slice e))(af:P.info? e=some i)(cd:qi P e=some z)(mz:z.length=i.size)(iM:i.size≠0)
 {y:aw} {eV:e6} {bm:List (List aw)} {ah:List Prop} (he:t0 P i.size z s.aR eV t dc y=some (bm,ah)) (bd : ∀p∈ah,p) {mG:Value} (aS:Rel w (s.ok g av w) s.aV (s.a4 av) y mG) :
 ∃dY vs,i.zero=some dY∧dY.cells.size=i.size∧IG P w t dc d4 e i dY mG bm.length vs∧(∀x∈bm,x.length=i.size)∧vs.length=bm.length*i.size∧(∀u∈vs,u.oneCell'=true) ∧
  ∀(j:Nat) x u,bm.flatten[j]? = some x→vs[j]? = some u→Rel w (s.ok g av w) s.aV (s.a4 av) x u:=by
 obtain ⟨eI,dY,i1,j6,rp,s5⟩:=yt cd
 rw [af] at i1;simp at i1;subst i1
 have kD:dY.cells.size=i.size:=by rw [← mz,rp];simp
 unfold t0 at he
 split at he
 ·rename_i Y3
  subst Y3
  obtain ⟨A,c,rfl,hlen,Jd⟩:=M7 h he bd aS
  rcases Jd with h0|⟨dz,off,rfl,hy⟩
  ·have:bm=[]:=List.length_eq_zero_iff.1 h0
   subst this
   exact ⟨dY,[],j6,kD,Mg hu af j6 (by simp) (.inl rfl) (by simp),hlen,by simp,by simp,by simp⟩
  ·obtain ⟨vs,v1,v2,v3,v4⟩:=hy.mV
   exact ⟨dY,vs,j6,kD,Mg hu af j6 v1 (.inr ⟨_,rfl,v2⟩) v3,hlen,v1,v3,v4⟩
 ·split at he
  ·rename_i k n aU
   simp only [Option.some.injEq,Prod.mk.injEq] at he
   obtain ⟨rfl,rfl⟩:=he
   have h0:0≤n:=bd _ (by simp)
   have uo:n<9223372036854775808:=bd _ (by simp)
   obtain ⟨m,rfl⟩:=Int.eq_ofNat_of_zero_le h0
   have Y4:mG = .int .i64 m:=by cases aS;rfl
   subst Y4
   have kS : ∀(j:Nat) u,(Builtin.zeroCells dY.cells m).toList[j]? = some u→dY.cells[j % i.size]? = some u:=by
    intro j u mY
    have aC:=(List.getElem?_eq_some_iff.1 mY).1
    rw [Array.length_toList,size_zeroCells,kD] at aC
    have di:j % i.size<dY.cells.size:=by rw [kD];exact Nat.mod_lt _ (by omega)
    rw [Array.getElem?_toList,Builtin.zeroCells,Array.getElem?_map,kD,Array.getElem?_range] at mY
    rw [if_pos aC] at mY
    simp only [Option.map_some,Option.some.injEq] at mY
    rw [← mY,Array.getElem?_eq_getElem di,getElem!_pos dY.cells _ di]
   refine ⟨dY,(Builtin.zeroCells dY.cells m).toList,j6,kD,?_,?_,?_,?_,?_⟩
   ·simp only [List.length_replicate,Int.toNat_natCast]
    refine Ud hu aU af j6 kD (by omega) fun u qE=> ?_
    obtain ⟨j,aC⟩:=List.getElem?_of_mem qE
    have o:=kS j u aC
    have di:j % i.size<z.length:=by rw [mz];exact Nat.mod_lt _ (by omega)
    obtain ⟨v,v1,v2,-⟩:=s5 _ _ (List.getElem?_eq_getElem di)
    rw [o] at v1
    obtain rfl:=Option.some.inj v1
    exact v2
   ·intro x aa
    rw [List.mem_replicate] at aa
    rw [aa.2,mz]
   ·rw [Array.length_toList,size_zeroCells,kD];simp
   ·intro u qE
    obtain ⟨j,aC⟩:=List.getElem?_of_mem qE
    have o:=kS j u aC
    have di:j % i.size<z.length:=by rw [mz];exact Nat.mod_lt _ (by omega)
    obtain ⟨v,v1,v2,-⟩:=s5 _ _ (List.getElem?_eq_getElem di)
    rw [o] at v1
    obtain rfl:=Option.some.inj v1
    exact v2
   ·intro j x u aa mY
    rw [oE (sz:=i.size) (by omega) _ (fun d9 kR=>by rw [List.mem_replicate] at kR;rw [kR.2,mz])] at aa
    have o:=kS j u mY
    cases a8:(List.replicate (Int.toNat (m:Int)) z)[j / i.size]? with
    | none=>rw [a8] at aa;simp at aa
    | some d9 =>
     have:=List.mem_of_getElem? a8
     rw [List.mem_replicate] at this
     rw [a8,this.2] at aa
     simp only [Option.bind_some] at aa
     obtain ⟨v,v1,-,v3⟩:=s5 _ _ aa
     rw [o] at v1
     obtain rfl:=Option.some.inj v1
     exact v3 _ _ _ _
  ·simp at he
theorem Ue (h:cE g s av a w)(et:s.aR aQ=none){x y:aw}{qN mG:Value}{t dc:TypeId}{m:Nat}{Kj:Option al}{d4:TypeId}(ar:mX P s.E s.aR aQ .append [x,y] [t,dc] (.a3 m Kj)=some bn)(cp:∀p∈bn.e1,p)
 (aa:Rel w (s.ok g av w) s.aV (s.a4 av) x qN) (aS:Rel w (s.ok g av w) s.aV (s.a4 av) y mG) :
 ∃v bx bC,(Builtin.append_ #[t,dc] d4 #[qN,mG]).run P w = .ok v bx∧cE g (s.ha bn.fh) bC a bx∧Rel bx ((s.ha bn.fh).ok g bC bx) (s.ha bn.fh).aV ((s.ha bn.fh).a4 bC) bn.val v:=by
 simp only [mX] at ar
 split at ar
 ·simp at ar
 ·rename_i e he
  have hu:=q4 he
  split at ar
  ·rename_i i z af cd
   split at ar
   ·simp at ar
   ·rename_i aP
    simp only [not_or,Decidable.not_not] at aP
    obtain ⟨mz,iM,xa⟩:=aP
    split at ar
    ·simp at ar
    ·rename_i bm bY qy
     have Dx:=fun ak=>MI (d4:=d4) h hu af cd mz iM qy ak aS
     by_cases W0:True
     ·
      split at ar
      ·
       simp only [Option.some.injEq] at ar
       subst ar
       have hm:m=bm.length:=cp _ (by simp)
       have zX:m*i.bytes≤140737488355328:=cp _ (by simp)
       obtain ⟨dY,vs,j6,kD,hA,hlen,v1,v3,v4⟩:=Dx (fun p ak=>cp p (by simp [ak]))
       clear Dx
       rw [aa.o4]
       by_cases h0:bm.length=0
       ·have:bm=[]:=List.length_eq_zero_iff.1 h0
        subst this
        obtain ⟨bC,gK,h7⟩:=h.NI (sz:=i.size) et
        refine ⟨_,w,bC,hA.zero h0 none 0 0 (Nat.le_refl _),h7,?_⟩
        subst hm
        have aj:(s.setRow aQ [⟨i.size,[],.live⟩]).ah aQ 0=some ⟨i.size,[],.live⟩:=by rw [kw,if_pos rfl,k8];simp
        exact .mK (sz:=i.size) ((mn _ _ _ _ _).2 (by simp)) (by show (s.setRow aQ [⟨i.size,[],.live⟩]).a4 bC aQ 0=_;rw [hD aj,gK])
       ··have rf:bm.length*1≤bm.length*i.bytes:=Nat.mul_le_mul_left _ (by omega)
         rw [hm] at zX
         have h1:=hA.nil (by omega) (by omega) (by omega)
         have PB:=grownCap_ge w bm.length 0 e
         have hle:=grownCap_le_maxLen w bm.length 0 e (by simp only [maxLen];omega)
         simp only [maxLen] at hle
         obtain ⟨bC,aW,bh⟩:=GI (e:=e) (i:=i) (m:=m) (mV:=vs) (sm:=Builtin.zeroCells dY.cells (grownCap w bm.length 0 e-bm.length)) (cap:=grownCap w bm.length 0 e) h et hlen hm v1 v3
          (by rw [size_zeroCells,kD,hm]) (by omega) (by omega) v4 rfl
         refine ⟨.slice (some ⟨w.heap.size,0,none⟩) m (grownCap w bm.length 0 e),_,bC,?_,aW,bh⟩
         rw [hm];exact h1
      ·
       rename_i r k len
       split at ar
       ·simp at ar
       ·rename_i row c8
        split at ar
        ·simp at ar
        ·rename_i ah bd
         split at ar
         ·rename_i uq
          obtain ⟨mZ,ev,cF⟩:=uq
          simp only [Option.some.injEq] at ar
          subst ar
          have aj:s.ah r k=some ah:=by unfold S.ah;rw [c8];exact bd
          have hs:len≤ah.es.length:=cp _ (by simp)
          have hm:m=len+bm.length:=cp _ (by simp)
          have zX:m*i.bytes≤140737488355328:=cp _ (by simp)
          have rf:m*1≤m*i.bytes:=Nat.mul_le_mul_left _ (Nat.one_le_iff_ne_zero.2 xa)
          obtain ⟨dY,vs,j6,kD,hA,hlen,v1,v3,v4⟩:=Dx (fun p ak=>cp p (by simp [ak]))
          clear Dx
          have acs:bm.length*i.bytes≤m*i.bytes:=Nat.mul_le_mul_right _ (by omega)
          have eX:=h.obj r k ah aj
          have Je:(ah.es.take len).length=len:=by simp;omega
          have q9:(s.setRow aQ [⟨i.size,ah.es.take len++bm,.live⟩]).aR r=some row:=by simp [S.setRow,Ne.symm cF,c8]
          have ph : ∀bC:eS,((s.setRow aQ [⟨i.size,ah.es.take len++bm,.live⟩]).setRow r (row.set k {ah with cg:= .gone})).ah aQ 0=some ⟨i.size,ah.es.take len++bm,.live⟩:=by
           intro _
           rw [kw,if_neg cF,kw,if_pos rfl,k8];simp
          have zy:((s.setRow aQ [⟨i.size,ah.es.take len++bm,.live⟩]).setRow r (row.set k {ah with cg:= .gone})).aV aQ 0:=by rw [mn,if_neg cF,mn,if_pos rfl];simp
          show ∃v bx bC,_∧cE g ((s.setRow aQ [⟨i.size,ah.es.take len++bm,.live⟩]).setRow r (row.set k {ah with cg:= .gone})) bC a bx∧_
          rcases aa.tP (hD aj) with ⟨ak,-,rfl,rfl⟩|⟨b,M,hU,js,ak,rfl,qC,sa,dd,l2⟩
          ·
           rw [ak] at eX
           simp only [iv] at eX
           have gC:ah.es.take 0++bm=bm:=by simp
           by_cases h0:bm.length=0
           ·have:bm=[]:=List.length_eq_zero_iff.1 h0
            subst this
            obtain ⟨bC,gK,h7⟩:=h.NI (sz:=i.size) et
            have pi:(s.setRow aQ [⟨i.size,[],.live⟩]).ah r k=some ah:=by rw [kw,if_neg (Ne.symm cF)];exact aj
            have XL:(s.setRow aQ [⟨i.size,[],.live⟩]).aR r=some row:=by simp [S.setRow,Ne.symm cF,c8]
            obtain ⟨qc,-⟩:=h7.gone XL pi
            have zz:ah.es.take 0++([]:List (List aw))=[]:=by simp
            rw [zz]
            rw [zz] at zy ph
            refine ⟨_,w,bC,hA.zero h0 none 0 0 (Nat.le_refl _),qc,?_⟩
            subst hm
            exact .mK (sz:=i.size) zy ((hD (ph bC)).trans (by rw [gK]))
           ··have jP:m=bm.length:=by omega
             have h1:=hA.nil (by omega) (by omega) (by omega)
             have PB:=grownCap_ge w bm.length 0 e
             have hle:=grownCap_le_maxLen w bm.length 0 e (by simp only [maxLen];omega)
             simp only [maxLen] at hle
             obtain ⟨bC,aW,bh⟩:=GI (e:=e) (i:=i) (m:=m) (mV:=vs) (sm:=Builtin.zeroCells dY.cells (grownCap w bm.length 0 e-bm.length)) (cap:=grownCap w bm.length 0 e) h et hlen jP v1 v3
              (by rw [size_zeroCells,kD,jP]) (by omega) (by omega) v4 rfl
             rw [gC]
             rw [gC] at q9
             have pi:(s.setRow aQ [⟨i.size,bm,.live⟩]).ah r k=some ah:=by rw [kw,if_neg (Ne.symm cF)];exact aj
             obtain ⟨qc,AD⟩:=aW.gone q9 pi
             refine ⟨.slice (some ⟨w.heap.size,0,none⟩) m (grownCap w bm.length 0 e),_,bC,?_,qc,AD _ _ bh⟩
             rw [jP];exact h1
          ·
           rw [ak] at eX
           have XM:=eX
           obtain ⟨ca,lz,g1,g2,g3,g4⟩:=eX
           have zA : ∀e∈ah.es.take len++bm,e.length=i.size:=by
            intro d9 kR
            rw [List.mem_append] at kR
            rcases kR with cj|cj
            ·rw [g3 d9 (List.mem_of_mem_take cj),ev]
            ·exact hlen d9 cj
           have iO : ∀(es:List (List aw)),(∀e∈es,e.length=i.size)→es.flatten.length=es.length*i.size:=by
            intro es
            induction es with
            | nil=>intro _;simp
            | cons e es ih =>
             intro eO
             rw [List.flatten_cons,List.length_append,ih fun x aa=>eO x (by simp [aa]),eO e (by simp),List.length_cons,Nat.add_mul];omega
           by_cases h0:bm.length=0
           ·
            have:bm=[]:=List.length_eq_zero_iff.1 h0
            subst this
            have zz:ah.es.take len++([]:List (List aw))=ah.es.take len:=by simp
            rw [zz]
            rw [zz] at zy ph zA
            obtain ⟨bC,gK,h7⟩:=h.turn c8 aj mZ ak et ⟨i.size,ah.es.take len,.live⟩ rfl ca lz g1 rfl (fun _ _=>rfl) rfl rfl rfl g2 zA (fun j q a8=>by
             refine g4 j q ?_
             have aC:j<(ah.es.take len).flatten.length:=by
              rcases Nat.lt_or_ge j (ah.es.take len).flatten.length with cj|cj
              ·exact cj
              ·rw [List.getElem?_eq_none cj] at a8;simp at a8
             have PC:ah.es.flatten=(ah.es.take len).flatten++(ah.es.drop len).flatten:=by rw [← List.flatten_append,List.take_append_drop]
             rw [PC,List.getElem?_append_left aC];exact a8)
            refine ⟨_,w,bC,hA.zero h0 hU len js qC,h7,?_⟩
            have jP:m=len:=by simpa using hm
            subst jP
            refine .bu (sz:=i.size) (dz:=b) (m:=M) zy ((hD (ph bC)).trans (by rw [gK])) qC sa ?_
            rw [← ev];exact ⟨dd,l2⟩
           ··
             have hold : ∃xs:List Value,xs.length=len*i.size∧(∀(j:Nat) u,xs[j]? = some u→w.cell? ((⟨b,0,none⟩:Addr).add j)=some u)∧(∀u∈xs,u.oneCell'=true) ∧
              ∀(j:Nat) x u,(ah.es.take len).flatten[j]? = some x→xs[j]? = some u→Rel w (s.ok g av w) s.aV (s.a4 av) x u:=by
              have Pd:=B0 XM.rd 0 len (by omega)
              simp only [List.drop_zero,Nat.zero_mul,Nat.add_zero] at Pd
              obtain ⟨xs,fm,eN,a2,fN⟩:=Pd.mV
              exact ⟨xs,by rw [fm,Je,ev],eN,a2,fN⟩
             obtain ⟨xs,fm,eN,a2,fN⟩:=hold
             have Y5:xs.length=(ah.es.take len).length*i.size:=by rw [Je];exact fm
             have NJ : ∀(j:Nat) x u,(ah.es.take len++bm).flatten[j]? = some x→(xs++vs)[j]? = some u→Rel w (s.ok g av w) s.aV (s.a4 av) x u :=
              fun j x u zY mY=>Tl Y5 (fun d9 kR=>by rw [g3 d9 (List.mem_of_mem_take kR),ev]) zY fN v4 mY
             have zB:(ah.es.take len++bm).length=m:=by rw [List.length_append,Je];exact hm.symm
             by_cases rV:len+bm.length≤js
             ·
              rcases l2 with rfl|rfl
              ·omega
              ·rw [Nat.zero_mul] at *
               rw [Nat.zero_add] at dd
               have W1:len*i.size+vs.length≤ca.size:=by
                rw [v1,g2,← dd,ev,← Nat.add_mul];exact Nat.mul_le_mul_right _ rV
               have h1:=hA.room (by omega) b len js ca lz g1 rV W1 (by omega)
               have Yj:(w.setRow b (ca.toList.take (len*i.size)++vs++ca.toList.drop (len*i.size+vs.length)).toArray).heap.size=w.heap.size:=size_setRow _ _ _
               have PD:xs=ca.toList.take (len*i.size):=by
                apply List.ext_getElem?
                intro j
                rw [List.getElem?_take]
                by_cases aC:j<len*i.size
                ·rw [if_pos aC]
                 have rh:j<xs.length:=by omega
                 have:=eN j _ (List.getElem?_eq_getElem rh)
                 rw [q3,cell_of_row w b (0+j) ca lz (0,0) g1,Nat.zero_add] at this
                 rw [List.getElem?_eq_getElem rh,← this,Array.getElem?_toList]
                ·rw [if_neg aC,List.getElem?_eq_none (by omega)]
               obtain ⟨bC,gK,h7⟩:=h.turn c8 aj mZ ak et ⟨i.size,ah.es.take len++bm,.live⟩ rfl _ lz (setRow_heap w b ca _ lz _ g1) Yj (fun q a8=>setRow_other w b q _ a8) rfl rfl rfl
                (by rw [← g2];simp;omega) zA (fun j q a8=>by
                  have aC:j<(xs++vs).length:=by
                   have:j<(ah.es.take len++bm).flatten.length:=by
                    rcases Nat.lt_or_ge j (ah.es.take len++bm).flatten.length with cj|cj
                    ·exact cj
                    ·rw [List.getElem?_eq_none cj] at a8;simp at a8
                   rw [iO _ zA,zB] at this
                   rw [List.length_append,fm,v1,← Nat.add_mul,← hm];exact this
                  refine ⟨(xs++vs)[j],?_,?_,NJ j q _ a8 (List.getElem?_eq_getElem aC)⟩
                  ·rw [List.getElem?_toArray,List.getElem?_append_left (by rw [← PD];exact aC),← PD]
                   exact List.getElem?_eq_getElem aC
                  ·have:=List.getElem_mem aC
                   rw [List.mem_append] at this
                   rcases this with cj|cj
                   ·exact a2 _ cj
                   ·exact v3 _ cj)
               refine ⟨_,_,bC,h1,h7,?_⟩
               rw [← hm]
               refine .bu (sz:=i.size) (dz:=b) (m:=M) zy ((hD (ph bC)).trans (by rw [gK])) (by omega) sa ⟨?_,.inr (by simp)⟩
               rw [Nat.zero_add,← ev];exact dd
             ·
              have hA : ∃uN:Addr,(hU=some uN∧ ∀(j:Nat) u,xs[j]? = some u→w.cell? (uN.add j)=some u)∨(hU=none∧len=0∧js=0):=by
               cases hU with
               | none =>
                refine ⟨⟨0,0,none⟩,.inr ⟨rfl,?_⟩⟩
                rcases l2 with cj|cj
                ·omega
                ·simp at cj
               | some uN =>
                refine ⟨uN,.inl ⟨rfl,?_⟩⟩
                rcases l2 with cj|cj
                ·have:len=0:=by omega
                 have:xs=[]:=List.length_eq_zero_iff.1 (by rw [fm,this];simp)
                 intro j u aC
                 rw [this] at aC;simp at aC
                ·simp at cj;subst cj;exact eN
              have PB:=grownCap_ge w (len+bm.length) js e
              have hle:=grownCap_le_maxLen w (len+bm.length) js e (by simp only [maxLen];omega)
              simp only [maxLen] at hle
              have h1:(Builtin.append_ #[t,dc] d4 #[.slice hU len js,mG]).run P w = .ok (.slice (some ⟨w.heap.size,0,none⟩) (len+bm.length) (grownCap w (len+bm.length) js e))
               (w.drew.alloc (.cells ((xs++vs).toArray++Builtin.zeroCells dY.cells (grownCap w (len+bm.length) js e-(len+bm.length))) e)):=by
               have Yk:(xs++vs).toArray=xs.toArray++vs.toArray:=by apply Array.ext';simp
               rw [Yk]
               obtain ⟨uN,⟨rfl,Y6⟩|⟨rfl,mA,l1⟩⟩:=hA
               ·exact hA.grow (by omega) uN len js xs fm Y6 (by omega) (by omega) (growslice_fits (by omega) (by rw [← hm];exact zX)) (by omega)
               ·subst mA;subst l1
                have Y7:xs=[]:=List.length_eq_zero_iff.1 (by rw [fm];simp)
                subst Y7
                have:=hA.nil (by omega) (by omega) (by omega)
                simpa using this
              obtain ⟨bC,aW,bh⟩:=GI (e:=e) (i:=i) (m:=m) (mV:=xs++vs) (sm:=Builtin.zeroCells dY.cells (grownCap w (len+bm.length) js e-(len+bm.length))) (cap:=grownCap w (len+bm.length) js e) h et zA zB.symm
               (by rw [List.length_append,fm,v1,zB,hm,Nat.add_mul]) (fun u hu=>by
                 rw [List.mem_append] at hu
                 rcases hu with cj|cj
                 ·exact a2 _ cj
                 ·exact v3 _ cj) (by rw [size_zeroCells,kD,hm]) (by omega) (by omega) NJ rfl
              have pi:(s.setRow aQ [⟨i.size,ah.es.take len++bm,.live⟩]).ah r k=some ah:=by rw [kw,if_neg (Ne.symm cF)];exact aj
              obtain ⟨qc,AD⟩:=aW.gone q9 pi
              refine ⟨.slice (some ⟨w.heap.size,0,none⟩) m (grownCap w (len+bm.length) js e),_,bC,?_,qc,AD _ _ bh⟩
              rw [hm];exact h1
         ·simp at ar
      ·simp at ar
     ·exact absurd trivial W0
  ·simp at ar
end
end
section
variable {P:Program} {g:G} {s:S} {av:eS} {a:Act} {w:World}
theorem yG {sz:Nat}: ∀ {es:List (List aw)},(∀e∈es,e.length=sz)→es.flatten.length=es.length*sz
 | [],_=>by simp
 | e::es,h=>by
  rw [List.flatten_cons,List.length_append,yG fun x aa=>h x (by simp [aa]),h e (by simp),List.length_cons,Nat.add_mul];omega
theorem cE.putAt (h:cE g s av a w){r k p b M:Nat}{row:List al}{ah:al}(an:s.aR r=some row)(aj:s.ah r k=some ah)(aU:ah.cg = .live)(kF:av r k=some (b,M)){bm fL:List (List aw)}{vs:List Value}
 (hlen : ∀x∈bm,x.length=ah.sz) (v1:vs.length=bm.length*ah.sz) (v3 : ∀u∈vs,u.oneCell'=true) (v4 : ∀(j:Nat) x u,bm.flatten[j]? = some x→vs[j]? = some u→Rel w (s.ok g av w) s.aV (s.a4 av) x u)
 (ak:p+bm.length≤ah.es.length) (q:Nat) (gC:fL=(ah.es.take p++bm++ah.es.drop (p+bm.length)).take q) :
 ∃ca lz,w.heap[b]? = some (.cells ca lz (0,0))∧ca.size=M∧ah.es.length*ah.sz≤M∧p*ah.sz+vs.length≤ca.size ∧
  cE g (s.setRow r (row.set k {ah with es:=fL})) av a (w.setRow b (ca.toList.take (p*ah.sz)++vs++ca.toList.drop (p*ah.sz+vs.length)).toArray) ∧
  ∀x v,Rel w (s.ok g av w) s.aV (s.a4 av) x v→Rel (w.setRow b (ca.toList.take (p*ah.sz)++vs++ca.toList.drop (p*ah.sz+vs.length)).toArray) ((s.setRow r (row.set k {ah with es:=fL})).ok g av (w.setRow b (ca.toList.take (p*ah.sz)++vs++ca.toList.drop (p*ah.sz+vs.length)).toArray)) (s.setRow r (row.set k {ah with es:=fL})).aV ((s.setRow r (row.set k {ah with es:=fL})).a4 av) x v:=by
 have eX:=h.obj r k ah aj
 rw [kF] at eX
 obtain ⟨ca,lz,g1,g2,g3,g4⟩:=eX
 have iO:=yG g3
 have dd:ah.es.length*ah.sz≤M:=by
  rcases Nat.eq_zero_or_pos ah.es.flatten.length with h0|iM
  ·omega
  ·obtain ⟨v,ax,-⟩:=g4 (ah.es.flatten.length-1) _ (List.getElem?_eq_getElem (by omega))
   have:=(Array.getElem?_eq_some_iff.1 ax).1
   omega
 have hmul:p*ah.sz+bm.length*ah.sz≤ah.es.length*ah.sz:=by rw [← Nat.add_mul];exact Nat.mul_le_mul_right _ ak
 have hs:p*ah.sz+vs.length≤ca.size:=by omega
 refine ⟨ca,lz,g1,g2,dd,hs,?_⟩
 have Yl : ∀e∈ah.es.take p++bm++ah.es.drop (p+bm.length),e.length=ah.sz:=by
  intro e he
  simp only [List.mem_append] at he
  rcases he with (he|he)|he
  ·exact g3 e (List.mem_of_mem_take he)
  ·exact hlen e he
  ·exact g3 e (List.mem_of_mem_drop he)
 have hA:(ah.es.take p).flatten.length=p*ah.sz:=by rw [yG fun e he=>g3 e (List.mem_of_mem_take he),List.length_take];congr 1;omega
 have gw:(ah.es.take (p+bm.length)).flatten.length=p*ah.sz+bm.length*ah.sz:=by rw [yG fun e he=>g3 e (List.mem_of_mem_take he),List.length_take,← Nat.add_mul];congr 1;omega
 have aaE:bm.flatten.length=bm.length*ah.sz:=yG hlen
 have o : ∀j,j<p*ah.sz→(ah.es.take p).flatten[j]? = ah.es.flatten[j]? := fun j aC=>by
  conv=>rhs;rw [← List.take_append_drop p ah.es,List.flatten_append,List.getElem?_append_left (by omega)]
 have R : ∀j,(ah.es.drop (p+bm.length)).flatten[j]? = ah.es.flatten[p*ah.sz+bm.length*ah.sz+j]? := fun j=>by
  conv=>rhs;rw [← List.take_append_drop (p+bm.length) ah.es,List.flatten_append,List.getElem?_append_right (by omega),gw]
  congr 1;omega
 refine h.write an aj aU kF fL _ lz (setRow_heap w b ca _ lz _ g1) (size_setRow _ _ _) (fun q a8=>setRow_other w b q _ a8) rfl rfl rfl (by rw [← g2];simp;omega) ?_ ?_
 ·intro e he
  rw [gC] at he
  exact Yl e (List.mem_of_mem_take he)
 ·intro j x aa
  have df:(ah.es.take p++bm++ah.es.drop (p+bm.length)).flatten[j]? = some x:=by
   rw [gC] at aa
   have aC:=(List.getElem?_eq_some_iff.1 aa).1
   conv=>lhs;rw [← List.take_append_drop q (ah.es.take p++bm++ah.es.drop (p+bm.length)),List.flatten_append,List.getElem?_append_left aC]
   exact aa
  rw [List.flatten_append,List.flatten_append] at df
  simp only [List.getElem?_toArray]
  have hG:(ca.toList.take (p*ah.sz)).length=p*ah.sz:=by rw [List.length_take,Array.length_toList];omega
  by_cases bF:j<p*ah.sz
  ·rw [List.append_assoc,List.getElem?_append_left (by omega),o j bF] at df
   obtain ⟨v,ax,aF,b4⟩:=g4 j x df
   refine ⟨v,?_,aF,b4⟩
   rw [List.append_assoc,List.getElem?_append_left (by omega),List.getElem?_take,if_pos bF,Array.getElem?_toList];exact ax
  ·by_cases cN:j<p*ah.sz+vs.length
   ·rw [List.append_assoc,List.getElem?_append_right (by omega),hA,List.getElem?_append_left (by omega)] at df
    have aY:j-p*ah.sz<vs.length:=by omega
    refine ⟨vs[j-p*ah.sz],?_,v3 _ (List.getElem_mem aY),v4 _ _ _ df (List.getElem?_eq_getElem aY)⟩
    rw [List.append_assoc,List.getElem?_append_right (by omega),hG,List.getElem?_append_left (by omega)]
    exact List.getElem?_eq_getElem aY
   ·rw [List.getElem?_append_right (by rw [List.length_append];omega),List.length_append,hA,aaE,R] at df
    rw [show p*ah.sz+bm.length*ah.sz+(j-(p*ah.sz+bm.length*ah.sz))=j by omega] at df
    obtain ⟨v,ax,aF,b4⟩:=g4 j x df
    refine ⟨v,?_,aF,b4⟩
    rw [List.getElem?_append_right (by rw [List.length_append];omega),List.length_append,hG,List.getElem?_drop,Array.getElem?_toList]
    rw [show p*ah.sz+vs.length+(j-(p*ah.sz+vs.length))=j by omega];exact ax
end
section
variable {P:Program} {g:G} {s:S} {av:eS} {a:Act} {w:World} {aQ:Nat} {bn:hj}
theorem Wi (h:cE g s av a w){x y:aw}{qN mG:Value}{t dc d4:TypeId}(ar:mX P s.E s.aR aQ .append [x,y] [t,dc] .dx=some bn)(cp:∀p∈bn.e1,p)
 (aa:Rel w (s.ok g av w) s.aV (s.a4 av) x qN) (aS:Rel w (s.ok g av w) s.aV (s.a4 av) y mG) :
 ∃v bx,(Builtin.append_ #[t,dc] d4 #[qN,mG]).run P w = .ok v bx∧cE g (s.ha bn.fh) av a bx∧Rel bx ((s.ha bn.fh).ok g av bx) (s.ha bn.fh).aV ((s.ha bn.fh).a4 av) bn.val v:=by
 simp only [mX] at ar
 split at ar
 ·simp at ar
 ·rename_i e he
  have hu:=q4 he
  split at ar
  ·rename_i i z af cd
   split at ar
   ·simp at ar
   ·rename_i aP
    simp only [not_or,Decidable.not_not] at aP
    obtain ⟨mz,iM,xa⟩:=aP
    split at ar
    ·simp at ar
    ·rename_i bm bY qy
     split at ar
     ·rename_i r k len
      split at ar
      ·simp at ar
      ·rename_i row c8
       split at ar
       ·simp at ar
       ·rename_i ah bd
        split at ar
        ·rename_i uq
         obtain ⟨mZ,ev⟩:=uq
         simp only [Option.some.injEq] at ar
         subst ar
         have aj:s.ah r k=some ah:=by unfold S.ah;rw [c8];exact bd
         have hs:len+bm.length≤ah.es.length:=cp _ (by simp)
         have zX:bm.length*i.bytes≤140737488355328:=cp _ (by simp)
         obtain ⟨dY,vs,j6,kD,hA,hlen,v1,v3,v4⟩:=MI (d4:=d4) h hu af cd mz iM qy (fun p ak=>cp p (by simp [ak])) aS
         rw [← ev] at v1
         have OM : ∀x∈bm,x.length=ah.sz:=fun x aa=>by rw [hlen x aa,ev]
         have gC:ah.es.take len++bm=(ah.es.take len++bm++ah.es.drop (len+bm.length)).take (len+bm.length) :=
          (List.take_left' (by rw [List.length_append,List.length_take];omega)).symm
         rcases aa.tP (hD aj) with ⟨ak,-,rfl,rfl⟩|⟨b,M,hU,js,ak,rfl,qC,sa,dd,l2⟩
         ·have eX:=h.obj r k ah aj
          rw [ak] at eX
          simp only [iv] at eX
          rw [eX] at hs
          have h0:bm.length=0:=by simp at hs;exact List.length_eq_zero_iff.2 hs
          have ur:bm=[]:=List.length_eq_zero_iff.1 h0
          subst ur
          have kf:row.set k {ah with es:=ah.es.take 0++[]}=row:=by
           have o:({ah with es:=ah.es.take 0++[]}:al)=ah:=by cases ah;simp only [] at eX;subst eX;rfl
           rw [o]
           have R:row[k]? = some ah:=by
            unfold c0 at bd
            simp only at bd
            split at bd
            ·rename_i bX dn
             split at bd
             ·simp at bd
             ·simp at bd;rw [← bd];exact dn
            ·simp at bd
           exact List.ext_getElem? fun j=>by
            rw [List.getElem?_set]
            split
            ·rename_i e;subst e
             have:=(List.getElem?_eq_some_iff.1 R).1
             rw [if_pos this,R]
            ·rfl
          refine ⟨_,w,hA.zero h0 none 0 0 (Nat.le_refl _),?_⟩
          have dJ:s.setRow r row=s:=by
           have:(fun q=>if q=r then some row else s.aR q)=s.aR:=by
            funext q;split
            ·rename_i e;rw [e,c8]
            ·rfl
           show ({s with aR:=_}:S)=s
           rw [this]
          show cE g (s.setRow r (row.set k {ah with es:=ah.es.take 0++[]})) av a w∧Rel w ((s.setRow r (row.set k {ah with es:=ah.es.take 0++[]})).ok g av w) (s.setRow r (row.set k {ah with es:=ah.es.take 0++[]})).aV ((s.setRow r (row.set k {ah with es:=ah.es.take 0++[]})).a4 av) (.bu r k 0 0) (.slice none 0 0)
          rw [kf,dJ]
          exact ⟨h,aa⟩
         ·obtain ⟨ca,lz,bF,cN,na,rq,nJ,sn⟩:=h.putAt c8 aj mZ ak OM v1 v3 v4 hs (len+bm.length) gC
          have hle:ah.es.length≤js:=by
           rw [Nat.zero_add] at dd
           rw [← dd] at na
           exact Nat.le_of_mul_le_mul_right na (by omega)
          by_cases l1:js=0
          ·have h0:bm.length=0:=by omega
           have mA:len=0:=by omega
           subst mA
           have ur:bm=[]:=List.length_eq_zero_iff.1 h0
           subst ur
           have Jf:vs=[]:=List.length_eq_zero_iff.1 (by simpa using v1)
           subst Jf
           have hw:w.setRow b (ca.toList.take (0*ah.sz)++[]++ca.toList.drop (0*ah.sz+0)).toArray=w:=by
            simp only [Nat.zero_mul,List.take_zero,List.nil_append,Nat.zero_add,List.drop_zero,Array.toArray_toList]
            exact setRow_self w b ca lz (0,0) bF
           simp only [List.length_nil] at nJ sn
           rw [hw] at nJ sn
           exact ⟨_,w,hA.zero h0 hU 0 js (Nat.zero_le _),nJ,sn _ _ aa⟩
          ·have zZ:hU=some ⟨b,0,none⟩:=by
            rcases l2 with cj|cj
            ·exact absurd cj l1
            ·simpa using cj
           subst zZ
           by_cases h0:bm.length=0
           ·have ur:bm=[]:=List.length_eq_zero_iff.1 h0
            subst ur
            have Jf:vs=[]:=List.length_eq_zero_iff.1 (by simpa using v1)
            subst Jf
            have hw:w.setRow b (ca.toList.take (len*ah.sz)++[]++ca.toList.drop (len*ah.sz+0)).toArray=w:=by
             simp only [List.append_nil,Nat.add_zero,List.take_append_drop,Array.toArray_toList]
             exact setRow_self w b ca lz (0,0) bF
            simp only [List.length_nil] at nJ sn
            rw [hw] at nJ sn
            exact ⟨_,w,hA.zero h0 _ len js qC,nJ,sn _ _ aa⟩
           ·have h1:=hA.room (by omega) b len js ca lz bF (by omega) (by rw [← ev];exact rq) zX
            rw [← ev] at h1
            refine ⟨_,_,h1,nJ,?_⟩
            have zt:(s.setRow r (row.set k {ah with es:=ah.es.take len++bm})).ah r k=some {ah with es:=ah.es.take len++bm}:=by
             rw [kw,if_pos rfl,M5 row k ah _ bd (by simp [mZ]),if_pos rfl]
            show Rel _ ((s.setRow r (row.set k {ah with es:=ah.es.take len++bm})).ok g av _) (s.setRow r (row.set k {ah with es:=ah.es.take len++bm})).aV ((s.setRow r (row.set k {ah with es:=ah.es.take len++bm})).a4 av) (.bu r k 0 (len+bm.length)) _
            refine .bu (sz:=ah.sz) (dz:=b) (m:=M) (Co zt) ((hD zt).trans (by rw [ak])) (by omega) sa ⟨dd,.inr (by simp)⟩
        ·simp at ar
     ·simp at ar
  ·simp at ar
end
section
variable {P:Program} {g:G} {s:S} {av:eS} {a:Act} {w:World} {aQ:Nat} {bn:hj}
theorem LW {s:S}{r k:Nat}{row:List al}{ah:al}(an:s.aR r=some row)(aj:c0 (some row) k=some ah):s.setRow r (row.set k ah)=s:=by
 have R:row[k]? = some ah:=by
  unfold c0 at aj
  simp only at aj
  split at aj
  ·rename_i bX dn
   split at aj
   ·simp at aj
   ·simp at aj;rw [← aj];exact dn
  ·simp at aj
 have ae:row.set k ah=row:=List.ext_getElem? fun j=>by
  rw [List.getElem?_set]
  split
  ·rename_i e;subst e
   have:=(List.getElem?_eq_some_iff.1 R).1
   rw [if_pos this,R]
  ·rfl
 rw [ae]
 have:(fun q=>if q=r then some row else s.aR q)=s.aR:=by
  funext q;split
  ·rename_i e;rw [e,an]
  ·rfl
 show ({s with aR:=_}:S)=s
 rw [this]
theorem Uf {e:TypeId}{i:TypeInfo}{z:List aw}{dY:Value}(kD:dY.cells.size=i.size)(mz:z.length=i.size)(iM:i.size≠0)
 (s5 : ∀(j:Nat) x,z[j]? = some x→ ∃v,dY.cells[j]? = some v∧jf v=true∧ ∀(w:World) (ok:Nat→Prop) (aV:ik) (a4:h6),Rel w ok aV a4 x v) (m:Nat) :
 (Builtin.zeroCells dY.cells m).toList.length=m*i.size∧(∀u∈(Builtin.zeroCells dY.cells m).toList,u.oneCell'=true) ∧
   ∀(j:Nat) x u,(List.replicate m z).flatten[j]? = some x→(Builtin.zeroCells dY.cells m).toList[j]? = some u→ ∀(w:World) (ok:Nat→Prop) (aV:ik) (a4:h6),Rel w ok aV a4 x u:=by
 have kS : ∀(j:Nat) u,(Builtin.zeroCells dY.cells m).toList[j]? = some u→dY.cells[j % i.size]? = some u:=by
  intro j u mY
  have aC:=(List.getElem?_eq_some_iff.1 mY).1
  rw [Array.length_toList,size_zeroCells,kD] at aC
  have di:j % i.size<dY.cells.size:=by rw [kD];exact Nat.mod_lt _ (by omega)
  rw [Array.getElem?_toList,Builtin.zeroCells,Array.getElem?_map,kD,Array.getElem?_range] at mY
  rw [if_pos aC] at mY
  simp only [Option.map_some,Option.some.injEq] at mY
  rw [← mY,Array.getElem?_eq_getElem di,getElem!_pos dY.cells _ di]
 refine ⟨?_,?_,?_⟩
 ·rw [Array.length_toList,size_zeroCells,kD]
 ·intro u qE
  obtain ⟨j,aC⟩:=List.getElem?_of_mem qE
  have o:=kS j u aC
  have di:j % i.size<z.length:=by rw [mz];exact Nat.mod_lt _ (by omega)
  obtain ⟨v,v1,v2,-⟩:=s5 _ _ (List.getElem?_eq_getElem di)
  rw [o] at v1
  obtain rfl:=Option.some.inj v1
  exact v2
 ·intro j x u aa mY
  rw [oE (sz:=i.size) (by omega) _ (fun d9 kR=>by rw [List.mem_replicate] at kR;rw [kR.2,mz])] at aa
  have o:=kS j u mY
  cases a8:(List.replicate m z)[j / i.size]? with
  | none=>rw [a8] at aa;simp at aa
  | some d9 =>
   have:=List.mem_of_getElem? a8
   rw [List.mem_replicate] at this
   rw [a8,this.2] at aa
   simp only [Option.bind_some] at aa
   obtain ⟨v,v1,-,v3⟩:=s5 _ _ aa
   rw [o] at v1
   obtain rfl:=Option.some.inj v1
   exact v3
theorem Vu (h:cE g s av a w){r k len:Nat}{y:aw}{qN mG:Value}{t dc d4:TypeId}{cG:e6}(ar:mX P s.E s.aR aQ .copy [.bu r k 0 len,y] [t,dc] cG=some bn)(cp:∀p∈bn.e1,p)
 (aa:Rel w (s.ok g av w) s.aV (s.a4 av) (.bu r k 0 len) qN) (aS:Rel w (s.ok g av w) s.aV (s.a4 av) y mG) :
 ∃n bx,(Builtin.copy_ #[t,dc] d4 #[qN,mG]).run P w = .ok (goInt n) bx∧cE g (s.ha bn.fh) av a bx∧bn.val = .n .i64 n:=by
 simp only [mX] at ar
 split at ar
 ·simp at ar
 ·rename_i e he
  have hu:=q4 he
  split at ar
  ·simp at ar
  ·rename_i i af
   split at ar
   ·simp at ar
   ·rename_i bm bY qy
    split at ar
    ·simp at ar
    ·rename_i row c8
     split at ar
     ·simp at ar
     ·rename_i ah bd
      split at ar
      ·rename_i uq
       obtain ⟨mZ,ev,iM⟩:=uq
       simp only [Option.some.injEq] at ar
       subst ar
       have aj:s.ah r k=some ah:=by unfold S.ah;rw [c8];exact bd
       have hs:bm.length≤len:=cp _ (by simp)
       have hle:len≤ah.es.length:=cp _ (by simp)
       obtain ⟨A,c,rfl,hlen,Jd⟩:=M7 h qy (fun p ak=>cp p (by simp [ak])) aS
       show ∃n bx,_∧cE g (s.setRow r (row.set k {ah with es:=bm++ah.es.drop bm.length})) av a bx∧_
       by_cases h0:bm.length=0
       ·have ur:bm=[]:=List.length_eq_zero_iff.1 h0
        subst ur
        refine ⟨0,w,?_,?_,rfl⟩
        ·rcases aa.tP (hD aj) with ⟨-,-,rfl,rfl⟩|⟨b,M,hU,js,-,rfl,-,-,-,-⟩
         ·cases A<;>simp [Builtin.copy_,run_underlying hu,sizeOf,typeInfo,af,Builtin.lenOf,Builtin.firstCells,loadCells,loadCellsFrom]
         ·cases A<;>cases hU<;>simp [Builtin.copy_,run_underlying hu,sizeOf,typeInfo,af,Builtin.lenOf,Builtin.firstCells,loadCells,loadCellsFrom,storeCells]
        ·rw [show ({ah with es:=[]++ah.es.drop ([]:List (List aw)).length}:al)=ah from rfl,LW c8 bd];exact h
       ·obtain ⟨dz,off,rfl,hy⟩:=Jd.resolve_left h0
        obtain ⟨vs,v1,v2,v3,v4⟩:=hy.mV
        rw [← ev] at v1
        rcases aa.tP (hD aj) with ⟨-,-,rfl,-⟩|⟨b,M,hU,js,ak,rfl,qC,sa,dd,l2⟩
        ·exact absurd (Nat.le_zero.1 hs) h0
        ·have zZ:hU=some ⟨b,0,none⟩:=by
          rcases l2 with cj|cj
          ·exact absurd (show bm.length=0 by omega) h0
          ·simpa using cj
         subst zZ
         obtain ⟨ca,lz,bF,cN,na,rq,nJ,-⟩:=h.putAt (p:=0) c8 aj mZ ak (fun x aa=>by rw [hlen x aa,ev]) v1 v3 v4 (by omega) ah.es.length (fL:=bm++ah.es.drop bm.length)
          (by rw [List.take_zero,List.nil_append,Nat.zero_add];exact (List.take_of_length_le (by simp;omega)).symm)
         simp only [Nat.zero_mul,Nat.zero_add,List.take_zero,List.nil_append] at rq nJ
         have aG:=run_firstCells_some (P:=P) w i.size bm.length ⟨dz,off,none⟩ bm.length c vs (by rw [v1,ev]) v2
         have ll:=run_storeCells_at P b 0 lz vs 0 ca w bF (by simpa using rq) v3
         simp only [Nat.add_zero,List.take_zero,List.nil_append,Nat.zero_add] at ll
         refine ⟨bm.length,_,?_,nJ,rfl⟩
         simp [Builtin.copy_,run_underlying hu,sizeOf,typeInfo,af,Builtin.lenOf,Nat.min_eq_left hs,aG,ll]
      ·simp at ar
theorem UI (h:cE g s av a w){r k len:Nat}{qN:Value}{t d4:TypeId}{cG:e6}(ar:mX P s.E s.aR aQ .clear [.bu r k 0 len] [t] cG=some bn)(cp:∀p∈bn.e1,p)
 (aa:Rel w (s.ok g av w) s.aV (s.a4 av) (.bu r k 0 len) qN) :
 ∃bx,(Builtin.clear_ #[t] d4 #[qN]).run P w = .ok (.tuple #[]) bx∧cE g (s.ha bn.fh) av a bx∧bn.val = .dm []:=by
 simp only [mX] at ar
 split at ar
 ·simp at ar
 ·rename_i e he
  have hu:=q4 he
  split at ar
  ·rename_i i z af cd
   split at ar
   ·simp at ar
   ·rename_i row c8
    split at ar
    ·simp at ar
    ·rename_i ah bd
     split at ar
     ·rename_i uq
      obtain ⟨mZ,ev,mz,iM⟩:=uq
      simp only [Option.some.injEq] at ar
      subst ar
      have aj:s.ah r k=some ah:=by unfold S.ah;rw [c8];exact bd
      have hle:ah.es.length=len:=cp _ (by simp)
      show ∃bx,_∧cE g (s.setRow r (row.set k {ah with es:=List.replicate len z})) av a bx∧_
      by_cases h0:len=0
      ·subst h0
       refine ⟨w,?_,?_,rfl⟩
       ·rcases aa.tP (hD aj) with ⟨-,-,-,rfl⟩|⟨b,M,hU,js,-,rfl,-,-,-,-⟩
        ·simp [Builtin.clear_,run_underlying hu]
        ·cases hU<;>simp [Builtin.clear_,run_underlying hu]
       ·rw [show ({ah with es:=List.replicate 0 z}:al)=ah by rw [List.replicate_zero,← List.length_eq_zero_iff.1 hle],LW c8 bd];exact h
      ·obtain ⟨eI,dY,i1,j6,rp,s5⟩:=yt cd
       rw [af] at i1;simp at i1;subst i1
       have kD:dY.cells.size=i.size:=by rw [← mz,rp];simp
       rcases aa.tP (hD aj) with ⟨-,-,rfl,-⟩|⟨b,M,hU,js,ak,rfl,qC,sa,dd,l2⟩
       ·exact absurd rfl h0
       ·have zZ:hU=some ⟨b,0,none⟩:=by
         rcases l2 with cj|cj
         ·exact absurd (show len=0 by omega) h0
         ·simpa using cj
        subst zZ
        obtain ⟨v1,v3,v4⟩:=Uf (e:=e) kD mz iM s5 len
        rw [← ev] at v1
        obtain ⟨ca,lz,bF,cN,na,rq,nJ,-⟩:=h.putAt (p:=0) (bm:=List.replicate len z) c8 aj mZ ak (fun x aa=>by rw [List.mem_replicate] at aa;rw [aa.2,mz,ev]) (by simpa using v1) v3 (fun j x u o R=>v4 j x u o R _ _ _ _)
         (by simp;omega) len (fL:=List.replicate len z)
         (by simp [hle])
        simp only [Nat.zero_mul,Nat.zero_add,List.take_zero,List.nil_append] at rq nJ
        have ll:=run_storeCells_at P b 0 lz (Builtin.zeroCells dY.cells len).toList 0 ca w bF (by simpa using rq) v3
        simp only [Nat.add_zero,List.take_zero,List.nil_append,Nat.zero_add] at ll
        refine ⟨_,?_,nJ,rfl⟩
        cases len with
        | zero=>exact absurd rfl h0
        | succ n=>simp [Builtin.clear_,run_underlying hu,zeroValue,typeInfo,af,j6,ll]
     ·simp at ar
  ·simp at ar
end
section
variable {g:G} {s:S} {av:eS} {a:Act} {w:World}
def kL (row:List al):List al:=row.map fun I=>if I.cg = .live then {I with cg:= .ix} else I
theorem M8 (row:List al)(k:Nat):c0 (some (kL row)) k=(c0 (some row) k).map fun I=>if I.cg = .live then {I with cg:= .ix} else I:=by
 simp only [c0,kL,List.getElem?_map]
 cases row[k]? with
 | none=>rfl
 | some I =>
  obtain ⟨sz,es,cg⟩:=I
  cases cg<;>simp
theorem cE.freeze (h:cE g s av a w){r:Nat}{row:List al}(an:s.aR r=some row):cE g (s.setRow r (kL row)) av a w:=by
 have bd : ∀q k I,(s.setRow r (kL row)).ah q k=some I→ ∃p,s.ah q k=some p∧I.sz=p.sz∧I.es=p.es∧(I.cg = .live→p.cg = .live∧q≠r):=by
  intro q k I aj
  by_cases e:q=r
  ·subst e
   have:(s.setRow q (kL row)).aR q=some (kL row):=by simp [S.setRow]
   unfold S.ah at aj
   rw [this,M8] at aj
   rw [Option.map_eq_some_iff] at aj
   obtain ⟨p,ak,rfl⟩:=aj
   refine ⟨p,by unfold S.ah;rw [an];exact ak,?_⟩
   split<;>simp_all
  ·have:(s.setRow r (kL row)).aR q=s.aR q:=by simp [S.setRow,e]
   unfold S.ah at aj
   rw [this] at aj
   exact ⟨I,aj,rfl,rfl,fun aG=>⟨aG,e⟩⟩
 have iy : ∀q k,s.aV q k→(s.setRow r (kL row)).aV q k:=BZ s an (by simp [kL])
 have ki : ∀q k,(s.setRow r (kL row)).a4 av q k=s.a4 av q k:=by
  intro q k
  by_cases e:q=r
  ·subst e
   simp only [S.a4,S.ah]
   have:(s.setRow q (kL row)).aR q=some (kL row):=by simp [S.setRow]
   rw [this,M8,an]
   cases c0 (some row) k with
   | none=>rfl
   | some I=>simp only [Option.map_some,Option.some.injEq,Prod.mk.injEq,and_true];split<;>rfl
  ·have:(s.setRow r (kL row)).aR q=s.aR q:=by simp [S.setRow,e]
   simp [S.a4,S.ah,this]
 have cM:Step g s av w (s.setRow r (kL row)) av w:=⟨iy,fun q k _=> .inl (ki q k),fun b aG=>by
  obtain ⟨q,k,I,m,o,R,ae⟩:=aG
  obtain ⟨p,gK,h7,qc,AD⟩:=bd q k I o
  exact .inl ⟨q,k,p,m,gK,(AD R).1,ae⟩,fun _ _ _=>rfl,Nat.le_refl _⟩
 refine {tohi:=⟨?_,?_,?_,h.gk,h.mlt,h.mv,?_,h.low⟩,env:=fun t=>cM.rel (h.env t),defers:=h.defers,iN:=h.iN}
 ·intro q k I aj
  obtain ⟨p,gK,h7,qc,-⟩:=bd q k I aj
  have ak:=cM.obj (fun b m _=>rfl) (h.obj q k p gK)
  cases kF:av q k with
  | none=>rw [kF] at ak;simp only [iv] at ak ⊢;rw [qc];exact ak
  | some x =>
   obtain ⟨b,m⟩:=x
   rw [kF] at ak
   obtain ⟨c,d4,ax,aF,b4,dy⟩:=ak
   exact ⟨c,d4,ax,aF,by rw [h7,qc];exact b4,by rw [qc];exact dy⟩
 ·intro q k I gJ dl bX b m a0 o R ae ay
  obtain ⟨p,gK,-⟩:=bd q k I o
  obtain ⟨jl,Y8,-⟩:=bd gJ dl bX R
  exact h.inj q k p gJ dl jl b m a0 gK Y8 ae ay
 ·intro q k I b m o R
  obtain ⟨p,gK,-⟩:=bd q k I o
  exact h.own q k p b m gK R
 ·intro j k aC
  obtain ⟨ax,aF⟩:=h.stay j k aC
  exact ⟨iy j k ax,by rw [ki];exact aF⟩
end
def wN (P:Program)(t:TypeId):Bool :=
 match P.underlying t with
 | some (.pointer _)=>true
 | _=>false
def xf (P:Program)(E:Nat→aw)(aR:Nat→Option (List al))(aQ:Nat)(I:Oper)(cG:e6):Option hj :=
 match I.op with
 | .call {callee:= .builtin b,args,argTypes}=>match b with
  | .len=>el P E aR aQ I cG
  | b=>mX P E aR aQ b (args.toList.map (eH E)) argTypes.toList cG
 | .binOp op t x y _=>match cG,op,eH E x,eH E y with
  | .dx,.eql,.isl _ es,.eL=>if (o8 P t).isSome then some {val:= .b false,e1:=[es≠[]]} else none
  | .dx,.neq,.isl _ es,.eL=>if (o8 P t).isSome then some {val:= .b true,e1:=[es≠[]]} else none
  | .dx,.eql,.eZ _ none,.hh=>if wN P t then some {val:= .b true} else none
  | .dx,.neq,.eZ _ none,.hh=>if wN P t then some {val:= .b false} else none
  | .dx,.eql,.eZ _ (some _),.hh=>if wN P t then some {val:= .b false} else none
  | .dx,.neq,.eZ _ (some _),.hh=>if wN P t then some {val:= .b true} else none
  | .dx,_,_,_=>none
  | _,_,_,_=>el P E aR aQ I cG
 | .nilCheck x=>match cG,eH E x with
  | .dx,.eZ sz (some c)=>some {val:= .dV sz [c] 0 0}
  | .dx,_=>none
  | _,_=>el P E aR aQ I cG
 | _=>el P E aR aQ I cG
section
variable {P:Program} {g:G} {s:S} {av:eS} {a:Act} {w:World} {I:Oper} {cG:e6} {aQ:Nat} {bn:hj}
theorem CC {args:Array Operand}{E:Nat→aw}{x y:aw}(h:args.toList.map (eH E)=[x,y]): ∃p q,args = #[p,q]∧eH E p=x∧eH E q=y:=by
 obtain ⟨l⟩:=args
 match l,h with
 | [p,q],h=>simp at h;exact ⟨p,q,rfl,h.1,h.2⟩
theorem Wj {args:Array Operand}{E:Nat→aw}{x:aw}(h:args.toList.map (eH E)=[x]): ∃p,args = #[p]∧eH E p=x:=by
 obtain ⟨l⟩:=args
 match l,h with
 | [p],h=>simp at h;exact ⟨p,rfl,h⟩
theorem Cg {t:TypeId}(h:wN P t=true): ∃e,P.underlying t=some (.pointer e):=by
 unfold wN at h
 split at h
 ·rename_i e he;exact ⟨e,he⟩
 ·simp at h
theorem UJ (h:cE g s av a w)(et:s.aR aQ=none)(ar:xf P s.E s.aR aQ I cG=some bn)(cp:∀p∈bn.e1,p):Fin P g s a w I bn:=by
 unfold xf at ar
 split at ar
 ·rename_i b args l0 aj
  split at ar
  ·exact Cf h et ar cp
  ·rename_i b aM
   unfold mX at ar
   split at ar
   ·rename_i x y t dc m Kj hargs ny
    have uc:mX P s.E s.aR aQ .append [x,y] [t,dc] (.a3 m Kj)=some bn:=ar
    obtain ⟨p,q,rfl,rfl,rfl⟩:=CC hargs
    obtain ⟨l⟩:=l0
    simp only at ny
    subst ny
    obtain ⟨v,bx,bC,o,R,ae⟩:=Ue (d4:=I.type) h et uc cp (h.eval p) (h.eval q)
    exact ⟨v,bx,bC,.inl (by simp [execOp,aj,resolve,invoke,builtin,o]),R,ae⟩
   ·rename_i x y t dc hargs ny
    have uc:mX P s.E s.aR aQ .append [x,y] [t,dc] .dx=some bn:=ar
    obtain ⟨p,q,rfl,rfl,rfl⟩:=CC hargs
    obtain ⟨l⟩:=l0
    simp only at ny
    subst ny
    obtain ⟨v,bx,o,R,ae⟩:=Wi (d4:=I.type) h uc cp (h.eval p) (h.eval q)
    exact ⟨v,bx,av,.inl (by simp [execOp,aj,resolve,invoke,builtin,o]),R,ae⟩
   ·rename_i cG r k len y t dc hargs ny
    have uc:mX P s.E s.aR aQ .copy [.bu r k 0 len,y] [t,dc] cG=some bn:=ar
    obtain ⟨p,q,rfl,ak,rfl⟩:=CC hargs
    obtain ⟨l⟩:=l0
    simp only at ny
    subst ny
    have aa:=h.eval p
    rw [ak] at aa
    obtain ⟨n,bx,o,R,ae⟩:=Vu (d4:=I.type) h uc cp aa (h.eval q)
    refine ⟨goInt n,bx,av,.inl (by simp [execOp,aj,resolve,invoke,builtin,o]),R,?_⟩
    rw [ae];exact .n _ _
   ·rename_i cG r k len t hargs ny
    have uc:mX P s.E s.aR aQ .clear [.bu r k 0 len] [t] cG=some bn:=ar
    obtain ⟨p,rfl,ak⟩:=Wj hargs
    obtain ⟨l⟩:=l0
    simp only at ny
    subst ny
    have aa:=h.eval p
    rw [ak] at aa
    obtain ⟨bx,o,R,ae⟩:=UI (d4:=I.type) h uc cp aa
    refine ⟨.tuple #[],bx,av,.inl (by simp [execOp,aj,resolve,invoke,builtin,o]),R,?_⟩
    rw [ae];exact .dm [] rfl (fun j x u aC=>by simp at aC)
   ·rename_i k x dl y hargs
    split at ar
    ·rename_i aU
     simp only [Option.some.injEq] at ar
     subst ar;subst aU
     obtain ⟨p,q,rfl,ak,a8⟩:=CC hargs
     have aa:=h.eval p
     have aS:=h.eval q
     rw [ak] at aa;rw [a8] at aS
     refine hB (v:= .int k (if y<x then y else x)) h ?_ rfl (.n _ _)
     simp [execOp,aj,resolve,invoke,builtin,Builtin.min_,aa.oH,aS.oH,Builtin.min2]
    ·simp at ar
   ·simp at ar
 ·rename_i op t x y dc aj
  split at ar
  ·rename_i sz es aa aS
   split at ar
   ·rename_i he
    obtain ⟨e,he⟩:=Option.isSome_iff_exists.1 he
    simp only [Option.some.injEq] at ar
    subst ar
    have o:=h.eval x
    have R:=h.eval y
    rw [aa] at o;rw [aS] at R
    have cF:es≠[]:=cp _ (by simp)
    refine hB (v:= .bool false) h ?_ rfl (.b _)
    simp only [execOp,aj]
    rw [Sem.run_bind,(Od (w:=w) (q4 he) cF o R x y).1];rfl
   ·simp at ar
  ·rename_i sz es aa aS
   split at ar
   ·rename_i he
    obtain ⟨e,he⟩:=Option.isSome_iff_exists.1 he
    simp only [Option.some.injEq] at ar
    subst ar
    have o:=h.eval x
    have R:=h.eval y
    rw [aa] at o;rw [aS] at R
    have cF:es≠[]:=cp _ (by simp)
    refine hB (v:= .bool true) h ?_ rfl (.b _)
    simp only [execOp,aj]
    rw [Sem.run_bind,(Od (w:=w) (q4 he) cF o R x y).2];rfl
   ·simp at ar
  ·rename_i sz aa aS
   split at ar
   ·rename_i ch
    obtain ⟨e,he⟩:=Cg ch
    simp only [Option.some.injEq] at ar
    subst ar
    have o:=h.eval x
    have R:=h.eval y
    rw [aa] at o;rw [aS] at R
    have xg:Rel w (s.ok g av w) s.aV (s.a4 av) .hh (a.eval x):=by rw [o.M6];exact .hh
    refine hB (v:= .bool true) h ?_ rfl (.b _)
    simp only [execOp,aj]
    rw [Sem.run_bind,(wz (w:=w) (r:=true) (by simp [re,he]) xg R x y).1];rfl
   ·simp at ar
  ·rename_i sz aa aS
   split at ar
   ·rename_i ch
    obtain ⟨e,he⟩:=Cg ch
    simp only [Option.some.injEq] at ar
    subst ar
    have o:=h.eval x
    have R:=h.eval y
    rw [aa] at o;rw [aS] at R
    have xg:Rel w (s.ok g av w) s.aV (s.a4 av) .hh (a.eval x):=by rw [o.M6];exact .hh
    refine hB (v:= .bool false) h ?_ rfl (.b _)
    simp only [execOp,aj]
    rw [Sem.run_bind,(wz (w:=w) (r:=true) (by simp [re,he]) xg R x y).2];rfl
   ·simp at ar
  ·rename_i sz c aa aS
   split at ar
   ·rename_i ch
    obtain ⟨e,he⟩:=Cg ch
    simp only [Option.some.injEq] at ar
    subst ar
    have o:=h.eval x
    have R:=h.eval y
    rw [aa] at o;rw [aS] at R
    refine hB (v:= .bool false) h ?_ rfl (.b _)
    simp only [execOp,aj]
    rw [Sem.run_bind,(wz (w:=w) (r:=false) (by simp [re,he]) o.Hz R x y).1];rfl
   ·simp at ar
  ·rename_i sz c aa aS
   split at ar
   ·rename_i ch
    obtain ⟨e,he⟩:=Cg ch
    simp only [Option.some.injEq] at ar
    subst ar
    have o:=h.eval x
    have R:=h.eval y
    rw [aa] at o;rw [aS] at R
    refine hB (v:= .bool true) h ?_ rfl (.b _)
    simp only [execOp,aj]
    rw [Sem.run_bind,(wz (w:=w) (r:=false) (by simp [re,he]) o.Hz R x y).2];rfl
   ·simp at ar
  ·simp at ar
  ·exact Cf h et ar cp
 ·rename_i x aj
  split at ar
  ·rename_i sz c aa
   simp only [Option.some.injEq] at ar
   subst ar
   have o:=h.eval x
   rw [aa] at o
   have R:=o.Hz
   obtain ⟨dz,off,aM,hval,hy⟩:=R.wF
   refine hB (v:=a.eval x) h ?_ rfl R
   rw [hval]
   simp only [execOp,aj,hval]
   rfl
  ·simp at ar
  ·exact Cf h et ar cp
 ·exact Cf h et ar cp
end
end Go.VL
namespace Go.VL
set_option linter.unusedVariables false
set_option linter.unusedSimpArgs false
open Go
theorem rB {es:List (List aw)}{j:Nat}{x:aw}(h:es.flatten[j]? = some x): ∃e∈es,x∈e:=by
 have:=List.mem_of_getElem? h
 rw [List.mem_flatten] at this
 obtain ⟨e,he,aa⟩:=this
 exact ⟨e,he,aa⟩
theorem Rel.pure {w:World}{ok jO:Nat→Prop}{aV lY:ik}{a4 lk:h6}{x:aw}{v:Value}(h:Rel w ok aV a4 x v)(ak:Pure x)(lZ:∀b,ok b→jO b):Rel w jO lY lk x v:=by
 induction h with
 | dead v=>exact .dead v
 | b x=>exact .b x
 | n k x=>exact .n k x
 | s x=>exact .s x
 | hh=>exact .hh
 | eL=>exact .eL
 | hx a c=>exact .hx a c
 | o5=>cases ak
 | ref=>cases ak
 | mo=>cases ak
 | mK=>cases ak
 | bu=>cases ak
 | lT=>cases ak
 | mT=>cases ak
 | i5 sz a c h=>exact .i5 sz a c h
 | isl cs aM m0 aG aP hw hG an ih =>
  cases ak with
  | isl h=>exact .isl cs (lZ _ aM) m0 aG aP hw hG fun j x aa=>ih j x aa (by obtain ⟨e,he,pZ⟩:=rB aa;exact h e he x pZ)
 | dV cs aM m0 aG hw hG an ih =>
  cases ak with
  | dV h=>exact .dV cs (lZ _ aM) m0 aG hw hG fun j x aa=>ih j x aa (by obtain ⟨e,he,pZ⟩:=rB aa;exact h e he x pZ)
 | oJ sz=>exact .oJ sz
 | oh h ih =>
  cases ak with
  | oh ak=>exact .oh (ih (.dV fun e he x aa=>by rw [List.mem_singleton] at he;subst he;exact ak x aa))
 | agg vs aG hG an ih =>
  cases ak with
  | agg h=>exact .agg vs aG hG fun j x v aa aY=>ih j x v aa aY (h x (List.mem_of_getElem? aa))
 | dm vs aG an ih =>
  cases ak with
  | dm h=>exact .dm vs aG fun j x v aa aY=>ih j x v aa aY (h x (List.mem_of_getElem? aa))
 | fn vs aG an ih =>
  cases ak with
  | fn h=>exact .fn vs aG fun j x v aa aY=>ih j x v aa aY (h x (List.mem_of_getElem? aa))
abbrev fX:=Nat→Nat→Option (Nat×Nat)
structure Down (q:aw→Prop):Prop where
 agg : ∀c x,q (.agg c)→x∈c→q x
 dm : ∀c x,q (.dm c)→x∈c→q x
 fn : ∀f c x,q (.fn f c)→x∈c→q x
inductive gL (s:S) (aL:fX) (bL:fE→Bool) (q:aw→Prop):aw→aw→Prop
 | dead (x:aw):gL s aL bL q x .dead
 | pure {x:aw} (h:Pure x) (a8:q x):gL s aL bL q x x
 | eL (sz:Nat):gL s aL bL q .eL (.isl sz [])
 | hx (sz:Nat):gL s aL bL q .hx (.isl sz [])
 | C5 (sz:Nat):gL s aL bL q .hh (.eZ sz none)
 | eZ {sz:Nat} {x:aw} {c:List aw} (h:gL s aL bL q x (.dV sz [c] 0 0)):gL s aL bL q x (.eZ sz (some c))
 | ref {r k j eI:Nat} (i off:Nat) (h:aL j eI=some (r,k)) (hu:s.aV r k):gL s aL bL q (.ref r k i off) (.ref j eI i off)
 | bu {r k j eI:Nat} (bD len:Nat) (h:aL j eI=some (r,k)) (hu:s.aV r k):gL s aL bL q (.bu r k bD len) (.bu j eI bD len)
 | lT (r c sz:Nat):gL s aL bL q (.hQ r c sz none) (.isl sz [])
 | mT {r c sz k n:Nat} {cA:aw} (h:gL s aL bL q (.bu r (k+c) 0 n) cA):gL s aL bL q (.hQ r c sz (some (k,n))) cA
 | hQ {r d5 c dw sz:Nat} (h:Option (Nat×Nat)) (hm : ∀k,aL d5 (k+dw)=some (r,k+c)):gL s aL bL q (.hQ r c sz h) (.hQ d5 dw sz h)
 | dV {r k:Nat} {I:al} {fL:List (List aw)} (i off:Nat) (aj:s.ah r k=some I) (bA:bL I.cg=true) (an:(∀j i,aL j i≠some (r,k))) (cF:I.es≠[]) (ak:gU fL) (hle : ∀e∈fL,e.length=I.sz) (aG:fL.length=I.es.length)
  (h : ∀(j:Nat) x cA,I.es.flatten[j]? = some x→fL.flatten[j]? = some cA→gL s aL bL q x cA):gL s aL bL q (.ref r k i off) (.dV I.sz fL i off)
 | isl {r k bD len:Nat} {I:al} {fL:List (List aw)} (aj:s.ah r k=some I) (bA:bL I.cg=true) (an:(∀j i,aL j i≠some (r,k))) (hs:bD+len≤I.es.length) (ak:gU fL) (hle : ∀e∈fL,e.length=I.sz) (aG:fL.length=len)
  (h : ∀(j:Nat) x cA,((I.es.drop bD).take len).flatten[j]? = some x→fL.flatten[j]? = some cA→gL s aL bL q x cA):gL s aL bL q (.bu r k bD len) (.isl I.sz fL)
 | agg {c dw:List aw} (aG:dw.length=c.length) (h : ∀(j:Nat) x cA,c[j]? = some x→dw[j]? = some cA→gL s aL bL q x cA):gL s aL bL q (.agg c) (.agg dw)
 | dm {c dw:List aw} (aG:dw.length=c.length) (h : ∀(j:Nat) x cA,c[j]? = some x→dw[j]? = some cA→gL s aL bL q x cA):gL s aL bL q (.dm c) (.dm dw)
 | fn {f:Nat} {c dw:List aw} (aG:dw.length=c.length) (h : ∀(j:Nat) x cA,c[j]? = some x→dw[j]? = some cA→gL s aL bL q x cA):gL s aL bL q (.fn f c) (.fn f dw)
theorem qZ {sz:Nat}: ∀(es:List (List aw)),(∀e∈es,e.length=sz)→es.flatten.length=es.length*sz
 | [],_=>by simp
 | e::es,h=>by
  rw [List.flatten_cons,List.length_append,qZ es fun x aa=>h x (by simp [aa]),h e (by simp),List.length_cons,Nat.add_mul];omega
theorem ft {α:Type}{l:List α}{j:Nat}{x:α}(h:l[j]? = some x):j<l.length:=by
 rcases Nat.lt_or_ge j l.length with cj|cj
 ·exact cj
 ·rw [List.getElem?_eq_none cj] at h;simp at h
theorem gL.rel {g:G}{s:S}{av:eS}{w:World}{aL:fX}{bL:fE→Bool}{q:aw→Prop}(dd:hi g s av w){jO:Nat→Prop}{lY:ik}{lk:h6}
 (H1 : ∀x v,q x→Pure x→Rel w (s.ok g av w) s.aV (s.a4 av) x v→Rel w jO lY lk x v)
 (DX : ∀r k I b m,s.ah r k=some I→bL I.cg=true→(∀j i,aL j i≠some (r,k))→av r k=some (b,m)→jO b)
 (AE : ∀j i r k,aL j i=some (r,k)→s.aV r k→lY j i∧(lk j i=s.a4 av r k∨lk j i=none)) {x cA:aw} (bR:gL s aL bL q x cA) :
 ∀ {v:Value},Rel w (s.ok g av w) s.aV (s.a4 av) x v→Rel w jO lY lk cA v:=by
 induction bR with
 | dead x=>intro v _;exact .dead v
 | pure ak a8=>intro v an;exact H1 _ v a8 ak an
 | eL sz=>intro v an;rw [an.o4];exact .i5 sz none 0 (fun _=>rfl)
 | hx sz=>intro v an;obtain ⟨a,c,rfl⟩:=an.CA;exact .i5 sz (some a) c (fun h=>by simp at h)
 | C5 sz=>intro v an;rw [an.tO];exact .oJ sz
 | eZ h ih=>intro v an;exact .oh (ih an)
 | @ref r k j eI i off aC hu =>
  intro v an
  obtain ⟨o,R⟩:=AE j eI r k aC hu
  cases an with
  | o5 a nC a1 =>
   refine .o5 a o fun sz p=> ?_
   rcases R with e|e<;>rw [e]
   ·exact a1 sz p
   ·simp
  | ref nC ch =>
   rcases R with e|e
   ·exact .ref o (e.trans ch)
   ·exact .o5 _ o fun sz p=>by rw [e];simp
 | @bu r k j eI bD len aC hu =>
  intro v an
  obtain ⟨o,R⟩:=AE j eI r k aC hu
  cases an with
  | mo a l c nC a1 =>
   refine .mo a l c o ?_
   rcases R with e|e<;>rw [e]
   exact a1
  | mK nC ch =>
   rcases R with e|e
   ·exact .mK o (e.trans ch)
   ·exact .mo _ _ _ o e
  | bu nC ch aG aP hm =>
   rcases R with e|e
   ·exact .bu o (e.trans ch) aG aP hm
   ·exact .mo _ _ _ o e
 | lT r c sz =>
  intro v an
  cases an with
  | lT h0 =>
   rcases h0.rM with ⟨-,a,c,rfl,bA⟩|⟨dz,off,c,-,rfl,-⟩
   ·exact .i5 sz a c bA
   ·exact .i5 sz _ c (fun h=>by simp at h)
 | mT h ih =>
  intro v an
  cases an with
  | mT h0=>exact ih h0
 | @hQ r d5 c dw sz h hm =>
  intro v an
  cases an with
  | lT h0 =>
   rcases h0.rM with ⟨-,a,c,rfl,bA⟩|⟨dz,off,c,-,rfl,-⟩
   ·exact .lT (.i5 sz a c bA)
   ·exact .lT (.i5 sz _ c (fun h=>by simp at h))
  | @mT _ _ _ k n _ h0 =>
   refine .mT ?_
   cases h0 with
   | mo a l bF nC a1 =>
    obtain ⟨o,R⟩:=AE _ _ _ _ (hm k) nC
    refine .mo a l bF o ?_
    rcases R with e|e<;>rw [e]
    exact a1
   | mK nC ch =>
    obtain ⟨o,R⟩:=AE _ _ _ _ (hm k) nC
    rcases R with e|e
    ·exact .mK o (e.trans ch)
    ·exact .mo _ _ _ o e
   | bu nC ch aG aP l2 =>
    obtain ⟨o,R⟩:=AE _ _ _ _ (hm k) nC
    rcases R with e|e
    ·exact .bu o (e.trans ch) aG aP l2
    ·exact .mo _ _ _ o e
 | @dV r k I fL i off aj bA an cF Jg hle aG h ih =>
  intro v aY
  have eX:=dd.obj r k I aj
  rcases aY.wE (hD aj) with h0|⟨b,m,ak,hval⟩
  ·rw [h0] at eX;exact absurd eX cF
  ·rw [ak] at eX
   have hy:=eX.rd
   rw [hval]
   have iO:fL.flatten.length=I.es.flatten.length:=by rw [qZ fL hle,qZ I.es hy.1,aG]
   have ug:nI w jO lY lk b 0 I.sz fL:=by
    refine ⟨hle,fun j cA df=> ?_⟩
    have di:j<I.es.flatten.length:=by rw [← iO];exact ft df
    have aa:I.es.flatten[j]? = some I.es.flatten[j]:=List.getElem?_eq_getElem di
    obtain ⟨u,ax,aF,b4⟩:=hy.2 j _ aa
    exact ⟨u,ax,aF,ih j _ cA aa df b4⟩
   have:=ug.dV (i:=i) (off:=off) ⟨DX r k I b m aj bA an ak,Jg⟩
   rw [Nat.zero_add] at this
   exact this
 | @isl r k bD len I fL aj bA an hs Jg hle aG h ih =>
  intro v aY
  have eX:=dd.obj r k I aj
  rcases aY.yS (hD aj) with ⟨ak,rfl,rfl,hval⟩|⟨b,m,A,c,ak,hval,qC,sa,hm⟩
  ·have:fL=[]:=List.length_eq_zero_iff.1 aG
   subst this
   rw [hval];exact .i5 _ none 0 (fun _=>rfl)
  ·rw [ak] at eX
   rw [hval]
   rcases Nat.eq_zero_or_pos len with h0|iM
   ·subst h0
    have:fL=[]:=List.length_eq_zero_iff.1 aG
    subst this
    exact .i5 _ A c (fun a1=>by rcases hm with o|⟨o,-⟩<;>simp_all)
   ·rcases hm with hm|⟨hA,hm⟩
    ·omega
    ·subst hA
     have hy:=B0 eX.rd bD len (by omega)
     rw [Nat.zero_add] at hy
     have iO:fL.flatten.length=((I.es.drop bD).take len).flatten.length:=by
      rw [qZ fL hle,qZ _ hy.1,aG,List.length_take,List.length_drop,Nat.min_eq_left (by omega)]
     have ug:nI w jO lY lk b (bD*I.sz) I.sz fL:=by
      refine ⟨hle,fun j cA df=> ?_⟩
      have di:j<((I.es.drop bD).take len).flatten.length:=by rw [← iO];exact ft df
      have aa:=List.getElem?_eq_getElem di
      obtain ⟨u,ax,aF,b4⟩:=hy.2 j _ aa
      exact ⟨u,ax,aF,ih j _ cA aa df b4⟩
     have:=ug.isl (c:=c) ⟨DX r k I b m aj bA an ak,Jg⟩ (by omega)
     rw [aG] at this
     exact this
 | @agg c dw aG h ih =>
  intro v aY
  obtain ⟨vs,rfl,o,R,ae⟩:=aY.yR
  refine .agg vs (by omega) R fun j cA u df hu=> ?_
  have di:j<c.length:=by have:=ft df;omega
  exact ih j _ cA (List.getElem?_eq_getElem di) df (ae j _ u (List.getElem?_eq_getElem di) hu)
 | @dm c dw aG h ih =>
  intro v aY
  obtain ⟨vs,rfl,o,ae⟩:=aY.wD
  refine .dm vs (by omega) fun j cA u df hu=> ?_
  have di:j<c.length:=by have:=ft df;omega
  exact ih j _ cA (List.getElem?_eq_getElem di) df (ae j _ u (List.getElem?_eq_getElem di) hu)
 | @fn f c dw aG h ih =>
  intro v aY
  obtain ⟨vs,rfl,o,ae⟩:=aY.CR
  refine .fn vs (by omega) fun j cA u df hu=> ?_
  have di:j<c.length:=by have:=ft df;omega
  exact ih j _ cA (List.getElem?_eq_getElem di) df (ae j _ u (List.getElem?_eq_getElem di) hu)
structure nD (s:S) (aL:fX) (bL:fE→Bool) (q:aw→Prop) (I bX:al):Prop where
 sz:bX.sz=I.sz
 cg:bX.cg=I.cg∨(bX.cg = .ix∧I.cg = .live)∨bX.cg = .gone
 len:bX.es.length=I.es.length
 each : ∀e∈bX.es,e.length=I.sz
 at_ : ∀(j:Nat) x cA,I.es.flatten[j]? = some x→bX.es.flatten[j]? = some cA→gL s aL bL q x cA
structure pj (s:S) (aL:fX) (bL:fE→Bool) (q:aw→Prop) (gQ:Nat→Option (List al)):Prop where
 inj : ∀j i g7 eI p,aL j i=some p→aL g7 eI=some p→j=g7∧i=eI
 at_ : ∀j i bX,c0 (gQ j) i=some bX→ ∃r k I,aL j i=some (r,k)∧s.ah r k=some I∧nD s aL bL q I bX
 aV : ∀j i r k,aL j i=some (r,k)→s.aV r k→i<((gQ j).getD []).length
def iP (av:eS)(aL:fX):eS:=fun j i=>match aL j i with
 | some (r,k)=>av r k
 | none=>none
theorem wO {av:eS}{aL:fX}{j i r k:Nat}(h:aL j i=some (r,k)):iP av aL j i=av r k:=by simp [iP,h]
def kT (_:aw):Prop:=True
theorem XN:Down kT:=⟨fun _ _ _ _=>trivial,fun _ _ _ _=>trivial,fun _ _ _ _ _=>trivial⟩
section
variable {g:G} {s:S} {av:eS} {w:World} {aL:fX} {bL:fE→Bool} {q:aw→Prop} {bG:S}
theorem pj.ah (h:pj s aL bL q bG.aR){j i:Nat}{bX:al}(aj:bG.ah j i=some bX): ∃r k I,aL j i=some (r,k)∧s.ah r k=some I∧nD s aL bL q I bX:=h.at_ j i bX aj
theorem NK {I bX:al}(h:nD s aL bL q I bX)(aG:bX.cg = .live):I.cg = .live:=by
 rcases h.cg with e|⟨e,-⟩|e
 ·exact e.symm.trans aG
 ·rw [e] at aG;simp at aG
 ·rw [e] at aG;simp at aG
theorem pj.live (h:pj s aL bL q bG.aR)(b:Nat)(aG:bG.kK (iP av aL) b): ∃r k I m,s.ah r k=some I∧I.cg = .live∧av r k=some (b,m)∧ ∃j i,aL j i=some (r,k):=by
 obtain ⟨j,i,bX,m,o,R,ae⟩:=aG
 obtain ⟨r,k,I,ax,aF,b4⟩:=h.ah o
 rw [wO ax] at ae
 exact ⟨r,k,I,m,aF,NK b4 R,ae,j,i,ax⟩
theorem pj.Dy (h:pj s aL bL q bG.aR){j i r k:Nat}(aC:aL j i=some (r,k)):bG.a4 (iP av aL) j i=s.a4 av r k∨bG.a4 (iP av aL) j i=none:=by
 cases aj:bG.ah j i with
 | none=>right;simp [S.a4,aj]
 | some bX =>
  obtain ⟨d5,dl,I,ax,aF,b4⟩:=h.ah aj
  rw [aC] at ax;simp only [Option.some.injEq,Prod.mk.injEq] at ax
  obtain ⟨rfl,rfl⟩:=ax
  left
  rw [hD aj,hD aF,b4.sz,wO aC]
theorem hi.Kk (dd:hi g s av w)(h:pj s aL bL q bG.aR){fs:G}(aU:zs fs w)(zb:∀j k,fs.ou j k→bG.aV j k∧(bG.a4 (iP av aL) j k=fs.qA j k∨bG.a4 (iP av aL) j k=none))(II:∀j k,fs.ou j k→j<fs.m)
 (Ym : ∀b,fs.oV b→b<fs.lF.heap.size) (halt : ∀b,fs.A b→b<fs.lF.heap.size)
 (IJ : ∀r k I b m,(∃j i,aL j i=some (r,k))→s.ah r k=some I→av r k=some (b,m)→fs.lF.heap.size≤b∨fs.oV b)
 (H1 : ∀b,s.ok g av w b→bG.ok fs (iP av aL) w b)
 (DX : ∀r k I b m,s.ah r k=some I→bL I.cg=true→(∀j i,aL j i≠some (r,k))→av r k=some (b,m)→bG.ok fs (iP av aL) w b) :
 hi fs bG (iP av aL) w∧ ∀ {x cA:aw} {v:Value},gL s aL bL q x cA→Rel w (s.ok g av w) s.aV (s.a4 av) x v→Rel w (bG.ok fs (iP av aL) w) bG.aV (bG.a4 (iP av aL)) cA v:=by
 have eX : ∀ {x cA:aw} {v:Value},gL s aL bL q x cA→Rel w (s.ok g av w) s.aV (s.a4 av) x v→Rel w (bG.ok fs (iP av aL) w) bG.aV (bG.a4 (iP av aL)) cA v :=
  fun bR an=>bR.rel dd (fun x v _ ak an=>an.pure ak H1) DX (fun j i r k aC hu=>⟨h.aV j i r k aC hu,h.Dy aC⟩) an
 refine ⟨⟨?_,?_,?_,aU,Ym,halt,zb,II⟩,eX⟩
 ·intro j k bX dn
  obtain ⟨r,dl,I,ax,aF,b4⟩:=h.ah dn
  have bd:=dd.obj r dl I aF
  rw [wO ax]
  cases ak:av r dl with
  | none =>
   rw [ak] at bd
   simp only [iv] at bd ⊢
   apply List.length_eq_zero_iff.1
   rw [b4.len,bd];rfl
  | some q =>
   obtain ⟨b,m⟩:=q
   rw [ak] at bd
   obtain ⟨c,d4,o,R,ae,ay⟩:=bd
   have iO:bX.es.flatten.length=I.es.flatten.length:=by rw [qZ _ b4.each,qZ _ ae,b4.len]
   refine ⟨c,d4,o,R,by rw [b4.sz];exact b4.each,fun i cA df=> ?_⟩
   have di:i<I.es.flatten.length:=by rw [← iO];exact ft df
   have aa:=List.getElem?_eq_getElem di
   obtain ⟨u,f1,f2,f3⟩:=ay i _ aa
   exact ⟨u,f1,f2,eX (b4.at_ i _ cA aa df) f3⟩
 ·intro j k I g7 dl bX b m a0 o R ae ay
  obtain ⟨r,ka,p,ax,aF,-⟩:=h.ah o
  obtain ⟨d5,Y9,jl,l6,oP,-⟩:=h.ah R
  rw [wO ax] at ae
  rw [wO l6] at ay
  obtain ⟨rfl,rfl⟩:=dd.inj r ka p d5 Y9 jl b m a0 aF oP ae ay
  exact h.inj _ _ _ _ _ ax l6
 ·intro j k I b m o R
  obtain ⟨r,ka,p,ax,aF,-⟩:=h.ah o
  rw [wO ax] at R
  exact IJ r ka p b m ⟨j,k,ax⟩ aF R
theorem cE.NL {a:Act}(h:cE g s av a w)(cK:pj s aL (fun _=>true) q bG.aR)(dJ:∀t,gL s aL (fun _=>true) q (s.E t) (bG.E t))(zC:∀j k,g.ou j k→aL j k=some (j,k)):cE g bG (iP av aL) a w:=by
 have gu : ∀b,bG.kK (iP av aL) b→s.kK av b:=fun b aG=>by
  obtain ⟨r,k,I,m,o,R,ae,-⟩:=cK.live b aG
  exact ⟨r,k,I,m,o,R,ae⟩
 have zb : ∀j k,g.ou j k→bG.aV j k∧(bG.a4 (iP av aL) j k=g.qA j k∨bG.a4 (iP av aL) j k=none):=by
  intro j k aC
  obtain ⟨ax,aF⟩:=h.stay j k aC
  refine ⟨cK.aV j k j k (zC j k aC) ax,?_⟩
  rcases cK.Dy (av:=av) (zC j k aC) with e|e
  ·rw [e];exact aF
  ·exact .inr e
 obtain ⟨o,R⟩:=h.tohi.Kk cK h.gk zb h.low h.mlt h.mv (fun r k I b m _ aj ak=>h.own r k I b m aj ak)
  (fun b aM=>⟨aM.1,aM.2.1,fun aG=>aM.2.2 (gu b aG)⟩)
  (fun r k I b m aj _ an ak=>by
    have bd:=h.obj r k I aj
    rw [ak] at bd
    obtain ⟨c,d4,ax,-⟩:=bd
    refine ⟨(Array.getElem?_eq_some_iff.1 ax).1,?_,fun aG=> ?_⟩
    ·rcases h.own r k I b m aj ak with e|e
     ·exact .inr (.inl e)
     ·exact .inr (.inr e)
    ·obtain ⟨d5,dl,bX,a0,f1,f2,f3,⟨Kl,so,f4⟩⟩:=cK.live b aG
     obtain ⟨rfl,rfl⟩:=h.inj r k I d5 dl bX b m a0 aj f1 ak f3
     exact an Kl so f4)
 exact {tohi:=o,env:=fun t=>R (dJ t) (h.env t),defers:=h.defers,iN:=h.iN}
end
end Go.VL
namespace Go.VL
set_option linter.unusedVariables false
set_option linter.unusedSimpArgs false
open Go
def ew (T:List (List al)):S:={E:=fun _=> .dead,aR:=fun r=>T[r]?}
def XO (P:Program)(f:FuncId)(args:List aw)(T:List (List al))(r:aw)(iB:List (List al)):Prop :=
 ∀(g:G) (av:eS) (w:World) (vs:Array Value),g.lF=w→g.m=T.length→g.ou=(ew T).aV→g.qA=(ew T).a4 av→hi g (ew T) av w→vs.size=args.length →
  (∀(j:Nat) x v,args[j]? = some x→vs[j]? = some v→Rel w ((ew T).ok g av w) (ew T).aV ((ew T).a4 av) x v) →
  Calls P f vs w fun e bx=> ∃v bC,e = .returned v∧hi g (ew iB) bC bx∧Rel bx ((ew iB).ok g bC bx) (ew iB).aV ((ew iB).a4 bC) r v
inductive cm:aw→Prop
 | dead:cm .dead
 | b (x:Bool):cm (.b x)
 | n (k:IntKind) (x:Int):cm (.n k x)
 | s (x:ByteArray):cm (.s x)
 | hh:cm .hh
 | eL:cm .eL
 | hx:cm .hx
 | i5 (sz:Nat):cm (.isl sz [])
 | ref (r k i off:Nat):cm (.ref r k i off)
 | bu (r k bD len:Nat):cm (.bu r k bD len)
 | hQ (r c sz:Nat) (h:Option (Nat×Nat)):cm (.hQ r c sz h)
 | agg {c:List aw} (h : ∀x∈c,cm x):cm (.agg c)
 | dm {c:List aw} (h : ∀x∈c,cm x):cm (.dm c)
theorem XP:Down cm:=⟨fun _ _ h aa=>by cases h with|agg h=>exact h _ aa,fun _ _ h aa=>by cases h with|dm h=>exact h _ aa,fun _ _ _ h=>by cases h⟩
theorem Rel.dB {w bx:World}{ok jO:Nat→Prop}{aV lY:ik}{a4 lk:h6}{x:aw}(bR:cm x): ∀ {v:Value},Pure x→Rel w ok aV a4 x v→Rel bx jO lY lk x v:=by
 induction bR with
 | dead=>intro v _ h;exact .dead v
 | b x=>intro v _ h;rw [h.sP];exact .b x
 | n k x=>intro v _ h;rw [h.oH];exact .n k x
 | s x=>intro v _ h;rw [h.wV];exact .s x
 | hh=>intro v _ h;rw [h.tO];exact .hh
 | eL=>intro v _ h;rw [h.o4];exact .eL
 | hx=>intro v _ h;obtain ⟨a,c,rfl⟩:=h.CA;exact .hx a c
 | i5 sz =>
  intro v _ h
  rcases h.rM with ⟨-,a,c,rfl,bA⟩|⟨dz,off,c,-,rfl,-⟩
  ·exact .i5 sz a c bA
  ·exact .i5 sz _ c (fun h=>by simp at h)
 | ref=>intro v ak;cases ak
 | bu=>intro v ak;cases ak
 | hQ=>intro v ak;cases ak
 | @agg c aP ih =>
  intro v ak h
  obtain ⟨vs,rfl,o,R,ae⟩:=h.yR
  cases ak with
  | agg ak=>exact .agg vs o R fun j x u aa hu=>ih x (List.mem_of_getElem? aa) (ak x (List.mem_of_getElem? aa)) (ae j x u aa hu)
 | @dm c aP ih =>
  intro v ak h
  obtain ⟨vs,rfl,o,ae⟩:=h.wD
  cases ak with
  | dm ak=>exact .dm vs o fun j x u aa hu=>ih x (List.mem_of_getElem? aa) (ak x (List.mem_of_getElem? aa)) (ae j x u aa hu)
section
variable {P:Program} {g:G} {s:S} {av:eS} {a:Act} {w:World}
theorem y2 (h:hi g s av w){r k b m:Nat}{I:al}(aj:s.ah r k=some I)(ak:av r k=some (b,m)):b<w.heap.size:=by
 have:=h.obj r k I aj
 rw [ak] at this
 obtain ⟨c,d4,e,-⟩:=this
 exact (Array.getElem?_eq_some_iff.1 e).1
theorem W2 (h:hi g s av w){r k b m:Nat}{I:al}(aj:s.ah r k=some I)(aU:I.cg = .ix)(ak:av r k=some (b,m)):s.ok g av w b:=by
 refine ⟨y2 h aj ak,?_,?_⟩
 ·rcases h.own r k I b m aj ak with e|e
  ·exact .inr (.inl e)
  ·exact .inr (.inr e)
 ·rintro ⟨d5,dl,bX,a0,o,R,ae⟩
  obtain ⟨rfl,rfl⟩:=h.inj r k I d5 dl bX b m a0 aj o ak ae
  rw [aj] at o;simp at o;subst o;rw [aU] at R;simp at R
theorem enter (h:hi g s av w){aL:fX}{bL:fE→Bool}{q:aw→Prop}{T:List (List al)}(A:Nat→Prop)
 (hA : ∀b,A b→b<w.heap.size) (Jh : ∀b,s.ok g av w b→A b)
 (Ji : ∀r k I b m,s.ah r k=some I→bL I.cg=true→av r k=some (b,m)→A b)
 (cK:pj s aL bL q (ew T).aR) (o7 : ∀r k I,(∃j i,aL j i=some (r,k))→s.ah r k=some I→I.cg = .live) :
 ∃fs:G,fs.lF=w∧fs.A=A∧fs.m=T.length∧fs.ou=(ew T).aV∧fs.qA=(ew T).a4 (iP av aL) ∧
  (fs.oV=fun b=> ∃r k I m,(∃j i,aL j i=some (r,k))∧s.ah r k=some I∧av r k=some (b,m))∧hi fs (ew T) (iP av aL) w ∧
  ∀ {x cA:aw} {v:Value},gL s aL bL q x cA→Rel w (s.ok g av w) s.aV (s.a4 av) x v→Rel w ((ew T).ok fs (iP av aL) w) (ew T).aV ((ew T).a4 (iP av aL)) cA v:=by
 let fs:G:={lF:=w,A:=A,oV:=fun b=> ∃r k I m,(∃j i,aL j i=some (r,k))∧s.ah r k=some I∧av r k=some (b,m),N:=0,m:=T.length,ou:=(ew T).aV,qA:=(ew T).a4 (iP av aL)}
 refine ⟨fs,rfl,rfl,rfl,rfl,rfl,rfl,?_⟩
 have gu : ∀b,(ew T).kK (iP av aL) b→ ∃r k I m,s.ah r k=some I∧I.cg = .live∧av r k=some (b,m)∧ ∃j i,aL j i=some (r,k):=fun b aG=>cK.live b aG
 refine hi.Kk (bG:=ew T) (fs:=fs) h cK ⟨rfl,rfl,rfl,Nat.le_refl _,fun _ _ _=>rfl⟩ (fun j k aC=>⟨aC,.inl rfl⟩) ?_ ?_ hA ?_ ?_ ?_
 ·intro j k aC
  have aC:k<((T[j]?).getD []).length:=aC
  rcases Nat.lt_or_ge j T.length with o|o
  ·exact o
  ·rw [List.getElem?_eq_none o] at aC;simp at aC
 ·rintro b ⟨r,k,I,m,-,aj,ak⟩
  exact y2 h aj ak
 ·intro r k I b m hm aj ak
  exact .inr ⟨r,k,I,m,hm,aj,ak⟩
 ·intro b aM
  refine ⟨aM.1,.inl (Jh b aM),fun aG=> ?_⟩
  obtain ⟨r,k,I,m,o,R,ae,-⟩:=gu b aG
  exact aM.2.2 ⟨r,k,I,m,o,R,ae⟩
 ·intro r k I b m aj bA an ak
  refine ⟨y2 h aj ak,.inl (Ji r k I b m aj bA ak),fun aG=> ?_⟩
  obtain ⟨d5,dl,bX,a0,o,R,ae,⟨j,i,aC⟩⟩:=gu b aG
  obtain ⟨rfl,rfl⟩:=h.inj r k I d5 dl bX b m a0 aj o ak ae
  exact an j i aC
theorem leave (h:cE g s av a w){bx:World}{aL jF:fX}{bL:fE→Bool}{q0 q:aw→Prop}{fs:G}{T dh:List (List al)}{jW:eS}
 (dt:fs.lF=w) (hA:(∀b,fs.A b→s.ok g av w b)∨(∀x,q x→cm x)) (us:fs.ou=(ew T).aV) (ki:fs.qA=(ew T).a4 (iP av aL))
 (dd:fs.oV=fun b=> ∃r k I m,(∃j i,aL j i=some (r,k))∧s.ah r k=some I∧av r k=some (b,m))
 (o7 : ∀r k I,(∃j i,aL j i=some (r,k))→s.ah r k=some I→I.cg = .live)
 (cK:pj s aL bL q0 (ew T).aR) (o:hi fs (ew dh) jW bx)
 (zc : ∀j i r k,aL j i=some (r,k)→jF r k=some (j,i)) (Dh : ∀r k j i,jF r k=some (j,i)→aL j i=some (r,k)∨ ¬s.aV r k)
 (Yn : ∀r k d5 dl p,jF r k=some p→jF d5 dl=some p→r=d5∧k=dl)
 {s2:S} (dJ:s2.E=s.E)
 (bd : ∀r k I,s2.ah r k=some I→(∃j i p,jF r k=some (j,i)∧(ew dh).ah j i=some p∧nD (ew dh) jF (fun _=>false) q p I)∨(jF r k=none∧s.ah r k=some I))
 (iy : ∀r k,s.aV r k→s2.aV r k) (Yo : ∀r k j i,jF r k=some (j,i)→(ew dh).aV j i→s2.aV r k)
 {x cA:aw} {v:Value} (aa:gL (ew dh) jF (fun _=>false) q x cA) (aY:Rel bx ((ew dh).ok fs jW bx) (ew dh).aV ((ew dh).a4 jW) x v) :
 ∃ko,cE g s2 ko a bx∧Rel bx (s2.ok g ko bx) s2.aV (s2.a4 ko) cA v:=by
 let ko:eS:=fun r k=>match jF r k with|some (j,i)=>jW j i|none=>av r k
 have gK : ∀r k j i,jF r k=some (j,i)→ko r k=jW j i:=fun r k j i e=>by simp [ko,e]
 have h7 : ∀r k,jF r k=none→ko r k=av r k:=fun r k e=>by simp [ko,e]
 have aU:=o.gk
 have ev:w.heap.size≤bx.heap.size:=by have:=aU.size;rw [dt] at this;exact this
 have r3 : ∀b,b<w.heap.size→ ¬fs.oV b→bx.heap[b]? = w.heap[b]? := fun b aM jP=>by
  have:=aU.block b (by rw [dt];exact aM) jP
  rw [dt] at this;exact this
 have Dz : ∀j k p b m,(ew dh).ah j k=some p→jW j k=some (b,m)→w.heap.size≤b∨ ∃r dl I a0,(∃j i,aL j i=some (r,dl))∧s.ah r dl=some I∧av r dl=some (b,a0):=by
  intro j k p b m ak aM
  rcases o.own j k p b m ak aM with e|e
  ·rw [dt] at e;exact .inl e
  ·rw [dd] at e;exact .inr e
 have hold : ∀q k I b m,jF q k=none→s.ah q k=some I→av q k=some (b,m)→b<w.heap.size∧ ¬fs.oV b:=by
  intro q k I b m a8 aj ak
  refine ⟨y2 h.tohi aj ak,fun jP=> ?_⟩
  rw [dd] at jP
  obtain ⟨r,dl,bX,a0,⟨j,i,an⟩,dn,m0⟩:=jP
  obtain ⟨rfl,rfl⟩:=h.inj q k I r dl bX b m a0 aj dn ak m0
  rw [zc _ _ _ _ an] at a8;simp at a8
 have Of : ∀b,s2.kK ko b→(ew dh).kK jW b∨(∃q k I m,jF q k=none∧s.ah q k=some I∧I.cg = .live∧av q k=some (b,m)):=by
  rintro b ⟨q,k,I,m,aj,mZ,ak⟩
  rcases bd q k I aj with ⟨j,i,p,ax,aF,b4⟩|⟨ax,aF⟩
  ·rw [gK _ _ _ _ ax] at ak
   exact .inl ⟨j,i,p,m,aF,NK b4 mZ,ak⟩
  ·rw [h7 _ _ ax] at ak
   exact .inr ⟨q,k,I,m,ax,aF,mZ,ak⟩
 have lZ : ∀b,s.ok g av w b→s2.ok g ko bx b:=by
  intro b aM
  refine ⟨Nat.lt_of_lt_of_le aM.1 ev,aM.2.1,fun aG=> ?_⟩
  rcases Of b aG with ⟨j,k,p,m,ax,aF,b4⟩|⟨q,k,I,m,ax,aF,b4,dy⟩
  ·rcases Dz j k p b m ax b4 with e|⟨r,dl,I,a0,an,aj,ak⟩
   ·have:=aM.1;omega
   ·exact aM.2.2 ⟨r,dl,I,a0,aj,o7 r dl I an aj,ak⟩
  ·exact aM.2.2 ⟨q,k,I,m,aF,b4,dy⟩
 have Pe : ∀r k,s.aV r k→s2.a4 ko r k=s.a4 av r k∨s2.a4 ko r k=none:=by
  intro r k an
  cases aj:s2.ah r k with
  | none=>right;simp [S.a4,aj]
  | some I =>
   left
   rcases bd r k I aj with ⟨j,i,p,ax,aF,b4⟩|⟨ax,aF⟩
   ·rcases Dh r k j i ax with aC|aC
    ·have ll:=(o.stay j i (by rw [us];exact cK.aV _ _ _ _ aC an)).2
     rw [ki,hD aF] at ll
     have ll:some (p.sz,jW j i)=(ew T).a4 (iP av aL) j i:=by
      rcases ll with e|e
      ·exact e
      ·simp at e
     have:=cK.Dy (bG:=ew T) (av:=av) aC
     rw [← ll] at this
     rw [hD aj,b4.sz,gK _ _ _ _ ax]
     rcases this with e|e
     ·exact e
     ·simp at e
    ·exact absurd an aC
   ·rw [hD aj,hD aF,h7 _ _ ax]
 have XQ : ∀b,s.ok g av w b→bx.heap[b]? = w.heap[b]? := by
  intro b aM
  refine r3 b aM.1 fun jP=> ?_
  rw [dd] at jP
  obtain ⟨r,dl,I,a0,an,aj,ak⟩:=jP
  exact aM.2.2 ⟨r,dl,I,a0,aj,o7 r dl I an aj,ak⟩
 have eX : ∀ {y:aw} {u:Value},Rel w (s.ok g av w) s.aV (s.a4 av) y u→Rel bx (s2.ok g ko bx) s2.aV (s2.a4 ko) y u :=
  fun an=>an.mono lZ XQ iy Pe
 have Yp:(∀b,fs.A b→s.ok g av w b)→ ∀b,(ew dh).ok fs jW bx b→s2.ok g ko bx b:=by
  intro hA b aM
  have IJ:g.A b∨g.lF.heap.size≤b∨g.oV b:=by
   rcases aM.2.1 with e|e|e
   ·exact (hA b e).2.1
   ·rw [dt] at e;exact .inr (.inl (Nat.le_trans h.gk.size e))
   ·rw [dd] at e
    obtain ⟨r,k,I,m,-,aj,ak⟩:=e
    rcases h.own r k I b m aj ak with e|e
    ·exact .inr (.inl e)
    ·exact .inr (.inr e)
  refine ⟨aM.1,IJ,fun aG=> ?_⟩
  rcases Of b aG with e|⟨q,k,I,m,ax,aF,b4,dy⟩
  ·exact aM.2.2 e
  ·have a8:=hold q k I b m ax aF dy
   rcases aM.2.1 with e|e|e
   ·exact (hA b e).2.2 ⟨q,k,I,m,aF,b4,dy⟩
   ·rw [dt] at e;omega
   ·exact a8.2 e
 have ON : ∀ {y k1:aw} {u:Value},gL (ew dh) jF (fun _=>false) q y k1→Rel bx ((ew dh).ok fs jW bx) (ew dh).aV ((ew dh).a4 jW) y u→Rel bx (s2.ok g ko bx) s2.aV (s2.a4 ko) k1 u:=by
  intro y k1 u bR an
  refine bR.rel o (fun x v a8 ak an=> ?_) (fun _ _ _ _ _ _ bA _ _=>by simp at bA) ?_ an
  ·rcases hA with hA|hA
   ·exact an.pure ak (Yp hA)
   ·exact an.dB (hA x a8) ak
  ·intro r k j i a8 aC
   refine ⟨Yo r k j i a8 aC,?_⟩
   cases aj:s2.ah r k with
   | none=>right;simp [S.a4,aj]
   | some I =>
    left
    rcases bd r k I aj with ⟨g7,eI,p,ax,aF,b4⟩|⟨ax,-⟩
    ·rw [a8] at ax;simp only [Option.some.injEq,Prod.mk.injEq] at ax
     obtain ⟨rfl,rfl⟩:=ax
     rw [hD aj,hD aF,b4.sz,gK _ _ _ _ a8]
    ·rw [a8] at ax;simp at ax
 refine ⟨ko,{tohi:=⟨?_,?_,?_,?_,h.mlt,h.mv,?_,h.low⟩,env:=fun t=>by rw [dJ];exact eX (h.env t),defers:=h.defers,iN:=h.iN},ON aa aY⟩
 ·intro q k I aj
  rcases bd q k I aj with ⟨j,i,p,ax,aF,b4⟩|⟨ax,aF⟩
  ·have ak:=o.obj j i p aF
   rw [gK _ _ _ _ ax]
   cases jq:jW j i with
   | none =>
    rw [jq] at ak
    simp only [iv] at ak ⊢
    apply List.length_eq_zero_iff.1
    rw [b4.len,ak];rfl
   | some sq =>
    obtain ⟨b,m⟩:=sq
    rw [jq] at ak
    obtain ⟨c,d4,f1,f2,f3,f4⟩:=ak
    have iO:I.es.flatten.length=p.es.flatten.length:=by rw [qZ _ b4.each,qZ _ f3,b4.len]
    refine ⟨c,d4,f1,f2,by rw [b4.sz];exact b4.each,fun i cA df=> ?_⟩
    have di:i<p.es.flatten.length:=by rw [← iO];exact ft df
    have h3:=List.getElem?_eq_getElem di
    obtain ⟨u,i2,lI,gg⟩:=f4 i _ h3
    exact ⟨u,i2,lI,ON (b4.at_ i _ cA h3 df) gg⟩
  ·have ak:=h.obj q k I aF
   rw [h7 _ _ ax]
   cases jq:av q k with
   | none=>rw [jq] at ak;exact ak
   | some sq =>
    obtain ⟨b,m⟩:=sq
    rw [jq] at ak
    obtain ⟨c,d4,f1,f2,f3,f4⟩:=ak
    obtain ⟨rf,z0⟩:=hold q k I b m ax aF jq
    refine ⟨c,d4,(r3 b rf z0).trans f1,f2,f3,fun i cA df=> ?_⟩
    obtain ⟨u,i2,lI,gg⟩:=f4 i cA df
    exact ⟨u,i2,lI,eX gg⟩
 ·intro q k I gJ dl bX b m a0 R ae ay aK
  rcases bd q k I R with ⟨j,i,p,ax,aF,b4⟩|⟨ax,aF⟩<;>rcases bd gJ dl bX ae with ⟨g7,eI,jl,l6,oP,zV⟩|⟨l6,oP⟩
  ·rw [gK _ _ _ _ ax] at ay;rw [gK _ _ _ _ l6] at aK
   obtain ⟨rfl,rfl⟩:=o.inj j i p g7 eI jl b m a0 aF oP ay aK
   exact Yn _ _ _ _ _ ax l6
  ·rw [gK _ _ _ _ ax] at ay;rw [h7 _ _ l6] at aK
   obtain ⟨f1,f2⟩:=hold gJ dl bX b a0 l6 oP aK
   rcases Dz j i p b m aF ay with e|e
   ·omega
   ·exact absurd (by rw [dd];exact e) f2
  ·rw [h7 _ _ ax] at ay;rw [gK _ _ _ _ l6] at aK
   obtain ⟨f1,f2⟩:=hold q k I b m ax aF ay
   rcases Dz g7 eI jl b a0 oP aK with e|e
   ·omega
   ·exact absurd (by rw [dd];exact e) f2
  ·rw [h7 _ _ ax] at ay;rw [h7 _ _ l6] at aK
   exact h.inj q k I gJ dl bX b m a0 aF oP ay aK
 ·intro q k I b m R ay
  rcases bd q k I R with ⟨j,i,p,ax,aF,b4⟩|⟨ax,aF⟩
  ·rw [gK _ _ _ _ ax] at ay
   rcases Dz j i p b m aF ay with e|⟨r,dl,bX,a0,an,aj,ak⟩
   ·exact .inl (Nat.le_trans h.gk.size e)
   ·exact h.own r dl bX b a0 aj ak
  ·rw [h7 _ _ ax] at ay;exact h.own q k I b m aF ay
 ·have ax:=aU.os;have aF:=aU.tape;have b4:=aU.output
  rw [dt] at ax aF b4
  refine h.gk.step ax aF b4 ev fun b aM m1=>r3 b (Nat.lt_of_lt_of_le aM h.gk.size) fun jP=> ?_
  rw [dd] at jP
  obtain ⟨r,k,I,m,-,aj,ak⟩:=jP
  rcases h.own r k I b m aj ak with e|e
  ·omega
  ·exact m1 e
 ·intro j k aC
  obtain ⟨ax,aF⟩:=h.stay j k aC
  refine ⟨iy j k ax,?_⟩
  rcases Pe j k ax with e|e
  ·rw [e];exact aF
  ·exact .inr e
def jB (a b n:Nat):aw→aw
 | .ref r k i off=>if r=a then .ref b (n+k) i off else .ref r k i off
 | .bu r k bD len=>if r=a then .bu b (n+k) bD len else .bu r k bD len
 | .hQ r c sz h=>if r=a then .hQ b (n+c) sz h else .hQ r c sz h
 | .agg c=> .agg (xh c)
 | .dm c=> .dm (xh c)
 | x=>x
where xh:List aw→List aw
 | []=>[]
 | x::l=>jB a b n x::xh l
def ln (a b n:Nat)(I:al):al:={I with es:=I.es.map fun e=>e.map (jB a b n)}
def qq (I:al):al:=⟨0,[],.gone⟩
theorem CS (a b n:Nat): ∀l:List aw,jB.xh a b n l=l.map (jB a b n)
 | []=>rfl
 | x::l=>by rw [jB.xh,CS a b n l];rfl
theorem jo (l:List al)(k:Nat):c0 (some l) k=(l[k]?).bind fun I=>if I.cg = .gone then none else some I:=by
 unfold c0
 cases h:l[k]? <;> simp [h]
theorem map_flatten {es:List (List aw)}(f:aw→aw):(es.map fun e=>e.map f).flatten=es.flatten.map f:=by
 induction es with
 | nil=>rfl
 | cons e es ih=>rw [List.map_cons,List.flatten_cons,List.flatten_cons,List.map_append,ih]
theorem cE.merge (h:cE g s av a w){r d5:Nat}{l fM:List al}(an:s.aR r=some l)(gD:s.aR d5=some fM)(cF:d5≠r):
 ∃bC,cE g ((s.setRow d5 (fM.map qq)).setRow r (l++fM.map (ln d5 r l.length))) bC a w ∧
  ∀x v,Rel w (s.ok g av w) s.aV (s.a4 av) x v→Rel w (((s.setRow d5 (fM.map qq)).setRow r (l++fM.map (ln d5 r l.length))).ok g bC w)
   ((s.setRow d5 (fM.map qq)).setRow r (l++fM.map (ln d5 r l.length))).aV (((s.setRow d5 (fM.map qq)).setRow r (l++fM.map (ln d5 r l.length))).a4 bC) (jB d5 r l.length x) v:=by
 generalize uu:(s.setRow d5 (fM.map qq)).setRow r (l++fM.map (ln d5 r l.length))=s2
 let bC:eS:=fun q k=>if q=r∧l.length≤k then av d5 (k-l.length) else av q k
 have bd : ∀q k I,s2.ah q k=some I→(q=r∧l.length≤k∧ ∃p,s.ah d5 (k-l.length)=some p∧I=ln d5 r l.length p∧bC q k=av d5 (k-l.length)) ∨
  (q≠d5∧s.ah q k=some I∧bC q k=av q k∧ ¬(q=r∧l.length≤k)):=by
  intro q k I aj
  subst uu
  rw [kw] at aj
  by_cases e:q=r
  ·subst e
   rw [if_pos rfl] at aj
   by_cases aU:l.length≤k
   ·left
    refine ⟨rfl,aU,?_⟩
    rw [jo,List.getElem?_append_right aU,List.getElem?_map] at aj
    cases ak:fM[k-l.length]? with
    | none=>rw [ak] at aj;simp at aj
    | some p =>
     rw [ak] at aj
     simp only [Option.map_some,Option.bind_some] at aj
     split at aj
     ·simp at aj
     ·rename_i dt
      simp only [Option.some.injEq] at aj
      refine ⟨p,?_,aj.symm,by simp [bC,aU]⟩
      unfold S.ah
      rw [gD,jo,ak,Option.bind_some,if_neg (by simpa [ln] using dt)]
   ·right
    refine ⟨Ne.symm cF,?_,by simp [bC,aU],fun eO=>aU eO.2⟩
    unfold S.ah
    rw [an,jo]
    rw [jo,List.getElem?_append_left (by omega)] at aj
    exact aj
  ·rw [if_neg e,kw] at aj
   by_cases aF:q=d5
   ·subst aF
    rw [if_pos rfl,jo,List.getElem?_map] at aj
    cases ak:fM[k]? with
    | none=>rw [ak] at aj;simp at aj
    | some p=>rw [ak] at aj;simp [qq] at aj
   ·rw [if_neg aF] at aj
    exact .inr ⟨aF,aj,by simp [bC,e],fun eO=>e eO.1⟩
 have iy : ∀q k,s.aV q k→s2.aV q k:=by
  intro q k a8
  subst uu
  rw [mn]
  by_cases e:q=r
  ·subst e;rw [if_pos rfl];simp [S.aV,an] at a8;simp;omega
  ·rw [if_neg e,mn]
   by_cases aF:q=d5
   ·subst aF;rw [if_pos rfl];simpa [S.aV,gD] using a8
   ·rw [if_neg aF];exact a8
 have zD : ∀k,s.aV d5 k→s2.aV r (l.length+k):=by
  intro k a8
  subst uu
  rw [mn,if_pos rfl]
  simp [S.aV,gD] at a8
  simp;omega
 have zE : ∀k,s2.a4 bC r (l.length+k)=s.a4 av d5 k:=by
  intro k
  subst uu
  simp only [S.a4]
  rw [kw,if_pos rfl]
  unfold S.ah
  rw [gD,jo,jo,List.getElem?_append_right (by omega),List.getElem?_map,show l.length+k-l.length=k by omega]
  cases ak:fM[k]? with
  | none=>simp
  | some p =>
   simp only [Option.map_some,Option.bind_some]
   by_cases dt:p.cg = .gone
   ·rw [if_pos dt,if_pos (by simpa [ln] using dt)];rfl
   ·rw [if_neg dt,if_neg (by simpa [ln] using dt)]
    simp [bC,ln]
 have ki : ∀q k,s.aV q k→s2.a4 bC q k=s.a4 av q k∨s2.a4 bC q k=none:=by
  intro q k a8
  cases aj:s2.ah q k with
  | none=>right;simp [S.a4,aj]
  | some I =>
   left
   rcases bd q k I aj with ⟨rfl,aF,-⟩|⟨-,aF,b4,-⟩
   ·simp [S.aV,an] at a8;omega
   ·rw [hD aj,hD aF,b4]
 have o7 : ∀b,s2.kK bC b→s.kK av b:=by
  rintro b ⟨q,k,I,m,o,R,ae⟩
  rcases bd q k I o with ⟨-,-,p,ax,aF,b4⟩|⟨-,ax,aF,-⟩
  ·rw [b4] at ae;subst aF;exact ⟨d5,_,p,m,ax,R,ae⟩
  ·rw [aF] at ae;exact ⟨q,k,I,m,ax,R,ae⟩
 have cM:Step g s av w s2 bC w:=⟨iy,ki,fun b aG=> .inl (o7 b aG),fun _ _ _=>rfl,Nat.le_refl _⟩
 have z1 : ∀x v,Rel w (s.ok g av w) s.aV (s.a4 av) x v→Rel w (s2.ok g bC w) s2.aV (s2.a4 bC) (jB d5 r l.length x) v:=by
  intro x v kj
  induction kj with
  | dead v=>exact .dead v
  | b x=>exact .b x
  | n k x=>exact .n k x
  | s x=>exact .s x
  | hh=>exact .hh
  | eL=>exact .eL
  | hx a c=>exact .hx a c
  | @o5 ad k i off a hu eO =>
   unfold jB
   split
   ·rename_i e;subst e
    exact .o5 a (zD k hu) (by rw [zE];exact eO)
   ·exact cM.rel (.o5 a hu eO)
  | @ref ad k i off sz dz m hu eO =>
   unfold jB
   split
   ·rename_i e;subst e
    exact .ref (zD k hu) (by rw [zE];exact eO)
   ·exact cM.rel (.ref hu eO)
  | @mo ad k bD len a bF cN hu eO =>
   unfold jB
   split
   ·rename_i e;subst e
    exact .mo a bF cN (zD k hu) (by rw [zE];exact eO)
   ·exact cM.rel (.mo a bF cN hu eO)
  | @mK ad k sz hu eO =>
   unfold jB
   split
   ·rename_i e;subst e
    exact .mK (zD k hu) (by rw [zE];exact eO)
   ·exact cM.rel (.mK hu eO)
  | @bu ad k bD len sz dz m c a hu eO aG aP l2 =>
   unfold jB
   split
   ·rename_i e;subst e
    exact .bu (zD k hu) (by rw [zE];exact eO) aG aP l2
   ·exact cM.rel (.bu hu eO aG aP l2)
  | @lT ad c sz v h0 ih =>
   unfold jB
   split
   ·exact .lT (cM.rel h0)
   ·exact cM.rel (.lT h0)
  | @mT ad c sz k n v h0 ih =>
   unfold jB
   split
   ·rename_i e;subst e
    unfold jB at ih
    rw [if_pos rfl] at ih
    exact .mT (by rw [show k+(l.length+c)=l.length+(k+c) by omega];exact ih)
   ·exact cM.rel (.mT h0)
  | i5 sz a c h=>exact .i5 sz a c h
  | isl cs aM ak aG aP hw hG kj ih=>exact cM.rel (.isl cs aM ak aG aP hw hG kj)
  | dV cs aM ak aG hw hG kj ih=>exact cM.rel (.dV cs aM ak aG hw hG kj)
  | oJ sz=>exact .oJ sz
  | oh h0 ih=>exact cM.rel (.oh h0)
  | agg vs aG hG kj ih =>
   unfold jB
   rw [CS]
   refine .agg vs (by simpa using aG) hG fun j x v aa aY=> ?_
   rw [List.getElem?_map,Option.map_eq_some_iff] at aa
   obtain ⟨y,aS,rfl⟩:=aa
   exact ih j y v aS aY
  | dm vs aG kj ih =>
   unfold jB
   rw [CS]
   refine .dm vs (by simpa using aG) fun j x v aa aY=> ?_
   rw [List.getElem?_map,Option.map_eq_some_iff] at aa
   obtain ⟨y,aS,rfl⟩:=aa
   exact ih j y v aS aY
  | fn vs aG kj ih=>exact cM.rel (.fn vs aG kj)
 refine ⟨bC,{tohi:=⟨?_,?_,?_,h.gk,h.mlt,h.mv,?_,h.low⟩,env:=fun t=>by rw [show s2.E=s.E by rw [← uu];rfl];exact cM.rel (h.env t),defers:=h.defers,iN:=h.iN},z1⟩
 ·intro q k I aj
  rcases bd q k I aj with ⟨-,-,p,ax,aF,b4⟩|⟨-,ax,aF,-⟩
  ·rw [b4]
   subst aF
   have ak:=h.obj d5 _ p ax
   cases jq:av d5 (k-l.length) with
   | none=>rw [jq] at ak;simp only [iv] at ak ⊢;simp [ln,ak]
   | some sq =>
    obtain ⟨b,m⟩:=sq
    rw [jq] at ak
    obtain ⟨c,d4,f1,f2,f3,f4⟩:=ak
    refine ⟨c,d4,f1,f2,?_,fun j x aa=> ?_⟩
    ·intro e he
     simp only [ln,List.mem_map] at he
     obtain ⟨d9,kR,rfl⟩:=he
     simpa [ln] using f3 d9 kR
    ·simp only [ln] at aa
     rw [map_flatten,List.getElem?_map,Option.map_eq_some_iff] at aa
     obtain ⟨y,aS,rfl⟩:=aa
     obtain ⟨u,i2,lI,gg⟩:=f4 j y aS
     exact ⟨u,i2,lI,z1 y u gg⟩
  ·rw [aF]
   exact cM.obj (fun b m _=>rfl) (h.obj q k I ax)
 ·intro q k I aW ka bY b m a0 o R ae ay
  rcases bd q k I o with ⟨rfl,f1,p,ax,aF,b4⟩|⟨f1,ax,aF,f2⟩<;>rcases bd aW ka bY R with ⟨rfl,xi,jl,l6,oP,zV⟩|⟨xi,l6,oP,acu⟩
  ·rw [b4] at ae;rw [zV] at ay
   obtain ⟨-,e⟩:=h.inj _ _ _ _ _ _ b m a0 ax l6 ae ay
   exact ⟨rfl,by omega⟩
  ·rw [b4] at ae;rw [oP] at ay
   obtain ⟨e,-⟩:=h.inj _ _ _ _ _ _ b m a0 ax l6 ae ay
   exact absurd e.symm xi
  ·rw [aF] at ae;rw [zV] at ay
   obtain ⟨e,-⟩:=h.inj _ _ _ _ _ _ b m a0 ax l6 ae ay
   exact absurd e f1
  ·rw [aF] at ae;rw [oP] at ay
   exact h.inj _ _ _ _ _ _ b m a0 ax l6 ae ay
 ·intro q k I b m o R
  rcases bd q k I o with ⟨-,-,p,ax,aF,b4⟩|⟨-,ax,aF,-⟩
  ·rw [b4] at R;exact h.own d5 _ p b m ax R
  ·rw [aF] at R;exact h.own q k I b m ax R
 ·exact cM.stay h.stay
end
end Go.VL
namespace Go.VL
set_option linter.unusedVariables false
set_option linter.unusedSimpArgs false
open Go
def aw.hr:aw→Bool
 | .dead | .b _ | .n .. | .s _ | .hh | .eL | .hx | .isl .. | .dV .. | .eZ .. => true
 | _=>false
def aw.y3:aw→Bool
 | .agg c=>c.all aw.hr
 | .fn _ c=>c.all aw.hr
 | x=>x.hr
def aw.OO:aw→Bool
 | .dm c=>c.all aw.y3
 | x=>x.y3
section
variable {w:World} {ok:Nat→Prop} {aV:ik} {a4:h6}
theorem Rel.wW {x:aw}{v:Value}(h:Rel w ok aV a4 x v)(a1:x.hr=true):Pure x:=by
 cases h with
 | dead=>exact .dead
 | b=>exact .b _
 | n=>exact .n _ _
 | s=>exact .s _
 | hh=>exact .hh
 | eL=>exact .eL
 | hx=>exact .hx
 | i5=>exact .isl (by simp)
 | isl cs aM ak=>exact .isl ak
 | dV cs aM ak=>exact .dV ak
 | oJ sz=>exact .oJ sz
 | oh h=>cases h with|dV cs aM ak=>exact .oh fun x aa=>ak _ (List.mem_singleton.2 rfl) x aa
 | _=>simp [aw.hr] at a1
theorem Mh {c:List aw}{vs:List Value}(aG:vs.length=c.length)(an:∀(j:Nat) x u,c[j]? = some x→vs[j]? = some u→Rel w ok aV a4 x u)
 (a1:c.all aw.hr=true) : ∀x∈c,Pure x:=by
 intro x aa
 obtain ⟨j,aC⟩:=List.getElem?_of_mem aa
 have di:j<vs.length:=by have:=ft aC;omega
 exact (an j x _ aC (List.getElem?_eq_getElem di)).wW (List.all_eq_true.1 a1 x aa)
theorem Rel.C6 {x:aw}{v:Value}(h:Rel w ok aV a4 x v)(a1:x.y3=true):Pure x:=by
 cases h with
 | agg vs aG aP an=>exact .agg (Mh aG an a1)
 | fn vs aG an=>exact .fn (Mh aG an a1)
 | dead=>exact .dead
 | b=>exact .b _
 | n=>exact .n _ _
 | s=>exact .s _
 | hh=>exact .hh
 | eL=>exact .eL
 | hx=>exact .hx
 | i5=>exact .isl (by simp)
 | isl cs aM ak=>exact .isl ak
 | dV cs aM ak=>exact .dV ak
 | oJ sz=>exact .oJ sz
 | oh h=>cases h with|dV cs aM ak=>exact .oh fun x aa=>ak _ (List.mem_singleton.2 rfl) x aa
 | _=>simp [aw.y3,aw.hr] at a1
theorem Rel.XR {x:aw}{v:Value}(h:Rel w ok aV a4 x v)(a1:x.OO=true):Pure x:=by
 by_cases ch : ∃c,x = .dm c
 ·obtain ⟨c,rfl⟩:=ch
  obtain ⟨vs,rfl,aG,an⟩:=h.wD
  refine .dm fun x aa=> ?_
  obtain ⟨j,aC⟩:=List.getElem?_of_mem aa
  have di:j<vs.length:=by have:=ft aC;omega
  exact (an j x _ aC (List.getElem?_eq_getElem di)).C6 (List.all_eq_true.1 a1 x aa)
 ·refine h.C6 ?_
  cases x<;>first|exact a1|exact absurd ⟨_,rfl⟩ ch
end
def db:List Nat→Nat→Option Nat
 | [],_=>none
 | x::l,r=>if x=r then some 0 else (db l r).map (· + 1)
theorem Mi : ∀ {l:List Nat} {r j:Nat},db l r=some j→l[j]? = some r
 | x::l,r,j,h=>by
  unfold db at h
  split at h
  ·simp at h;subst h;simp [*]
  ·rw [Option.map_eq_some_iff] at h
   obtain ⟨i,af,rfl⟩:=h
   simpa using Mi af
theorem Mj : ∀ {l:List Nat} {r j:Nat},l.Nodup→l[j]? = some r→db l r=some j
 | x::l,r,j,a1,h=>by
  rw [List.nodup_cons] at a1
  unfold db
  cases j with
  | zero=>simp at h;simp [h]
  | succ j =>
   simp at h
   have:x≠r:=by rintro rfl;exact a1.1 (List.mem_of_getElem? h)
   rw [if_neg this,Mj a1.2 h];rfl
def z2 (dP:Nat)(iZ:List al)(bL:fE→Bool)(x cA:aw):Prop :=
 (cA=x∧x.hr=true)∨(∃c sz,x = .hQ dP c sz none∧cA = .isl sz [])∨ ∃k bD len I,(x = .bu dP k bD len∨ ∃c sz iq,k=iq+c∧bD=0∧x = .hQ dP c sz (some (iq,len)))∧c0 (some iZ) k=some I∧bL I.cg=true∧bD+len≤I.es.length ∧
   gU ((I.es.drop bD).take len)∧cA = .isl I.sz ((I.es.drop bD).take len)
def AF (dP:Nat)(iZ:List al)(bL:fE→Bool)(sz:Nat)(es fL:List (List aw)):Prop :=
 fL.length=es.length∧(∀e∈fL,e.length=sz)∧ ∀(j:Nat) x cA,es.flatten[j]? = some x→fL.flatten[j]? = some cA→z2 dP iZ bL x cA
def ky (aR:Nat→Option (List al))(b5:Nat→Option Nat)(aL:fX)(bL:fE→Bool):sk→aw→Option (aw×List Prop)
 | .id,x=>if x.hr then some (x,[]) else
  match x with
  | .ref r k i off=>match b5 r with
   | some j=>some (.ref j k i off,[])
   | none=>none
  | .bu r k bD len=>match b5 r with
   | some j=>some (.bu j k bD len,[])
   | none=>none
  | .hQ r c sz h=>match b5 r with
   | some j=>some (.hQ j c sz h,[])
   | none=>none
  | _=>none
 | .gm sz,.eL=>some (.isl sz [],[])
 | .gm sz,.hx=>some (.isl sz [],[])
 | .fI fL,.bu r k bD len=>match c0 (aR r) k with
  | some I=>if bL I.cg && (b5 r).isNone then some (.isl I.sz fL,[fL=(I.es.drop bD).take len,bD+len≤I.es.length,gU fL]) else none
  | none=>none
 | .iQ,_=>some (.dead,[])
 | .dL y,x=>if x.hr then some (y,[x=y]) else none
 | .len n,.bu r k bD len=>match b5 r with
  | some j=>some (.bu j k bD n,[len=n])
  | none=>none
 | .lG sz,x=>match x with
  | .hh=>some (.eZ sz none,[])
  | .dV Dv [c] 0 0=>if Dv=sz then some (.eZ sz (some c),[]) else none
  | _=>none
 | .at_ j i n,.bu r k bD len=>some (.bu j i bD n,[aL j i=some (r,k),len=n])
 | .at_ j i _,.ref r k x y=>some (.ref j i x y,[aL j i=some (r,k)])
 | .view dP I fL,.bu r k bD len=>match aR r,aR dP with
  | some row,some iZ=>if (b5 r).isNone && (b5 dP).isNone then
   some (.isl I.sz fL,[c0 (some row) k=some I,bL I.cg=true,bD+len≤I.es.length,gU fL,AF dP iZ bL I.sz ((I.es.drop bD).take len) fL]) else none
  | _,_=>none
 | _,_=>none
def kz {α β:Type}(f:α→β→Option (β×List Prop)):List α→List β→Option (List β×List Prop)
 | [],[]=>some ([],[])
 | a::l,b::m=>match f a b,kz f l m with
  | some (jm,bY),some (a0,a9)=>some (jm::a0,bY++a9)
  | _,_=>none
 | _,_=>none
def nr (aR:Nat→Option (List al))(b5:Nat→Option Nat)(aL:fX)(bL:fE→Bool):xA→aw→Option (aw×List Prop)
 | .cu c,x=>if x.y3 then (match c with | .id=>some (x,[]) | .iQ=>some (.dead,[]) | .dL y=>some (y,[x=y])|c=>ky aR b5 aL bL c x) else ky aR b5 aL bL c x
 | .agg l,.agg c=>match kz (ky aR b5 aL bL) l c with
  | some (dw,ah)=>some (.agg dw,ah)
  | none=>none
 | .ptr l,.ref r k i off=>match c0 (aR r) k with
  | some I=>match I.es with
   | [c]=>if bL I.cg && (b5 r).isNone then
    match kz (ky aR b5 aL bL) l c with
    | some (dw,ah)=>some (.dV I.sz [dw] i off,ah++[gU [dw]])
    | none=>none
    else none
   | _=>none
  | none=>none
 | .r4 l,x=>match x with
  | .ref r k 0 0=>match c0 (aR r) k with
   | some I=>match I.es with
    | [c]=>if bL I.cg && (b5 r).isNone then
     match kz (ky aR b5 aL bL) l c with
     | some (dw,ah)=>some (.eZ I.sz (some dw),ah++[gU [dw]])
     | none=>none
     else none
    | _=>none
   | none=>none
  | _=>none
 | _,_=>none
def mN (aR:Nat→Option (List al))(b5:Nat→Option Nat)(aL:fX)(bL:fE→Bool):kn→aw→Option (aw×List Prop)
 | .bF c,x=>if x.OO then (match c with | .cu .id=>some (x,[])|c=>nr aR b5 aL bL c x) else nr aR b5 aL bL c x
 | .comp l,.dm c=>match kz (nr aR b5 aL bL) l c with
  | some (dw,ah)=>some (.dm dw,ah)
  | none=>none
 | .comp l,.fn f c=>match kz (nr aR b5 aL bL) l c with
  | some (dw,ah)=>some (.fn f dw,ah)
  | none=>none
 | _,_=>none
def sD (row:List al):Prop:= ∀I∈row,gU I.es∧I.cg = .live
def n7 (row:List al):Prop:= ∀I∈row,I.cg = .live∨I.cg = .gone
def m2 (b5:Nat→Option Nat):aw→aw
 | .ref r k i off=>match b5 r with|some j=> .ref j k i off|none=> .dead
 | .bu r k bD len=>match b5 r with|some j=> .bu j k bD len|none=> .dead
 | .hQ r c sz h=>match b5 r with|some j=> .hQ j c sz h|none=> .dead
 | x=>if x.hr then x else .dead
def jr (b5:Nat→Option Nat)(I:al):al:={I with es:=I.es.map fun e=>e.map (m2 b5)}
def ie (aR:Nat→Option (List al))(b5:Nat→Option Nat)(aL:fX)(bL:fE→Bool):hI→List al→Option (List al×List Prop)
 | .pure,row=>some (row,[sD row])
 | .dL dv,row=>some (dv,[row=dv,sD dv])
 | .bz dv,row=>some (dv,[dv=row.map (jr b5),n7 row])
 | .box l,[I]=>match I.es with
  | [c]=>if I.cg = .live then match kz (ky aR b5 aL bL) l c with
   | some (dw,ah)=>some ([{I with es:=[dw]}],ah)
   | none=>none
   else none
  | _=>none
 | _,_=>none
structure sr (q:aw→Prop) (bL:fE→Bool):Prop extends Down q where
 all : ∀k,bL k=true→ ∀x,q x
theorem s6 (bL:fE→Bool):sr kT bL:={toDown:=XN,all:=fun _ _ _=>trivial}
theorem Za:sr cm (fun _=>false):={toDown:=XP,all:=fun _ h=>by simp at h}
structure lJ (s:S) (aL:fX) (b5:Nat→Option Nat) (bL:fE→Bool):Prop where
 af : ∀r j,b5 r=some j→ ∀k,aL j k=some (r,k)
 a1 : ∀r,b5 r=none→ ∀k I,s.ah r k=some I→bL I.cg=true→ ∀j i,aL j i≠some (r,k)
section
variable {g:G} {s:S} {av:eS} {w:World} {aL:fX} {b5:Nat→Option Nat} {bL:fE→Bool} {q:aw→Prop}
theorem Cp {α β:Type}(f:α→β→Option (β×List Prop)): ∀(l:List α) (m a0:List β) (ah:List Prop),kz f l m=some (a0,ah) →
 a0.length=m.length∧l.length=m.length∧ ∀(j:Nat) b jm,m[j]? = some b→a0[j]? = some jm→ ∃x bX,l[j]? = some x∧f x b=some (jm,bX)∧ ∀p∈bX,p∈ah
 | [],[],a0,ah,h=>by
  simp [kz] at h;obtain ⟨rfl,rfl⟩:=h
  exact ⟨rfl,rfl,fun j b jm aM=>by simp at aM⟩
 | [],_::_,_,_,h=>by simp [kz] at h
 | _::_,[],_,_,h=>by simp [kz] at h
 | x::l,b::m,a0,ah,h=>by
  simp only [kz] at h
  split at h
  ·rename_i jm bY fW a9 o R
   simp only [Option.some.injEq,Prod.mk.injEq] at h
   obtain ⟨rfl,rfl⟩:=h
   obtain ⟨ax,aF,b4⟩:=Cp f l m fW a9 R
   refine ⟨by simp [ax],by simp [aF],fun j c dw aP ul=> ?_⟩
   cases j with
   | zero =>
    simp at aP ul;subst aP;subst ul
    exact ⟨x,bY,rfl,o,fun p ak=>by simp [ak]⟩
   | succ j =>
    simp at aP ul
    obtain ⟨y,bX,f1,f2,f3⟩:=b4 j c dw aP ul
    exact ⟨y,bX,by simpa using f1,f2,fun p ak=>by simp [f3 p ak]⟩
  ·simp at h
theorem HA (dd:hi g s av w)(H:lJ s aL b5 bL)(ba:sr q bL){c:sk}{x cA:aw}{ah:List Prop}(h:ky s.aR b5 aL bL c x=some (cA,ah))(bd:∀p∈ah,p)
 (a8:q x) {v:Value} (an:Rel w (s.ok g av w) s.aV (s.a4 av) x v):gL s aL bL q x cA:=by
 have iy : ∀ {r k bD len:Nat},x = .bu r k bD len→s.aV r k:=by
  intro r k bD len e;subst e;cases an<;>assumption
 cases c with
 | id =>
  simp only [ky] at h
  split at h
  ·rename_i a1
   simp only [Option.some.injEq,Prod.mk.injEq] at h
   obtain ⟨rfl,rfl⟩:=h
   exact .pure (an.wW a1) a8
  ·split at h
   ·rename_i r k i off _
    split at h
    ·rename_i j aC
     simp only [Option.some.injEq,Prod.mk.injEq] at h
     obtain ⟨rfl,rfl⟩:=h
     exact .ref i off (H.af r j aC k) (by cases an<;>assumption)
    ·simp at h
   ·rename_i r k bD len _
    split at h
    ·rename_i j aC
     simp only [Option.some.injEq,Prod.mk.injEq] at h
     obtain ⟨rfl,rfl⟩:=h
     exact .bu bD len (H.af r j aC k) (iy rfl)
    ·simp at h
   ·rename_i r c sz eO _
    split at h
    ·rename_i j aC
     simp only [Option.some.injEq,Prod.mk.injEq] at h
     obtain ⟨rfl,rfl⟩:=h
     exact .hQ eO (fun k=>H.af r j aC _)
    ·simp at h
   ·simp at h
 | gm sz =>
  cases x<;>simp [ky] at h
  ·obtain ⟨rfl,rfl⟩:=h
   exact .eL sz
  ·obtain ⟨rfl,rfl⟩:=h
   exact .hx sz
 | fI fL =>
  cases x<;>simp only [ky,reduceCtorEq] at h
  rename_i r k bD len
  split at h
  ·rename_i I aj
   split at h
   ·rename_i aP
    simp only [Bool.and_eq_true,Option.isNone_iff_eq_none] at aP
    simp only [Option.some.injEq,Prod.mk.injEq] at h
    obtain ⟨rfl,rfl⟩:=h
    have o:fL=(I.es.drop bD).take len:=bd _ (by simp)
    have R:bD+len≤I.es.length:=bd _ (by simp)
    have ae:gU fL:=bd _ (by simp)
    have dn:s.ah r k=some I:=aj
    have hlen : ∀e∈I.es,e.length=I.sz:=by
     have e4:=dd.obj r k I dn
     cases ak:av r k with
     | none=>rw [ak] at e4;simp only [iv] at e4;rw [e4];simp
     | some q=>rw [ak] at e4;obtain ⟨_,_,_,_,e,_⟩:=e4;exact e
    refine .isl dn aP.1 (H.a1 r aP.2 k I dn aP.1) R ae ?_ ?_ ?_
    ·rw [o];exact fun e he=>hlen e (List.mem_of_mem_drop (List.mem_of_mem_take he))
    ·rw [o];simp;omega
    ·intro j y k1 aS m3
     rw [o] at m3
     rw [aS] at m3;simp at m3;subst m3
     rw [o] at ae
     obtain ⟨e,he,z3⟩:=rB aS
     exact .pure (ae e he y z3) (ba.all _ aP.1 y)
   ·simp at h
  ·simp at h
 | iQ =>
  simp only [ky,Option.some.injEq,Prod.mk.injEq] at h
  obtain ⟨rfl,rfl⟩:=h
  exact .dead x
 | dL y =>
  simp only [ky] at h
  split at h
  ·rename_i a1
   simp only [Option.some.injEq,Prod.mk.injEq] at h
   obtain ⟨rfl,rfl⟩:=h
   have e:x=y:=bd _ (by simp)
   subst e
   exact .pure (an.wW a1) a8
  ·simp at h
 | len n =>
  cases x<;>simp only [ky,reduceCtorEq] at h
  rename_i r k bD len
  split at h
  ·rename_i j aC
   simp only [Option.some.injEq,Prod.mk.injEq] at h
   obtain ⟨rfl,rfl⟩:=h
   have e:len=n:=bd _ (by simp)
   subst e
   exact .bu bD len (H.af r j aC k) (iy rfl)
  ·simp at h
 | at_ j i n =>
  cases x<;>simp only [ky,reduceCtorEq] at h
  ·rename_i r k x y
   simp only [Option.some.injEq,Prod.mk.injEq] at h
   obtain ⟨rfl,rfl⟩:=h
   exact .ref x y (bd _ (List.mem_cons_self)) (by cases an<;>assumption)
  ·rename_i r k bD len
   simp only [Option.some.injEq,Prod.mk.injEq] at h
   obtain ⟨rfl,rfl⟩:=h
   have e:len=n:=bd _ (by simp)
   subst e
   exact .bu bD len (bd _ (List.mem_cons_self)) (iy rfl)
 | view dP I fL =>
  cases x<;>simp only [ky,reduceCtorEq] at h
  rename_i r k bD len
  split at h
  ·rename_i row iZ c8 XS
   split at h
   ·rename_i aP
    simp only [Bool.and_eq_true,Option.isNone_iff_eq_none] at aP
    simp only [Option.some.injEq,Prod.mk.injEq] at h
    obtain ⟨rfl,rfl⟩:=h
    have o:c0 (some row) k=some I:=bd _ (by simp)
    have R:bL I.cg=true:=bd _ (by simp)
    have ae:bD+len≤I.es.length:=bd _ (by simp)
    have ay:gU fL:=bd _ (by simp)
    have aK:AF dP iZ bL I.sz ((I.es.drop bD).take len) fL:=bd _ (by simp)
    have dn:s.ah r k=some I:=by unfold S.ah;rw [c8];exact o
    obtain ⟨ss,qd,aaF⟩:=aK
    refine .isl dn R (H.a1 r aP.1 k I dn R) ae ay qd (by rw [ss];simp;omega) fun j y k1 aS m3=> ?_
    rcases aaF j y k1 aS m3 with ⟨rfl,a1⟩|⟨cN,PE,rfl,rfl⟩|⟨jV,DA,Di,p,z4,ax,aF,b4,dy,rfl⟩
    ·obtain ⟨e,he,z3⟩:=rB m3
     exact .pure (ay e he k1 z3) (ba.all _ R _)
    ·exact .lT _ _ _
    ·have m0:s.ah dP jV=some p:=by unfold S.ah;rw [XS];exact ax
     have hlen : ∀e∈p.es,e.length=p.sz:=by
      have e4:=dd.obj dP jV p m0
      cases ak:av dP jV with
      | none=>rw [ak] at e4;simp only [iv] at e4;rw [e4];simp
      | some q=>rw [ak] at e4;obtain ⟨_,_,_,_,e,_⟩:=e4;exact e
     have OP:gL s aL bL q (.bu dP jV DA Di) (.isl p.sz ((p.es.drop DA).take Di)):=by
      refine .isl m0 aF (H.a1 dP aP.2 jV p m0 aF) b4 dy (fun e he=>hlen e (List.mem_of_mem_drop (List.mem_of_mem_take he))) (by simp;omega) fun j z adb cd uv=> ?_
      rw [cd] at uv;simp at uv;subst uv
      obtain ⟨e,he,Zb⟩:=rB cd
      exact .pure (dy e he z Zb) (ba.all _ aF _)
     rcases z4 with rfl|⟨cu,acv,iq,rfl,rfl,rfl⟩
     ·exact OP
     ·exact .mT OP
   ·simp at h
  ·simp at h
 | lG sz =>
  simp only [ky] at h
  split at h
  ·simp only [Option.some.injEq,Prod.mk.injEq] at h
   obtain ⟨rfl,rfl⟩:=h
   exact .C5 _
  ·split at h
   ·rename_i e;subst e
    simp only [Option.some.injEq,Prod.mk.injEq] at h
    obtain ⟨rfl,rfl⟩:=h
    exact .eZ (.pure (an.wW rfl) a8)
   ·simp at h
  ·simp at h
theorem yB (dd:hi g s av w)(H:lJ s aL b5 bL)(ba:sr q bL){l:List sk}{c dw:List aw}{ah:List Prop}(h:kz (ky s.aR b5 aL bL) l c=some (dw,ah))(bd:∀p∈ah,p)
 (a8 : ∀x∈c,q x) {vs:List Value} (aG:vs.length=c.length) (an : ∀(j:Nat) x u,c[j]? = some x→vs[j]? = some u→Rel w (s.ok g av w) s.aV (s.a4 av) x u) :
 dw.length=c.length∧ ∀(j:Nat) x cA,c[j]? = some x→dw[j]? = some cA→gL s aL bL q x cA:=by
 obtain ⟨ax,aF,b4⟩:=Cp _ l c dw ah h
 refine ⟨ax,fun j x cA aa df=> ?_⟩
 obtain ⟨y,bX,f1,f2,f3⟩:=b4 j x cA aa df
 have di:j<vs.length:=by have:=ft aa;omega
 exact HA dd H ba f2 (fun p ak=>bd p (f3 p ak)) (a8 x (List.mem_of_getElem? aa)) (an j x _ aa (List.getElem?_eq_getElem di))
theorem HB (dd:hi g s av w)(H:lJ s aL b5 bL)(ba:sr q bL){c:xA}{x cA:aw}{ah:List Prop}(h:nr s.aR b5 aL bL c x=some (cA,ah))(bd:∀p∈ah,p)
 (a8:q x) {v:Value} (an:Rel w (s.ok g av w) s.aV (s.a4 av) x v):gL s aL bL q x cA:=by
 cases c with
 | cu c =>
  simp only [nr] at h
  split at h
  ·rename_i a1
   split at h
   ·simp only [Option.some.injEq,Prod.mk.injEq] at h
    obtain ⟨rfl,rfl⟩:=h
    exact .pure (an.C6 a1) a8
   ·simp only [Option.some.injEq,Prod.mk.injEq] at h
    obtain ⟨rfl,rfl⟩:=h
    exact .dead _
   ·simp only [Option.some.injEq,Prod.mk.injEq] at h
    obtain ⟨rfl,rfl⟩:=h
    have e:=bd _ (List.mem_singleton.2 rfl)
    subst e
    exact .pure (an.C6 a1) a8
   ·exact HA dd H ba h bd a8 an
  ·exact HA dd H ba h bd a8 an
 | agg l =>
  cases x<;>simp only [nr,reduceCtorEq] at h
  rename_i c
  split at h
  ·rename_i dw mB aP
   simp only [Option.some.injEq,Prod.mk.injEq] at h
   obtain ⟨rfl,rfl⟩:=h
   obtain ⟨vs,rfl,aG,-,z5⟩:=an.yR
   obtain ⟨ax,aF⟩:=yB dd H ba aP bd (fun y aS=>ba.agg _ _ a8 aS) aG z5
   exact .agg ax aF
  ·simp at h
 | ptr l =>
  cases x<;>simp only [nr,reduceCtorEq] at h
  rename_i r k i off
  split at h
  ·rename_i I aj
   split at h
   ·rename_i c gC
    split at h
    ·rename_i aP
     simp only [Bool.and_eq_true,Option.isNone_iff_eq_none] at aP
     split at h
     ·rename_i dw mB hG
      simp only [Option.some.injEq,Prod.mk.injEq] at h
      obtain ⟨rfl,rfl⟩:=h
      have dn:s.ah r k=some I:=aj
      have e4:=dd.obj r k I dn
      cases ak:av r k with
      | none=>rw [ak] at e4;simp only [iv] at e4;rw [gC] at e4;simp at e4
      | some q =>
       obtain ⟨b,m⟩:=q
       rw [ak] at e4
       obtain ⟨ca,d4,g1,g2,g3,g4⟩:=e4
       have IK:c.length=I.sz:=g3 c (by rw [gC];simp)
       have iO:I.es.flatten=c:=by rw [gC];simp
       have hcs : ∀j:Nat,j<c.length→ ∃u,ca[j]? = some u∧Rel w (s.ok g av w) s.aV (s.a4 av) c[j]! u:=by
        intro j aC
        obtain ⟨u,i2,-,gg⟩:=g4 j c[j] (by rw [iO];exact List.getElem?_eq_getElem aC)
        exact ⟨u,i2,by rw [getElem!_pos c j aC];exact gg⟩
       obtain ⟨ax,aF⟩:=yB (vs:=(List.range c.length).map fun j=>(ca[j]?).getD undef) dd H ba hG (fun p ak=>bd p (by simp [ak])) (fun y _=>ba.all _ aP.1 y) (by simp) (by
        intro j y u aS hu
        have aC:=ft aS
        rw [List.getElem?_map,List.getElem?_range aC] at hu
        simp only [Option.map_some,Option.some.injEq] at hu
        obtain ⟨kb,i2,gg⟩:=hcs j aC
        rw [i2] at hu;simp at hu;subst hu
        rw [List.getElem?_eq_getElem aC] at aS;simp at aS;subst aS
        rw [getElem!_pos c j aC] at gg;exact gg)
       have rW:gU [dw]:=bd _ (by simp)
       refine .dV i off dn aP.1 (H.a1 r aP.2 k I dn aP.1) (by rw [gC];simp) rW (by simp;omega) (by rw [gC];rfl) ?_
       ·intro j y k1 aS m3
        rw [iO] at aS
        simp only [List.flatten_cons,List.flatten_nil,List.append_nil] at m3
        exact aF j y k1 aS m3
     ·simp at h
    ·simp at h
   ·simp at h
  ·simp at h
 | r4 l =>
  simp only [nr] at h
  split at h
  ·rename_i r k
   split at h
   ·rename_i I aj
    split at h
    ·rename_i c gC
     split at h
     ·rename_i aP
      simp only [Bool.and_eq_true,Option.isNone_iff_eq_none] at aP
      split at h
      ·rename_i dw mB hG
       simp only [Option.some.injEq,Prod.mk.injEq] at h
       obtain ⟨rfl,rfl⟩:=h
       have dn:s.ah r k=some I:=aj
       have e4:=dd.obj r k I dn
       cases ak:av r k with
       | none=>rw [ak] at e4;simp only [iv] at e4;rw [gC] at e4;simp at e4
       | some q =>
        obtain ⟨b,m⟩:=q
        rw [ak] at e4
        obtain ⟨ca,d4,g1,g2,g3,g4⟩:=e4
        have IK:c.length=I.sz:=g3 c (by rw [gC];simp)
        have iO:I.es.flatten=c:=by rw [gC];simp
        have hcs : ∀j:Nat,j<c.length→ ∃u,ca[j]? = some u∧Rel w (s.ok g av w) s.aV (s.a4 av) c[j]! u:=by
         intro j aC
         obtain ⟨u,i2,-,gg⟩:=g4 j c[j] (by rw [iO];exact List.getElem?_eq_getElem aC)
         exact ⟨u,i2,by rw [getElem!_pos c j aC];exact gg⟩
        obtain ⟨ax,aF⟩:=yB (vs:=(List.range c.length).map fun j=>(ca[j]?).getD undef) dd H ba hG (fun p ak=>bd p (by simp [ak])) (fun y _=>ba.all _ aP.1 y) (by simp) (by
         intro j y u aS hu
         have aC:=ft aS
         rw [List.getElem?_map,List.getElem?_range aC] at hu
         simp only [Option.map_some,Option.some.injEq] at hu
         obtain ⟨kb,i2,gg⟩:=hcs j aC
         rw [i2] at hu;simp at hu;subst hu
         rw [List.getElem?_eq_getElem aC] at aS;simp at aS;subst aS
         rw [getElem!_pos c j aC] at gg;exact gg)
        have rW:gU [dw]:=bd _ (by simp)
        refine .eZ (.dV 0 0 dn aP.1 (H.a1 r aP.2 k I dn aP.1) (by rw [gC];simp) rW (by simp;omega) (by rw [gC];rfl) ?_)
        ·intro j y k1 aS m3
         rw [iO] at aS
         simp only [List.flatten_cons,List.flatten_nil,List.append_nil] at m3
         exact aF j y k1 aS m3
      ·simp at h
     ·simp at h
    ·simp at h
   ·simp at h
  ·simp at h
theorem yH (dd:hi g s av w)(H:lJ s aL b5 bL)(ba:sr q bL){c:kn}{x cA:aw}{ah:List Prop}(h:mN s.aR b5 aL bL c x=some (cA,ah))(bd:∀p∈ah,p)
 (a8:q x) {v:Value} (an:Rel w (s.ok g av w) s.aV (s.a4 av) x v):gL s aL bL q x cA:=by
 have key : ∀(l:List xA) (c dw:List aw) (mB:List Prop) (vs:List Value),kz (nr s.aR b5 aL bL) l c=some (dw,mB)→(∀p∈mB,p)→(∀x∈c,q x)→vs.length=c.length →
  (∀(j:Nat) x u,c[j]? = some x→vs[j]? = some u→Rel w (s.ok g av w) s.aV (s.a4 av) x u)→dw.length=c.length∧ ∀(j:Nat) x cA,c[j]? = some x→dw[j]? = some cA→gL s aL bL q x cA:=by
  intro l c dw mB vs h bd a8 aG an
  obtain ⟨ax,aF,b4⟩:=Cp _ l c dw mB h
  refine ⟨ax,fun j x cA aa df=> ?_⟩
  obtain ⟨y,bX,f1,f2,f3⟩:=b4 j x cA aa df
  have di:j<vs.length:=by have:=ft aa;omega
  exact HB dd H ba f2 (fun p ak=>bd p (f3 p ak)) (a8 x (List.mem_of_getElem? aa)) (an j x _ aa (List.getElem?_eq_getElem di))
 cases c with
 | bF c =>
  simp only [mN] at h
  split at h
  ·rename_i a1
   split at h
   ·simp only [Option.some.injEq,Prod.mk.injEq] at h
    obtain ⟨rfl,rfl⟩:=h
    exact .pure (an.XR a1) a8
   ·exact HB dd H ba h bd a8 an
  ·exact HB dd H ba h bd a8 an
 | comp l =>
  cases x<;>simp only [mN,reduceCtorEq] at h
  ·rename_i c
   split at h
   ·rename_i dw mB aP
    simp only [Option.some.injEq,Prod.mk.injEq] at h
    obtain ⟨rfl,rfl⟩:=h
    obtain ⟨vs,rfl,aG,z5⟩:=an.wD
    obtain ⟨ax,aF⟩:=key l c dw mB vs aP bd (fun y aS=>ba.dm _ _ a8 aS) aG z5
    exact .dm ax aF
   ·simp at h
  ·rename_i f c
   split at h
   ·rename_i dw mB aP
    simp only [Option.some.injEq,Prod.mk.injEq] at h
    obtain ⟨rfl,rfl⟩:=h
    obtain ⟨vs,rfl,aG,z5⟩:=an.CR
    obtain ⟨ax,aF⟩:=key l c dw mB vs aP bd (fun y aS=>ba.fn _ _ _ a8 aS) aG z5
    exact .fn ax aF
   ·simp at h
theorem OQ (dd:hi g s av w)(H:lJ s aL b5 bL){r:Nat}{ja:Nat→Nat}{row:List al}(c8:∀k I,c0 (some row) k=some I→s.ah r (ja k)=some I)
 (a8 : ∀k I,c0 (some row) k=some I→ ∀e∈I.es,∀x∈e,q x) :
 ∀(k:Nat) bX,c0 (some (row.map (jr b5))) k=some bX→ ∃I,c0 (some row) k=some I∧nD s aL bL q I bX:=by
 intro k bX dn
 rw [jo,List.getElem?_map] at dn
 cases aU:row[k]? with
 | none=>rw [aU] at dn;simp at dn
 | some I =>
  rw [aU] at dn
  simp only [Option.map_some,Option.bind_some] at dn
  split at dn
  ·simp at dn
  ·rename_i dt
   simp only [Option.some.injEq] at dn
   subst dn
   have aj:c0 (some row) k=some I:=by rw [jo,aU,Option.bind_some,if_neg (by simpa [jr] using dt)]
   have bR:s.ah r (ja k)=some I:=c8 k I aj
   refine ⟨I,aj,?_⟩
   have e4:=dd.obj r (ja k) I bR
   have hlen : ∀e∈I.es,e.length=I.sz:=by
    cases ak:av r (ja k) with
    | none=>rw [ak] at e4;simp only [iv] at e4;rw [e4];simp
    | some q=>rw [ak] at e4;obtain ⟨_,_,_,_,e,_⟩:=e4;exact e
   refine ⟨rfl,.inl rfl,by simp [jr],?_,fun j x cA aa df=> ?_⟩
   ·intro e he
    simp only [jr,List.mem_map] at he
    obtain ⟨d9,kR,rfl⟩:=he
    simpa using hlen d9 kR
   ·simp only [jr] at df
    rw [map_flatten,List.getElem?_map,aa] at df
    simp only [Option.map_some,Option.some.injEq] at df
    subst df
    obtain ⟨e,he,pZ⟩:=rB aa
    have Zc:=a8 k I aj e he x pZ
    cases ak:av r (ja k) with
    | none=>rw [ak] at e4;simp only [iv] at e4;rw [e4] at aa;simp at aa
    | some sq =>
     obtain ⟨b,m⟩:=sq
     rw [ak] at e4
     obtain ⟨c,d4,f1,f2,f3,f4⟩:=e4
     obtain ⟨u,i2,lI,gg⟩:=f4 j x aa
     cases x with
     | ref b3 jV mF Yq =>
      cases ch:b5 b3 with
      | none=>simp only [m2,ch];exact .dead _
      | some DY=>simp only [m2,ch];exact .ref mF Yq (H.af _ _ ch _) (by cases gg<;>assumption)
     | bu b3 jV DA Di =>
      cases ch:b5 b3 with
      | none=>simp only [m2,ch];exact .dead _
      | some DY=>simp only [m2,ch];exact .bu DA Di (H.af _ _ ch _) (by cases gg<;>assumption)
     | hQ b3 cN PE R =>
      cases ch:b5 b3 with
      | none=>simp only [m2,ch];exact .dead _
      | some DY=>simp only [m2,ch];exact .hQ R (fun k=>H.af _ _ ch _)
     | _ =>
      simp only [m2]
      split
      ·rename_i a1;exact .pure (gg.wW a1) Zc
      ·exact .dead _
theorem Cq (dd:hi g s av w)(H:lJ s aL b5 bL)(ba:sr q bL){c:hI}{r:Nat}{ja:Nat→Nat}{row dv:List al}{ah:List Prop}(c8:∀k I,c0 (some row) k=some I→s.ah r (ja k)=some I)
 (h:ie s.aR b5 aL bL c row=some (dv,ah)) (bd : ∀p∈ah,p) (a8 : ∀k I,c0 (some row) k=some I→ ∀e∈I.es,∀x∈e,q x) :
 dv.length=row.length∧(∀k I,c0 (some row) k=some I→I.cg = .live) ∧
 ∀(k:Nat) bX,c0 (some dv) k=some bX→ ∃I,c0 (some row) k=some I∧nD s aL bL q I bX:=by
 have hlen : ∀k I,c0 (some row) k=some I→ ∀e∈I.es,e.length=I.sz:=by
  intro k I aj
  have dn:s.ah r (ja k)=some I:=c8 k I aj
  have e4:=dd.obj r (ja k) I dn
  cases ak:av r (ja k) with
  | none=>rw [ak] at e4;simp only [iv] at e4;rw [e4];simp
  | some q=>rw [ak] at e4;obtain ⟨_,_,_,_,e,_⟩:=e4;exact e
 have rW:sD row→(∀k I,c0 (some row) k=some I→I.cg = .live) ∧
  ∀(k:Nat) bX,c0 (some row) k=some bX→ ∃I,c0 (some row) k=some I∧nD s aL bL q I bX:=by
  intro ak
  have pU : ∀k I,c0 (some row) k=some I→I∈row:=by
   intro k I aj
   unfold c0 at aj
   simp only at aj
   split at aj
   ·rename_i bX dn
    split at aj
    ·simp at aj
    ·simp at aj;subst aj;exact List.mem_of_getElem? dn
   ·simp at aj
  refine ⟨fun k I aj=>(ak I (pU k I aj)).2,fun k I aj=>⟨I,aj,rfl,.inl rfl,rfl,hlen k I aj,fun j x cA aa df=> ?_⟩⟩
  rw [aa] at df;simp at df;subst df
  obtain ⟨e,he,pZ⟩:=rB aa
  exact .pure ((ak I (pU k I aj)).1 e he x pZ) (a8 k I aj e he x pZ)
 cases c with
 | pure =>
  simp only [ie,Option.some.injEq,Prod.mk.injEq] at h
  obtain ⟨rfl,rfl⟩:=h
  exact ⟨rfl,rW (bd _ (by simp))⟩
 | dL aH =>
  simp only [ie,Option.some.injEq,Prod.mk.injEq] at h
  obtain ⟨rfl,rfl⟩:=h
  have e:row=aH:=bd _ (by simp)
  subst e
  exact ⟨rfl,rW (bd _ (by simp))⟩
 | bz aH =>
  simp only [ie,Option.some.injEq,Prod.mk.injEq] at h
  obtain ⟨rfl,rfl⟩:=h
  have e:aH=row.map (jr b5):=bd _ (by simp)
  have Jj:n7 row:=bd _ (by simp)
  subst e
  refine ⟨by simp,fun k I aj=>by
   unfold c0 at aj
   simp only at aj
   split at aj
   ·rename_i bX dn
    split at aj
    ·simp at aj
    ·rename_i dt
     simp at aj;subst aj
     exact (Jj _ (List.mem_of_getElem? dn)).resolve_right dt
   ·simp at aj,OQ dd H c8 a8⟩
 | rx aH=>cases row with
  | nil=>simp [ie] at h
  | cons I l=>cases l<;>simp [ie] at h
 | drop=>cases row with
  | nil=>simp [ie] at h
  | cons I l=>cases l<;>simp [ie] at h
 | box l =>
  match row,h with
  | [I],h =>
   simp only [ie] at h
   split at h
   ·rename_i c gC
    split at h
    ·rename_i mZ
     split at h
     ·rename_i dw mB aP
      simp only [Option.some.injEq,Prod.mk.injEq] at h
      obtain ⟨rfl,rfl⟩:=h
      have h0:c0 (some [I]) 0=some I:=by rw [k8];simp [mZ]
      refine ⟨rfl,fun k p ak=> ?_,fun k p ak=> ?_⟩
      ·rw [k8] at ak
       split at ak
       ·simp at ak;subst ak;exact mZ
       ·simp at ak
      ·rw [k8] at ak
       split at ak
       ·rename_i sb
        obtain ⟨rfl,-⟩:=sb
        simp only [Option.some.injEq] at ak;subst ak
        refine ⟨I,h0,?_⟩
        have dn:s.ah r (ja 0)=some I:=c8 0 I h0
        have e4:=dd.obj r (ja 0) I dn
        cases jq:av r (ja 0) with
        | none=>rw [jq] at e4;simp only [iv] at e4;rw [gC] at e4;simp at e4
        | some q =>
         obtain ⟨b,m⟩:=q
         rw [jq] at e4
         obtain ⟨ca,d4,g1,g2,g3,g4⟩:=e4
         have IK:c.length=I.sz:=g3 c (by rw [gC];simp)
         have iO:I.es.flatten=c:=by rw [gC];simp
         obtain ⟨ax,aF⟩:=yB (vs:=(List.range c.length).map fun j=>(ca[j]?).getD undef) dd H ba aP bd (fun y aS=>a8 0 I h0 c (by rw [gC];simp) y aS) (by simp) (by
          intro j y u aS hu
          have aC:=ft aS
          rw [List.getElem?_map,List.getElem?_range aC] at hu
          simp only [Option.map_some,Option.some.injEq] at hu
          obtain ⟨kb,i2,-,gg⟩:=g4 j y (by rw [iO];exact aS)
          rw [i2] at hu;simp at hu;subst hu
          exact gg)
         refine ⟨rfl,.inl rfl,by simp [gC],by simp;omega,fun j x cA aa df=> ?_⟩
         rw [iO] at aa
         simp only [List.flatten_cons,List.flatten_nil,List.append_nil] at df
         exact aF j x cA aa df
       ·simp at ak
     ·simp at h
    ·simp at h
   ·simp at h
  | [],h=>simp [ie] at h
  | _::_::_,h=>simp [ie] at h
end
end Go.VL
namespace Go.VL
set_option linter.unusedVariables false
set_option linter.unusedSimpArgs false
open Go
def Cr (P:Program)(f:FuncId):Prop:= ∃fn,P.funcs[f]? = some fn∧(fn.name == "runtime.NumGoroutine")=false∧fn.body.isSome=true
def Con (P:Program)(f:FuncId)(args:List aw)(T:List (List al))(r:aw)(iB:List (List al)):Prop:=Cr P f∧XO P f args T r iB
def rX (k:fE):Bool:=k = .ix
def lf (_:fE):Bool:=true
def jL (_:fE):Bool:=false
def Src.r:Src→Nat
 | .row r=>r
 | .ah r _ _=>r
def Src.has:Src→Nat→Nat→Prop
 | .row r,q,_=>q=r
 | .ah r k _,q,dl=>q=r∧dl=k
def Src.lH:Src→Nat→Nat
 | .row _,k=>k
 | .ah ..,_=>0
def kE (l:List Src):fX:=fun j i=>match l[j]? with
 | some (.row r)=>some (r,i)
 | some (.ah r k _)=>if i=0 then some (r,k) else none
 | none=>none
def oj (n:Nat):List Src→Nat→Option Nat
 | [],_=>none
 | .row r::l,q=>if r=q then some n else oj (n+1) l q
 | .ah .. :: l,q=>oj (n+1) l q
def iz (n:Nat):List Src→fX
 | [],_,_=>none
 | .row r::l,q,k=>if q=r then some (n,k) else iz (n+1) l q k
 | .ah r dl _::l,q,k=>if q=r∧k=dl then some (n,0) else iz (n+1) l q k
def rY (l:List Src):Nat→Option Nat:=fun j=>match l[j]? with
 | some (.row r)=>some r
 | _=>none
def apart:Src→Src→Option (List Prop)
 | .ah r k _,.ah d5 dl _=>if r=d5 then some [k≠dl] else some []
 | a,b=>if a.r=b.r then none else some []
def CT (a:Src):List Src→Option (List Prop)
 | []=>some []
 | b::l=>match apart a b,CT a l with
  | some x,some y=>some (x++y)
  | _,_=>none
def C7:List Src→Option (List Prop)
 | []=>some []
 | a::l=>match CT a l,C7 l with
  | some x,some y=>some (x++y)
  | _,_=>none
def zF (l:List Src):Prop:=l.Pairwise fun a b=> ∀r k,¬(a.has r k∧b.has r k)
theorem Vv {a b:Src}{ah:List Prop}(h:apart a b=some ah)(bd:∀p∈ah,p): ∀r k,¬(a.has r k∧b.has r k):=by
 rintro r k ⟨o,R⟩
 have an : ∀c:Src,c.has r k→c.r=r:=fun c aP=>by
  cases c with
  | row r0=>exact Eq.symm aP
  | ah r0 iq kp=>exact Eq.symm aP.1
 have e:=(an a o).trans (an b R).symm
 cases a with
 | row r0=>simp only [apart] at h;rw [if_pos e] at h;simp at h
 | ah r0 iq kp =>
  cases b with
  | row ad=>simp only [apart] at h;rw [if_pos e] at h;simp at h
  | ah ad ka bY =>
   simp only [apart] at h
   rw [if_pos (show r0=ad from e)] at h
   simp only [Option.some.injEq] at h
   subst h
   exact bd _ (List.mem_singleton.2 rfl) (o.2.symm.trans R.2)
theorem MJ {a:Src}: ∀ {l:List Src} {ah:List Prop},CT a l=some ah→(∀p∈ah,p)→ ∀b∈l,∀r k,¬(a.has r k∧b.has r k)
 | [],_,_,_,_,aM=>by simp at aM
 | b::l,ah,h,bd,c,aP=>by
  simp only [CT] at h
  split at h
  ·rename_i x y o R
   simp only [Option.some.injEq] at h;subst h
   rcases List.mem_cons.1 aP with rfl|aP
   ·exact Vv o fun p ak=>bd p (by simp [ak])
   ·exact MJ R (fun p ak=>bd p (by simp [ak])) c aP
  ·simp at h
theorem M9 : ∀ {l:List Src} {ah:List Prop},C7 l=some ah→(∀p∈ah,p)→zF l
 | [],_,_,_=>List.Pairwise.nil
 | a::l,ah,h,bd=>by
  simp only [C7] at h
  split at h
  ·rename_i x y o R
   simp only [Option.some.injEq] at h;subst h
   exact List.pairwise_cons.2 ⟨MJ o fun p ak=>bd p (by simp [ak]),M9 R fun p ak=>bd p (by simp [ak])⟩
  ·simp at h
theorem sH {l:List Src}{j i r k:Nat}:kE l j i=some (r,k)↔ ∃a,l[j]? = some a∧a.has r k∧i=a.lH k:=by
 unfold kE
 cases h:l[j]? with
 | none=>simp
 | some a =>
  cases a with
  | row r0 =>
   simp only [Option.some.injEq,Prod.mk.injEq,exists_eq_left',Src.has,Src.lH]
   constructor<;>rintro ⟨a,b⟩<;>exact ⟨a.symm,b⟩
  | ah r0 iq I =>
   simp only [Option.some.injEq,exists_eq_left',Src.has,Src.lH]
   by_cases e:i=0
   ·rw [if_pos e];simp only [Option.some.injEq,Prod.mk.injEq,e,and_true];constructor<;>rintro ⟨a,b⟩<;>exact ⟨a.symm,b.symm⟩
   ·rw [if_neg e];simp [e]
theorem tQ : ∀ {l:List Src} {n r k j i:Nat},iz n l r k=some (j,i)→ ∃a,n≤j∧l[j-n]? = some a∧a.has r k∧i=a.lH k
 | [],_,_,_,_,_,h=>by simp [iz] at h
 | .row r0::l,n,r,k,j,i,h=>by
  simp only [iz] at h
  split at h
  ·rename_i e
   simp only [Option.some.injEq,Prod.mk.injEq] at h
   obtain ⟨rfl,rfl⟩:=h
   exact ⟨.row r0,Nat.le_refl _,by simp,e,rfl⟩
  ·obtain ⟨a,o,R,ae,ay⟩:=tQ h
   exact ⟨a,by omega,by rw [show j-n=(j-(n+1))+1 by omega,List.getElem?_cons_succ];exact R,ae,ay⟩
 | .ah r0 iq I::l,n,r,k,j,i,h=>by
  simp only [iz] at h
  split at h
  ·rename_i e
   simp only [Option.some.injEq,Prod.mk.injEq] at h
   obtain ⟨rfl,rfl⟩:=h
   exact ⟨.ah r0 iq I,Nat.le_refl _,by simp,e,rfl⟩
  ·obtain ⟨a,o,R,ae,ay⟩:=tQ h
   exact ⟨a,by omega,by rw [show j-n=(j-(n+1))+1 by omega,List.getElem?_cons_succ];exact R,ae,ay⟩
theorem q5 (n:Nat)(a:Src)(l:List Src)(r k:Nat)(h:¬a.has r k):iz n (a::l) r k=iz (n+1) l r k:=by
 cases a<;>simp only [iz,Src.has] at h ⊢ <;> rw [if_neg h]
theorem Vw (n:Nat)(a:Src)(l:List Src)(r k:Nat)(h:a.has r k):iz n (a::l) r k=some (n,a.lH k):=by
 cases a<;>simp only [iz,Src.has,Src.lH] at h ⊢ <;> rw [if_pos h]
theorem y4 : ∀ {l:List Src} {n r k j:Nat} {a:Src},zF l→l[j]? = some a→a.has r k→iz n l r k=some (n+j,a.lH k)
 | b::l,n,r,k,0,a,_,h,bA=>by
  simp at h;subst h
  exact Vw n b l r k bA
 | b::l,n,r,k,j+1,a,ba,h,bA=>by
  simp at h
  have ba:=List.pairwise_cons.1 ba
  rw [q5 n b l r k fun aM=>ba.1 a (List.mem_of_getElem? h) r k ⟨aM,bA⟩,y4 (j:=j) ba.2 h bA]
  congr 2;omega
theorem W4 {a:Src}{r k d5 dl:Nat}(h:a.has r k)(cj:a.has d5 dl)(e:a.lH k=a.lH dl):r=d5∧k=dl:=by
 cases a<;>simp only [Src.has,Src.lH] at h cj e<;>omega
theorem Wk {l:List Src}{n r k d5 dl:Nat}{p:Nat×Nat}(h:iz n l r k=some p)(cj:iz n l d5 dl=some p):r=d5∧k=dl:=by
 obtain ⟨j,i⟩:=p
 obtain ⟨a,o,R,ae,ay⟩:=tQ h
 obtain ⟨dp,xg,Jk,Zd,acw⟩:=tQ cj
 rw [R] at Jk;simp at Jk;subst Jk
 exact W4 ae Zd (by omega)
theorem Hq : ∀ {l:List Src} {n r j:Nat},oj n l r=some j→n≤j∧l[j-n]? = some (.row r)
 | [],_,_,_,h=>by simp [oj] at h
 | .row r0::l,n,r,j,h=>by
  simp only [oj] at h
  split at h
  ·rename_i e;simp at h;subst h;subst e;exact ⟨Nat.le_refl _,by simp⟩
  ·obtain ⟨o,R⟩:=Hq h
   exact ⟨by omega,by rw [show j-n=(j-(n+1))+1 by omega,List.getElem?_cons_succ];exact R⟩
 | .ah r0 iq I::l,n,r,j,h=>by
  simp only [oj] at h
  obtain ⟨o,R⟩:=Hq h
  exact ⟨by omega,by rw [show j-n=(j-(n+1))+1 by omega,List.getElem?_cons_succ];exact R⟩
theorem MK : ∀ {l:List Src} {n r:Nat},oj n l r=none→Src.row r ∉ l
 | [],_,_,_=>by simp
 | .row r0::l,n,r,h=>by
  simp only [oj] at h
  split at h
  ·simp at h
  ·rename_i e
   simp only [List.mem_cons,Src.row.injEq,not_or]
   exact ⟨fun h=>e h.symm,MK h⟩
 | .ah r0 iq I::l,n,r,h=>by
  simp only [oj] at h
  simp only [List.mem_cons,reduceCtorEq,false_or]
  exact MK h
def lc (aR:Nat→Option (List al))(b5:Nat→Option Nat)(aL:fX):List Src→List hI→Option (List (List al)×List Prop)
 | [],[]=>some ([],[])
 | .row r::l,c::cq=>match aR r with
  | some row=>match ie aR b5 aL rX c row,lc aR b5 aL l cq with
   | some (dv,bY),some (T,a9)=>some (dv::T,bY++a9)
   | _,_=>none
  | none=>none
 | .ah r k I::l,c::cq=>match aR r with
  | some row=>match ie aR b5 aL rX c [I],lc aR b5 aL l cq with
   | some (dv,bY),some (T,a9)=>some (dv::T,(c0 (some row) k=some I)::(bY++a9))
   | _,_=>none
  | none=>none
 | _,_=>none
def j0 (uO:Nat→Option (List al))(b5:Nat→Option Nat)(jF:fX):(Nat→Option (List al))→List Src→List hI→List (List al)→Option (List (Nat×List al)×List Prop)
 | _,[],[],[]=>some ([],[])
 | aR,.row q::l,c::cq,row::T=>match ie uO b5 jF jL c row with
  | some (dv,bY)=>match j0 uO b5 jF (fun x=>if x=q then some dv else aR x) l cq T with
   | some (u,a9)=>some ((q,dv)::u,bY++a9)
   | none=>none
  | none=>none
 | aR,.ah q k _::l,c::cq,row::T=>match aR q with
  | some kC=>match ie uO b5 jF jL c row with
   | some ([bX],bY)=>match j0 uO b5 jF (fun x=>if x=q then some (kC.set k bX) else aR x) l cq T with
    | some (u,a9)=>some ((q,kC.set k bX)::u,bY++a9)
    | none=>none
   | _=>none
  | none=>none
 | _,_,_,_=>none
def sc (T:List (List al)):Prop:= ∀row∈T,∀I∈row,∀e∈I.es,∀x∈e,cm x
def wX (P:Program)(aR:Nat→Option (List al))(aQ:Nat)(f:FuncId)(args:List aw)(ca:Az):Option hj :=
 let l:=if ca.dh.length=ca.aL.length then ca.aL else ca.aL++[.row aQ]
 match C7 ca.aL with
 | none=>none
 | some kp =>
  if ca.aL.any (fun a=>decide (a.r=aQ)) then none else
  if ca.dB then
   match ca.aL with
   | [] =>
    match kz (mN aR (fun _=>none) (kE []) lf) ca.ac args,mN (fun j=>ca.dh[j]?) (rY l) (iz 0 l) jL ca.ez ca.r,
     j0 (fun j=>ca.dh[j]?) (rY l) (iz 0 l) aR l ca.e5 ca.dh with
    | some (pQ,bY),some (d5,gG),some (u,fA)=>some {val:=d5,fh:=u,e1:=bY++gG++fA++[Con P f pQ [] ca.r ca.dh,cm ca.r]++(if ca.dh.isEmpty then [] else [sc ca.dh])}
    | _,_,_=>none
   | _=>none
  else
   match kz (mN aR (oj 0 ca.aL) (kE ca.aL) rX) ca.ac args,lc aR (oj 0 ca.aL) (kE ca.aL) ca.aL ca.cq,
    mN (fun j=>ca.dh[j]?) (rY l) (iz 0 l) jL ca.ez ca.r,j0 (fun j=>ca.dh[j]?) (rY l) (iz 0 l) aR l ca.e5 ca.dh with
   | some (pQ,bY),some (T,a9),some (d5,gG),some (u,fA) =>
    some {val:=d5,fh:=u,e1:=kp++bY++a9++gG++fA++[Con P f pQ T ca.r ca.dh]}
   | _,_,_,_=>none
theorem Mk {aR:Nat→Option (List al)}{b5:Nat→Option Nat}{aL:fX}{bL:fE→Bool}{c:hI}{row dv:List al}{ah:List Prop}(h:ie aR b5 aL bL c row=some (dv,ah))(bd:∀p∈ah,p):
 ∀k I,c0 (some row) k=some I→I.cg = .live:=by
 have pU : ∀k I,c0 (some row) k=some I→I∈row∧I.cg≠ .gone:=by
  intro k I aj
  rw [jo] at aj
  cases aU:row[k]? with
  | none=>rw [aU] at aj;simp at aj
  | some p =>
   rw [aU,Option.bind_some] at aj
   split at aj
   ·simp at aj
   ·rename_i e;simp at aj;subst aj;exact ⟨List.mem_of_getElem? aU,e⟩
 intro k I aj
 obtain ⟨o,R⟩:=pU k I aj
 cases c with
 | pure =>
  simp only [ie,Option.some.injEq,Prod.mk.injEq] at h
  obtain ⟨rfl,rfl⟩:=h
  exact ((bd _ (List.mem_singleton.2 rfl):sD row) I o).2
 | dL aH =>
  simp only [ie,Option.some.injEq,Prod.mk.injEq] at h
  obtain ⟨rfl,rfl⟩:=h
  have e:row=aH:=bd _ (by simp)
  have ak:sD aH:=bd _ (by simp)
  exact (ak I (e▸o)).2
 | bz aH =>
  simp only [ie,Option.some.injEq,Prod.mk.injEq] at h
  obtain ⟨rfl,rfl⟩:=h
  have ak:n7 row:=bd _ (by simp)
  exact (ak I o).resolve_right R
 | rx aH=>cases row with
  | nil=>simp [ie] at h
  | cons I l=>cases l<;>simp [ie] at h
 | drop=>cases row with
  | nil=>simp [ie] at h
  | cons I l=>cases l<;>simp [ie] at h
 | box l =>
  match row,h,o with
  | [p],h,o =>
   simp only [ie] at h
   rw [List.mem_singleton] at o;subst o
   split at h
   ·split at h
    ·rename_i e;exact e
    ·simp at h
   ·simp at h
  | [],h,_=>simp [ie] at h
  | _::_::_,h,_=>simp [ie] at h
section
variable {P:Program} {g:G} {s:S} {av:eS} {a:Act} {w:World}
theorem Hr (dd:hi g s av w){aL:fX}{b5:Nat→Option Nat}(H:lJ s aL b5 rX): ∀(l:List Src) (cq:List hI) (T:List (List al)) (ah:List Prop),
 lc s.aR b5 aL l cq=some (T,ah)→(∀p∈ah,p)→T.length=l.length∧ ∀(j:Nat) dv b,T[j]? = some dv→l[j]? = some b →
  (∀r k I,b.has r k→s.ah r k=some I→I.cg = .live)∧(∀r k,b.has r k→s.aV r k→b.lH k<dv.length) ∧
  (∀r k I,b = .ah r k I→s.ah r k=some I) ∧
  ∀(i:Nat) bX,c0 (some dv) i=some bX→ ∃r k I,b.has r k∧i=b.lH k∧s.ah r k=some I∧nD s aL rX kT I bX
 | [],[],T,ah,h,_=>by
  simp [lc] at h;obtain ⟨rfl,rfl⟩:=h
  exact ⟨rfl,fun j dv r aC=>by simp at aC⟩
 | .row r::l,c::cq,T,ah,h,bd=>by
  simp only [lc] at h
  split at h
  ·rename_i row c8
   split at h
   ·rename_i ab bY mf a9 o R
    simp only [Option.some.injEq,Prod.mk.injEq] at h
    obtain ⟨rfl,rfl⟩:=h
    obtain ⟨ax,aF⟩:=Hr dd H l cq mf a9 R (fun p ak=>bd p (by simp [ak]))
    have jj : ∀k,s.ah r k=c0 (some row) k:=fun k=>by unfold S.ah;rw [c8]
    obtain ⟨f0,f1,f2⟩:=Cq (q:=kT) (ja:=id) dd H (s6 _) (fun k I aj=>(jj k).trans aj) o (fun p ak=>bd p (by simp [ak])) (fun _ _ _ _ _ _ _=>trivial)
    refine ⟨by simp [ax],fun j dv b aC aM=> ?_⟩
    cases j with
    | zero =>
     simp at aC aM;subst aC;subst aM
     refine ⟨fun q k I a8 aj=> ?_,fun q k a8 hu=> ?_,fun _ _ _ e=>by simp at e,fun i bX dn=> ?_⟩
     ·have a8:q=r:=a8
      subst a8;rw [jj] at aj;exact f1 k I aj
     ·have a8:q=r:=a8
      subst a8;rw [f0];simpa [S.aV,c8,Src.lH] using hu
     ·obtain ⟨I,g1,g2⟩:=f2 i bX dn
      exact ⟨r,i,I,rfl,rfl,(jj i).trans g1,g2⟩
    | succ j=>simp at aC aM;exact aF j dv b aC aM
   ·simp at h
  ·simp at h
 | .ah r iq kp::l,c::cq,T,ah,h,bd=>by
  simp only [lc] at h
  split at h
  ·rename_i row c8
   split at h
   ·rename_i ab bY mf a9 o R
    simp only [Option.some.injEq,Prod.mk.injEq] at h
    obtain ⟨rfl,rfl⟩:=h
    obtain ⟨ax,aF⟩:=Hr dd H l cq mf a9 R (fun p ak=>bd p (by simp [ak]))
    have aj:s.ah r iq=some kp:=by unfold S.ah;rw [c8];exact bd _ (by simp)
    have kO : ∀k I,c0 (some [kp]) k=some I→k=0∧I=kp:=fun k I aU=>by
     rw [k8] at aU;split at aU
     ·rename_i e;simp at aU;exact ⟨e.1,aU.symm⟩
     ·simp at aU
    have Jl:kp.cg≠ .gone:=by
     unfold S.ah at aj;rw [c8,jo] at aj
     cases aU:row[iq]? with
     | none=>rw [aU] at aj;simp at aj
     | some p =>
      rw [aU,Option.bind_some] at aj;split at aj
      ·simp at aj
      ·rename_i e;simp at aj;subst aj;exact e
    obtain ⟨f0,f1,f2⟩:=Cq (q:=kT) (ja:=fun _=>iq) (r:=r) dd H (s6 _) (fun k I aU=>by rw [(kO k I aU).2];exact aj) o (fun p ak=>bd p (by simp [ak])) (fun _ _ _ _ _ _ _=>trivial)
    refine ⟨by simp [ax],fun j dv b aC aM=> ?_⟩
    cases j with
    | zero =>
     simp at aC aM;subst aC;subst aM
     refine ⟨fun q k I a8 pi=> ?_,fun q k a8 hu=> ?_,fun d5 dl bX e=> ?_,fun i bX dn=> ?_⟩
     ·obtain ⟨rfl,rfl⟩:q=r∧k=iq:=a8
      rw [aj] at pi;simp at pi;subst pi
      exact f1 0 kp (by rw [k8];simp [Jl])
     ·rw [f0];simp [Src.lH]
     ·cases e;exact aj
     ·obtain ⟨I,g1,g2⟩:=f2 i bX dn
      obtain ⟨rfl,rfl⟩:=kO i I g1
      exact ⟨r,iq,I,⟨rfl,rfl⟩,rfl,aj,g2⟩
    | succ j=>simp at aC aM;exact aF j dv b aC aM
   ·simp at h
  ·simp at h
 | [],_::_,_,_,h,_=>by simp [lc] at h
 | .row _::_,[],_,_,h,_=>by simp [lc] at h
 | .ah .. :: _,[],_,_,h,_=>by simp [lc] at h
theorem Hi {fs:G}{s1:S}{jW:eS}{bx:World}(dd:hi fs s1 jW bx){jF:fX}{q:aw→Prop}{b5:Nat→Option Nat}(H:lJ s1 jF b5 jL)(ba:sr q jL)
 (a8 : ∀j i I,s1.ah j i=some I→ ∀e∈I.es,∀x∈e,q x) :
 ∀(l:List Src) (cq:List hI) (T:List (List al)) (u:List (Nat×List al)) (ah:List Prop) (n:Nat) (s:S),zF l→(∀j row,T[j]? = some row→s1.aR (n+j)=some row) →
 (∀r k j i,iz n l r k=some (j,i)→s.aV r k→s1.aV j i)→(∀r k I,Src.ah r k I∈l→s.aV r k) →
 j0 s1.aR b5 jF s.aR l cq T=some (u,ah)→(∀p∈ah,p)→T.length=l.length∧(s.ha u).E=s.E ∧
  (∀r k I,(s.ha u).ah r k=some I→(∃j i p,iz n l r k=some (j,i)∧s1.ah j i=some p∧nD s1 jF jL q p I)∨(iz n l r k=none∧s.ah r k=some I)) ∧
  (∀r k,s.aV r k→(s.ha u).aV r k)∧(∀r k j i,iz n l r k=some (j,i)→s1.aV j i→(s.ha u).aV r k)
 | [],[],[],u,ah,n,s,_,_,_,_,h,_=>by
  simp [j0] at h;obtain ⟨rfl,rfl⟩:=h
  exact ⟨rfl,rfl,fun r k I aj=> .inr ⟨rfl,aj⟩,fun r k h=>h,fun r k j i h=>by simp [iz] at h⟩
 | .row q0::l,c::cq,row::T,u,ah,n,s,rr,iC,hu,qE,h,bd=>by
  simp only [j0] at h
  split at h
  ·rename_i dv bY o
   split at h
   ·rename_i lI a9 R
    simp only [Option.some.injEq,Prod.mk.injEq] at h
    obtain ⟨rfl,rfl⟩:=h
    have z6:=List.pairwise_cons.1 rr
    have hR:s1.aR n=some row:=iC 0 row rfl
    have ui : ∀k,s1.ah n k=c0 (some row) k:=fun k=>by unfold S.ah;rw [hR]
    obtain ⟨f0,f1,f2⟩:=Cq (q:=q) (ja:=id) (r:=n) dd H ba (fun k I aj=>(ui k).trans aj) o (fun p ak=>bd p (by simp [ak])) (fun k I aj=>a8 n k I ((ui k).trans aj))
    have gu : ∀k j i,iz (n+1) l q0 k≠some (j,i):=fun k j i hm=>by
     obtain ⟨b,hd,fW,pv,Km⟩:=tQ hm
     exact z6.1 b (List.mem_of_getElem? fW) q0 k ⟨rfl,pv⟩
    have w5 : ∀r k,s.aV r k→(s.setRow q0 dv).aV r k:=fun r k aU=>by
     rw [mn]
     by_cases e:r=q0
     ·subst e;rw [if_pos rfl,f0]
      have:=hu r k n k (by simp [iz]) aU
      simpa [S.aV,hR] using this
     ·rw [if_neg e];exact aU
    obtain ⟨ax,aF,b4,dy,ea⟩:=Hi dd H ba a8 l cq T lI a9 (n+1) (s.setRow q0 dv) z6.2 (fun j row aC=>by rw [Nat.add_assoc,Nat.add_comm 1 j];exact iC (j+1) row (by simpa using aC))
     (fun r k j i hm aU=>by
       have cF:r≠q0:=by rintro rfl;exact gu _ _ _ hm
       refine hu r k j i ?_ (by rw [mn,if_neg cF] at aU;exact aU)
       rw [q5 n (.row q0) l r k cF];exact hm)
     (fun r k I hm=>w5 r k (qE r k I (by simp [hm]))) R (fun p ak=>bd p (by simp [ak]))
    refine ⟨by simp [ax],aF,fun r k I aj=> ?_,fun r k aU=>dy r k (w5 r k aU),fun r k j i hm aU=> ?_⟩
    ·rcases b4 r k I aj with ⟨j,i,p,hd,fW,pv⟩|⟨hd,fW⟩
     ·have cF:r≠q0:=by rintro rfl;exact gu _ _ _ hd
      exact .inl ⟨j,i,p,by rw [q5 n (.row q0) l r k cF];exact hd,fW,pv⟩
     ·rw [kw] at fW
      by_cases e:r=q0
      ·subst e
       rw [if_pos rfl] at fW
       obtain ⟨p,g1,g2⟩:=f2 k I fW
       exact .inl ⟨n,k,p,by simp [iz],(ui k).trans g1,g2⟩
      ·rw [if_neg e] at fW
       exact .inr ⟨by rw [q5 n (.row q0) l r k e];exact hd,fW⟩
    ·by_cases e:r=q0
     ·subst e
      simp only [iz,if_true] at hm
      simp only [Option.some.injEq,Prod.mk.injEq] at hm
      obtain ⟨rfl,rfl⟩:=hm
      refine dy r k ?_
      rw [mn,if_pos rfl,f0]
      simpa [S.aV,hR] using aU
     ·rw [q5 n (.row q0) l r k e] at hm
      exact ea r k j i hm aU
   ·simp at h
  ·simp at h
 | .ah q0 iq kp::l,c::cq,row::T,u,ah,n,s,rr,iC,hu,qE,h,bd=>by
  simp only [j0] at h
  split at h
  ·rename_i kC Dj
   split at h
   ·rename_i bX bY o
    split at h
    ·rename_i lI a9 R
     simp only [Option.some.injEq,Prod.mk.injEq] at h
     obtain ⟨rfl,rfl⟩:=h
     have z6:=List.pairwise_cons.1 rr
     have hR:s1.aR n=some row:=iC 0 row rfl
     have ui : ∀k,s1.ah n k=c0 (some row) k:=fun k=>by unfold S.ah;rw [hR]
     obtain ⟨f0,f1,f2⟩:=Cq (q:=q) (ja:=id) (r:=n) dd H ba (fun k I aj=>(ui k).trans aj) o (fun p ak=>bd p (by simp [ak])) (fun k I aj=>a8 n k I ((ui k).trans aj))
     have gu : ∀j i,iz (n+1) l q0 iq≠some (j,i):=fun j i hm=>by
      obtain ⟨b,hd,fW,pv,Km⟩:=tQ hm
      exact z6.1 b (List.mem_of_getElem? fW) q0 iq ⟨⟨rfl,rfl⟩,pv⟩
     have w5 : ∀r k,s.aV r k→(s.setRow q0 (kC.set iq bX)).aV r k:=BZ s Dj (by simp)
     have sb:iq<kC.length:=by have:=qE q0 iq kp (by simp);simpa [S.aV,Dj] using this
     obtain ⟨ax,aF,b4,dy,ea⟩:=Hi dd H ba a8 l cq T lI a9 (n+1) (s.setRow q0 (kC.set iq bX)) z6.2 (fun j row aC=>by rw [Nat.add_assoc,Nat.add_comm 1 j];exact iC (j+1) row (by simpa using aC))
      (fun r k j i hm aU=>by
        have cF : ¬(Src.ah q0 iq kp).has r k:=by rintro ⟨rfl,rfl⟩;exact gu _ _ hm
        refine hu r k j i (by rw [q5 n _ l r k cF];exact hm) ?_
        rw [mn] at aU
        split at aU
        ·rename_i e;subst e;simpa [S.aV,Dj] using aU
        ·exact aU)
      (fun r k I hm=>w5 r k (qE r k I (by simp [hm]))) R (fun p ak=>bd p (by simp [ak]))
     refine ⟨by simp [ax],aF,fun r k I aj=> ?_,fun r k aU=>dy r k (w5 r k aU),fun r k j i hm aU=> ?_⟩
     ·rcases b4 r k I aj with ⟨j,i,p,hd,fW,pv⟩|⟨hd,fW⟩
      ·have cF : ¬(Src.ah q0 iq kp).has r k:=by rintro ⟨rfl,rfl⟩;exact gu _ _ hd
       exact .inl ⟨j,i,p,by rw [q5 n _ l r k cF];exact hd,fW,pv⟩
      ·rw [kw] at fW
       by_cases e:r=q0
       ·subst e
        rw [if_pos rfl,jo,List.getElem?_set] at fW
        by_cases aF:iq=k
        ·subst aF
         rw [if_pos rfl,if_pos sb,Option.bind_some] at fW
         have pv:c0 (some [bX]) 0=some I:=by rw [jo];exact fW
         obtain ⟨p,g1,g2⟩:=f2 0 I pv
         exact .inl ⟨n,0,p,by simp [iz],(ui 0).trans g1,g2⟩
        ·rw [if_neg aF] at fW
         have cF : ¬(Src.ah r iq kp).has r k:=by rintro ⟨-,rfl⟩;exact aF rfl
         exact .inr ⟨by rw [q5 n _ l r k cF];exact hd,by unfold S.ah;rw [Dj,jo];exact fW⟩
       ·rw [if_neg e] at fW
        have cF : ¬(Src.ah q0 iq kp).has r k:=by rintro ⟨rfl,-⟩;exact e rfl
        exact .inr ⟨by rw [q5 n _ l r k cF];exact hd,fW⟩
     ·by_cases e:(Src.ah q0 iq kp).has r k
      ·obtain ⟨rfl,rfl⟩:=e
       exact dy r k (w5 r k (qE r k kp (by simp)))
      ·rw [q5 n _ l r k e] at hm
       exact ea r k j i hm aU
    ·simp at h
   ·simp at h
  ·simp at h
 | [],[],_::_,_,_,_,_,_,_,_,_,h,_=>by simp [j0] at h
 | [],_::_,_,_,_,_,_,_,_,_,_,h,_=>by simp [j0] at h
 | .row _::_,[],_,_,_,_,_,_,_,_,_,h,_=>by simp [j0] at h
 | .ah .. :: _,[],_,_,_,_,_,_,_,_,_,h,_=>by simp [j0] at h
 | .row _::_,_::_,[],_,_,_,_,_,_,_,_,h,_=>by simp [j0] at h
 | .ah .. :: _,_::_,[],_,_,_,_,_,_,_,_,h,_=>by simp [j0] at h
theorem Na (h:cE g s av a w){aQ:Nat}(et:s.aR aQ=none){f:FuncId}{args:List aw}{ca:Az}{l:List Src}(mA:l=if ca.dh.length=ca.aL.length then ca.aL else ca.aL++[.row aQ])
 (rr:zF ca.aL) (uw : ∀a∈ca.aL,a.r≠aQ) {bL:fE→Bool} {A:Nat→Prop} {q:aw→Prop} {T:List (List al)} {b5:Nat→Option Nat}
 (hA : ∀b,A b→b<w.heap.size) (Jh : ∀b,s.ok g av w b→A b) (Ji : ∀r k I b m,s.ah r k=some I→bL I.cg=true→av r k=some (b,m)→A b)
 (Ze:(∀b,A b→s.ok g av w b)∨(∀x,q x→cm x)) (ba:sr q jL) (DZ:lJ s (kE ca.aL) b5 bL)
 (cK:pj s (kE ca.aL) bL kT (ew T).aR) (o7 : ∀r k I,(∃j i,kE ca.aL j i=some (r,k))→s.ah r k=some I→I.cg = .live) (hex : ∀r k I,Src.ah r k I∈ca.aL→s.aV r k)
 {pQ:List aw} {bY:List Prop} (l4:kz (mN s.aR b5 (kE ca.aL) bL) ca.ac args=some (pQ,bY)) (qF : ∀p∈bY,p)
 {d5:aw} {gG:List Prop} (xc:mN (fun j=>ca.dh[j]?) (rY l) (iz 0 l) jL ca.ez ca.r=some (d5,gG)) (Jm : ∀p∈gG,p)
 {u:List (Nat×List al)} {fA:List Prop} (z7:j0 (fun j=>ca.dh[j]?) (rY l) (iz 0 l) s.aR l ca.e5 ca.dh=some (u,fA)) (Zf : ∀p∈fA,p)
 (w6:Con P f pQ T ca.r ca.dh) (Zg:q ca.r) (Zh : ∀j i I,(ew ca.dh).ah j i=some I→ ∀e∈I.es,∀x∈e,q x)
 {vs:List Value} (aG:vs.length=args.length) (hargs : ∀(j:Nat) x v,args[j]? = some x→vs[j]? = some v→Rel w (s.ok g av w) s.aV (s.a4 av) x v) :
 Cr P f∧Calls P f vs.toArray w fun e bx=> ∃v bC,e = .returned v∧cE g (s.ha u) bC a bx∧Rel bx ((s.ha u).ok g bC bx) (s.ha u).aV ((s.ha u).a4 bC) d5 v:=by
 have Jn:zF l:=by
  subst mA
  split
  ·exact rr
  ·refine List.pairwise_append.2 ⟨rr,List.pairwise_singleton _ _,fun b aM c aP r k eO=> ?_⟩
   rw [List.mem_singleton] at aP;subst aP
   have o:r=aQ:=eO.2
   subst o
   cases b with
   | row r0=>exact uw _ aM (Eq.symm eO.1)
   | ah r0 iq kp=>exact uw _ aM (Eq.symm eO.1.1)
 have PF : ∀(j:Nat) b,ca.aL[j]? = some b→l[j]? = some b:=by
  intro j b aC
  subst mA
  split
  ·exact aC
  ·rw [List.getElem?_append_left (ft aC)];exact aC
 have z8 : ∀(j:Nat) b,l[j]? = some b→ca.aL[j]? = some b∨b = .row aQ:=by
  intro j b aC
  subst mA
  split at aC
  ·exact .inl aC
  ·rw [List.getElem?_append] at aC
   split at aC
   ·exact .inl aC
   ·right
    have:=ft aC
    simp at this
    rw [show j-ca.aL.length=0 by omega] at aC
    simpa using aC.symm
 refine ⟨w6.1,?_⟩
 obtain ⟨fs,aW,bh,cf,Kn,cI,ee,fS,gx⟩:=enter h.tohi A hA Jh Ji cK o7
 obtain ⟨ax,aF,b4⟩:=Cp _ _ _ _ _ l4
 have:=w6.2 fs (iP av (kE ca.aL)) w vs.toArray aW cf Kn cI fS (by simp [aG,ax]) (by
  intro j cA v df aY
  have aC:j<args.length:=by have:=ft df;omega
  have aa:=List.getElem?_eq_getElem aC
  obtain ⟨c,bX,f1,f2,f3⟩:=b4 j _ cA aa df
  have zQ:vs[j]? = some v:=by simpa using aY
  exact gx (yH h.tohi DZ (s6 _) f2 (fun p ak=>qF p (f3 p ak)) trivial (hargs j _ v aa zQ)) (hargs j _ v aa zQ))
 refine this.mono fun e bx zO=> ?_
 obtain ⟨v,jW,rfl,xj,aY⟩:=zO
 have Qt:lJ (ew ca.dh) (iz 0 l) (rY l) jL:=by
  refine ⟨fun j r aC k=> ?_,fun _ _ _ _ _ bA=>by simp [jL] at bA⟩
  unfold rY at aC
  split at aC
  ·rename_i r0 kj
   simp at aC;subst aC
   have:=y4 (n:=0) (r:=r0) (k:=k) Jn kj rfl
   simpa [Src.lH] using this
  ·simp at aC
 have zc : ∀j i r k,kE ca.aL j i=some (r,k)→iz 0 l r k=some (j,i):=fun j i r k hm=>by
  obtain ⟨b,hd,fW,rfl⟩:=sH.1 hm
  have:=y4 (n:=0) Jn (PF j b hd) fW
  simpa using this
 have Dh : ∀r k j i,iz 0 l r k=some (j,i)→kE ca.aL j i=some (r,k)∨ ¬s.aV r k:=fun r k j i hm=>by
  obtain ⟨b,-,fW,pv,Km⟩:=tQ hm
  rcases z8 j b (by simpa using fW) with e|e
  ·exact .inl (sH.2 ⟨b,e,pv,Km⟩)
  ·subst e
   have:r=aQ:=pv
   subst this
   exact .inr (vU et k)
 obtain ⟨i2,lI,gg,aaG,aaH⟩:=Hi (s1:=ew ca.dh) xj Qt ba Zh l ca.e5 ca.dh u fA 0 s Jn (fun j row aC=>by simpa [ew] using aC)
  (fun r k j i hm aU=>by
    rcases Dh r k j i hm with e|e
    ·exact (xj.stay j i (by rw [Kn];exact cK.aV _ _ _ _ e aU)).1
    ·exact absurd aU e)
  (fun r k I hm=>by
    obtain ⟨j,aC⟩:=List.getElem?_of_mem hm
    rcases z8 j _ aC with e|e
    ·exact hex r k I (List.mem_of_getElem? e)
    ·cases e) z7 Zf
 obtain ⟨ko,f1,f2⟩:=leave (q0:=kT) (q:=q) h aW (by rw [bh];exact Ze) Kn cI ee o7 cK xj zc Dh (fun r k d5 dl p=>Wk) (s2:=s.ha u) lI gg aaG aaH
  (yH xj Qt ba xc Jm Zg aY) aY
 exact ⟨v,ko,rfl,f1,f2⟩
theorem TS (h:cE g s av a w){aQ:Nat}(et:s.aR aQ=none){f:FuncId}{args:List aw}{ca:Az}{bn:hj}(ar:wX P s.aR aQ f args ca=some bn)(cp:∀p∈bn.e1,p)
 {vs:List Value} (aG:vs.length=args.length) (hargs : ∀(j:Nat) x v,args[j]? = some x→vs[j]? = some v→Rel w (s.ok g av w) s.aV (s.a4 av) x v) :
 Cr P f∧Calls P f vs.toArray w fun e bx=> ∃v bC,e = .returned v∧cE g (s.ha bn.fh) bC a bx∧Rel bx ((s.ha bn.fh).ok g bC bx) (s.ha bn.fh).aV ((s.ha bn.fh).a4 bC) bn.val v:=by
 unfold wX at ar
 simp only at ar
 generalize mA:(if ca.dh.length=ca.aL.length then ca.aL else ca.aL++[.row aQ])=l at ar
 split at ar
 ·simp at ar
 ·rename_i kp p1
  split at ar
  ·simp at ar
  ·rename_i Yr
   have uw : ∀a∈ca.aL,a.r≠aQ:=fun b aM e=>Yr (List.any_eq_true.2 ⟨b,aM,by simpa using e⟩)
   split at ar
   ·
    split at ar
    ·rename_i s7
     split at ar
     ·rename_i pQ bY d5 gG u fA l4 xc z7
      simp only [Option.some.injEq] at ar
      subst ar
      have w6:Con P f pQ [] ca.r ca.dh:=cp _ (by simp)
      have z9:cm ca.r:=cp _ (by simp)
      have Ys:sc ca.dh:=by
       by_cases e:ca.dh=[]
       ·rw [e];intro row c8;simp at c8
       ·exact cp _ (by
         have:ca.dh.isEmpty=false:=by simpa [List.isEmpty_iff] using e
         simp [this])
      refine Na (bL:=lf) (A:=fun b=>b<w.heap.size) (q:=cm) (T:=[]) (b5:=fun _=>none) h et mA.symm (by rw [s7];exact List.Pairwise.nil) uw (fun _ aM=>aM) (fun b aM=>aM.1)
       (fun r k I b m aj _ ak=>y2 h.tohi aj ak) (.inr fun _ aa=>aa) Za ?_ ?_ ?_ ?_ (by rw [s7];exact l4) (fun p ak=>cp p (by simp [ak])) xc (fun p ak=>cp p (by simp [ak])) z7 (fun p ak=>cp p (by simp [ak])) w6 z9 ?_ aG hargs
      ·refine ⟨fun _ _ e=>by simp at e,fun r _ k I _ _ j i e=> ?_⟩
       rw [s7] at e;simp [kE] at e
      ·refine ⟨fun j i g7 eI p e=> ?_,fun j i bX e=> ?_,fun j i r k e=> ?_⟩
       ·rw [s7] at e;simp [kE] at e
       ·simp [ew,c0] at e
       ·rw [s7] at e;simp [kE] at e
      ·rintro r k I ⟨j,i,e⟩
       rw [s7] at e;simp [kE] at e
      ·rintro r k I e
       rw [s7] at e;simp at e
      ·intro j i I aj e he x aa
       have aj:c0 (ca.dh[j]?) i=some I:=aj
       cases an:ca.dh[j]? with
       | none=>rw [an] at aj;simp [c0] at aj
       | some row =>
        rw [an,jo] at aj
        cases aU:row[i]? with
        | none=>rw [aU] at aj;simp at aj
        | some p =>
         rw [aU,Option.bind_some] at aj
         split at aj
         ·simp at aj
         ·simp at aj;subst aj
          exact Ys row (List.mem_of_getElem? an) p (List.mem_of_getElem? aU) e he x aa
     ·simp at ar
    ·simp at ar
   ·split at ar
    ·rename_i pQ bY T a9 d5 gG u fA l4 xb xc z7
     simp only [Option.some.injEq] at ar
     subst ar
     have rr:=M9 p1 fun p ak=>cp p (by simp [ak])
     have w6:Con P f pQ T ca.r ca.dh:=cp _ (by simp)
     have af : ∀r j,oj 0 ca.aL r=some j→ ∀k,kE ca.aL j k=some (r,k):=fun r j aC k=>by
      obtain ⟨-,R⟩:=Hq aC
      simp only [kE,show ca.aL[j]? = some (.row r) by simpa using R]
     have Jj : ∀(l:List Src) (cq:List hI) (T:List (List al)) (ah:List Prop),lc s.aR (oj 0 ca.aL) (kE ca.aL) l cq=some (T,ah)→(∀p∈ah,p) →
      ∀b∈l,∀r k I,b.has r k→s.ah r k=some I→I.cg≠ .ix:=by
      intro l
      induction l with
      | nil=>intro _ _ _ _ _ b aM;simp at aM
      | cons b l ih =>
       intro cq T ah h0 bd c aP r k I eO aj
       cases cq with
       | nil=>cases b<;>simp [lc] at h0
       | cons cu cq =>
        cases b with
        | row r0 =>
         simp only [lc] at h0
         split at h0
         ·rename_i row c8
          split at h0
          ·rename_i ab gK mf h7 o R
           simp only [Option.some.injEq,Prod.mk.injEq] at h0
           obtain ⟨rfl,rfl⟩:=h0
           rcases List.mem_cons.1 aP with rfl|aP
           ·have e:r=r0:=eO
            subst e
            have dn:c0 (some row) k=some I:=by unfold S.ah at aj;rw [c8] at aj;exact aj
            have:=Mk o (fun p ak=>bd p (by simp [ak])) k I dn
            rw [this];simp
           ·exact ih cq mf h7 R (fun p ak=>bd p (by simp [ak])) c aP r k I eO aj
          ·simp at h0
         ·simp at h0
        | ah r0 iq kp =>
         simp only [lc] at h0
         split at h0
         ·rename_i row c8
          split at h0
          ·rename_i ab gK mf h7 o R
           simp only [Option.some.injEq,Prod.mk.injEq] at h0
           obtain ⟨rfl,rfl⟩:=h0
           rcases List.mem_cons.1 aP with rfl|aP
           ·obtain ⟨rfl,rfl⟩:=eO
            have qF:c0 (some row) k=some kp:=bd _ (by simp)
            have dn:c0 (some row) k=some I:=by unfold S.ah at aj;rw [c8] at aj;exact aj
            rw [qF] at dn;simp at dn;subst dn
            have Jl:kp.cg≠ .gone:=by
             rw [jo] at qF
             cases aU:row[k]? with
             | none=>rw [aU] at qF;simp at qF
             | some p =>
              rw [aU,Option.bind_some] at qF;split at qF
              ·simp at qF
              ·rename_i e;simp at qF;subst qF;exact e
            have:=Mk o (fun p ak=>bd p (by simp [ak])) 0 kp (by rw [k8];simp [Jl])
            rw [this];simp
           ·exact ih cq mf h7 R (fun p ak=>bd p (by simp [ak])) c aP r k I eO aj
          ·simp at h0
         ·simp at h0
     have DZ:lJ s (kE ca.aL) (oj 0 ca.aL) rX:=by
      refine ⟨af,fun r an k I aj bA j i hm=> ?_⟩
      obtain ⟨b,hd,fW,-⟩:=sH.1 hm
      exact Jj ca.aL ca.cq T a9 xb (fun p ak=>cp p (by simp [ak])) b (List.mem_of_getElem? hd) r k I fW aj (by simpa [rX] using bA)
     obtain ⟨t1,t2⟩:=Hr h.tohi DZ ca.aL ca.cq T a9 xb (fun p ak=>cp p (by simp [ak]))
     have kS : ∀j b,ca.aL[j]? = some b→ ∃dv,T[j]? = some dv:=fun j b aC=>by
      have:j<T.length:=by have:=ft aC;omega
      exact ⟨_,List.getElem?_eq_getElem this⟩
     refine Na (bL:=rX) (A:=s.ok g av w) (q:=kT) (T:=T) h et mA.symm rr uw (fun b aM=>aM.1) (fun b aM=>aM)
      (fun r k I b m aj aU ak=>W2 h.tohi aj (by simpa [rX] using aU) ak) (.inl fun _ aM=>aM) (s6 _) DZ ?_ ?_ ?_ l4 (fun p ak=>cp p (by simp [ak])) xc (fun p ak=>cp p (by simp [ak])) z7
      (fun p ak=>cp p (by simp [ak])) w6 trivial (fun _ _ _ _ _ _ _ _=>trivial) aG hargs
     ·refine ⟨fun j i g7 eI p e d9=> ?_,fun j i bX dn=> ?_,fun j i r k e hu=> ?_⟩
      ·obtain ⟨r,k⟩:=p
       obtain ⟨b,hd,fW,rfl⟩:=sH.1 e
       obtain ⟨jm,Zi,Zj,rfl⟩:=sH.1 d9
       have ax:=y4 (n:=0) rr hd fW
       have aF:=y4 (n:=0) rr Zi Zj
       rw [ax] at aF
       simpa using aF
      ·have aC:j<T.length:=by
        rcases Nat.lt_or_ge j T.length with e|e
        ·exact e
        ·have:(ew T).aR j=none:=List.getElem?_eq_none e
         rw [this] at dn;simp [c0] at dn
       have PG:T[j]? = some T[j]:=List.getElem?_eq_getElem aC
       have PH:ca.aL[j]? = some (ca.aL[j]'(by omega)):=List.getElem?_eq_getElem (by omega)
       have pi:c0 (some T[j]) i=some bX:=by have:(ew T).aR j=some T[j]:=PG;rw [this] at dn;exact dn
       obtain ⟨r,k,I,gM,jn,aaI,aaJ⟩:=(t2 j _ _ PG PH).2.2.2 i bX pi
       exact ⟨r,k,I,sH.2 ⟨_,PH,gM,jn⟩,aaI,aaJ⟩
      ·obtain ⟨b,hd,fW,rfl⟩:=sH.1 e
       obtain ⟨dv,q9⟩:=kS j b hd
       have:=(t2 j dv b q9 hd).2.1 r k fW hu
       show b.lH k<((T[j]?).getD []).length
       rw [q9];exact this
     ·rintro r k I ⟨j,i,e⟩ aj
      obtain ⟨b,hd,fW,-⟩:=sH.1 e
      obtain ⟨dv,q9⟩:=kS j b hd
      exact (t2 j dv b q9 hd).1 r k I fW aj
     ·intro r k I hm
      obtain ⟨j,aC⟩:=List.getElem?_of_mem hm
      obtain ⟨dv,q9⟩:=kS j _ aC
      exact Co ((t2 j dv _ q9 aC).2.2.1 r k I rfl)
    ·simp at ar
end
end Go.VL
