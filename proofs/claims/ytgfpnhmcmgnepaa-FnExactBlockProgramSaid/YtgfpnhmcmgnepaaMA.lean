/- Lemmas, plain functions of the program, and what they answer. No condition. -/
import Derived.Below
import Derived.Eval
import Derived.KernelRfl
import Derived.Laws.Append
import Derived.Laws.AppendOwn
import Derived.Laws.BytesString
import Derived.Laws.Cells
import Derived.Laws.CopyRow
import Derived.Laws.Entries
import Derived.Laws.MakeOwn
import Derived.Laws.OwnMore
import Derived.Laws.Rows
import Derived.Laws.Slices
import Derived.Laws.Tables
import Derived.Orders
namespace Go.VL
set_option linter.unusedVariables false
set_option linter.unusedSimpArgs false
open Go
inductive aj where
 | dead
 | b (x:Bool)
 | n (k:IntKind) (x:Int)
 | s (x:ByteArray)
 | fX
 | cv
 | gb
 | ref (r k i off:Nat)
 | a1 (r k bS len:Nat)
 | fR (r c sz:Nat) (h:Option (Nat×Nat))
 | isl (sz:Nat) (es:List (List aj))
 | df (sz:Nat) (es:List (List aj)) (i off:Nat)
 | g6 (sz:Nat) (c:Option (List aj))
 | agg (c:List aj)
 | dm (vs:List aj)
 | fn (f:Nat) (cap:List aj)
 deriving Inhabited
inductive d8 where
 | live|nc|gone
 deriving DecidableEq,Inhabited
structure ae where
 sz:Nat
 es:List (List aj)
 bD:d8
 deriving Inhabited
structure S where
 E:Nat→aj
 az:Nat→Option (List ae)
abbrev hd (v:Value):Bool:=v.oneCell'
abbrev dw:=Nat→Nat→Option (Nat×Nat)
abbrev fZ:=Nat→Nat→Option (Nat×Option (Nat×Nat))
abbrev gh:=Nat→Nat→Prop
inductive Pure:aj→Prop
 | dead:Pure .dead
 | b (x:Bool):Pure (.b x)
 | n (k:IntKind) (x:Int):Pure (.n k x)
 | s (x:ByteArray):Pure (.s x)
 | fX:Pure .fX
 | cv:Pure .cv
 | gb:Pure .gb
 | isl {sz:Nat} {es:List (List aj)} (h : ∀e∈es,∀x∈e,Pure x):Pure (.isl sz es)
 | df {sz i off:Nat} {es:List (List aj)} (h : ∀e∈es,∀x∈e,Pure x):Pure (.df sz es i off)
 | lH (sz:Nat):Pure (.g6 sz none)
 | lq {sz:Nat} {c:List aj} (h : ∀x∈c,Pure x):Pure (.g6 sz (some c))
 | agg {c:List aj} (h : ∀x∈c,Pure x):Pure (.agg c)
 | dm {c:List aj} (h : ∀x∈c,Pure x):Pure (.dm c)
 | fn {f:Nat} {c:List aj} (h : ∀x∈c,Pure x):Pure (.fn f c)
def gO (es:List (List aj)):Prop:= ∀e∈es,∀x∈e,Pure x
inductive Rel (w:World) (ok:Nat→Prop) (ay:gh) (aC:fZ):aj→Value→Prop
 | dead (v:Value):Rel w ok ay aC .dead v
 | b (x:Bool):Rel w ok ay aC (.b x) (.bool x)
 | n (k:IntKind) (x:Int):Rel w ok ay aC (.n k x) (.int k x)
 | s (x:ByteArray):Rel w ok ay aC (.s x) (.string x)
 | fX:Rel w ok ay aC .fX (.pointer none)
 | cv:Rel w ok ay aC .cv (.slice none 0 0)
 | gb (a:Addr) (c:Nat):Rel w ok ay aC .gb (.slice (some a) 0 c)
 | l2 {r k i off:Nat} (a:Option Addr) (hu:ay r k) (h : ∀sz p,aC r k≠some (sz,some p)):Rel w ok ay aC (.ref r k i off) (.pointer a)
 | ref {r k i off sz cH m:Nat} (hu:ay r k) (h:aC r k=some (sz,some (cH,m))):Rel w ok ay aC (.ref r k i off) (.pointer (some ⟨cH,i*sz+off,none⟩))
 | jX {r k bS len:Nat} (a:Option Addr) (l c:Nat) (hu:ay r k) (h:aC r k=none):Rel w ok ay aC (.a1 r k bS len) (.slice a l c)
 | km {r k sz:Nat} (hu:ay r k) (h:aC r k=some (sz,none)):Rel w ok ay aC (.a1 r k 0 0) (.slice none 0 0)
 | a1 {r k bS len sz cH m c:Nat} {a:Option Addr} (hu:ay r k) (h:aC r k=some (sz,some (cH,m))) (aA:len≤c) (aL:c<9223372036854775808)
  (hm:(bS+c)*sz=m∧(c=0∨a=some ⟨cH,bS*sz,none⟩)):Rel w ok ay aC (.a1 r k bS len) (.slice a len c)
 | jC {r c sz:Nat} {v:Value} (h:Rel w ok ay aC (.isl sz []) v):Rel w ok ay aC (.fR r c sz none) v
 | kw {r c sz k n:Nat} {v:Value} (h:Rel w ok ay aC (.a1 r (k+c) 0 n) v):Rel w ok ay aC (.fR r c sz (some (k,n))) v
 | gp (sz:Nat) (a:Option Addr) (c:Nat) (h:a=none→c=0):Rel w ok ay aC (.isl sz []) (.slice a 0 c)
 | isl {sz:Nat} {es:List (List aj)} {cH off c:Nat} (cs:Nat→Value) (aE:ok cH) (aa:gO es) (aA : ∀e∈es,e.length=sz) (aL:es.length≤c)
  (hw : ∀(j:Nat) x,es.flatten[j]? = some x→w.cell? ⟨cH,off+j,none⟩=some (cs j)) (g5 : ∀(j:Nat) x,es.flatten[j]? = some x→hd (cs j)=true)
  (ak : ∀(j:Nat) x,es.flatten[j]? = some x→Rel w ok ay aC x (cs j)):Rel w ok ay aC (.isl sz es) (.slice (some ⟨cH,off,none⟩) es.length c)
 | df {sz:Nat} {es:List (List aj)} {cH o i off:Nat} (cs:Nat→Value) (aE:ok cH) (aa:gO es) (aA : ∀e∈es,e.length=sz)
  (hw : ∀(j:Nat) x,es.flatten[j]? = some x→w.cell? ⟨cH,o+j,none⟩=some (cs j)) (g5 : ∀(j:Nat) x,es.flatten[j]? = some x→hd (cs j)=true)
  (ak : ∀(j:Nat) x,es.flatten[j]? = some x→Rel w ok ay aC x (cs j)):Rel w ok ay aC (.df sz es i off) (.pointer (some ⟨cH,o+(i*sz+off),none⟩))
 | lH (sz:Nat):Rel w ok ay aC (.g6 sz none) (.pointer none)
 | lq {sz:Nat} {c:List aj} {v:Value} (h:Rel w ok ay aC (.df sz [c] 0 0) v):Rel w ok ay aC (.g6 sz (some c)) v
 | agg {c:List aj} (vs:List Value) (aA:vs.length=c.length) (g5 : ∀(j:Nat) v,vs[j]? = some v→hd v=true)
  (ak : ∀(j:Nat) x v,c[j]? = some x→vs[j]? = some v→Rel w ok ay aC x v):Rel w ok ay aC (.agg c) (.agg vs.toArray)
 | dm {c:List aj} (vs:List Value) (aA:vs.length=c.length)
  (ak : ∀(j:Nat) x v,c[j]? = some x→vs[j]? = some v→Rel w ok ay aC x v):Rel w ok ay aC (.dm c) (.tuple vs.toArray)
 | fn {f:Nat} {c:List aj} (vs:List Value) (aA:vs.length=c.length)
  (ak : ∀(j:Nat) x v,c[j]? = some x→vs[j]? = some v→Rel w ok ay aC x v):Rel w ok ay aC (.fn f c) (.func (.func f) #[] vs.toArray)
theorem Rel.mono {w a5:World}{ok je:Nat→Prop}{ay jF:gh}{aC jf:fZ}{a:aj}{v:Value}(h:Rel w ok ay aC a v)
 (kz : ∀b,ok b→je b) (hw : ∀b,ok b→a5.heap[b]? = w.heap[b]?)
 (gu : ∀r k,ay r k→jF r k) (ix : ∀r k,ay r k→jf r k=aC r k∨jf r k=none):Rel a5 je jF jf a v:=by
 have g5 : ∀b o,ok b→a5.cell? ⟨b,o,none⟩=w.cell? ⟨b,o,none⟩:=fun b o aE=>World.cell?_of_block (hw b aE)
 induction h with
 | dead v=>exact .dead v
 | b x=>exact .b x
 | n k x=>exact .n k x
 | s x=>exact .s x
 | fX=>exact .fX
 | cv=>exact .cv
 | gb a c=>exact .gb a c
 | @l2 r k i off a hu h =>
  refine .l2 a (gu r k hu) fun sz p=> ?_
  rcases ix r k hu with e|e<;>rw [e]
  ·exact h sz p
  ·simp
 | @ref r k i off sz cH m hu h =>
  rcases ix r k hu with e|e
  ·exact .ref (gu r k hu) (e.trans h)
  ·exact .l2 _ (gu r k hu) fun sz p=>by rw [e];simp
 | @jX r k bS len a l c hu h=>exact .jX a l c (gu r k hu) (by rcases ix r k hu with e|e<;>rw [e];exact h)
 | @km r k sz hu h =>
  rcases ix r k hu with e|e
  ·exact .km (gu r k hu) (e.trans h)
  ·exact .jX _ _ _ (gu r k hu) e
 | @a1 r k bS len sz cH m c a hu h aA aL hm =>
  rcases ix r k hu with e|e
  ·exact .a1 (gu r k hu) (e.trans h) aA aL hm
  ·exact .jX _ _ _ (gu r k hu) e
 | jC h ih=>exact .jC ih
 | kw h ih=>exact .kw ih
 | gp sz a c h=>exact .gp sz a c h
 | isl cs aE aa aA aL u2 fz ak ih=>exact .isl cs (kz _ aE) aa aA aL (fun j x I=>(g5 _ _ aE).trans (u2 j x I)) fz ih
 | df cs aE aa aA u2 fz ak ih=>exact .df cs (kz _ aE) aa aA (fun j x I=>(g5 _ _ aE).trans (u2 j x I)) fz ih
 | lH sz=>exact .lH sz
 | lq h ih=>exact .lq ih
 | agg vs aA fz ak ih=>exact .agg vs aA fz ih
 | dm vs aA ak ih=>exact .dm vs aA ih
 | fn vs aA ak ih=>exact .fn vs aA ih
structure G where
 jx:World
 A:Nat→Prop
 lM:Nat→Prop
 N:Nat
 m:Nat
 lu:gh
 nd:fZ
def S.ay (s:S)(r k:Nat):Prop:=k<((s.az r).getD []).length
def ck (row:Option (List ae))(k:Nat):Option ae :=
 match row with
 | some l=>match l[k]? with
  | some o=>if o.bD = .gone then none else some o
  | none=>none
 | none=>none
def S.J (s:S)(r k:Nat):Option ae:=ck (s.az r) k
def S.aC (s:S)(ag:dw):fZ:=fun r k=>(s.J r k).map fun o=>(o.sz,ag r k)
def S.iV (s:S)(ag:dw)(b:Nat):Prop:= ∃r k o m,s.J r k=some o∧o.bD = .live∧ag r k=some (b,m)
def S.ok (s:S)(g:G)(ag:dw)(w:World)(b:Nat):Prop :=
 b<w.heap.size∧(g.A b∨g.jx.heap.size≤b∨g.lM b)∧ ¬s.iV ag b
def f9 (w:World)(ok:Nat→Prop)(ay:gh)(aC:fZ)(o:ae):Option (Nat×Nat)→Prop
 | none=>o.es=[]
 | some (cH,m)=> ∃c cU,w.heap[cH]? = some (.cells c cU (0,0))∧c.size=m∧(∀e∈o.es,e.length=o.sz) ∧
  ∀(j:Nat) x,o.es.flatten[j]? = some x→ ∃v,c[j]? = some v∧hd v=true∧Rel w ok ay aC x v
structure uE (g:G) (w:World):Prop where
 os:w.os=g.jx.os
 tape:w.tape=g.jx.tape
 output:w.output=g.jx.output
 size:g.jx.heap.size≤w.heap.size
 block : ∀b,b<g.jx.heap.size→ ¬g.lM b→w.heap[b]? = g.jx.heap[b]?
structure fy (g:G) (s:S) (ag:dw) (w:World):Prop where
 obj : ∀r k o,s.J r k=some o→f9 w (s.ok g ag w) s.ay (s.aC ag) o (ag r k)
 inj : ∀r k o cV cc bm b m bs,s.J r k=some o→s.J cV cc=some bm→ag r k=some (b,m)→ag cV cc=some (b,bs)→r=cV∧k=cc
 own : ∀r k o b m,s.J r k=some o→ag r k=some (b,m)→g.jx.heap.size≤b∨g.lM b
 fr:uE g w
 mlt : ∀b,g.lM b→b<g.jx.heap.size
 j2 : ∀b,g.A b→b<g.jx.heap.size
 stay : ∀j k,g.lu j k→s.ay j k∧(s.aC ag j k=g.nd j k∨s.aC ag j k=none)
 low : ∀j k,g.lu j k→j<g.m
structure bR (g:G) (s:S) (ag:dw) (a:Act) (w:World):Prop extends fy g s ag w where
 env : ∀t,Rel w (s.ok g ag w) s.ay (s.aC ag) (s.E t) (a.tmps.getD t undef)
 defers:a.defers=[]
 gJ:g.N≤a.tmps.size
def ofValue:Value→aj
 | .bool x=> .b x
 | .int k x=> .n k x
 | .string x=> .s x
 | .pointer none=> .fX
 | .slice none 0 0=> .cv
 | _=> .dead
theorem Dz {w:World}{ok:Nat→Prop}{ay:gh}{aC:fZ}(v:Value):Rel w ok ay aC (ofValue v) v:=by
 unfold ofValue
 split<;>constructor
def c0 (E:Nat→aj):Operand→aj
 | .tmp t=>E t
 | .const v=>ofValue v
 | .global _=> .dead
 | .func f=> .fn f []
theorem bR.eval {g:G}{s:S}{ag:dw}{a:Act}{w:World}(h:bR g s ag a w)(x:Operand):
 Rel w (s.ok g ag w) s.ay (s.aC ag) (c0 s.E x) (a.eval x):=by
 cases x with
 | tmp t=>exact h.env t
 | const v=>exact Dz v
 | global g=>exact .dead _
 | func f=>exact .fn [] rfl (fun j x v I=>by simp at I)
def aj.cells:aj→List aj
 | .agg c=>c
 | x=>[x]
def aj.one:aj→Bool
 | .dead | .agg _ | .dm _=>false
 | _=>true
def aj.rQ:aj→Bool
 | .dead | .dm _=>false
 | _=>true
theorem aj.DA {v:aj}(h:v.rQ=true):v.one=true∨ ∃c,v = .agg c:=by
 cases v<;>first|exact .inl rfl|exact .inr ⟨_,rfl⟩|simp [aj.rQ] at h
theorem Rel.hd {w:World}{ok:Nat→Prop}{ay:gh}{aC:fZ}{a:aj}{v:Value}(h:Rel w ok ay aC a v)(bV:a.one=true):hd v=true:=by
 cases h with
 | lq h=>cases h;rfl
 | jC h=>cases h<;>rfl
 | kw h=>cases h<;>rfl
 | _=>first|rfl|simp [aj.one] at bV
theorem Rel.cellsOf {w:World}{ok:Nat→Prop}{ay:gh}{aC:fZ}{a:aj}{v:Value}(h:Rel w ok ay aC a v)(bV:a.one=true∨ ∃c,a = .agg c):
 ∃vs:List Value,v.cells=vs.toArray∧vs.length=a.cells.length∧(∀(j:Nat) x,vs[j]? = some x→VL.hd x=true) ∧
  ∀(j:Nat) x u,a.cells[j]? = some x→vs[j]? = some u→Rel w ok ay aC x u:=by
 rcases bV with bV|⟨c,rfl⟩
 ·have aL:=h.hd bV
  refine ⟨[v],?_,?_,?_,?_⟩
  ·cases v<;>first|rfl|simp [VL.hd,Value.oneCell'] at aL
  ·cases a<;>first|rfl|simp [aj.one] at bV
  ·intro j x I
   cases j with
   | zero=>simp at I;subst I;exact aL
   | succ j=>simp at I
  ·intro j x u I hu
   have e:a.cells=[a]:=by cases a<;>first|rfl|simp [aj.one] at bV
   rw [e] at I
   cases j with
   | zero=>simp at I hu;subst I;subst hu;exact h
   | succ j=>simp at I
 ·cases h with
  | agg vs aA g5 ak=>exact ⟨vs,rfl,aA,g5,ak⟩
end Go.VL
namespace Go.VL
set_option linter.unusedVariables false
set_option linter.unusedSimpArgs false
open Go
def S.put (s:S)(dst:Option Tmp)(v:aj):S :=
 match dst with
 | some t=>{s with E:=fun u=>if u=t then v else s.E u}
 | none=>s
def S.setRow (s:S)(r:Nat)(row:List ae):S:={s with az:=fun q=>if q=r then some row else s.az q}
@[simp] theorem S.oY (s:S) (dst:Option Tmp) (v:aj):(s.put dst v).az=s.az:=by cases dst<;>rfl
@[simp] theorem S.PW (s:S) (r:Nat) (row:List ae):(s.setRow r row).E=s.E:=rfl
theorem tX {s a7:S}(h:a7.az=s.az):a7.J=s.J:=by funext r k;simp [S.J,h]
theorem rR {s a7:S}(h:a7.az=s.az):a7.ay=s.ay:=by funext r k;simp [S.ay,h]
theorem rS {s a7:S}(h:a7.az=s.az)(ag:dw):a7.aC ag=s.aC ag:=by unfold S.aC;rw [tX h]
theorem Ka {s a7:S}(h:a7.az=s.az)(ag:dw):a7.iV ag=s.iV ag:=by unfold S.iV;rw [tX h]
theorem tY {s a7:S}(h:a7.az=s.az)(g:G)(ag:dw)(w:World):a7.ok g ag w=s.ok g ag w:=by
 funext b;unfold S.ok;rw [Ka h]
theorem fy.congr {g:G}{s a7:S}{ag:dw}{w:World}(h:fy g s ag w)(e:a7.az=s.az):fy g a7 ag w where
 obj:=by rw [tX e,rR e,rS e,tY e];exact h.obj
 inj:=by rw [tX e];exact h.inj
 own:=by rw [tX e];exact h.own
 fr:=h.fr
 mlt:=h.mlt
 j2:=h.j2
 stay:=by rw [rR e,rS e];exact h.stay
 low:=h.low
theorem Lr (a:Act)(dst:Option Tmp)(v:Value)(t:Nat)(c5:∀d,dst=some d→d<a.tmps.size):
 (a.put dst v).tmps.getD t undef=if dst=some t then v else a.tmps.getD t undef:=by
 cases dst with
 | none=>simp [Act.put]
 | some d =>
  have:=c5 d rfl
  simp only [Act.put,Array.getD_eq_getD_getElem?,Array.getElem?_setIfInBounds,Option.some.injEq]
  by_cases e:d=t
  ·subst e;simp [this]
  ·simp [e]
theorem bR.put {g:G}{s:S}{ag:dw}{a:Act}{w:World}(h:bR g s ag a w)(dst:Option Tmp){x:aj}{v:Value}
 (bg : ∀d,dst=some d→d<g.N) (ak:Rel w (s.ok g ag w) s.ay (s.aC ag) x v):bR g (s.put dst x) ag (a.put dst v) w where
 tofy:=h.tofy.congr (S.oY s dst x)
 env:=by
  have e:=S.oY s dst x
  rw [tY e,rR e,rS e]
  intro t
  rw [Lr a dst v t fun d N2=>Nat.lt_of_lt_of_le (bg d N2) h.gJ]
  cases dst with
  | none=>simpa [S.put] using h.env t
  | some d =>
   simp only [S.put,Option.some.injEq]
   by_cases e:t=d
   ·subst e;simpa using ak
   ·rw [if_neg e,if_neg (Ne.symm e)];exact h.env t
 defers:=by cases dst<;>exact h.defers
 gJ:=by cases dst<;>simpa [Act.put] using h.gJ
structure Step (g:G) (s:S) (ag:dw) (w:World) (a7:S) (a0:dw) (a5:World):Prop where
 ay : ∀r k,s.ay r k→a7.ay r k
 aC : ∀r k,s.ay r k→a7.aC a0 r k=s.aC ag r k∨a7.aC a0 r k=none
 live : ∀b,a7.iV a0 b→s.iV ag b∨w.heap.size≤b
 heap : ∀b,b<w.heap.size→ ¬s.iV ag b→a5.heap[b]? = w.heap[b]?
 size:w.heap.size≤a5.heap.size
theorem Step.ok {g:G}{s a7:S}{ag a0:dw}{w a5:World}(h:Step g s ag w a7 a0 a5)(b:Nat)(aE:s.ok g ag w b):a7.ok g a0 a5 b :=
 ⟨Nat.lt_of_lt_of_le aE.1 h.size,aE.2.1,fun aA=>by
  rcases h.live b aA with h1|h1
  ·exact aE.2.2 h1
  ·exact absurd aE.1 (by omega)⟩
theorem Step.rel {g:G}{s a7:S}{ag a0:dw}{w a5:World}(h:Step g s ag w a7 a0 a5){x:aj}{v:Value}
 (ak:Rel w (s.ok g ag w) s.ay (s.aC ag) x v):Rel a5 (a7.ok g a0 a5) a7.ay (a7.aC a0) x v :=
 ak.mono h.ok (fun b aE=>h.heap b aE.1 aE.2.2) h.ay h.aC
theorem Step.obj {g:G}{s a7:S}{ag a0:dw}{w a5:World}(h:Step g s ag w a7 a0 a5){o:ae}{p:Option (Nat×Nat)}
 (aa : ∀b m,p=some (b,m)→a5.heap[b]? = w.heap[b]?) (U:f9 w (s.ok g ag w) s.ay (s.aC ag) o p) :
 f9 a5 (a7.ok g a0 a5) a7.ay (a7.aC a0) o p:=by
 cases p with
 | none=>exact U
 | some q =>
  obtain ⟨b,m⟩:=q
  obtain ⟨c,cU,h1,h2,af,ax⟩:=U
  refine ⟨c,cU,(aa b m rfl).trans h1,h2,af,fun j x I=> ?_⟩
  obtain ⟨v,e1,e2,br⟩:=ax j x I
  exact ⟨v,e1,e2,h.rel br⟩
theorem Step.stay {g:G}{s a7:S}{ag a0:dw}{w a5:World}(h:Step g s ag w a7 a0 a5)
 (cf : ∀j k,g.lu j k→s.ay j k∧(s.aC ag j k=g.nd j k∨s.aC ag j k=none)) : ∀j k,g.lu j k→a7.ay j k∧(a7.aC a0 j k=g.nd j k∨a7.aC a0 j k=none):=by
 intro j k aq
 obtain ⟨h1,h2⟩:=cf j k aq
 refine ⟨h.ay j k h1,?_⟩
 rcases h.aC j k h1 with e|e
 ·rw [e];exact h2
 ·exact .inr e
theorem uE.step {g:G}{w a5:World}(h:uE g w)(h1:a5.os=w.os)(h2:a5.tape=w.tape)(af:a5.output=w.output)(ax:w.heap.size≤a5.heap.size)
 (a8 : ∀b,b<g.jx.heap.size→ ¬g.lM b→a5.heap[b]? = w.heap[b]?):uE g a5 :=
 ⟨h1.trans h.os,h2.trans h.tape,af.trans h.output,Nat.le_trans h.size ax,fun b aE hm=>(a8 b aE hm).trans (h.block b aE hm)⟩
theorem iG (s:S)(r:Nat)(row:List ae)(q k:Nat):(s.setRow r row).J q k=if q=r then ck (some row) k else s.J q k:=by
 unfold S.J S.setRow
 by_cases e:q=r<;>simp [e]
theorem jW (s:S)(r:Nat)(row:List ae)(q k:Nat):(s.setRow r row).ay q k↔(if q=r then k<row.length else s.ay q k):=by
 unfold S.ay S.setRow
 by_cases e:q=r<;>simp [e]
theorem wL {s:S}{r k:Nat}{o:ae}(h:s.J r k=some o):s.ay r k:=by
 unfold S.J ck at h
 unfold S.ay
 cases ak:s.az r with
 | none=>rw [ak] at h;simp at h
 | some l =>
  rw [ak] at h
  simp only at h
  rcases Nat.lt_or_ge k l.length with h1|h1
  ·simpa using h1
  ·rw [List.getElem?_eq_none h1] at h;simp at h
theorem rA {s:S}{r:Nat}(h:s.az r=none)(k:Nat): ¬s.ay r k:=by simp [S.ay,h]
theorem wk (s:S){r:Nat}{l row:List ae}(ak:s.az r=some l)(aA:l.length≤row.length)(q k:Nat)(h:s.ay q k):(s.setRow r row).ay q k:=by
 rw [jW]
 by_cases e:q=r
 ·subst e;rw [if_pos rfl];simp [S.ay,ak] at h;omega
 ·rw [if_neg e];exact h
theorem Py {s:S}{r:Nat}(h:s.az r=none)(k:Nat):s.J r k=none:=by simp [S.J,h,ck]
def dw.set (ag:dw)(r k:Nat)(p:Option (Nat×Nat)):dw:=fun q j=>if q=r∧j=k then p else ag q j
theorem ja (o:ae)(k:Nat):ck (some [o]) k=if k=0∧o.bD≠ .gone then some o else none:=by
 unfold ck
 cases k with
 | zero=>by_cases h:o.bD = .gone<;>simp [h]
 | succ k=>simp
theorem Rel.drew {w:World}{ok:Nat→Prop}{ay:gh}{aC:fZ}{x:aj}{v:Value}(h:Rel w ok ay aC x v):Rel w.drew ok ay aC x v :=
 h.mono (fun _ h=>h) (fun _ _=>rfl) (fun _ _ h=>h) (fun _ _ _=> .inl rfl)
theorem f9.drew {w:World}{ok:Nat→Prop}{ay:gh}{aC:fZ}{o:ae}{p:Option (Nat×Nat)}(h:f9 w ok ay aC o p):f9 w.drew ok ay aC o p:=by
 cases p with
 | none=>exact h
 | some q =>
  obtain ⟨c,cU,h1,h2,af,ax⟩:=h
  exact ⟨c,cU,h1,h2,af,fun j x I=>let ⟨v,a,b,c⟩:=ax j x I;⟨v,a,b,c.drew⟩⟩
theorem fy.drew {g:G}{s:S}{ag:dw}{w:World}(h:fy g s ag w):fy g s ag w.drew :=
 {obj:=fun r k o U=>(h.obj r k o U).drew,inj:=h.inj,own:=h.own,fr:=⟨h.fr.os,h.fr.tape,h.fr.output,h.fr.size,h.fr.block⟩,mlt:=h.mlt,j2:=h.j2,stay:=h.stay,low:=h.low}
theorem bR.drew {g:G}{s:S}{ag:dw}{a:Act}{w:World}(h:bR g s ag a w):bR g s ag a w.drew where
 tofy:=h.tofy.drew
 env:=fun t=>(h.env t).drew
 defers:=h.defers
 gJ:=h.gJ
theorem bR.alloc {g:G}{s:S}{ag:dw}{a:Act}{w:World}(h:bR g s ag a w){r:Nat}(ak:s.az r=none)(o:ae)(aV:o.bD = .live)
 (c:Array Value) (cU:TypeId) (hlen : ∀e∈o.es,e.length=o.sz)
 (aL : ∀(j:Nat) x,o.es.flatten[j]? = some x→ ∃v,c[j]? = some v∧hd v=true∧Rel w (s.ok g ag w) s.ay (s.aC ag) x v) :
 ∃a0,a0 r 0=some (w.heap.size,c.size)∧bR g (s.setRow r [o]) a0 a (w.alloc (.cells c cU)) ∧
  ∀x v,Rel w (s.ok g ag w) s.ay (s.aC ag) x v→Rel (w.alloc (.cells c cU)) ((s.setRow r [o]).ok g a0 (w.alloc (.cells c cU))) (s.setRow r [o]).ay ((s.setRow r [o]).aC a0) x v:=by
 have iR : ∀q k,q≠r→(ag.set r 0 (some (w.heap.size,c.size))) q k=ag q k:=fun q k aD=>by simp [dw.set,aD]
 have aF : ∀q k,q≠r→(s.setRow r [o]).J q k=s.J q k:=fun q k aD=>by rw [iG,if_neg aD]
 have sg : ∀k,(s.setRow r [o]).J r k=if k=0 then some o else none:=fun k=>by
  rw [iG,if_pos rfl,ja];simp [aV]
 have ow : ∀q k p b m,s.J q k=some p→ag q k=some (b,m)→b<w.heap.size:=fun q k p b m aa aD=>by
  have:=h.obj q k p aa
  rw [aD] at this
  obtain ⟨cw,jt,dT,_⟩:=this
  exact (Array.getElem?_eq_some_iff.1 dT).1
 have cq:Step g s ag w (s.setRow r [o]) (ag.set r 0 (some (w.heap.size,c.size))) (w.alloc (.cells c cU)):=by
  refine ⟨fun q k aD=>(jW _ _ _ _ _).2 (by rw [if_neg (by rintro rfl;exact rA ak k aD)];exact aD),fun q k aD=> ?_,fun b aE=> ?_,fun b aE _=>heap_alloc_old w _ b aE,by simp⟩
  ·have cb:q≠r:=by rintro rfl;exact rA ak k aD
   left
   simp only [S.aC,aF q k cb,iR q k cb]
  ·obtain ⟨q,k,p,m,h1,h2,af⟩:=aE
   by_cases e:q=r
   ·subst e
    rw [sg] at h1
    by_cases e0:k=0
    ·subst e0;simp [dw.set] at af;right;omega
    ·simp [e0] at h1
   ·rw [aF q k e] at h1;rw [iR q k e] at af
    exact .inl ⟨q,k,p,m,h1,h2,af⟩
 refine ⟨ag.set r 0 (some (w.heap.size,c.size)),by simp [dw.set],?_,fun x v=>cq.rel⟩
 refine {tofy:=⟨?_,?_,?_,?_,h.mlt,h.j2,cq.stay h.stay,h.low⟩,env:=fun t=>cq.rel (h.env t),defers:=h.defers,gJ:=h.gJ}
 ·intro q k p aa
  by_cases e:q=r
  ·subst e
   rw [sg] at aa
   by_cases e0:k=0
   ·subst e0
    simp at aa
    subst aa
    simp only [dw.set,and_self,if_true]
    exact ⟨c,cU,heap_alloc_new w _,rfl,hlen,fun j x I=>let ⟨v,e1,e2,br⟩:=aL j x I;⟨v,e1,e2,cq.rel br⟩⟩
   ·simp [e0] at aa
  ·rw [aF q k e] at aa
   rw [iR q k e]
   exact cq.obj (fun b m hm=>heap_alloc_old w _ b (ow q k p b m aa hm)) (h.obj q k p aa)
 ·intro q k p fb cc h3 b m bs h1 h2 af ax
  by_cases e:q=r<;>by_cases cW:fb=r
  ·subst e;subst cW
   rw [sg] at h1 h2
   by_cases e0:k=0<;>by_cases e1:cc=0<;>simp [e0,e1] at h1 h2
   exact ⟨rfl,by omega⟩
  ·subst e
   rw [sg] at h1;rw [aF _ _ cW] at h2;rw [iR _ _ cW] at ax
   by_cases e0:k=0<;>simp [e0] at h1
   subst e0
   simp [dw.set] at af
   have:=ow fb cc h3 b bs h2 ax
   omega
  ·subst cW
   rw [aF _ _ e] at h1;rw [sg] at h2;rw [iR _ _ e] at af
   by_cases e0:cc=0<;>simp [e0] at h2
   subst e0
   simp [dw.set] at ax
   have:=ow q k p b m h1 af
   omega
  ·rw [aF _ _ e] at h1;rw [aF _ _ cW] at h2;rw [iR _ _ e] at af;rw [iR _ _ cW] at ax
   exact h.inj q k p fb cc h3 b m bs h1 h2 af ax
 ·intro q k p b m h1 h2
  by_cases e:q=r
  ·subst e
   rw [sg] at h1
   by_cases e0:k=0<;>simp [e0] at h1
   subst e0
   simp [dw.set] at h2
   left
   have:=h.fr.size
   omega
  ·rw [aF _ _ e] at h1;rw [iR _ _ e] at h2
   exact h.own q k p b m h1 h2
 ·exact h.fr.step rfl rfl rfl (by simp) fun b aE _=>heap_alloc_old w _ b (Nat.lt_of_lt_of_le aE h.fr.size)
theorem Ep (l:List ae)(k:Nat)(o bm:ae)(h:ck (some l) k=some o)(aV:bm.bD≠ .gone)(j:Nat):
 ck (some (l.set k bm)) j=if j=k then some bm else ck (some l) j:=by
 unfold ck at *
 have cE:k<l.length:=by
  rcases Nat.lt_or_ge k l.length with h1|h1
  ·exact h1
  ·simp [List.getElem?_eq_none h1] at h
 by_cases e:j=k
 ·subst e;simp [cE,aV]
 ·simp only [List.getElem?_set,if_neg (Ne.symm e),if_neg e]
theorem bR.write {g:G}{s:S}{ag:dw}{a:Act}{w a5:World}(h:bR g s ag a w){r k b m:Nat}{l:List ae}{o:ae}(ak:s.az r=some l)(U:s.J r k=some o)
 (aV:o.bD = .live) (aa:ag r k=some (b,m)) (es:List (List aj)) (c:Array Value) (cU:TypeId)
 (hw:a5.heap[b]? = some (.cells c cU (0,0))) (c5:a5.heap.size=w.heap.size) (pT : ∀q,q≠b→a5.heap[q]? = w.heap[q]?)
 (Br:a5.os=w.os) (Bs:a5.tape=w.tape) (Bd:a5.output=w.output) (hm:c.size=m)
 (hlen : ∀e∈es,e.length=o.sz)
 (aL : ∀(j:Nat) x,es.flatten[j]? = some x→ ∃v,c[j]? = some v∧hd v=true∧Rel w (s.ok g ag w) s.ay (s.aC ag) x v) :
 bR g (s.setRow r (l.set k {o with es})) ag a a5 ∧
  ∀x v,Rel w (s.ok g ag w) s.ay (s.aC ag) x v→Rel a5 ((s.setRow r (l.set k {o with es})).ok g ag a5) (s.setRow r (l.set k {o with es})).ay ((s.setRow r (l.set k {o with es})).aC ag) x v:=by
 have hg:({o with es}:ae).bD≠ .gone:=by rw [aV];simp
 have aF : ∀q j,(s.setRow r (l.set k {o with es})).J q j=if q=r∧j=k then some {o with es} else s.J q j:=by
  intro q j
  rw [iG]
  by_cases e:q=r
  ·subst e
   have cC:ck (some l) k=some o:=by rw [← ak];exact U
   rw [if_pos rfl,Ep l k o _ cC hg]
   by_cases e2:j=k<;>simp [e2,S.J,ak]
  ·simp [e]
 have l5:s.iV ag b:=⟨r,k,o,m,U,aV,aa⟩
 have cq:Step g s ag w (s.setRow r (l.set k {o with es})) ag a5:=by
  refine ⟨wk s ak (by simp),fun q j aD=> .inl ?_,fun q aD=> ?_,fun q aD aA=>pT q fun e=>aA (e▸l5),Nat.le_of_eq c5.symm⟩
  ·simp only [S.aC,aF]
   by_cases e:q=r∧j=k
   ·obtain ⟨rfl,rfl⟩:=e;simp [U]
   ·rw [if_neg e]
  ·obtain ⟨fb,j,p,bs,h1,h2,af⟩:=aD
   rw [aF] at h1
   by_cases e:fb=r∧j=k
   ·obtain ⟨rfl,rfl⟩:=e
    exact .inl ⟨fb,j,o,bs,U,aV,af⟩
   ·rw [if_neg e] at h1
    exact .inl ⟨fb,j,p,bs,h1,h2,af⟩
 refine ⟨{tofy:=⟨?_,?_,?_,?_,h.mlt,h.j2,cq.stay h.stay,h.low⟩,env:=fun t=>cq.rel (h.env t),defers:=h.defers,gJ:=h.gJ},fun x v=>cq.rel⟩
 ·intro q j p hs
  rw [aF] at hs
  by_cases e:q=r∧j=k
  ·obtain ⟨rfl,rfl⟩:=e
   simp at hs
   subst hs
   rw [aa]
   exact ⟨c,cU,hw,hm,hlen,fun j x I=>let ⟨v,e1,e2,br⟩:=aL j x I;⟨v,e1,e2,cq.rel br⟩⟩
  ·rw [if_neg e] at hs
   refine cq.obj (fun fB bs iy=>pT fB ?_) (h.obj q j p hs)
   rintro rfl
   exact e (h.inj q j p r k o fB bs m hs U iy aa)
 ·intro q j p fb g7 h3 fB f5 fh h1 h2 af ax
  have key : ∀q j p,(s.setRow r (l.set k {o with es})).J q j=some p→ ∃h3,s.J q j=some h3:=by
   intro q j p aD
   rw [aF] at aD
   by_cases e:q=r∧j=k
   ·obtain ⟨rfl,rfl⟩:=e;exact ⟨o,U⟩
   ·rw [if_neg e] at aD;exact ⟨p,aD⟩
  obtain ⟨p1,N3⟩:=key q j p h1
  obtain ⟨p2,u3⟩:=key fb g7 h3 h2
  exact h.inj q j p1 fb g7 p2 fB f5 fh N3 u3 af ax
 ·intro q j p fB bs h1 h2
  rw [aF] at h1
  by_cases e:q=r∧j=k
  ·obtain ⟨rfl,rfl⟩:=e;exact h.own q j o fB bs U h2
  ·rw [if_neg e] at h1;exact h.own q j p fB bs h1 h2
 ·refine h.fr.step Br Bs Bd (Nat.le_of_eq c5.symm) fun fB mG iy=>pT fB ?_
  rintro rfl
  rcases h.own r k o fB m U aa with h1|h1
  ·omega
  ·exact iy h1
end Go.VL
namespace Go.VL
set_option linter.unusedVariables false
set_option linter.unusedSimpArgs false
open Go
inductive oF where
 | id
 | dC (es:List (List aj))
 | k7 (sz:Nat)
 | gx
 | di (x:aj)
 | len (n:Nat)
 | Cc (sz:Nat)
 | at_ (j i n:Nat)
 | view (dD:Nat) (o:ae) (es:List (List aj))
 deriving Inhabited
inductive sM where
 | dE (c:oF)
 | ptr (l:List oF)
 | Be (l:List oF)
 | agg (l:List oF)
 deriving Inhabited
inductive iA where
 | bn (c:sM)
 | comp (l:List sM)
 deriving Inhabited
inductive fM where
 | pure
 | box (l:List oF)
 | di (row:List ae)
 | fT (row:List ae)
 | rx (row:List ae)
 | drop
 deriving Inhabited
structure j3 where
 bg:List (Nat×Nat):=[]
 hk:Option (Nat×Nat):=none
 deriving DecidableEq
inductive Src where
 | row (r:Nat)
 | J (r k:Nat) (o:ae)
 deriving Inhabited
structure vu where
 ar:List Src:=[]
 b8:List fM:=[]
 ac:List iA
 r:aj
 c2:List (List ae):=[]
 ek:iA:= .bn (.dE .id)
 e8:List fM:=[]
 dx:List Nat:=[]
 dk:Bool:=true
inductive dB where
 | none
 | ad (t:Bool)
 | cO (c:List aj)
 | uF (o:ae) (c:List aj)
 | gH
 | call (c:vu)
 | aB (m:Nat) (o:Option ae:=Option.none)
 | xX (t:Nat) (v:aj) (a:dB)
 | qt (r:Nat) (a:dB)
 | xY (r n:Nat) (a:dB)
structure e9 where
 val:aj
 dQ:List (Nat×List ae):=[]
 dn:List Prop:=[]
def uh (P:Program)(t:TypeId):Bool :=
 match P.underlying t with
 | some (.struct _)|some (.array _ _)=>true
 | _=>false
def nL (kd:List Int):ByteArray:=kd.foldl (fun r n=>r.push (UInt8.ofNat n.toNat)) ByteArray.empty
def bytesOf:List (List aj)→Option (List Int)
 | []=>some []
 | [.n .u8 n]::es=>(bytesOf es).map (n :: ·)
 | _=>none
def elemAt (es:List (List aj))(i:Nat):dB→Option (List aj×List Prop)
 | .cO c=>some (c,[es[i]? = some c])
 | .uF _ c=>some (c,[es[i]? = some c])
 | _=>match es[i]? with
  | some c=>some (c,[])
  | none=>none
def k1 (row:Option (List ae))(k:Nat):dB→Option (ae×List Prop)
 | .uF o _=>match row with
  | some row=>some (o,[ck (some row) k=some o])
  | none=>none
 | _=>match ck row k with
  | some o=>some (o,[])
  | none=>none
def mB (P:Program)(t:TypeId)(c:List aj)(off:Nat):Option aj :=
 if !((P.underlying t).isSome && (P.info? t).isSome) then none else
 if uh P t then (if off+P.cellsOf t≤c.length then some (.agg ((c.drop off).take (P.cellsOf t))) else none)
 else match c[off]? with
  | some x=>if x.one then some x else none
  | none=>none
def Bf (op:BinOp)(x y:aj):Option (aj×List Prop) :=
 match x,y with
 | .n k a,.n cc b =>
  match op with
  | .shl=>some (.n k (k.wrap (a*2 ^ (min b.toNat k.bits))),[0≤b])
  | .shr=>some (.n k (a.fdiv (2 ^ (min b.toNat k.bits))),[0≤b])
  | _=>if k≠cc then none else
   match op with
   | .add=>some (.n k (k.wrap (a+b)),[])
   | .sub=>some (.n k (k.wrap (a-b)),[])
   | .mul=>some (.n k (k.wrap (a*b)),[])
   | .quo=>some (.n k (k.wrap (a.tdiv b)),[b≠0])
   | .rem=>some (.n k (a.tmod b),[b≠0])
   | .and=>some (.n k (k.wrap ((BitVec.ofInt k.bits a &&& BitVec.ofInt k.bits b).toNat)),[])
   | .or=>some (.n k (k.wrap ((BitVec.ofInt k.bits a ||| BitVec.ofInt k.bits b).toNat)),[])
   | .xor=>some (.n k (k.wrap ((BitVec.ofInt k.bits a ^^^ BitVec.ofInt k.bits b).toNat)),[])
   | .eql=>some (.b (a == b),[])
   | .neq=>some (.b (a != b),[])
   | .lss=>some (.b (decide (a<b)),[])
   | .leq=>some (.b (decide (a≤b)),[])
   | .gtr=>some (.b (decide (b<a)),[])
   | .geq=>some (.b (decide (b≤a)),[])
   | _=>none
 | .s a,.s b =>
  match op with
  | .add=>some (.s (a++b),[a.size+b.size<9223372036854775808])
  | .eql=>some (.b (a.toList == b.toList),[])
  | .neq=>some (.b (!(a.toList == b.toList)),[])
  | _=>none
 | _,_=>none
def nN (P:Program)(t:TypeId)(x y:aj):Option Bool :=
 match P.underlying t,x,y with
 | some .bool,.b a,.b c=>some (a == c)
 | some (.pointer _),.fX,.fX=>some true
 | some (.pointer _),.df ..,.fX=>some false
 | some (.pointer _),.fX,.df .. => some false
 | some (.slice _),.cv,.cv=>some true
 | some (.slice _),.gb,.cv=>some false
 | _,_,_=>none
def Bt (op:UnOp)(x:aj):Option aj :=
 match op,x with
 | .neg,.n k a=>some (.n k (k.wrap (0-a)))
 | .not,.b a=>some (.b (!a))
 | _,_=>none
def fieldsOf (P:Program)(t:TypeId):Option (Array Field) :=
 match P.underlying t with
 | some (.struct hN)=>some hN
 | _=>none
def l6 (P:Program)(t:TypeId):Option TypeId :=
 match P.underlying t with
 | some (.slice e)=>some e
 | _=>none
def mv (P:Program)(t:TypeId):Option (List aj) :=
 match P.info? t with
 | some i=>match i.zero with
  | some v=>if v.cells.toList.all (·.oneCell') then some (v.cells.toList.map ofValue) else none
  | none=>none
 | none=>none
def uG (P:Program)(t:TypeId):Option (Nat×TypeId) :=
 match P.underlying t with
 | some (.array n e)=>if (P.info? e).isSome∧P.cellsOf e≠0∧1<n then some (n,e) else none
 | _=>none
def l9 (j:Int):List aj→List aj→Option (List aj)
 | [],[]=>some []
 | .n k x::a,.n cc y::b=>if k=cc then (l9 j a b).map (.n k (if j=0 then x else y) :: ·) else none
 | _,_=>none
def A0 (P:Program)(t:TypeId)(x hl:aj):Option e9 :=
 match uG P t,x,hl with
 | some (2,e),.agg cs,.n _ j=>match mB P e cs (0*P.cellsOf e),mB P e cs (1*P.cellsOf e) with
  | some (.agg a),some (.agg b)=>(l9 j a b).map fun c=>{val:= .agg c,dn:=[0≤j,j<2]}
  | _,_=>none
 | _,_,_=>none
def r9 (P:Program)(az:Nat→Option (List ae))(t:TypeId)(x hl:aj)(bO:dB):Option e9 :=
 match uG P t,x,hl with
 | some (n,e),.ref r k i off,.n _ j=>match k1 (az r) k bO with
  | some (J,bt)=>match elemAt J.es i bO with
   | some (_,aY)=>some {val:= .ref r k i (off+j.toNat*P.cellsOf e),dn:=bt++aY++[0≤j,j<n]}
   | none=>none
  | none=>none
 | _,_,_=>none
def ui:aj→aj→aj
 | .cv,.isl sz []=> .isl sz []
 | .fX,.g6 sz none=> .g6 sz none
 | .cv,.fR r c sz none=> .fR r c sz none
 | x,_=>x
def m2:List aj→List aj→List aj
 | x::z,y::c=>ui x y::m2 z c
 | z,_=>z
def oh (z:List aj):dB→List aj
 | .cO c=>m2 z c
 | _=>z
def setCells (c:List aj)(off:Nat)(vs:List aj):List aj:=c.take off++vs++c.drop (off+vs.length)
def nH:List aj→List (Nat×Nat×aj)→Option (List aj)
 | c,[]=>some c
 | c,(off,size,x)::rest =>
  if x.rQ && x.cells.length=size && decide (off+size≤c.length) then nH (setCells c off x.cells) rest else none
def sa (sz:Nat):List (List aj)→List (Nat×aj)→Option (List (List aj))
 | es,[]=>some es
 | es,(i,x)::rest=>if x.rQ && x.cells.length=sz && decide (i<es.length) then sa sz (es.set i x.cells) rest else none
def aN:Option aj→Nat→Option (Nat×List Prop)
 | none,d=>some (d,[])
 | some (.n _ x),_=>some (x.toNat,[0≤x])
 | _,_=>none
def AG (P:Program)(t:TypeId)(parts:List (Nat×aj)):Option e9 :=
 match uG P t,mv P t with
 | some (_,e),some z=>(nH z (parts.map fun p=>(p.1*P.cellsOf e,P.cellsOf e,p.2))).map fun c=>{val:= .agg c}
 | _,_=>none
def c3 (P:Program)(E:Nat→aj)(az:Nat→Option (List ae))(ap:Nat)(o:Oper)(bO:dB):Option e9 :=
 let fc:=c0 E
 match o.op with
 | .move x | .assign x=>some {val:=fc x}
 | .pick c a b =>
  match fc c,bO with
  | .b x,.ad t=>some {val:=if t then fc a else fc b,dn:=[x=t]}
  | .b true,_=>some {val:=fc a}
  | .b false,_=>some {val:=fc b}
  | _,_=>none
 | .alloc t =>
  match mv P t with
  | some c=>some {val:= .ref ap 0 0 0,dQ:=[(ap,[⟨c.length,[c],.live⟩])]}
  | none=>none
 | .box _ x =>
  match fc x with
  | .agg c=>some {val:= .ref ap 0 0 0,dQ:=[(ap,[⟨c.length,[c],.live⟩])]}
  | v=>if v.one then some {val:= .ref ap 0 0 0,dQ:=[(ap,[⟨1,[[v]],.live⟩])]} else none
 | .load t x =>
  match fc x with
  | .ref r k i off =>
   match k1 (az r) k bO with
   | some (J,bt)=>match elemAt J.es i bO with
    | some (c,aY)=>match mB P t c off with
     | some v=>some {val:=v,dn:=bt++aY}
     | none=>none
    | none=>none
   | none=>none
  | .df _ es i off =>
   match elemAt es i bO with
   | some (c,aY)=>match mB P t c off with
    | some v=>some {val:=v,dn:=aY}
    | none=>none
   | none=>none
  | _=>none
 | .store t x y =>
  match fc x with
  | .ref r k i off =>
   match az r with
   | none=>none
   | some row =>
   match k1 (some row) k bO with
   | some (J,bt) =>
    if J.bD≠ .live then none else
    let v:=fc y
    if v.rQ=false then none else
    if v.cells.length≠P.cellsOf t∨(P.info? t).isSome=false then none else
    match bO with
    | .gH=>if off=0 then some {val:= .dead,dQ:=[(r,row.set k {J with es:=J.es.set i v.cells})],dn:=bt++[i<J.es.length,v.cells.length=J.sz]} else none
    | _=>match elemAt J.es i bO with
     | some (c,aY)=>if off+v.cells.length≤c.length then some {val:= .dead,dQ:=[(r,row.set k {J with es:=J.es.set i (setCells c off v.cells)})],dn:=bt++aY} else none
     | none=>none
   | none=>none
  | _=>none
 | .nilCheck x =>
  match fc x with
  | .ref r k i off=>match k1 (az r) k bO with
   | some (J,bt)=>match elemAt J.es i bO with
    | some (_,aY)=>some {val:= .ref r k i off,dn:=bt++aY}
    | none=>none
   | none=>none
  | .df sz es i off=>some {val:= .df sz es i off}
  | .fn f c=>some {val:= .fn f c}
  | _=>none
 | .binOp op t x y _ =>
  match Bf op (fc x) (fc y) with
  | some (v,J)=>some {val:=v,dn:=J}
  | none=>match op with
   | .eql=>(nN P t (fc x) (fc y)).map fun r=>{val:= .b r}
   | .neq=>(nN P t (fc x) (fc y)).map fun r=>{val:= .b (!r)}
   | _=>none
 | .unOp op _ x=>(Bt op (fc x)).map fun v=>{val:=v}
 | .convert src dst x =>
  match P.underlying dst,fc x with
  | some (.int k),.n _ a=>if (P.underlying src).isSome then some {val:= .n k (k.wrap a)} else none
  | some .string,.a1 r k bS len =>
   match (l6 P src).bind P.underlying,ck (az r) k with
   | some (.int .u8),some J=>match bytesOf ((J.es.drop bS).take len) with
    | some kd=>if bS+len≤J.es.length∧J.sz=1 then some {val:= .s (nL kd)} else none
    | none=>none
   | _,_=>none
  | _,_=>none
 | .makeFunc (.func f) first captured =>
  if first.size=0 then some {val:= .fn f (captured.toList.map fc)} else none
 | .makeSlice t l c =>
  match l6 P t,fc l,fc c with
  | some e,.n _ l,.n _ c =>
   match P.info? e,mv P e with
   | some i,some z=>if z.length=i.size then some {val:= .a1 ap 0 0 l.toNat,dQ:=[(ap,[⟨z.length,List.replicate l.toNat (oh z bO),.live⟩])],dn:=[0≤l,l≤c,(i.bytes:Int)*c≤281474976710656,c<9223372036854775808]} else none
   | _,_=>none
  | _,_,_=>none
 | .fieldAddr t x f =>
  match fieldsOf P t with
  | some hN=>match hN[f]? with
   | some fd=>if P.cellsOf fd.type=0 then none else
    match fc x with
    | .ref r k i off=>match k1 (az r) k bO with
     | some (J,bt)=>match elemAt J.es i bO with
      | some (_,aY)=>some {val:= .ref r k i (off+fd.offset),dn:=bt++aY}
      | none=>none
     | none=>none
    | .df sz es i off=>some {val:= .df sz es i (off+fd.offset)}
    | _=>none
   | none=>none
  | none=>none
 | .field t x f =>
  match fieldsOf P t with
  | some hN=>match hN[f]?,fc x with
   | some fd,.agg c=>(mB P fd.type c fd.offset).map fun v=>{val:=v}
   | _,_=>none
  | none=>none
 | .indexAddr t x hl =>
  match l6 P t,fc hl with
  | some e,.n _ j =>
   match fc x with
   | .isl sz es=>if sz=P.cellsOf e∧sz≠0 then some {val:= .df sz es j.toNat 0,dn:=[0≤j,j<es.length]} else none
   | .a1 r k bS len=>match az r with
    | some row=>match k1 (some row) k bO with
     | some (J,bt)=>if J.sz=P.cellsOf e∧J.sz≠0 then some {val:= .ref r k (bS+j.toNat) 0,dn:=bt++[0≤j,j<len]} else none
     | none=>none
    | none=>none
   | _=>none
  | _,_=>r9 P az t (fc x) (fc hl) bO
 | .index t x hl =>
  match P.underlying t,fc x,fc hl with
  | some .string,.s s,.n _ j=>some {val:= .n .u8 (s.data.toList.getD j.toNat 0).toNat,dn:=[0≤j,j<s.size]}
  | _,_,_=>A0 P t (fc x) (fc hl)
 | .extract x i =>
  match fc x with
  | .dm vs=>(vs[i]?).map fun v=>{val:=v}
  | _=>none
 | .slice t x bS an none =>
  match P.underlying t,fc x with
  | some (.slice e),.isl sz es =>
   match aN (bS.map fc) 0,aN (an.map fc) es.length with
   | some (l,bt),some (h,aY)=>if sz=P.cellsOf e∧sz≠0 then some {val:= .isl sz ((es.drop l).take (h-l)),dn:=bt++aY++[l≤h,h≤es.length]} else none
   | _,_=>none
  | some (.slice e),.a1 r k GB len =>
   match az r with
   | none=>none
   | some row=>match k1 (some row) k bO with
    | none=>none
    | some (J,GC) =>
     match aN (bS.map fc) 0,aN (an.map fc) len with
     | some (l,bt),some (h,aY)=>if J.sz=P.cellsOf e∧J.sz≠0 then some {val:= .a1 r k (GB+l) (h-l),dn:=GC++bt++aY++[l≤h,h≤len]} else none
     | _,_=>none
  | some .string,.s s =>
   match aN (bS.map fc) 0,aN (an.map fc) s.size with
   | some (l,bt),some (h,aY)=>some {val:= .s (s.extract l h),dn:=bt++aY++[l≤h,h≤s.size]}
   | _,_=>none
  | _,_=>none
 | .build t parts =>
  match fieldsOf P t,mv P t with
  | some hN,some z =>
   if hN.toList.all (fun f=>(P.info? f.type).isSome)=false then none else
   match parts.toList.mapM fun (p:Nat×Operand)=>(hN[p.1]?).map fun fd=>(fd.offset,P.cellsOf fd.type,fc p.2) with
   | some l=>(nH z l).map fun c=>{val:= .agg c}
   | none=>none
  | _,_=>AG P t (parts.toList.map fun p=>(p.1,fc p.2))
 | .buildSlice t len parts =>
  match l6 P t with
  | some e=>match mv P e with
   | some z =>
    if len*z.length>16777216∨z.length≠P.cellsOf e∨z.length=0 then none else
    match sa z.length (List.replicate len z) (parts.toList.map fun p=>(p.1,fc p.2)) with
    | some es=>some {val:= .a1 ap 0 0 len,dQ:=[(ap,[⟨z.length,es,.live⟩])]}
    | none=>none
   | none=>none
  | none=>none
 | .call {callee:= .builtin .len,args,argTypes} =>
  match args.toList.map fc,P.underlying (argTypes.getD 0 0),decide (argTypes.size=1) with
  | [.isl _ es],some (.slice _),true=>some {val:= .n .i64 es.length}
  | [.a1 r k _ len],some (.slice _),true=>match az r with
   | some row=>match k1 (some row) k bO with
    | some (_,bt)=>some {val:= .n .i64 len,dn:=bt}
    | none=>none
   | none=>none
  | [.cv],some (.slice _),true=>some {val:= .n .i64 0}
  | [.s x],some .string,true=>some {val:= .n .i64 x.size}
  | _,_,_=>none
 | _=>none
end Go.VL
namespace Go.VL
set_option linter.unusedVariables false
set_option linter.unusedSimpArgs false
open Go
theorem lC {α:Type}{sz:Nat}(cf:0<sz): ∀(es:List (List α)) (_ : ∀e∈es,e.length=sz) (j:Nat),
 es.flatten[j]? = (es[j / sz]?).bind (·[j % sz]?)
 | [],_,j=>by simp
 | e::es,h,j=>by
  have he:e.length=sz:=h e (by simp)
  rw [List.flatten_cons,List.getElem?_append]
  by_cases aq:j<sz
  ·rw [if_pos (by omega),Nat.div_eq_of_lt aq,Nat.mod_eq_of_lt aq];simp
  ·rw [if_neg (by omega),he,lC cf es (fun cW iZ=>h cW (by simp [iZ])) (j-sz)]
   have h1:j / sz=(j-sz) / sz+1:=Nat.div_eq_sub_div cf (by omega)
   have h2:j % sz=(j-sz) % sz:=Nat.mod_eq_sub_mod (by omega)
   rw [h1,h2];simp
theorem tP {α:Type}{sz:Nat}{es:List (List α)}(aA:∀e∈es,e.length=sz){i:Nat}{c:List α}(he:es[i]? = some c){j:Nat}(aq:j<sz):
 es.flatten[i*sz+j]? = c[j]? := by
 have cf:0<sz:=by omega
 rw [lC cf es aA]
 have h1:(i*sz+j) / sz=i:=by
  rw [Nat.mul_comm,Nat.mul_add_div cf,Nat.div_eq_of_lt aq];omega
 have h2:(i*sz+j) % sz=j:=by
  rw [Nat.mul_comm,Nat.mul_add_mod,Nat.mod_eq_of_lt aq]
 rw [h1,h2,he];rfl
theorem DB {α:Type}{sz:Nat}{es:List (List α)}(aA:∀e∈es,e.length=sz){i:Nat}{c cw:List α}(he:es[i]? = some c)(aL:cw.length=sz)(j:Nat):
 (es.set i cw).flatten[j]? = if i*sz≤j∧j<i*sz+sz then cw[j-i*sz]? else es.flatten[j]? := by
 rcases Nat.eq_zero_or_pos sz with h0|cf
 ·subst h0
  have e1 : ∀(l:List (List α)),(∀e∈l,e.length=0)→l.flatten=[]:=by
   intro l aA;induction l with
   | nil=>rfl
   | cons a l ih=>rw [List.flatten_cons,ih fun e he=>aA e (by simp [he])];have:=aA a (by simp);simp_all
  rw [e1 _ aA,e1 (es.set i cw) (by
   intro e hm
   rcases List.mem_or_eq_of_mem_set hm with h|h
   ·exact aA e h
   ·exact h▸aL)]
  simp
 ·have Bu : ∀e∈es.set i cw,e.length=sz:=by
   intro e hm
   rcases List.mem_or_eq_of_mem_set hm with h|h
   ·exact aA e h
   ·exact h▸aL
  have an:i<es.length:=by
   rcases Nat.lt_or_ge i es.length with h|h
   ·exact h
   ·rw [List.getElem?_eq_none h] at he;simp at he
  rw [lC cf _ Bu,lC cf _ aA]
  by_cases aD:j / sz=i
  ·have h1:i*sz≤j∧j<i*sz+sz:=by
    subst aD
    constructor
    ·exact Nat.div_mul_le_self j sz
    ·have:=Nat.lt_div_mul_add (a:=j) cf;omega
   rw [if_pos h1,aD,List.getElem?_set_self an]
   have:j % sz=j-i*sz:=by
    subst aD;have:=Nat.div_add_mod j sz;rw [Nat.mul_comm] at this;omega
   simp [this]
  ·have h1 : ¬(i*sz≤j∧j<i*sz+sz):=by
    rintro ⟨a,b⟩
    apply aD
    obtain ⟨d,rfl⟩ : ∃d,j=i*sz+d:=⟨j-i*sz,by omega⟩
    rw [Nat.mul_comm i sz,Nat.mul_add_div cf,Nat.div_eq_of_lt (by omega)]
    omega
   rw [if_neg h1,List.getElem?_set_ne (Ne.symm aD)]
def k8 (w:World)(ok:Nat→Prop)(ay:gh)(aC:fZ)(cH o sz:Nat)(es:List (List aj)):Prop :=
 (∀e∈es,e.length=sz)∧ ∀(j:Nat) x,es.flatten[j]? = some x→ ∃v,w.cell? ⟨cH,o+j,none⟩=some v∧hd v=true∧Rel w ok ay aC x v
theorem f9.rd {w:World}{ok:Nat→Prop}{ay:gh}{aC:fZ}{o:ae}{cH m:Nat}(h:f9 w ok ay aC o (some (cH,m))):k8 w ok ay aC cH 0 o.sz o.es:=by
 obtain ⟨c,cU,h1,h2,af,ax⟩:=h
 refine ⟨af,fun j x I=> ?_⟩
 obtain ⟨v,e1,e2,br⟩:=ax j x I
 exact ⟨v,by rw [cell_of_row w cH (0+j) c cU (0,0) h1,Nat.zero_add];exact e1,e2,br⟩
theorem PL {w:World}{ok:Nat→Prop}{ay:gh}{aC:fZ}{x:aj}{v:Value}(h:Rel w ok ay aC x v)(U:x.one=true):v.oneCell'=true:=h.hd U
theorem D5 {P:Program}{t:TypeId}(h:(P.underlying t).isSome=true)(w:World):(isAgg t).run P w = .ok (uh P t) w:=by
 cases bg:P.underlying t with
 | none=>simp [bg] at h
 | some d=>cases d<;>simp [isAgg,uh,run_underlying bg,bg]
theorem n8 {P:Program}{t:TypeId}(h:(P.info? t).isSome=true)(w:World):(sizeOf t).run P w = .ok (P.cellsOf t) w:=by
 cases an:P.info? t with
 | none=>simp [an] at h
 | some i=>simp [sizeOf,typeInfo,an,Program.cellsOf]
theorem mY (b o n:Nat):(⟨b,o,none⟩:Addr).add n=⟨b,o+n,none⟩:=by unfold Addr.add;split<;>simp_all
theorem Ar {P:Program}{w:World}{ok:Nat→Prop}{ay:gh}{aC:fZ}{cH o sz i off:Nat}{es:List (List aj)}{c:List aj}{t:TypeId}{x:aj}
 (fH:k8 w ok ay aC cH o sz es) (he:es[i]? = some c) (bP:mB P t c off=some x) :
 ∃v,(Instr.loadAt t (.pointer (some ⟨cH,o+(i*sz+off),none⟩))).run P w = .ok v w∧Rel w ok ay aC x v:=by
 have hlen:c.length=sz:=fH.1 c (List.mem_of_getElem? he)
 unfold mB at bP
 split at bP
 ·simp at bP
 ·rename_i an
  simp only [Bool.not_eq_true',Bool.not_eq_false,Bool.and_eq_true] at an
  have g5 : ∀j,j<sz→ ∃y v,c[j]? = some y∧w.cell? ⟨cH,o+(i*sz+j),none⟩=some v∧hd v=true∧Rel w ok ay aC y v:=by
   intro j aq
   have aI:c[j]? = some c[j]:=List.getElem?_eq_getElem (by omega)
   obtain ⟨v,e1,e2,br⟩:=fH.2 (i*sz+j) c[j] (by rw [tP fH.1 he aq,aI])
   exact ⟨_,v,aI,e1,e2,br⟩
  simp only [Instr.loadAt,Instr.sureAddr,loadVar,Sem.run_bind,Sem.run_pure,Result.andThen,D5 an.1,n8 an.2]
  split at bP
  ·rename_i na
   rw [na]
   split at bP
   ·rename_i hle
    simp at bP;subst bP
    have aA:=run_loadCells (P:=P) w ⟨cH,o+(i*sz+off),none⟩ (P.cellsOf t) (fun j=>(w.cell? ⟨cH,o+(i*sz+(off+j)),none⟩).getD undef) (by
     intro j aq
     obtain ⟨y,v,-,e1,-,-⟩:=g5 (off+j) (by omega)
     rw [mY,show o+(i*sz+off)+j=o+(i*sz+(off+j)) by omega,e1];rfl)
    refine ⟨.agg (List.map (fun j=>(w.cell? ⟨cH,o+(i*sz+(off+j)),none⟩).getD undef) (List.range (P.cellsOf t))).toArray,by simp [aA,Result.andThen,n8 an.2],?_⟩
    refine .agg _ (by simp;omega) ?_ ?_
    ·intro j v aS
     rw [List.getElem?_map,Option.map_eq_some_iff] at aS
     obtain ⟨q,o6,rfl⟩:=aS
     obtain ⟨Bv,Bw⟩:=List.getElem?_eq_some_iff.1 o6
     have aD:j<P.cellsOf t:=by simpa using Bv
     obtain rfl:j=q:=by simpa using Bw
     obtain ⟨y,v,-,e1,e2,-⟩:=g5 (off+j) (by omega)
     rw [e1];exact e2
    ·intro j y v aI aS
     rw [List.getElem?_map,Option.map_eq_some_iff] at aS
     obtain ⟨q,o6,rfl⟩:=aS
     obtain ⟨Bv,Bw⟩:=List.getElem?_eq_some_iff.1 o6
     have aD:j<P.cellsOf t:=by simpa using Bv
     obtain rfl:j=q:=by simpa using Bw
     rw [List.getElem?_take,if_pos aD,List.getElem?_drop] at aI
     obtain ⟨ke,v,h0,e1,e2,br⟩:=g5 (off+j) (by omega)
     rw [h0] at aI;simp at aI;subst aI
     rw [e1];exact br
   ·simp at bP
  ·rename_i na
   have na:uh P t=false:=by simpa using na
   rw [na]
   split at bP
   ·rename_i y aI
    split at bP
    ·simp at bP;subst bP
     have si:off<sz:=by
      rcases Nat.lt_or_ge off c.length with h|h
      ·omega
      ·rw [List.getElem?_eq_none h] at aI;simp at aI
     obtain ⟨ke,v,h0,e1,e2,br⟩:=g5 off si
     rw [h0] at aI;simp at aI;subst aI
     exact ⟨v,by simp [e1],br⟩
    ·simp at bP
   ·simp at bP
theorem Di {c:List aj}{off:Nat}{vs:List aj}(h:off+vs.length≤c.length):(setCells c off vs).length=c.length:=by
 simp [setCells];omega
theorem Aj {c:List aj}{off:Nat}{vs:List aj}(h:off+vs.length≤c.length)(j:Nat):
 (setCells c off vs)[j]? = if off≤j∧j<off+vs.length then vs[j-off]? else c[j]? := by
 unfold setCells
 rw [List.append_assoc,List.getElem?_append]
 have h1:(c.take off).length=off:=by simp;omega
 rw [h1]
 by_cases a:j<off
 ·rw [if_pos a,if_neg (by omega),List.getElem?_take,if_pos a]
 ·rw [if_neg a,List.getElem?_append]
  by_cases b:j<off+vs.length
  ·rw [if_pos (by omega),if_pos ⟨by omega,b⟩]
  ·rw [if_neg (by omega),if_neg (by omega),List.getElem?_drop]
   congr 1;omega
theorem MD {c:Array Value}{p:Nat}{vs:List Value}(h:p+vs.length≤c.size)(j:Nat):
 (c.toList.take p++vs++c.toList.drop (p+vs.length)).toArray[j]? = if p≤j∧j<p+vs.length then vs[j-p]? else c[j]? := by
 rw [List.getElem?_toArray,List.append_assoc,List.getElem?_append]
 have h1:(c.toList.take p).length=p:=by simp;omega
 rw [h1]
 by_cases a:j<p
 ·rw [if_pos a,if_neg (by omega),List.getElem?_take,if_pos a,Array.getElem?_toList]
 ·rw [if_neg a,List.getElem?_append]
  by_cases b:j<p+vs.length
  ·rw [if_pos (by omega),if_pos ⟨by omega,b⟩]
  ·rw [if_neg (by omega),if_neg (by omega),List.getElem?_drop,Array.getElem?_toList]
   congr 1;omega
theorem Km {P:Program}{g:G}{s:S}{ag:dw}{a:Act}{w:World}(h:bR g s ag a w){r k b m i off:Nat}{l:List ae}{o:ae}{c:List aj}
 (ak:s.az r=some l) (U:s.J r k=some o) (aV:o.bD = .live) (aa:ag r k=some (b,m)) (he:o.es[i]? = some c)
 {t:TypeId} (Bx:(P.info? t).isSome=true) {x:aj} {v:Value} (I:Rel w (s.ok g ag w) s.ay (s.aC ag) x v) (iX:x.one=true∨ ∃c,x = .agg c)
 (c5:x.cells.length=P.cellsOf t) (fF:off+x.cells.length≤c.length) :
 ∃a5,(Instr.storeAt t (.pointer (some ⟨b,i*o.sz+off,none⟩)) v).run P w = .ok () a5 ∧
  bR g (s.setRow r (l.set k {o with es:=o.es.set i (setCells c off x.cells)})) ag a a5:=by
 obtain ⟨vs,aS,so,g5,dj⟩:=I.cellsOf iX
 have aF:=h.obj r k o U
 rw [aa] at aF
 obtain ⟨bB,cU,h1,h2,af,ax⟩:=aF
 have hlen:c.length=o.sz:=af c (List.mem_of_getElem? he)
 have sj:i*o.sz+off+vs.length≤bB.size:=by
  rcases Nat.eq_zero_or_pos o.sz with cn|cn
  ·have:off=0:=by omega
   have:vs.length=0:=by omega
   rw [cn];omega
  ·have aA:o.es.flatten[i*o.sz+(o.sz-1)]? = some (c[o.sz-1]'(by omega)):=by
    rw [tP af he (by omega)];exact List.getElem?_eq_getElem (by omega)
   obtain ⟨GD,e1,-,-⟩:=ax _ _ aA
   have:=(Array.getElem?_eq_some_iff.1 e1).1
   omega
 have jg:=run_storeCells_at P b (i*o.sz+off) cU vs 0 bB w h1 (by simpa using sj) (fun GD xr=>by
  obtain ⟨q,aD⟩:=List.getElem?_of_mem xr
  exact g5 q GD aD)
 simp only [Nat.add_zero] at jg
 have fY:(Instr.storeAt t (.pointer (some ⟨b,i*o.sz+off,none⟩)) v).run P w =
  .ok () (w.setRow b (bB.toList.take (i*o.sz+off)++vs++bB.toList.drop (i*o.sz+off+vs.length)).toArray):=by
  have cf:v.cells.size=P.cellsOf t:=by rw [aS];simpa using so.trans c5
  simp only [Instr.storeAt,Instr.sureAddr,storeVar,Sem.run_bind,Sem.run_pure,Result.andThen,n8 Bx,cf,ne_eq,not_true_eq_false,if_false]
  rw [aS]
  simpa using jg
 refine ⟨_,fY,?_⟩
 have NA:(w.setRow b (bB.toList.take (i*o.sz+off)++vs++bB.toList.drop (i*o.sz+off+vs.length)).toArray).heap.size=w.heap.size:=size_setRow _ _ _
 have qc:(setCells c off x.cells).length=o.sz:=by rw [Di fF];exact hlen
 refine (h.write ak U aV aa _ _ cU (setRow_heap w b bB _ cU _ h1) NA (fun q aD=>setRow_other w b q _ aD) rfl rfl rfl ?_ ?_ ?_).1
 ·simp;omega
 ·intro e hm
  rcases List.mem_or_eq_of_mem_set hm with bY|bY
  ·exact af e bY
  ·exact bY▸qc
 ·intro j y aI
  rw [MD sj]
  rw [DB af he qc] at aI
  by_cases j4:i*o.sz≤j∧j<i*o.sz+o.sz
  ·rw [if_pos j4,Aj fF] at aI
   by_cases FG:off≤j-i*o.sz∧j-i*o.sz<off+x.cells.length
   ·rw [if_pos FG] at aI
    rw [if_pos ⟨by omega,by omega⟩]
    have aD:j-(i*o.sz+off)<vs.length:=by omega
    refine ⟨vs[j-(i*o.sz+off)],List.getElem?_eq_getElem aD,g5 _ _ (List.getElem?_eq_getElem aD),dj (j-i*o.sz-off) y _ aI ?_⟩
    rw [show j-i*o.sz-off=j-(i*o.sz+off) by omega]
    exact List.getElem?_eq_getElem aD
   ·rw [if_neg FG] at aI
    rw [if_neg (by omega)]
    refine ax j y ?_
    rw [show j=i*o.sz+(j-i*o.sz) by omega,tP af he (by omega)]
    exact aI
  ·rw [if_neg j4] at aI
   rw [if_neg (by rw [so];omega)]
   exact ax j y aI
end Go.VL
namespace Go.VL
set_option linter.unusedVariables false
set_option linter.unusedSimpArgs false
open Go
def S.fs (s:S)(u:List (Nat×List ae)):S:=u.foldl (fun s p=>s.setRow p.1 p.2) s
@[simp] theorem S.PX (s:S):s.fs []=s:=rfl
@[simp] theorem S.PY (s:S) (p:Nat×List ae):s.fs [p]=s.setRow p.1 p.2:=rfl
section
variable {w:World} {ok:Nat→Prop} {ay:gh} {aC:fZ} {v:Value}
theorem Rel.oZ {x:Bool}(h:Rel w ok ay aC (.b x) v):v = .bool x:=by cases h;rfl
theorem Rel.kU {k:IntKind}{x:Int}(h:Rel w ok ay aC (.n k x) v):v = .int k x:=by cases h;rfl
theorem Rel.sb {x:ByteArray}(h:Rel w ok ay aC (.s x) v):v = .string x:=by cases h;rfl
theorem Rel.pL (h:Rel w ok ay aC .fX v):v = .pointer none:=by cases h;rfl
theorem Rel.lY (h:Rel w ok ay aC .cv v):v = .slice none 0 0:=by cases h;rfl
theorem Rel.wV (h:Rel w ok ay aC .gb v): ∃a c,v = .slice (some a) 0 c:=by cases h;exact ⟨_,_,rfl⟩
theorem Rel.Er {sz:Nat}(h:Rel w ok ay aC (.g6 sz none) v):v = .pointer none:=by cases h;rfl
theorem Rel.AH {sz:Nat}{c:List aj}(h:Rel w ok ay aC (.g6 sz (some c)) v):Rel w ok ay aC (.df sz [c] 0 0) v:=by cases h;assumption
theorem Rel.w5 {f:Nat}{c:List aj}(h:Rel w ok ay aC (.fn f c) v): ∃vs:List Value,v = .func (.func f) #[] vs.toArray∧vs.length=c.length ∧
 ∀(j:Nat) x u,c[j]? = some x→vs[j]? = some u→Rel w ok ay aC x u:=by
 cases h with|fn vs aA ak=>exact ⟨vs,rfl,aA,ak⟩
theorem Rel.rU {c:List aj}(h:Rel w ok ay aC (.agg c) v): ∃vs:List Value,v = .agg vs.toArray∧vs.length=c.length∧(∀(j:Nat) u,vs[j]? = some u→VL.hd u=true) ∧
 ∀(j:Nat) x u,c[j]? = some x→vs[j]? = some u→Rel w ok ay aC x u:=by
 cases h with|agg vs aA aL ak=>exact ⟨vs,rfl,aA,aL,ak⟩
theorem Rel.rV {c:List aj}(h:Rel w ok ay aC (.dm c) v): ∃vs:List Value,v = .tuple vs.toArray∧vs.length=c.length ∧
 ∀(j:Nat) x u,c[j]? = some x→vs[j]? = some u→Rel w ok ay aC x u:=by
 cases h with|dm vs aA ak=>exact ⟨vs,rfl,aA,ak⟩
theorem Rel.pQ {r k i off sz:Nat}{p:Option (Nat×Nat)}(h:Rel w ok ay aC (.ref r k i off) v)(bP:aC r k=some (sz,p)):
 p=none∨ ∃b m,p=some (b,m)∧v = .pointer (some ⟨b,i*sz+off,none⟩):=by
 cases h with
 | l2 a hu a6 =>
  cases p with
  | none=>exact .inl rfl
  | some q=>exact absurd bP (a6 _ _)
 | ref hu h =>
  rw [bP] at h
  simp only [Option.some.injEq,Prod.mk.injEq] at h
  obtain ⟨rfl,rfl⟩:=h
  exact .inr ⟨_,_,rfl,rfl⟩
theorem Rel.P9 {r k i off:Nat}(h:Rel w ok ay aC (.ref r k i off) v): ∃a,v = .pointer a:=by
 cases h with
 | l2 a=>exact ⟨a,rfl⟩
 | ref=>exact ⟨_,rfl⟩
theorem Rel.D6 {r k i off sz b m:Nat}(h:Rel w ok ay aC (.ref r k i off) v)(bP:aC r k=some (sz,some (b,m)))(FH:Nat):
 Rel w ok ay aC (.ref r k i FH) (.pointer (some ⟨b,i*sz+FH,none⟩)):=by
 cases h with
 | l2 a hu a6=>exact absurd bP (a6 _ _)
 | ref hu h=>exact .ref hu bP
theorem Rel.rW {sz i off:Nat}{es:List (List aj)}(h:Rel w ok ay aC (.df sz es i off) v): ∃cH o,(ok cH∧gO es)∧v = .pointer (some ⟨cH,o+(i*sz+off),none⟩)∧k8 w ok ay aC cH o sz es:=by
 cases h with
 | df cs aE aa aA hw aL ak=>exact ⟨_,_,⟨aE,aa⟩,rfl,aA,fun j x I=>⟨cs j,hw j x I,aL j x I,ak j x I⟩⟩
theorem Rel.ub {r k bS len sz:Nat}{p:Option (Nat×Nat)}(h:Rel w ok ay aC (.a1 r k bS len) v)(bP:aC r k=some (sz,p)):
 (p=none∧bS=0∧len=0∧v = .slice none 0 0)∨ ∃b m a c,p=some (b,m)∧v = .slice a len c∧len≤c∧c<9223372036854775808∧(c=0∨(a=some ⟨b,bS*sz,none⟩∧(bS+c)*sz=m)):=by
 cases h with
 | jX a l c hu a6=>rw [bP] at a6;simp at a6
 | km hu h =>
  rw [bP] at h
  simp only [Option.some.injEq,Prod.mk.injEq] at h
  exact .inl ⟨h.2,rfl,rfl,rfl⟩
 | a1 hu h aA aL hm =>
  rw [bP] at h
  simp only [Option.some.injEq,Prod.mk.injEq] at h
  obtain ⟨rfl,rfl⟩:=h
  exact .inr ⟨_,_,_,_,rfl,rfl,aA,aL,hm.2.imp id fun e=>⟨e,hm.1⟩⟩
theorem Rel.pM {r k bS len sz:Nat}{p:Option (Nat×Nat)}(h:Rel w ok ay aC (.a1 r k bS len) v)(bP:aC r k=some (sz,p)):
 (p=none∧bS=0∧len=0∧v = .slice none 0 0)∨ ∃b m a c,p=some (b,m)∧v = .slice a len c∧len≤c∧c<9223372036854775808∧(bS+c)*sz=m∧(c=0∨a=some ⟨b,bS*sz,none⟩):=by
 cases h with
 | jX a l c hu a6=>rw [bP] at a6;simp at a6
 | km hu h =>
  rw [bP] at h
  simp only [Option.some.injEq,Prod.mk.injEq] at h
  exact .inl ⟨h.2,rfl,rfl,rfl⟩
 | a1 hu h aA aL hm =>
  rw [bP] at h
  simp only [Option.some.injEq,Prod.mk.injEq] at h
  obtain ⟨rfl,rfl⟩:=h
  exact .inr ⟨_,_,_,_,rfl,rfl,aA,aL,hm⟩
theorem Rel.PM {r k bS len:Nat}(h:Rel w ok ay aC (.a1 r k bS len) v): ∃a l c,v = .slice a l c:=by
 cases h<;>exact ⟨_,_,_,rfl⟩
theorem Rel.oc {sz:Nat}{es:List (List aj)}(h:Rel w ok ay aC (.isl sz es) v):
 (es=[]∧ ∃a c,v = .slice a 0 c∧(a=none→c=0))∨ ∃cH off c,(ok cH∧gO es)∧v = .slice (some ⟨cH,off,none⟩) es.length c∧es.length≤c∧k8 w ok ay aC cH off sz es:=by
 cases h with
 | gp sz a c h=>exact .inl ⟨rfl,a,c,rfl,h⟩
 | isl cs aE aa aA aL hw fz ak=>exact .inr ⟨_,_,_,⟨aE,aa⟩,rfl,aL,aA,fun j x I=>⟨cs j,hw j x I,fz j x I,ak j x I⟩⟩
theorem k8.isl {cH off c sz:Nat}{es:List (List aj)}(h:k8 w ok ay aC cH off sz es)(aE:ok cH∧gO es)(aL:es.length≤c):Rel w ok ay aC (.isl sz es) (.slice (some ⟨cH,off,none⟩) es.length c):=by
 have I : ∀j:Nat,∃v,∀x,es.flatten[j]? = some x→w.cell? ⟨cH,off+j,none⟩=some v∧VL.hd v=true∧Rel w ok ay aC x v:=by
  intro j
  cases aq:es.flatten[j]? with
  | none=>exact ⟨undef,fun x I=>by simp at I⟩
  | some y =>
   obtain ⟨v,h1⟩:=h.2 j y aq
   exact ⟨v,fun x I=>by simp at I;subst I;exact h1⟩
 exact .isl (fun j=>(I j).choose) aE.1 aE.2 h.1 aL (fun j x aq=>((I j).choose_spec x aq).1) (fun j x aq=>((I j).choose_spec x aq).2.1) (fun j x aq=>((I j).choose_spec x aq).2.2)
theorem k8.df {cH o i off sz:Nat}{es:List (List aj)}(h:k8 w ok ay aC cH o sz es)(aE:ok cH∧gO es):Rel w ok ay aC (.df sz es i off) (.pointer (some ⟨cH,o+(i*sz+off),none⟩)):=by
 have I : ∀j:Nat,∃v,∀x,es.flatten[j]? = some x→w.cell? ⟨cH,o+j,none⟩=some v∧VL.hd v=true∧Rel w ok ay aC x v:=by
  intro j
  cases aq:es.flatten[j]? with
  | none=>exact ⟨undef,fun x I=>by simp at I⟩
  | some y =>
   obtain ⟨v,h1⟩:=h.2 j y aq
   exact ⟨v,fun x I=>by simp at I;subst I;exact h1⟩
 exact .df (fun j=>(I j).choose) aE.1 aE.2 h.1 (fun j x aq=>((I j).choose_spec x aq).1) (fun j x aq=>((I j).choose_spec x aq).2.1) (fun j x aq=>((I j).choose_spec x aq).2.2)
end
def Fin (P:Program)(g:G)(s:S)(a:Act)(w:World)(o:Oper)(aO:e9):Prop :=
 ∃v a5 a0,((execOp a.eval o).run P w = .ok (.value v) a5∨((execOp a.eval o).run P w = .ok .skip a5∧v=undef)) ∧
  bR g (s.fs aO.dQ) a0 a a5∧Rel a5 ((s.fs aO.dQ).ok g a0 a5) (s.fs aO.dQ).ay ((s.fs aO.dQ).aC a0) aO.val v
section
variable {P:Program} {g:G} {s:S} {ag:dw} {a:Act} {w:World} {o:Oper} {bO:dB} {ap:Nat} {aO:e9}
theorem fp (h:bR g s ag a w){v:Value}(fY:(execOp a.eval o).run P w = .ok (.value v) w)(hu:aO.dQ=[])
 (ak:Rel w (s.ok g ag w) s.ay (s.aC ag) aO.val v):Fin P g s a w o aO :=
 ⟨v,w,ag,.inl fY,by rw [hu];exact h,by rw [hu];exact ak⟩
theorem EO {x:Operand}(h:bR g s ag a w)(U:o.op = .move x∨o.op = .assign x)(ab:c3 P s.E s.az ap o bO=some aO):Fin P g s a w o aO:=by
 have:aO={val:=c0 s.E x}:=by rcases U with U|U<;>simp [c3,U] at ab<;>exact ab.symm
 subst this
 refine fp (v:=a.eval x) h ?_ rfl (h.eval x)
 rcases U with U|U<;>simp [execOp,U]
theorem L7 {c x y:Operand}(h:bR g s ag a w)(U:o.op = .pick c x y)(ab:c3 P s.E s.az ap o bO=some aO)(bF:∀p∈aO.dn,p):Fin P g s a w o aO:=by
 have aL:=h.eval c
 simp only [c3,U] at ab
 have key : ∀t:Bool,c0 s.E c = .b t→aO.dQ=[]→aO.val=(if t then c0 s.E x else c0 s.E y)→Fin P g s a w o aO:=by
  intro t bP hu aS
  rw [bP] at aL
  have e:a.eval c = .bool t:=aL.oZ
  refine fp (v:=if t then a.eval x else a.eval y) h (by simp [execOp,U,e,asBool]) hu ?_
  rw [aS];cases t
  ·exact h.eval y
  ·exact h.eval x
 split at ab
 ·rename_i z t cn
  simp at ab;subst ab
  have e:z=t:=bF _ (by simp)
  subst e
  exact key z cn rfl rfl
 ·rename_i cn _;simp at ab;subst ab;exact key true cn rfl rfl
 ·rename_i cn _;simp at ab;subst ab;exact key false cn rfl rfl
 ·simp at ab
theorem wW (h:bR g s ag a w)(c6:s.az ap=none){v:Value}{J:ae}{c:Array Value}{cU:TypeId}(aV:J.bD = .live)
 (fY:(execOp a.eval o).run P w = .ok (.value v) (w.alloc (.cells c cU))) (hu:aO.dQ=[(ap,[J])]) (hlen : ∀e∈J.es,e.length=J.sz)
 (aL : ∀(j:Nat) x,J.es.flatten[j]? = some x→ ∃v,c[j]? = some v∧hd v=true∧Rel w (s.ok g ag w) s.ay (s.aC ag) x v)
 (hval : ∀(a5:World) (je:Nat→Prop) (jF:gh) (jf:fZ),jF ap 0→jf ap 0=some (J.sz,some (w.heap.size,c.size))→Rel a5 je jF jf aO.val v):Fin P g s a w o aO:=by
 obtain ⟨a0,aa,cf,-⟩:=h.alloc c6 J aV c cU hlen aL
 have h1:(s.setRow ap [J]).ay ap 0:=by rw [jW];simp
 have h2:(s.setRow ap [J]).aC a0 ap 0=some (J.sz,some (w.heap.size,c.size)):=by simp [S.aC,iG,ja,aV,aa]
 exact ⟨v,_,a0,.inl fY,by rw [hu];exact cf,by rw [hu];exact hval _ _ _ _ h1 h2⟩
theorem tQ {t:TypeId}{z:List aj}(cn:mv P t=some z): ∃i cQ,P.info? t=some i∧i.zero=some cQ∧z=cQ.cells.toList.map ofValue ∧
 ∀(j:Nat) x,z[j]? = some x→ ∃v,cQ.cells[j]? = some v∧hd v=true∧ ∀(w:World) (ok:Nat→Prop) (ay:gh) (aC:fZ),Rel w ok ay aC x v:=by
 unfold mv at cn
 cases an:P.info? t with
 | none=>simp [an] at cn
 | some i =>
  cases hK:i.zero with
  | none=>simp [an,hK] at cn
  | some cQ =>
   simp only [an,hK] at cn
   split at cn
   ·rename_i kx
    simp only [Option.some.injEq] at cn
    refine ⟨i,cQ,rfl,hK,cn.symm,fun j x I=> ?_⟩
    subst cn
    rw [List.getElem?_map,Option.map_eq_some_iff] at I
    obtain ⟨v,aS,rfl⟩:=I
    refine ⟨v,by rw [← Array.getElem?_toList];exact aS,?_,fun w ok ay aC=>Dz v⟩
    exact List.all_eq_true.1 kx v (List.mem_of_getElem? aS)
   ·simp at cn
theorem Ls {t:TypeId}(h:bR g s ag a w)(c6:s.az ap=none)(U:o.op = .alloc t)(ab:c3 P s.E s.az ap o bO=some aO):Fin P g s a w o aO:=by
 simp only [c3,U] at ab
 split at ab
 ·rename_i z cn
  obtain ⟨i,cQ,an,hK,e,g5⟩:=tQ cn
  simp only [Option.some.injEq] at ab
  subst ab
  refine wW (v:= .pointer (some ⟨w.heap.size,0,none⟩)) (c:=cQ.cells) (cU:=t) (J:=⟨z.length,[z],.live⟩) h c6 rfl ?_ rfl (by simp) ?_ ?_
  ·simp [execOp,U,Instr.alloc,zeroValue,typeInfo,an,hK,newVar,newRow]
  ·intro j x I
   simp only [List.flatten_cons,List.flatten_nil,List.append_nil] at I
   obtain ⟨v,h1,h2,af⟩:=g5 j x I
   exact ⟨v,h1,h2,af _ _ _ _⟩
  ·intro a5 je jF jf hu bP
   have:=Rel.ref (w:=a5) (ok:=je) (i:=0) (off:=0) hu bP
   simpa using this
 ·simp at ab
theorem ME {t:TypeId}{x:Operand}(h:bR g s ag a w)(c6:s.az ap=none)(U:o.op = .box t x)(ab:c3 P s.E s.az ap o bO=some aO):Fin P g s a w o aO:=by
 simp only [c3,U] at ab
 have I:=h.eval x
 have key : ∀J:ae,J.bD = .live→J.es=[(c0 s.E x).cells]→J.sz=(c0 s.E x).cells.length→((c0 s.E x).one=true∨ ∃c,c0 s.E x = .agg c) →
  aO.dQ=[(ap,[J])]→aO.val = .ref ap 0 0 0→Fin P g s a w o aO:=by
  intro J aV e4 c5 iX hu aS
  obtain ⟨vs,e1,e2,br,cS⟩:=I.cellsOf iX
  refine wW (v:= .pointer (some ⟨w.heap.size,0,none⟩)) (c:=(a.eval x).cells) (cU:=t) h c6 aV ?_ hu ?_ ?_ ?_
  ·simp [execOp,U,Instr.box,newVar,newRow]
  ·intro e he;rw [e4] at he;simp at he;rw [he,c5]
  ·intro j y aI
   rw [e4] at aI
   simp only [List.flatten_cons,List.flatten_nil,List.append_nil] at aI
   have aq:j<vs.length:=by
    rcases Nat.lt_or_ge j (c0 s.E x).cells.length with bY|bY
    ·omega
    ·rw [List.getElem?_eq_none bY] at aI;simp at aI
   refine ⟨vs[j],by rw [e1];simp [aq],br j _ (List.getElem?_eq_getElem aq),cS j y _ aI (List.getElem?_eq_getElem aq)⟩
  ·intro a5 je jF jf mH bP
   have:=Rel.ref (w:=a5) (ok:=je) (i:=0) (off:=0) mH bP
   rw [aS];simpa using this
 split at ab
 ·rename_i c aL
  simp only [Option.some.injEq] at ab
  subst ab
  exact key _ rfl (by rw [aL];rfl) (by rw [aL];rfl) (.inr ⟨c,aL⟩) rfl rfl
 ·split at ab
  ·rename_i iX
   simp only [Option.some.injEq] at ab
   subst ab
   have e:(c0 s.E x).cells=[c0 s.E x]:=by
    generalize c0 s.E x=y at iX
    cases y<;>first|rfl|simp [aj.one] at iX
   exact key _ rfl (by rw [e]) (by rw [e];rfl) (.inl iX) rfl rfl
  ·simp at ab
theorem fx {s:S}{ag:dw}{r k:Nat}{J:ae}(h:s.J r k=some J):s.aC ag r k=some (J.sz,ag r k):=by simp [S.aC,h]
theorem od {row:Option (List ae)}{k:Nat}{J:ae}{bt:List Prop}(h:k1 row k bO=some (J,bt))(bF:∀p∈bt,p):ck row k=some J:=by
 unfold k1 at h
 split at h
 ·split at h
  ·simp at h;obtain ⟨rfl,rfl⟩:=h;exact bF _ (by simp)
  ·simp at h
 ·split at h
  ·rename_i bY;simp at h;obtain ⟨rfl,rfl⟩:=h;exact bY
  ·simp at h
theorem rN {es:List (List aj)}{i:Nat}{c:List aj}{bt:List Prop}(h:elemAt es i bO=some (c,bt))(bF:∀p∈bt,p):es[i]? = some c:=by
 unfold elemAt at h
 split at h
 ·simp at h;obtain ⟨rfl,rfl⟩:=h;exact bF _ (by simp)
 ·simp at h;obtain ⟨rfl,rfl⟩:=h;exact bF _ (by simp)
 ·split at h
  ·rename_i bY;simp at h;obtain ⟨rfl,rfl⟩:=h;exact bY
  ·simp at h
theorem L8 {t:TypeId}{x:Operand}(h:bR g s ag a w)(U:o.op = .load t x)(ab:c3 P s.E s.az ap o bO=some aO)(bF:∀p∈aO.dn,p):Fin P g s a w o aO:=by
 simp only [c3,U] at ab
 have I:=h.eval x
 split at ab
 ·rename_i r k i off eJ
  rw [eJ] at I
  split at ab
  ·rename_i J bt aF
   split at ab
   ·rename_i c aY ju
    split at ab
    ·rename_i v aS
     simp only [Option.some.injEq] at ab
     subst ab
     have gG:s.J r k=some J:=od aF fun p aa=>bF p (by simp [aa])
     have lI:=rN ju fun p aa=>bF p (by simp [aa])
     have dj:=h.obj r k J gG
     rcases I.pQ (fx gG) with h0|⟨b,m,aa,hval⟩
     ·rw [h0] at dj
      simp only [f9] at dj
      rw [dj] at lI;simp at lI
     ·rw [aa] at dj
      obtain ⟨u,h1,h2⟩:=Ar (P:=P) dj.rd lI aS
      refine fp (v:=u) h ?_ rfl h2
      rw [Nat.zero_add] at h1
      simp [execOp,U,hval,h1]
    ·simp at ab
   ·simp at ab
  ·simp at ab
 ·rename_i sz es i off eJ
  rw [eJ] at I
  split at ab
  ·rename_i c aY ju
   split at ab
   ·rename_i v aS
    simp only [Option.some.injEq] at ab
    subst ab
    have lI:=rN ju fun p aa=>bF p (by simp [aa])
    obtain ⟨cH,bm,aE,hval,fH⟩:=I.rW
    obtain ⟨u,h1,h2⟩:=Ar (P:=P) fH lI aS
    refine fp (v:=u) h ?_ rfl h2
    simp [execOp,U,hval,h1]
   ·simp at ab
  ·simp at ab
 ·simp at ab
end
end Go.VL
namespace Go.VL
set_option linter.unusedVariables false
set_option linter.unusedSimpArgs false
open Go
section
variable {P:Program} {g:G} {s:S} {ag:dw} {a:Act} {w:World} {o:Oper} {bO:dB} {ap:Nat} {aO:e9}
theorem D7 (h:bR g s ag a w){r k i off:Nat}{row:List ae}{J:ae}{c:List aj}{t:TypeId}{x y:Operand}(U:o.op = .store t x y)
 (eJ:c0 s.E x = .ref r k i off) (ct:s.az r=some row) (aF:s.J r k=some J) (aV:J.bD = .live) (ju:J.es[i]? = some c)
 (iX:(c0 s.E y).one=true∨ ∃c,c0 s.E y = .agg c) (c5:(c0 s.E y).cells.length=P.cellsOf t) (Bx:(P.info? t).isSome=true)
 (fF:off+(c0 s.E y).cells.length≤c.length) (ab:aO.val = .dead) (hu:aO.dQ=[(r,row.set k {J with es:=J.es.set i (setCells c off (c0 s.E y).cells)})]):Fin P g s a w o aO:=by
 have I:=h.eval x
 rw [eJ] at I
 have dj:=h.obj r k J aF
 rcases I.pQ (fx aF) with h0|⟨b,m,aa,hval⟩
 ·rw [h0] at dj;simp only [f9] at dj;rw [dj] at ju;simp at ju
 ·obtain ⟨a5,h1,h2⟩:=Km (P:=P) h ct aF aV aa ju Bx (h.eval y) iX c5 fF
  refine ⟨undef,a5,ag,.inr ⟨?_,rfl⟩,by rw [hu];exact h2,by rw [ab];exact .dead _⟩
  simp [execOp,U,hval,h1]
theorem Lt {t:TypeId}{x y:Operand}(h:bR g s ag a w)(U:o.op = .store t x y)(ab:c3 P s.E s.az ap o bO=some aO)(bF:∀p∈aO.dn,p):Fin P g s a w o aO:=by
 simp only [c3,U] at ab
 split at ab
 ·rename_i r k i off eJ
  split at ab
  ·simp at ab
  ·rename_i row ct
   split at ab
   ·rename_i J bt NB
    split at ab
    ·simp at ab
    ·rename_i aV
     have aV:J.bD = .live:=by simpa using aV
     split at ab
     ·simp at ab
     ·rename_i iX
      have iX:=aj.DA (by simpa using iX)
      split at ab
      ·simp at ab
      ·rename_i c5
       simp only [not_or,Decidable.not_not,Bool.not_eq_false] at c5
       have gG:(∀p∈bt,p)→s.J r k=some J:=fun bV=>by
        have:=od NB bV
        unfold S.J;rw [ct];exact this
       split at ab
       ·split at ab
        ·rename_i si
         simp only [Option.some.injEq] at ab
         subst ab;subst si
         have cE:i<J.es.length:=bF _ (by simp)
         have fz:(c0 s.E y).cells.length=J.sz:=bF _ (by simp)
         have uH:=gG fun p aa=>bF p (by simp [aa])
         have hlen:(J.es[i]).length=J.sz:=by
          have dj:=h.obj r k J uH
          cases aa:ag r k with
          | none=>rw [aa] at dj;simp only [f9] at dj;rw [dj] at cE;simp at cE
          | some q =>
           rw [aa] at dj
           obtain ⟨_,_,_,_,af,_⟩:=dj
           exact af _ (List.getElem_mem cE)
         refine D7 h U eJ ct uH aV (c:=J.es[i]) (List.getElem?_eq_getElem cE) iX c5.1 c5.2 (by omega) rfl ?_
         have e:setCells J.es[i] 0 (c0 s.E y).cells=(c0 s.E y).cells:=by
          simp [setCells,hlen,fz]
         rw [e]
        ·simp at ab
       ·split at ab
        ·rename_i c aY ju
         split at ab
         ·rename_i fF
          simp only [Option.some.injEq] at ab
          subst ab
          exact D7 h U eJ ct (gG fun p aa=>bF p (by simp [aa])) aV (rN ju fun p aa=>bF p (by simp [aa])) iX c5.1 c5.2 fF rfl rfl
         ·simp at ab
        ·simp at ab
   ·simp at ab
 ·simp at ab
theorem Kn {x:Operand}(h:bR g s ag a w)(U:o.op = .nilCheck x)(ab:c3 P s.E s.az ap o bO=some aO)(bF:∀p∈aO.dn,p):Fin P g s a w o aO:=by
 simp only [c3,U] at ab
 have I:=h.eval x
 split at ab
 ·rename_i r k i off eJ
  rw [eJ] at I
  split at ab
  ·rename_i J bt aF
   split at ab
   ·rename_i c aY ju
    simp only [Option.some.injEq] at ab
    subst ab
    have gG:s.J r k=some J:=od aF fun p aa=>bF p (by simp [aa])
    have lI:=rN ju fun p aa=>bF p (by simp [aa])
    have dj:=h.obj r k J gG
    rcases I.pQ (fx gG) with h0|⟨b,m,aa,hval⟩
    ·rw [h0] at dj;simp only [f9] at dj;rw [dj] at lI;simp at lI
    ·refine fp (v:=a.eval x) h ?_ rfl I
     simp [execOp,U,hval]
   ·simp at ab
  ·simp at ab
 ·rename_i sz es i off eJ
  rw [eJ] at I
  simp only [Option.some.injEq] at ab
  subst ab
  obtain ⟨cH,bm,aE,hval,fH⟩:=I.rW
  refine fp (v:=a.eval x) h ?_ rfl I
  simp [execOp,U,hval]
 ·rename_i f c eJ
  rw [eJ] at I
  simp only [Option.some.injEq] at ab
  subst ab
  obtain ⟨vs,hval,-⟩:=I.w5
  refine fp (v:=a.eval x) h ?_ rfl I
  simp [execOp,U,hval]
 ·simp at ab
theorem K3 {op:BinOp}{t:TypeId}{x y z:aj}{J:List Prop}(ab:Bf op x y=some (z,J))(bF:∀p∈J,p)
 {ok:Nat→Prop} {ay:gh} {aC:fZ} {ig ij:Value} (I:Rel w ok ay aC x ig) (aI:Rel w ok ay aC y ij) (p q:Operand) :
 ∃v,((do eqGuard op t p q ig ij;binOp op t ig ij):Sem Value).run P w = .ok v w∧Rel w ok ay aC z v:=by
 unfold Bf at ab
 split at ab
 ·rename_i k n cc jN
  have fJ:=I.kU;have fU:=aI.kU
  subst fJ;subst fU
  have c8 : ∀op,eqGuard op t p q (.int k n) (.int cc jN)=pure ():=fun op=>eqGuard_at_int ..
  simp only [Sem.run_bind,c8,Sem.run_pure,Result.andThen_ok]
  split at ab
  ·simp only [Option.some.injEq,Prod.mk.injEq] at ab
   obtain ⟨rfl,rfl⟩:=ab
   have h0:0≤jN:=bF _ (by simp)
   exact ⟨_,by simp [binOp,Op.shift,show ¬jN<0 by omega],.n _ _⟩
  ·simp only [Option.some.injEq,Prod.mk.injEq] at ab
   obtain ⟨rfl,rfl⟩:=ab
   have h0:0≤jN:=bF _ (by simp)
   exact ⟨_,by simp [binOp,Op.shift,show ¬jN<0 by omega],.n _ _⟩
  ·split at ab
   ·simp at ab
   ·rename_i aV
    have aV:k=cc:=by simpa using aV
    subst aV
    split at ab<;>simp only [Option.some.injEq,Prod.mk.injEq,reduceCtorEq] at ab
    all_goals (obtain ⟨rfl,rfl⟩:=ab)
    case h_4|h_5 =>
     have h0:jN≠0:=bF _ (by simp)
     exact ⟨_,by simp [binOp,Op.intDiv,h0],.n _ _⟩
    all_goals first
     | (refine ⟨_,?_,.n _ _⟩;rw [binOp_add];rfl)
     | (refine ⟨_,?_,.n _ _⟩;rw [binOp_sub];rfl)
     | (refine ⟨_,?_,.n _ _⟩;rw [binOp_mul];rfl)
     | (refine ⟨_,?_,.n _ _⟩;rw [binOp_and];rfl)
     | (refine ⟨_,?_,.n _ _⟩;rw [binOp_or];rfl)
     | (refine ⟨_,?_,.n _ _⟩;rw [binOp_xor];rfl)
     | (refine ⟨_,?_,.b _⟩;simp [binOp,Op.intCmp];done)
 ·rename_i bQ ke
  have fJ:=I.sb;have fU:=aI.sb
  subst fJ;subst fU
  have c8 : ∀op,eqGuard op t p q (.string bQ) (.string ke)=pure ():=fun op=>eqGuard_at_string ..
  simp only [Sem.run_bind,c8,Sem.run_pure,Result.andThen_ok]
  split at ab<;>simp only [Option.some.injEq,Prod.mk.injEq,reduceCtorEq] at ab
  all_goals (obtain ⟨rfl,rfl⟩:=ab)
  ·have h0:bQ.size+ke.size<9223372036854775808:=bF _ (by simp)
   refine ⟨_,?_,.s _⟩
   have h1 : ¬((bQ.size+ke.size:Nat):Int)>IntKind.i64.max:=by rw [IntKind.max_i64];omega
   rw [IntKind.max_i64] at h1
   simp [binOp,Op.stringOp]
   omega
  ·exact ⟨_,by simp [binOp,Op.stringOp],.b _⟩
  ·exact ⟨_,by simp [binOp,Op.stringOp],.b _⟩
 ·simp at ab
theorem pG (t:TypeId)(x y:Value):Op.equal t x y=Op.equalIn (9999+1) t x y:=rfl
theorem tE {t:TypeId}{a b:Bool}(d:Nat)(bg:P.underlying t=some .bool):(Op.equalIn (d+1) t (.bool a) (.bool b)).run P w = .ok (a == b) w:=by
 unfold Op.equalIn;simp [run_underlying bg]
theorem tR {t e:TypeId}(d:Nat)(bg:P.underlying t=some (.pointer e)):(Op.equalIn (d+1) t (.pointer none) (.pointer none)).run P w = .ok true w:=by
 unfold Op.equalIn;simp [run_underlying bg]
theorem tS {t e:TypeId}{a:Addr}(d:Nat)(bg:P.underlying t=some (.pointer e)):(Op.equalIn (d+1) t (.pointer (some a)) (.pointer none)).run P w = .ok false w:=by
 unfold Op.equalIn;simp [run_underlying bg]
theorem tT {t e:TypeId}{a:Addr}(d:Nat)(bg:P.underlying t=some (.pointer e)):(Op.equalIn (d+1) t (.pointer none) (.pointer (some a))).run P w = .ok false w:=by
 unfold Op.equalIn;simp [run_underlying bg]
theorem tU {t e:TypeId}(d:Nat)(bg:P.underlying t=some (.slice e)):(Op.equalIn (d+1) t (.slice none 0 0) (.slice none 0 0)).run P w = .ok true w:=by
 unfold Op.equalIn;simp [run_underlying bg]
theorem DL {t e:TypeId}{a:Addr}{c:Nat}(d:Nat)(bg:P.underlying t=some (.slice e))(n:Nat):(Op.equalIn (d+1) t (.slice (some a) n c) (.slice none 0 0)).run P w = .ok false w:=by
 unfold Op.equalIn;simp [run_underlying bg]
theorem rT {t:TypeId}{x y:aj}{r:Bool}(ab:nN P t x y=some r)
 {ok:Nat→Prop} {ay:gh} {aC:fZ} {ig ij:Value} (I:Rel w ok ay aC x ig) (aI:Rel w ok ay aC y ij) (p q:Operand) :
 ((do eqGuard .eql t p q ig ij;binOp .eql t ig ij):Sem Value).run P w = .ok (.bool r) w ∧
 ((do eqGuard .neq t p q ig ij;binOp .neq t ig ij):Sem Value).run P w = .ok (.bool !r) w:=by
 have key : ∀b:Bool,(∀op,eqGuard op t p q ig ij=pure ())→binOp .eql t ig ij=(do pure (.bool (← Op.equal t ig ij)))→binOp .neq t ig ij=(do pure (.bool (!(← Op.equal t ig ij)))) →
  (Op.equal t ig ij).run P w = .ok b w→((do eqGuard .eql t p q ig ij;binOp .eql t ig ij):Sem Value).run P w = .ok (.bool b) w ∧
  ((do eqGuard .neq t p q ig ij;binOp .neq t ig ij):Sem Value).run P w = .ok (.bool !b) w:=by
  intro b c8 h1 h2 af
  constructor
  ·rw [c8,h1];simp [af]
  ·rw [c8,h2];simp [af]
 unfold nN at ab
 split at ab
 ·rename_i bQ ke bg
  simp only [Option.some.injEq] at ab;subst ab
  have fJ:=I.oZ;have fU:=aI.oZ
  subst fJ;subst fU
  exact key _ (fun op=>eqGuard_at_bool ..) rfl rfl (by rw [pG];first|exact tE _ bg|exact tR _ bg|exact tS _ bg|exact tT _ bg|exact tU _ bg)
 ·rename_i e bg
  simp only [Option.some.injEq] at ab;subst ab
  have fJ:=I.pL;have fU:=aI.pL
  subst fJ;subst fU
  exact key _ (fun op=>eqGuard_at_pointer ..) rfl rfl (by rw [pG];first|exact tE _ bg|exact tR _ bg|exact tS _ bg|exact tT _ bg|exact tU _ bg)
 ·rename_i e sz es i off bg
  simp only [Option.some.injEq] at ab;subst ab
  obtain ⟨cH,bm,-,fJ,-⟩:=I.rW
  have fU:=aI.pL
  subst fJ;subst fU
  exact key _ (fun op=>eqGuard_at_pointer ..) rfl rfl (by rw [pG];first|exact tE _ bg|exact tR _ bg|exact tS _ bg|exact tT _ bg|exact tU _ bg)
 ·rename_i e sz es i off bg
  simp only [Option.some.injEq] at ab;subst ab
  obtain ⟨cH,bm,-,fU,-⟩:=aI.rW
  have fJ:=I.pL
  subst fJ;subst fU
  exact key _ (fun op=>eqGuard_at_pointer ..) rfl rfl (by rw [pG];first|exact tE _ bg|exact tR _ bg|exact tS _ bg|exact tT _ bg|exact tU _ bg)
 ·rename_i e bg
  simp only [Option.some.injEq] at ab;subst ab
  have fJ:=I.lY;have fU:=aI.lY
  subst fJ;subst fU
  exact key _ (fun op=>eqGuard_at_slice ..) rfl rfl (by rw [pG];first|exact tE _ bg|exact tR _ bg|exact tS _ bg|exact tT _ bg|exact tU _ bg)
 ·rename_i e bg
  simp only [Option.some.injEq] at ab;subst ab
  obtain ⟨qu,c,fJ⟩:=I.wV
  have fU:=aI.lY
  subst fJ;subst fU
  exact key _ (fun op=>eqGuard_at_slice ..) rfl rfl (by rw [pG];exact DL _ bg 0)
 ·simp at ab
theorem E6 {t e:TypeId}(bg:P.underlying t=some (.slice e)){sz:Nat}{es:List (List aj)}(cb:es≠[])
 {ok:Nat→Prop} {ay:gh} {aC:fZ} {ig ij:Value} (I:Rel w ok ay aC (.isl sz es) ig) (aI:Rel w ok ay aC .cv ij) (p q:Operand) :
 ((do eqGuard .eql t p q ig ij;binOp .eql t ig ij):Sem Value).run P w = .ok (.bool false) w ∧
 ((do eqGuard .neq t p q ig ij;binOp .neq t ig ij):Sem Value).run P w = .ok (.bool true) w:=by
 rcases I.oc with ⟨h0,-⟩|⟨cH,off,c,-,fJ,-⟩
 ·exact absurd h0 cb
 ·have fU:=aI.lY
  subst fJ;subst fU
  have af:(Op.equal t (.slice (some ⟨cH,off,none⟩) es.length c) (.slice none 0 0)).run P w = .ok false w:=by rw [pG];exact DL _ bg _
  have c8 : ∀op,eqGuard op t p q (.slice (some ⟨cH,off,none⟩) es.length c) (.slice none 0 0)=pure ():=fun op=>eqGuard_at_slice ..
  have h1:binOp .eql t (.slice (some ⟨cH,off,none⟩) es.length c) (.slice none 0 0)=(do pure (.bool (← Op.equal t (.slice (some ⟨cH,off,none⟩) es.length c) (.slice none 0 0)))):=rfl
  have h2:binOp .neq t (.slice (some ⟨cH,off,none⟩) es.length c) (.slice none 0 0)=(do pure (.bool (!(← Op.equal t (.slice (some ⟨cH,off,none⟩) es.length c) (.slice none 0 0))))):=rfl
  constructor
  ·rw [c8,h1];simp [af]
  ·rw [c8,h2];simp [af]
theorem Lu {op:BinOp}{t dc:TypeId}{x y:Operand}(h:bR g s ag a w)(U:o.op = .binOp op t x y dc)(ab:c3 P s.E s.az ap o bO=some aO)(bF:∀p∈aO.dn,p):Fin P g s a w o aO:=by
 simp only [c3,U] at ab
 have I:=h.eval x
 have aI:=h.eval y
 split at ab
 ·rename_i v J aE
  simp only [Option.some.injEq] at ab
  subst ab
  obtain ⟨u,h1,h2⟩:=K3 (P:=P) (t:=t) aE bF I aI x y
  refine fp (v:=u) h ?_ rfl h2
  simp only [execOp,U]
  rw [Sem.run_bind,h1];rfl
 ·split at ab
  ·cases he:nN P t (c0 s.E x) (c0 s.E y) with
   | none=>simp [he] at ab
   | some r =>
    simp [he] at ab;subst ab
    refine fp (v:= .bool r) h ?_ rfl (.b r)
    simp only [execOp,U]
    rw [Sem.run_bind,(rT (w:=w) he I aI x y).1];rfl
  ·cases he:nN P t (c0 s.E x) (c0 s.E y) with
   | none=>simp [he] at ab
   | some r =>
    simp [he] at ab;subst ab
    refine fp (v:= .bool !r) h ?_ rfl (.b _)
    simp only [execOp,U]
    rw [Sem.run_bind,(rT (w:=w) he I aI x y).2];rfl
  ·simp at ab
theorem L9 {op:UnOp}{t:TypeId}{x:Operand}(h:bR g s ag a w)(U:o.op = .unOp op t x)(ab:c3 P s.E s.az ap o bO=some aO):Fin P g s a w o aO:=by
 simp only [c3,U] at ab
 have I:=h.eval x
 cases he:Bt op (c0 s.E x) with
 | none=>simp [he] at ab
 | some v =>
  simp [he] at ab;subst ab
  unfold Bt at he
  split at he
  ·rename_i k n eJ
   rw [eJ] at I
   simp only [Option.some.injEq] at he;subst he
   refine fp (v:= .int k (k.wrap (0-n))) h ?_ rfl (.n _ _)
   simp [execOp,U,I.kU,Op.unary,Op.intArith]
  ·rename_i b eJ
   rw [eJ] at I
   simp only [Option.some.injEq] at he;subst he
   refine fp (v:= .bool !b) h ?_ rfl (.b _)
   simp [execOp,U,I.oZ,Op.unary]
  ·simp at he
theorem KG {t dc:TypeId}{x:Operand}(h:bR g s ag a w)(U:o.op = .convert t dc x)(ab:c3 P s.E s.az ap o bO=some aO):Fin P g s a w o aO:=by
 simp only [c3,U] at ab
 have I:=h.eval x
 split at ab
 ·rename_i k cc n bg eJ
  rw [eJ] at I
  split at ab
  case isFalse=>simp at ab
  rename_i cf
  simp only [Option.some.injEq] at ab
  subst ab
  refine fp (v:= .int k (k.wrap n)) h ?_ rfl (.n _ _)
  cases FX:P.underlying t with
  | none=>simp [FX] at cf
  | some d=>simp [execOp,U,I.kU,convert,run_underlying bg,run_underlying FX,Conv.intToInt]
 ·rename_i r k bS len bg eJ
  rw [eJ] at I
  split at ab
  ·rename_i J xi aF
   split at ab
   ·rename_i kd Bz
    split at ab
    ·rename_i aL
     simp only [Option.some.injEq] at ab
     subst ab
     obtain ⟨e,cf,he⟩ : ∃e,P.underlying t=some (.slice e)∧P.underlying e=some (.int .u8):=by
      unfold l6 at xi
      split at xi
      ·rename_i e cf;exact ⟨e,cf,xi⟩
      ·simp at xi
     have cC:s.J r k=some J:=aF
     have dj:=h.obj r k J cC
     have hzero : ∀(jO:Option Addr) (c:Nat),len=0→(convert t dc (.slice jO 0 c)).run P w = .ok (.string (nL kd)) w:=by
      intro jO c h0
      subst h0
      have:kd=[]:=by simpa [bytesOf] using Bz
      subst this
      cases jO with
      | none=>rw [run_convert_bytes_string w t dc e none 0 c cf he bg];simp [Conv.bytesToString,nL]
      | some jO =>
       rw [run_convert_bytes_string w t dc e (some jO) 0 c cf he bg,run_bytesToString w jO 0 c [] (by
        have:=run_loadCells_list (P:=P) w jO [] (fun j v aq=>by simp at aq)
        simpa using this)]
       rfl
     rcases I.ub (fx cC) with ⟨aa,rfl,rfl,hval⟩|⟨b,m,A,c,aa,hval,nf,oA,hm⟩
     ·refine fp (v:= .string (nL kd)) h ?_ rfl (.s _)
      simp [execOp,U,hval,hzero none 0 rfl]
     ·refine fp (v:= .string (nL kd)) h ?_ rfl (.s _)
      by_cases h0:len=0
      ·subst h0;simp [execOp,U,hval,hzero A c rfl]
      ·rcases hm with hm|⟨hA,hm⟩
       ·omega
       ·subst hA
        rw [aa] at dj
        have fH:=dj.rd
        have xt : ∀(es:List (List aj)) (kd:List Int),bytesOf es=some kd→es.length=kd.length∧ ∀(i:Nat) n,kd[i]? = some n→es[i]? = some [.n .u8 n]:=by
         intro es
         induction es with
         | nil=>intro kd h;simp [bytesOf] at h;subst h;exact ⟨rfl,fun i n an=>by simp at an⟩
         | cons x es ih =>
          intro kd h
          unfold bytesOf at h
          split at h
          ·simp at *
          ·rename_i mS Q6 xu
           simp only [List.cons.injEq] at xu
           obtain ⟨rfl,rfl⟩:=xu
           rw [Option.map_eq_some_iff] at h
           obtain ⟨dU,xv,rfl⟩:=h
           obtain ⟨e1,e2⟩:=ih dU xv
           refine ⟨by simp [e1],fun i n an=> ?_⟩
           cases i with
           | zero=>simp at an;subst an;rfl
           | succ i=>simpa using e2 i n (by simpa using an)
          ·simp at h
        obtain ⟨e1,e2⟩:=xt _ _ Bz
        have hlen:kd.length=len:=by rw [← e1];simp;omega
        have M5:(loadCells ⟨b,bS*J.sz,none⟩ len).run P w = .ok (kd.map (Value.int .u8)).toArray w:=by
         have:=run_loadCells_list (P:=P) w ⟨b,bS*J.sz,none⟩ (kd.map (Value.int .u8)) (fun j v aq=>by
          rw [List.getElem?_map,Option.map_eq_some_iff] at aq
          obtain ⟨n,a6,rfl⟩:=aq
          have j4:=e2 j n a6
          have qd:j<len:=by rw [← hlen];exact (List.getElem?_eq_some_iff.1 a6).1
          rw [List.getElem?_take_of_lt qd,List.getElem?_drop] at j4
          obtain ⟨v,v1,v2,v3⟩:=fH.2 ((bS+j)*J.sz+0) (.n .u8 n) (by rw [tP fH.1 j4 (by omega)];rfl)
          have aS:=v3.kU
          subst aS
          rw [mY,← v1,aL.2]
          congr 2
          omega)
         rw [List.length_map,hlen] at this
         exact this
        have h2:=run_bytesToString w ⟨b,bS*J.sz,none⟩ len c kd M5
        rw [← run_convert_bytes_string w t dc e _ len c cf he bg] at h2
        simp [execOp,U,hval,h2,nL]
    ·simp at ab
   ·simp at ab
  ·simp at ab
 ·simp at ab
theorem Ko {f:Fn}{xZ bB:Array Operand}(h:bR g s ag a w)(U:o.op = .makeFunc f xZ bB)(ab:c3 P s.E s.az ap o bO=some aO):Fin P g s a w o aO:=by
 cases f with
 | func n =>
  simp only [c3,U] at ab
  split at ab
  ·rename_i N4
   simp only [Option.some.injEq] at ab;subst ab
   refine fp (v:= .func (.func n) #[] (bB.map a.eval)) h ?_ rfl ?_
   ·have:xZ = #[]:=by simpa using N4
    subst this
    simp [execOp,U,Instr.makeFunc]
   ·have:=Rel.fn (f:=n) (c:=bB.toList.map (c0 s.E)) (w:=w) (ok:=s.ok g ag w) (ay:=s.ay) (aC:=s.aC ag) (bB.toList.map a.eval) (by simp) (by
     intro j x v I aS
     rw [List.getElem?_map,Option.map_eq_some_iff] at I aS
     obtain ⟨p,aa,rfl⟩:=I
     obtain ⟨q,aD,rfl⟩:=aS
     rw [aa] at aD;simp at aD;subst aD
     exact h.eval p)
    have e:(bB.toList.map a.eval).toArray=bB.map a.eval:=by apply Array.ext';rw [Array.toList_map]
    rw [e] at this
    exact this
  ·simp at ab
 | _=>simp [c3,U] at ab
theorem KH {i:Nat}{x:Operand}(h:bR g s ag a w)(U:o.op = .extract x i)(ab:c3 P s.E s.az ap o bO=some aO):Fin P g s a w o aO:=by
 simp only [c3,U] at ab
 have I:=h.eval x
 split at ab
 ·rename_i vs eJ
  rw [eJ] at I
  cases an:vs[i]? with
  | none=>simp [an] at ab
  | some v =>
   simp [an] at ab;subst ab
   obtain ⟨ay,hval,aA,ak⟩:=I.rV
   have cE:i<ay.length:=by
    rcases Nat.lt_or_ge i vs.length with bY|bY
    ·omega
    ·rw [List.getElem?_eq_none bY] at an;simp at an
   have hu:ay[i]? = some ay[i]:=List.getElem?_eq_getElem cE
   refine fp (v:=ay[i]) h ?_ rfl (ak i v _ an hu)
   simp [execOp,U,hval,Instr.extract,hu]
 ·simp at ab
end
end Go.VL
namespace Go.VL
set_option linter.unusedVariables false
set_option linter.unusedSimpArgs false
open Go
section
variable {P:Program} {g:G} {s:S} {ag:dw} {a:Act} {w:World} {o:Oper} {bO:dB} {ap:Nat} {aO:e9}
theorem nE {t e:TypeId}(h:l6 P t=some e):P.underlying t=some (.slice e):=by
 unfold l6 at h
 split at h
 ·rename_i cW he;simp at h;subst h;exact he
 ·simp at h
theorem Ak {t:TypeId}{hN:Array Field}(h:fieldsOf P t=some hN):P.underlying t=some (.struct hN):=by
 unfold fieldsOf at h
 split at h
 ·rename_i cW he;simp at h;subst h;exact he
 ·simp at h
theorem Ds : ∀(z c:List aj),(m2 z c).length=z.length
 | x::z,y::c=>by simp [m2,Ds z c]
 | [],_=>by simp [m2]
 | _::_,[]=>by simp [m2]
theorem Kb (z:List aj)(bO:dB):(oh z bO).length=z.length:=by
 unfold oh
 split
 ·exact Ds z _
 ·rfl
theorem KI (x y:aj){w:World}{ok:Nat→Prop}{ay:gh}{aC:fZ}{v:Value}(h:Rel w ok ay aC x v):Rel w ok ay aC (ui x y) v:=by
 unfold ui
 split
 ·rw [h.lY];exact .gp _ _ _ (fun _=>rfl)
 ·rw [h.pL];exact .lH _
 ·rw [h.lY];exact .jC (.gp _ _ _ (fun _=>rfl))
 ·exact h
theorem D8 : ∀(z c:List aj) (j:Nat) q,(m2 z c)[j]? = some q→ ∃x,z[j]? = some x∧(q=x∨ ∃y,q=ui x y)
 | x::z,y::c,0,q,h=>by simp [m2] at h;exact ⟨x,rfl,.inr ⟨y,h.symm⟩⟩
 | x::z,y::c,j+1,q,h=>by
  simp only [m2,List.getElem?_cons_succ] at h
  simpa using D8 z c j q h
 | [],c,j,q,h=>by simp [m2] at h
 | x::z,[],j,q,h=>⟨q,by simpa [m2] using h,.inl rfl⟩
theorem Lv (z:List aj)(bO:dB)(j:Nat)(q:aj)(h:(oh z bO)[j]? = some q): ∃x,z[j]? = some x∧(q=x∨ ∃y,q=ui x y):=by
 unfold oh at h
 split at h
 ·exact D8 z _ j q h
 ·exact ⟨q,h,.inl rfl⟩
theorem Kc {t:TypeId}{x y:Operand}(h:bR g s ag a w)(c6:s.az ap=none)(U:o.op = .makeSlice t x y)(ab:c3 P s.E s.az ap o bO=some aO)(bF:∀p∈aO.dn,p):Fin P g s a w o aO:=by
 simp only [c3,U] at ab
 have I:=h.eval x
 have aI:=h.eval y
 split at ab
 ·rename_i e hO l g8 c he NC ND
  rw [NC] at I;rw [ND] at aI
  split at ab
  ·rename_i i z an cn
   obtain ⟨gy,cQ,hZ,hK,qv,E7⟩:=tQ cn
   rw [an] at hZ;simp at hZ;subst hZ
   simp only [Option.ite_none_right_eq_some,Option.some.injEq] at ab
   obtain ⟨c5,ab⟩:=ab
   subst ab
   have ju:=Kb z bO
   have g5 : ∀(j:Nat) q,(oh z bO)[j]? = some q→ ∃v,cQ.cells[j]? = some v∧VL.hd v=true∧ ∀w ok ay aC,Rel w ok ay aC q v:=by
    intro j q aD
    obtain ⟨x,cx,xw⟩:=Lv z bO j q aD
    obtain ⟨v,v1,v2,v3⟩:=E7 j x cx
    refine ⟨v,v1,v2,fun w ok ay aC=> ?_⟩
    rcases xw with rfl|⟨y,rfl⟩
    ·exact v3 w ok ay aC
    ·exact KI x y (v3 w ok ay aC)
   clear E7
   have h0:0≤l:=bF _ (by simp)
   have h1:l≤c:=bF _ (by simp)
   have h2:(i.bytes:Int)*c≤281474976710656:=bF _ (by simp)
   have af:c<9223372036854775808:=bF _ (by simp)
   have j5:z.length=cQ.cells.size:=by rw [qv];simp
   have fY:=run_make (P:=P) w t e i cQ (nE he) an hK hO g8 l c h0 h1 h2 (by omega)
   refine wW (v:= .slice (some ⟨w.heap.size,0,none⟩) l.toNat c.toNat) (J:=⟨z.length,List.replicate l.toNat (oh z bO),.live⟩) (c:=madeCells cQ.cells (c.toNat*i.size)) (cU:=e) h c6 rfl ?_ rfl ?_ ?_ ?_
   ·simp [execOp,U,I.kU,aI.kU,fY]
   ·intro cW iZ;rw [List.eq_of_mem_replicate iZ];exact ju
   ·intro j q aD
    have aA : ∀cW∈List.replicate l.toNat (oh z bO),cW.length=z.length:=fun cW iZ=>by rw [List.eq_of_mem_replicate iZ];exact ju
    rcases Nat.eq_zero_or_pos z.length with o7|xx
    ·have:oh z bO=[]:=List.length_eq_zero_iff.1 (by omega)
     rw [this] at aD
     simp at aD
    ·rw [lC xx _ aA,List.getElem?_replicate] at aD
     by_cases aq:j / z.length<l.toNat
     ·rw [if_pos aq] at aD
      simp only [Option.bind_some] at aD
      obtain ⟨v,e1,e2,br⟩:=g5 _ _ aD
      refine ⟨v,?_,e2,br _ _ _ _⟩
      have cE:j<c.toNat*i.size:=by
       rw [← c5]
       have:j<l.toNat*z.length:=(Nat.div_lt_iff_lt_mul xx).1 aq
       exact Nat.lt_of_lt_of_le this (Nat.mul_le_mul_right _ (by omega))
      simp only [madeCells]
      rw [Array.getElem?_map,Array.getElem?_range]
      simp only [cE,if_true,Option.map_some]
      rw [j5] at e1
      have hm:j % cQ.cells.size<cQ.cells.size:=Nat.mod_lt _ (by omega)
      rw [Array.getElem?_eq_getElem hm] at e1
      rw [getElem!_pos cQ.cells _ hm];exact e1
     ·rw [if_neg aq] at aD;simp at aD
   ·intro a5 je jF jf hu bP
    refine Rel.a1 hu bP (by omega) (by omega) ⟨?_,.inr (by simp)⟩
    rw [size_madeCells]
    simp only [Nat.zero_add,c5]
  ·simp at ab
 ·simp at ab
theorem Kd {t:TypeId}{x:Operand}{f:Nat}(h:bR g s ag a w)(U:o.op = .fieldAddr t x f)(ab:c3 P s.E s.az ap o bO=some aO)(bF:∀p∈aO.dn,p):Fin P g s a w o aO:=by
 simp only [c3,U] at ab
 have I:=h.eval x
 split at ab
 ·rename_i hN u4
  split at ab
  ·rename_i fd o8
   split at ab
   ·simp at ab
   ·rename_i FY
    have an:(P.info? fd.type).isSome=true:=by
     cases an:P.info? fd.type with
     | none=>simp [Program.cellsOf,an] at FY
     | some i=>rfl
    have fY : ∀A:Addr,A.spot=none→(Instr.fieldAt t (.pointer (some A)) f).run P w = .ok (.pointer (some ⟨A.block,A.off+fd.offset,none⟩)) w:=by
     intro A hA
     have e:A.add fd.offset=⟨A.block,A.off+fd.offset,none⟩:=by
      obtain ⟨b,o,sp⟩:=A
      simp only at hA;subst hA
      exact mY b o _
     simp [Instr.fieldAt,run_underlying (Ak u4),o8,Instr.sureAddr,fieldPlace,n8 an,FY,e]
    split at ab
    ·rename_i r k i off eJ
     rw [eJ] at I
     split at ab
     ·rename_i J bt aF
      split at ab
      ·rename_i c aY ju
       simp only [Option.some.injEq] at ab;subst ab
       have gG:s.J r k=some J:=od aF fun p aa=>bF p (by simp [aa])
       have lI:=rN ju fun p aa=>bF p (by simp [aa])
       have dj:=h.obj r k J gG
       rcases I.pQ (fx gG) with h0|⟨b,m,aa,hval⟩
       ·rw [h0] at dj;simp only [f9] at dj;rw [dj] at lI;simp at lI
       ·refine fp (v:= .pointer (some ⟨b,i*J.sz+(off+fd.offset),none⟩)) h ?_ rfl ?_
        ·simp [execOp,U,hval,fY,Nat.add_assoc]
        ·exact I.D6 ((fx gG).trans (by rw [aa])) _
      ·simp at ab
     ·simp at ab
    ·rename_i sz es i off eJ
     rw [eJ] at I
     simp only [Option.some.injEq] at ab;subst ab
     obtain ⟨cH,bm,aE,hval,fH⟩:=I.rW
     refine fp (v:= .pointer (some ⟨cH,bm+(i*sz+(off+fd.offset)),none⟩)) h ?_ rfl (fH.df aE)
     simp [execOp,U,hval,fY,Nat.add_assoc]
    ·simp at ab
  ·simp at ab
 ·simp at ab
theorem AV {t e:TypeId}{n:Nat}(h:uG P t=some (n,e)):P.underlying t=some (.array n e)∧(P.info? e).isSome=true∧P.cellsOf e≠0∧1<n:=by
 unfold uG at h
 split at h
 ·rename_i jN cW hu
  split at h
  ·rename_i aL
   simp only [Option.some.injEq,Prod.mk.injEq] at h
   obtain ⟨rfl,rfl⟩:=h
   exact ⟨hu,aL⟩
  ·simp at h
 ·simp at h
theorem Lw {t:TypeId}{x y:Operand}(h:bR g s ag a w)(U:o.op = .indexAddr t x y)(ab:r9 P s.az t (c0 s.E x) (c0 s.E y) bO=some aO)(bF:∀p∈aO.dn,p):Fin P g s a w o aO:=by
 unfold r9 at ab
 have I:=h.eval x
 have aI:=h.eval y
 split at ab
 ·rename_i n e r k i off bD j jy ox uI
  rw [ox] at I;rw [uI] at aI
  obtain ⟨hu,an,aL,a6⟩:=AV jy
  split at ab
  ·rename_i J bt aF
   split at ab
   ·rename_i c aY ju
    simp only [Option.some.injEq] at ab;subst ab
    have gG:s.J r k=some J:=od aF fun p aa=>bF p (by simp [aa])
    have lI:=rN ju fun p aa=>bF p (by simp [aa])
    have h0:0≤j:=bF _ (by simp)
    have h1:j<n:=bF _ (by simp)
    have dj:=h.obj r k J gG
    rcases I.pQ (fx gG) with cn|⟨b,m,aa,hval⟩
    ·rw [cn] at dj;simp only [f9] at dj;rw [dj] at lI;simp at lI
    ·refine fp (v:= .pointer (some ⟨b,i*J.sz+(off+j.toNat*P.cellsOf e),none⟩)) h ?_ rfl ?_
     ·simp [execOp,U,hval,aI.kU,Instr.indexAt,asIntOf,run_underlying hu,Instr.sureAddr,h0,h1,n8 an,mY,Nat.add_assoc]
     ·exact I.D6 ((fx gG).trans (by rw [aa])) _
   ·simp at ab
  ·simp at ab
 ·simp at ab
theorem Ke {t:TypeId}{x y:Operand}(h:bR g s ag a w)(U:o.op = .indexAddr t x y)(ab:c3 P s.E s.az ap o bO=some aO)(bF:∀p∈aO.dn,p):Fin P g s a w o aO:=by
 simp only [c3,U] at ab
 have I:=h.eval x
 have aI:=h.eval y
 split at ab
 ·rename_i e k j he eJ
  rw [eJ] at aI
  have hu:=nE he
  have fY : ∀(b o len cap:Nat),0≤j→j<len→(P.info? e).isSome=true →
   (Instr.indexAt t (.slice (some ⟨b,o,none⟩) len cap) (.int k j)).run P w = .ok (.pointer (some ⟨b,o+j.toNat*P.cellsOf e,none⟩)) w:=by
   intro b o len cap h0 h1 an
   have cW:=mY b o (j.toNat*P.cellsOf e)
   simp [Instr.indexAt,asIntOf,run_underlying hu,h0,h1,n8 an,cW]
  have pX : ∀sz,sz=P.cellsOf e→sz≠0→(P.info? e).isSome=true:=by
   intro sz cf cn
   cases an:P.info? e with
   | none=>simp [Program.cellsOf,an] at cf;exact absurd cf cn
   | some i=>rfl
  split at ab
  ·rename_i sz es ox
   rw [ox] at I
   simp only [Option.ite_none_right_eq_some,Option.some.injEq] at ab
   obtain ⟨⟨cf,cn⟩,ab⟩:=ab
   subst ab
   have h0:0≤j:=bF _ (by simp)
   have h1:j<es.length:=bF _ (by simp)
   rcases I.oc with ⟨u5,-⟩|⟨cH,off,c,aE,hval,aL,fH⟩
   ·subst u5;simp at h1;omega
   ·refine fp (v:= .pointer (some ⟨cH,off+(j.toNat*sz+0),none⟩)) h ?_ rfl (fH.df aE)
    simp [execOp,U,hval,aI.kU,fY _ _ _ _ h0 h1 (pX sz cf cn),cf]
  ·rename_i r q bS len ox
   rw [ox] at I
   split at ab
   ·rename_i row ct
    split at ab
    ·rename_i J bt aF
     simp only [Option.ite_none_right_eq_some,Option.some.injEq] at ab
     obtain ⟨⟨cf,cn⟩,ab⟩:=ab
     subst ab
     have gG:s.J r q=some J:=by
      unfold S.J;rw [ct];exact od aF fun p aa=>bF p (by simp [aa])
     have h0:0≤j:=bF _ (by simp)
     have h1:j<len:=bF _ (by simp)
     rcases I.ub (fx gG) with ⟨-,-,h2,-⟩|⟨b,m,A,c,aa,hval,aA,-,hm⟩
     ·subst h2;simp at h1;omega
     ·rcases hm with hm|⟨hA,hm⟩
      ·omega
      ·subst hA
       have gu:=wL gG
       refine fp (v:= .pointer (some ⟨b,(bS+j.toNat)*J.sz+0,none⟩)) h ?_ rfl (.ref gu ((fx gG).trans (by rw [aa])))
       simp [execOp,U,hval,aI.kU,fY _ _ _ _ h0 h1 (pX _ cf cn),cf,Nat.add_mul]
    ·simp at ab
   ·simp at ab
  ·simp at ab
 ·exact Lw h U ab bF
theorem MF {c:Call}(h:bR g s ag a w)(U:o.op = .call c)(aL:c.callee = .builtin .len)(ab:c3 P s.E s.az ap o bO=some aO)(bF:∀p∈aO.dn,p):Fin P g s a w o aO:=by
 obtain ⟨xy,args,jG⟩:=c
 simp only at aL;subst aL
 simp only [c3,U] at ab
 have key : ∀(x:Operand) (n:Nat) (t:TypeId) (v:Value),args.toList=[x]→jG = #[t]→aO.val = .n .i64 n→aO.dQ=[]→a.eval x=v →
  (Builtin.len_ #[t] o.type #[v]).run P w = .ok (goInt n) w→Fin P g s a w o aO:=by
  intro x n t v hargs i3 ak e5 aS fY
  subst i3
  refine fp (v:=goInt n) h ?_ e5 (by rw [ak];exact .n _ _)
  have bV:args = #[x]:=by apply Array.ext';simpa using hargs
  subst bV
  simp [execOp,U,resolve,invoke,builtin,aS,fY]
 have hargs : ∀y,args.toList.map (c0 s.E)=[y]→ ∃x,args.toList=[x]∧c0 s.E x=y:=by
  intro y aI
  match aA:args.toList,aI with
  | [x],aI=>simp at aI;exact ⟨x,rfl,aI⟩
 have k2:decide (jG.size=1)=true→ ∃t,jG = #[t]∧jG.getD 0 0=t:=by
  intro c5
  have c5:jG.size=1:=by simpa using c5
  obtain ⟨l⟩:=jG
  match l,c5 with
  | [t],_=>exact ⟨t,rfl,rfl⟩
 split at ab
 ·rename_i sz es e hm hu c5
  obtain ⟨x,I,eJ⟩:=hargs _ hm
  obtain ⟨t,bP,lv⟩:=k2 c5
  rw [lv] at hu
  simp only [Option.some.injEq] at ab
  have ak:=h.eval x
  rw [eJ] at ak
  rcases ak.oc with ⟨u5,A,c,hval,hA⟩|⟨cH,off,c,aE,hval,-⟩
  ·exact key x es.length t _ I bP (by rw [← ab]) (by rw [← ab]) hval (by subst u5;simp [Builtin.len_,run_underlying hu])
  ·exact key x es.length t _ I bP (by rw [← ab]) (by rw [← ab]) hval (by simp [Builtin.len_,run_underlying hu])
 ·rename_i r k bS len e hm hu c5
  obtain ⟨x,I,eJ⟩:=hargs _ hm
  obtain ⟨t,bP,lv⟩:=k2 c5
  rw [lv] at hu
  split at ab
  ·rename_i row ct
   split at ab
   ·rename_i J bt aF
    simp only [Option.some.injEq] at ab
    have ak:=h.eval x
    rw [eJ] at ak
    have gG:s.J r k=some J:=by
     unfold S.J;rw [ct];exact od aF fun p aa=>bF p (by rw [← ab];exact aa)
    rcases ak.ub (fx gG) with ⟨-,-,h2,hval⟩|⟨b,m,A,c,aa,hval,-⟩
    ·exact key x len t _ I bP (by rw [← ab]) (by rw [← ab]) hval (by subst h2;simp [Builtin.len_,run_underlying hu])
    ·exact key x len t _ I bP (by rw [← ab]) (by rw [← ab]) hval (by simp [Builtin.len_,run_underlying hu])
   ·simp at ab
  ·simp at ab
 ·rename_i e hm hu c5
  obtain ⟨x,I,eJ⟩:=hargs _ hm
  obtain ⟨t,bP,lv⟩:=k2 c5
  rw [lv] at hu
  simp only [Option.some.injEq] at ab
  have ak:=h.eval x
  rw [eJ] at ak
  exact key x 0 t _ I bP (by rw [← ab];rfl) (by rw [← ab]) ak.lY (by simp [Builtin.len_,run_underlying hu])
 ·rename_i b hm hu c5
  obtain ⟨x,I,eJ⟩:=hargs _ hm
  obtain ⟨t,bP,lv⟩:=k2 c5
  rw [lv] at hu
  simp only [Option.some.injEq] at ab
  have ak:=h.eval x
  rw [eJ] at ak
  exact key x b.size t _ I bP (by rw [← ab]) (by rw [← ab]) ak.sb (by simp [Builtin.len_,run_underlying hu])
 ·simp at ab
theorem wm {ok:Nat→Prop}{ay:gh}{aC:fZ}{cH off sz:Nat}{es:List (List aj)}(h:k8 w ok ay aC cH off sz es)(l n:Nat)(aA:l≤es.length):
 k8 w ok ay aC cH (off+l*sz) sz ((es.drop l).take n):=by
 have nM : ∀e∈(es.drop l).take n,e.length=sz:=fun e he=>h.1 e (List.mem_of_mem_drop (List.mem_of_mem_take he))
 refine ⟨nM,fun j x I=> ?_⟩
 rcases Nat.eq_zero_or_pos sz with h0|cf
 ·have e1 : ∀(l:List (List aj)),(∀e∈l,e.length=0)→l.flatten=[]:=by
   intro l aA;induction l with
   | nil=>rfl
   | cons a l ih=>rw [List.flatten_cons,ih fun e he=>aA e (by simp [he])];have:=aA a (by simp);simp_all
  rw [e1 _ (fun e he=>(nM e he).trans h0)] at I;simp at I
 ·rw [lC cf _ nM] at I
  have aq:j / sz<n:=by
   rcases Nat.lt_or_ge (j / sz) n with bY|bY
   ·exact bY
   ·rw [List.getElem?_eq_none (by simp;omega)] at I;simp at I
  rw [List.getElem?_take,if_pos aq,List.getElem?_drop] at I
  obtain ⟨v,e1,e2,br⟩:=h.2 (l*sz+j) x (by
   rw [lC cf es h.1]
   have ea:(l*sz+j) / sz=l+j / sz:=by rw [Nat.mul_comm,Nat.mul_add_div cf]
   have ep:(l*sz+j) % sz=j % sz:=by rw [Nat.mul_comm,Nat.mul_add_mod]
   rw [ea,ep];exact I)
  exact ⟨v,by rw [Nat.add_assoc];exact e1,e2,br⟩
theorem we {t e:TypeId}(hu:P.underlying t=some (.slice e))(an:(P.info? e).isSome=true)(A:Option Addr)(len cap:Nat)(bS hZ:Option Value)(l h:Nat)
 (N5:(bS=none∧l=0)∨ ∃k,bS=some (.int k l)) (N6:(hZ=none∧h=len)∨ ∃k,hZ=some (.int k h)) (h1:l≤h) (h2:h≤len) (af:len≤cap) :
 (Instr.sliceAt t (.slice A len cap) bS hZ none).run P w = .ok (.slice (if cap=l then A else A.map (·.add (l*P.cellsOf e))) (h-l) (cap-l)) w:=by
 have aE : ∀(k:IntKind) (n y:Nat) (code:BoundsCode),n≤y→(Instr.sliceBound (.int k n) y code).run P w = .ok n w:=by
  intro k n y code a6
  simp [Instr.sliceBound,asIntOf,a6]
 rcases N5 with ⟨rfl,rfl⟩|⟨hO,rfl⟩<;>rcases N6 with ⟨rfl,rfl⟩|⟨g8,rfl⟩ <;>
  simp [Instr.sliceAt,Instr.slice,run_underlying hu,Instr.sliceBounds,n8 an,aE,h1,h2,af,Nat.le_trans h2 af]
theorem r3 {x:Option Operand}(h:bR g s ag a w){d n:Nat}{J:List Prop}(aE:aN (x.map (c0 s.E)) d=some (n,J))(bF:∀p∈J,p):
 (x.map a.eval=none∧n=d)∨ ∃k,x.map a.eval=some (.int k n):=by
 cases x with
 | none=>simp [aN] at aE;exact .inl ⟨rfl,aE.1.symm⟩
 | some x =>
  have I:=h.eval x
  simp only [Option.map_some] at aE ⊢
  unfold aN at aE
  split at aE
  ·rename_i he;simp at he
  ·rename_i _ k y he
   simp only [Option.some.injEq] at he
   rw [he] at I
   simp only [Option.some.injEq,Prod.mk.injEq] at aE
   obtain ⟨rfl,rfl⟩:=aE
   have h0:0≤y:=bF _ (by simp)
   refine .inr ⟨k,?_⟩
   rw [I.kU,Int.toNat_of_nonneg h0]
  ·simp at aE
theorem Lx {t:TypeId}{x:Operand}{bS an:Option Operand}(h:bR g s ag a w)(U:o.op = .slice t x bS an none)(ab:c3 P s.E s.az ap o bO=some aO)(bF:∀p∈aO.dn,p):Fin P g s a w o aO:=by
 simp only [c3,U] at ab
 have I:=h.eval x
 have pX : ∀sz e,sz=P.cellsOf e→sz≠0→(P.info? e).isSome=true:=by
  intro sz e cf cn
  cases an:P.info? e with
  | none=>simp [Program.cellsOf,an] at cf;exact absurd cf cn
  | some i=>rfl
 split at ab
 ·rename_i e sz es hu eJ
  rw [eJ] at I
  split at ab
  ·rename_i l bt n aY aA a6
   simp only [Option.ite_none_right_eq_some,Option.some.injEq] at ab
   obtain ⟨⟨cf,cn⟩,ab⟩:=ab
   subst ab
   have jj:=r3 h aA fun p aa=>bF p (by simp [aa])
   have lN:=r3 h a6 fun p aa=>bF p (by simp [aa])
   have h1:l≤n:=bF _ (by simp)
   have h2:n≤es.length:=bF _ (by simp)
   rcases I.oc with ⟨u5,A,c,hval,hA⟩|⟨cH,off,c,aE,hval,aL,fH⟩
   ·subst u5
    have u6:n=0:=by simpa using h2
    subst u6
    have k3:l=0:=by omega
    subst k3
    refine fp (v:= .slice (if c=0 then A else A.map (·.add (0*P.cellsOf e))) (0-0) (c-0)) h ?_ rfl ?_
    ·have:=we (w:=w) hu (pX sz e cf cn) A 0 c (bS.map a.eval) (an.map a.eval) 0 0 jj lN (Nat.le_refl _) (Nat.le_refl _) (Nat.zero_le _)
     simp only [execOp,U,hval]
     simp only [Option.map_none,Sem.run_bind,this];rfl
    ·refine .gp sz _ _ fun a6=> ?_
     split at a6
     ·rename_i xz;omega
     ·have:=hA (by simpa using a6)
      omega
   ·have hlen:((es.drop l).take (n-l)).length=n-l:=by simp;omega
    refine fp (v:= .slice (if c=l then some ⟨cH,off,none⟩ else (some (⟨cH,off,none⟩:Addr)).map (·.add (l*P.cellsOf e))) (n-l) (c-l)) h ?_ rfl ?_
    ·have:=we (w:=w) hu (pX sz e cf cn) (some ⟨cH,off,none⟩) es.length c (bS.map a.eval) (an.map a.eval) l n jj lN h1 h2 aL
     simp only [execOp,U,hval]
     simp only [Option.map_none,Sem.run_bind,this];rfl
    ·by_cases fz:c=l
     ·have:n-l=0:=by omega
      rw [this]
      show Rel _ _ _ _ (.isl sz ((es.drop l).take 0)) _
      rw [List.take_zero]
      exact .gp sz _ _ (fun _=>by omega)
     ·rw [if_neg fz]
      simp only [Option.map_some,mY,← cf]
      have ak:=(wm fH l (n-l) (by omega)).isl (c:=c-l) ⟨aE.1,fun e he=>aE.2 e (List.mem_of_mem_drop (List.mem_of_mem_take he))⟩ (by rw [hlen];omega)
      rw [hlen] at ak
      exact ak
  ·simp at ab
 ·rename_i e r k GB len hu eJ
  rw [eJ] at I
  split at ab
  ·simp at ab
  ·rename_i row ct
   split at ab
   ·simp at ab
   ·rename_i J GC aF
    split at ab
    ·rename_i l bt n aY aA a6
     simp only [Option.ite_none_right_eq_some,Option.some.injEq] at ab
     obtain ⟨⟨cf,cn⟩,ab⟩:=ab
     subst ab
     have gG:s.J r k=some J:=by
      unfold S.J;rw [ct];exact od aF fun p aa=>bF p (by simp [aa])
     have jj:=r3 h aA fun p aa=>bF p (by simp [aa])
     have lN:=r3 h a6 fun p aa=>bF p (by simp [aa])
     have h1:l≤n:=bF _ (by simp)
     have h2:n≤len:=bF _ (by simp)
     have gu:=wL gG
     rcases I.pM (fx gG) with ⟨aa,rfl,rfl,hval⟩|⟨b,m,A,c,aa,hval,nf,oA,jH,hm⟩
     ·have u6:n=0:=by omega
      subst u6
      have k3:l=0:=by omega
      subst k3
      refine fp (v:= .slice none 0 0) h ?_ rfl (.km gu ((fx gG).trans (by rw [aa])))
      have:=we (w:=w) hu (pX _ e cf cn) none 0 0 (bS.map a.eval) (an.map a.eval) 0 0 jj lN (Nat.le_refl _) (Nat.le_refl _) (Nat.le_refl _)
      simp only [execOp,U,hval]
      simp only [Option.map_none,Sem.run_bind,this];rfl
     ·refine fp (v:= .slice (if c=l then A else A.map (·.add (l*P.cellsOf e))) (n-l) (c-l)) h ?_ rfl ?_
      ·have:=we (w:=w) hu (pX _ e cf cn) A len c (bS.map a.eval) (an.map a.eval) l n jj lN h1 h2 nf
       simp only [execOp,U,hval]
       simp only [Option.map_none,Sem.run_bind,this];rfl
      ·refine Rel.a1 gu ((fx gG).trans (by rw [aa])) (by omega) (by omega) ?_
       refine ⟨by rw [← jH];congr 1;omega,?_⟩
       by_cases fz:c=l
       ·exact .inl (by omega)
       ·rcases hm with hm|hA
        ·exact .inl (by omega)
        ·refine .inr ?_
         rw [if_neg fz,hA]
         simp only [Option.map_some,mY,← cf,Nat.add_mul]
    ·simp at ab
 ·rename_i b hu eJ
  rw [eJ] at I
  split at ab
  ·rename_i l bt n aY aA a6
   simp only [Option.some.injEq] at ab
   subst ab
   have jj:=r3 h aA fun p aa=>bF p (by simp [aa])
   have lN:=r3 h a6 fun p aa=>bF p (by simp [aa])
   have h1:l≤n:=bF _ (by simp)
   have h2:n≤b.size:=bF _ (by simp)
   refine fp (v:= .string (b.extract l n)) h ?_ rfl (.s _)
   have aE : ∀(k:IntKind) (n y:Nat) (code:BoundsCode),n≤y→(Instr.sliceBound (.int k n) y code).run P w = .ok n w:=by
    intro k n y code a6
    simp [Instr.sliceBound,asIntOf,a6]
   simp only [execOp,U,I.sb,Option.map_none]
   rcases jj with ⟨e1,rfl⟩|⟨hO,e1⟩<;>rcases lN with ⟨e2,rfl⟩|⟨g8,e2⟩<;>rw [e1,e2] <;>
    simp [Instr.sliceAt,Instr.slice,run_underlying hu,Instr.sliceBounds,aE,h1,h2]
  ·simp at ab
 ·simp at ab
end
end Go.VL
namespace Go.VL
set_option linter.unusedVariables false
set_option linter.unusedSimpArgs false
open Go
section
variable {P:Program} {g:G} {s:S} {ag:dw} {a:Act} {w:World} {o:Oper} {bO:dB} {ap:Nat} {aO:e9}
theorem DM {ok:Nat→Prop}{ay:gh}{aC:fZ}{t:TypeId}{c:List aj}{off:Nat}{x:aj}{vs:List Value}(aA:vs.length=c.length)
 (g5 : ∀(j:Nat) u,vs[j]? = some u→hd u=true) (ak : ∀(j:Nat) x u,c[j]? = some x→vs[j]? = some u→Rel w ok ay aC x u)
 (bP:mB P t c off=some x) : ∃v,(part t vs.toArray off).run P w = .ok v w∧Rel w ok ay aC x v:=by
 unfold mB at bP
 split at bP
 ·simp at bP
 ·rename_i an
  simp only [Bool.not_eq_true',Bool.not_eq_false,Bool.and_eq_true] at an
  simp only [part,Sem.run_bind,D5 an.1,Result.andThen]
  split at bP
  ·rename_i na
   rw [na]
   split at bP
   ·rename_i hle
    simp at bP;subst bP
    have e:(vs.toArray.extract off (off+P.cellsOf t))=((vs.drop off).take (P.cellsOf t)).toArray:=by
     apply Array.ext'
     simp [List.extract_eq_take_drop]
    refine ⟨.agg ((vs.drop off).take (P.cellsOf t)).toArray,by simp [n8 an.2],?_⟩
    refine .agg _ (by simp;omega) ?_ ?_
    ·intro j v aS
     rw [List.getElem?_take] at aS
     split at aS
     ·rw [List.getElem?_drop] at aS;exact g5 _ _ aS
     ·simp at aS
    ·intro j y v aI aS
     rw [List.getElem?_take] at aS aI
     split at aS
     ·rename_i aq
      rw [if_pos aq] at aI
      rw [List.getElem?_drop] at aS aI;exact ak _ _ _ aI aS
     ·simp at aS
   ·simp at bP
  ·rename_i na
   have na:uh P t=false:=by simpa using na
   rw [na]
   split at bP
   ·rename_i y aI
    split at bP
    ·simp at bP;subst bP
     have si:off<vs.length:=by
      rcases Nat.lt_or_ge off c.length with h|h
      ·omega
      ·rw [List.getElem?_eq_none h] at aI;simp at aI
     exact ⟨vs[off],by simp [si],ak off y _ aI (List.getElem?_eq_getElem si)⟩
    ·simp at bP
   ·simp at bP
theorem Ly {t:TypeId}{x:Operand}{f:Nat}(h:bR g s ag a w)(U:o.op = .field t x f)(ab:c3 P s.E s.az ap o bO=some aO):Fin P g s a w o aO:=by
 simp only [c3,U] at ab
 have I:=h.eval x
 split at ab
 ·rename_i hN u4
  split at ab
  ·rename_i fd c o8 eJ
   rw [eJ] at I
   cases bP:mB P fd.type c fd.offset with
   | none=>simp [bP] at ab
   | some v =>
    simp [bP] at ab;subst ab
    obtain ⟨vs,hval,aA,aL,ak⟩:=I.rU
    obtain ⟨u,h1,h2⟩:=DM aA aL ak bP
    refine fp (v:=u) h ?_ rfl h2
    simp [execOp,U,hval,Instr.field,run_underlying (Ak u4),o8,asAgg,h1]
  ·simp at ab
 ·simp at ab
theorem D9 : ∀ {a b c:List aj},l9 0 a b=some c→c=a
 | [],[],c,h=>by simp [l9] at h;exact h
 | .n k x::a,.n cc y::b,c,h=>by
  unfold l9 at h
  split at h
  ·cases hm:l9 0 a b with
   | none=>simp [hm] at h
   | some d=>simp [hm] at h;rw [← h,D9 hm]
  ·simp at h
 | [],_::_,_,h=>by simp [l9] at h
theorem Es {j:Int}(aq:j≠0): ∀ {a b c:List aj},l9 j a b=some c→c=b
 | [],[],c,h=>by simp [l9] at h;exact h
 | .n k x::a,.n cc y::b,c,h=>by
  unfold l9 at h
  split at h
  ·rename_i aV
   subst aV
   cases hm:l9 j a b with
   | none=>simp [hm] at h
   | some d=>simp [hm,aq] at h;rw [← h,Es aq hm]
  ·simp at h
 | [],_::_,_,h=>by simp [l9] at h
theorem K4 {t:TypeId}{x y:Operand}(h:bR g s ag a w)(U:o.op = .index t x y)(ab:A0 P t (c0 s.E x) (c0 s.E y)=some aO)(bF:∀p∈aO.dn,p):Fin P g s a w o aO:=by
 unfold A0 at ab
 have I:=h.eval x
 have aI:=h.eval y
 split at ab
 ·rename_i e cs bD j jy ox uI
  rw [ox] at I;rw [uI] at aI
  obtain ⟨hu,an,-,-⟩:=AV jy
  split at ab
  ·rename_i cl fB bV aE
   cases hm:l9 j cl fB with
   | none=>simp [hm] at ab
   | some c =>
    simp only [hm,Option.map_some,Option.some.injEq] at ab;subst ab
    have h0:0≤j:=bF _ (by simp)
    have h1:j<2:=bF _ (by simp)
    obtain ⟨vs,hval,aA,aL,ak⟩:=I.rU
    have key:mB P e cs (j.toNat*P.cellsOf e)=some (.agg c):=by
     have:j=0∨j=1:=by omega
     rcases this with rfl|rfl
     ·rw [D9 hm];exact bV
     ·rw [Es (by decide) hm];exact aE
    obtain ⟨u,hO,g8⟩:=DM aA aL ak key
    refine fp (v:=u) h ?_ rfl g8
    simp [execOp,U,hval,aI.kU,Instr.index,asIntOf,run_underlying hu,h0,h1,n8 an,hO]
  ·simp at ab
 ·simp at ab
theorem Lz {t:TypeId}{x y:Operand}(h:bR g s ag a w)(U:o.op = .index t x y)(ab:c3 P s.E s.az ap o bO=some aO)(bF:∀p∈aO.dn,p):Fin P g s a w o aO:=by
 simp only [c3,U] at ab
 have I:=h.eval x
 have aI:=h.eval y
 split at ab
 ·rename_i b k j hu ox uI
  rw [ox] at I;rw [uI] at aI
  simp only [Option.some.injEq] at ab;subst ab
  have h0:0≤j:=bF _ (by simp)
  have h1:j<b.size:=bF _ (by simp)
  have h2:j.toNat<b.size:=by omega
  refine fp (v:= .int .u8 (b[j.toNat]).toNat) h ?_ rfl ?_
  ·simp [execOp,U,I.sb,aI.kU,Instr.index,asIntOf,run_underlying hu,h0,h2]
  ·have e:b.data.toList.getD j.toNat 0=b[j.toNat]:=by
    rw [List.getD_eq_getElem?_getD,Array.getElem?_toList,Array.getElem?_eq_getElem (by simpa using h2)];rfl
   show Rel _ _ _ _ (.n .u8 _) _
   rw [e];exact .n _ _
 ·exact K4 h U ab bF
theorem K5 (off:Nat): ∀(vs:List Value) (n:Nat) (cs:Array Value) (j:Nat),off+n+vs.length≤cs.size →
 ((vs.zipIdx n).foldl (fun cs (x:Value×Nat)=>cs.setIfInBounds (off+x.2) x.1) cs)[j]? = if off+n≤j∧j<off+n+vs.length then vs[j-(off+n)]? else cs[j]? := by
 intro vs
 induction vs with
 | nil=>intro n cs j h;simp;intro h1 h2;omega
 | cons v vs ih =>
  intro n cs j h
  simp only [List.length_cons] at h
  simp only [List.zipIdx_cons,List.foldl_cons]
  rw [ih (n+1) _ j (by simp;omega)]
  simp only [List.length_cons,Array.getElem?_setIfInBounds]
  by_cases h1:j=off+n
  ·subst h1
   rw [if_neg (by omega),if_pos rfl,if_pos (by omega),if_pos (by omega)]
   simp
  ·by_cases h2:off+(n+1)≤j∧j<off+(n+1)+vs.length
   ·rw [if_pos h2,if_pos (by omega)]
    rw [show j-(off+n)=(j-(off+(n+1)))+1 by omega];rfl
   ·rw [if_neg h2,if_neg (fun e=>h1 e.symm),if_neg (by omega)]
theorem JK (off:Nat): ∀(vs:List (Value×Nat)) (cs:Array Value),(vs.foldl (fun cs (x:Value×Nat)=>cs.setIfInBounds (off+x.2) x.1) cs).size=cs.size:=by
 intro vs
 induction vs with
 | nil=>intro cs;rfl
 | cons v vs ih=>intro cs;simp only [List.foldl_cons];rw [ih];simp
def sN (w:World)(ok:Nat→Prop)(ay:gh)(aC:fZ)(c:List aj)(cs:Array Value):Prop :=
 cs.size=c.length∧(∀(j:Nat) u,cs[j]? = some u→hd u=true)∧ ∀(j:Nat) x u,c[j]? = some x→cs[j]? = some u→Rel w ok ay aC x u
theorem LA {ok:Nat→Prop}{ay:gh}{aC:fZ}{c:List aj}{cs:Array Value}(h:sN w ok ay aC c cs){x:aj}{v:Value}{off:Nat}(I:Rel w ok ay aC x v)(aL:x.rQ=true)
 (fF:off+x.cells.length≤c.length):v.cells.size=x.cells.length ∧
   sN w ok ay aC (setCells c off x.cells) (v.cells.zipIdx.foldl (fun cs (y:Value×Nat)=>cs.setIfInBounds (off+y.2) y.1) cs):=by
 obtain ⟨vs,aS,aA,g5,ak⟩:=I.cellsOf (aj.DA aL)
 have i3 : ∀j,(v.cells.zipIdx.foldl (fun cs (y:Value×Nat)=>cs.setIfInBounds (off+y.2) y.1) cs)[j]? = if off≤j∧j<off+vs.length then vs[j-off]? else cs[j]? := by
  intro j
  rw [aS]
  have:=K5 off vs 0 cs j (by rw [h.1];omega)
  simp only [Nat.add_zero] at this
  rw [← this,← Array.foldl_toList,Array.toList_zipIdx]
 refine ⟨by rw [aS];simpa using aA,?_,?_,?_⟩
 ·rw [Di fF,← h.1,← Array.foldl_toList,JK]
 ·intro j u hu
  rw [i3] at hu
  split at hu
  ·exact g5 _ _ hu
  ·exact h.2.1 _ _ hu
 ·intro j y u aI hu
  rw [i3] at hu
  rw [Aj fF] at aI
  by_cases j4:off≤j∧j<off+x.cells.length
  ·rw [if_pos j4] at aI
   rw [if_pos (by rw [aA];exact j4)] at hu
   exact ak _ _ _ aI hu
  ·rw [if_neg j4] at aI
   rw [if_neg (by rw [aA];exact j4)] at hu
   exact h.2.2 _ _ _ aI hu
theorem As {ok:Nat→Prop}{ay:gh}{aC:fZ}(place:Nat→Option (Nat×Nat)): ∀(l:List (Nat×Nat×aj)) (gx:List (Nat×Value)) (c:List aj) (cs:Array Value) (cw:List aj),
 sN w ok ay aC c cs→l.length=gx.length →
 (∀(j:Nat) off size x i v,l[j]? = some (off,size,x)→gx[j]? = some (i,v)→place i=some (off,size)∧Rel w ok ay aC x v) →
 nH c l=some cw→ ∃iz,Instr.fill place cs gx=some iz∧sN w ok ay aC cw iz:=by
 intro l
 induction l with
 | nil =>
  intro gx c cs cw h aA _ bk
  have:gx=[]:=List.length_eq_zero_iff.1 (by simpa using aA.symm)
  subst this
  simp [nH] at bk;subst bk
  exact ⟨cs,rfl,h⟩
 | cons q l ih =>
  intro gx c cs cw h aA aa bk
  obtain ⟨off,size,x⟩:=q
  match gx,aA with
  | (i,v)::gx,aA =>
   obtain ⟨N7,I⟩:=aa 0 off size x i v rfl rfl
   simp only [nH] at bk
   split at bk
   ·rename_i aL
    simp only [Bool.and_eq_true,decide_eq_true_eq] at aL
    obtain ⟨⟨h1,h2⟩,af⟩:=aL
    obtain ⟨e1,e2⟩:=LA h I h1 (off:=off) (by omega)
    obtain ⟨iz,f1,f2⟩:=ih gx _ _ cw e2 (by simpa using aA) (fun j off size x i v a b=>aa (j+1) off size x i v a b) bk
    refine ⟨iz,?_,f2⟩
    rw [Instr.fill]
    simp only [N7]
    have hg : ¬(decide (v.cells.size≠size) || decide (off+v.cells.size>cs.size))=true:=by simp;rw [e1,h.1];omega
    rw [if_neg hg]
    exact f1
   ·simp at bk
theorem mapM_some {α β:Type}(f:α→β)(p:α→Option β): ∀(l:List α),(∀x∈l,p x=some (f x))→l.mapM p=some (l.map f)
 | [],_=>rfl
 | x::l,h=>by
  rw [List.mapM_cons,h x (by simp),mapM_some f p l fun y aI=>h y (by simp [aI])];rfl
theorem EP {α β:Type}(p:α→Option β): ∀(l:List α) (dy:List β),l.mapM p=some dy→dy.length=l.length∧ ∀(j:Nat) x y,l[j]? = some x→dy[j]? = some y→p x=some y
 | [],dy,h=>by simp at h;subst h;exact ⟨rfl,fun j x y I=>by simp at I⟩
 | a::l,dy,h=>by
  rw [List.mapM_cons] at h
  cases bV:p a with
  | none=>simp [bV] at h
  | some b =>
   cases aA:l.mapM p with
   | none=>simp [bV,aA] at h
   | some r =>
    simp [bV,aA] at h;subst h
    obtain ⟨h1,h2⟩:=EP p l r aA
    refine ⟨by simp [h1],fun j x y I aI=> ?_⟩
    cases j with
    | zero=>simp at I aI;subst I;subst aI;exact bV
    | succ j=>simp at I aI;exact h2 j x y I aI
theorem AW {t:TypeId}{z:List aj}(cn:mv P t=some z): ∃i cQ,P.info? t=some i∧i.zero=some cQ∧cQ.cells.size=z.length∧sN w (s.ok g ag w) s.ay (s.aC ag) z cQ.cells:=by
 obtain ⟨i,cQ,an,hK,qv,g5⟩:=tQ cn
 have cf:cQ.cells.size=z.length:=by rw [qv];simp
 refine ⟨i,cQ,an,hK,cf,cf,fun j u hu=> ?_,fun j x u I hu=> ?_⟩
 ·have aq:j<z.length:=by
   have:=(Array.getElem?_eq_some_iff.1 hu).1;omega
  obtain ⟨v,e1,e2,-⟩:=g5 j z[j] (List.getElem?_eq_getElem aq)
  rw [hu] at e1;simp at e1;subst e1;exact e2
 ·obtain ⟨v,e1,-,br⟩:=g5 j x I
  rw [hu] at e1;simp at e1;subst e1;exact br _ _ _ _
theorem Kp {t:TypeId}{parts:Array (Nat×Operand)}(h:bR g s ag a w)(U:o.op = .build t parts)(ab:AG P t (parts.toList.map fun p=>(p.1,c0 s.E p.2))=some aO):Fin P g s a w o aO:=by
 unfold AG at ab
 split at ab
 ·rename_i n e z jy cn
  obtain ⟨hu,an,-,-⟩:=AV jy
  rw [List.map_map] at ab
  cases bk:nH z (parts.toList.map ((fun p:Nat×aj=>(p.1*P.cellsOf e,P.cellsOf e,p.2))∘fun p=>(p.1,c0 s.E p.2))) with
  | none=>rw [bk] at ab;simp at ab
  | some c =>
   rw [bk] at ab
   simp only [Option.map_some,Option.some.injEq] at ab;subst ab
   obtain ⟨it,cQ,qe,hK,c5,hcs⟩:=AW (w:=w) (s:=s) (g:=g) (ag:=ag) cn
   obtain ⟨Cd,FZ⟩:=Option.isSome_iff_exists.1 an
   have M6:P.cellsOf e=Cd.size:=by simp [Program.cellsOf,FZ]
   obtain ⟨iz,f1,f2⟩:=As (w:=w) (ok:=s.ok g ag w) (ay:=s.ay) (aC:=s.aC ag) (fun i=>some (i*Cd.size,Cd.size)) _ (parts.map fun (i,x)=>(i,a.eval x)).toList z cQ.cells c hcs (by simp) (by
    intro j off size x i v aq aS
    simp only [List.getElem?_map,Option.map_eq_some_iff,Function.comp,Prod.mk.injEq] at aq
    simp only [Array.toList_map,List.getElem?_map,Option.map_eq_some_iff] at aS
    obtain ⟨p,aa,e1,e2,br⟩:=aq
    obtain ⟨⟨gy,bQ⟩,i4,aS⟩:=aS
    simp only [Prod.mk.injEq] at aS
    obtain ⟨rfl,rfl⟩:=aS
    rw [aa] at i4
    have:=Option.some.inj i4
    subst this
    refine ⟨by rw [← e1,← e2,M6],?_⟩
    rw [← br];exact h.eval _) bk
   have aE:P.built t (parts.map fun (i,x)=>(i,a.eval x)).toList=some iz:=by
    unfold Program.built
    simp only [qe,hu,hK,FZ]
    exact f1
   refine fp (v:= .agg iz) h ?_ rfl ?_
   ·have:=run_build w t _ iz aE
    simp [execOp,U,this]
   ·have:=Rel.agg (w:=w) (ok:=s.ok g ag w) (ay:=s.ay) (aC:=s.aC ag) (c:=c) iz.toList (by simpa using f2.1) (fun j u hu=>f2.2.1 j u (by simpa using hu)) (fun j x u I hu=>f2.2.2 j x u I (by simpa using hu))
    simpa using this
 ·simp at ab
theorem LB {t:TypeId}{parts:Array (Nat×Operand)}(h:bR g s ag a w)(U:o.op = .build t parts)(ab:c3 P s.E s.az ap o bO=some aO):Fin P g s a w o aO:=by
 simp only [c3,U] at ab
 split at ab
 ·rename_i hN z u4 cn
  split at ab
  ·simp at ab
  ·rename_i kx
   have kx : ∀f∈hN.toList,(P.info? f.type).isSome=true:=by
    rw [Bool.not_eq_false] at kx
    exact List.all_eq_true.1 kx
   split at ab
   ·rename_i l aA
    cases bk:nH z l with
    | none=>simp [bk] at ab
    | some c =>
     simp [bk] at ab;subst ab
     obtain ⟨it,cQ,qe,hK,c5,hcs⟩:=AW (w:=w) (s:=s) (g:=g) (ag:=ag) cn
     obtain ⟨lz,mT⟩:=EP _ _ _ aA
     have NE:hN.toList.mapM (fun f=>(P.info? f.type).map fun i=>(f.offset,i.size))=some (hN.toList.map fun f=>(f.offset,P.cellsOf f.type)):=by
      refine mapM_some (fun f:Field=>(f.offset,P.cellsOf f.type)) _ _ fun f bk=> ?_
      have:=kx f bk
      cases an:P.info? f.type with
      | none=>simp [an] at this
      | some i=>simp [Program.cellsOf,an]
     obtain ⟨iz,f1,f2⟩:=As (w:=w) (ok:=s.ok g ag w) (ay:=s.ay) (aC:=s.aC ag) ((hN.toList.map fun f=>(f.offset,P.cellsOf f.type)).toArray[·]?) l (parts.map fun (i,x)=>(i,a.eval x)).toList z cQ.cells c hcs (by simpa using lz) (by
      intro j off size x i v aq aS
      simp only [Array.toList_map,List.getElem?_map,Option.map_eq_some_iff] at aS
      obtain ⟨⟨gy,bQ⟩,aa,aS⟩:=aS
      simp only [Prod.mk.injEq] at aS
      obtain ⟨rfl,rfl⟩:=aS
      have:=mT j _ _ aa aq
      simp only [Option.map_eq_some_iff,Prod.mk.injEq] at this
      obtain ⟨fd,h1,h2,af,ax⟩:=this
      subst h2;subst af;subst ax
      refine ⟨?_,h.eval bQ⟩
      rw [List.getElem?_toArray,List.getElem?_map,Array.getElem?_toList,h1];rfl) bk
     have aE:P.built t (parts.map fun (i,x)=>(i,a.eval x)).toList=some iz:=by
      unfold Program.built
      simp only [qe,Ak u4,hK,NE]
      exact f1
     refine fp (v:= .agg iz) h ?_ rfl ?_
     ·have:=run_build w t _ iz aE
      simp [execOp,U,this]
     ·have:=Rel.agg (w:=w) (ok:=s.ok g ag w) (ay:=s.ay) (aC:=s.aC ag) (c:=c) iz.toList (by simpa using f2.1) (fun j u hu=>f2.2.1 j u (by simpa using hu)) (fun j x u I hu=>f2.2.2 j x u I (by simpa using hu))
      simpa using this
   ·simp at ab
 ·exact Kp h U ab
theorem I9 {sz:Nat}{es:List (List aj)}(aA:∀e∈es,e.length=sz){i:Nat}(an:i<es.length){c:List aj}(aL:c.length=sz):
 setCells es.flatten (i*sz) c=(es.set i c).flatten:=by
 have hlen : ∀(es:List (List aj)),(∀e∈es,e.length=sz)→es.flatten.length=es.length*sz:=by
  intro es
  induction es with
  | nil=>simp
  | cons e es ih =>
   intro h
   rw [List.flatten_cons,List.length_append,ih fun x I=>h x (by simp [I]),h e (by simp),List.length_cons,Nat.add_mul];omega
 have fF:i*sz+c.length≤es.flatten.length:=by
  rw [hlen es aA,aL]
  have:=Nat.mul_le_mul_right sz (show i+1≤es.length by omega)
  rw [Nat.add_mul] at this;omega
 apply List.ext_getElem?
 intro j
 rw [Aj fF,DB aA (List.getElem?_eq_getElem an) aL,aL]
theorem DN {sz:Nat}: ∀(l:List (Nat×aj)) (es ef:List (List aj)),(∀e∈es,e.length=sz)→sa sz es l=some ef →
 nH es.flatten (l.map fun p=>(p.1*sz,sz,p.2))=some ef.flatten∧(∀e∈ef,e.length=sz)∧ef.length=es.length
 | [],es,ef,aA,h=>by simp [sa] at h;subst h;exact ⟨rfl,aA,rfl⟩
 | (i,x)::l,es,ef,aA,h=>by
  simp only [sa] at h
  split at h
  ·rename_i aL
   simp only [Bool.and_eq_true,decide_eq_true_eq] at aL
   obtain ⟨⟨h1,h2⟩,af⟩:=aL
   have Bu : ∀e∈es.set i x.cells,e.length=sz:=by
    intro e hm
    rcases List.mem_or_eq_of_mem_set hm with bY|bY
    ·exact aA e bY
    ·exact bY▸h2
   obtain ⟨ea,ep,dq⟩:=DN l (es.set i x.cells) ef Bu h
   have e:=I9 aA af h2
   have fF:i*sz+sz≤es.flatten.length:=by
    have:(setCells es.flatten (i*sz) x.cells).length=(es.set i x.cells).flatten.length:=by rw [e]
    have aD : ∀(es:List (List aj)),(∀e∈es,e.length=sz)→es.flatten.length=es.length*sz:=by
     intro es
     induction es with
     | nil=>simp
     | cons e es ih =>
      intro h
      rw [List.flatten_cons,List.length_append,ih fun x I=>h x (by simp [I]),h e (by simp),List.length_cons,Nat.add_mul];omega
    rw [aD es aA]
    have:=Nat.mul_le_mul_right sz (show i+1≤es.length by omega)
    rw [Nat.add_mul] at this;omega
   refine ⟨?_,ep,by simpa using dq⟩
   simp only [List.map_cons,nH,h1,h2,fF,decide_true,Bool.and_self,if_true]
   rw [e];exact ea
  ·simp at h
theorem JW {t:TypeId}{len:Nat}{parts:Array (Nat×Operand)}(h:bR g s ag a w)(c6:s.az ap=none)(U:o.op = .buildSlice t len parts)(ab:c3 P s.E s.az ap o bO=some aO):Fin P g s a w o aO:=by
 simp only [c3,U] at ab
 split at ab
 ·rename_i e he
  split at ab
  ·rename_i z cn
   split at ab
   ·simp at ab
   ·rename_i aL
    simp only [not_or,Nat.not_lt,Decidable.not_not] at aL
    obtain ⟨sq,sr,ss⟩:=aL
    split at ab
    ·rename_i es e4
     simp only [Option.some.injEq] at ab;subst ab
     obtain ⟨it,cQ,qe,hK,c5,hcs⟩:=AW (w:=w) (s:=s) (g:=g) (ag:=ag) cn
     have g5:P.cellsOf e=it.size:=by simp [Program.cellsOf,qe]
     have FI : ∀x∈List.replicate len z,x.length=z.length:=fun x I=>by rw [List.eq_of_mem_replicate I]
     obtain ⟨f1,f2,f3⟩:=DN _ _ _ FI e4
     have o7:sN w (s.ok g ag w) s.ay (s.aC ag) (List.replicate len z).flatten ((Array.range (len*it.size)).map (cQ.cells[· % cQ.cells.size]!)):=by
      have xx:0<z.length:=by omega
      have i3 : ∀j,j<len*it.size→((Array.range (len*it.size)).map (cQ.cells[· % cQ.cells.size]!))[j]? = cQ.cells[j % z.length]? := by
       intro j aq
       rw [Array.getElem?_map,Array.getElem?_range]
       simp only [aq,if_true,Option.map_some]
       have hm:j % cQ.cells.size<cQ.cells.size:=Nat.mod_lt _ (by omega)
       rw [getElem!_pos cQ.cells _ hm,← c5,Array.getElem?_eq_getElem hm]
      have cE : ∀(j:Nat) u,((Array.range (len*it.size)).map (cQ.cells[· % cQ.cells.size]!))[j]? = some u→j<len*it.size:=by
       intro j u hu
       have:=(Array.getElem?_eq_some_iff.1 hu).1
       simpa using this
      refine ⟨by simp [← g5,← sr],fun j u hu=> ?_,fun j x u I hu=> ?_⟩
      ·have aq:=cE j u hu
       rw [i3 j aq] at hu
       exact hcs.2.1 _ _ hu
      ·have aq:=cE j u hu
       rw [i3 j aq] at hu
       rw [lC xx _ FI,List.getElem?_replicate] at I
       split at I
       ·exact hcs.2.2 _ _ _ I hu
       ·simp at I
     obtain ⟨iz,g1,g2⟩:=As (w:=w) (ok:=s.ok g ag w) (ay:=s.ay) (aC:=s.aC ag) (fun i=>some (i*it.size,it.size)) ((parts.toList.map fun p=>(p.1,c0 s.E p.2)).map fun p=>(p.1*z.length,z.length,p.2)) (parts.map fun (i,x)=>(i,a.eval x)).toList _ _ es.flatten o7 (by simp) (by
      intro j off size x i v aq aS
      simp only [Array.toList_map,List.getElem?_map,Option.map_eq_some_iff,List.map_map] at aS aq
      obtain ⟨⟨gy,bQ⟩,aa,aS⟩:=aS
      obtain ⟨⟨i2,x2⟩,u3,aq⟩:=aq
      rw [aa] at u3
      simp only [Option.some.injEq,Prod.mk.injEq] at u3 aS
      obtain ⟨rfl,rfl⟩:=u3
      obtain ⟨rfl,rfl⟩:=aS
      simp only [Function.comp,Prod.mk.injEq] at aq
      obtain ⟨rfl,rfl,rfl⟩:=aq
      exact ⟨by rw [← g5,← sr],h.eval bQ⟩) f1
     have fY:(Instr.buildSlice t len (parts.map fun (i,x)=>(i,a.eval x))).run P w = .ok (.slice (some ⟨w.heap.size,0,none⟩) len len) (w.alloc (.cells iz e)):=by
      have h1 : ¬len*it.size>2 ^ 24:=by rw [← g5,← sr];omega
      by_cases h0:len*it.size=0
      ·have k3:len=0:=by
        rcases Nat.eq_zero_or_pos len with bY|bY
        ·exact bY
        ·have:0<len*it.size:=Nat.mul_pos bY (by omega)
         omega
       subst k3
       have e0:((Array.range (0*it.size)).map (cQ.cells[· % cQ.cells.size]!)) = #[]:=by simp
       rw [e0] at g1
       have aa:parts = #[]:=by
        obtain ⟨l⟩:=parts
        match l,e4 with
        | [],_=>rfl
        | p::l,e4=>simp [sa] at e4
       subst aa
       have NF:iz = #[]:=by simpa [Instr.fill] using g1.symm
       subst NF
       simp [Instr.buildSlice,run_underlying (nE he),sizeOf,typeInfo,qe,newRow,Instr.fill]
       rw [Array.range_zero',Array.map_empty]
      ·simp only [Instr.buildSlice,run_underlying (nE he),sizeOf,typeInfo,qe,newRow,zeroValue,hK,Sem.run_bind,Result.andThen_ok,run_program,Sem.run_pure,Sem.run_ite,h1,h0,if_false]
       rw [g1];rfl
     refine wW (v:= .slice (some ⟨w.heap.size,0,none⟩) len len) (J:=⟨z.length,es,.live⟩) (c:=iz) (cU:=e) h c6 rfl ?_ rfl f2 ?_ ?_
     ·simp [execOp,U,fY]
     ·intro j x I
      have aq:j<iz.size:=by
       rw [g2.1]
       rcases Nat.lt_or_ge j es.flatten.length with bY|bY
       ·exact bY
       ·rw [List.getElem?_eq_none bY] at I;simp at I
      have hu:iz[j]? = some iz[j]:=Array.getElem?_eq_getElem aq
      exact ⟨_,hu,g2.2.1 _ _ hu,g2.2.2 _ _ _ I hu⟩
     ·intro a5 je jF jf hu bP
      refine Rel.a1 hu bP (Nat.le_refl _) ?_ ⟨?_,.inr (by simp)⟩
      ·have:len≤len*z.length:=Nat.le_mul_of_pos_right _ (by omega)
       omega
      ·rw [g2.1]
       have aD : ∀(es:List (List aj)),(∀e∈es,e.length=z.length)→es.flatten.length=es.length*z.length:=by
        intro es
        induction es with
        | nil=>simp
        | cons e es ih =>
         intro h
         rw [List.flatten_cons,List.length_append,ih fun x I=>h x (by simp [I]),h e (by simp),List.length_cons,Nat.add_mul];omega
       rw [aD es f2,f3];simp
    ·simp at ab
  ·simp at ab
 ·simp at ab
theorem wC (h:bR g s ag a w)(c6:s.az ap=none)(ab:c3 P s.E s.az ap o bO=some aO)(bF:∀p∈aO.dn,p):Fin P g s a w o aO:=by
 cases U:o.op with
 | move x=>exact EO h (.inl U) ab
 | assign x=>exact EO h (.inr U) ab
 | pick c x y=>exact L7 h U ab bF
 | alloc t=>exact Ls h c6 U ab
 | box t x=>exact ME h c6 U ab
 | load t x=>exact L8 h U ab bF
 | store t x y=>exact Lt h U ab bF
 | nilCheck x=>exact Kn h U ab bF
 | binOp op t x y dc=>exact Lu h U ab bF
 | unOp op t x=>exact L9 h U ab
 | convert t dc x=>exact KG h U ab
 | makeFunc f xZ bB=>exact Ko h U ab
 | makeSlice t x y=>exact Kc h c6 U ab bF
 | fieldAddr t x f=>exact Kd h U ab bF
 | field t x f=>exact Ly h U ab
 | indexAddr t x y=>exact Ke h U ab bF
 | index t x y=>exact Lz h U ab bF
 | extract x i=>exact KH h U ab
 | slice t x bS an Ce =>
  cases Ce with
  | none=>exact Lx h U ab bF
  | some m=>simp [c3,U] at ab
 | build t gx=>exact LB h U ab
 | buildSlice t n gx=>exact JW h c6 U ab
 | call c =>
  obtain ⟨xy,args,jG⟩:=c
  cases xy with
  | builtin b=>cases b<;>first|exact MF h U rfl ab bF|simp [c3,U] at ab
  | value f=>simp [c3,U] at ab
  | invoke r m=>simp [c3,U] at ab
 | _=>simp [c3,U] at ab
end
end Go.VL
namespace Go.VL
set_option linter.unusedVariables false
set_option linter.unusedSimpArgs false
open Go
def MG:Option ae→dB
 | some o=> .uF o []
 | none=> .none
def m4 (sz:Nat)(az:Nat→Option (List ae))(a:dB):aj→Option (List (List aj)×List Prop)
 | .isl xA es=>if xA=sz then some (es,[]) else none
 | .a1 r k bS len=>match k1 (az r) k a with
  | some (J,bt)=>if J.sz=sz then some ((J.es.drop bS).take len,bt++[bS+len≤J.es.length]) else none
  | none=>none
 | .cv=>some ([],[])
 | .gb=>some ([],[])
 | _=>none
def pU (P:Program)(sz:Nat)(z:List aj)(az:Nat→Option (List ae))(a:dB)(t dc:TypeId)(y:aj):Option (List (List aj)×List Prop) :=
 if t=dc then m4 sz az a y else
 match P.underlying dc,y with
 | some (.int _),.n .i64 n=>some (List.replicate n.toNat z,[0≤n,n<9223372036854775808])
 | _,_=>none
def kA (P:Program)(E:Nat→aj)(az:Nat→Option (List ae))(ap:Nat)(b:Builtin)(args:List aj)(jG:List TypeId)(bO:dB):Option e9 :=
 match b,args,jG,bO with
 | .append,[x,y],[t,dc],.aB m o =>
  match l6 P t with
  | none=>none
  | some e=>match P.info? e,mv P e with
   | some i,some z =>
    if z.length≠i.size∨i.size=0∨i.bytes=0 then none else
    match pU P i.size z az (MG o) t dc y with
    | none=>none
    | some (aT,bt)=>match x with
     | .cv=>some {val:= .a1 ap 0 0 m,dQ:=[(ap,[⟨i.size,aT,.live⟩])],dn:=bt++[m=aT.length,m*i.bytes≤140737488355328]}
     | .a1 r k 0 len=>match az r with
      | none=>none
      | some row=>match ck (some row) k with
       | none=>none
       | some J=>if J.bD = .live∧J.sz=i.size∧ap≠r then
        some {val:= .a1 ap 0 0 m,dQ:=[(ap,[⟨i.size,J.es.take len++aT,.live⟩]),(r,row.set k {J with bD:= .gone})],dn:=bt++[len≤J.es.length,m=len+aT.length,m*i.bytes≤140737488355328]} else none
     | _=>none
   | _,_=>none
 | .append,[x,y],[t,dc],.gH =>
  match l6 P t with
  | none=>none
  | some e=>match P.info? e,mv P e with
   | some i,some z =>
    if z.length≠i.size∨i.size=0∨i.bytes=0 then none else
    match pU P i.size z az .none t dc y with
    | none=>none
    | some (aT,bt)=>match x with
     | .a1 r k 0 len=>match az r with
      | none=>none
      | some row=>match ck (some row) k with
       | none=>none
       | some J=>if J.bD = .live∧J.sz=i.size then
        some {val:= .a1 r k 0 (len+aT.length),dQ:=[(r,row.set k {J with es:=J.es.take len++aT})],dn:=bt++[len+aT.length≤J.es.length,aT.length*i.bytes≤140737488355328]} else none
     | _=>none
   | _,_=>none
 | .copy,[.a1 r k 0 len,y],[t,_],_ =>
  match l6 P t with
  | none=>none
  | some e=>match P.info? e with
   | none=>none
   | some i=>match m4 i.size az .none y with
    | none=>none
    | some (aT,bt)=>match az r with
     | none=>none
     | some row=>match ck (some row) k with
      | none=>none
      | some J=>if J.bD = .live∧J.sz=i.size∧i.size≠0 then
       some {val:= .n .i64 aT.length,dQ:=[(r,row.set k {J with es:=aT++J.es.drop aT.length})],dn:=bt++[aT.length≤len,len≤J.es.length]} else none
 | .clear,[.a1 r k 0 len],[t],_ =>
  match l6 P t with
  | none=>none
  | some e=>match P.info? e,mv P e with
   | some i,some z=>match az r with
    | none=>none
    | some row=>match ck (some row) k with
     | none=>none
     | some J=>if J.bD = .live∧J.sz=i.size∧z.length=i.size∧i.size≠0 then
      some {val:= .dm [],dQ:=[(r,row.set k {J with es:=List.replicate len z})],dn:=[J.es.length=len]} else none
   | _,_=>none
 | .min,[.n k x,.n cc y],_,_=>if k=cc then some {val:= .n k (if y<x then y else x)} else none
 | _,_,_,_=>none
section
variable {g:G} {s:S} {ag:dw} {a:Act} {w a5:World}
theorem bR.gone (h:bR g s ag a w){r k:Nat}{l:List ae}{o:ae}(ak:s.az r=some l)(U:s.J r k=some o):
 bR g (s.setRow r (l.set k {o with bD:= .gone})) ag a w ∧
  ∀x v,Rel w (s.ok g ag w) s.ay (s.aC ag) x v→Rel w ((s.setRow r (l.set k {o with bD:= .gone})).ok g ag w) (s.setRow r (l.set k {o with bD:= .gone})).ay ((s.setRow r (l.set k {o with bD:= .gone})).aC ag) x v:=by
 have aF : ∀q j p,(s.setRow r (l.set k {o with bD:= .gone})).J q j=some p→s.J q j=some p∧ ¬(q=r∧j=k):=by
  intro q j p aa
  rw [iG] at aa
  by_cases e:q=r
  ·subst e
   rw [if_pos rfl] at aa
   unfold ck at aa
   simp only [List.getElem?_set] at aa
   by_cases e2:k=j
   ·subst e2
    by_cases aV:k<l.length
    ·simp [aV] at aa
    ·simp [aV] at aa
   ·rw [if_neg e2] at aa
    refine ⟨?_,fun dT=>e2 dT.2.symm⟩
    unfold S.J;rw [ak];exact aa
  ·rw [if_neg e] at aa
   exact ⟨aa,fun dT=>e dT.1⟩
 have cq:Step g s ag w (s.setRow r (l.set k {o with bD:= .gone})) ag w:=by
  refine ⟨wk s ak (by simp),fun q j aD=> ?_,fun b aA=> ?_,fun _ _ _=>rfl,Nat.le_refl _⟩
  ·cases aa:(s.setRow r (l.set k {o with bD:= .gone})).J q j with
   | none=>right;simp [S.aC,aa]
   | some p=>left;simp [S.aC,aa,(aF q j p aa).1]
  ·obtain ⟨q,j,p,m,h1,h2,af⟩:=aA
   exact .inl ⟨q,j,p,m,(aF q j p h1).1,h2,af⟩
 refine ⟨{tofy:=⟨?_,?_,?_,h.fr,h.mlt,h.j2,cq.stay h.stay,h.low⟩,env:=fun t=>cq.rel (h.env t),defers:=h.defers,gJ:=h.gJ},fun x v=>cq.rel⟩
 ·intro q j p aa
  exact cq.obj (fun b m _=>rfl) (h.obj q j p (aF q j p aa).1)
 ·intro q j p fb g7 h3 b m bs h1 h2 af ax
  exact h.inj q j p fb g7 h3 b m bs (aF q j p h1).1 (aF fb g7 h3 h2).1 af ax
 ·intro q j p b m h1 h2
  exact h.own q j p b m (aF q j p h1).1 h2
theorem bR.EQ (h:bR g s ag a w){ap sz:Nat}(c6:s.az ap=none):
 ∃a0,a0 ap 0=none∧bR g (s.setRow ap [⟨sz,[],.live⟩]) a0 a w:=by
 have aF : ∀q k,q≠ap→(s.setRow ap [⟨sz,[],.live⟩]).J q k=s.J q k:=fun q k aD=>by rw [iG,if_neg aD]
 let a0:dw:=fun q k=>if q=ap then none else ag q k
 have cb : ∀q k,s.ay q k→q≠ap:=by
  rintro q k aD rfl;exact rA c6 k aD
 have Bg : ∀k o,(s.setRow ap [⟨sz,[],.live⟩]).J ap k=some o→o=⟨sz,[],.live⟩:=by
  intro k o U
  rw [iG,if_pos rfl,ja] at U
  split at U
  ·simp at U;exact U.symm
  ·simp at U
 have cq:Step g s ag w (s.setRow ap [⟨sz,[],.live⟩]) a0 w:=by
  refine ⟨fun q k aD=>(jW _ _ _ _ _).2 (by rw [if_neg (cb q k aD)];exact aD),fun q k aD=> .inl ?_,fun b aA=> ?_,fun _ _ _=>rfl,Nat.le_refl _⟩
  ·simp [S.aC,aF q k (cb q k aD),a0,cb q k aD]
  ·obtain ⟨q,k,o,m,h1,h2,af⟩:=aA
   by_cases e:q=ap
   ·subst e;simp [a0] at af
   ·rw [aF q k e] at h1
    simp only [a0,if_neg e] at af
    exact .inl ⟨q,k,o,m,h1,h2,af⟩
 refine ⟨a0,by simp [a0],{tofy:=⟨?_,?_,?_,h.fr,h.mlt,h.j2,cq.stay h.stay,h.low⟩,env:=fun t=>cq.rel (h.env t),defers:=h.defers,gJ:=h.gJ}⟩
 ·intro q k o U
  by_cases e:q=ap
  ·subst e
   rw [Bg k o U]
   simp [a0,f9]
  ·rw [aF q k e] at U
   have:=cq.obj (fun b m _=>rfl) (h.obj q k o U)
   simpa [a0,e] using this
 ·intro q k o fb cc bm b m bs h1 h2 af ax
  have e:q≠ap:=by rintro rfl;simp [a0] at af
  have cW:fb≠ap:=by rintro rfl;simp [a0] at ax
  rw [aF q k e] at h1
  rw [aF fb cc cW] at h2
  simp only [a0,if_neg e] at af
  simp only [a0,if_neg cW] at ax
  exact h.inj q k o fb cc bm b m bs h1 h2 af ax
 ·intro q k o b m h1 h2
  have e:q≠ap:=by rintro rfl;simp [a0] at h2
  rw [aF q k e] at h1
  simp only [a0,if_neg e] at h2
  exact h.own q k o b m h1 h2
theorem bR.turn (h:bR g s ag a w){r k b m ap:Nat}{l:List ae}{o:ae}(ak:s.az r=some l)(U:s.J r k=some o)(aV:o.bD = .live)(aa:ag r k=some (b,m))
 (c6:s.az ap=none) (bm:ae) (lx:bm.bD = .live) (c:Array Value) (cU:TypeId)
 (hw:a5.heap[b]? = some (.cells c cU (0,0))) (c5:a5.heap.size=w.heap.size) (pT : ∀q,q≠b→a5.heap[q]? = w.heap[q]?)
 (Br:a5.os=w.os) (Bs:a5.tape=w.tape) (Bd:a5.output=w.output) (hm:c.size=m) (hlen : ∀e∈bm.es,e.length=bm.sz)
 (aL : ∀(j:Nat) x,bm.es.flatten[j]? = some x→ ∃v,c[j]? = some v∧hd v=true∧Rel w (s.ok g ag w) s.ay (s.aC ag) x v) :
 ∃a0,a0 ap 0=some (b,m)∧bR g ((s.setRow ap [bm]).setRow r (l.set k {o with bD:= .gone})) a0 a a5:=by
 have cb:r≠ap:=by rintro rfl;rw [c6] at ak;simp at ak
 have FJ : ∀k,¬s.ay ap k:=rA c6
 let a7:=(s.setRow ap [bm]).setRow r (l.set k {o with bD:= .gone})
 let a0:dw:=ag.set ap 0 (some (b,m))
 have aF : ∀q j p,a7.J q j=some p→(q=ap∧j=0∧p=bm)∨(q≠ap∧s.J q j=some p∧ ¬(q=r∧j=k)):=by
  intro q j p aD
  rw [iG] at aD
  by_cases e:q=r
  ·subst e
   rw [if_pos rfl] at aD
   unfold ck at aD
   simp only [List.getElem?_set] at aD
   by_cases e2:k=j
   ·subst e2
    by_cases aV:k<l.length<;>simp [aV] at aD
   ·rw [if_neg e2] at aD
    refine .inr ⟨cb,?_,fun dT=>e2 dT.2.symm⟩
    unfold S.J;rw [ak];exact aD
  ·rw [if_neg e,iG] at aD
   by_cases e2:q=ap
   ·subst e2
    rw [if_pos rfl,ja] at aD
    split at aD
    ·rename_i h0;simp at aD;exact .inl ⟨rfl,h0.1,aD.symm⟩
    ·simp at aD
   ·rw [if_neg e2] at aD
    exact .inr ⟨e2,aD,fun dT=>e dT.1⟩
 have iR : ∀q j,q≠ap→a0 q j=ag q j:=fun q j aD=>by simp [a0,dw.set,aD]
 have st:a0 ap 0=some (b,m):=by simp [a0,dw.set]
 have l5:s.iV ag b:=⟨r,k,o,m,U,aV,aa⟩
 have gu : ∀q j,s.ay q j→a7.ay q j:=fun q j aD=>by
  have e:q≠ap:=fun e=>FJ j (e▸aD)
  rw [jW,jW,if_neg e]
  by_cases e2:q=r
  ·subst e2;rw [if_pos rfl];simpa [S.ay,ak] using aD
  ·rw [if_neg e2];exact aD
 have cq:Step g s ag w a7 a0 a5:=by
  refine ⟨gu,fun q j aD=> ?_,fun q aA=> ?_,fun q aD aA=>pT q fun e=>aA (e▸l5),Nat.le_of_eq c5.symm⟩
  ·have xw:q≠ap:=fun e=>FJ j (e▸aD)
   cases hs:a7.J q j with
   | none=>right;simp [S.aC,hs]
   | some p =>
    left
    rcases aF q j p hs with ⟨e,-⟩|⟨-,e2,-⟩
    ·exact absurd e xw
    ·simp [S.aC,hs,e2,iR q j xw]
  ·obtain ⟨fb,j,p,bs,h1,h2,af⟩:=aA
   rcases aF fb j p h1 with ⟨rfl,rfl,rfl⟩|⟨e1,e2,-⟩
   ·rw [st] at af;simp at af;exact .inl (af.1▸l5)
   ·rw [iR fb j e1] at af;exact .inl ⟨fb,j,p,bs,e2,h2,af⟩
 refine ⟨a0,st,{tofy:=⟨?_,?_,?_,?_,h.mlt,h.j2,cq.stay h.stay,h.low⟩,env:=fun t=>cq.rel (h.env t),defers:=h.defers,gJ:=h.gJ}⟩
 ·intro q j p hs
  rcases aF q j p hs with ⟨rfl,rfl,rfl⟩|⟨e1,e2,br⟩
  ·rw [st]
   exact ⟨c,cU,hw,hm,hlen,fun i x I=>let ⟨v,f1,f2,f3⟩:=aL i x I;⟨v,f1,f2,cq.rel f3⟩⟩
  ·rw [iR q j e1]
   refine cq.obj (fun fB bs iy=>pT fB ?_) (h.obj q j p e2)
   rintro rfl
   exact br (h.inj q j p r k o fB bs m e2 U iy aa)
 ·intro q j p fb g7 h3 fB f5 fh h1 h2 af ax
  rcases aF q j p h1 with ⟨rfl,rfl,rfl⟩|⟨e1,e2,br⟩<;>rcases aF fb g7 h3 h2 with ⟨rfl,rfl,rfl⟩|⟨jI,lL,u7⟩
  ·exact ⟨rfl,rfl⟩
  ·rw [st] at af;simp at af
   rw [iR fb g7 jI] at ax
   obtain ⟨rfl,rfl⟩:=af
   exact absurd (h.inj fb g7 h3 r k o b fh m lL U ax aa) u7
  ·rw [st] at ax;simp at ax
   rw [iR q j e1] at af
   obtain ⟨rfl,rfl⟩:=ax
   exact absurd (h.inj q j p r k o b f5 m e2 U af aa) br
  ·rw [iR q j e1] at af;rw [iR fb g7 jI] at ax
   exact h.inj q j p fb g7 h3 fB f5 fh e2 lL af ax
 ·intro q j p fB bs h1 h2
  rcases aF q j p h1 with ⟨rfl,rfl,rfl⟩|⟨e1,e2,-⟩
  ·rw [st] at h2;simp at h2
   rw [← h2.1]
   exact h.own r k o b m U aa
  ·rw [iR q j e1] at h2;exact h.own q j p fB bs e2 h2
 ·refine h.fr.step Br Bs Bd (Nat.le_of_eq c5.symm) fun fB mG iy=>pT fB ?_
  rintro rfl
  rcases h.own r k o fB m U aa with h1|h1
  ·omega
  ·exact iy h1
theorem k8.ky {ok:Nat→Prop}{ay:gh}{aC:fZ}{cH o sz:Nat}{es:List (List aj)}(h:k8 w ok ay aC cH o sz es):
 ∃vs:List Value,vs.length=es.length*sz∧(∀(j:Nat) u,vs[j]? = some u→w.cell? ((⟨cH,o,none⟩:Addr).add j)=some u)∧(∀u∈vs,u.oneCell'=true) ∧
  ∀(j:Nat) x u,es.flatten[j]? = some x→vs[j]? = some u→Rel w ok ay aC x u:=by
 have hh:es.flatten.length=es.length*sz:=by
  have : ∀(es:List (List aj)),(∀e∈es,e.length=sz)→es.flatten.length=es.length*sz:=by
   intro es
   induction es with
   | nil=>intro _;simp
   | cons e es ih =>
    intro dT
    rw [List.flatten_cons,List.length_append,ih fun x I=>dT x (by simp [I]),dT e (by simp),List.length_cons,Nat.add_mul];omega
  exact this es h.1
 have I : ∀i,i<es.length*sz→ ∃v,∀x,es.flatten[i]? = some x→w.cell? ⟨cH,o+i,none⟩=some v∧hd v=true∧Rel w ok ay aC x v:=by
  intro i an
  have aq:=List.getElem?_eq_getElem (l:=es.flatten) (i:=i) (by omega)
  obtain ⟨v,h1⟩:=h.2 i _ aq
  exact ⟨v,fun x I=>by rw [aq] at I;simp at I;subst I;exact h1⟩
 let vs:List Value:=(List.range (es.length*sz)).map fun i=>if an:i<es.length*sz then (I i an).choose else undef
 have so:vs.length=es.length*sz:=by simp [vs]
 have i3 : ∀(i:Nat) u x,vs[i]? = some u→es.flatten[i]? = some x→w.cell? ⟨cH,o+i,none⟩=some u∧hd u=true∧Rel w ok ay aC x u:=by
  intro i u x hu u9
  have an:i<es.length*sz:=by
   rcases Nat.lt_or_ge i vs.length with bY|bY
   ·omega
   ·rw [List.getElem?_eq_none bY] at hu;simp at hu
  simp only [vs,List.getElem?_map,List.getElem?_range an,Option.map_some,dif_pos an,Option.some.injEq] at hu
  subst hu
  exact (I i an).choose_spec x u9
 have hex : ∀(i:Nat) u,vs[i]? = some u→ ∃x,es.flatten[i]? = some x:=by
  intro i u hu
  have an:i<es.flatten.length:=by
   rcases Nat.lt_or_ge i vs.length with bY|bY
   ·omega
   ·rw [List.getElem?_eq_none bY] at hu;simp at hu
  exact ⟨_,List.getElem?_eq_getElem an⟩
 refine ⟨vs,so,fun j u hu=> ?_,fun u hu=> ?_,fun j x u cx hu=>(i3 j u x hu cx).2.2⟩
 ·obtain ⟨x,u9⟩:=hex j u hu
  rw [mY];exact (i3 j u x hu u9).1
 ·obtain ⟨j,aq⟩:=List.getElem?_of_mem hu
  obtain ⟨x,u9⟩:=hex j u aq
  exact (i3 j u x aq u9).2.1
theorem JL {es aT:List (List aj)}{sz:Nat}{xs news:List Value}(I:xs.length=es.length*sz)(he:∀e∈es,e.length=sz){j:Nat}{x:aj}(h:(es++aT).flatten[j]? = some x)
 {ok:Nat→Prop} {ay:gh} {aC:fZ} (h1 : ∀(j:Nat) x u,es.flatten[j]? = some x→xs[j]? = some u→Rel w ok ay aC x u) (h2 : ∀(j:Nat) x u,aT.flatten[j]? = some x→news[j]? = some u→Rel w ok ay aC x u)
 {u:Value} (hu:(xs++news)[j]? = some u):Rel w ok ay aC x u:=by
 have hh:es.flatten.length=es.length*sz:=by
  have : ∀(es:List (List aj)),(∀e∈es,e.length=sz)→es.flatten.length=es.length*sz:=by
   intro es
   induction es with
   | nil=>intro _;simp
   | cons e es ih =>
    intro dT
    rw [List.flatten_cons,List.length_append,ih fun x I=>dT x (by simp [I]),dT e (by simp),List.length_cons,Nat.add_mul];omega
  exact this es he
 rw [List.flatten_append,List.getElem?_append] at h
 rw [List.getElem?_append] at hu
 by_cases aq:j<es.flatten.length
 ·rw [if_pos aq] at h
  rw [if_pos (by omega)] at hu
  exact h1 j x u h hu
 ·rw [if_neg aq] at h
  rw [if_neg (by omega)] at hu
  rw [hh] at h
  rw [I] at hu
  exact h2 _ x u h hu
variable {P:Program}
theorem Et (h:bR g s ag a w){sz:Nat}{x:aj}{dz:dB}{aT:List (List aj)}{J:List Prop}(he:m4 sz s.az dz x=some (aT,J))(aF:∀p∈J,p){v:Value}(aS:Rel w (s.ok g ag w) s.ay (s.aC ag) x v):
 ∃A c,v = .slice A aT.length c∧(∀e∈aT,e.length=sz)∧(aT.length=0∨ ∃cH off,A=some ⟨cH,off,none⟩∧k8 w (s.ok g ag w) s.ay (s.aC ag) cH off sz aT):=by
 cases x with
 | isl xA es =>
  simp only [m4] at he
  split at he
  ·rename_i cf
   subst cf
   simp only [Option.some.injEq,Prod.mk.injEq] at he
   obtain ⟨rfl,rfl⟩:=he
   rcases aS.oc with ⟨rfl,A,c,rfl,-⟩|⟨cH,off,c,-,rfl,-,fH⟩
   ·exact ⟨A,c,rfl,by simp,.inl rfl⟩
   ·exact ⟨_,c,rfl,fH.1,.inr ⟨cH,off,rfl,fH⟩⟩
  ·simp at he
 | a1 r k bS len =>
  simp only [m4] at he
  split at he
  ·rename_i j6 bt gG
   split at he
   ·rename_i cf
    simp only [Option.some.injEq,Prod.mk.injEq] at he
    obtain ⟨rfl,rfl⟩:=he
    have fF:bS+len≤j6.es.length:=aF _ (by simp)
    have U:s.J r k=some j6:=od gG (fun p aa=>aF p (by simp [aa]))
    have dj:=h.obj r k j6 U
    have aA:((j6.es.drop bS).take len).length=len:=by simp;omega
    rcases aS.ub (fx U) with ⟨-,rfl,rfl,rfl⟩|⟨b,m,A,c,aa,rfl,nf,-,hm⟩
    ·exact ⟨none,0,by simp,by simp,.inl (by simp)⟩
    ·rw [aa] at dj
     have fH:=dj.rd
     subst cf
     have p6:=wm fH bS len (by omega)
     refine ⟨A,c,by rw [aA],p6.1,?_⟩
     rcases hm with rfl|⟨rfl,-⟩
     ·left;rw [aA];omega
     ·right
      rw [Nat.zero_add] at p6
      exact ⟨b,_,rfl,p6⟩
   ·simp at he
  ·simp at he
 | cv =>
  simp only [m4,Option.some.injEq,Prod.mk.injEq] at he
  obtain ⟨rfl,rfl⟩:=he
  rw [aS.lY]
  exact ⟨none,0,rfl,by simp,.inl rfl⟩
 | gb =>
  simp only [m4,Option.some.injEq,Prod.mk.injEq] at he
  obtain ⟨rfl,rfl⟩:=he
  obtain ⟨A,c,rfl⟩:=aS.wV
  exact ⟨some A,c,rfl,by simp,.inl rfl⟩
 | _=>simp [m4] at he
structure Bh (P:Program) (w:World) (t dc cU e:TypeId) (i:TypeInfo) (cQ kf:Value) (n:Nat) (vs:List Value):Prop where
 zero:n=0→ ∀(B:Option Addr) (len cap:Nat),len≤cap→(Builtin.append_ #[t,dc] cU #[.slice B len cap,kf]).run P w = .ok (.slice B len cap) w
 nil:0<n→(n:Int)≤9223372036854775807→n*i.bytes≤140737488355328 →
  (Builtin.append_ #[t,dc] cU #[.slice none 0 0,kf]).run P w = .ok (.slice (some ⟨w.heap.size,0,none⟩) n (grownCap w n 0 e)) (w.drew.alloc (.cells (vs.toArray++Builtin.zeroCells cQ.cells (grownCap w n 0 e-n)) e))
 room:0<n→ ∀(g fQ iY:Nat) (iM:Array Value) (cW:TypeId),w.heap[g]? = some (.cells iM cW (0,0))→fQ+n≤iY→fQ*i.size+vs.length≤iM.size→n*i.bytes≤140737488355328 →
  (Builtin.append_ #[t,dc] cU #[.slice (some ⟨g,0,none⟩) fQ iY,kf]).run P w = .ok (.slice (some ⟨g,0,none⟩) (fQ+n) iY) (w.setRow g (iM.toList.take (fQ*i.size)++vs++iM.toList.drop (fQ*i.size+vs.length)).toArray)
 grow:0<n→ ∀(b:Addr) (fQ iY:Nat) (p7:List Value),p7.length=fQ*i.size→(∀(j:Nat) v,p7[j]? = some v→w.cell? (b.add j)=some v)→iY<fQ+n→((fQ+n:Nat):Int)≤9223372036854775807→Builtin.nextslicecap (fQ+n) iY*i.bytes≤281474976710656→n*i.bytes≤140737488355328 →
  (Builtin.append_ #[t,dc] cU #[.slice (some b) fQ iY,kf]).run P w = .ok (.slice (some ⟨w.heap.size,0,none⟩) (fQ+n) (grownCap w (fQ+n) iY e))
    (w.drew.alloc (.cells (p7.toArray++vs.toArray++Builtin.zeroCells cQ.cells (grownCap w (fQ+n) iY e-(fQ+n))) e))
theorem Ja (t cU e:TypeId)(i:TypeInfo)(bP:P.underlying t=some (.slice e))(an:P.info? e=some i)
 (g fQ iY:Nat) (iM:Array Value) (cW:TypeId) (c8:w.heap[g]? = some (.cells iM cW (0,0)))
 (a:Addr) (m c:Nat) (news:List Value) (aA:news.length=m*i.size) (M7 : ∀j u,news[j]? = some u→w.cell? (a.add j)=some u) (h1 : ∀u∈news,u.oneCell'=true)
 (oi:fQ+m≤iY) (fF:fQ*i.size+news.length≤iM.size) :
 (Builtin.append_ #[t,t] cU #[.slice (some ⟨g,0,none⟩) fQ iY,.slice (some a) m c]).run P w =
   .ok (.slice (some ⟨g,0,none⟩) (fQ+m) iY) (w.setRow g (iM.toList.take (fQ*i.size)++news++iM.toList.drop (fQ*i.size+news.length)).toArray):=by
 have bk:=run_firstCells_some (P:=P) w i.size m a m c news aA M7
 have jg:=run_storeCells_at P g (fQ*i.size) cW news 0 iM w c8 (by simpa using fF) h1
 simp only [Nat.add_zero] at jg
 simp [Builtin.append_,run_underlying bP,sizeOf,typeInfo,an,Builtin.lenOf,oi,bk,Addr.add_lit,jg]
theorem DO {t cU e:TypeId}{i:TypeInfo}{cQ:Value}(bP:P.underlying t=some (.slice e))(an:P.info? e=some i)(cn:i.zero=some cQ){A:Option Addr}{n c:Nat}{vs:List Value}(aA:vs.length=n*i.size)
 (hA:n=0∨ ∃a,A=some a∧ ∀(j:Nat) u,vs[j]? = some u→w.cell? (a.add j)=some u) (h1 : ∀u∈vs,u.oneCell'=true):Bh P w t t cU e i cQ (.slice A n c) n vs where
 zero:=fun h0 B len cap uJ=>by
  subst h0
  cases A<;>cases B<;>simp [Builtin.append_,run_underlying bP,sizeOf,typeInfo,an,Builtin.lenOf,uJ,Builtin.firstCells,loadCells,loadCellsFrom,storeCells]
 nil:=fun h0 qf ng=>by
  obtain ⟨a,rfl,bV⟩:=hA.resolve_left (by omega)
  exact run_append_nil (P:=P) w t cU e i cQ bP an cn a n c vs aA bV h0 qf (by omega)
 room:=fun a6 g fQ iY iM cW c8 oi fF _=>by
  obtain ⟨a,rfl,bV⟩:=hA.resolve_left (by omega)
  exact Ja t cU e i bP an g fQ iY iM cW c8 a n c vs aA bV h1 oi fF
 grow:=fun a6 b fQ iY p7 U hold c8 qf fF _=>by
  obtain ⟨a,rfl,bV⟩:=hA.resolve_left (by omega)
  exact run_append_grow (P:=P) w t cU e i cQ bP an cn b fQ iY p7 U hold a n c vs aA bV c8 qf fF
theorem KJ {t dc cU e:TypeId}{i:TypeInfo}{cQ:Value}{k:IntKind}(bP:P.underlying t=some (.slice e))(lv:P.underlying dc=some (.int k))(an:P.info? e=some i)(cn:i.zero=some cQ)(iN:cQ.cells.size=i.size){m:Nat}(Q2:(m:Int)<9223372036854775808)
 (h1 : ∀u∈(Builtin.zeroCells cQ.cells m).toList,u.oneCell'=true):Bh P w t dc cU e i cQ (.int .i64 m) m (Builtin.zeroCells cQ.cells m).toList:=by
 have hw:IntKind.i64.wrap (m:Int)=m:=by simp [IntKind.wrap,IntKind.bits,IntKind.signed];omega
 have sk : ¬((m:Int)<0):=by omega
 have o7 : ∀bs,bs*i.size=0→Builtin.zeroCells cQ.cells bs = #[]:=fun bs hm=>by
  apply Array.eq_empty_of_size_eq_zero
  rw [size_zeroCells,iN,hm]
 have N8 : ∀a5:World,(if m*i.size=0 then (pure #[]:Sem (Array Value)) else do pure (Builtin.zeroCells (← zeroValue e).cells m)).run P a5 = .ok (Builtin.zeroCells cQ.cells m) a5:=fun a5=>by
  split
  ·rename_i hm;rw [o7 _ hm];rfl
  ·simp [zeroValue,typeInfo,an,cn]
 have Bi : ∀b:Nat,m*b≤140737488355328→ ¬(281474976710656<(m:Int)*(b:Int)):=fun b aE=>by
  have:((m*b:Nat):Int)≤140737488355328:=by omega
  rw [Int.natCast_mul] at this
  omega
 refine ⟨fun a6 B len cap uJ=> ?_,fun a6 qf ng=> ?_,fun a6 g fQ iY iM cW c8 oi fF ng=> ?_,fun a6 b fQ iY p7 U hold c8 qf fF ng=> ?_⟩
 ·subst a6
  have N9:IntKind.i64.wrap 0=0:=by simpa using hw
  cases B<;>simp [Builtin.append_,run_underlying bP,run_underlying lv,sizeOf,typeInfo,an,uJ,asInt,asIntOf,N9,storeCells]
 ·have F0 : ¬m=0:=by omega
  have uK : ¬(9223372036854775807<(m:Int)):=by omega
  have o2:=Bi _ ng
  have uL : ¬(281474976710656<Builtin.nextslicecap m 0*i.bytes):=by rw [nextslicecap_zero a6];omega
  have h2:=N8 w.drew
  by_cases hm:m*i.size=0
  ·simp [Builtin.append_,run_underlying bP,run_underlying lv,sizeOf,typeInfo,zeroValue,an,cn,asInt,asIntOf,hw,sk,o2,F0,uK,uL,Question.forced,run_firstCells_none,newRow,grownCap,hm,o7 _ hm]
  ·simp [Builtin.append_,run_underlying bP,run_underlying lv,sizeOf,typeInfo,zeroValue,an,cn,asInt,asIntOf,hw,sk,o2,F0,uK,uL,Question.forced,run_firstCells_none,newRow,grownCap,hm]
 ·have o2:=Bi _ ng
  have jg:=run_storeCells_at P g (fQ*i.size) cW (Builtin.zeroCells cQ.cells m).toList 0 iM w c8 (by simpa using fF) h1
  simp only [Nat.add_zero] at jg
  by_cases hm:m*i.size=0
  ·rw [o7 _ hm] at jg
   have NG:(storeCells ⟨g,fQ*i.size,none⟩ []).run P w = .ok () (w.setRow g iM):=by simpa using jg
   simp [Builtin.append_,run_underlying bP,run_underlying lv,sizeOf,typeInfo,zeroValue,an,cn,asInt,asIntOf,hw,sk,o2,oi,hm,o7 _ hm,Addr.add_lit,NG]
  ·simp [Builtin.append_,run_underlying bP,run_underlying lv,sizeOf,typeInfo,zeroValue,an,cn,asInt,asIntOf,hw,sk,o2,oi,hm,Addr.add_lit,jg]
 ·have o2:=Bi _ ng
  have mI : ¬(fQ+m≤iY):=by omega
  have uK : ¬(9223372036854775807<((fQ:Int)+(m:Int))):=by omega
  have uL : ¬(281474976710656<Builtin.nextslicecap (fQ+m) iY*i.bytes):=by omega
  have F1:=run_firstCells_some (P:=P) w.drew i.size fQ b fQ iY p7 U (by simpa using hold)
  by_cases hm:m*i.size=0
  ·simp [Builtin.append_,run_underlying bP,run_underlying lv,sizeOf,typeInfo,zeroValue,an,cn,asInt,asIntOf,hw,sk,o2,mI,uK,uL,Question.forced,F1,newRow,grownCap,hm,o7 _ hm]
  ·simp [Builtin.append_,run_underlying bP,run_underlying lv,sizeOf,typeInfo,zeroValue,an,cn,asInt,asIntOf,hw,sk,o2,mI,uK,uL,Question.forced,F1,newRow,grownCap,hm]
theorem z9 {ap:Nat}{e:TypeId}{v:Value}{i:TypeInfo}{m:Nat}(h:bR g s ag a w)(c6:s.az ap=none){es:List (List aj)}(hlen:∀x∈es,x.length=i.size)(hm:m=es.length)
 {ky:List Value} {oG:Array Value} {cap:Nat} (so:ky.length=es.length*i.size) (iX : ∀u∈ky,u.oneCell'=true) (Oa:oG.size=(cap-m)*i.size) (uJ:m≤cap) (NH:cap<9223372036854775808)
 (dj : ∀(j:Nat) x u,es.flatten[j]? = some x→ky[j]? = some u→Rel w (s.ok g ag w) s.ay (s.aC ag) x u)
 (aS:v = .slice (some ⟨w.heap.size,0,none⟩) m cap) :
 ∃a0,bR g (s.setRow ap [⟨i.size,es,.live⟩]) a0 a (w.drew.alloc (.cells (ky.toArray++oG) e)) ∧
  Rel (w.drew.alloc (.cells (ky.toArray++oG) e)) ((s.setRow ap [⟨i.size,es,.live⟩]).ok g a0 (w.drew.alloc (.cells (ky.toArray++oG) e))) (s.setRow ap [⟨i.size,es,.live⟩]).ay ((s.setRow ap [⟨i.size,es,.live⟩]).aC a0) (.a1 ap 0 0 m) v:=by
 have bg:=h.drew
 have hh:es.flatten.length=es.length*i.size:=by
  have : ∀(es:List (List aj)),(∀e∈es,e.length=i.size)→es.flatten.length=es.length*i.size:=by
   intro es
   induction es with
   | nil=>intro _;simp
   | cons e es ih =>
    intro dT
    rw [List.flatten_cons,List.length_append,ih fun x I=>dT x (by simp [I]),dT e (by simp),List.length_cons,Nat.add_mul];omega
  exact this es hlen
 obtain ⟨a0,p1,p2,-⟩:=bg.alloc c6 ⟨i.size,es,.live⟩ rfl (ky.toArray++oG) e hlen (fun j x I=>by
  have aq:j<ky.length:=by
   rcases Nat.lt_or_ge j es.flatten.length with bY|bY
   ·omega
   ·rw [List.getElem?_eq_none bY] at I;simp at I
  refine ⟨ky[j],?_,iX _ (List.getElem_mem aq),?_⟩
  ·rw [Array.getElem?_append_left (by simpa using aq)]
   simp [aq]
  ·exact (dj j x _ I (List.getElem?_eq_getElem aq)).drew)
 refine ⟨a0,p2,?_⟩
 subst aS
 have U:(s.setRow ap [⟨i.size,es,.live⟩]).J ap 0=some ⟨i.size,es,.live⟩:=by rw [iG,if_pos rfl,ja];simp
 refine Rel.a1 (sz:=i.size) (cH:=w.heap.size) (m:=(ky.toArray++oG).size) ((jW _ _ _ _ _).2 (by simp)) ?_ uJ NH ⟨?_,.inr (by simp)⟩
 ·rw [fx U,p1];rfl
 ·simp only [Array.size_append,List.size_toArray,Oa,so,Nat.zero_add]
  rw [← hm,← Nat.add_mul]
  congr 1;omega
section
variable {o:Oper} {bO:dB} {ap:Nat} {aO:e9}
theorem Ea (h:bR g s ag a w){t dc cU e:TypeId}{i:TypeInfo}{z:List aj}(hu:P.underlying t=some (.slice e))(an:P.info? e=some i)(cn:mv P e=some z)(j5:z.length=i.size)(jD:i.size≠0)
 {y:aj} {dz:dB} {aT:List (List aj)} {J:List Prop} (he:pU P i.size z s.az dz t dc y=some (aT,J)) (aF : ∀p∈J,p) {kf:Value} (aI:Rel w (s.ok g ag w) s.ay (s.aC ag) y kf) :
 ∃cQ vs,i.zero=some cQ∧cQ.cells.size=i.size∧Bh P w t dc cU e i cQ kf aT.length vs∧(∀x∈aT,x.length=i.size)∧vs.length=aT.length*i.size∧(∀u∈vs,u.oneCell'=true) ∧
  ∀(j:Nat) x u,aT.flatten[j]? = some x→vs[j]? = some u→Rel w (s.ok g ag w) s.ay (s.aC ag) x u:=by
 obtain ⟨gy,cQ,hZ,hK,qv,o9⟩:=tQ cn
 rw [an] at hZ;simp at hZ;subst hZ
 have iN:cQ.cells.size=i.size:=by rw [← j5,qv];simp
 unfold pU at he
 split at he
 ·rename_i Ob
  subst Ob
  obtain ⟨A,c,rfl,hlen,BA⟩:=Et h he aF aI
  rcases BA with h0|⟨cH,off,rfl,fH⟩
  ·have:aT=[]:=List.length_eq_zero_iff.1 h0
   subst this
   exact ⟨cQ,[],hK,iN,DO hu an hK (by simp) (.inl rfl) (by simp),hlen,by simp,by simp,by simp⟩
  ·obtain ⟨vs,v1,v2,v3,v4⟩:=fH.ky
   exact ⟨cQ,vs,hK,iN,DO hu an hK v1 (.inr ⟨_,rfl,v2⟩) v3,hlen,v1,v3,v4⟩
 ·split at he
  ·rename_i k n aV
   simp only [Option.some.injEq,Prod.mk.injEq] at he
   obtain ⟨rfl,rfl⟩:=he
   have h0:0≤n:=aF _ (by simp)
   have qf:n<9223372036854775808:=aF _ (by simp)
   obtain ⟨m,rfl⟩:=Int.eq_ofNat_of_zero_le h0
   have Oc:kf = .int .i64 m:=by cases aI;rfl
   subst Oc
   have i3 : ∀(j:Nat) u,(Builtin.zeroCells cQ.cells m).toList[j]? = some u→cQ.cells[j % i.size]? = some u:=by
    intro j u kB
    have aq:=(List.getElem?_eq_some_iff.1 kB).1
    rw [Array.length_toList,size_zeroCells,iN] at aq
    have cE:j % i.size<cQ.cells.size:=by rw [iN];exact Nat.mod_lt _ (by omega)
    rw [Array.getElem?_toList,Builtin.zeroCells,Array.getElem?_map,iN,Array.getElem?_range] at kB
    rw [if_pos aq] at kB
    simp only [Option.map_some,Option.some.injEq] at kB
    rw [← kB,Array.getElem?_eq_getElem cE,getElem!_pos cQ.cells _ cE]
   refine ⟨cQ,(Builtin.zeroCells cQ.cells m).toList,hK,iN,?_,?_,?_,?_,?_⟩
   ·simp only [List.length_replicate,Int.toNat_natCast]
    refine KJ hu aV an hK iN (by omega) fun u nh=> ?_
    obtain ⟨j,aq⟩:=List.getElem?_of_mem nh
    have h1:=i3 j u aq
    have cE:j % i.size<z.length:=by rw [j5];exact Nat.mod_lt _ (by omega)
    obtain ⟨v,v1,v2,-⟩:=o9 _ _ (List.getElem?_eq_getElem cE)
    rw [h1] at v1
    obtain rfl:=Option.some.inj v1
    exact v2
   ·intro x I
    rw [List.mem_replicate] at I
    rw [I.2,j5]
   ·rw [Array.length_toList,size_zeroCells,iN];simp
   ·intro u nh
    obtain ⟨j,aq⟩:=List.getElem?_of_mem nh
    have h1:=i3 j u aq
    have cE:j % i.size<z.length:=by rw [j5];exact Nat.mod_lt _ (by omega)
    obtain ⟨v,v1,v2,-⟩:=o9 _ _ (List.getElem?_eq_getElem cE)
    rw [h1] at v1
    obtain rfl:=Option.some.inj v1
    exact v2
   ·intro j x u I kB
    rw [lC (sz:=i.size) (by omega) _ (fun cW iZ=>by rw [List.mem_replicate] at iZ;rw [iZ.2,j5])] at I
    have h1:=i3 j u kB
    cases aD:(List.replicate (Int.toNat (m:Int)) z)[j / i.size]? with
    | none=>rw [aD] at I;simp at I
    | some cW =>
     have:=List.mem_of_getElem? aD
     rw [List.mem_replicate] at this
     rw [aD,this.2] at I
     simp only [Option.bind_some] at I
     obtain ⟨v,v1,-,v3⟩:=o9 _ _ I
     rw [h1] at v1
     obtain rfl:=Option.some.inj v1
     exact v3 _ _ _ _
  ·simp at he
theorem KK (h:bR g s ag a w)(c6:s.az ap=none){x y:aj}{ns kf:Value}{t dc:TypeId}{m:Nat}{Cf:Option ae}{cU:TypeId}(ab:kA P s.E s.az ap .append [x,y] [t,dc] (.aB m Cf)=some aO)(bF:∀p∈aO.dn,p)
 (I:Rel w (s.ok g ag w) s.ay (s.aC ag) x ns) (aI:Rel w (s.ok g ag w) s.ay (s.aC ag) y kf) :
 ∃v a5 a0,(Builtin.append_ #[t,dc] cU #[ns,kf]).run P w = .ok v a5∧bR g (s.fs aO.dQ) a0 a a5∧Rel a5 ((s.fs aO.dQ).ok g a0 a5) (s.fs aO.dQ).ay ((s.fs aO.dQ).aC a0) aO.val v:=by
 simp only [kA] at ab
 split at ab
 ·simp at ab
 ·rename_i e he
  have hu:=nE he
  split at ab
  ·rename_i i z an cn
   split at ab
   ·simp at ab
   ·rename_i aL
    simp only [not_or,Decidable.not_not] at aL
    obtain ⟨j5,jD,xt⟩:=aL
    split at ab
    ·simp at ab
    ·rename_i aT bt nb
     have xB:=fun aa=>Ea (cU:=cU) h hu an cn j5 jD nb aa aI
     by_cases MH:True
     ·
      split at ab
      ·
       simp only [Option.some.injEq] at ab
       subst ab
       have hm:m=aT.length:=bF _ (by simp)
       have ni:m*i.bytes≤140737488355328:=bF _ (by simp)
       obtain ⟨cQ,vs,hK,iN,hA,hlen,v1,v3,v4⟩:=xB (fun p aa=>bF p (by simp [aa]))
       clear xB
       rw [I.lY]
       by_cases h0:aT.length=0
       ·have:aT=[]:=List.length_eq_zero_iff.1 h0
        subst this
        obtain ⟨a0,p1,p2⟩:=h.EQ (sz:=i.size) c6
        refine ⟨_,w,a0,hA.zero h0 none 0 0 (Nat.le_refl _),p2,?_⟩
        subst hm
        have U:(s.setRow ap [⟨i.size,[],.live⟩]).J ap 0=some ⟨i.size,[],.live⟩:=by rw [iG,if_pos rfl,ja];simp
        exact .km (sz:=i.size) ((jW _ _ _ _ _).2 (by simp)) (by show (s.setRow ap [⟨i.size,[],.live⟩]).aC a0 ap 0=_;rw [fx U,p1])
       ··have BB:aT.length*1≤aT.length*i.bytes:=Nat.mul_le_mul_left _ (by omega)
         rw [hm] at ni
         have fY:=hA.nil (by omega) (by omega) (by omega)
         have F2:=grownCap_ge w aT.length 0 e
         have hle:=grownCap_le_maxLen w aT.length 0 e (by simp only [maxLen];omega)
         simp only [maxLen] at hle
         obtain ⟨a0,q1,q2⟩:=z9 (e:=e) (i:=i) (m:=m) (ky:=vs) (oG:=Builtin.zeroCells cQ.cells (grownCap w aT.length 0 e-aT.length)) (cap:=grownCap w aT.length 0 e) h c6 hlen hm v1 v3
          (by rw [size_zeroCells,iN,hm]) (by omega) (by omega) v4 rfl
         refine ⟨.slice (some ⟨w.heap.size,0,none⟩) m (grownCap w aT.length 0 e),_,a0,?_,q1,q2⟩
         rw [hm];exact fY
      ·
       rename_i r k len
       split at ab
       ·simp at ab
       ·rename_i row ct
        split at ab
        ·simp at ab
        ·rename_i J aF
         split at ab
         ·rename_i qg
          obtain ⟨kC,c5,cb⟩:=qg
          simp only [Option.some.injEq] at ab
          subst ab
          have U:s.J r k=some J:=by unfold S.J;rw [ct];exact aF
          have fF:len≤J.es.length:=bF _ (by simp)
          have hm:m=len+aT.length:=bF _ (by simp)
          have ni:m*i.bytes≤140737488355328:=bF _ (by simp)
          have BB:m*1≤m*i.bytes:=Nat.mul_le_mul_left _ (Nat.one_le_iff_ne_zero.2 xt)
          obtain ⟨cQ,vs,hK,iN,hA,hlen,v1,v3,v4⟩:=xB (fun p aa=>bF p (by simp [aa]))
          clear xB
          have Q7:aT.length*i.bytes≤m*i.bytes:=Nat.mul_le_mul_right _ (by omega)
          have dj:=h.obj r k J U
          have BC:(J.es.take len).length=len:=by simp;omega
          have nI:(s.setRow ap [⟨i.size,J.es.take len++aT,.live⟩]).az r=some row:=by simp [S.setRow,Ne.symm cb,ct]
          have me : ∀a0:dw,((s.setRow ap [⟨i.size,J.es.take len++aT,.live⟩]).setRow r (row.set k {J with bD:= .gone})).J ap 0=some ⟨i.size,J.es.take len++aT,.live⟩:=by
           intro _
           rw [iG,if_neg cb,iG,if_pos rfl,ja];simp
          have uM:((s.setRow ap [⟨i.size,J.es.take len++aT,.live⟩]).setRow r (row.set k {J with bD:= .gone})).ay ap 0:=by rw [jW,if_neg cb,jW,if_pos rfl];simp
          show ∃v a5 a0,_∧bR g ((s.setRow ap [⟨i.size,J.es.take len++aT,.live⟩]).setRow r (row.set k {J with bD:= .gone})) a0 a a5∧_
          rcases I.pM (fx U) with ⟨aa,-,rfl,rfl⟩|⟨b,M,k9,iS,aa,rfl,nf,oA,cG,jH⟩
          ·
           rw [aa] at dj
           simp only [f9] at dj
           have e4:J.es.take 0++aT=aT:=by simp
           by_cases h0:aT.length=0
           ·have:aT=[]:=List.length_eq_zero_iff.1 h0
            subst this
            obtain ⟨a0,p1,p2⟩:=h.EQ (sz:=i.size) c6
            have mf:(s.setRow ap [⟨i.size,[],.live⟩]).J r k=some J:=by rw [iG,if_neg (Ne.symm cb)];exact U
            have M8:(s.setRow ap [⟨i.size,[],.live⟩]).az r=some row:=by simp [S.setRow,Ne.symm cb,ct]
            obtain ⟨nU,-⟩:=p2.gone M8 mf
            have uN:J.es.take 0++([]:List (List aj))=[]:=by simp
            rw [uN]
            rw [uN] at uM me
            refine ⟨_,w,a0,hA.zero h0 none 0 0 (Nat.le_refl _),nU,?_⟩
            subst hm
            exact .km (sz:=i.size) uM ((fx (me a0)).trans (by rw [p1]))
           ··have iy:m=aT.length:=by omega
             have fY:=hA.nil (by omega) (by omega) (by omega)
             have F2:=grownCap_ge w aT.length 0 e
             have hle:=grownCap_le_maxLen w aT.length 0 e (by simp only [maxLen];omega)
             simp only [maxLen] at hle
             obtain ⟨a0,q1,q2⟩:=z9 (e:=e) (i:=i) (m:=m) (ky:=vs) (oG:=Builtin.zeroCells cQ.cells (grownCap w aT.length 0 e-aT.length)) (cap:=grownCap w aT.length 0 e) h c6 hlen iy v1 v3
              (by rw [size_zeroCells,iN,iy]) (by omega) (by omega) v4 rfl
             rw [e4]
             rw [e4] at nI
             have mf:(s.setRow ap [⟨i.size,aT,.live⟩]).J r k=some J:=by rw [iG,if_neg (Ne.symm cb)];exact U
             obtain ⟨nU,vv⟩:=q1.gone nI mf
             refine ⟨.slice (some ⟨w.heap.size,0,none⟩) m (grownCap w aT.length 0 e),_,a0,?_,nU,vv _ _ q2⟩
             rw [iy];exact fY
          ·
           rw [aa] at dj
           have M9:=dj
           obtain ⟨bB,jt,g1,g2,g3,g4⟩:=dj
           have uO : ∀e∈J.es.take len++aT,e.length=i.size:=by
            intro cW iZ
            rw [List.mem_append] at iZ
            rcases iZ with bY|bY
            ·rw [g3 cW (List.mem_of_mem_take bY),c5]
            ·exact hlen cW bY
           have hh : ∀(es:List (List aj)),(∀e∈es,e.length=i.size)→es.flatten.length=es.length*i.size:=by
            intro es
            induction es with
            | nil=>intro _;simp
            | cons e es ih =>
             intro dT
             rw [List.flatten_cons,List.length_append,ih fun x I=>dT x (by simp [I]),dT e (by simp),List.length_cons,Nat.add_mul];omega
           by_cases h0:aT.length=0
           ·
            have:aT=[]:=List.length_eq_zero_iff.1 h0
            subst this
            have uN:J.es.take len++([]:List (List aj))=J.es.take len:=by simp
            rw [uN]
            rw [uN] at uM me uO
            obtain ⟨a0,p1,p2⟩:=h.turn ct U kC aa c6 ⟨i.size,J.es.take len,.live⟩ rfl bB jt g1 rfl (fun _ _=>rfl) rfl rfl rfl g2 uO (fun j q aD=>by
             refine g4 j q ?_
             have aq:j<(J.es.take len).flatten.length:=by
              rcases Nat.lt_or_ge j (J.es.take len).flatten.length with bY|bY
              ·exact bY
              ·rw [List.getElem?_eq_none bY] at aD;simp at aD
             have F3:J.es.flatten=(J.es.take len).flatten++(J.es.drop len).flatten:=by rw [← List.flatten_append,List.take_append_drop]
             rw [F3,List.getElem?_append_left aq];exact aD)
            refine ⟨_,w,a0,hA.zero h0 k9 len iS nf,p2,?_⟩
            have iy:m=len:=by simpa using hm
            subst iy
            refine .a1 (sz:=i.size) (cH:=b) (m:=M) uM ((fx (me a0)).trans (by rw [p1])) nf oA ?_
            rw [← c5];exact ⟨cG,jH⟩
           ··
             have hold : ∃xs:List Value,xs.length=len*i.size∧(∀(j:Nat) u,xs[j]? = some u→w.cell? ((⟨b,0,none⟩:Addr).add j)=some u)∧(∀u∈xs,u.oneCell'=true) ∧
              ∀(j:Nat) x u,(J.es.take len).flatten[j]? = some x→xs[j]? = some u→Rel w (s.ok g ag w) s.ay (s.aC ag) x u:=by
              have FK:=wm M9.rd 0 len (by omega)
              simp only [List.drop_zero,Nat.zero_mul,Nat.add_zero] at FK
              obtain ⟨xs,x1,x2,aK,ik⟩:=FK.ky
              exact ⟨xs,by rw [x1,BC,c5],x2,aK,ik⟩
             obtain ⟨xs,x1,x2,aK,ik⟩:=hold
             have Od:xs.length=(J.es.take len).length*i.size:=by rw [BC];exact x1
             have ER : ∀(j:Nat) x u,(J.es.take len++aT).flatten[j]? = some x→(xs++vs)[j]? = some u→Rel w (s.ok g ag w) s.ay (s.aC ag) x u :=
              fun j x u Oe kB=>JL Od (fun cW iZ=>by rw [g3 cW (List.mem_of_mem_take iZ),c5]) Oe ik v4 kB
             have uP:(J.es.take len++aT).length=m:=by rw [List.length_append,BC];exact hm.symm
             by_cases oi:len+aT.length≤iS
             ·
              rcases jH with rfl|rfl
              ·omega
              ·rw [Nat.zero_mul] at *
               rw [Nat.zero_add] at cG
               have MI:len*i.size+vs.length≤bB.size:=by
                rw [v1,g2,← cG,c5,← Nat.add_mul];exact Nat.mul_le_mul_right _ oi
               have fY:=hA.room (by omega) b len iS bB jt g1 oi MI (by omega)
               have NI:(w.setRow b (bB.toList.take (len*i.size)++vs++bB.toList.drop (len*i.size+vs.length)).toArray).heap.size=w.heap.size:=size_setRow _ _ _
               have F4:xs=bB.toList.take (len*i.size):=by
                apply List.ext_getElem?
                intro j
                rw [List.getElem?_take]
                by_cases aq:j<len*i.size
                ·rw [if_pos aq]
                 have F5:j<xs.length:=by omega
                 have:=x2 j _ (List.getElem?_eq_getElem F5)
                 rw [mY,cell_of_row w b (0+j) bB jt (0,0) g1,Nat.zero_add] at this
                 rw [List.getElem?_eq_getElem F5,← this,Array.getElem?_toList]
                ·rw [if_neg aq,List.getElem?_eq_none (by omega)]
               obtain ⟨a0,p1,p2⟩:=h.turn ct U kC aa c6 ⟨i.size,J.es.take len++aT,.live⟩ rfl _ jt (setRow_heap w b bB _ jt _ g1) NI (fun q aD=>setRow_other w b q _ aD) rfl rfl rfl
                (by rw [← g2];simp;omega) uO (fun j q aD=>by
                  have aq:j<(xs++vs).length:=by
                   have:j<(J.es.take len++aT).flatten.length:=by
                    rcases Nat.lt_or_ge j (J.es.take len++aT).flatten.length with bY|bY
                    ·exact bY
                    ·rw [List.getElem?_eq_none bY] at aD;simp at aD
                   rw [hh _ uO,uP] at this
                   rw [List.length_append,x1,v1,← Nat.add_mul,← hm];exact this
                  refine ⟨(xs++vs)[j],?_,?_,ER j q _ aD (List.getElem?_eq_getElem aq)⟩
                  ·rw [List.getElem?_toArray,List.getElem?_append_left (by rw [← F4];exact aq),← F4]
                   exact List.getElem?_eq_getElem aq
                  ·have:=List.getElem_mem aq
                   rw [List.mem_append] at this
                   rcases this with bY|bY
                   ·exact aK _ bY
                   ·exact v3 _ bY)
               refine ⟨_,_,a0,fY,p2,?_⟩
               rw [← hm]
               refine .a1 (sz:=i.size) (cH:=b) (m:=M) uM ((fx (me a0)).trans (by rw [p1])) (by omega) oA ⟨?_,.inr (by simp)⟩
               rw [Nat.zero_add,← c5];exact cG
             ·
              have hA : ∃qu:Addr,(k9=some qu∧ ∀(j:Nat) u,xs[j]? = some u→w.cell? (qu.add j)=some u)∨(k9=none∧len=0∧iS=0):=by
               cases k9 with
               | none =>
                refine ⟨⟨0,0,none⟩,.inr ⟨rfl,?_⟩⟩
                rcases jH with bY|bY
                ·omega
                ·simp at bY
               | some qu =>
                refine ⟨qu,.inl ⟨rfl,?_⟩⟩
                rcases jH with bY|bY
                ·have:len=0:=by omega
                 have:xs=[]:=List.length_eq_zero_iff.1 (by rw [x1,this];simp)
                 intro j u aq
                 rw [this] at aq;simp at aq
                ·simp at bY;subst bY;exact x2
              have F2:=grownCap_ge w (len+aT.length) iS e
              have hle:=grownCap_le_maxLen w (len+aT.length) iS e (by simp only [maxLen];omega)
              simp only [maxLen] at hle
              have fY:(Builtin.append_ #[t,dc] cU #[.slice k9 len iS,kf]).run P w = .ok (.slice (some ⟨w.heap.size,0,none⟩) (len+aT.length) (grownCap w (len+aT.length) iS e))
               (w.drew.alloc (.cells ((xs++vs).toArray++Builtin.zeroCells cQ.cells (grownCap w (len+aT.length) iS e-(len+aT.length))) e)):=by
               have NJ:(xs++vs).toArray=xs.toArray++vs.toArray:=by apply Array.ext';simp
               rw [NJ]
               obtain ⟨qu,⟨rfl,Of⟩|⟨rfl,k3,xz⟩⟩:=hA
               ·exact hA.grow (by omega) qu len iS xs x1 Of (by omega) (by omega) (growslice_fits (by omega) (by rw [← hm];exact ni)) (by omega)
               ·subst k3;subst xz
                have Og:xs=[]:=List.length_eq_zero_iff.1 (by rw [x1];simp)
                subst Og
                have:=hA.nil (by omega) (by omega) (by omega)
                simpa using this
              obtain ⟨a0,q1,q2⟩:=z9 (e:=e) (i:=i) (m:=m) (ky:=xs++vs) (oG:=Builtin.zeroCells cQ.cells (grownCap w (len+aT.length) iS e-(len+aT.length))) (cap:=grownCap w (len+aT.length) iS e) h c6 uO uP.symm
               (by rw [List.length_append,x1,v1,uP,hm,Nat.add_mul]) (fun u hu=>by
                 rw [List.mem_append] at hu
                 rcases hu with bY|bY
                 ·exact aK _ bY
                 ·exact v3 _ bY) (by rw [size_zeroCells,iN,hm]) (by omega) (by omega) ER rfl
              have mf:(s.setRow ap [⟨i.size,J.es.take len++aT,.live⟩]).J r k=some J:=by rw [iG,if_neg (Ne.symm cb)];exact U
              obtain ⟨nU,vv⟩:=q1.gone nI mf
              refine ⟨.slice (some ⟨w.heap.size,0,none⟩) m (grownCap w (len+aT.length) iS e),_,a0,?_,nU,vv _ _ q2⟩
              rw [hm];exact fY
         ·simp at ab
      ·simp at ab
     ·exact absurd trivial MH
  ·simp at ab
end
end
section
variable {P:Program} {g:G} {s:S} {ag:dw} {a:Act} {w:World}
theorem tZ {sz:Nat}: ∀ {es:List (List aj)},(∀e∈es,e.length=sz)→es.flatten.length=es.length*sz
 | [],_=>by simp
 | e::es,h=>by
  rw [List.flatten_cons,List.length_append,tZ fun x I=>h x (by simp [I]),h e (by simp),List.length_cons,Nat.add_mul];omega
theorem bR.putAt (h:bR g s ag a w){r k p b M:Nat}{row:List ae}{J:ae}(ak:s.az r=some row)(U:s.J r k=some J)(aV:J.bD = .live)(iR:ag r k=some (b,M)){aT ef:List (List aj)}{vs:List Value}
 (hlen : ∀x∈aT,x.length=J.sz) (v1:vs.length=aT.length*J.sz) (v3 : ∀u∈vs,u.oneCell'=true) (v4 : ∀(j:Nat) x u,aT.flatten[j]? = some x→vs[j]? = some u→Rel w (s.ok g ag w) s.ay (s.aC ag) x u)
 (aa:p+aT.length≤J.es.length) (q:Nat) (e4:ef=(J.es.take p++aT++J.es.drop (p+aT.length)).take q) :
 ∃bB jt,w.heap[b]? = some (.cells bB jt (0,0))∧bB.size=M∧J.es.length*J.sz≤M∧p*J.sz+vs.length≤bB.size ∧
  bR g (s.setRow r (row.set k {J with es:=ef})) ag a (w.setRow b (bB.toList.take (p*J.sz)++vs++bB.toList.drop (p*J.sz+vs.length)).toArray) ∧
  ∀x v,Rel w (s.ok g ag w) s.ay (s.aC ag) x v→Rel (w.setRow b (bB.toList.take (p*J.sz)++vs++bB.toList.drop (p*J.sz+vs.length)).toArray) ((s.setRow r (row.set k {J with es:=ef})).ok g ag (w.setRow b (bB.toList.take (p*J.sz)++vs++bB.toList.drop (p*J.sz+vs.length)).toArray)) (s.setRow r (row.set k {J with es:=ef})).ay ((s.setRow r (row.set k {J with es:=ef})).aC ag) x v:=by
 have dj:=h.obj r k J U
 rw [iR] at dj
 obtain ⟨bB,jt,g1,g2,g3,g4⟩:=dj
 have hh:=tZ g3
 have cG:J.es.length*J.sz≤M:=by
  rcases Nat.eq_zero_or_pos J.es.flatten.length with h0|jD
  ·omega
  ·obtain ⟨v,e1,-⟩:=g4 (J.es.flatten.length-1) _ (List.getElem?_eq_getElem (by omega))
   have:=(Array.getElem?_eq_some_iff.1 e1).1
   omega
 have hmul:p*J.sz+aT.length*J.sz≤J.es.length*J.sz:=by rw [← Nat.add_mul];exact Nat.mul_le_mul_right _ aa
 have fF:p*J.sz+vs.length≤bB.size:=by omega
 refine ⟨bB,jt,g1,g2,cG,fF,?_⟩
 have NK : ∀e∈J.es.take p++aT++J.es.drop (p+aT.length),e.length=J.sz:=by
  intro e he
  simp only [List.mem_append] at he
  rcases he with (he|he)|he
  ·exact g3 e (List.mem_of_mem_take he)
  ·exact hlen e he
  ·exact g3 e (List.mem_of_mem_drop he)
 have hA:(J.es.take p).flatten.length=p*J.sz:=by rw [tZ fun e he=>g3 e (List.mem_of_mem_take he),List.length_take];congr 1;omega
 have i7:(J.es.take (p+aT.length)).flatten.length=p*J.sz+aT.length*J.sz:=by rw [tZ fun e he=>g3 e (List.mem_of_mem_take he),List.length_take,← Nat.add_mul];congr 1;omega
 have Pf:aT.flatten.length=aT.length*J.sz:=tZ hlen
 have h1 : ∀j,j<p*J.sz→(J.es.take p).flatten[j]? = J.es.flatten[j]? := fun j aq=>by
  conv=>rhs;rw [← List.take_append_drop p J.es,List.flatten_append,List.getElem?_append_left (by omega)]
 have h2 : ∀j,(J.es.drop (p+aT.length)).flatten[j]? = J.es.flatten[p*J.sz+aT.length*J.sz+j]? := fun j=>by
  conv=>rhs;rw [← List.take_append_drop (p+aT.length) J.es,List.flatten_append,List.getElem?_append_right (by omega),i7]
  congr 1;omega
 refine h.write ak U aV iR ef _ jt (setRow_heap w b bB _ jt _ g1) (size_setRow _ _ _) (fun q aD=>setRow_other w b q _ aD) rfl rfl rfl (by rw [← g2];simp;omega) ?_ ?_
 ·intro e he
  rw [e4] at he
  exact NK e (List.mem_of_mem_take he)
 ·intro j x I
  have cx:(J.es.take p++aT++J.es.drop (p+aT.length)).flatten[j]? = some x:=by
   rw [e4] at I
   have aq:=(List.getElem?_eq_some_iff.1 I).1
   conv=>lhs;rw [← List.take_append_drop q (J.es.take p++aT++J.es.drop (p+aT.length)),List.flatten_append,List.getElem?_append_left aq]
   exact I
  rw [List.flatten_append,List.flatten_append] at cx
  simp only [List.getElem?_toArray]
  have fz:(bB.toList.take (p*J.sz)).length=p*J.sz:=by rw [List.length_take,Array.length_toList];omega
  by_cases bn:j<p*J.sz
  ·rw [List.append_assoc,List.getElem?_append_left (by omega),h1 j bn] at cx
   obtain ⟨v,e1,e2,br⟩:=g4 j x cx
   refine ⟨v,?_,e2,br⟩
   rw [List.append_assoc,List.getElem?_append_left (by omega),List.getElem?_take,if_pos bn,Array.getElem?_toList];exact e1
  ·by_cases c4:j<p*J.sz+vs.length
   ·rw [List.append_assoc,List.getElem?_append_right (by omega),hA,List.getElem?_append_left (by omega)] at cx
    have aS:j-p*J.sz<vs.length:=by omega
    refine ⟨vs[j-p*J.sz],?_,v3 _ (List.getElem_mem aS),v4 _ _ _ cx (List.getElem?_eq_getElem aS)⟩
    rw [List.append_assoc,List.getElem?_append_right (by omega),fz,List.getElem?_append_left (by omega)]
    exact List.getElem?_eq_getElem aS
   ·rw [List.getElem?_append_right (by rw [List.length_append];omega),List.length_append,hA,Pf,h2] at cx
    rw [show p*J.sz+aT.length*J.sz+(j-(p*J.sz+aT.length*J.sz))=j by omega] at cx
    obtain ⟨v,e1,e2,br⟩:=g4 j x cx
    refine ⟨v,?_,e2,br⟩
    rw [List.getElem?_append_right (by rw [List.length_append];omega),List.length_append,fz,List.getElem?_drop,Array.getElem?_toList]
    rw [show p*J.sz+vs.length+(j-(p*J.sz+vs.length))=j by omega];exact e1
end
section
variable {P:Program} {g:G} {s:S} {ag:dw} {a:Act} {w:World} {ap:Nat} {aO:e9}
theorem Ma (h:bR g s ag a w){x y:aj}{ns kf:Value}{t dc cU:TypeId}(ab:kA P s.E s.az ap .append [x,y] [t,dc] .gH=some aO)(bF:∀p∈aO.dn,p)
 (I:Rel w (s.ok g ag w) s.ay (s.aC ag) x ns) (aI:Rel w (s.ok g ag w) s.ay (s.aC ag) y kf) :
 ∃v a5,(Builtin.append_ #[t,dc] cU #[ns,kf]).run P w = .ok v a5∧bR g (s.fs aO.dQ) ag a a5∧Rel a5 ((s.fs aO.dQ).ok g ag a5) (s.fs aO.dQ).ay ((s.fs aO.dQ).aC ag) aO.val v:=by
 simp only [kA] at ab
 split at ab
 ·simp at ab
 ·rename_i e he
  have hu:=nE he
  split at ab
  ·rename_i i z an cn
   split at ab
   ·simp at ab
   ·rename_i aL
    simp only [not_or,Decidable.not_not] at aL
    obtain ⟨j5,jD,xt⟩:=aL
    split at ab
    ·simp at ab
    ·rename_i aT bt nb
     split at ab
     ·rename_i r k len
      split at ab
      ·simp at ab
      ·rename_i row ct
       split at ab
       ·simp at ab
       ·rename_i J aF
        split at ab
        ·rename_i qg
         obtain ⟨kC,c5⟩:=qg
         simp only [Option.some.injEq] at ab
         subst ab
         have U:s.J r k=some J:=by unfold S.J;rw [ct];exact aF
         have fF:len+aT.length≤J.es.length:=bF _ (by simp)
         have ni:aT.length*i.bytes≤140737488355328:=bF _ (by simp)
         obtain ⟨cQ,vs,hK,iN,hA,hlen,v1,v3,v4⟩:=Ea (cU:=cU) h hu an cn j5 jD nb (fun p aa=>bF p (by simp [aa])) aI
         rw [← c5] at v1
         have Na : ∀x∈aT,x.length=J.sz:=fun x I=>by rw [hlen x I,c5]
         have e4:J.es.take len++aT=(J.es.take len++aT++J.es.drop (len+aT.length)).take (len+aT.length) :=
          (List.take_left' (by rw [List.length_append,List.length_take];omega)).symm
         rcases I.pM (fx U) with ⟨aa,-,rfl,rfl⟩|⟨b,M,k9,iS,aa,rfl,nf,oA,cG,jH⟩
         ·have dj:=h.obj r k J U
          rw [aa] at dj
          simp only [f9] at dj
          rw [dj] at fF
          have h0:aT.length=0:=by simp at fF;exact List.length_eq_zero_iff.2 fF
          have qh:aT=[]:=List.length_eq_zero_iff.1 h0
          subst qh
          have Nb:row.set k {J with es:=J.es.take 0++[]}=row:=by
           have h1:({J with es:=J.es.take 0++[]}:ae)=J:=by cases J;simp only [] at dj;subst dj;rfl
           rw [h1]
           have h2:row[k]? = some J:=by
            unfold ck at aF
            simp only at aF
            split at aF
            ·rename_i bm cC
             split at aF
             ·simp at aF
             ·simp at aF;rw [← aF];exact cC
            ·simp at aF
           exact List.ext_getElem? fun j=>by
            rw [List.getElem?_set]
            split
            ·rename_i e;subst e
             have:=(List.getElem?_eq_some_iff.1 h2).1
             rw [if_pos this,h2]
            ·rfl
          refine ⟨_,w,hA.zero h0 none 0 0 (Nat.le_refl _),?_⟩
          have dg:s.setRow r row=s:=by
           have:(fun q=>if q=r then some row else s.az q)=s.az:=by
            funext q;split
            ·rename_i e;rw [e,ct]
            ·rfl
           show ({s with az:=_}:S)=s
           rw [this]
          show bR g (s.setRow r (row.set k {J with es:=J.es.take 0++[]})) ag a w∧Rel w ((s.setRow r (row.set k {J with es:=J.es.take 0++[]})).ok g ag w) (s.setRow r (row.set k {J with es:=J.es.take 0++[]})).ay ((s.setRow r (row.set k {J with es:=J.es.take 0++[]})).aC ag) (.a1 r k 0 0) (.slice none 0 0)
          rw [Nb,dg]
          exact ⟨h,I⟩
         ·obtain ⟨bB,jt,bn,c4,hP,nV,la,oH⟩:=h.putAt ct U kC aa Na v1 v3 v4 fF (len+aT.length) e4
          have hle:J.es.length≤iS:=by
           rw [Nat.zero_add] at cG
           rw [← cG] at hP
           exact Nat.le_of_mul_le_mul_right hP (by omega)
          by_cases xz:iS=0
          ·have h0:aT.length=0:=by omega
           have k3:len=0:=by omega
           subst k3
           have qh:aT=[]:=List.length_eq_zero_iff.1 h0
           subst qh
           have BD:vs=[]:=List.length_eq_zero_iff.1 (by simpa using v1)
           subst BD
           have hw:w.setRow b (bB.toList.take (0*J.sz)++[]++bB.toList.drop (0*J.sz+0)).toArray=w:=by
            simp only [Nat.zero_mul,List.take_zero,List.nil_append,Nat.zero_add,List.drop_zero,Array.toArray_toList]
            exact setRow_self w b bB jt (0,0) bn
           simp only [List.length_nil] at la oH
           rw [hw] at la oH
           exact ⟨_,w,hA.zero h0 k9 0 iS (Nat.zero_le _),la,oH _ _ I⟩
          ·have va:k9=some ⟨b,0,none⟩:=by
            rcases jH with bY|bY
            ·exact absurd bY xz
            ·simpa using bY
           subst va
           by_cases h0:aT.length=0
           ·have qh:aT=[]:=List.length_eq_zero_iff.1 h0
            subst qh
            have BD:vs=[]:=List.length_eq_zero_iff.1 (by simpa using v1)
            subst BD
            have hw:w.setRow b (bB.toList.take (len*J.sz)++[]++bB.toList.drop (len*J.sz+0)).toArray=w:=by
             simp only [List.append_nil,Nat.add_zero,List.take_append_drop,Array.toArray_toList]
             exact setRow_self w b bB jt (0,0) bn
            simp only [List.length_nil] at la oH
            rw [hw] at la oH
            exact ⟨_,w,hA.zero h0 _ len iS nf,la,oH _ _ I⟩
           ·have fY:=hA.room (by omega) b len iS bB jt bn (by omega) (by rw [← c5];exact nV) ni
            rw [← c5] at fY
            refine ⟨_,_,fY,la,?_⟩
            have uH:(s.setRow r (row.set k {J with es:=J.es.take len++aT})).J r k=some {J with es:=J.es.take len++aT}:=by
             rw [iG,if_pos rfl,Ep row k J _ aF (by simp [kC]),if_pos rfl]
            show Rel _ ((s.setRow r (row.set k {J with es:=J.es.take len++aT})).ok g ag _) (s.setRow r (row.set k {J with es:=J.es.take len++aT})).ay ((s.setRow r (row.set k {J with es:=J.es.take len++aT})).aC ag) (.a1 r k 0 (len+aT.length)) _
            refine .a1 (sz:=J.sz) (cH:=b) (m:=M) (wL uH) ((fx uH).trans (by rw [aa])) (by omega) oA ⟨cG,.inr (by simp)⟩
        ·simp at ab
     ·simp at ab
  ·simp at ab
end
section
variable {P:Program} {g:G} {s:S} {ag:dw} {a:Act} {w:World} {ap:Nat} {aO:e9}
theorem DC {s:S}{r k:Nat}{row:List ae}{J:ae}(ak:s.az r=some row)(U:ck (some row) k=some J):s.setRow r (row.set k J)=s:=by
 have h2:row[k]? = some J:=by
  unfold ck at U
  simp only at U
  split at U
  ·rename_i bm cC
   split at U
   ·simp at U
   ·simp at U;rw [← U];exact cC
  ·simp at U
 have af:row.set k J=row:=List.ext_getElem? fun j=>by
  rw [List.getElem?_set]
  split
  ·rename_i e;subst e
   have:=(List.getElem?_eq_some_iff.1 h2).1
   rw [if_pos this,h2]
  ·rfl
 rw [af]
 have:(fun q=>if q=r then some row else s.az q)=s.az:=by
  funext q;split
  ·rename_i e;rw [e,ak]
  ·rfl
 show ({s with az:=_}:S)=s
 rw [this]
theorem KL {e:TypeId}{i:TypeInfo}{z:List aj}{cQ:Value}(iN:cQ.cells.size=i.size)(j5:z.length=i.size)(jD:i.size≠0)
 (o9 : ∀(j:Nat) x,z[j]? = some x→ ∃v,cQ.cells[j]? = some v∧hd v=true∧ ∀(w:World) (ok:Nat→Prop) (ay:gh) (aC:fZ),Rel w ok ay aC x v) (m:Nat) :
 (Builtin.zeroCells cQ.cells m).toList.length=m*i.size∧(∀u∈(Builtin.zeroCells cQ.cells m).toList,u.oneCell'=true) ∧
   ∀(j:Nat) x u,(List.replicate m z).flatten[j]? = some x→(Builtin.zeroCells cQ.cells m).toList[j]? = some u→ ∀(w:World) (ok:Nat→Prop) (ay:gh) (aC:fZ),Rel w ok ay aC x u:=by
 have i3 : ∀(j:Nat) u,(Builtin.zeroCells cQ.cells m).toList[j]? = some u→cQ.cells[j % i.size]? = some u:=by
  intro j u kB
  have aq:=(List.getElem?_eq_some_iff.1 kB).1
  rw [Array.length_toList,size_zeroCells,iN] at aq
  have cE:j % i.size<cQ.cells.size:=by rw [iN];exact Nat.mod_lt _ (by omega)
  rw [Array.getElem?_toList,Builtin.zeroCells,Array.getElem?_map,iN,Array.getElem?_range] at kB
  rw [if_pos aq] at kB
  simp only [Option.map_some,Option.some.injEq] at kB
  rw [← kB,Array.getElem?_eq_getElem cE,getElem!_pos cQ.cells _ cE]
 refine ⟨?_,?_,?_⟩
 ·rw [Array.length_toList,size_zeroCells,iN]
 ·intro u nh
  obtain ⟨j,aq⟩:=List.getElem?_of_mem nh
  have h1:=i3 j u aq
  have cE:j % i.size<z.length:=by rw [j5];exact Nat.mod_lt _ (by omega)
  obtain ⟨v,v1,v2,-⟩:=o9 _ _ (List.getElem?_eq_getElem cE)
  rw [h1] at v1
  obtain rfl:=Option.some.inj v1
  exact v2
 ·intro j x u I kB
  rw [lC (sz:=i.size) (by omega) _ (fun cW iZ=>by rw [List.mem_replicate] at iZ;rw [iZ.2,j5])] at I
  have h1:=i3 j u kB
  cases aD:(List.replicate m z)[j / i.size]? with
  | none=>rw [aD] at I;simp at I
  | some cW =>
   have:=List.mem_of_getElem? aD
   rw [List.mem_replicate] at this
   rw [aD,this.2] at I
   simp only [Option.bind_some] at I
   obtain ⟨v,v1,-,v3⟩:=o9 _ _ I
   rw [h1] at v1
   obtain rfl:=Option.some.inj v1
   exact v3
theorem LC (h:bR g s ag a w){r k len:Nat}{y:aj}{ns kf:Value}{t dc cU:TypeId}{bO:dB}(ab:kA P s.E s.az ap .copy [.a1 r k 0 len,y] [t,dc] bO=some aO)(bF:∀p∈aO.dn,p)
 (I:Rel w (s.ok g ag w) s.ay (s.aC ag) (.a1 r k 0 len) ns) (aI:Rel w (s.ok g ag w) s.ay (s.aC ag) y kf) :
 ∃n a5,(Builtin.copy_ #[t,dc] cU #[ns,kf]).run P w = .ok (goInt n) a5∧bR g (s.fs aO.dQ) ag a a5∧aO.val = .n .i64 n:=by
 simp only [kA] at ab
 split at ab
 ·simp at ab
 ·rename_i e he
  have hu:=nE he
  split at ab
  ·simp at ab
  ·rename_i i an
   split at ab
   ·simp at ab
   ·rename_i aT bt nb
    split at ab
    ·simp at ab
    ·rename_i row ct
     split at ab
     ·simp at ab
     ·rename_i J aF
      split at ab
      ·rename_i qg
       obtain ⟨kC,c5,jD⟩:=qg
       simp only [Option.some.injEq] at ab
       subst ab
       have U:s.J r k=some J:=by unfold S.J;rw [ct];exact aF
       have fF:aT.length≤len:=bF _ (by simp)
       have hle:len≤J.es.length:=bF _ (by simp)
       obtain ⟨A,c,rfl,hlen,BA⟩:=Et h nb (fun p aa=>bF p (by simp [aa])) aI
       show ∃n a5,_∧bR g (s.setRow r (row.set k {J with es:=aT++J.es.drop aT.length})) ag a a5∧_
       by_cases h0:aT.length=0
       ·have qh:aT=[]:=List.length_eq_zero_iff.1 h0
        subst qh
        refine ⟨0,w,?_,?_,rfl⟩
        ·rcases I.pM (fx U) with ⟨-,-,rfl,rfl⟩|⟨b,M,k9,iS,-,rfl,-,-,-,-⟩
         ·cases A<;>simp [Builtin.copy_,run_underlying hu,sizeOf,typeInfo,an,Builtin.lenOf,Builtin.firstCells,loadCells,loadCellsFrom]
         ·cases A<;>cases k9<;>simp [Builtin.copy_,run_underlying hu,sizeOf,typeInfo,an,Builtin.lenOf,Builtin.firstCells,loadCells,loadCellsFrom,storeCells]
        ·rw [show ({J with es:=[]++J.es.drop ([]:List (List aj)).length}:ae)=J from rfl,DC ct aF];exact h
       ·obtain ⟨cH,off,rfl,fH⟩:=BA.resolve_left h0
        obtain ⟨vs,v1,v2,v3,v4⟩:=fH.ky
        rw [← c5] at v1
        rcases I.pM (fx U) with ⟨-,-,rfl,-⟩|⟨b,M,k9,iS,aa,rfl,nf,oA,cG,jH⟩
        ·exact absurd (Nat.le_zero.1 fF) h0
        ·have va:k9=some ⟨b,0,none⟩:=by
          rcases jH with bY|bY
          ·exact absurd (show aT.length=0 by omega) h0
          ·simpa using bY
         subst va
         obtain ⟨bB,jt,bn,c4,hP,nV,la,-⟩:=h.putAt (p:=0) ct U kC aa (fun x I=>by rw [hlen x I,c5]) v1 v3 v4 (by omega) J.es.length (ef:=aT++J.es.drop aT.length)
          (by rw [List.take_zero,List.nil_append,Nat.zero_add];exact (List.take_of_length_le (by simp;omega)).symm)
         simp only [Nat.zero_mul,Nat.zero_add,List.take_zero,List.nil_append] at nV la
         have aA:=run_firstCells_some (P:=P) w i.size aT.length ⟨cH,off,none⟩ aT.length c vs (by rw [v1,c5]) v2
         have jg:=run_storeCells_at P b 0 jt vs 0 bB w bn (by simpa using nV) v3
         simp only [Nat.add_zero,List.take_zero,List.nil_append,Nat.zero_add] at jg
         refine ⟨aT.length,_,?_,la,rfl⟩
         simp [Builtin.copy_,run_underlying hu,sizeOf,typeInfo,an,Builtin.lenOf,Nat.min_eq_left fF,aA,jg]
      ·simp at ab
theorem K6 (h:bR g s ag a w){r k len:Nat}{ns:Value}{t cU:TypeId}{bO:dB}(ab:kA P s.E s.az ap .clear [.a1 r k 0 len] [t] bO=some aO)(bF:∀p∈aO.dn,p)
 (I:Rel w (s.ok g ag w) s.ay (s.aC ag) (.a1 r k 0 len) ns) :
 ∃a5,(Builtin.clear_ #[t] cU #[ns]).run P w = .ok (.tuple #[]) a5∧bR g (s.fs aO.dQ) ag a a5∧aO.val = .dm []:=by
 simp only [kA] at ab
 split at ab
 ·simp at ab
 ·rename_i e he
  have hu:=nE he
  split at ab
  ·rename_i i z an cn
   split at ab
   ·simp at ab
   ·rename_i row ct
    split at ab
    ·simp at ab
    ·rename_i J aF
     split at ab
     ·rename_i qg
      obtain ⟨kC,c5,j5,jD⟩:=qg
      simp only [Option.some.injEq] at ab
      subst ab
      have U:s.J r k=some J:=by unfold S.J;rw [ct];exact aF
      have hle:J.es.length=len:=bF _ (by simp)
      show ∃a5,_∧bR g (s.setRow r (row.set k {J with es:=List.replicate len z})) ag a a5∧_
      by_cases h0:len=0
      ·subst h0
       refine ⟨w,?_,?_,rfl⟩
       ·rcases I.pM (fx U) with ⟨-,-,-,rfl⟩|⟨b,M,k9,iS,-,rfl,-,-,-,-⟩
        ·simp [Builtin.clear_,run_underlying hu]
        ·cases k9<;>simp [Builtin.clear_,run_underlying hu]
       ·rw [show ({J with es:=List.replicate 0 z}:ae)=J by rw [List.replicate_zero,← List.length_eq_zero_iff.1 hle],DC ct aF];exact h
      ·obtain ⟨gy,cQ,hZ,hK,qv,o9⟩:=tQ cn
       rw [an] at hZ;simp at hZ;subst hZ
       have iN:cQ.cells.size=i.size:=by rw [← j5,qv];simp
       rcases I.pM (fx U) with ⟨-,-,rfl,-⟩|⟨b,M,k9,iS,aa,rfl,nf,oA,cG,jH⟩
       ·exact absurd rfl h0
       ·have va:k9=some ⟨b,0,none⟩:=by
         rcases jH with bY|bY
         ·exact absurd (show len=0 by omega) h0
         ·simpa using bY
        subst va
        obtain ⟨v1,v3,v4⟩:=KL (e:=e) iN j5 jD o9 len
        rw [← c5] at v1
        obtain ⟨bB,jt,bn,c4,hP,nV,la,-⟩:=h.putAt (p:=0) (aT:=List.replicate len z) ct U kC aa (fun x I=>by rw [List.mem_replicate] at I;rw [I.2,j5,c5]) (by simpa using v1) v3 (fun j x u h1 h2=>v4 j x u h1 h2 _ _ _ _)
         (by simp;omega) len (ef:=List.replicate len z)
         (by simp [hle])
        simp only [Nat.zero_mul,Nat.zero_add,List.take_zero,List.nil_append] at nV la
        have jg:=run_storeCells_at P b 0 jt (Builtin.zeroCells cQ.cells len).toList 0 bB w bn (by simpa using nV) v3
        simp only [Nat.add_zero,List.take_zero,List.nil_append,Nat.zero_add] at jg
        refine ⟨_,?_,la,rfl⟩
        cases len with
        | zero=>exact absurd rfl h0
        | succ n=>simp [Builtin.clear_,run_underlying hu,zeroValue,typeInfo,an,hK,jg]
     ·simp at ab
  ·simp at ab
end
section
variable {g:G} {s:S} {ag:dw} {a:Act} {w:World}
def iW (row:List ae):List ae:=row.map fun o=>if o.bD = .live then {o with bD:= .nc} else o
theorem Eu (row:List ae)(k:Nat):ck (some (iW row)) k=(ck (some row) k).map fun o=>if o.bD = .live then {o with bD:= .nc} else o:=by
 simp only [ck,iW,List.getElem?_map]
 cases row[k]? with
 | none=>rfl
 | some o =>
  obtain ⟨sz,es,bD⟩:=o
  cases bD<;>simp
theorem bR.freeze (h:bR g s ag a w){r:Nat}{row:List ae}(ak:s.az r=some row):bR g (s.setRow r (iW row)) ag a w:=by
 have aF : ∀q k o,(s.setRow r (iW row)).J q k=some o→ ∃p,s.J q k=some p∧o.sz=p.sz∧o.es=p.es∧(o.bD = .live→p.bD = .live∧q≠r):=by
  intro q k o U
  by_cases e:q=r
  ·subst e
   have:(s.setRow q (iW row)).az q=some (iW row):=by simp [S.setRow]
   unfold S.J at U
   rw [this,Eu] at U
   rw [Option.map_eq_some_iff] at U
   obtain ⟨p,aa,rfl⟩:=U
   refine ⟨p,by unfold S.J;rw [ak];exact aa,?_⟩
   split<;>simp_all
  ·have:(s.setRow r (iW row)).az q=s.az q:=by simp [S.setRow,e]
   unfold S.J at U
   rw [this] at U
   exact ⟨o,U,rfl,rfl,fun aA=>⟨aA,e⟩⟩
 have gu : ∀q k,s.ay q k→(s.setRow r (iW row)).ay q k:=wk s ak (by simp [iW])
 have ix : ∀q k,(s.setRow r (iW row)).aC ag q k=s.aC ag q k:=by
  intro q k
  by_cases e:q=r
  ·subst e
   simp only [S.aC,S.J]
   have:(s.setRow q (iW row)).az q=some (iW row):=by simp [S.setRow]
   rw [this,Eu,ak]
   cases ck (some row) k with
   | none=>rfl
   | some o=>simp only [Option.map_some,Option.some.injEq,Prod.mk.injEq,and_true];split<;>rfl
  ·have:(s.setRow r (iW row)).az q=s.az q:=by simp [S.setRow,e]
   simp [S.aC,S.J,this]
 have cq:Step g s ag w (s.setRow r (iW row)) ag w:=⟨gu,fun q k _=> .inl (ix q k),fun b aA=>by
  obtain ⟨q,k,o,m,h1,h2,af⟩:=aA
  obtain ⟨p,p1,p2,nU,vv⟩:=aF q k o h1
  exact .inl ⟨q,k,p,m,p1,(vv h2).1,af⟩,fun _ _ _=>rfl,Nat.le_refl _⟩
 refine {tofy:=⟨?_,?_,?_,h.fr,h.mlt,h.j2,?_,h.low⟩,env:=fun t=>cq.rel (h.env t),defers:=h.defers,gJ:=h.gJ}
 ·intro q k o U
  obtain ⟨p,p1,p2,nU,-⟩:=aF q k o U
  have aa:=cq.obj (fun b m _=>rfl) (h.obj q k p p1)
  cases iR:ag q k with
  | none=>rw [iR] at aa;simp only [f9] at aa ⊢;rw [nU];exact aa
  | some x =>
   obtain ⟨b,m⟩:=x
   rw [iR] at aa
   obtain ⟨c,cU,e1,e2,br,cS⟩:=aa
   exact ⟨c,cU,e1,e2,by rw [p2,nU];exact br,by rw [nU];exact cS⟩
 ·intro q k o fb cc bm b m bs h1 h2 af ax
  obtain ⟨p,p1,-⟩:=aF q k o h1
  obtain ⟨h3,Oh,-⟩:=aF fb cc bm h2
  exact h.inj q k p fb cc h3 b m bs p1 Oh af ax
 ·intro q k o b m h1 h2
  obtain ⟨p,p1,-⟩:=aF q k o h1
  exact h.own q k p b m p1 h2
 ·intro j k aq
  obtain ⟨e1,e2⟩:=h.stay j k aq
  exact ⟨gu j k e1,by rw [ix];exact e2⟩
end
def r4 (P:Program)(t:TypeId):Bool :=
 match P.underlying t with
 | some (.pointer _)=>true
 | _=>false
def su (P:Program)(E:Nat→aj)(az:Nat→Option (List ae))(ap:Nat)(o:Oper)(bO:dB):Option e9 :=
 match o.op with
 | .call {callee:= .builtin b,args,argTypes}=>match b with
  | .len=>c3 P E az ap o bO
  | b=>kA P E az ap b (args.toList.map (c0 E)) argTypes.toList bO
 | .binOp op t x y _=>match bO,op,c0 E x,c0 E y with
  | .gH,.eql,.isl _ es,.cv=>if (l6 P t).isSome then some {val:= .b false,dn:=[es≠[]]} else none
  | .gH,.neq,.isl _ es,.cv=>if (l6 P t).isSome then some {val:= .b true,dn:=[es≠[]]} else none
  | .gH,.eql,.g6 _ none,.fX=>if r4 P t then some {val:= .b true} else none
  | .gH,.neq,.g6 _ none,.fX=>if r4 P t then some {val:= .b false} else none
  | .gH,.eql,.g6 _ (some _),.fX=>if r4 P t then some {val:= .b false} else none
  | .gH,.neq,.g6 _ (some _),.fX=>if r4 P t then some {val:= .b true} else none
  | .gH,_,_,_=>none
  | _,_,_,_=>c3 P E az ap o bO
 | .nilCheck x=>match bO,c0 E x with
  | .gH,.g6 sz (some c)=>some {val:= .df sz [c] 0 0}
  | .gH,_=>none
  | _,_=>c3 P E az ap o bO
 | _=>c3 P E az ap o bO
section
variable {P:Program} {g:G} {s:S} {ag:dw} {a:Act} {w:World} {o:Oper} {bO:dB} {ap:Nat} {aO:e9}
theorem wX {args:Array Operand}{E:Nat→aj}{x y:aj}(h:args.toList.map (c0 E)=[x,y]): ∃p q,args = #[p,q]∧c0 E p=x∧c0 E q=y:=by
 obtain ⟨l⟩:=args
 match l,h with
 | [p,q],h=>simp at h;exact ⟨p,q,rfl,h.1,h.2⟩
theorem Mb {args:Array Operand}{E:Nat→aj}{x:aj}(h:args.toList.map (c0 E)=[x]): ∃p,args = #[p]∧c0 E p=x:=by
 obtain ⟨l⟩:=args
 match l,h with
 | [p],h=>simp at h;exact ⟨p,rfl,h⟩
theorem wD {t:TypeId}(h:r4 P t=true): ∃e,P.underlying t=some (.pointer e):=by
 unfold r4 at h
 split at h
 ·rename_i e he;exact ⟨e,he⟩
 ·simp at h
theorem K7 (h:bR g s ag a w)(c6:s.az ap=none)(ab:su P s.E s.az ap o bO=some aO)(bF:∀p∈aO.dn,p):Fin P g s a w o aO:=by
 unfold su at ab
 split at ab
 ·rename_i b args jG U
  split at ab
  ·exact wC h c6 ab bF
  ·rename_i b aE
   unfold kA at ab
   split at ab
   ·rename_i x y t dc m Cf hargs k2
    have pY:kA P s.E s.az ap .append [x,y] [t,dc] (.aB m Cf)=some aO:=ab
    obtain ⟨p,q,rfl,rfl,rfl⟩:=wX hargs
    obtain ⟨l⟩:=jG
    simp only at k2
    subst k2
    obtain ⟨v,a5,a0,h1,h2,af⟩:=KK (cU:=o.type) h c6 pY bF (h.eval p) (h.eval q)
    exact ⟨v,a5,a0,.inl (by simp [execOp,U,resolve,invoke,builtin,h1]),h2,af⟩
   ·rename_i x y t dc hargs k2
    have pY:kA P s.E s.az ap .append [x,y] [t,dc] .gH=some aO:=ab
    obtain ⟨p,q,rfl,rfl,rfl⟩:=wX hargs
    obtain ⟨l⟩:=jG
    simp only at k2
    subst k2
    obtain ⟨v,a5,h1,h2,af⟩:=Ma (cU:=o.type) h pY bF (h.eval p) (h.eval q)
    exact ⟨v,a5,ag,.inl (by simp [execOp,U,resolve,invoke,builtin,h1]),h2,af⟩
   ·rename_i bO r k len y t dc hargs k2
    have pY:kA P s.E s.az ap .copy [.a1 r k 0 len,y] [t,dc] bO=some aO:=ab
    obtain ⟨p,q,rfl,aa,rfl⟩:=wX hargs
    obtain ⟨l⟩:=jG
    simp only at k2
    subst k2
    have I:=h.eval p
    rw [aa] at I
    obtain ⟨n,a5,h1,h2,af⟩:=LC (cU:=o.type) h pY bF I (h.eval q)
    refine ⟨goInt n,a5,ag,.inl (by simp [execOp,U,resolve,invoke,builtin,h1]),h2,?_⟩
    rw [af];exact .n _ _
   ·rename_i bO r k len t hargs k2
    have pY:kA P s.E s.az ap .clear [.a1 r k 0 len] [t] bO=some aO:=ab
    obtain ⟨p,rfl,aa⟩:=Mb hargs
    obtain ⟨l⟩:=jG
    simp only at k2
    subst k2
    have I:=h.eval p
    rw [aa] at I
    obtain ⟨a5,h1,h2,af⟩:=K6 (cU:=o.type) h pY bF I
    refine ⟨.tuple #[],a5,ag,.inl (by simp [execOp,U,resolve,invoke,builtin,h1]),h2,?_⟩
    rw [af];exact .dm [] rfl (fun j x u aq=>by simp at aq)
   ·rename_i k x cc y hargs
    split at ab
    ·rename_i aV
     simp only [Option.some.injEq] at ab
     subst ab;subst aV
     obtain ⟨p,q,rfl,aa,aD⟩:=wX hargs
     have I:=h.eval p
     have aI:=h.eval q
     rw [aa] at I;rw [aD] at aI
     refine fp (v:= .int k (if y<x then y else x)) h ?_ rfl (.n _ _)
     simp [execOp,U,resolve,invoke,builtin,Builtin.min_,I.kU,aI.kU,Builtin.min2]
    ·simp at ab
   ·simp at ab
 ·rename_i op t x y dc U
  split at ab
  ·rename_i sz es I aI
   split at ab
   ·rename_i he
    obtain ⟨e,he⟩:=Option.isSome_iff_exists.1 he
    simp only [Option.some.injEq] at ab
    subst ab
    have h1:=h.eval x
    have h2:=h.eval y
    rw [I] at h1;rw [aI] at h2
    have cb:es≠[]:=bF _ (by simp)
    refine fp (v:= .bool false) h ?_ rfl (.b _)
    simp only [execOp,U]
    rw [Sem.run_bind,(E6 (w:=w) (nE he) cb h1 h2 x y).1];rfl
   ·simp at ab
  ·rename_i sz es I aI
   split at ab
   ·rename_i he
    obtain ⟨e,he⟩:=Option.isSome_iff_exists.1 he
    simp only [Option.some.injEq] at ab
    subst ab
    have h1:=h.eval x
    have h2:=h.eval y
    rw [I] at h1;rw [aI] at h2
    have cb:es≠[]:=bF _ (by simp)
    refine fp (v:= .bool true) h ?_ rfl (.b _)
    simp only [execOp,U]
    rw [Sem.run_bind,(E6 (w:=w) (nE he) cb h1 h2 x y).2];rfl
   ·simp at ab
  ·rename_i sz I aI
   split at ab
   ·rename_i bP
    obtain ⟨e,he⟩:=wD bP
    simp only [Option.some.injEq] at ab
    subst ab
    have h1:=h.eval x
    have h2:=h.eval y
    rw [I] at h1;rw [aI] at h2
    have mJ:Rel w (s.ok g ag w) s.ay (s.aC ag) .fX (a.eval x):=by rw [h1.Er];exact .fX
    refine fp (v:= .bool true) h ?_ rfl (.b _)
    simp only [execOp,U]
    rw [Sem.run_bind,(rT (w:=w) (r:=true) (by simp [nN,he]) mJ h2 x y).1];rfl
   ·simp at ab
  ·rename_i sz I aI
   split at ab
   ·rename_i bP
    obtain ⟨e,he⟩:=wD bP
    simp only [Option.some.injEq] at ab
    subst ab
    have h1:=h.eval x
    have h2:=h.eval y
    rw [I] at h1;rw [aI] at h2
    have mJ:Rel w (s.ok g ag w) s.ay (s.aC ag) .fX (a.eval x):=by rw [h1.Er];exact .fX
    refine fp (v:= .bool false) h ?_ rfl (.b _)
    simp only [execOp,U]
    rw [Sem.run_bind,(rT (w:=w) (r:=true) (by simp [nN,he]) mJ h2 x y).2];rfl
   ·simp at ab
  ·rename_i sz c I aI
   split at ab
   ·rename_i bP
    obtain ⟨e,he⟩:=wD bP
    simp only [Option.some.injEq] at ab
    subst ab
    have h1:=h.eval x
    have h2:=h.eval y
    rw [I] at h1;rw [aI] at h2
    refine fp (v:= .bool false) h ?_ rfl (.b _)
    simp only [execOp,U]
    rw [Sem.run_bind,(rT (w:=w) (r:=false) (by simp [nN,he]) h1.AH h2 x y).1];rfl
   ·simp at ab
  ·rename_i sz c I aI
   split at ab
   ·rename_i bP
    obtain ⟨e,he⟩:=wD bP
    simp only [Option.some.injEq] at ab
    subst ab
    have h1:=h.eval x
    have h2:=h.eval y
    rw [I] at h1;rw [aI] at h2
    refine fp (v:= .bool true) h ?_ rfl (.b _)
    simp only [execOp,U]
    rw [Sem.run_bind,(rT (w:=w) (r:=false) (by simp [nN,he]) h1.AH h2 x y).2];rfl
   ·simp at ab
  ·simp at ab
  ·exact wC h c6 ab bF
 ·rename_i x U
  split at ab
  ·rename_i sz c I
   simp only [Option.some.injEq] at ab
   subst ab
   have h1:=h.eval x
   rw [I] at h1
   have h2:=h1.AH
   obtain ⟨cH,off,aE,hval,fH⟩:=h2.rW
   refine fp (v:=a.eval x) h ?_ rfl h2
   rw [hval]
   simp only [execOp,U,hval]
   rfl
  ·simp at ab
  ·exact wC h c6 ab bF
 ·exact wC h c6 ab bF
end
end Go.VL
namespace Go.VL
set_option linter.unusedVariables false
set_option linter.unusedSimpArgs false
open Go
theorem n5 {es:List (List aj)}{j:Nat}{x:aj}(h:es.flatten[j]? = some x): ∃e∈es,x∈e:=by
 have:=List.mem_of_getElem? h
 rw [List.mem_flatten] at this
 obtain ⟨e,he,I⟩:=this
 exact ⟨e,he,I⟩
theorem Rel.pure {w:World}{ok je:Nat→Prop}{ay jF:gh}{aC jf:fZ}{x:aj}{v:Value}(h:Rel w ok ay aC x v)(aa:Pure x)(kz:∀b,ok b→je b):Rel w je jF jf x v:=by
 induction h with
 | dead v=>exact .dead v
 | b x=>exact .b x
 | n k x=>exact .n k x
 | s x=>exact .s x
 | fX=>exact .fX
 | cv=>exact .cv
 | gb a c=>exact .gb a c
 | l2=>cases aa
 | ref=>cases aa
 | jX=>cases aa
 | km=>cases aa
 | a1=>cases aa
 | jC=>cases aa
 | kw=>cases aa
 | gp sz a c h=>exact .gp sz a c h
 | isl cs aE i4 aA aL hw fz ak ih =>
  cases aa with
  | isl h=>exact .isl cs (kz _ aE) i4 aA aL hw fz fun j x I=>ih j x I (by obtain ⟨e,he,mK⟩:=n5 I;exact h e he x mK)
 | df cs aE i4 aA hw fz ak ih =>
  cases aa with
  | df h=>exact .df cs (kz _ aE) i4 aA hw fz fun j x I=>ih j x I (by obtain ⟨e,he,mK⟩:=n5 I;exact h e he x mK)
 | lH sz=>exact .lH sz
 | lq h ih =>
  cases aa with
  | lq aa=>exact .lq (ih (.df fun e he x I=>by rw [List.mem_singleton] at he;subst he;exact aa x I))
 | agg vs aA fz ak ih =>
  cases aa with
  | agg h=>exact .agg vs aA fz fun j x v I aS=>ih j x v I aS (h x (List.mem_of_getElem? I))
 | dm vs aA ak ih =>
  cases aa with
  | dm h=>exact .dm vs aA fun j x v I aS=>ih j x v I aS (h x (List.mem_of_getElem? I))
 | fn vs aA ak ih =>
  cases aa with
  | fn h=>exact .fn vs aA fun j x v I aS=>ih j x v I aS (h x (List.mem_of_getElem? I))
abbrev ey:=Nat→Nat→Option (Nat×Nat)
structure Down (q:aj→Prop):Prop where
 agg : ∀c x,q (.agg c)→x∈c→q x
 dm : ∀c x,q (.dm c)→x∈c→q x
 fn : ∀f c x,q (.fn f c)→x∈c→q x
inductive fe (s:S) (ar:ey) (bu:d8→Bool) (q:aj→Prop):aj→aj→Prop
 | dead (x:aj):fe s ar bu q x .dead
 | pure {x:aj} (h:Pure x) (aD:q x):fe s ar bu q x x
 | cv (sz:Nat):fe s ar bu q .cv (.isl sz [])
 | gb (sz:Nat):fe s ar bu q .gb (.isl sz [])
 | xb (sz:Nat):fe s ar bu q .fX (.g6 sz none)
 | g6 {sz:Nat} {x:aj} {c:List aj} (h:fe s ar bu q x (.df sz [c] 0 0)):fe s ar bu q x (.g6 sz (some c))
 | ref {r k j gy:Nat} (i off:Nat) (h:ar j gy=some (r,k)) (hu:s.ay r k):fe s ar bu q (.ref r k i off) (.ref j gy i off)
 | a1 {r k j gy:Nat} (bS len:Nat) (h:ar j gy=some (r,k)) (hu:s.ay r k):fe s ar bu q (.a1 r k bS len) (.a1 j gy bS len)
 | jC (r c sz:Nat):fe s ar bu q (.fR r c sz none) (.isl sz [])
 | kw {r c sz k n:Nat} {bQ:aj} (h:fe s ar bu q (.a1 r (k+c) 0 n) bQ):fe s ar bu q (.fR r c sz (some (k,n))) bQ
 | fR {r cV c cw sz:Nat} (h:Option (Nat×Nat)) (hm : ∀k,ar cV (k+cw)=some (r,k+c)):fe s ar bu q (.fR r c sz h) (.fR cV cw sz h)
 | df {r k:Nat} {o:ae} {ef:List (List aj)} (i off:Nat) (U:s.J r k=some o) (bV:bu o.bD=true) (ak:(∀j i,ar j i≠some (r,k))) (cb:o.es≠[]) (aa:gO ef) (hle : ∀e∈ef,e.length=o.sz) (aA:ef.length=o.es.length)
  (h : ∀(j:Nat) x bQ,o.es.flatten[j]? = some x→ef.flatten[j]? = some bQ→fe s ar bu q x bQ):fe s ar bu q (.ref r k i off) (.df o.sz ef i off)
 | isl {r k bS len:Nat} {o:ae} {ef:List (List aj)} (U:s.J r k=some o) (bV:bu o.bD=true) (ak:(∀j i,ar j i≠some (r,k))) (fF:bS+len≤o.es.length) (aa:gO ef) (hle : ∀e∈ef,e.length=o.sz) (aA:ef.length=len)
  (h : ∀(j:Nat) x bQ,((o.es.drop bS).take len).flatten[j]? = some x→ef.flatten[j]? = some bQ→fe s ar bu q x bQ):fe s ar bu q (.a1 r k bS len) (.isl o.sz ef)
 | agg {c cw:List aj} (aA:cw.length=c.length) (h : ∀(j:Nat) x bQ,c[j]? = some x→cw[j]? = some bQ→fe s ar bu q x bQ):fe s ar bu q (.agg c) (.agg cw)
 | dm {c cw:List aj} (aA:cw.length=c.length) (h : ∀(j:Nat) x bQ,c[j]? = some x→cw[j]? = some bQ→fe s ar bu q x bQ):fe s ar bu q (.dm c) (.dm cw)
 | fn {f:Nat} {c cw:List aj} (aA:cw.length=c.length) (h : ∀(j:Nat) x bQ,c[j]? = some x→cw[j]? = some bQ→fe s ar bu q x bQ):fe s ar bu q (.fn f c) (.fn f cw)
theorem nA {sz:Nat}: ∀(es:List (List aj)),(∀e∈es,e.length=sz)→es.flatten.length=es.length*sz
 | [],_=>by simp
 | e::es,h=>by
  rw [List.flatten_cons,List.length_append,nA es fun x I=>h x (by simp [I]),h e (by simp),List.length_cons,Nat.add_mul];omega
theorem ej {α:Type}{l:List α}{j:Nat}{x:α}(h:l[j]? = some x):j<l.length:=by
 rcases Nat.lt_or_ge j l.length with bY|bY
 ·exact bY
 ·rw [List.getElem?_eq_none bY] at h;simp at h
theorem fe.rel {g:G}{s:S}{ag:dw}{w:World}{ar:ey}{bu:d8→Bool}{q:aj→Prop}(cG:fy g s ag w){je:Nat→Prop}{jF:gh}{jf:fZ}
 (H1 : ∀x v,q x→Pure x→Rel w (s.ok g ag w) s.ay (s.aC ag) x v→Rel w je jF jf x v)
 (x3 : ∀r k o b m,s.J r k=some o→bu o.bD=true→(∀j i,ar j i≠some (r,k))→ag r k=some (b,m)→je b)
 (vw : ∀j i r k,ar j i=some (r,k)→s.ay r k→jF j i∧(jf j i=s.aC ag r k∨jf j i=none)) {x bQ:aj} (cf:fe s ar bu q x bQ) :
 ∀ {v:Value},Rel w (s.ok g ag w) s.ay (s.aC ag) x v→Rel w je jF jf bQ v:=by
 induction cf with
 | dead x=>intro v _;exact .dead v
 | pure aa aD=>intro v ak;exact H1 _ v aD aa ak
 | cv sz=>intro v ak;rw [ak.lY];exact .gp sz none 0 (fun _=>rfl)
 | gb sz=>intro v ak;obtain ⟨a,c,rfl⟩:=ak.wV;exact .gp sz (some a) c (fun h=>by simp at h)
 | xb sz=>intro v ak;rw [ak.pL];exact .lH sz
 | g6 h ih=>intro v ak;exact .lq (ih ak)
 | @ref r k j gy i off aq hu =>
  intro v ak
  obtain ⟨h1,h2⟩:=vw j gy r k aq hu
  cases ak with
  | l2 a mH a6 =>
   refine .l2 a h1 fun sz p=> ?_
   rcases h2 with e|e<;>rw [e]
   ·exact a6 sz p
   ·simp
  | ref mH bP =>
   rcases h2 with e|e
   ·exact .ref h1 (e.trans bP)
   ·exact .l2 _ h1 fun sz p=>by rw [e];simp
 | @a1 r k j gy bS len aq hu =>
  intro v ak
  obtain ⟨h1,h2⟩:=vw j gy r k aq hu
  cases ak with
  | jX a l c mH a6 =>
   refine .jX a l c h1 ?_
   rcases h2 with e|e<;>rw [e]
   exact a6
  | km mH bP =>
   rcases h2 with e|e
   ·exact .km h1 (e.trans bP)
   ·exact .jX _ _ _ h1 e
  | a1 mH bP aA aL hm =>
   rcases h2 with e|e
   ·exact .a1 h1 (e.trans bP) aA aL hm
   ·exact .jX _ _ _ h1 e
 | jC r c sz =>
  intro v ak
  cases ak with
  | jC h0 =>
   rcases h0.oc with ⟨-,a,c,rfl,bV⟩|⟨cH,off,c,-,rfl,-⟩
   ·exact .gp sz a c bV
   ·exact .gp sz _ c (fun h=>by simp at h)
 | kw h ih =>
  intro v ak
  cases ak with
  | kw h0=>exact ih h0
 | @fR r cV c cw sz h hm =>
  intro v ak
  cases ak with
  | jC h0 =>
   rcases h0.oc with ⟨-,a,c,rfl,bV⟩|⟨cH,off,c,-,rfl,-⟩
   ·exact .jC (.gp sz a c bV)
   ·exact .jC (.gp sz _ c (fun h=>by simp at h))
  | @kw _ _ _ k n _ h0 =>
   refine .kw ?_
   cases h0 with
   | jX a l bn mH a6 =>
    obtain ⟨h1,h2⟩:=vw _ _ _ _ (hm k) mH
    refine .jX a l bn h1 ?_
    rcases h2 with e|e<;>rw [e]
    exact a6
   | km mH bP =>
    obtain ⟨h1,h2⟩:=vw _ _ _ _ (hm k) mH
    rcases h2 with e|e
    ·exact .km h1 (e.trans bP)
    ·exact .jX _ _ _ h1 e
   | a1 mH bP aA aL jH =>
    obtain ⟨h1,h2⟩:=vw _ _ _ _ (hm k) mH
    rcases h2 with e|e
    ·exact .a1 h1 (e.trans bP) aA aL jH
    ·exact .jX _ _ _ h1 e
 | @df r k o ef i off U bV ak cb BE hle aA h ih =>
  intro v aS
  have dj:=cG.obj r k o U
  rcases aS.pQ (fx U) with h0|⟨b,m,aa,hval⟩
  ·rw [h0] at dj;exact absurd dj cb
  ·rw [aa] at dj
   have fH:=dj.rd
   rw [hval]
   have hh:ef.flatten.length=o.es.flatten.length:=by rw [nA ef hle,nA o.es fH.1,aA]
   have p6:k8 w je jF jf b 0 o.sz ef:=by
    refine ⟨hle,fun j bQ cx=> ?_⟩
    have cE:j<o.es.flatten.length:=by rw [← hh];exact ej cx
    have I:o.es.flatten[j]? = some o.es.flatten[j]:=List.getElem?_eq_getElem cE
    obtain ⟨u,e1,e2,br⟩:=fH.2 j _ I
    exact ⟨u,e1,e2,ih j _ bQ I cx br⟩
   have:=p6.df (i:=i) (off:=off) ⟨x3 r k o b m U bV ak aa,BE⟩
   rw [Nat.zero_add] at this
   exact this
 | @isl r k bS len o ef U bV ak fF BE hle aA h ih =>
  intro v aS
  have dj:=cG.obj r k o U
  rcases aS.ub (fx U) with ⟨aa,rfl,rfl,hval⟩|⟨b,m,A,c,aa,hval,nf,oA,hm⟩
  ·have:ef=[]:=List.length_eq_zero_iff.1 aA
   subst this
   rw [hval];exact .gp _ none 0 (fun _=>rfl)
  ·rw [aa] at dj
   rw [hval]
   rcases Nat.eq_zero_or_pos len with h0|jD
   ·subst h0
    have:ef=[]:=List.length_eq_zero_iff.1 aA
    subst this
    exact .gp _ A c (fun a6=>by rcases hm with h1|⟨h1,-⟩<;>simp_all)
   ·rcases hm with hm|⟨hA,hm⟩
    ·omega
    ·subst hA
     have fH:=wm dj.rd bS len (by omega)
     rw [Nat.zero_add] at fH
     have hh:ef.flatten.length=((o.es.drop bS).take len).flatten.length:=by
      rw [nA ef hle,nA _ fH.1,aA,List.length_take,List.length_drop,Nat.min_eq_left (by omega)]
     have p6:k8 w je jF jf b (bS*o.sz) o.sz ef:=by
      refine ⟨hle,fun j bQ cx=> ?_⟩
      have cE:j<((o.es.drop bS).take len).flatten.length:=by rw [← hh];exact ej cx
      have I:=List.getElem?_eq_getElem cE
      obtain ⟨u,e1,e2,br⟩:=fH.2 j _ I
      exact ⟨u,e1,e2,ih j _ bQ I cx br⟩
     have:=p6.isl (c:=c) ⟨x3 r k o b m U bV ak aa,BE⟩ (by omega)
     rw [aA] at this
     exact this
 | @agg c cw aA h ih =>
  intro v aS
  obtain ⟨vs,rfl,h1,h2,af⟩:=aS.rU
  refine .agg vs (by omega) h2 fun j bQ u cx hu=> ?_
  have cE:j<c.length:=by have:=ej cx;omega
  exact ih j _ bQ (List.getElem?_eq_getElem cE) cx (af j _ u (List.getElem?_eq_getElem cE) hu)
 | @dm c cw aA h ih =>
  intro v aS
  obtain ⟨vs,rfl,h1,af⟩:=aS.rV
  refine .dm vs (by omega) fun j bQ u cx hu=> ?_
  have cE:j<c.length:=by have:=ej cx;omega
  exact ih j _ bQ (List.getElem?_eq_getElem cE) cx (af j _ u (List.getElem?_eq_getElem cE) hu)
 | @fn f c cw aA h ih =>
  intro v aS
  obtain ⟨vs,rfl,h1,af⟩:=aS.w5
  refine .fn vs (by omega) fun j bQ u cx hu=> ?_
  have cE:j<c.length:=by have:=ej cx;omega
  exact ih j _ bQ (List.getElem?_eq_getElem cE) cx (af j _ u (List.getElem?_eq_getElem cE) hu)
structure k4 (s:S) (ar:ey) (bu:d8→Bool) (q:aj→Prop) (o bm:ae):Prop where
 sz:bm.sz=o.sz
 bD:bm.bD=o.bD∨(bm.bD = .nc∧o.bD = .live)∨bm.bD = .gone
 len:bm.es.length=o.es.length
 each : ∀e∈bm.es,e.length=o.sz
 at_ : ∀(j:Nat) x bQ,o.es.flatten[j]? = some x→bm.es.flatten[j]? = some bQ→fe s ar bu q x bQ
structure mg (s:S) (ar:ey) (bu:d8→Bool) (q:aj→Prop) (eW:Nat→Option (List ae)):Prop where
 inj : ∀j i g7 gy p,ar j i=some p→ar g7 gy=some p→j=g7∧i=gy
 at_ : ∀j i bm,ck (eW j) i=some bm→ ∃r k o,ar j i=some (r,k)∧s.J r k=some o∧k4 s ar bu q o bm
 ay : ∀j i r k,ar j i=some (r,k)→s.ay r k→i<((eW j).getD []).length
def gK (ag:dw)(ar:ey):dw:=fun j i=>match ar j i with
 | some (r,k)=>ag r k
 | none=>none
theorem r5 {ag:dw}{ar:ey}{j i r k:Nat}(h:ar j i=some (r,k)):gK ag ar j i=ag r k:=by simp [gK,h]
def i5 (_:aj):Prop:=True
theorem Nc:Down i5:=⟨fun _ _ _ _=>trivial,fun _ _ _ _=>trivial,fun _ _ _ _ _=>trivial⟩
section
variable {g:G} {s:S} {ag:dw} {w:World} {ar:ey} {bu:d8→Bool} {q:aj→Prop} {a7:S}
theorem mg.J (h:mg s ar bu q a7.az){j i:Nat}{bm:ae}(U:a7.J j i=some bm): ∃r k o,ar j i=some (r,k)∧s.J r k=some o∧k4 s ar bu q o bm:=h.at_ j i bm U
theorem ES {o bm:ae}(h:k4 s ar bu q o bm)(aA:bm.bD = .live):o.bD = .live:=by
 rcases h.bD with e|⟨e,-⟩|e
 ·exact e.symm.trans aA
 ·rw [e] at aA;simp at aA
 ·rw [e] at aA;simp at aA
theorem mg.live (h:mg s ar bu q a7.az)(b:Nat)(aA:a7.iV (gK ag ar) b): ∃r k o m,s.J r k=some o∧o.bD = .live∧ag r k=some (b,m)∧ ∃j i,ar j i=some (r,k):=by
 obtain ⟨j,i,bm,m,h1,h2,af⟩:=aA
 obtain ⟨r,k,o,e1,e2,br⟩:=h.J h1
 rw [r5 e1] at af
 exact ⟨r,k,o,m,e2,ES br h2,af,j,i,e1⟩
theorem mg.xC (h:mg s ar bu q a7.az){j i r k:Nat}(aq:ar j i=some (r,k)):a7.aC (gK ag ar) j i=s.aC ag r k∨a7.aC (gK ag ar) j i=none:=by
 cases U:a7.J j i with
 | none=>right;simp [S.aC,U]
 | some bm =>
  obtain ⟨cV,cc,o,e1,e2,br⟩:=h.J U
  rw [aq] at e1;simp only [Option.some.injEq,Prod.mk.injEq] at e1
  obtain ⟨rfl,rfl⟩:=e1
  left
  rw [fx U,fx e2,br.sz,r5 aq]
theorem fy.Cg (cG:fy g s ag w)(h:mg s ar bu q a7.az){dX:G}(aV:uE dX w)(uv:∀j k,dX.lu j k→a7.ay j k∧(a7.aC (gK ag ar) j k=dX.nd j k∨a7.aC (gK ag ar) j k=none))(NL:∀j k,dX.lu j k→j<dX.m)
 (NM : ∀b,dX.lM b→b<dX.jx.heap.size) (halt : ∀b,dX.A b→b<dX.jx.heap.size)
 (Bj : ∀r k o b m,(∃j i,ar j i=some (r,k))→s.J r k=some o→ag r k=some (b,m)→dX.jx.heap.size≤b∨dX.lM b)
 (H1 : ∀b,s.ok g ag w b→a7.ok dX (gK ag ar) w b)
 (x3 : ∀r k o b m,s.J r k=some o→bu o.bD=true→(∀j i,ar j i≠some (r,k))→ag r k=some (b,m)→a7.ok dX (gK ag ar) w b) :
 fy dX a7 (gK ag ar) w∧ ∀ {x bQ:aj} {v:Value},fe s ar bu q x bQ→Rel w (s.ok g ag w) s.ay (s.aC ag) x v→Rel w (a7.ok dX (gK ag ar) w) a7.ay (a7.aC (gK ag ar)) bQ v:=by
 have dj : ∀ {x bQ:aj} {v:Value},fe s ar bu q x bQ→Rel w (s.ok g ag w) s.ay (s.aC ag) x v→Rel w (a7.ok dX (gK ag ar) w) a7.ay (a7.aC (gK ag ar)) bQ v :=
  fun cf ak=>cf.rel cG (fun x v _ aa ak=>ak.pure aa H1) x3 (fun j i r k aq hu=>⟨h.ay j i r k aq hu,h.xC aq⟩) ak
 refine ⟨⟨?_,?_,?_,aV,NM,halt,uv,NL⟩,dj⟩
 ·intro j k bm cC
  obtain ⟨r,cc,o,e1,e2,br⟩:=h.J cC
  have aF:=cG.obj r cc o e2
  rw [r5 e1]
  cases aa:ag r cc with
  | none =>
   rw [aa] at aF
   simp only [f9] at aF ⊢
   apply List.length_eq_zero_iff.1
   rw [br.len,aF];rfl
  | some q =>
   obtain ⟨b,m⟩:=q
   rw [aa] at aF
   obtain ⟨c,cU,h1,h2,af,ax⟩:=aF
   have hh:bm.es.flatten.length=o.es.flatten.length:=by rw [nA _ br.each,nA _ af,br.len]
   refine ⟨c,cU,h1,h2,by rw [br.sz];exact br.each,fun i bQ cx=> ?_⟩
   have cE:i<o.es.flatten.length:=by rw [← hh];exact ej cx
   have I:=List.getElem?_eq_getElem cE
   obtain ⟨u,f1,f2,f3⟩:=ax i _ I
   exact ⟨u,f1,f2,dj (br.at_ i _ bQ I cx) f3⟩
 ·intro j k o g7 cc bm b m bs h1 h2 af ax
  obtain ⟨r,hO,p,e1,e2,-⟩:=h.J h1
  obtain ⟨cV,Oi,h3,jI,lL,-⟩:=h.J h2
  rw [r5 e1] at af
  rw [r5 jI] at ax
  obtain ⟨rfl,rfl⟩:=cG.inj r hO p cV Oi h3 b m bs e2 lL af ax
  exact h.inj _ _ _ _ _ e1 jI
 ·intro j k o b m h1 h2
  obtain ⟨r,hO,p,e1,e2,-⟩:=h.J h1
  rw [r5 e1] at h2
  exact Bj r hO p b m ⟨j,k,e1⟩ e2 h2
theorem bR.ET {a:Act}(h:bR g s ag a w)(ca:mg s ar (fun _=>true) q a7.az)(dg:∀t,fe s ar (fun _=>true) q (s.E t) (a7.E t))(uQ:∀j k,g.lu j k→ar j k=some (j,k)):bR g a7 (gK ag ar) a w:=by
 have hg : ∀b,a7.iV (gK ag ar) b→s.iV ag b:=fun b aA=>by
  obtain ⟨r,k,o,m,h1,h2,af,-⟩:=ca.live b aA
  exact ⟨r,k,o,m,h1,h2,af⟩
 have uv : ∀j k,g.lu j k→a7.ay j k∧(a7.aC (gK ag ar) j k=g.nd j k∨a7.aC (gK ag ar) j k=none):=by
  intro j k aq
  obtain ⟨e1,e2⟩:=h.stay j k aq
  refine ⟨ca.ay j k j k (uQ j k aq) e1,?_⟩
  rcases ca.xC (ag:=ag) (uQ j k aq) with e|e
  ·rw [e];exact e2
  ·exact .inr e
 obtain ⟨h1,h2⟩:=h.tofy.Cg ca h.fr uv h.low h.mlt h.j2 (fun r k o b m _ U aa=>h.own r k o b m U aa)
  (fun b aE=>⟨aE.1,aE.2.1,fun aA=>aE.2.2 (hg b aA)⟩)
  (fun r k o b m U _ ak aa=>by
    have aF:=h.obj r k o U
    rw [aa] at aF
    obtain ⟨c,cU,e1,-⟩:=aF
    refine ⟨(Array.getElem?_eq_some_iff.1 e1).1,?_,fun aA=> ?_⟩
    ·rcases h.own r k o b m U aa with e|e
     ·exact .inr (.inl e)
     ·exact .inr (.inr e)
    ·obtain ⟨cV,cc,bm,bs,f1,f2,f3,⟨sO,Ch,f4⟩⟩:=ca.live b aA
     obtain ⟨rfl,rfl⟩:=h.inj r k o cV cc bm b m bs U f1 aa f3
     exact ak sO Ch f4)
 exact {tofy:=h1,env:=fun t=>h2 (dg t) (h.env t),defers:=h.defers,gJ:=h.gJ}
end
end Go.VL
namespace Go.VL
set_option linter.unusedVariables false
set_option linter.unusedSimpArgs false
open Go
def da (T:List (List ae)):S:={E:=fun _=> .dead,az:=fun r=>T[r]?}
def Nd (P:Program)(f:FuncId)(args:List aj)(T:List (List ae))(r:aj)(gz:List (List ae)):Prop :=
 ∀(g:G) (ag:dw) (w:World) (vs:Array Value),g.jx=w→g.m=T.length→g.lu=(da T).ay→g.nd=(da T).aC ag→fy g (da T) ag w→vs.size=args.length →
  (∀(j:Nat) x v,args[j]? = some x→vs[j]? = some v→Rel w ((da T).ok g ag w) (da T).ay ((da T).aC ag) x v) →
  Calls P f vs w fun e a5=> ∃v a0,e = .returned v∧fy g (da gz) a0 a5∧Rel a5 ((da gz).ok g a0 a5) (da gz).ay ((da gz).aC a0) r v
inductive aZ:aj→Prop
 | dead:aZ .dead
 | b (x:Bool):aZ (.b x)
 | n (k:IntKind) (x:Int):aZ (.n k x)
 | s (x:ByteArray):aZ (.s x)
 | fX:aZ .fX
 | cv:aZ .cv
 | gb:aZ .gb
 | gp (sz:Nat):aZ (.isl sz [])
 | ref (r k i off:Nat):aZ (.ref r k i off)
 | a1 (r k bS len:Nat):aZ (.a1 r k bS len)
 | fR (r c sz:Nat) (h:Option (Nat×Nat)):aZ (.fR r c sz h)
 | agg {c:List aj} (h : ∀x∈c,aZ x):aZ (.agg c)
 | dm {c:List aj} (h : ∀x∈c,aZ x):aZ (.dm c)
theorem Nf:Down aZ:=⟨fun _ _ h I=>by cases h with|agg h=>exact h _ I,fun _ _ h I=>by cases h with|dm h=>exact h _ I,fun _ _ _ h=>by cases h⟩
theorem Rel.dk {w a5:World}{ok je:Nat→Prop}{ay jF:gh}{aC jf:fZ}{x:aj}(cf:aZ x): ∀ {v:Value},Pure x→Rel w ok ay aC x v→Rel a5 je jF jf x v:=by
 induction cf with
 | dead=>intro v _ h;exact .dead v
 | b x=>intro v _ h;rw [h.oZ];exact .b x
 | n k x=>intro v _ h;rw [h.kU];exact .n k x
 | s x=>intro v _ h;rw [h.sb];exact .s x
 | fX=>intro v _ h;rw [h.pL];exact .fX
 | cv=>intro v _ h;rw [h.lY];exact .cv
 | gb=>intro v _ h;obtain ⟨a,c,rfl⟩:=h.wV;exact .gb a c
 | gp sz =>
  intro v _ h
  rcases h.oc with ⟨-,a,c,rfl,bV⟩|⟨cH,off,c,-,rfl,-⟩
  ·exact .gp sz a c bV
  ·exact .gp sz _ c (fun h=>by simp at h)
 | ref=>intro v aa;cases aa
 | a1=>intro v aa;cases aa
 | fR=>intro v aa;cases aa
 | @agg c aL ih =>
  intro v aa h
  obtain ⟨vs,rfl,h1,h2,af⟩:=h.rU
  cases aa with
  | agg aa=>exact .agg vs h1 h2 fun j x u I hu=>ih x (List.mem_of_getElem? I) (aa x (List.mem_of_getElem? I)) (af j x u I hu)
 | @dm c aL ih =>
  intro v aa h
  obtain ⟨vs,rfl,h1,af⟩:=h.rV
  cases aa with
  | dm aa=>exact .dm vs h1 fun j x u I hu=>ih x (List.mem_of_getElem? I) (aa x (List.mem_of_getElem? I)) (af j x u I hu)
section
variable {P:Program} {g:G} {s:S} {ag:dw} {a:Act} {w:World}
theorem uj (h:fy g s ag w){r k b m:Nat}{o:ae}(U:s.J r k=some o)(aa:ag r k=some (b,m)):b<w.heap.size:=by
 have:=h.obj r k o U
 rw [aa] at this
 obtain ⟨c,cU,e,-⟩:=this
 exact (Array.getElem?_eq_some_iff.1 e).1
theorem MJ (h:fy g s ag w){r k b m:Nat}{o:ae}(U:s.J r k=some o)(aV:o.bD = .nc)(aa:ag r k=some (b,m)):s.ok g ag w b:=by
 refine ⟨uj h U aa,?_,?_⟩
 ·rcases h.own r k o b m U aa with e|e
  ·exact .inr (.inl e)
  ·exact .inr (.inr e)
 ·rintro ⟨cV,cc,bm,bs,h1,h2,af⟩
  obtain ⟨rfl,rfl⟩:=h.inj r k o cV cc bm b m bs U h1 aa af
  rw [U] at h1;simp at h1;subst h1;rw [aV] at h2;simp at h2
theorem enter (h:fy g s ag w){ar:ey}{bu:d8→Bool}{q:aj→Prop}{T:List (List ae)}(A:Nat→Prop)
 (hA : ∀b,A b→b<w.heap.size) (BF : ∀b,s.ok g ag w b→A b)
 (BG : ∀r k o b m,s.J r k=some o→bu o.bD=true→ag r k=some (b,m)→A b)
 (ca:mg s ar bu q (da T).az) (l5 : ∀r k o,(∃j i,ar j i=some (r,k))→s.J r k=some o→o.bD = .live) :
 ∃dX:G,dX.jx=w∧dX.A=A∧dX.m=T.length∧dX.lu=(da T).ay∧dX.nd=(da T).aC (gK ag ar) ∧
  (dX.lM=fun b=> ∃r k o m,(∃j i,ar j i=some (r,k))∧s.J r k=some o∧ag r k=some (b,m))∧fy dX (da T) (gK ag ar) w ∧
  ∀ {x bQ:aj} {v:Value},fe s ar bu q x bQ→Rel w (s.ok g ag w) s.ay (s.aC ag) x v→Rel w ((da T).ok dX (gK ag ar) w) (da T).ay ((da T).aC (gK ag ar)) bQ v:=by
 let dX:G:={jx:=w,A:=A,lM:=fun b=> ∃r k o m,(∃j i,ar j i=some (r,k))∧s.J r k=some o∧ag r k=some (b,m),N:=0,m:=T.length,lu:=(da T).ay,nd:=(da T).aC (gK ag ar)}
 refine ⟨dX,rfl,rfl,rfl,rfl,rfl,rfl,?_⟩
 have hg : ∀b,(da T).iV (gK ag ar) b→ ∃r k o m,s.J r k=some o∧o.bD = .live∧ag r k=some (b,m)∧ ∃j i,ar j i=some (r,k):=fun b aA=>ca.live b aA
 refine fy.Cg (a7:=da T) (dX:=dX) h ca ⟨rfl,rfl,rfl,Nat.le_refl _,fun _ _ _=>rfl⟩ (fun j k aq=>⟨aq,.inl rfl⟩) ?_ ?_ hA ?_ ?_ ?_
 ·intro j k aq
  have aq:k<((T[j]?).getD []).length:=aq
  rcases Nat.lt_or_ge j T.length with h1|h1
  ·exact h1
  ·rw [List.getElem?_eq_none h1] at aq;simp at aq
 ·rintro b ⟨r,k,o,m,-,U,aa⟩
  exact uj h U aa
 ·intro r k o b m hm U aa
  exact .inr ⟨r,k,o,m,hm,U,aa⟩
 ·intro b aE
  refine ⟨aE.1,.inl (BF b aE),fun aA=> ?_⟩
  obtain ⟨r,k,o,m,h1,h2,af,-⟩:=hg b aA
  exact aE.2.2 ⟨r,k,o,m,h1,h2,af⟩
 ·intro r k o b m U bV ak aa
  refine ⟨uj h U aa,.inl (BG r k o b m U bV aa),fun aA=> ?_⟩
  obtain ⟨cV,cc,bm,bs,h1,h2,af,⟨j,i,aq⟩⟩:=hg b aA
  obtain ⟨rfl,rfl⟩:=h.inj r k o cV cc bm b m bs U h1 aa af
  exact ak j i aq
theorem leave (h:bR g s ag a w){a5:World}{ar hQ:ey}{bu:d8→Bool}{q0 q:aj→Prop}{dX:G}{T c2:List (List ae)}{h4:dw}
 (c8:dX.jx=w) (hA:(∀b,dX.A b→s.ok g ag w b)∨(∀x,q x→aZ x)) (sv:dX.lu=(da T).ay) (ix:dX.nd=(da T).aC (gK ag ar))
 (cG:dX.lM=fun b=> ∃r k o m,(∃j i,ar j i=some (r,k))∧s.J r k=some o∧ag r k=some (b,m))
 (l5 : ∀r k o,(∃j i,ar j i=some (r,k))→s.J r k=some o→o.bD = .live)
 (ca:mg s ar bu q0 (da T).az) (h1:fy dX (da c2) h4 a5)
 (uw : ∀j i r k,ar j i=some (r,k)→hQ r k=some (j,i)) (xj : ∀r k j i,hQ r k=some (j,i)→ar j i=some (r,k)∨ ¬s.ay r k)
 (NN : ∀r k cV cc p,hQ r k=some p→hQ cV cc=some p→r=cV∧k=cc)
 {s2:S} (dg:s2.E=s.E)
 (aF : ∀r k o,s2.J r k=some o→(∃j i p,hQ r k=some (j,i)∧(da c2).J j i=some p∧k4 (da c2) hQ (fun _=>false) q p o)∨(hQ r k=none∧s.J r k=some o))
 (gu : ∀r k,s.ay r k→s2.ay r k) (NO : ∀r k j i,hQ r k=some (j,i)→(da c2).ay j i→s2.ay r k)
 {x bQ:aj} {v:Value} (I:fe (da c2) hQ (fun _=>false) q x bQ) (aS:Rel a5 ((da c2).ok dX h4 a5) (da c2).ay ((da c2).aC h4) x v) :
 ∃iB,bR g s2 iB a a5∧Rel a5 (s2.ok g iB a5) s2.ay (s2.aC iB) bQ v:=by
 let iB:dw:=fun r k=>match hQ r k with|some (j,i)=>h4 j i|none=>ag r k
 have p1 : ∀r k j i,hQ r k=some (j,i)→iB r k=h4 j i:=fun r k j i e=>by simp [iB,e]
 have p2 : ∀r k,hQ r k=none→iB r k=ag r k:=fun r k e=>by simp [iB,e]
 have aV:=h1.fr
 have c5:w.heap.size≤a5.heap.size:=by have:=aV.size;rw [c8] at this;exact this
 have ow : ∀b,b<w.heap.size→ ¬dX.lM b→a5.heap[b]? = w.heap[b]? := fun b aE iy=>by
  have:=aV.block b (by rw [c8];exact aE) iy
  rw [c8] at this;exact this
 have xD : ∀j k p b m,(da c2).J j k=some p→h4 j k=some (b,m)→w.heap.size≤b∨ ∃r cc o bs,(∃j i,ar j i=some (r,cc))∧s.J r cc=some o∧ag r cc=some (b,bs):=by
  intro j k p b m aa aE
  rcases h1.own j k p b m aa aE with e|e
  ·rw [c8] at e;exact .inl e
  ·rw [cG] at e;exact .inr e
 have hold : ∀q k o b m,hQ q k=none→s.J q k=some o→ag q k=some (b,m)→b<w.heap.size∧ ¬dX.lM b:=by
  intro q k o b m aD U aa
  refine ⟨uj h.tofy U aa,fun iy=> ?_⟩
  rw [cG] at iy
  obtain ⟨r,cc,bm,bs,⟨j,i,ak⟩,cC,i4⟩:=iy
  obtain ⟨rfl,rfl⟩:=h.inj q k o r cc bm b m bs U cC aa i4
  rw [uw _ _ _ _ ak] at aD;simp at aD
 have E8 : ∀b,s2.iV iB b→(da c2).iV h4 b∨(∃q k o m,hQ q k=none∧s.J q k=some o∧o.bD = .live∧ag q k=some (b,m)):=by
  rintro b ⟨q,k,o,m,U,kC,aa⟩
  rcases aF q k o U with ⟨j,i,p,e1,e2,br⟩|⟨e1,e2⟩
  ·rw [p1 _ _ _ _ e1] at aa
   exact .inl ⟨j,i,p,m,e2,ES br kC,aa⟩
  ·rw [p2 _ _ e1] at aa
   exact .inr ⟨q,k,o,m,e1,e2,kC,aa⟩
 have kz : ∀b,s.ok g ag w b→s2.ok g iB a5 b:=by
  intro b aE
  refine ⟨Nat.lt_of_lt_of_le aE.1 c5,aE.2.1,fun aA=> ?_⟩
  rcases E8 b aA with ⟨j,k,p,m,e1,e2,br⟩|⟨q,k,o,m,e1,e2,br,cS⟩
  ·rcases xD j k p b m e1 br with e|⟨r,cc,o,bs,ak,U,aa⟩
   ·have:=aE.1;omega
   ·exact aE.2.2 ⟨r,cc,o,bs,U,l5 r cc o ak U,aa⟩
  ·exact aE.2.2 ⟨q,k,o,m,e2,br,cS⟩
 have FL : ∀r k,s.ay r k→s2.aC iB r k=s.aC ag r k∨s2.aC iB r k=none:=by
  intro r k ak
  cases U:s2.J r k with
  | none=>right;simp [S.aC,U]
  | some o =>
   left
   rcases aF r k o U with ⟨j,i,p,e1,e2,br⟩|⟨e1,e2⟩
   ·rcases xj r k j i e1 with aq|aq
    ·have jg:=(h1.stay j i (by rw [sv];exact ca.ay _ _ _ _ aq ak)).2
     rw [ix,fx e2] at jg
     have jg:some (p.sz,h4 j i)=(da T).aC (gK ag ar) j i:=by
      rcases jg with e|e
      ·exact e
      ·simp at e
     have:=ca.xC (a7:=da T) (ag:=ag) aq
     rw [← jg] at this
     rw [fx U,br.sz,p1 _ _ _ _ e1]
     rcases this with e|e
     ·exact e
     ·simp at e
    ·exact absurd ak aq
   ·rw [fx U,fx e2,p2 _ _ e1]
 have Ng : ∀b,s.ok g ag w b→a5.heap[b]? = w.heap[b]? := by
  intro b aE
  refine ow b aE.1 fun iy=> ?_
  rw [cG] at iy
  obtain ⟨r,cc,o,bs,ak,U,aa⟩:=iy
  exact aE.2.2 ⟨r,cc,o,bs,U,l5 r cc o ak U,aa⟩
 have dj : ∀ {y:aj} {u:Value},Rel w (s.ok g ag w) s.ay (s.aC ag) y u→Rel a5 (s2.ok g iB a5) s2.ay (s2.aC iB) y u :=
  fun ak=>ak.mono kz Ng gu FL
 have NP:(∀b,dX.A b→s.ok g ag w b)→ ∀b,(da c2).ok dX h4 a5 b→s2.ok g iB a5 b:=by
  intro hA b aE
  have Bj:g.A b∨g.jx.heap.size≤b∨g.lM b:=by
   rcases aE.2.1 with e|e|e
   ·exact (hA b e).2.1
   ·rw [c8] at e;exact .inr (.inl (Nat.le_trans h.fr.size e))
   ·rw [cG] at e
    obtain ⟨r,k,o,m,-,U,aa⟩:=e
    rcases h.own r k o b m U aa with e|e
    ·exact .inr (.inl e)
    ·exact .inr (.inr e)
  refine ⟨aE.1,Bj,fun aA=> ?_⟩
  rcases E8 b aA with e|⟨q,k,o,m,e1,e2,br,cS⟩
  ·exact aE.2.2 e
  ·have aD:=hold q k o b m e1 e2 cS
   rcases aE.2.1 with e|e|e
   ·exact (hA b e).2.2 ⟨q,k,o,m,e2,br,cS⟩
   ·rw [c8] at e;omega
   ·exact aD.2 e
 have Fq : ∀ {y ke:aj} {u:Value},fe (da c2) hQ (fun _=>false) q y ke→Rel a5 ((da c2).ok dX h4 a5) (da c2).ay ((da c2).aC h4) y u→Rel a5 (s2.ok g iB a5) s2.ay (s2.aC iB) ke u:=by
  intro y ke u cf ak
  refine cf.rel h1 (fun x v aD aa ak=> ?_) (fun _ _ _ _ _ _ bV _ _=>by simp at bV) ?_ ak
  ·rcases hA with hA|hA
   ·exact ak.pure aa (NP hA)
   ·exact ak.dk (hA x aD) aa
  ·intro r k j i aD aq
   refine ⟨NO r k j i aD aq,?_⟩
   cases U:s2.J r k with
   | none=>right;simp [S.aC,U]
   | some o =>
    left
    rcases aF r k o U with ⟨g7,gy,p,e1,e2,br⟩|⟨e1,-⟩
    ·rw [aD] at e1;simp only [Option.some.injEq,Prod.mk.injEq] at e1
     obtain ⟨rfl,rfl⟩:=e1
     rw [fx U,fx e2,br.sz,p1 _ _ _ _ aD]
    ·rw [aD] at e1;simp at e1
 refine ⟨iB,{tofy:=⟨?_,?_,?_,?_,h.mlt,h.j2,?_,h.low⟩,env:=fun t=>by rw [dg];exact dj (h.env t),defers:=h.defers,gJ:=h.gJ},Fq I aS⟩
 ·intro q k o U
  rcases aF q k o U with ⟨j,i,p,e1,e2,br⟩|⟨e1,e2⟩
  ·have aa:=h1.obj j i p e2
   rw [p1 _ _ _ _ e1]
   cases hs:h4 j i with
   | none =>
    rw [hs] at aa
    simp only [f9] at aa ⊢
    apply List.length_eq_zero_iff.1
    rw [br.len,aa];rfl
   | some oI =>
    obtain ⟨b,m⟩:=oI
    rw [hs] at aa
    obtain ⟨c,cU,f1,f2,f3,f4⟩:=aa
    have hh:o.es.flatten.length=p.es.flatten.length:=by rw [nA _ br.each,nA _ f3,br.len]
    refine ⟨c,cU,f1,f2,by rw [br.sz];exact br.each,fun i bQ cx=> ?_⟩
    have cE:i<p.es.flatten.length:=by rw [← hh];exact ej cx
    have xE:=List.getElem?_eq_getElem cE
    obtain ⟨u,jz,mq,hx⟩:=f4 i _ xE
    exact ⟨u,jz,mq,Fq (br.at_ i _ bQ xE cx) hx⟩
  ·have aa:=h.obj q k o e2
   rw [p2 _ _ e1]
   cases hs:ag q k with
   | none=>rw [hs] at aa;exact aa
   | some oI =>
    obtain ⟨b,m⟩:=oI
    rw [hs] at aa
    obtain ⟨c,cU,f1,f2,f3,f4⟩:=aa
    obtain ⟨BB,Oj⟩:=hold q k o b m e1 e2 hs
    refine ⟨c,cU,(ow b BB Oj).trans f1,f2,f3,fun i bQ cx=> ?_⟩
    obtain ⟨u,jz,mq,hx⟩:=f4 i bQ cx
    exact ⟨u,jz,mq,dj hx⟩
 ·intro q k o fb cc bm b m bs h2 af ax a8
  rcases aF q k o h2 with ⟨j,i,p,e1,e2,br⟩|⟨e1,e2⟩<;>rcases aF fb cc bm af with ⟨g7,gy,h3,jI,lL,u7⟩|⟨jI,lL⟩
  ·rw [p1 _ _ _ _ e1] at ax;rw [p1 _ _ _ _ jI] at a8
   obtain ⟨rfl,rfl⟩:=h1.inj j i p g7 gy h3 b m bs e2 lL ax a8
   exact NN _ _ _ _ _ e1 jI
  ·rw [p1 _ _ _ _ e1] at ax;rw [p2 _ _ jI] at a8
   obtain ⟨f1,f2⟩:=hold fb cc bm b bs jI lL a8
   rcases xD j i p b m e2 ax with e|e
   ·omega
   ·exact absurd (by rw [cG];exact e) f2
  ·rw [p2 _ _ e1] at ax;rw [p1 _ _ _ _ jI] at a8
   obtain ⟨f1,f2⟩:=hold q k o b m e1 e2 ax
   rcases xD g7 gy h3 b bs lL a8 with e|e
   ·omega
   ·exact absurd (by rw [cG];exact e) f2
  ·rw [p2 _ _ e1] at ax;rw [p2 _ _ jI] at a8
   exact h.inj q k o fb cc bm b m bs e2 lL ax a8
 ·intro q k o b m h2 ax
  rcases aF q k o h2 with ⟨j,i,p,e1,e2,br⟩|⟨e1,e2⟩
  ·rw [p1 _ _ _ _ e1] at ax
   rcases xD j i p b m e2 ax with e|⟨r,cc,bm,bs,ak,U,aa⟩
   ·exact .inl (Nat.le_trans h.fr.size e)
   ·exact h.own r cc bm b bs U aa
  ·rw [p2 _ _ e1] at ax;exact h.own q k o b m e2 ax
 ·have e1:=aV.os;have e2:=aV.tape;have br:=aV.output
  rw [c8] at e1 e2 br
  refine h.fr.step e1 e2 br c5 fun b aE Ok=>ow b (Nat.lt_of_lt_of_le aE h.fr.size) fun iy=> ?_
  rw [cG] at iy
  obtain ⟨r,k,o,m,-,U,aa⟩:=iy
  rcases h.own r k o b m U aa with e|e
  ·omega
  ·exact Ok e
 ·intro j k aq
  obtain ⟨e1,e2⟩:=h.stay j k aq
  refine ⟨gu j k e1,?_⟩
  rcases FL j k e1 with e|e
  ·rw [e];exact e2
  ·exact .inr e
def hL (a b n:Nat):aj→aj
 | .ref r k i off=>if r=a then .ref b (n+k) i off else .ref r k i off
 | .a1 r k bS len=>if r=a then .a1 b (n+k) bS len else .a1 r k bS len
 | .fR r c sz h=>if r=a then .fR b (n+c) sz h else .fR r c sz h
 | .agg c=> .agg (sw c)
 | .dm c=> .dm (sw c)
 | x=>x
where sw:List aj→List aj
 | []=>[]
 | x::l=>hL a b n x::sw l
def jh (a b n:Nat)(o:ae):ae:={o with es:=o.es.map fun e=>e.map (hL a b n)}
def m5 (o:ae):ae:=⟨0,[],.gone⟩
theorem w6 (a b n:Nat): ∀l:List aj,hL.sw a b n l=l.map (hL a b n)
 | []=>rfl
 | x::l=>by rw [hL.sw,w6 a b n l];rfl
theorem hq (l:List ae)(k:Nat):ck (some l) k=(l[k]?).bind fun o=>if o.bD = .gone then none else some o:=by
 unfold ck
 cases h:l[k]? <;> simp [h]
theorem map_flatten {es:List (List aj)}(f:aj→aj):(es.map fun e=>e.map f).flatten=es.flatten.map f:=by
 induction es with
 | nil=>rfl
 | cons e es ih=>rw [List.map_cons,List.flatten_cons,List.flatten_cons,List.map_append,ih]
theorem bR.merge (h:bR g s ag a w){r cV:Nat}{l dy:List ae}(ak:s.az r=some l)(e5:s.az cV=some dy)(cb:cV≠r):
 ∃a0,bR g ((s.setRow cV (dy.map m5)).setRow r (l++dy.map (jh cV r l.length))) a0 a w ∧
  ∀x v,Rel w (s.ok g ag w) s.ay (s.aC ag) x v→Rel w (((s.setRow cV (dy.map m5)).setRow r (l++dy.map (jh cV r l.length))).ok g a0 w)
   ((s.setRow cV (dy.map m5)).setRow r (l++dy.map (jh cV r l.length))).ay (((s.setRow cV (dy.map m5)).setRow r (l++dy.map (jh cV r l.length))).aC a0) (hL cV r l.length x) v:=by
 generalize vb:(s.setRow cV (dy.map m5)).setRow r (l++dy.map (jh cV r l.length))=s2
 let a0:dw:=fun q k=>if q=r∧l.length≤k then ag cV (k-l.length) else ag q k
 have aF : ∀q k o,s2.J q k=some o→(q=r∧l.length≤k∧ ∃p,s.J cV (k-l.length)=some p∧o=jh cV r l.length p∧a0 q k=ag cV (k-l.length)) ∨
  (q≠cV∧s.J q k=some o∧a0 q k=ag q k∧ ¬(q=r∧l.length≤k)):=by
  intro q k o U
  subst vb
  rw [iG] at U
  by_cases e:q=r
  ·subst e
   rw [if_pos rfl] at U
   by_cases aV:l.length≤k
   ·left
    refine ⟨rfl,aV,?_⟩
    rw [hq,List.getElem?_append_right aV,List.getElem?_map] at U
    cases aa:dy[k-l.length]? with
    | none=>rw [aa] at U;simp at U
    | some p =>
     rw [aa] at U
     simp only [Option.map_some,Option.bind_some] at U
     split at U
     ·simp at U
     ·rename_i c8
      simp only [Option.some.injEq] at U
      refine ⟨p,?_,U.symm,by simp [a0,aV]⟩
      unfold S.J
      rw [e5,hq,aa,Option.bind_some,if_neg (by simpa [jh] using c8)]
   ·right
    refine ⟨Ne.symm cb,?_,by simp [a0,aV],fun dT=>aV dT.2⟩
    unfold S.J
    rw [ak,hq]
    rw [hq,List.getElem?_append_left (by omega)] at U
    exact U
  ·rw [if_neg e,iG] at U
   by_cases e2:q=cV
   ·subst e2
    rw [if_pos rfl,hq,List.getElem?_map] at U
    cases aa:dy[k]? with
    | none=>rw [aa] at U;simp at U
    | some p=>rw [aa] at U;simp [m5] at U
   ·rw [if_neg e2] at U
    exact .inr ⟨e2,U,by simp [a0,e],fun dT=>e dT.1⟩
 have gu : ∀q k,s.ay q k→s2.ay q k:=by
  intro q k aD
  subst vb
  rw [jW]
  by_cases e:q=r
  ·subst e;rw [if_pos rfl];simp [S.ay,ak] at aD;simp;omega
  ·rw [if_neg e,jW]
   by_cases e2:q=cV
   ·subst e2;rw [if_pos rfl];simpa [S.ay,e5] using aD
   ·rw [if_neg e2];exact aD
 have uR : ∀k,s.ay cV k→s2.ay r (l.length+k):=by
  intro k aD
  subst vb
  rw [jW,if_pos rfl]
  simp [S.ay,e5] at aD
  simp;omega
 have uS : ∀k,s2.aC a0 r (l.length+k)=s.aC ag cV k:=by
  intro k
  subst vb
  simp only [S.aC]
  rw [iG,if_pos rfl]
  unfold S.J
  rw [e5,hq,hq,List.getElem?_append_right (by omega),List.getElem?_map,show l.length+k-l.length=k by omega]
  cases aa:dy[k]? with
  | none=>simp
  | some p =>
   simp only [Option.map_some,Option.bind_some]
   by_cases c8:p.bD = .gone
   ·rw [if_pos c8,if_pos (by simpa [jh] using c8)];rfl
   ·rw [if_neg c8,if_neg (by simpa [jh] using c8)]
    simp [a0,jh]
 have ix : ∀q k,s.ay q k→s2.aC a0 q k=s.aC ag q k∨s2.aC a0 q k=none:=by
  intro q k aD
  cases U:s2.J q k with
  | none=>right;simp [S.aC,U]
  | some o =>
   left
   rcases aF q k o U with ⟨rfl,e2,-⟩|⟨-,e2,br,-⟩
   ·simp [S.ay,ak] at aD;omega
   ·rw [fx U,fx e2,br]
 have l5 : ∀b,s2.iV a0 b→s.iV ag b:=by
  rintro b ⟨q,k,o,m,h1,h2,af⟩
  rcases aF q k o h1 with ⟨-,-,p,e1,e2,br⟩|⟨-,e1,e2,-⟩
  ·rw [br] at af;subst e2;exact ⟨cV,_,p,m,e1,h2,af⟩
  ·rw [e2] at af;exact ⟨q,k,o,m,e1,h2,af⟩
 have cq:Step g s ag w s2 a0 w:=⟨gu,ix,fun b aA=> .inl (l5 b aA),fun _ _ _=>rfl,Nat.le_refl _⟩
 have vc : ∀x v,Rel w (s.ok g ag w) s.ay (s.aC ag) x v→Rel w (s2.ok g a0 w) s2.ay (s2.aC a0) (hL cV r l.length x) v:=by
  intro x v mh
  induction mh with
  | dead v=>exact .dead v
  | b x=>exact .b x
  | n k x=>exact .n k x
  | s x=>exact .s x
  | fX=>exact .fX
  | cv=>exact .cv
  | gb a c=>exact .gb a c
  | @l2 r1 k i off a hu dT =>
   unfold hL
   split
   ·rename_i e;subst e
    exact .l2 a (uR k hu) (by rw [uS];exact dT)
   ·exact cq.rel (.l2 a hu dT)
  | @ref r1 k i off sz cH m hu dT =>
   unfold hL
   split
   ·rename_i e;subst e
    exact .ref (uR k hu) (by rw [uS];exact dT)
   ·exact cq.rel (.ref hu dT)
  | @jX r1 k bS len a bn c4 hu dT =>
   unfold hL
   split
   ·rename_i e;subst e
    exact .jX a bn c4 (uR k hu) (by rw [uS];exact dT)
   ·exact cq.rel (.jX a bn c4 hu dT)
  | @km r1 k sz hu dT =>
   unfold hL
   split
   ·rename_i e;subst e
    exact .km (uR k hu) (by rw [uS];exact dT)
   ·exact cq.rel (.km hu dT)
  | @a1 r1 k bS len sz cH m c a hu dT aA aL jH =>
   unfold hL
   split
   ·rename_i e;subst e
    exact .a1 (uR k hu) (by rw [uS];exact dT) aA aL jH
   ·exact cq.rel (.a1 hu dT aA aL jH)
  | @jC r1 c sz v h0 ih =>
   unfold hL
   split
   ·exact .jC (cq.rel h0)
   ·exact cq.rel (.jC h0)
  | @kw r1 c sz k n v h0 ih =>
   unfold hL
   split
   ·rename_i e;subst e
    unfold hL at ih
    rw [if_pos rfl] at ih
    exact .kw (by rw [show k+(l.length+c)=l.length+(k+c) by omega];exact ih)
   ·exact cq.rel (.kw h0)
  | gp sz a c h=>exact .gp sz a c h
  | isl cs aE aa aA aL hw fz mh ih=>exact cq.rel (.isl cs aE aa aA aL hw fz mh)
  | df cs aE aa aA hw fz mh ih=>exact cq.rel (.df cs aE aa aA hw fz mh)
  | lH sz=>exact .lH sz
  | lq h0 ih=>exact cq.rel (.lq h0)
  | agg vs aA fz mh ih =>
   unfold hL
   rw [w6]
   refine .agg vs (by simpa using aA) fz fun j x v I aS=> ?_
   rw [List.getElem?_map,Option.map_eq_some_iff] at I
   obtain ⟨y,aI,rfl⟩:=I
   exact ih j y v aI aS
  | dm vs aA mh ih =>
   unfold hL
   rw [w6]
   refine .dm vs (by simpa using aA) fun j x v I aS=> ?_
   rw [List.getElem?_map,Option.map_eq_some_iff] at I
   obtain ⟨y,aI,rfl⟩:=I
   exact ih j y v aI aS
  | fn vs aA mh ih=>exact cq.rel (.fn vs aA mh)
 refine ⟨a0,{tofy:=⟨?_,?_,?_,h.fr,h.mlt,h.j2,?_,h.low⟩,env:=fun t=>by rw [show s2.E=s.E by rw [← vb];rfl];exact cq.rel (h.env t),defers:=h.defers,gJ:=h.gJ},vc⟩
 ·intro q k o U
  rcases aF q k o U with ⟨-,-,p,e1,e2,br⟩|⟨-,e1,e2,-⟩
  ·rw [br]
   subst e2
   have aa:=h.obj cV _ p e1
   cases hs:ag cV (k-l.length) with
   | none=>rw [hs] at aa;simp only [f9] at aa ⊢;simp [jh,aa]
   | some oI =>
    obtain ⟨b,m⟩:=oI
    rw [hs] at aa
    obtain ⟨c,cU,f1,f2,f3,f4⟩:=aa
    refine ⟨c,cU,f1,f2,?_,fun j x I=> ?_⟩
    ·intro e he
     simp only [jh,List.mem_map] at he
     obtain ⟨cW,iZ,rfl⟩:=he
     simpa [jh] using f3 cW iZ
    ·simp only [jh] at I
     rw [map_flatten,List.getElem?_map,Option.map_eq_some_iff] at I
     obtain ⟨y,aI,rfl⟩:=I
     obtain ⟨u,jz,mq,hx⟩:=f4 j y aI
     exact ⟨u,jz,mq,vc y u hx⟩
  ·rw [e2]
   exact cq.obj (fun b m _=>rfl) (h.obj q k o e1)
 ·intro q k o q1 hO bt b m bs h1 h2 af ax
  rcases aF q k o h1 with ⟨rfl,f1,p,e1,e2,br⟩|⟨f1,e1,e2,f2⟩<;>rcases aF q1 hO bt h2 with ⟨rfl,sx,h3,jI,lL,u7⟩|⟨sx,jI,lL,Q8⟩
  ·rw [br] at af;rw [u7] at ax
   obtain ⟨-,e⟩:=h.inj _ _ _ _ _ _ b m bs e1 jI af ax
   exact ⟨rfl,by omega⟩
  ·rw [br] at af;rw [lL] at ax
   obtain ⟨e,-⟩:=h.inj _ _ _ _ _ _ b m bs e1 jI af ax
   exact absurd e.symm sx
  ·rw [e2] at af;rw [u7] at ax
   obtain ⟨e,-⟩:=h.inj _ _ _ _ _ _ b m bs e1 jI af ax
   exact absurd e f1
  ·rw [e2] at af;rw [lL] at ax
   exact h.inj _ _ _ _ _ _ b m bs e1 jI af ax
 ·intro q k o b m h1 h2
  rcases aF q k o h1 with ⟨-,-,p,e1,e2,br⟩|⟨-,e1,e2,-⟩
  ·rw [br] at h2;exact h.own cV _ p b m e1 h2
  ·rw [e2] at h2;exact h.own q k o b m e1 h2
 ·exact cq.stay h.stay
end
end Go.VL
namespace Go.VL
set_option linter.unusedVariables false
set_option linter.unusedSimpArgs false
open Go
def aj.gl:aj→Bool
 | .dead | .b _ | .n .. | .s _ | .fX | .cv | .gb | .isl .. | .df .. | .g6 .. => true
 | _=>false
def aj.uk:aj→Bool
 | .agg c=>c.all aj.gl
 | .fn _ c=>c.all aj.gl
 | x=>x.gl
def aj.Fs:aj→Bool
 | .dm c=>c.all aj.uk
 | x=>x.uk
section
variable {w:World} {ok:Nat→Prop} {ay:gh} {aC:fZ}
theorem Rel.sc {x:aj}{v:Value}(h:Rel w ok ay aC x v)(a6:x.gl=true):Pure x:=by
 cases h with
 | dead=>exact .dead
 | b=>exact .b _
 | n=>exact .n _ _
 | s=>exact .s _
 | fX=>exact .fX
 | cv=>exact .cv
 | gb=>exact .gb
 | gp=>exact .isl (by simp)
 | isl cs aE aa=>exact .isl aa
 | df cs aE aa=>exact .df aa
 | lH sz=>exact .lH sz
 | lq h=>cases h with|df cs aE aa=>exact .lq fun x I=>aa _ (List.mem_singleton.2 rfl) x I
 | _=>simp [aj.gl] at a6
theorem DP {c:List aj}{vs:List Value}(aA:vs.length=c.length)(ak:∀(j:Nat) x u,c[j]? = some x→vs[j]? = some u→Rel w ok ay aC x u)
 (a6:c.all aj.gl=true) : ∀x∈c,Pure x:=by
 intro x I
 obtain ⟨j,aq⟩:=List.getElem?_of_mem I
 have cE:j<vs.length:=by have:=ej aq;omega
 exact (ak j x _ aq (List.getElem?_eq_getElem cE)).sc (List.all_eq_true.1 a6 x I)
theorem Rel.xc {x:aj}{v:Value}(h:Rel w ok ay aC x v)(a6:x.uk=true):Pure x:=by
 cases h with
 | agg vs aA aL ak=>exact .agg (DP aA ak a6)
 | fn vs aA ak=>exact .fn (DP aA ak a6)
 | dead=>exact .dead
 | b=>exact .b _
 | n=>exact .n _ _
 | s=>exact .s _
 | fX=>exact .fX
 | cv=>exact .cv
 | gb=>exact .gb
 | gp=>exact .isl (by simp)
 | isl cs aE aa=>exact .isl aa
 | df cs aE aa=>exact .df aa
 | lH sz=>exact .lH sz
 | lq h=>cases h with|df cs aE aa=>exact .lq fun x I=>aa _ (List.mem_singleton.2 rfl) x I
 | _=>simp [aj.uk,aj.gl] at a6
theorem Rel.Nh {x:aj}{v:Value}(h:Rel w ok ay aC x v)(a6:x.Fs=true):Pure x:=by
 by_cases bP : ∃c,x = .dm c
 ·obtain ⟨c,rfl⟩:=bP
  obtain ⟨vs,rfl,aA,ak⟩:=h.rV
  refine .dm fun x I=> ?_
  obtain ⟨j,aq⟩:=List.getElem?_of_mem I
  have cE:j<vs.length:=by have:=ej aq;omega
  exact (ak j x _ aq (List.getElem?_eq_getElem cE)).xc (List.all_eq_true.1 a6 x I)
 ·refine h.xc ?_
  cases x<;>first|exact a6|exact absurd ⟨_,rfl⟩ bP
end
def fW:List Nat→Nat→Option Nat
 | [],_=>none
 | x::l,r=>if x=r then some 0 else (fW l r).map (· + 1)
theorem DQ : ∀ {l:List Nat} {r j:Nat},fW l r=some j→l[j]? = some r
 | x::l,r,j,h=>by
  unfold fW at h
  split at h
  ·simp at h;subst h;simp [*]
  ·rw [Option.map_eq_some_iff] at h
   obtain ⟨i,an,rfl⟩:=h
   simpa using DQ an
theorem DR : ∀ {l:List Nat} {r j:Nat},l.Nodup→l[j]? = some r→fW l r=some j
 | x::l,r,j,a6,h=>by
  rw [List.nodup_cons] at a6
  unfold fW
  cases j with
  | zero=>simp at h;simp [h]
  | succ j =>
   simp at h
   have:x≠r:=by rintro rfl;exact a6.1 (List.mem_of_getElem? h)
   rw [if_neg this,DR a6.2 h];rfl
def vd (dD:Nat)(hr:List ae)(bu:d8→Bool)(x bQ:aj):Prop :=
 (bQ=x∧x.gl=true)∨(∃c sz,x = .fR dD c sz none∧bQ = .isl sz [])∨ ∃k bS len o,(x = .a1 dD k bS len∨ ∃c sz gU,k=gU+c∧bS=0∧x = .fR dD c sz (some (gU,len)))∧ck (some hr) k=some o∧bu o.bD=true∧bS+len≤o.es.length ∧
   gO ((o.es.drop bS).take len)∧bQ = .isl o.sz ((o.es.drop bS).take len)
def vx (dD:Nat)(hr:List ae)(bu:d8→Bool)(sz:Nat)(es ef:List (List aj)):Prop :=
 ef.length=es.length∧(∀e∈ef,e.length=sz)∧ ∀(j:Nat) x bQ,es.flatten[j]? = some x→ef.flatten[j]? = some bQ→vd dD hr bu x bQ
def iI (az:Nat→Option (List ae))(bw:Nat→Option Nat)(ar:ey)(bu:d8→Bool):oF→aj→Option (aj×List Prop)
 | .id,x=>if x.gl then some (x,[]) else
  match x with
  | .ref r k i off=>match bw r with
   | some j=>some (.ref j k i off,[])
   | none=>none
  | .a1 r k bS len=>match bw r with
   | some j=>some (.a1 j k bS len,[])
   | none=>none
  | .fR r c sz h=>match bw r with
   | some j=>some (.fR j c sz h,[])
   | none=>none
  | _=>none
 | .k7 sz,.cv=>some (.isl sz [],[])
 | .k7 sz,.gb=>some (.isl sz [],[])
 | .dC ef,.a1 r k bS len=>match ck (az r) k with
  | some o=>if bu o.bD && (bw r).isNone then some (.isl o.sz ef,[ef=(o.es.drop bS).take len,bS+len≤o.es.length,gO ef]) else none
  | none=>none
 | .gx,_=>some (.dead,[])
 | .di y,x=>if x.gl then some (y,[x=y]) else none
 | .len n,.a1 r k bS len=>match bw r with
  | some j=>some (.a1 j k bS n,[len=n])
  | none=>none
 | .Cc sz,x=>match x with
  | .fX=>some (.g6 sz none,[])
  | .df xA [c] 0 0=>if xA=sz then some (.g6 sz (some c),[]) else none
  | _=>none
 | .at_ j i n,.a1 r k bS len=>some (.a1 j i bS n,[ar j i=some (r,k),len=n])
 | .at_ j i _,.ref r k x y=>some (.ref j i x y,[ar j i=some (r,k)])
 | .view dD o ef,.a1 r k bS len=>match az r,az dD with
  | some row,some hr=>if (bw r).isNone && (bw dD).isNone then
   some (.isl o.sz ef,[ck (some row) k=some o,bu o.bD=true,bS+len≤o.es.length,gO ef,vx dD hr bu o.sz ((o.es.drop bS).take len) ef]) else none
  | _,_=>none
 | _,_=>none
def iJ {α β:Type}(f:α→β→Option (β×List Prop)):List α→List β→Option (List β×List Prop)
 | [],[]=>some ([],[])
 | a::l,b::m=>match f a b,iJ f l m with
  | some (fB,bt),some (bs,aY)=>some (fB::bs,bt++aY)
  | _,_=>none
 | _,_=>none
def kV (az:Nat→Option (List ae))(bw:Nat→Option Nat)(ar:ey)(bu:d8→Bool):sM→aj→Option (aj×List Prop)
 | .dE c,x=>if x.uk then (match c with | .id=>some (x,[]) | .gx=>some (.dead,[]) | .di y=>some (y,[x=y])|c=>iI az bw ar bu c x) else iI az bw ar bu c x
 | .agg l,.agg c=>match iJ (iI az bw ar bu) l c with
  | some (cw,J)=>some (.agg cw,J)
  | none=>none
 | .ptr l,.ref r k i off=>match ck (az r) k with
  | some o=>match o.es with
   | [c]=>if bu o.bD && (bw r).isNone then
    match iJ (iI az bw ar bu) l c with
    | some (cw,J)=>some (.df o.sz [cw] i off,J++[gO [cw]])
    | none=>none
    else none
   | _=>none
  | none=>none
 | .Be l,x=>match x with
  | .ref r k 0 0=>match ck (az r) k with
   | some o=>match o.es with
    | [c]=>if bu o.bD && (bw r).isNone then
     match iJ (iI az bw ar bu) l c with
     | some (cw,J)=>some (.g6 o.sz (some cw),J++[gO [cw]])
     | none=>none
     else none
    | _=>none
   | none=>none
  | _=>none
 | _,_=>none
def kr (az:Nat→Option (List ae))(bw:Nat→Option Nat)(ar:ey)(bu:d8→Bool):iA→aj→Option (aj×List Prop)
 | .bn c,x=>if x.Fs then (match c with | .dE .id=>some (x,[])|c=>kV az bw ar bu c x) else kV az bw ar bu c x
 | .comp l,.dm c=>match iJ (kV az bw ar bu) l c with
  | some (cw,J)=>some (.dm cw,J)
  | none=>none
 | .comp l,.fn f c=>match iJ (kV az bw ar bu) l c with
  | some (cw,J)=>some (.fn f cw,J)
  | none=>none
 | _,_=>none
def oS (row:List ae):Prop:= ∀o∈row,gO o.es∧o.bD = .live
def iK (row:List ae):Prop:= ∀o∈row,o.bD = .live∨o.bD = .gone
def kD (bw:Nat→Option Nat):aj→aj
 | .ref r k i off=>match bw r with|some j=> .ref j k i off|none=> .dead
 | .a1 r k bS len=>match bw r with|some j=> .a1 j k bS len|none=> .dead
 | .fR r c sz h=>match bw r with|some j=> .fR j c sz h|none=> .dead
 | x=>if x.gl then x else .dead
def iO (bw:Nat→Option Nat)(o:ae):ae:={o with es:=o.es.map fun e=>e.map (kD bw)}
def ga (az:Nat→Option (List ae))(bw:Nat→Option Nat)(ar:ey)(bu:d8→Bool):fM→List ae→Option (List ae×List Prop)
 | .pure,row=>some (row,[oS row])
 | .di cL,row=>some (cL,[row=cL,oS cL])
 | .fT cL,row=>some (cL,[cL=row.map (iO bw),iK row])
 | .box l,[o]=>match o.es with
  | [c]=>if o.bD = .live then match iJ (iI az bw ar bu) l c with
   | some (cw,J)=>some ([{o with es:=[cw]}],J)
   | none=>none
   else none
  | _=>none
 | _,_=>none
structure oJ (q:aj→Prop) (bu:d8→Bool):Prop extends Down q where
 all : ∀k,bu k=true→ ∀x,q x
theorem pa (bu:d8→Bool):oJ i5 bu:={toDown:=Nc,all:=fun _ _ _=>trivial}
theorem Ol:oJ aZ (fun _=>false):={toDown:=Nf,all:=fun _ h=>by simp at h}
structure jA (s:S) (ar:ey) (bw:Nat→Option Nat) (bu:d8→Bool):Prop where
 an : ∀r j,bw r=some j→ ∀k,ar j k=some (r,k)
 a6 : ∀r,bw r=none→ ∀k o,s.J r k=some o→bu o.bD=true→ ∀j i,ar j i≠some (r,k)
section
variable {g:G} {s:S} {ag:dw} {w:World} {ar:ey} {bw:Nat→Option Nat} {bu:d8→Bool} {q:aj→Prop}
theorem wM {α β:Type}(f:α→β→Option (β×List Prop)): ∀(l:List α) (m bs:List β) (J:List Prop),iJ f l m=some (bs,J) →
 bs.length=m.length∧l.length=m.length∧ ∀(j:Nat) b fB,m[j]? = some b→bs[j]? = some fB→ ∃x bm,l[j]? = some x∧f x b=some (fB,bm)∧ ∀p∈bm,p∈J
 | [],[],bs,J,h=>by
  simp [iJ] at h;obtain ⟨rfl,rfl⟩:=h
  exact ⟨rfl,rfl,fun j b fB aE=>by simp at aE⟩
 | [],_::_,_,_,h=>by simp [iJ] at h
 | _::_,[],_,_,h=>by simp [iJ] at h
 | x::l,b::m,bs,J,h=>by
  simp only [iJ] at h
  split at h
  ·rename_i fB bt fh aY h1 h2
   simp only [Option.some.injEq,Prod.mk.injEq] at h
   obtain ⟨rfl,rfl⟩:=h
   obtain ⟨e1,e2,br⟩:=wM f l m fh aY h2
   refine ⟨by simp [e1],by simp [e2],fun j c cw aL qc=> ?_⟩
   cases j with
   | zero =>
    simp at aL qc;subst aL;subst qc
    exact ⟨x,bt,rfl,h1,fun p aa=>by simp [aa]⟩
   | succ j =>
    simp at aL qc
    obtain ⟨y,bm,f1,f2,f3⟩:=br j c cw aL qc
    exact ⟨y,bm,by simpa using f1,f2,fun p aa=>by simp [f3 p aa]⟩
  ·simp at h
theorem AJ (cG:fy g s ag w)(H:jA s ar bw bu)(bg:oJ q bu){c:oF}{x bQ:aj}{J:List Prop}(h:iI s.az bw ar bu c x=some (bQ,J))(aF:∀p∈J,p)
 (aD:q x) {v:Value} (ak:Rel w (s.ok g ag w) s.ay (s.aC ag) x v):fe s ar bu q x bQ:=by
 have gu : ∀ {r k bS len:Nat},x = .a1 r k bS len→s.ay r k:=by
  intro r k bS len e;subst e;cases ak<;>assumption
 cases c with
 | id =>
  simp only [iI] at h
  split at h
  ·rename_i a6
   simp only [Option.some.injEq,Prod.mk.injEq] at h
   obtain ⟨rfl,rfl⟩:=h
   exact .pure (ak.sc a6) aD
  ·split at h
   ·rename_i r k i off _
    split at h
    ·rename_i j aq
     simp only [Option.some.injEq,Prod.mk.injEq] at h
     obtain ⟨rfl,rfl⟩:=h
     exact .ref i off (H.an r j aq k) (by cases ak<;>assumption)
    ·simp at h
   ·rename_i r k bS len _
    split at h
    ·rename_i j aq
     simp only [Option.some.injEq,Prod.mk.injEq] at h
     obtain ⟨rfl,rfl⟩:=h
     exact .a1 bS len (H.an r j aq k) (gu rfl)
    ·simp at h
   ·rename_i r c sz dT _
    split at h
    ·rename_i j aq
     simp only [Option.some.injEq,Prod.mk.injEq] at h
     obtain ⟨rfl,rfl⟩:=h
     exact .fR dT (fun k=>H.an r j aq _)
    ·simp at h
   ·simp at h
 | k7 sz =>
  cases x<;>simp [iI] at h
  ·obtain ⟨rfl,rfl⟩:=h
   exact .cv sz
  ·obtain ⟨rfl,rfl⟩:=h
   exact .gb sz
 | dC ef =>
  cases x<;>simp only [iI,reduceCtorEq] at h
  rename_i r k bS len
  split at h
  ·rename_i o U
   split at h
   ·rename_i aL
    simp only [Bool.and_eq_true,Option.isNone_iff_eq_none] at aL
    simp only [Option.some.injEq,Prod.mk.injEq] at h
    obtain ⟨rfl,rfl⟩:=h
    have h1:ef=(o.es.drop bS).take len:=aF _ (by simp)
    have h2:bS+len≤o.es.length:=aF _ (by simp)
    have af:gO ef:=aF _ (by simp)
    have cC:s.J r k=some o:=U
    have hlen : ∀e∈o.es,e.length=o.sz:=by
     have dK:=cG.obj r k o cC
     cases aa:ag r k with
     | none=>rw [aa] at dK;simp only [f9] at dK;rw [dK];simp
     | some q=>rw [aa] at dK;obtain ⟨_,_,_,_,e,_⟩:=dK;exact e
    refine .isl cC aL.1 (H.a6 r aL.2 k o cC aL.1) h2 af ?_ ?_ ?_
    ·rw [h1];exact fun e he=>hlen e (List.mem_of_mem_drop (List.mem_of_mem_take he))
    ·rw [h1];simp;omega
    ·intro j y ke aI mi
     rw [h1] at mi
     rw [aI] at mi;simp at mi;subst mi
     rw [h1] at af
     obtain ⟨e,he,ve⟩:=n5 aI
     exact .pure (af e he y ve) (bg.all _ aL.1 y)
   ·simp at h
  ·simp at h
 | gx =>
  simp only [iI,Option.some.injEq,Prod.mk.injEq] at h
  obtain ⟨rfl,rfl⟩:=h
  exact .dead x
 | di y =>
  simp only [iI] at h
  split at h
  ·rename_i a6
   simp only [Option.some.injEq,Prod.mk.injEq] at h
   obtain ⟨rfl,rfl⟩:=h
   have e:x=y:=aF _ (by simp)
   subst e
   exact .pure (ak.sc a6) aD
  ·simp at h
 | len n =>
  cases x<;>simp only [iI,reduceCtorEq] at h
  rename_i r k bS len
  split at h
  ·rename_i j aq
   simp only [Option.some.injEq,Prod.mk.injEq] at h
   obtain ⟨rfl,rfl⟩:=h
   have e:len=n:=aF _ (by simp)
   subst e
   exact .a1 bS len (H.an r j aq k) (gu rfl)
  ·simp at h
 | at_ j i n =>
  cases x<;>simp only [iI,reduceCtorEq] at h
  ·rename_i r k x y
   simp only [Option.some.injEq,Prod.mk.injEq] at h
   obtain ⟨rfl,rfl⟩:=h
   exact .ref x y (aF _ (List.mem_cons_self)) (by cases ak<;>assumption)
  ·rename_i r k bS len
   simp only [Option.some.injEq,Prod.mk.injEq] at h
   obtain ⟨rfl,rfl⟩:=h
   have e:len=n:=aF _ (by simp)
   subst e
   exact .a1 bS len (aF _ (List.mem_cons_self)) (gu rfl)
 | view dD o ef =>
  cases x<;>simp only [iI,reduceCtorEq] at h
  rename_i r k bS len
  split at h
  ·rename_i row hr ct Ni
   split at h
   ·rename_i aL
    simp only [Bool.and_eq_true,Option.isNone_iff_eq_none] at aL
    simp only [Option.some.injEq,Prod.mk.injEq] at h
    obtain ⟨rfl,rfl⟩:=h
    have h1:ck (some row) k=some o:=aF _ (by simp)
    have h2:bu o.bD=true:=aF _ (by simp)
    have af:bS+len≤o.es.length:=aF _ (by simp)
    have ax:gO ef:=aF _ (by simp)
    have a8:vx dD hr bu o.sz ((o.es.drop bS).take len) ef:=aF _ (by simp)
    have cC:s.J r k=some o:=by unfold S.J;rw [ct];exact h1
    obtain ⟨d1,d2,d3⟩:=a8
    refine .isl cC h2 (H.a6 r aL.1 k o cC h2) af ax d2 (by rw [d1];simp;omega) fun j y ke aI mi=> ?_
    rcases d3 j y ke aI mi with ⟨rfl,a6⟩|⟨c4,F6,rfl,rfl⟩|⟨g8,xF,xk,p,Om,e1,e2,br,cS,rfl⟩
    ·obtain ⟨e,he,ve⟩:=n5 mi
     exact .pure (ax e he ke ve) (bg.all _ h2 _)
    ·exact .jC _ _ _
    ·have i4:s.J dD g8=some p:=by unfold S.J;rw [Ni];exact e1
     have hlen : ∀e∈p.es,e.length=p.sz:=by
      have dK:=cG.obj dD g8 p i4
      cases aa:ag dD g8 with
      | none=>rw [aa] at dK;simp only [f9] at dK;rw [dK];simp
      | some q=>rw [aa] at dK;obtain ⟨_,_,_,_,e,_⟩:=dK;exact e
     have Ft:fe s ar bu q (.a1 dD g8 xF xk) (.isl p.sz ((p.es.drop xF).take xk)):=by
      refine .isl i4 e2 (H.a6 dD aL.2 g8 p i4 e2) br cS (fun e he=>hlen e (List.mem_of_mem_drop (List.mem_of_mem_take he))) (by simp;omega) fun j z Rx cn BH=> ?_
      rw [cn] at BH;simp at BH;subst BH
      obtain ⟨e,he,On⟩:=n5 cn
      exact .pure (cS e he z On) (bg.all _ e2 _)
     rcases Om with rfl|⟨dE,Q9,gU,rfl,rfl,rfl⟩
     ·exact Ft
     ·exact .kw Ft
   ·simp at h
  ·simp at h
 | Cc sz =>
  simp only [iI] at h
  split at h
  ·simp only [Option.some.injEq,Prod.mk.injEq] at h
   obtain ⟨rfl,rfl⟩:=h
   exact .xb _
  ·split at h
   ·rename_i e;subst e
    simp only [Option.some.injEq,Prod.mk.injEq] at h
    obtain ⟨rfl,rfl⟩:=h
    exact .g6 (.pure (ak.sc rfl) aD)
   ·simp at h
  ·simp at h
theorem tV (cG:fy g s ag w)(H:jA s ar bw bu)(bg:oJ q bu){l:List oF}{c cw:List aj}{J:List Prop}(h:iJ (iI s.az bw ar bu) l c=some (cw,J))(aF:∀p∈J,p)
 (aD : ∀x∈c,q x) {vs:List Value} (aA:vs.length=c.length) (ak : ∀(j:Nat) x u,c[j]? = some x→vs[j]? = some u→Rel w (s.ok g ag w) s.ay (s.aC ag) x u) :
 cw.length=c.length∧ ∀(j:Nat) x bQ,c[j]? = some x→cw[j]? = some bQ→fe s ar bu q x bQ:=by
 obtain ⟨e1,e2,br⟩:=wM _ l c cw J h
 refine ⟨e1,fun j x bQ I cx=> ?_⟩
 obtain ⟨y,bm,f1,f2,f3⟩:=br j x bQ I cx
 have cE:j<vs.length:=by have:=ej I;omega
 exact AJ cG H bg f2 (fun p aa=>aF p (f3 p aa)) (aD x (List.mem_of_getElem? I)) (ak j x _ I (List.getElem?_eq_getElem cE))
theorem AK (cG:fy g s ag w)(H:jA s ar bw bu)(bg:oJ q bu){c:sM}{x bQ:aj}{J:List Prop}(h:kV s.az bw ar bu c x=some (bQ,J))(aF:∀p∈J,p)
 (aD:q x) {v:Value} (ak:Rel w (s.ok g ag w) s.ay (s.aC ag) x v):fe s ar bu q x bQ:=by
 cases c with
 | dE c =>
  simp only [kV] at h
  split at h
  ·rename_i a6
   split at h
   ·simp only [Option.some.injEq,Prod.mk.injEq] at h
    obtain ⟨rfl,rfl⟩:=h
    exact .pure (ak.xc a6) aD
   ·simp only [Option.some.injEq,Prod.mk.injEq] at h
    obtain ⟨rfl,rfl⟩:=h
    exact .dead _
   ·simp only [Option.some.injEq,Prod.mk.injEq] at h
    obtain ⟨rfl,rfl⟩:=h
    have e:=aF _ (List.mem_singleton.2 rfl)
    subst e
    exact .pure (ak.xc a6) aD
   ·exact AJ cG H bg h aF aD ak
  ·exact AJ cG H bg h aF aD ak
 | agg l =>
  cases x<;>simp only [kV,reduceCtorEq] at h
  rename_i c
  split at h
  ·rename_i cw j6 aL
   simp only [Option.some.injEq,Prod.mk.injEq] at h
   obtain ⟨rfl,rfl⟩:=h
   obtain ⟨vs,rfl,aA,-,vf⟩:=ak.rU
   obtain ⟨e1,e2⟩:=tV cG H bg aL aF (fun y aI=>bg.agg _ _ aD aI) aA vf
   exact .agg e1 e2
  ·simp at h
 | ptr l =>
  cases x<;>simp only [kV,reduceCtorEq] at h
  rename_i r k i off
  split at h
  ·rename_i o U
   split at h
   ·rename_i c e4
    split at h
    ·rename_i aL
     simp only [Bool.and_eq_true,Option.isNone_iff_eq_none] at aL
     split at h
     ·rename_i cw j6 fz
      simp only [Option.some.injEq,Prod.mk.injEq] at h
      obtain ⟨rfl,rfl⟩:=h
      have cC:s.J r k=some o:=U
      have dK:=cG.obj r k o cC
      cases aa:ag r k with
      | none=>rw [aa] at dK;simp only [f9] at dK;rw [e4] at dK;simp at dK
      | some q =>
       obtain ⟨b,m⟩:=q
       rw [aa] at dK
       obtain ⟨bB,cU,g1,g2,g3,g4⟩:=dK
       have Bk:c.length=o.sz:=g3 c (by rw [e4];simp)
       have hh:o.es.flatten=c:=by rw [e4];simp
       have hcs : ∀j:Nat,j<c.length→ ∃u,bB[j]? = some u∧Rel w (s.ok g ag w) s.ay (s.aC ag) c[j]! u:=by
        intro j aq
        obtain ⟨u,jz,-,hx⟩:=g4 j c[j] (by rw [hh];exact List.getElem?_eq_getElem aq)
        exact ⟨u,jz,by rw [getElem!_pos c j aq];exact hx⟩
       obtain ⟨e1,e2⟩:=tV (vs:=(List.range c.length).map fun j=>(bB[j]?).getD undef) cG H bg fz (fun p aa=>aF p (by simp [aa])) (fun y _=>bg.all _ aL.1 y) (by simp) (by
        intro j y u aI hu
        have aq:=ej aI
        rw [List.getElem?_map,List.getElem?_range aq] at hu
        simp only [Option.map_some,Option.some.injEq] at hu
        obtain ⟨Ci,jz,hx⟩:=hcs j aq
        rw [jz] at hu;simp at hu;subst hu
        rw [List.getElem?_eq_getElem aq] at aI;simp at aI;subst aI
        rw [getElem!_pos c j aq] at hx;exact hx)
       have oj:gO [cw]:=aF _ (by simp)
       refine .df i off cC aL.1 (H.a6 r aL.2 k o cC aL.1) (by rw [e4];simp) oj (by simp;omega) (by rw [e4];rfl) ?_
       ·intro j y ke aI mi
        rw [hh] at aI
        simp only [List.flatten_cons,List.flatten_nil,List.append_nil] at mi
        exact e2 j y ke aI mi
     ·simp at h
    ·simp at h
   ·simp at h
  ·simp at h
 | Be l =>
  simp only [kV] at h
  split at h
  ·rename_i r k
   split at h
   ·rename_i o U
    split at h
    ·rename_i c e4
     split at h
     ·rename_i aL
      simp only [Bool.and_eq_true,Option.isNone_iff_eq_none] at aL
      split at h
      ·rename_i cw j6 fz
       simp only [Option.some.injEq,Prod.mk.injEq] at h
       obtain ⟨rfl,rfl⟩:=h
       have cC:s.J r k=some o:=U
       have dK:=cG.obj r k o cC
       cases aa:ag r k with
       | none=>rw [aa] at dK;simp only [f9] at dK;rw [e4] at dK;simp at dK
       | some q =>
        obtain ⟨b,m⟩:=q
        rw [aa] at dK
        obtain ⟨bB,cU,g1,g2,g3,g4⟩:=dK
        have Bk:c.length=o.sz:=g3 c (by rw [e4];simp)
        have hh:o.es.flatten=c:=by rw [e4];simp
        have hcs : ∀j:Nat,j<c.length→ ∃u,bB[j]? = some u∧Rel w (s.ok g ag w) s.ay (s.aC ag) c[j]! u:=by
         intro j aq
         obtain ⟨u,jz,-,hx⟩:=g4 j c[j] (by rw [hh];exact List.getElem?_eq_getElem aq)
         exact ⟨u,jz,by rw [getElem!_pos c j aq];exact hx⟩
        obtain ⟨e1,e2⟩:=tV (vs:=(List.range c.length).map fun j=>(bB[j]?).getD undef) cG H bg fz (fun p aa=>aF p (by simp [aa])) (fun y _=>bg.all _ aL.1 y) (by simp) (by
         intro j y u aI hu
         have aq:=ej aI
         rw [List.getElem?_map,List.getElem?_range aq] at hu
         simp only [Option.map_some,Option.some.injEq] at hu
         obtain ⟨Ci,jz,hx⟩:=hcs j aq
         rw [jz] at hu;simp at hu;subst hu
         rw [List.getElem?_eq_getElem aq] at aI;simp at aI;subst aI
         rw [getElem!_pos c j aq] at hx;exact hx)
        have oj:gO [cw]:=aF _ (by simp)
        refine .g6 (.df 0 0 cC aL.1 (H.a6 r aL.2 k o cC aL.1) (by rw [e4];simp) oj (by simp;omega) (by rw [e4];rfl) ?_)
        ·intro j y ke aI mi
         rw [hh] at aI
         simp only [List.flatten_cons,List.flatten_nil,List.append_nil] at mi
         exact e2 j y ke aI mi
      ·simp at h
     ·simp at h
    ·simp at h
   ·simp at h
  ·simp at h
theorem t0 (cG:fy g s ag w)(H:jA s ar bw bu)(bg:oJ q bu){c:iA}{x bQ:aj}{J:List Prop}(h:kr s.az bw ar bu c x=some (bQ,J))(aF:∀p∈J,p)
 (aD:q x) {v:Value} (ak:Rel w (s.ok g ag w) s.ay (s.aC ag) x v):fe s ar bu q x bQ:=by
 have key : ∀(l:List sM) (c cw:List aj) (j6:List Prop) (vs:List Value),iJ (kV s.az bw ar bu) l c=some (cw,j6)→(∀p∈j6,p)→(∀x∈c,q x)→vs.length=c.length →
  (∀(j:Nat) x u,c[j]? = some x→vs[j]? = some u→Rel w (s.ok g ag w) s.ay (s.aC ag) x u)→cw.length=c.length∧ ∀(j:Nat) x bQ,c[j]? = some x→cw[j]? = some bQ→fe s ar bu q x bQ:=by
  intro l c cw j6 vs h aF aD aA ak
  obtain ⟨e1,e2,br⟩:=wM _ l c cw j6 h
  refine ⟨e1,fun j x bQ I cx=> ?_⟩
  obtain ⟨y,bm,f1,f2,f3⟩:=br j x bQ I cx
  have cE:j<vs.length:=by have:=ej I;omega
  exact AK cG H bg f2 (fun p aa=>aF p (f3 p aa)) (aD x (List.mem_of_getElem? I)) (ak j x _ I (List.getElem?_eq_getElem cE))
 cases c with
 | bn c =>
  simp only [kr] at h
  split at h
  ·rename_i a6
   split at h
   ·simp only [Option.some.injEq,Prod.mk.injEq] at h
    obtain ⟨rfl,rfl⟩:=h
    exact .pure (ak.Nh a6) aD
   ·exact AK cG H bg h aF aD ak
  ·exact AK cG H bg h aF aD ak
 | comp l =>
  cases x<;>simp only [kr,reduceCtorEq] at h
  ·rename_i c
   split at h
   ·rename_i cw j6 aL
    simp only [Option.some.injEq,Prod.mk.injEq] at h
    obtain ⟨rfl,rfl⟩:=h
    obtain ⟨vs,rfl,aA,vf⟩:=ak.rV
    obtain ⟨e1,e2⟩:=key l c cw j6 vs aL aF (fun y aI=>bg.dm _ _ aD aI) aA vf
    exact .dm e1 e2
   ·simp at h
  ·rename_i f c
   split at h
   ·rename_i cw j6 aL
    simp only [Option.some.injEq,Prod.mk.injEq] at h
    obtain ⟨rfl,rfl⟩:=h
    obtain ⟨vs,rfl,aA,vf⟩:=ak.w5
    obtain ⟨e1,e2⟩:=key l c cw j6 vs aL aF (fun y aI=>bg.fn _ _ _ aD aI) aA vf
    exact .fn e1 e2
   ·simp at h
theorem Fu (cG:fy g s ag w)(H:jA s ar bw bu){r:Nat}{ha:Nat→Nat}{row:List ae}(ct:∀k o,ck (some row) k=some o→s.J r (ha k)=some o)
 (aD : ∀k o,ck (some row) k=some o→ ∀e∈o.es,∀x∈e,q x) :
 ∀(k:Nat) bm,ck (some (row.map (iO bw))) k=some bm→ ∃o,ck (some row) k=some o∧k4 s ar bu q o bm:=by
 intro k bm cC
 rw [hq,List.getElem?_map] at cC
 cases aV:row[k]? with
 | none=>rw [aV] at cC;simp at cC
 | some o =>
  rw [aV] at cC
  simp only [Option.map_some,Option.bind_some] at cC
  split at cC
  ·simp at cC
  ·rename_i c8
   simp only [Option.some.injEq] at cC
   subst cC
   have U:ck (some row) k=some o:=by rw [hq,aV,Option.bind_some,if_neg (by simpa [iO] using c8)]
   have cf:s.J r (ha k)=some o:=ct k o U
   refine ⟨o,U,?_⟩
   have dK:=cG.obj r (ha k) o cf
   have hlen : ∀e∈o.es,e.length=o.sz:=by
    cases aa:ag r (ha k) with
    | none=>rw [aa] at dK;simp only [f9] at dK;rw [dK];simp
    | some q=>rw [aa] at dK;obtain ⟨_,_,_,_,e,_⟩:=dK;exact e
   refine ⟨rfl,.inl rfl,by simp [iO],?_,fun j x bQ I cx=> ?_⟩
   ·intro e he
    simp only [iO,List.mem_map] at he
    obtain ⟨cW,iZ,rfl⟩:=he
    simpa using hlen cW iZ
   ·simp only [iO] at cx
    rw [map_flatten,List.getElem?_map,I] at cx
    simp only [Option.map_some,Option.some.injEq] at cx
    subst cx
    obtain ⟨e,he,mK⟩:=n5 I
    have Oo:=aD k o U e he x mK
    cases aa:ag r (ha k) with
    | none=>rw [aa] at dK;simp only [f9] at dK;rw [dK] at I;simp at I
    | some oI =>
     obtain ⟨b,m⟩:=oI
     rw [aa] at dK
     obtain ⟨c,cU,f1,f2,f3,f4⟩:=dK
     obtain ⟨u,jz,mq,hx⟩:=f4 j x I
     cases x with
     | ref r2 g8 i2 NQ =>
      cases bP:bw r2 with
      | none=>simp only [kD,bP];exact .dead _
      | some lO=>simp only [kD,bP];exact .ref i2 NQ (H.an _ _ bP _) (by cases hx<;>assumption)
     | a1 r2 g8 xF xk =>
      cases bP:bw r2 with
      | none=>simp only [kD,bP];exact .dead _
      | some lO=>simp only [kD,bP];exact .a1 xF xk (H.an _ _ bP _) (by cases hx<;>assumption)
     | fR r2 c4 F6 h2 =>
      cases bP:bw r2 with
      | none=>simp only [kD,bP];exact .dead _
      | some lO=>simp only [kD,bP];exact .fR h2 (fun k=>H.an _ _ bP _)
     | _ =>
      simp only [kD]
      split
      ·rename_i a6;exact .pure (hx.sc a6) Oo
      ·exact .dead _
theorem wN (cG:fy g s ag w)(H:jA s ar bw bu)(bg:oJ q bu){c:fM}{r:Nat}{ha:Nat→Nat}{row cL:List ae}{J:List Prop}(ct:∀k o,ck (some row) k=some o→s.J r (ha k)=some o)
 (h:ga s.az bw ar bu c row=some (cL,J)) (aF : ∀p∈J,p) (aD : ∀k o,ck (some row) k=some o→ ∀e∈o.es,∀x∈e,q x) :
 cL.length=row.length∧(∀k o,ck (some row) k=some o→o.bD = .live) ∧
 ∀(k:Nat) bm,ck (some cL) k=some bm→ ∃o,ck (some row) k=some o∧k4 s ar bu q o bm:=by
 have hlen : ∀k o,ck (some row) k=some o→ ∀e∈o.es,e.length=o.sz:=by
  intro k o U
  have cC:s.J r (ha k)=some o:=ct k o U
  have dK:=cG.obj r (ha k) o cC
  cases aa:ag r (ha k) with
  | none=>rw [aa] at dK;simp only [f9] at dK;rw [dK];simp
  | some q=>rw [aa] at dK;obtain ⟨_,_,_,_,e,_⟩:=dK;exact e
 have oj:oS row→(∀k o,ck (some row) k=some o→o.bD = .live) ∧
  ∀(k:Nat) bm,ck (some row) k=some bm→ ∃o,ck (some row) k=some o∧k4 s ar bu q o bm:=by
  intro aa
  have nM : ∀k o,ck (some row) k=some o→o∈row:=by
   intro k o U
   unfold ck at U
   simp only at U
   split at U
   ·rename_i bm cC
    split at U
    ·simp at U
    ·simp at U;subst U;exact List.mem_of_getElem? cC
   ·simp at U
  refine ⟨fun k o U=>(aa o (nM k o U)).2,fun k o U=>⟨o,U,rfl,.inl rfl,rfl,hlen k o U,fun j x bQ I cx=> ?_⟩⟩
  rw [I] at cx;simp at cx;subst cx
  obtain ⟨e,he,mK⟩:=n5 I
  exact .pure ((aa o (nM k o U)).1 e he x mK) (aD k o U e he x mK)
 cases c with
 | pure =>
  simp only [ga,Option.some.injEq,Prod.mk.injEq] at h
  obtain ⟨rfl,rfl⟩:=h
  exact ⟨rfl,oj (aF _ (by simp))⟩
 | di bd =>
  simp only [ga,Option.some.injEq,Prod.mk.injEq] at h
  obtain ⟨rfl,rfl⟩:=h
  have e:row=bd:=aF _ (by simp)
  subst e
  exact ⟨rfl,oj (aF _ (by simp))⟩
 | fT bd =>
  simp only [ga,Option.some.injEq,Prod.mk.injEq] at h
  obtain ⟨rfl,rfl⟩:=h
  have e:bd=row.map (iO bw):=aF _ (by simp)
  have BI:iK row:=aF _ (by simp)
  subst e
  refine ⟨by simp,fun k o U=>by
   unfold ck at U
   simp only at U
   split at U
   ·rename_i bm cC
    split at U
    ·simp at U
    ·rename_i c8
     simp at U;subst U
     exact (BI _ (List.mem_of_getElem? cC)).resolve_right c8
   ·simp at U,Fu cG H ct aD⟩
 | rx bd=>cases row with
  | nil=>simp [ga] at h
  | cons o l=>cases l<;>simp [ga] at h
 | drop=>cases row with
  | nil=>simp [ga] at h
  | cons o l=>cases l<;>simp [ga] at h
 | box l =>
  match row,h with
  | [o],h =>
   simp only [ga] at h
   split at h
   ·rename_i c e4
    split at h
    ·rename_i kC
     split at h
     ·rename_i cw j6 aL
      simp only [Option.some.injEq,Prod.mk.injEq] at h
      obtain ⟨rfl,rfl⟩:=h
      have h0:ck (some [o]) 0=some o:=by rw [ja];simp [kC]
      refine ⟨rfl,fun k p aa=> ?_,fun k p aa=> ?_⟩
      ·rw [ja] at aa
       split at aa
       ·simp at aa;subst aa;exact kC
       ·simp at aa
      ·rw [ja] at aa
       split at aa
       ·rename_i sy
        obtain ⟨rfl,-⟩:=sy
        simp only [Option.some.injEq] at aa;subst aa
        refine ⟨o,h0,?_⟩
        have cC:s.J r (ha 0)=some o:=ct 0 o h0
        have dK:=cG.obj r (ha 0) o cC
        cases hs:ag r (ha 0) with
        | none=>rw [hs] at dK;simp only [f9] at dK;rw [e4] at dK;simp at dK
        | some q =>
         obtain ⟨b,m⟩:=q
         rw [hs] at dK
         obtain ⟨bB,cU,g1,g2,g3,g4⟩:=dK
         have Bk:c.length=o.sz:=g3 c (by rw [e4];simp)
         have hh:o.es.flatten=c:=by rw [e4];simp
         obtain ⟨e1,e2⟩:=tV (vs:=(List.range c.length).map fun j=>(bB[j]?).getD undef) cG H bg aL aF (fun y aI=>aD 0 o h0 c (by rw [e4];simp) y aI) (by simp) (by
          intro j y u aI hu
          have aq:=ej aI
          rw [List.getElem?_map,List.getElem?_range aq] at hu
          simp only [Option.map_some,Option.some.injEq] at hu
          obtain ⟨Ci,jz,-,hx⟩:=g4 j y (by rw [hh];exact aI)
          rw [jz] at hu;simp at hu;subst hu
          exact hx)
         refine ⟨rfl,.inl rfl,by simp [e4],by simp;omega,fun j x bQ I cx=> ?_⟩
         rw [hh] at I
         simp only [List.flatten_cons,List.flatten_nil,List.append_nil] at cx
         exact e2 j x bQ I cx
       ·simp at aa
     ·simp at h
    ·simp at h
   ·simp at h
  | [],h=>simp [ga] at h
  | _::_::_,h=>simp [ga] at h
end
end Go.VL
