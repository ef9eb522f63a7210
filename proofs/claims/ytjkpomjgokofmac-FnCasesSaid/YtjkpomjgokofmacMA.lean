/- Lemmas, plain functions of the program, and what they answer. No condition. -/
import Derived.Below
import Derived.Eval
import Derived.KernelRfl
import Derived.Laws.Append
import Derived.Laws.AppendOwn
import Derived.Laws.BytesString
import Derived.Laws.Cells
import Derived.Laws.CopyRow
import Derived.Laws.Entries
import Derived.Laws.MakeOwn
import Derived.Laws.OwnMore
import Derived.Laws.Rows
import Derived.Laws.Slices
import Derived.Laws.Tables
import Derived.Orders
namespace Go.VL
set_option linter.unusedVariables false
set_option linter.unusedSimpArgs false
open Go
inductive al where
 | dead
 | b (x:Bool)
 | n (k:IntKind) (x:Int)
 | s (x:ByteArray)
 | gv
 | dJ
 | gW
 | ref (r k i off:Nat)
 | bp (r k bw len:Nat)
 | gX (r c sz:Nat) (h:Option (Nat×Nat))
 | isl (sz:Nat) (es:List (List al))
 | dg (sz:Nat) (es:List (List al)) (i off:Nat)
 | ig (sz:Nat) (c:Option (List al))
 | agg (c:List al)
 | dx (vs:List al)
 | fn (f:Nat) (cap:List al)
 deriving Inhabited
inductive eU where
 | live|hR|gone
 deriving DecidableEq,Inhabited
structure ap where
 sz:Nat
 es:List (List al)
 bY:eU
 deriving Inhabited
structure S where
 E:Nat→al
 aE:Nat→Option (List ap)
abbrev iv (v:Value):Bool:=v.oneCell'
abbrev ef:=Nat→Nat→Option (Nat×Nat)
abbrev hi:=Nat→Nat→Option (Nat×Option (Nat×Nat))
abbrev hs:=Nat→Nat→Prop
inductive Pure:al→Prop
 | dead:Pure .dead
 | b (x:Bool):Pure (.b x)
 | n (k:IntKind) (x:Int):Pure (.n k x)
 | s (x:ByteArray):Pure (.s x)
 | gv:Pure .gv
 | dJ:Pure .dJ
 | gW:Pure .gW
 | isl {sz:Nat} {es:List (List al)} (h : ∀e∈es,∀x∈e,Pure x):Pure (.isl sz es)
 | dg {sz i off:Nat} {es:List (List al)} (h : ∀e∈es,∀x∈e,Pure x):Pure (.dg sz es i off)
 | m7 (sz:Nat):Pure (.ig sz none)
 | mH {sz:Nat} {c:List al} (h : ∀x∈c,Pure x):Pure (.ig sz (some c))
 | agg {c:List al} (h : ∀x∈c,Pure x):Pure (.agg c)
 | dx {c:List al} (h : ∀x∈c,Pure x):Pure (.dx c)
 | fn {f:Nat} {c:List al} (h : ∀x∈c,Pure x):Pure (.fn f c)
def gL (es:List (List al)):Prop:= ∀e∈es,∀x∈e,Pure x
inductive Rel (w:World) (ok:Nat→Prop) (aK:hs) (aQ:hi):al→Value→Prop
 | dead (v:Value):Rel w ok aK aQ .dead v
 | b (x:Bool):Rel w ok aK aQ (.b x) (.bool x)
 | n (k:IntKind) (x:Int):Rel w ok aK aQ (.n k x) (.int k x)
 | s (x:ByteArray):Rel w ok aK aQ (.s x) (.string x)
 | gv:Rel w ok aK aQ .gv (.pointer none)
 | dJ:Rel w ok aK aQ .dJ (.slice none 0 0)
 | gW (a:Addr) (c:Nat):Rel w ok aK aQ .gW (.slice (some a) 0 c)
 | nn {r k i off:Nat} (a:Option Addr) (hu:aK r k) (h : ∀sz p,aQ r k≠some (sz,some p)):Rel w ok aK aQ (.ref r k i off) (.pointer a)
 | ref {r k i off sz c8 m:Nat} (hu:aK r k) (h:aQ r k=some (sz,some (c8,m))):Rel w ok aK aQ (.ref r k i off) (.pointer (some ⟨c8,i*sz+off,none⟩))
 | la {r k bw len:Nat} (a:Option Addr) (l c:Nat) (hu:aK r k) (h:aQ r k=none):Rel w ok aK aQ (.bp r k bw len) (.slice a l c)
 | lA {r k sz:Nat} (hu:aK r k) (h:aQ r k=some (sz,none)):Rel w ok aK aQ (.bp r k 0 0) (.slice none 0 0)
 | bp {r k bw len sz c8 m c:Nat} {a:Option Addr} (hu:aK r k) (h:aQ r k=some (sz,some (c8,m))) (aG:len≤c) (aL:c<9223372036854775808)
  (hm:(bw+c)*sz=m∧(c=0∨a=some ⟨c8,bw*sz,none⟩)):Rel w ok aK aQ (.bp r k bw len) (.slice a len c)
 | kK {r c sz:Nat} {v:Value} (h:Rel w ok aK aQ (.isl sz []) v):Rel w ok aK aQ (.gX r c sz none) v
 | lG {r c sz k n:Nat} {v:Value} (h:Rel w ok aK aQ (.bp r (k+c) 0 n) v):Rel w ok aK aQ (.gX r c sz (some (k,n))) v
 | iy (sz:Nat) (a:Option Addr) (c:Nat) (h:a=none→c=0):Rel w ok aK aQ (.isl sz []) (.slice a 0 c)
 | isl {sz:Nat} {es:List (List al)} {c8 off c:Nat} (cs:Nat→Value) (aP:ok c8) (ae:gL es) (aG : ∀e∈es,e.length=sz) (aL:es.length≤c)
  (hw : ∀(j:Nat) x,es.flatten[j]? = some x→w.cell? ⟨c8,off+j,none⟩=some (cs j)) (ie : ∀(j:Nat) x,es.flatten[j]? = some x→iv (cs j)=true)
  (ah : ∀(j:Nat) x,es.flatten[j]? = some x→Rel w ok aK aQ x (cs j)):Rel w ok aK aQ (.isl sz es) (.slice (some ⟨c8,off,none⟩) es.length c)
 | dg {sz:Nat} {es:List (List al)} {c8 I i off:Nat} (cs:Nat→Value) (aP:ok c8) (ae:gL es) (aG : ∀e∈es,e.length=sz)
  (hw : ∀(j:Nat) x,es.flatten[j]? = some x→w.cell? ⟨c8,I+j,none⟩=some (cs j)) (ie : ∀(j:Nat) x,es.flatten[j]? = some x→iv (cs j)=true)
  (ah : ∀(j:Nat) x,es.flatten[j]? = some x→Rel w ok aK aQ x (cs j)):Rel w ok aK aQ (.dg sz es i off) (.pointer (some ⟨c8,I+(i*sz+off),none⟩))
 | m7 (sz:Nat):Rel w ok aK aQ (.ig sz none) (.pointer none)
 | mH {sz:Nat} {c:List al} {v:Value} (h:Rel w ok aK aQ (.dg sz [c] 0 0) v):Rel w ok aK aQ (.ig sz (some c)) v
 | agg {c:List al} (vs:List Value) (aG:vs.length=c.length) (ie : ∀(j:Nat) v,vs[j]? = some v→iv v=true)
  (ah : ∀(j:Nat) x v,c[j]? = some x→vs[j]? = some v→Rel w ok aK aQ x v):Rel w ok aK aQ (.agg c) (.agg vs.toArray)
 | dx {c:List al} (vs:List Value) (aG:vs.length=c.length)
  (ah : ∀(j:Nat) x v,c[j]? = some x→vs[j]? = some v→Rel w ok aK aQ x v):Rel w ok aK aQ (.dx c) (.tuple vs.toArray)
 | fn {f:Nat} {c:List al} (vs:List Value) (aG:vs.length=c.length)
  (ah : ∀(j:Nat) x v,c[j]? = some x→vs[j]? = some v→Rel w ok aK aQ x v):Rel w ok aK aQ (.fn f c) (.func (.func f) #[] vs.toArray)
theorem Rel.mono {w bm:World}{ok i4:Nat→Prop}{aK kO:hs}{aQ kf:hi}{a:al}{v:Value}(h:Rel w ok aK aQ a v)
 (lJ : ∀b,ok b→i4 b) (hw : ∀b,ok b→bm.heap[b]? = w.heap[b]?)
 (hC : ∀r k,aK r k→kO r k) (jw : ∀r k,aK r k→kf r k=aQ r k∨kf r k=none):Rel bm i4 kO kf a v:=by
 have ie : ∀b I,ok b→bm.cell? ⟨b,I,none⟩=w.cell? ⟨b,I,none⟩:=fun b I aP=>World.cell?_of_block (hw b aP)
 induction h with
 | dead v=>exact .dead v
 | b x=>exact .b x
 | n k x=>exact .n k x
 | s x=>exact .s x
 | gv=>exact .gv
 | dJ=>exact .dJ
 | gW a c=>exact .gW a c
 | @nn r k i off a hu h =>
  refine .nn a (hC r k hu) fun sz p=> ?_
  rcases jw r k hu with e|e<;>rw [e]
  ·exact h sz p
  ·simp
 | @ref r k i off sz c8 m hu h =>
  rcases jw r k hu with e|e
  ·exact .ref (hC r k hu) (e.trans h)
  ·exact .nn _ (hC r k hu) fun sz p=>by rw [e];simp
 | @la r k bw len a l c hu h=>exact .la a l c (hC r k hu) (by rcases jw r k hu with e|e<;>rw [e];exact h)
 | @lA r k sz hu h =>
  rcases jw r k hu with e|e
  ·exact .lA (hC r k hu) (e.trans h)
  ·exact .la _ _ _ (hC r k hu) e
 | @bp r k bw len sz c8 m c a hu h aG aL hm =>
  rcases jw r k hu with e|e
  ·exact .bp (hC r k hu) (e.trans h) aG aL hm
  ·exact .la _ _ _ (hC r k hu) e
 | kK h ih=>exact .kK ih
 | lG h ih=>exact .lG ih
 | iy sz a c h=>exact .iy sz a c h
 | isl cs aP ae aG aL wU hd ah ih=>exact .isl cs (lJ _ aP) ae aG aL (fun j x aa=>(ie _ _ aP).trans (wU j x aa)) hd ih
 | dg cs aP ae aG wU hd ah ih=>exact .dg cs (lJ _ aP) ae aG (fun j x aa=>(ie _ _ aP).trans (wU j x aa)) hd ih
 | m7 sz=>exact .m7 sz
 | mH h ih=>exact .mH ih
 | agg vs aG hd ah ih=>exact .agg vs aG hd ih
 | dx vs aG ah ih=>exact .dx vs aG ih
 | fn vs aG ah ih=>exact .fn vs aG ih
structure G where
 kA:World
 A:Nat→Prop
 ni:Nat→Prop
 N:Nat
 m:Nat
 mO:hs
 oJ:hi
def S.aK (s:S)(r k:Nat):Prop:=k<((s.aE r).getD []).length
def cz (row:Option (List ap))(k:Nat):Option ap :=
 match row with
 | some l=>match l[k]? with
  | some I=>if I.bY = .gone then none else some I
  | none=>none
 | none=>none
def S.ab (s:S)(r k:Nat):Option ap:=cz (s.aE r) k
def S.aQ (s:S)(aj:ef):hi:=fun r k=>(s.ab r k).map fun I=>(I.sz,aj r k)
def S.jT (s:S)(aj:ef)(b:Nat):Prop:= ∃r k I m,s.ab r k=some I∧I.bY = .live∧aj r k=some (b,m)
def S.ok (s:S)(g:G)(aj:ef)(w:World)(b:Nat):Prop :=
 b<w.heap.size∧(g.A b∨g.kA.heap.size≤b∨g.ni b)∧ ¬s.jT aj b
def hz (w:World)(ok:Nat→Prop)(aK:hs)(aQ:hi)(I:ap):Option (Nat×Nat)→Prop
 | none=>I.es=[]
 | some (c8,m)=> ∃c dv,w.heap[c8]? = some (.cells c dv (0,0))∧c.size=m∧(∀e∈I.es,e.length=I.sz) ∧
  ∀(j:Nat) x,I.es.flatten[j]? = some x→ ∃v,c[j]? = some v∧iv v=true∧Rel w ok aK aQ x v
structure wA (g:G) (w:World):Prop where
 os:w.os=g.kA.os
 tape:w.tape=g.kA.tape
 output:w.output=g.kA.output
 size:g.kA.heap.size≤w.heap.size
 block : ∀b,b<g.kA.heap.size→ ¬g.ni b→w.heap[b]? = g.kA.heap[b]?
structure gw (g:G) (s:S) (aj:ef) (w:World):Prop where
 obj : ∀r k I,s.ab r k=some I→hz w (s.ok g aj w) s.aK (s.aQ aj) I (aj r k)
 inj : ∀r k I dw cU bD b m a8,s.ab r k=some I→s.ab dw cU=some bD→aj r k=some (b,m)→aj dw cU=some (b,a8)→r=dw∧k=cU
 own : ∀r k I b m,s.ab r k=some I→aj r k=some (b,m)→g.kA.heap.size≤b∨g.ni b
 fO:wA g w
 mlt : ∀b,g.ni b→b<g.kA.heap.size
 lf : ∀b,g.A b→b<g.kA.heap.size
 stay : ∀j k,g.mO j k→s.aK j k∧(s.aQ aj j k=g.oJ j k∨s.aQ aj j k=none)
 low : ∀j k,g.mO j k→j<g.m
structure b9 (g:G) (s:S) (aj:ef) (a:Act) (w:World):Prop extends gw g s aj w where
 env : ∀t,Rel w (s.ok g aj w) s.aK (s.aQ aj) (s.E t) (a.tmps.getD t undef)
 defers:a.defers=[]
 hZ:g.N≤a.tmps.size
def ofValue:Value→al
 | .bool x=> .b x
 | .int k x=> .n k x
 | .string x=> .s x
 | .pointer none=> .gv
 | .slice none 0 0=> .dJ
 | _=> .dead
theorem GZ {w:World}{ok:Nat→Prop}{aK:hs}{aQ:hi}(v:Value):Rel w ok aK aQ (ofValue v) v:=by
 unfold ofValue
 split<;>constructor
def d2 (E:Nat→al):Operand→al
 | .tmp t=>E t
 | .const v=>ofValue v
 | .global _=> .dead
 | .func f=> .fn f []
theorem b9.eval {g:G}{s:S}{aj:ef}{a:Act}{w:World}(h:b9 g s aj a w)(x:Operand):
 Rel w (s.ok g aj w) s.aK (s.aQ aj) (d2 s.E x) (a.eval x):=by
 cases x with
 | tmp t=>exact h.env t
 | const v=>exact GZ v
 | global g=>exact .dead _
 | func f=>exact .fn [] rfl (fun j x v aa=>by simp at aa)
def al.cells:al→List al
 | .agg c=>c
 | x=>[x]
def al.one:al→Bool
 | .dead | .agg _ | .dx _=>false
 | _=>true
def al.tN:al→Bool
 | .dead | .dx _=>false
 | _=>true
theorem al.G0 {v:al}(h:v.tN=true):v.one=true∨ ∃c,v = .agg c:=by
 cases v<;>first|exact .inl rfl|exact .inr ⟨_,rfl⟩|simp [al.tN] at h
theorem Rel.iv {w:World}{ok:Nat→Prop}{aK:hs}{aQ:hi}{a:al}{v:Value}(h:Rel w ok aK aQ a v)(bx:a.one=true):iv v=true:=by
 cases h with
 | mH h=>cases h;rfl
 | kK h=>cases h<;>rfl
 | lG h=>cases h<;>rfl
 | _=>first|rfl|simp [al.one] at bx
theorem Rel.cellsOf {w:World}{ok:Nat→Prop}{aK:hs}{aQ:hi}{a:al}{v:Value}(h:Rel w ok aK aQ a v)(bx:a.one=true∨ ∃c,a = .agg c):
 ∃vs:List Value,v.cells=vs.toArray∧vs.length=a.cells.length∧(∀(j:Nat) x,vs[j]? = some x→VL.iv x=true) ∧
  ∀(j:Nat) x u,a.cells[j]? = some x→vs[j]? = some u→Rel w ok aK aQ x u:=by
 rcases bx with bx|⟨c,rfl⟩
 ·have aL:=h.iv bx
  refine ⟨[v],?_,?_,?_,?_⟩
  ·cases v<;>first|rfl|simp [VL.iv,Value.oneCell'] at aL
  ·cases a<;>first|rfl|simp [al.one] at bx
  ·intro j x aa
   cases j with
   | zero=>simp at aa;subst aa;exact aL
   | succ j=>simp at aa
  ·intro j x u aa hu
   have e:a.cells=[a]:=by cases a<;>first|rfl|simp [al.one] at bx
   rw [e] at aa
   cases j with
   | zero=>simp at aa hu;subst aa;subst hu;exact h
   | succ j=>simp at aa
 ·cases h with
  | agg vs aG ie ah=>exact ⟨vs,rfl,aG,ie,ah⟩
end Go.VL
namespace Go.VL
set_option linter.unusedVariables false
set_option linter.unusedSimpArgs false
open Go
def S.put (s:S)(dst:Option Tmp)(v:al):S :=
 match dst with
 | some t=>{s with E:=fun u=>if u=t then v else s.E u}
 | none=>s
def S.setRow (s:S)(r:Nat)(row:List ap):S:={s with aE:=fun q=>if q=r then some row else s.aE q}
@[simp] theorem S.qw (s:S) (dst:Option Tmp) (v:al):(s.put dst v).aE=s.aE:=by cases dst<;>rfl
@[simp] theorem S.Vu (s:S) (r:Nat) (row:List ap):(s.setRow r row).E=s.E:=rfl
theorem vL {s bo:S}(h:bo.aE=s.aE):bo.ab=s.ab:=by funext r k;simp [S.ab,h]
theorem tO {s bo:S}(h:bo.aE=s.aE):bo.aK=s.aK:=by funext r k;simp [S.aK,h]
theorem tP {s bo:S}(h:bo.aE=s.aE)(aj:ef):bo.aQ aj=s.aQ aj:=by unfold S.aQ;rw [vL h]
theorem NZ {s bo:S}(h:bo.aE=s.aE)(aj:ef):bo.jT aj=s.jT aj:=by unfold S.jT;rw [vL h]
theorem vM {s bo:S}(h:bo.aE=s.aE)(g:G)(aj:ef)(w:World):bo.ok g aj w=s.ok g aj w:=by
 funext b;unfold S.ok;rw [NZ h]
theorem gw.congr {g:G}{s bo:S}{aj:ef}{w:World}(h:gw g s aj w)(e:bo.aE=s.aE):gw g bo aj w where
 obj:=by rw [vL e,tO e,tP e,vM e];exact h.obj
 inj:=by rw [vL e];exact h.inj
 own:=by rw [vL e];exact h.own
 fO:=h.fO
 mlt:=h.mlt
 lf:=h.lf
 stay:=by rw [tO e,tP e];exact h.stay
 low:=h.low
theorem PP (a:Act)(dst:Option Tmp)(v:Value)(t:Nat)(dK:∀d,dst=some d→d<a.tmps.size):
 (a.put dst v).tmps.getD t undef=if dst=some t then v else a.tmps.getD t undef:=by
 cases dst with
 | none=>simp [Act.put]
 | some d =>
  have:=dK d rfl
  simp only [Act.put,Array.getD_eq_getD_getElem?,Array.getElem?_setIfInBounds,Option.some.injEq]
  by_cases e:d=t
  ·subst e;simp [this]
  ·simp [e]
theorem b9.put {g:G}{s:S}{aj:ef}{a:Act}{w:World}(h:b9 g s aj a w)(dst:Option Tmp){x:al}{v:Value}
 (bq : ∀d,dst=some d→d<g.N) (ah:Rel w (s.ok g aj w) s.aK (s.aQ aj) x v):b9 g (s.put dst x) aj (a.put dst v) w where
 togw:=h.togw.congr (S.qw s dst x)
 env:=by
  have e:=S.qw s dst x
  rw [vM e,tO e,tP e]
  intro t
  rw [PP a dst v t fun d r1=>Nat.lt_of_lt_of_le (bq d r1) h.hZ]
  cases dst with
  | none=>simpa [S.put] using h.env t
  | some d =>
   simp only [S.put,Option.some.injEq]
   by_cases e:t=d
   ·subst e;simpa using ah
   ·rw [if_neg e,if_neg (Ne.symm e)];exact h.env t
 defers:=by cases dst<;>exact h.defers
 hZ:=by cases dst<;>simpa [Act.put] using h.hZ
structure Step (g:G) (s:S) (aj:ef) (w:World) (bo:S) (bj:ef) (bm:World):Prop where
 aK : ∀r k,s.aK r k→bo.aK r k
 aQ : ∀r k,s.aK r k→bo.aQ bj r k=s.aQ aj r k∨bo.aQ bj r k=none
 live : ∀b,bo.jT bj b→s.jT aj b∨w.heap.size≤b
 heap : ∀b,b<w.heap.size→ ¬s.jT aj b→bm.heap[b]? = w.heap[b]?
 size:w.heap.size≤bm.heap.size
theorem Step.ok {g:G}{s bo:S}{aj bj:ef}{w bm:World}(h:Step g s aj w bo bj bm)(b:Nat)(aP:s.ok g aj w b):bo.ok g bj bm b :=
 ⟨Nat.lt_of_lt_of_le aP.1 h.size,aP.2.1,fun aG=>by
  rcases h.live b aG with o|o
  ·exact aP.2.2 o
  ·exact absurd aP.1 (by omega)⟩
theorem Step.rel {g:G}{s bo:S}{aj bj:ef}{w bm:World}(h:Step g s aj w bo bj bm){x:al}{v:Value}
 (ah:Rel w (s.ok g aj w) s.aK (s.aQ aj) x v):Rel bm (bo.ok g bj bm) bo.aK (bo.aQ bj) x v :=
 ah.mono h.ok (fun b aP=>h.heap b aP.1 aP.2.2) h.aK h.aQ
theorem Step.obj {g:G}{s bo:S}{aj bj:ef}{w bm:World}(h:Step g s aj w bo bj bm){I:ap}{p:Option (Nat×Nat)}
 (ae : ∀b m,p=some (b,m)→bm.heap[b]? = w.heap[b]?) (ad:hz w (s.ok g aj w) s.aK (s.aQ aj) I p) :
 hz bm (bo.ok g bj bm) bo.aK (bo.aQ bj) I p:=by
 cases p with
 | none=>exact ad
 | some q =>
  obtain ⟨b,m⟩:=q
  obtain ⟨c,dv,o,J,ao,aO⟩:=ad
  refine ⟨c,dv,(ae b m rfl).trans o,J,ao,fun j x aa=> ?_⟩
  obtain ⟨v,ar,ay,bR⟩:=aO j x aa
  exact ⟨v,ar,ay,h.rel bR⟩
theorem Step.stay {g:G}{s bo:S}{aj bj:ef}{w bm:World}(h:Step g s aj w bo bj bm)
 (bT : ∀j k,g.mO j k→s.aK j k∧(s.aQ aj j k=g.oJ j k∨s.aQ aj j k=none)) : ∀j k,g.mO j k→bo.aK j k∧(bo.aQ bj j k=g.oJ j k∨bo.aQ bj j k=none):=by
 intro j k av
 obtain ⟨o,J⟩:=bT j k av
 refine ⟨h.aK j k o,?_⟩
 rcases h.aQ j k o with e|e
 ·rw [e];exact J
 ·exact .inr e
theorem wA.step {g:G}{w bm:World}(h:wA g w)(o:bm.os=w.os)(J:bm.tape=w.tape)(ao:bm.output=w.output)(aO:w.heap.size≤bm.heap.size)
 (aM : ∀b,b<g.kA.heap.size→ ¬g.ni b→bm.heap[b]? = w.heap[b]?):wA g bm :=
 ⟨o.trans h.os,J.trans h.tape,ao.trans h.output,Nat.le_trans h.size aO,fun b aP hm=>(aM b aP hm).trans (h.block b aP hm)⟩
theorem jF (s:S)(r:Nat)(row:List ap)(q k:Nat):(s.setRow r row).ab q k=if q=r then cz (some row) k else s.ab q k:=by
 unfold S.ab S.setRow
 by_cases e:q=r<;>simp [e]
theorem k9 (s:S)(r:Nat)(row:List ap)(q k:Nat):(s.setRow r row).aK q k↔(if q=r then k<row.length else s.aK q k):=by
 unfold S.aK S.setRow
 by_cases e:q=r<;>simp [e]
theorem yG {s:S}{r k:Nat}{I:ap}(h:s.ab r k=some I):s.aK r k:=by
 unfold S.ab cz at h
 unfold S.aK
 cases ah:s.aE r with
 | none=>rw [ah] at h;simp at h
 | some l =>
  rw [ah] at h
  simp only at h
  rcases Nat.lt_or_ge k l.length with o|o
  ·simpa using o
  ·rw [List.getElem?_eq_none o] at h;simp at h
theorem tw {s:S}{r:Nat}(h:s.aE r=none)(k:Nat): ¬s.aK r k:=by simp [S.aK,h]
theorem yn (s:S){r:Nat}{l row:List ap}(ah:s.aE r=some l)(aG:l.length≤row.length)(q k:Nat)(h:s.aK q k):(s.setRow r row).aK q k:=by
 rw [k9]
 by_cases e:q=r
 ·subst e;rw [if_pos rfl];simp [S.aK,ah] at h;omega
 ·rw [if_neg e];exact h
theorem U2 {s:S}{r:Nat}(h:s.aE r=none)(k:Nat):s.ab r k=none:=by simp [S.ab,h,cz]
def ef.set (aj:ef)(r k:Nat)(p:Option (Nat×Nat)):ef:=fun q j=>if q=r∧j=k then p else aj q j
theorem j8 (I:ap)(k:Nat):cz (some [I]) k=if k=0∧I.bY≠ .gone then some I else none:=by
 unfold cz
 cases k with
 | zero=>by_cases h:I.bY = .gone<;>simp [h]
 | succ k=>simp
theorem Rel.drew {w:World}{ok:Nat→Prop}{aK:hs}{aQ:hi}{x:al}{v:Value}(h:Rel w ok aK aQ x v):Rel w.drew ok aK aQ x v :=
 h.mono (fun _ h=>h) (fun _ _=>rfl) (fun _ _ h=>h) (fun _ _ _=> .inl rfl)
theorem hz.drew {w:World}{ok:Nat→Prop}{aK:hs}{aQ:hi}{I:ap}{p:Option (Nat×Nat)}(h:hz w ok aK aQ I p):hz w.drew ok aK aQ I p:=by
 cases p with
 | none=>exact h
 | some q =>
  obtain ⟨c,dv,o,J,ao,aO⟩:=h
  exact ⟨c,dv,o,J,ao,fun j x aa=>let ⟨v,a,b,c⟩:=aO j x aa;⟨v,a,b,c.drew⟩⟩
theorem gw.drew {g:G}{s:S}{aj:ef}{w:World}(h:gw g s aj w):gw g s aj w.drew :=
 {obj:=fun r k I ad=>(h.obj r k I ad).drew,inj:=h.inj,own:=h.own,fO:=⟨h.fO.os,h.fO.tape,h.fO.output,h.fO.size,h.fO.block⟩,mlt:=h.mlt,lf:=h.lf,stay:=h.stay,low:=h.low}
theorem b9.drew {g:G}{s:S}{aj:ef}{a:Act}{w:World}(h:b9 g s aj a w):b9 g s aj a w.drew where
 togw:=h.togw.drew
 env:=fun t=>(h.env t).drew
 defers:=h.defers
 hZ:=h.hZ
theorem b9.alloc {g:G}{s:S}{aj:ef}{a:Act}{w:World}(h:b9 g s aj a w){r:Nat}(ah:s.aE r=none)(I:ap)(aV:I.bY = .live)
 (c:Array Value) (dv:TypeId) (hlen : ∀e∈I.es,e.length=I.sz)
 (aL : ∀(j:Nat) x,I.es.flatten[j]? = some x→ ∃v,c[j]? = some v∧iv v=true∧Rel w (s.ok g aj w) s.aK (s.aQ aj) x v) :
 ∃bj,bj r 0=some (w.heap.size,c.size)∧b9 g (s.setRow r [I]) bj a (w.alloc (.cells c dv)) ∧
  ∀x v,Rel w (s.ok g aj w) s.aK (s.aQ aj) x v→Rel (w.alloc (.cells c dv)) ((s.setRow r [I]).ok g bj (w.alloc (.cells c dv))) (s.setRow r [I]).aK ((s.setRow r [I]).aQ bj) x v:=by
 have jO : ∀q k,q≠r→(aj.set r 0 (some (w.heap.size,c.size))) q k=aj q k:=fun q k a1=>by simp [ef.set,a1]
 have a3 : ∀q k,q≠r→(s.setRow r [I]).ab q k=s.ab q k:=fun q k a1=>by rw [jF,if_neg a1]
 have uo : ∀k,(s.setRow r [I]).ab r k=if k=0 then some I else none:=fun k=>by
  rw [jF,if_pos rfl,j8];simp [aV]
 have pP : ∀q k p b m,s.ab q k=some p→aj q k=some (b,m)→b<w.heap.size:=fun q k p b m ae a1=>by
  have:=h.obj q k p ae
  rw [a1] at this
  obtain ⟨c5,kq,eK,_⟩:=this
  exact (Array.getElem?_eq_some_iff.1 eK).1
 have cm:Step g s aj w (s.setRow r [I]) (aj.set r 0 (some (w.heap.size,c.size))) (w.alloc (.cells c dv)):=by
  refine ⟨fun q k a1=>(k9 _ _ _ _ _).2 (by rw [if_neg (by rintro rfl;exact tw ah k a1)];exact a1),fun q k a1=> ?_,fun b aP=> ?_,fun b aP _=>heap_alloc_old w _ b aP,by simp⟩
  ·have cf:q≠r:=by rintro rfl;exact tw ah k a1
   left
   simp only [S.aQ,a3 q k cf,jO q k cf]
  ·obtain ⟨q,k,p,m,o,J,ao⟩:=aP
   by_cases e:q=r
   ·subst e
    rw [uo] at o
    by_cases e0:k=0
    ·subst e0;simp [ef.set] at ao;right;omega
    ·simp [e0] at o
   ·rw [a3 q k e] at o;rw [jO q k e] at ao
    exact .inl ⟨q,k,p,m,o,J,ao⟩
 refine ⟨aj.set r 0 (some (w.heap.size,c.size)),by simp [ef.set],?_,fun x v=>cm.rel⟩
 refine {togw:=⟨?_,?_,?_,?_,h.mlt,h.lf,cm.stay h.stay,h.low⟩,env:=fun t=>cm.rel (h.env t),defers:=h.defers,hZ:=h.hZ}
 ·intro q k p ae
  by_cases e:q=r
  ·subst e
   rw [uo] at ae
   by_cases e0:k=0
   ·subst e0
    simp at ae
    subst ae
    simp only [ef.set,and_self,if_true]
    exact ⟨c,dv,heap_alloc_new w _,rfl,hlen,fun j x aa=>let ⟨v,ar,ay,bR⟩:=aL j x aa;⟨v,ar,ay,cm.rel bR⟩⟩
   ·simp [e0] at ae
  ·rw [a3 q k e] at ae
   rw [jO q k e]
   exact cm.obj (fun b m hm=>heap_alloc_old w _ b (pP q k p b m ae hm)) (h.obj q k p ae)
 ·intro q k p f9 cU iB b m a8 o J ao aO
  by_cases e:q=r<;>by_cases dy:f9=r
  ·subst e;subst dy
   rw [uo] at o J
   by_cases e0:k=0<;>by_cases ar:cU=0<;>simp [e0,ar] at o J
   exact ⟨rfl,by omega⟩
  ·subst e
   rw [uo] at o;rw [a3 _ _ dy] at J;rw [jO _ _ dy] at aO
   by_cases e0:k=0<;>simp [e0] at o
   subst e0
   simp [ef.set] at ao
   have:=pP f9 cU iB b a8 J aO
   omega
  ·subst dy
   rw [a3 _ _ e] at o;rw [uo] at J;rw [jO _ _ e] at ao
   by_cases e0:cU=0<;>simp [e0] at J
   subst e0
   simp [ef.set] at aO
   have:=pP q k p b m o ao
   omega
  ·rw [a3 _ _ e] at o;rw [a3 _ _ dy] at J;rw [jO _ _ e] at ao;rw [jO _ _ dy] at aO
   exact h.inj q k p f9 cU iB b m a8 o J ao aO
 ·intro q k p b m o J
  by_cases e:q=r
  ·subst e
   rw [uo] at o
   by_cases e0:k=0<;>simp [e0] at o
   subst e0
   simp [ef.set] at J
   left
   have:=h.fO.size
   omega
  ·rw [a3 _ _ e] at o;rw [jO _ _ e] at J
   exact h.own q k p b m o J
 ·exact h.fO.step rfl rfl rfl (by simp) fun b aP _=>heap_alloc_old w _ b (Nat.lt_of_lt_of_le aP h.fO.size)
theorem HW (l:List ap)(k:Nat)(I bD:ap)(h:cz (some l) k=some I)(aV:bD.bY≠ .gone)(j:Nat):
 cz (some (l.set k bD)) j=if j=k then some bD else cz (some l) j:=by
 unfold cz at *
 have c9:k<l.length:=by
  rcases Nat.lt_or_ge k l.length with o|o
  ·exact o
  ·simp [List.getElem?_eq_none o] at h
 by_cases e:j=k
 ·subst e;simp [c9,aV]
 ·simp only [List.getElem?_set,if_neg (Ne.symm e),if_neg e]
theorem b9.write {g:G}{s:S}{aj:ef}{a:Act}{w bm:World}(h:b9 g s aj a w){r k b m:Nat}{l:List ap}{I:ap}(ah:s.aE r=some l)(ad:s.ab r k=some I)
 (aV:I.bY = .live) (ae:aj r k=some (b,m)) (es:List (List al)) (c:Array Value) (dv:TypeId)
 (hw:bm.heap[b]? = some (.cells c dv (0,0))) (dK:bm.heap.size=w.heap.size) (rJ : ∀q,q≠b→bm.heap[q]? = w.heap[q]?)
 (n3:bm.os=w.os) (Eg:bm.tape=w.tape) (DX:bm.output=w.output) (hm:c.size=m)
 (hlen : ∀e∈es,e.length=I.sz)
 (aL : ∀(j:Nat) x,es.flatten[j]? = some x→ ∃v,c[j]? = some v∧iv v=true∧Rel w (s.ok g aj w) s.aK (s.aQ aj) x v) :
 b9 g (s.setRow r (l.set k {I with es})) aj a bm ∧
  ∀x v,Rel w (s.ok g aj w) s.aK (s.aQ aj) x v→Rel bm ((s.setRow r (l.set k {I with es})).ok g aj bm) (s.setRow r (l.set k {I with es})).aK ((s.setRow r (l.set k {I with es})).aQ aj) x v:=by
 have gr:({I with es}:ap).bY≠ .gone:=by rw [aV];simp
 have a3 : ∀q j,(s.setRow r (l.set k {I with es})).ab q j=if q=r∧j=k then some {I with es} else s.ab q j:=by
  intro q j
  rw [jF]
  by_cases e:q=r
  ·subst e
   have cW:cz (some l) k=some I:=by rw [← ah];exact ad
   rw [if_pos rfl,HW l k I _ cW gr]
   by_cases ay:j=k<;>simp [ay,S.ab,ah]
  ·simp [e]
 have nr:s.jT aj b:=⟨r,k,I,m,ad,aV,ae⟩
 have cm:Step g s aj w (s.setRow r (l.set k {I with es})) aj bm:=by
  refine ⟨yn s ah (by simp),fun q j a1=> .inl ?_,fun q a1=> ?_,fun q a1 aG=>rJ q fun e=>aG (e▸nr),Nat.le_of_eq dK.symm⟩
  ·simp only [S.aQ,a3]
   by_cases e:q=r∧j=k
   ·obtain ⟨rfl,rfl⟩:=e;simp [ad]
   ·rw [if_neg e]
  ·obtain ⟨f9,j,p,a8,o,J,ao⟩:=a1
   rw [a3] at o
   by_cases e:f9=r∧j=k
   ·obtain ⟨rfl,rfl⟩:=e
    exact .inl ⟨f9,j,I,a8,ad,aV,ao⟩
   ·rw [if_neg e] at o
    exact .inl ⟨f9,j,p,a8,o,J,ao⟩
 refine ⟨{togw:=⟨?_,?_,?_,?_,h.mlt,h.lf,cm.stay h.stay,h.low⟩,env:=fun t=>cm.rel (h.env t),defers:=h.defers,hZ:=h.hZ},fun x v=>cm.rel⟩
 ·intro q j p iJ
  rw [a3] at iJ
  by_cases e:q=r∧j=k
  ·obtain ⟨rfl,rfl⟩:=e
   simp at iJ
   subst iJ
   rw [ae]
   exact ⟨c,dv,hw,hm,hlen,fun j x aa=>let ⟨v,ar,ay,bR⟩:=aL j x aa;⟨v,ar,ay,cm.rel bR⟩⟩
  ·rw [if_neg e] at iJ
   refine cm.obj (fun iC a8 jj=>rJ iC ?_) (h.obj q j p iJ)
   rintro rfl
   exact e (h.inj q j p r k I iC a8 m iJ ad jj ae)
 ·intro q j p f9 gl iB iC gG fA o J ao aO
  have key : ∀q j p,(s.setRow r (l.set k {I with es})).ab q j=some p→ ∃iB,s.ab q j=some iB:=by
   intro q j p a1
   rw [a3] at a1
   by_cases e:q=r∧j=k
   ·obtain ⟨rfl,rfl⟩:=e;exact ⟨I,ad⟩
   ·rw [if_neg e] at a1;exact ⟨p,a1⟩
  obtain ⟨ga,SO⟩:=key q j p o
  obtain ⟨hj,wV⟩:=key f9 gl iB J
  exact h.inj q j ga f9 gl hj iC gG fA SO wV ao aO
 ·intro q j p iC a8 o J
  rw [a3] at o
  by_cases e:q=r∧j=k
  ·obtain ⟨rfl,rfl⟩:=e;exact h.own q j I iC a8 ad J
  ·rw [if_neg e] at o;exact h.own q j p iC a8 o J
 ·refine h.fO.step n3 Eg DX (Nat.le_of_eq dK.symm) fun iC n4 jj=>rJ iC ?_
  rintro rfl
  rcases h.own r k I iC m ad ae with o|o
  ·omega
  ·exact jj o
end Go.VL
namespace Go.VL
set_option linter.unusedVariables false
set_option linter.unusedSimpArgs false
open Go
inductive p2 where
 | id
 | eZ (es:List (List al))
 | lU (sz:Nat)
 | h3
 | dH (x:al)
 | len (n:Nat)
 | Ft (sz:Nat)
 | at_ (j i n:Nat)
 | view (dm:Nat) (I:ap) (es:List (List al))
 deriving Inhabited
inductive uT where
 | c6 (c:p2)
 | ptr (l:List p2)
 | DY (l:List p2)
 | agg (l:List p2)
 deriving Inhabited
inductive jy where
 | bH (c:uT)
 | comp (l:List uT)
 deriving Inhabited
inductive gN where
 | pure
 | box (l:List p2)
 | dH (row:List ap)
 | bU (row:List ap)
 | rx (row:List ap)
 | drop
 deriving Inhabited
structure lg where
 bq:List (Nat×Nat):=[]
 iW:Option (Nat×Nat):=none
 deriving DecidableEq
inductive Src where
 | row (r:Nat)
 | ab (r k:Nat) (I:ap)
 deriving Inhabited
structure xo where
 aA:List Src:=[]
 b7:List gN:=[]
 ac:List jy
 r:al
 cY:List (List ap):=[]
 ec:jy:= .bH (.c6 .id)
 eL:List gN:=[]
 c4:List Nat:=[]
 cX:Bool:=true
inductive ew where
 | none
 | aw (t:Bool)
 | cy (c:List al)
 | gh (I:ap) (c:List al)
 | eV
 | call (c:xo)
 | bb (m:Nat) (I:Option ap:=Option.none)
 | kB (t:Nat) (v:al) (a:ew)
 | qW (r:Nat) (a:ew)
 | xp (r n:Nat) (a:ew)
structure gx where
 val:al
 eE:List (Nat×List ap):=[]
 ep:List Prop:=[]
def vZ (P:Program)(t:TypeId):Bool :=
 match P.underlying t with
 | some (.struct _)|some (.array _ _)=>true
 | _=>false
def uq (lr:List Int):ByteArray:=lr.foldl (fun r n=>r.push (UInt8.ofNat n.toNat)) ByteArray.empty
def bytesOf:List (List al)→Option (List Int)
 | []=>some []
 | [.n .u8 n]::es=>(bytesOf es).map (n :: ·)
 | _=>none
def elemAt (es:List (List al))(i:Nat):ew→Option (List al×List Prop)
 | .cy c=>some (c,[es[i]? = some c])
 | .gh _ c=>some (c,[es[i]? = some c])
 | _=>match es[i]? with
  | some c=>some (c,[])
  | none=>none
def mI (row:Option (List ap))(k:Nat):ew→Option (ap×List Prop)
 | .gh I _=>match row with
  | some row=>some (I,[cz (some row) k=some I])
  | none=>none
 | _=>match cz row k with
  | some I=>some (I,[])
  | none=>none
def pH (P:Program)(t:TypeId)(c:List al)(off:Nat):Option al :=
 if !((P.underlying t).isSome && (P.info? t).isSome) then none else
 if vZ P t then (if off+P.cellsOf t≤c.length then some (.agg ((c.drop off).take (P.cellsOf t))) else none)
 else match c[off]? with
  | some x=>if x.one then some x else none
  | none=>none
def DZ (op:BinOp)(x y:al):Option (al×List Prop) :=
 match x,y with
 | .n k a,.n cU b =>
  match op with
  | .shl=>some (.n k (k.wrap (a*2 ^ (min b.toNat k.bits))),[0≤b])
  | .shr=>some (.n k (a.fdiv (2 ^ (min b.toNat k.bits))),[0≤b])
  | _=>if k≠cU then none else
   match op with
   | .add=>some (.n k (k.wrap (a+b)),[])
   | .sub=>some (.n k (k.wrap (a-b)),[])
   | .mul=>some (.n k (k.wrap (a*b)),[])
   | .quo=>some (.n k (k.wrap (a.tdiv b)),[b≠0])
   | .rem=>some (.n k (a.tmod b),[b≠0])
   | .and=>some (.n k (k.wrap ((BitVec.ofInt k.bits a &&& BitVec.ofInt k.bits b).toNat)),[])
   | .or=>some (.n k (k.wrap ((BitVec.ofInt k.bits a ||| BitVec.ofInt k.bits b).toNat)),[])
   | .xor=>some (.n k (k.wrap ((BitVec.ofInt k.bits a ^^^ BitVec.ofInt k.bits b).toNat)),[])
   | .eql=>some (.b (a == b),[])
   | .neq=>some (.b (a != b),[])
   | .lss=>some (.b (decide (a<b)),[])
   | .leq=>some (.b (decide (a≤b)),[])
   | .gtr=>some (.b (decide (b<a)),[])
   | .geq=>some (.b (decide (b≤a)),[])
   | _=>none
 | .s a,.s b =>
  match op with
  | .add=>some (.s (a++b),[a.size+b.size<9223372036854775808])
  | .eql=>some (.b (a.toList == b.toList),[])
  | .neq=>some (.b (!(a.toList == b.toList)),[])
  | _=>none
 | _,_=>none
def pg (P:Program)(t:TypeId)(x y:al):Option Bool :=
 match P.underlying t,x,y with
 | some .bool,.b a,.b c=>some (a == c)
 | some (.pointer _),.gv,.gv=>some true
 | some (.pointer _),.dg ..,.gv=>some false
 | some (.pointer _),.gv,.dg .. => some false
 | some (.slice _),.dJ,.dJ=>some true
 | some (.slice _),.gW,.dJ=>some false
 | _,_,_=>none
def Eh (op:UnOp)(x:al):Option al :=
 match op,x with
 | .neg,.n k a=>some (.n k (k.wrap (0-a)))
 | .not,.b a=>some (.b (!a))
 | _,_=>none
def fieldsOf (P:Program)(t:TypeId):Option (Array Field) :=
 match P.underlying t with
 | some (.struct iX)=>some iX
 | _=>none
def ns (P:Program)(t:TypeId):Option TypeId :=
 match P.underlying t with
 | some (.slice e)=>some e
 | _=>none
def oq (P:Program)(t:TypeId):Option (List al) :=
 match P.info? t with
 | some i=>match i.zero with
  | some v=>if v.cells.toList.all (·.oneCell') then some (v.cells.toList.map ofValue) else none
  | none=>none
 | none=>none
def v5:al→al→al
 | .dJ,.isl sz []=> .isl sz []
 | .gv,.ig sz none=> .ig sz none
 | .dJ,.gX r c sz none=> .gX r c sz none
 | x,_=>x
def oz:List al→List al→List al
 | x::z,y::c=>v5 x y::oz z c
 | z,_=>z
def pI (z:List al):ew→List al
 | .cy c=>oz z c
 | _=>z
def setCells (c:List al)(off:Nat)(vs:List al):List al:=c.take off++vs++c.drop (off+vs.length)
def qx:List al→List (Nat×Nat×al)→Option (List al)
 | c,[]=>some c
 | c,(off,size,x)::rest =>
  if x.tN && x.cells.length=size && decide (off+size≤c.length) then qx (setCells c off x.cells) rest else none
def ug (sz:Nat):List (List al)→List (Nat×al)→Option (List (List al))
 | es,[]=>some es
 | es,(i,x)::rest=>if x.tN && x.cells.length=sz && decide (i<es.length) then ug sz (es.set i x.cells) rest else none
def aI:Option al→Nat→Option (Nat×List Prop)
 | none,d=>some (d,[])
 | some (.n _ x),_=>some (x.toNat,[0≤x])
 | _,_=>none
def dD (P:Program)(E:Nat→al)(aE:Nat→Option (List ap))(aC:Nat)(I:Oper)(cb:ew):Option gx :=
 let gH:=d2 E
 match I.op with
 | .move x | .assign x=>some {val:=gH x}
 | .pick c a b =>
  match gH c,cb with
  | .b x,.aw t=>some {val:=if t then gH a else gH b,ep:=[x=t]}
  | .b true,_=>some {val:=gH a}
  | .b false,_=>some {val:=gH b}
  | _,_=>none
 | .alloc t =>
  match oq P t with
  | some c=>some {val:= .ref aC 0 0 0,eE:=[(aC,[⟨c.length,[c],.live⟩])]}
  | none=>none
 | .box _ x =>
  match gH x with
  | .agg c=>some {val:= .ref aC 0 0 0,eE:=[(aC,[⟨c.length,[c],.live⟩])]}
  | v=>if v.one then some {val:= .ref aC 0 0 0,eE:=[(aC,[⟨1,[[v]],.live⟩])]} else none
 | .load t x =>
  match gH x with
  | .ref r k i off =>
   match mI (aE r) k cb with
   | some (ab,bZ)=>match elemAt ab.es i cb with
    | some (c,a6)=>match pH P t c off with
     | some v=>some {val:=v,ep:=bZ++a6}
     | none=>none
    | none=>none
   | none=>none
  | .dg _ es i off =>
   match elemAt es i cb with
   | some (c,a6)=>match pH P t c off with
    | some v=>some {val:=v,ep:=a6}
    | none=>none
   | none=>none
  | _=>none
 | .store t x y =>
  match gH x with
  | .ref r k i off =>
   match aE r with
   | none=>none
   | some row =>
   match mI (some row) k cb with
   | some (ab,bZ) =>
    if ab.bY≠ .live then none else
    let v:=gH y
    if v.tN=false then none else
    if v.cells.length≠P.cellsOf t∨(P.info? t).isSome=false then none else
    match cb with
    | .eV=>if off=0 then some {val:= .dead,eE:=[(r,row.set k {ab with es:=ab.es.set i v.cells})],ep:=bZ++[i<ab.es.length,v.cells.length=ab.sz]} else none
    | _=>match elemAt ab.es i cb with
     | some (c,a6)=>if off+v.cells.length≤c.length then some {val:= .dead,eE:=[(r,row.set k {ab with es:=ab.es.set i (setCells c off v.cells)})],ep:=bZ++a6} else none
     | none=>none
   | none=>none
  | _=>none
 | .nilCheck x =>
  match gH x with
  | .ref r k i off=>match mI (aE r) k cb with
   | some (ab,bZ)=>match elemAt ab.es i cb with
    | some (_,a6)=>some {val:= .ref r k i off,ep:=bZ++a6}
    | none=>none
   | none=>none
  | .dg sz es i off=>some {val:= .dg sz es i off}
  | .fn f c=>some {val:= .fn f c}
  | _=>none
 | .binOp op t x y _ =>
  match DZ op (gH x) (gH y) with
  | some (v,ab)=>some {val:=v,ep:=ab}
  | none=>match op with
   | .eql=>(pg P t (gH x) (gH y)).map fun r=>{val:= .b r}
   | .neq=>(pg P t (gH x) (gH y)).map fun r=>{val:= .b (!r)}
   | _=>none
 | .unOp op _ x=>(Eh op (gH x)).map fun v=>{val:=v}
 | .convert src dst x =>
  match P.underlying dst,gH x with
  | some (.int k),.n _ a=>if (P.underlying src).isSome then some {val:= .n k (k.wrap a)} else none
  | some .string,.bp r k bw len =>
   match (ns P src).bind P.underlying,cz (aE r) k with
   | some (.int .u8),some ab=>match bytesOf ((ab.es.drop bw).take len) with
    | some lr=>if bw+len≤ab.es.length∧ab.sz=1 then some {val:= .s (uq lr)} else none
    | none=>none
   | _,_=>none
  | _,_=>none
 | .makeFunc (.func f) first captured =>
  if first.size=0 then some {val:= .fn f (captured.toList.map gH)} else none
 | .makeSlice t l c =>
  match ns P t,gH l,gH c with
  | some e,.n _ l,.n _ c =>
   match P.info? e,oq P e with
   | some i,some z=>if z.length=i.size then some {val:= .bp aC 0 0 l.toNat,eE:=[(aC,[⟨z.length,List.replicate l.toNat (pI z cb),.live⟩])],ep:=[0≤l,l≤c,(i.bytes:Int)*c≤281474976710656,c<9223372036854775808]} else none
   | _,_=>none
  | _,_,_=>none
 | .fieldAddr t x f =>
  match fieldsOf P t with
  | some iX=>match iX[f]? with
   | some fd=>if P.cellsOf fd.type=0 then none else
    match gH x with
    | .ref r k i off=>match mI (aE r) k cb with
     | some (ab,bZ)=>match elemAt ab.es i cb with
      | some (_,a6)=>some {val:= .ref r k i (off+fd.offset),ep:=bZ++a6}
      | none=>none
     | none=>none
    | .dg sz es i off=>some {val:= .dg sz es i (off+fd.offset)}
    | _=>none
   | none=>none
  | none=>none
 | .field t x f =>
  match fieldsOf P t with
  | some iX=>match iX[f]?,gH x with
   | some fd,.agg c=>(pH P fd.type c fd.offset).map fun v=>{val:=v}
   | _,_=>none
  | none=>none
 | .indexAddr t x kC =>
  match ns P t,gH kC with
  | some e,.n _ j =>
   match gH x with
   | .isl sz es=>if sz=P.cellsOf e∧sz≠0 then some {val:= .dg sz es j.toNat 0,ep:=[0≤j,j<es.length]} else none
   | .bp r k bw len=>match aE r with
    | some row=>match mI (some row) k cb with
     | some (ab,bZ)=>if ab.sz=P.cellsOf e∧ab.sz≠0 then some {val:= .ref r k (bw+j.toNat) 0,ep:=bZ++[0≤j,j<len]} else none
     | none=>none
    | none=>none
   | _=>none
  | _,_=>none
 | .index t x kC =>
  match P.underlying t,gH x,gH kC with
  | some .string,.s s,.n _ j=>some {val:= .n .u8 (s.data.toList.getD j.toNat 0).toNat,ep:=[0≤j,j<s.size]}
  | _,_,_=>none
 | .extract x i =>
  match gH x with
  | .dx vs=>(vs[i]?).map fun v=>{val:=v}
  | _=>none
 | .slice t x bw af none =>
  match P.underlying t,gH x with
  | some (.slice e),.isl sz es =>
   match aI (bw.map gH) 0,aI (af.map gH) es.length with
   | some (l,bZ),some (h,a6)=>if sz=P.cellsOf e∧sz≠0 then some {val:= .isl sz ((es.drop l).take (h-l)),ep:=bZ++a6++[l≤h,h≤es.length]} else none
   | _,_=>none
  | some (.slice e),.bp r k K8 len =>
   match aE r with
   | none=>none
   | some row=>match mI (some row) k cb with
    | none=>none
    | some (ab,K9) =>
     match aI (bw.map gH) 0,aI (af.map gH) len with
     | some (l,bZ),some (h,a6)=>if ab.sz=P.cellsOf e∧ab.sz≠0 then some {val:= .bp r k (K8+l) (h-l),ep:=K9++bZ++a6++[l≤h,h≤len]} else none
     | _,_=>none
  | some .string,.s s =>
   match aI (bw.map gH) 0,aI (af.map gH) s.size with
   | some (l,bZ),some (h,a6)=>some {val:= .s (s.extract l h),ep:=bZ++a6++[l≤h,h≤s.size]}
   | _,_=>none
  | _,_=>none
 | .build t parts =>
  match fieldsOf P t,oq P t with
  | some iX,some z =>
   if iX.toList.all (fun f=>(P.info? f.type).isSome)=false then none else
   match parts.toList.mapM fun (p:Nat×Operand)=>(iX[p.1]?).map fun fd=>(fd.offset,P.cellsOf fd.type,gH p.2) with
   | some l=>(qx z l).map fun c=>{val:= .agg c}
   | none=>none
  | _,_=>none
 | .buildSlice t len parts =>
  match ns P t with
  | some e=>match oq P e with
   | some z =>
    if len*z.length>16777216∨z.length≠P.cellsOf e∨z.length=0 then none else
    match ug z.length (List.replicate len z) (parts.toList.map fun p=>(p.1,gH p.2)) with
    | some es=>some {val:= .bp aC 0 0 len,eE:=[(aC,[⟨z.length,es,.live⟩])]}
    | none=>none
   | none=>none
  | none=>none
 | .call {callee:= .builtin .len,args,argTypes} =>
  match args.toList.map gH,P.underlying (argTypes.getD 0 0),decide (argTypes.size=1) with
  | [.isl _ es],some (.slice _),true=>some {val:= .n .i64 es.length}
  | [.bp r k _ len],some (.slice _),true=>match aE r with
   | some row=>match mI (some row) k cb with
    | some (_,bZ)=>some {val:= .n .i64 len,ep:=bZ}
    | none=>none
   | none=>none
  | [.dJ],some (.slice _),true=>some {val:= .n .i64 0}
  | [.s x],some .string,true=>some {val:= .n .i64 x.size}
  | _,_,_=>none
 | _=>none
end Go.VL
namespace Go.VL
set_option linter.unusedVariables false
set_option linter.unusedSimpArgs false
open Go
theorem m0 {α:Type}{sz:Nat}(bT:0<sz): ∀(es:List (List α)) (_ : ∀e∈es,e.length=sz) (j:Nat),
 es.flatten[j]? = (es[j / sz]?).bind (·[j % sz]?)
 | [],_,j=>by simp
 | e::es,h,j=>by
  have he:e.length=sz:=h e (by simp)
  rw [List.flatten_cons,List.getElem?_append]
  by_cases av:j<sz
  ·rw [if_pos (by omega),Nat.div_eq_of_lt av,Nat.mod_eq_of_lt av];simp
  ·rw [if_neg (by omega),he,m0 bT es (fun dy jX=>h dy (by simp [jX])) (j-sz)]
   have o:j / sz=(j-sz) / sz+1:=Nat.div_eq_sub_div bT (by omega)
   have J:j % sz=(j-sz) % sz:=Nat.mod_eq_sub_mod (by omega)
   rw [o,J];simp
theorem vz {α:Type}{sz:Nat}{es:List (List α)}(aG:∀e∈es,e.length=sz){i:Nat}{c:List α}(he:es[i]? = some c){j:Nat}(av:j<sz):
 es.flatten[i*sz+j]? = c[j]? := by
 have bT:0<sz:=by omega
 rw [m0 bT es aG]
 have o:(i*sz+j) / sz=i:=by
  rw [Nat.mul_comm,Nat.mul_add_div bT,Nat.div_eq_of_lt av];omega
 have J:(i*sz+j) % sz=j:=by
  rw [Nat.mul_comm,Nat.mul_add_mod,Nat.mod_eq_of_lt av]
 rw [o,J,he];rfl
theorem G1 {α:Type}{sz:Nat}{es:List (List α)}(aG:∀e∈es,e.length=sz){i:Nat}{c c5:List α}(he:es[i]? = some c)(aL:c5.length=sz)(j:Nat):
 (es.set i c5).flatten[j]? = if i*sz≤j∧j<i*sz+sz then c5[j-i*sz]? else es.flatten[j]? := by
 rcases Nat.eq_zero_or_pos sz with h0|bT
 ·subst h0
  have ar : ∀(l:List (List α)),(∀e∈l,e.length=0)→l.flatten=[]:=by
   intro l aG;induction l with
   | nil=>rfl
   | cons a l ih=>rw [List.flatten_cons,ih fun e he=>aG e (by simp [he])];have:=aG a (by simp);simp_all
  rw [ar _ aG,ar (es.set i c5) (by
   intro e hm
   rcases List.mem_or_eq_of_mem_set hm with h|h
   ·exact aG e h
   ·exact h▸aL)]
  simp
 ·have Ei : ∀e∈es.set i c5,e.length=sz:=by
   intro e hm
   rcases List.mem_or_eq_of_mem_set hm with h|h
   ·exact aG e h
   ·exact h▸aL
  have af:i<es.length:=by
   rcases Nat.lt_or_ge i es.length with h|h
   ·exact h
   ·rw [List.getElem?_eq_none h] at he;simp at he
  rw [m0 bT _ Ei,m0 bT _ aG]
  by_cases a1:j / sz=i
  ·have o:i*sz≤j∧j<i*sz+sz:=by
    subst a1
    constructor
    ·exact Nat.div_mul_le_self j sz
    ·have:=Nat.lt_div_mul_add (a:=j) bT;omega
   rw [if_pos o,a1,List.getElem?_set_self af]
   have:j % sz=j-i*sz:=by
    subst a1;have:=Nat.div_add_mod j sz;rw [Nat.mul_comm] at this;omega
   simp [this]
  ·have o : ¬(i*sz≤j∧j<i*sz+sz):=by
    rintro ⟨a,b⟩
    apply a1
    obtain ⟨d,rfl⟩ : ∃d,j=i*sz+d:=⟨j-i*sz,by omega⟩
    rw [Nat.mul_comm i sz,Nat.mul_add_div bT,Nat.div_eq_of_lt (by omega)]
    omega
   rw [if_neg o,List.getElem?_set_ne (Ne.symm a1)]
def mi (w:World)(ok:Nat→Prop)(aK:hs)(aQ:hi)(c8 I sz:Nat)(es:List (List al)):Prop :=
 (∀e∈es,e.length=sz)∧ ∀(j:Nat) x,es.flatten[j]? = some x→ ∃v,w.cell? ⟨c8,I+j,none⟩=some v∧iv v=true∧Rel w ok aK aQ x v
theorem hz.rd {w:World}{ok:Nat→Prop}{aK:hs}{aQ:hi}{I:ap}{c8 m:Nat}(h:hz w ok aK aQ I (some (c8,m))):mi w ok aK aQ c8 0 I.sz I.es:=by
 obtain ⟨c,dv,o,J,ao,aO⟩:=h
 refine ⟨ao,fun j x aa=> ?_⟩
 obtain ⟨v,ar,ay,bR⟩:=aO j x aa
 exact ⟨v,by rw [cell_of_row w c8 (0+j) c dv (0,0) o,Nat.zero_add];exact ar,ay,bR⟩
theorem Vi {w:World}{ok:Nat→Prop}{aK:hs}{aQ:hi}{x:al}{v:Value}(h:Rel w ok aK aQ x v)(ad:x.one=true):v.oneCell'=true:=h.iv ad
theorem Hy {P:Program}{t:TypeId}(h:(P.underlying t).isSome=true)(w:World):(isAgg t).run P w = .ok (vZ P t) w:=by
 cases bq:P.underlying t with
 | none=>simp [bq] at h
 | some d=>cases d<;>simp [isAgg,vZ,run_underlying bq,bq]
theorem ru {P:Program}{t:TypeId}(h:(P.info? t).isSome=true)(w:World):(sizeOf t).run P w = .ok (P.cellsOf t) w:=by
 cases af:P.info? t with
 | none=>simp [af] at h
 | some i=>simp [sizeOf,typeInfo,af,Program.cellsOf]
theorem o5 (b I n:Nat):(⟨b,I,none⟩:Addr).add n=⟨b,I+n,none⟩:=by unfold Addr.add;split<;>simp_all
theorem CY {P:Program}{w:World}{ok:Nat→Prop}{aK:hs}{aQ:hi}{c8 I sz i off:Nat}{es:List (List al)}{c:List al}{t:TypeId}{x:al}
 (gF:mi w ok aK aQ c8 I sz es) (he:es[i]? = some c) (b1:pH P t c off=some x) :
 ∃v,(Instr.loadAt t (.pointer (some ⟨c8,I+(i*sz+off),none⟩))).run P w = .ok v w∧Rel w ok aK aQ x v:=by
 have hlen:c.length=sz:=gF.1 c (List.mem_of_getElem? he)
 unfold pH at b1
 split at b1
 ·simp at b1
 ·rename_i af
  simp only [Bool.not_eq_true',Bool.not_eq_false,Bool.and_eq_true] at af
  have ie : ∀j,j<sz→ ∃y v,c[j]? = some y∧w.cell? ⟨c8,I+(i*sz+j),none⟩=some v∧iv v=true∧Rel w ok aK aQ y v:=by
   intro j av
   have aN:c[j]? = some c[j]:=List.getElem?_eq_getElem (by omega)
   obtain ⟨v,ar,ay,bR⟩:=gF.2 (i*sz+j) c[j] (by rw [vz gF.1 he av,aN])
   exact ⟨_,v,aN,ar,ay,bR⟩
  simp only [Instr.loadAt,Instr.sureAddr,loadVar,Sem.run_bind,Sem.run_pure,Result.andThen,Hy af.1,ru af.2]
  split at b1
  ·rename_i oF
   rw [oF]
   split at b1
   ·rename_i hle
    simp at b1;subst b1
    have aG:=run_loadCells (P:=P) w ⟨c8,I+(i*sz+off),none⟩ (P.cellsOf t) (fun j=>(w.cell? ⟨c8,I+(i*sz+(off+j)),none⟩).getD undef) (by
     intro j av
     obtain ⟨y,v,-,ar,-,-⟩:=ie (off+j) (by omega)
     rw [o5,show I+(i*sz+off)+j=I+(i*sz+(off+j)) by omega,ar];rfl)
    refine ⟨.agg (List.map (fun j=>(w.cell? ⟨c8,I+(i*sz+(off+j)),none⟩).getD undef) (List.range (P.cellsOf t))).toArray,by simp [aG,Result.andThen,ru af.2],?_⟩
    refine .agg _ (by simp;omega) ?_ ?_
    ·intro j v aX
     rw [List.getElem?_map,Option.map_eq_some_iff] at aX
     obtain ⟨q,r2,rfl⟩:=aX
     obtain ⟨r3,zx⟩:=List.getElem?_eq_some_iff.1 r2
     have a1:j<P.cellsOf t:=by simpa using r3
     obtain rfl:j=q:=by simpa using zx
     obtain ⟨y,v,-,ar,ay,-⟩:=ie (off+j) (by omega)
     rw [ar];exact ay
    ·intro j y v aN aX
     rw [List.getElem?_map,Option.map_eq_some_iff] at aX
     obtain ⟨q,r2,rfl⟩:=aX
     obtain ⟨r3,zx⟩:=List.getElem?_eq_some_iff.1 r2
     have a1:j<P.cellsOf t:=by simpa using r3
     obtain rfl:j=q:=by simpa using zx
     rw [List.getElem?_take,if_pos a1,List.getElem?_drop] at aN
     obtain ⟨j4,v,h0,ar,ay,bR⟩:=ie (off+j) (by omega)
     rw [h0] at aN;simp at aN;subst aN
     rw [ar];exact bR
   ·simp at b1
  ·rename_i oF
   have oF:vZ P t=false:=by simpa using oF
   rw [oF]
   split at b1
   ·rename_i y aN
    split at b1
    ·simp at b1;subst b1
     have ur:off<sz:=by
      rcases Nat.lt_or_ge off c.length with h|h
      ·omega
      ·rw [List.getElem?_eq_none h] at aN;simp at aN
     obtain ⟨j4,v,h0,ar,ay,bR⟩:=ie off ur
     rw [h0] at aN;simp at aN;subst aN
     exact ⟨v,by simp [ar],bR⟩
    ·simp at b1
   ·simp at b1
theorem GB {c:List al}{off:Nat}{vs:List al}(h:off+vs.length≤c.length):(setCells c off vs).length=c.length:=by
 simp [setCells];omega
theorem CP {c:List al}{off:Nat}{vs:List al}(h:off+vs.length≤c.length)(j:Nat):
 (setCells c off vs)[j]? = if off≤j∧j<off+vs.length then vs[j-off]? else c[j]? := by
 unfold setCells
 rw [List.append_assoc,List.getElem?_append]
 have o:(c.take off).length=off:=by simp;omega
 rw [o]
 by_cases a:j<off
 ·rw [if_pos a,if_neg (by omega),List.getElem?_take,if_pos a]
 ·rw [if_neg a,List.getElem?_append]
  by_cases b:j<off+vs.length
  ·rw [if_pos (by omega),if_pos ⟨by omega,b⟩]
  ·rw [if_neg (by omega),if_neg (by omega),List.getElem?_drop]
   congr 1;omega
theorem Q5 {c:Array Value}{p:Nat}{vs:List Value}(h:p+vs.length≤c.size)(j:Nat):
 (c.toList.take p++vs++c.toList.drop (p+vs.length)).toArray[j]? = if p≤j∧j<p+vs.length then vs[j-p]? else c[j]? := by
 rw [List.getElem?_toArray,List.append_assoc,List.getElem?_append]
 have o:(c.toList.take p).length=p:=by simp;omega
 rw [o]
 by_cases a:j<p
 ·rw [if_pos a,if_neg (by omega),List.getElem?_take,if_pos a,Array.getElem?_toList]
 ·rw [if_neg a,List.getElem?_append]
  by_cases b:j<p+vs.length
  ·rw [if_pos (by omega),if_pos ⟨by omega,b⟩]
  ·rw [if_neg (by omega),if_neg (by omega),List.getElem?_drop,Array.getElem?_toList]
   congr 1;omega
theorem Og {P:Program}{g:G}{s:S}{aj:ef}{a:Act}{w:World}(h:b9 g s aj a w){r k b m i off:Nat}{l:List ap}{I:ap}{c:List al}
 (ah:s.aE r=some l) (ad:s.ab r k=some I) (aV:I.bY = .live) (ae:aj r k=some (b,m)) (he:I.es[i]? = some c)
 {t:TypeId} (Ej:(P.info? t).isSome=true) {x:al} {v:Value} (aa:Rel w (s.ok g aj w) s.aK (s.aQ aj) x v) (jV:x.one=true∨ ∃c,x = .agg c)
 (dK:x.cells.length=P.cellsOf t) (gD:off+x.cells.length≤c.length) :
 ∃bm,(Instr.storeAt t (.pointer (some ⟨b,i*I.sz+off,none⟩)) v).run P w = .ok () bm ∧
  b9 g (s.setRow r (l.set k {I with es:=I.es.set i (setCells c off x.cells)})) aj a bm:=by
 obtain ⟨vs,aX,ny,ie,ej⟩:=aa.cellsOf jV
 have a3:=h.obj r k I ad
 rw [ae] at a3
 obtain ⟨bS,dv,o,J,ao,aO⟩:=a3
 have hlen:c.length=I.sz:=ao c (List.mem_of_getElem? he)
 have us:i*I.sz+off+vs.length≤bS.size:=by
  rcases Nat.eq_zero_or_pos I.sz with b6|b6
  ·have:off=0:=by omega
   have:vs.length=0:=by omega
   rw [b6];omega
  ·have aG:I.es.flatten[i*I.sz+(I.sz-1)]? = some (c[I.sz-1]'(by omega)):=by
    rw [vz ao he (by omega)];exact List.getElem?_eq_getElem (by omega)
   obtain ⟨La,ar,-,-⟩:=aO _ _ aG
   have:=(Array.getElem?_eq_some_iff.1 ar).1
   omega
 have kg:=run_storeCells_at P b (i*I.sz+off) dv vs 0 bS w o (by simpa using us) (fun La r4=>by
  obtain ⟨q,a1⟩:=List.getElem?_of_mem r4
  exact ie q La a1)
 simp only [Nat.add_zero] at kg
 have ha:(Instr.storeAt t (.pointer (some ⟨b,i*I.sz+off,none⟩)) v).run P w =
  .ok () (w.setRow b (bS.toList.take (i*I.sz+off)++vs++bS.toList.drop (i*I.sz+off+vs.length)).toArray):=by
  have bT:v.cells.size=P.cellsOf t:=by rw [aX];simpa using ny.trans dK
  simp only [Instr.storeAt,Instr.sureAddr,storeVar,Sem.run_bind,Sem.run_pure,Result.andThen,ru Ej,bT,ne_eq,not_true_eq_false,if_false]
  rw [aX]
  simpa using kg
 refine ⟨_,ha,?_⟩
 have R3:(w.setRow b (bS.toList.take (i*I.sz+off)++vs++bS.toList.drop (i*I.sz+off+vs.length)).toArray).heap.size=w.heap.size:=size_setRow _ _ _
 have r5:(setCells c off x.cells).length=I.sz:=by rw [GB gD];exact hlen
 refine (h.write ah ad aV ae _ _ dv (setRow_heap w b bS _ dv _ o) R3 (fun q a1=>setRow_other w b q _ a1) rfl rfl rfl ?_ ?_ ?_).1
 ·simp;omega
 ·intro e hm
  rcases List.mem_or_eq_of_mem_set hm with bX|bX
  ·exact ao e bX
  ·exact bX▸r5
 ·intro j y aN
  rw [Q5 us]
  rw [G1 ao he r5] at aN
  by_cases kh:i*I.sz≤j∧j<i*I.sz+I.sz
  ·rw [if_pos kh,CP gD] at aN
   by_cases JQ:off≤j-i*I.sz∧j-i*I.sz<off+x.cells.length
   ·rw [if_pos JQ] at aN
    rw [if_pos ⟨by omega,by omega⟩]
    have a1:j-(i*I.sz+off)<vs.length:=by omega
    refine ⟨vs[j-(i*I.sz+off)],List.getElem?_eq_getElem a1,ie _ _ (List.getElem?_eq_getElem a1),ej (j-i*I.sz-off) y _ aN ?_⟩
    rw [show j-i*I.sz-off=j-(i*I.sz+off) by omega]
    exact List.getElem?_eq_getElem a1
   ·rw [if_neg JQ] at aN
    rw [if_neg (by omega)]
    refine aO j y ?_
    rw [show j=i*I.sz+(j-i*I.sz) by omega,vz ao he (by omega)]
    exact aN
  ·rw [if_neg kh] at aN
   rw [if_neg (by rw [ny];omega)]
   exact aO j y aN
end Go.VL
namespace Go.VL
set_option linter.unusedVariables false
set_option linter.unusedSimpArgs false
open Go
def S.gq (s:S)(u:List (Nat×List ap)):S:=u.foldl (fun s p=>s.setRow p.1 p.2) s
@[simp] theorem S.Vv (s:S):s.gq []=s:=rfl
@[simp] theorem S.Vw (s:S) (p:Nat×List ap):s.gq [p]=s.setRow p.1 p.2:=rfl
section
variable {w:World} {ok:Nat→Prop} {aK:hs} {aQ:hi} {v:Value}
theorem Rel.qy {x:Bool}(h:Rel w ok aK aQ (.b x) v):v = .bool x:=by cases h;rfl
theorem Rel.m4 {k:IntKind}{x:Int}(h:Rel w ok aK aQ (.n k x) v):v = .int k x:=by cases h;rfl
theorem Rel.uh {x:ByteArray}(h:Rel w ok aK aQ (.s x) v):v = .string x:=by cases h;rfl
theorem Rel.rB (h:Rel w ok aK aQ .gv v):v = .pointer none:=by cases h;rfl
theorem Rel.nm (h:Rel w ok aK aQ .dJ v):v = .slice none 0 0:=by cases h;rfl
theorem Rel.yP (h:Rel w ok aK aQ .gW v): ∃a c,v = .slice (some a) 0 c:=by cases h;exact ⟨_,_,rfl⟩
theorem Rel.HX {sz:Nat}(h:Rel w ok aK aQ (.ig sz none) v):v = .pointer none:=by cases h;rfl
theorem Rel.C9 {sz:Nat}{c:List al}(h:Rel w ok aK aQ (.ig sz (some c)) v):Rel w ok aK aQ (.dg sz [c] 0 0) v:=by cases h;assumption
theorem Rel.yZ {f:Nat}{c:List al}(h:Rel w ok aK aQ (.fn f c) v): ∃vs:List Value,v = .func (.func f) #[] vs.toArray∧vs.length=c.length ∧
 ∀(j:Nat) x u,c[j]? = some x→vs[j]? = some u→Rel w ok aK aQ x u:=by
 cases h with|fn vs aG ah=>exact ⟨vs,rfl,aG,ah⟩
theorem Rel.vS {c:List al}(h:Rel w ok aK aQ (.agg c) v): ∃vs:List Value,v = .agg vs.toArray∧vs.length=c.length∧(∀(j:Nat) u,vs[j]? = some u→VL.iv u=true) ∧
 ∀(j:Nat) x u,c[j]? = some x→vs[j]? = some u→Rel w ok aK aQ x u:=by
 cases h with|agg vs aG aL ah=>exact ⟨vs,rfl,aG,aL,ah⟩
theorem Rel.tT {c:List al}(h:Rel w ok aK aQ (.dx c) v): ∃vs:List Value,v = .tuple vs.toArray∧vs.length=c.length ∧
 ∀(j:Nat) x u,c[j]? = some x→vs[j]? = some u→Rel w ok aK aQ x u:=by
 cases h with|dx vs aG ah=>exact ⟨vs,rfl,aG,ah⟩
theorem Rel.tU {r k i off sz:Nat}{p:Option (Nat×Nat)}(h:Rel w ok aK aQ (.ref r k i off) v)(b1:aQ r k=some (sz,p)):
 p=none∨ ∃b m,p=some (b,m)∧v = .pointer (some ⟨b,i*sz+off,none⟩):=by
 cases h with
 | nn a hu a5 =>
  cases p with
  | none=>exact .inl rfl
  | some q=>exact absurd b1 (a5 _ _)
 | ref hu h =>
  rw [b1] at h
  simp only [Option.some.injEq,Prod.mk.injEq] at h
  obtain ⟨rfl,rfl⟩:=h
  exact .inr ⟨_,_,rfl,rfl⟩
theorem Rel.VE {r k i off:Nat}(h:Rel w ok aK aQ (.ref r k i off) v): ∃a,v = .pointer a:=by
 cases h with
 | nn a=>exact ⟨a,rfl⟩
 | ref=>exact ⟨_,rfl⟩
theorem Rel.Pc {r k i off sz b m:Nat}(h:Rel w ok aK aQ (.ref r k i off) v)(b1:aQ r k=some (sz,some (b,m)))(JR:Nat):
 Rel w ok aK aQ (.ref r k i JR) (.pointer (some ⟨b,i*sz+JR,none⟩)):=by
 cases h with
 | nn a hu a5=>exact absurd b1 (a5 _ _)
 | ref hu h=>exact .ref hu b1
theorem Rel.tV {sz i off:Nat}{es:List (List al)}(h:Rel w ok aK aQ (.dg sz es i off) v): ∃c8 I,(ok c8∧gL es)∧v = .pointer (some ⟨c8,I+(i*sz+off),none⟩)∧mi w ok aK aQ c8 I sz es:=by
 cases h with
 | dg cs aP ae aG hw aL ah=>exact ⟨_,_,⟨aP,ae⟩,rfl,aG,fun j x aa=>⟨cs j,hw j x aa,aL j x aa,ah j x aa⟩⟩
theorem Rel.vT {r k bw len sz:Nat}{p:Option (Nat×Nat)}(h:Rel w ok aK aQ (.bp r k bw len) v)(b1:aQ r k=some (sz,p)):
 (p=none∧bw=0∧len=0∧v = .slice none 0 0)∨ ∃b m a c,p=some (b,m)∧v = .slice a len c∧len≤c∧c<9223372036854775808∧(c=0∨(a=some ⟨b,bw*sz,none⟩∧(bw+c)*sz=m)):=by
 cases h with
 | la a l c hu a5=>rw [b1] at a5;simp at a5
 | lA hu h =>
  rw [b1] at h
  simp only [Option.some.injEq,Prod.mk.injEq] at h
  exact .inl ⟨h.2,rfl,rfl,rfl⟩
 | bp hu h aG aL hm =>
  rw [b1] at h
  simp only [Option.some.injEq,Prod.mk.injEq] at h
  obtain ⟨rfl,rfl⟩:=h
  exact .inr ⟨_,_,_,_,rfl,rfl,aG,aL,hm.2.imp id fun e=>⟨e,hm.1⟩⟩
theorem Rel.rC {r k bw len sz:Nat}{p:Option (Nat×Nat)}(h:Rel w ok aK aQ (.bp r k bw len) v)(b1:aQ r k=some (sz,p)):
 (p=none∧bw=0∧len=0∧v = .slice none 0 0)∨ ∃b m a c,p=some (b,m)∧v = .slice a len c∧len≤c∧c<9223372036854775808∧(bw+c)*sz=m∧(c=0∨a=some ⟨b,bw*sz,none⟩):=by
 cases h with
 | la a l c hu a5=>rw [b1] at a5;simp at a5
 | lA hu h =>
  rw [b1] at h
  simp only [Option.some.injEq,Prod.mk.injEq] at h
  exact .inl ⟨h.2,rfl,rfl,rfl⟩
 | bp hu h aG aL hm =>
  rw [b1] at h
  simp only [Option.some.injEq,Prod.mk.injEq] at h
  obtain ⟨rfl,rfl⟩:=h
  exact .inr ⟨_,_,_,_,rfl,rfl,aG,aL,hm⟩
theorem Rel.Vj {r k bw len:Nat}(h:Rel w ok aK aQ (.bp r k bw len) v): ∃a l c,v = .slice a l c:=by
 cases h<;>exact ⟨_,_,_,rfl⟩
theorem Rel.pF {sz:Nat}{es:List (List al)}(h:Rel w ok aK aQ (.isl sz es) v):
 (es=[]∧ ∃a c,v = .slice a 0 c∧(a=none→c=0))∨ ∃c8 off c,(ok c8∧gL es)∧v = .slice (some ⟨c8,off,none⟩) es.length c∧es.length≤c∧mi w ok aK aQ c8 off sz es:=by
 cases h with
 | iy sz a c h=>exact .inl ⟨rfl,a,c,rfl,h⟩
 | isl cs aP ae aG aL hw hd ah=>exact .inr ⟨_,_,_,⟨aP,ae⟩,rfl,aL,aG,fun j x aa=>⟨cs j,hw j x aa,hd j x aa,ah j x aa⟩⟩
theorem mi.isl {c8 off c sz:Nat}{es:List (List al)}(h:mi w ok aK aQ c8 off sz es)(aP:ok c8∧gL es)(aL:es.length≤c):Rel w ok aK aQ (.isl sz es) (.slice (some ⟨c8,off,none⟩) es.length c):=by
 have aa : ∀j:Nat,∃v,∀x,es.flatten[j]? = some x→w.cell? ⟨c8,off+j,none⟩=some v∧VL.iv v=true∧Rel w ok aK aQ x v:=by
  intro j
  cases av:es.flatten[j]? with
  | none=>exact ⟨undef,fun x aa=>by simp at aa⟩
  | some y =>
   obtain ⟨v,o⟩:=h.2 j y av
   exact ⟨v,fun x aa=>by simp at aa;subst aa;exact o⟩
 exact .isl (fun j=>(aa j).choose) aP.1 aP.2 h.1 aL (fun j x av=>((aa j).choose_spec x av).1) (fun j x av=>((aa j).choose_spec x av).2.1) (fun j x av=>((aa j).choose_spec x av).2.2)
theorem mi.dg {c8 I i off sz:Nat}{es:List (List al)}(h:mi w ok aK aQ c8 I sz es)(aP:ok c8∧gL es):Rel w ok aK aQ (.dg sz es i off) (.pointer (some ⟨c8,I+(i*sz+off),none⟩)):=by
 have aa : ∀j:Nat,∃v,∀x,es.flatten[j]? = some x→w.cell? ⟨c8,I+j,none⟩=some v∧VL.iv v=true∧Rel w ok aK aQ x v:=by
  intro j
  cases av:es.flatten[j]? with
  | none=>exact ⟨undef,fun x aa=>by simp at aa⟩
  | some y =>
   obtain ⟨v,o⟩:=h.2 j y av
   exact ⟨v,fun x aa=>by simp at aa;subst aa;exact o⟩
 exact .dg (fun j=>(aa j).choose) aP.1 aP.2 h.1 (fun j x av=>((aa j).choose_spec x av).1) (fun j x av=>((aa j).choose_spec x av).2.1) (fun j x av=>((aa j).choose_spec x av).2.2)
end
def Fin (P:Program)(g:G)(s:S)(a:Act)(w:World)(I:Oper)(bd:gx):Prop :=
 ∃v bm bj,((execOp a.eval I).run P w = .ok (.value v) bm∨((execOp a.eval I).run P w = .ok .skip bm∧v=undef)) ∧
  b9 g (s.gq bd.eE) bj a bm∧Rel bm ((s.gq bd.eE).ok g bj bm) (s.gq bd.eE).aK ((s.gq bd.eE).aQ bj) bd.val v
section
variable {P:Program} {g:G} {s:S} {aj:ef} {a:Act} {w:World} {I:Oper} {cb:ew} {aC:Nat} {bd:gx}
theorem gK (h:b9 g s aj a w){v:Value}(ha:(execOp a.eval I).run P w = .ok (.value v) w)(hu:bd.eE=[])
 (ah:Rel w (s.ok g aj w) s.aK (s.aQ aj) bd.val v):Fin P g s a w I bd :=
 ⟨v,w,aj,.inl ha,by rw [hu];exact h,by rw [hu];exact ah⟩
theorem Iu {x:Operand}(h:b9 g s aj a w)(ad:I.op = .move x∨I.op = .assign x)(ai:dD P s.E s.aE aC I cb=some bd):Fin P g s a w I bd:=by
 have:bd={val:=d2 s.E x}:=by rcases ad with ad|ad<;>simp [dD,ad] at ai<;>exact ai.symm
 subst this
 refine gK (v:=a.eval x) h ?_ rfl (h.eval x)
 rcases ad with ad|ad<;>simp [execOp,ad]
theorem QD {c x y:Operand}(h:b9 g s aj a w)(ad:I.op = .pick c x y)(ai:dD P s.E s.aE aC I cb=some bd)(b4:∀p∈bd.ep,p):Fin P g s a w I bd:=by
 have aL:=h.eval c
 simp only [dD,ad] at ai
 have key : ∀t:Bool,d2 s.E c = .b t→bd.eE=[]→bd.val=(if t then d2 s.E x else d2 s.E y)→Fin P g s a w I bd:=by
  intro t b1 hu aX
  rw [b1] at aL
  have e:a.eval c = .bool t:=aL.qy
  refine gK (v:=if t then a.eval x else a.eval y) h (by simp [execOp,ad,e,asBool]) hu ?_
  rw [aX];cases t
  ·exact h.eval y
  ·exact h.eval x
 split at ai
 ·rename_i z t b6
  simp at ai;subst ai
  have e:z=t:=b4 _ (by simp)
  subst e
  exact key z b6 rfl rfl
 ·rename_i b6 _;simp at ai;subst ai;exact key true b6 rfl rfl
 ·rename_i b6 _;simp at ai;subst ai;exact key false b6 rfl rfl
 ·simp at ai
theorem yQ (h:b9 g s aj a w)(dF:s.aE aC=none){v:Value}{ab:ap}{c:Array Value}{dv:TypeId}(aV:ab.bY = .live)
 (ha:(execOp a.eval I).run P w = .ok (.value v) (w.alloc (.cells c dv))) (hu:bd.eE=[(aC,[ab])]) (hlen : ∀e∈ab.es,e.length=ab.sz)
 (aL : ∀(j:Nat) x,ab.es.flatten[j]? = some x→ ∃v,c[j]? = some v∧iv v=true∧Rel w (s.ok g aj w) s.aK (s.aQ aj) x v)
 (hval : ∀(bm:World) (i4:Nat→Prop) (kO:hs) (kf:hi),kO aC 0→kf aC 0=some (ab.sz,some (w.heap.size,c.size))→Rel bm i4 kO kf bd.val v):Fin P g s a w I bd:=by
 obtain ⟨bj,ae,bT,-⟩:=h.alloc dF ab aV c dv hlen aL
 have o:(s.setRow aC [ab]).aK aC 0:=by rw [k9];simp
 have J:(s.setRow aC [ab]).aQ bj aC 0=some (ab.sz,some (w.heap.size,c.size)):=by simp [S.aQ,jF,j8,aV,ae]
 exact ⟨v,_,bj,.inl ha,by rw [hu];exact bT,by rw [hu];exact hval _ _ _ _ o J⟩
theorem vA {t:TypeId}{z:List al}(b6:oq P t=some z): ∃i du,P.info? t=some i∧i.zero=some du∧z=du.cells.toList.map ofValue ∧
 ∀(j:Nat) x,z[j]? = some x→ ∃v,du.cells[j]? = some v∧iv v=true∧ ∀(w:World) (ok:Nat→Prop) (aK:hs) (aQ:hi),Rel w ok aK aQ x v:=by
 unfold oq at b6
 cases af:P.info? t with
 | none=>simp [af] at b6
 | some i =>
  cases jk:i.zero with
  | none=>simp [af,jk] at b6
  | some du =>
   simp only [af,jk] at b6
   split at b6
   ·rename_i lH
    simp only [Option.some.injEq] at b6
    refine ⟨i,du,rfl,jk,b6.symm,fun j x aa=> ?_⟩
    subst b6
    rw [List.getElem?_map,Option.map_eq_some_iff] at aa
    obtain ⟨v,aX,rfl⟩:=aa
    refine ⟨v,by rw [← Array.getElem?_toList];exact aX,?_,fun w ok aK aQ=>GZ v⟩
    exact List.all_eq_true.1 lH v (List.mem_of_getElem? aX)
   ·simp at b6
theorem PQ {t:TypeId}(h:b9 g s aj a w)(dF:s.aE aC=none)(ad:I.op = .alloc t)(ai:dD P s.E s.aE aC I cb=some bd):Fin P g s a w I bd:=by
 simp only [dD,ad] at ai
 split at ai
 ·rename_i z b6
  obtain ⟨i,du,af,jk,e,ie⟩:=vA b6
  simp only [Option.some.injEq] at ai
  subst ai
  refine yQ (v:= .pointer (some ⟨w.heap.size,0,none⟩)) (c:=du.cells) (dv:=t) (ab:=⟨z.length,[z],.live⟩) h dF rfl ?_ rfl (by simp) ?_ ?_
  ·simp [execOp,ad,Instr.alloc,zeroValue,typeInfo,af,jk,newVar,newRow]
  ·intro j x aa
   simp only [List.flatten_cons,List.flatten_nil,List.append_nil] at aa
   obtain ⟨v,o,J,ao⟩:=ie j x aa
   exact ⟨v,o,J,ao _ _ _ _⟩
  ·intro bm i4 kO kf hu b1
   have:=Rel.ref (w:=bm) (ok:=i4) (i:=0) (off:=0) hu b1
   simpa using this
 ·simp at ai
theorem Q6 {t:TypeId}{x:Operand}(h:b9 g s aj a w)(dF:s.aE aC=none)(ad:I.op = .box t x)(ai:dD P s.E s.aE aC I cb=some bd):Fin P g s a w I bd:=by
 simp only [dD,ad] at ai
 have aa:=h.eval x
 have key : ∀ab:ap,ab.bY = .live→ab.es=[(d2 s.E x).cells]→ab.sz=(d2 s.E x).cells.length→((d2 s.E x).one=true∨ ∃c,d2 s.E x = .agg c) →
  bd.eE=[(aC,[ab])]→bd.val = .ref aC 0 0 0→Fin P g s a w I bd:=by
  intro ab aV fY dK jV hu aX
  obtain ⟨vs,ar,ay,bR,dc⟩:=aa.cellsOf jV
  refine yQ (v:= .pointer (some ⟨w.heap.size,0,none⟩)) (c:=(a.eval x).cells) (dv:=t) h dF aV ?_ hu ?_ ?_ ?_
  ·simp [execOp,ad,Instr.box,newVar,newRow]
  ·intro e he;rw [fY] at he;simp at he;rw [he,dK]
  ·intro j y aN
   rw [fY] at aN
   simp only [List.flatten_cons,List.flatten_nil,List.append_nil] at aN
   have av:j<vs.length:=by
    rcases Nat.lt_or_ge j (d2 s.E x).cells.length with bX|bX
    ·omega
    ·rw [List.getElem?_eq_none bX] at aN;simp at aN
   refine ⟨vs[j],by rw [ar];simp [av],bR j _ (List.getElem?_eq_getElem av),dc j y _ aN (List.getElem?_eq_getElem av)⟩
  ·intro bm i4 kO kf lh b1
   have:=Rel.ref (w:=bm) (ok:=i4) (i:=0) (off:=0) lh b1
   rw [aX];simpa using this
 split at ai
 ·rename_i c aL
  simp only [Option.some.injEq] at ai
  subst ai
  exact key _ rfl (by rw [aL];rfl) (by rw [aL];rfl) (.inr ⟨c,aL⟩) rfl rfl
 ·split at ai
  ·rename_i jV
   simp only [Option.some.injEq] at ai
   subst ai
   have e:(d2 s.E x).cells=[d2 s.E x]:=by
    generalize d2 s.E x=y at jV
    cases y<;>first|rfl|simp [al.one] at jV
   exact key _ rfl (by rw [e]) (by rw [e];rfl) (.inl jV) rfl rfl
  ·simp at ai
theorem gM {s:S}{aj:ef}{r k:Nat}{ab:ap}(h:s.ab r k=some ab):s.aQ aj r k=some (ab.sz,aj r k):=by simp [S.aQ,h]
theorem qo {row:Option (List ap)}{k:Nat}{ab:ap}{bZ:List Prop}(h:mI row k cb=some (ab,bZ))(b4:∀p∈bZ,p):cz row k=some ab:=by
 unfold mI at h
 split at h
 ·split at h
  ·simp at h;obtain ⟨rfl,rfl⟩:=h;exact b4 _ (by simp)
  ·simp at h
 ·split at h
  ·rename_i bX;simp at h;obtain ⟨rfl,rfl⟩:=h;exact bX
  ·simp at h
theorem vH {es:List (List al)}{i:Nat}{c:List al}{bZ:List Prop}(h:elemAt es i cb=some (c,bZ))(b4:∀p∈bZ,p):es[i]? = some c:=by
 unfold elemAt at h
 split at h
 ·simp at h;obtain ⟨rfl,rfl⟩:=h;exact b4 _ (by simp)
 ·simp at h;obtain ⟨rfl,rfl⟩:=h;exact b4 _ (by simp)
 ·split at h
  ·rename_i bX;simp at h;obtain ⟨rfl,rfl⟩:=h;exact bX
  ·simp at h
theorem QE {t:TypeId}{x:Operand}(h:b9 g s aj a w)(ad:I.op = .load t x)(ai:dD P s.E s.aE aC I cb=some bd)(b4:∀p∈bd.ep,p):Fin P g s a w I bd:=by
 simp only [dD,ad] at ai
 have aa:=h.eval x
 split at ai
 ·rename_i r k i off fy
  rw [fy] at aa
  split at ai
  ·rename_i ab bZ a3
   split at ai
   ·rename_i c a6 li
    split at ai
    ·rename_i v aX
     simp only [Option.some.injEq] at ai
     subst ai
     have iz:s.ab r k=some ab:=qo a3 fun p ae=>b4 p (by simp [ae])
     have oG:=vH li fun p ae=>b4 p (by simp [ae])
     have ej:=h.obj r k ab iz
     rcases aa.tU (gM iz) with h0|⟨b,m,ae,hval⟩
     ·rw [h0] at ej
      simp only [hz] at ej
      rw [ej] at oG;simp at oG
     ·rw [ae] at ej
      obtain ⟨u,o,J⟩:=CY (P:=P) ej.rd oG aX
      refine gK (v:=u) h ?_ rfl J
      rw [Nat.zero_add] at o
      simp [execOp,ad,hval,o]
    ·simp at ai
   ·simp at ai
  ·simp at ai
 ·rename_i sz es i off fy
  rw [fy] at aa
  split at ai
  ·rename_i c a6 li
   split at ai
   ·rename_i v aX
    simp only [Option.some.injEq] at ai
    subst ai
    have oG:=vH li fun p ae=>b4 p (by simp [ae])
    obtain ⟨c8,bD,aP,hval,gF⟩:=aa.tV
    obtain ⟨u,o,J⟩:=CY (P:=P) gF oG aX
    refine gK (v:=u) h ?_ rfl J
    simp [execOp,ad,hval,o]
   ·simp at ai
  ·simp at ai
 ·simp at ai
end
end Go.VL
namespace Go.VL
set_option linter.unusedVariables false
set_option linter.unusedSimpArgs false
open Go
section
variable {P:Program} {g:G} {s:S} {aj:ef} {a:Act} {w:World} {I:Oper} {cb:ew} {aC:Nat} {bd:gx}
theorem Hz (h:b9 g s aj a w){r k i off:Nat}{row:List ap}{ab:ap}{c:List al}{t:TypeId}{x y:Operand}(ad:I.op = .store t x y)
 (fy:d2 s.E x = .ref r k i off) (cE:s.aE r=some row) (a3:s.ab r k=some ab) (aV:ab.bY = .live) (li:ab.es[i]? = some c)
 (jV:(d2 s.E y).one=true∨ ∃c,d2 s.E y = .agg c) (dK:(d2 s.E y).cells.length=P.cellsOf t) (Ej:(P.info? t).isSome=true)
 (gD:off+(d2 s.E y).cells.length≤c.length) (ai:bd.val = .dead) (hu:bd.eE=[(r,row.set k {ab with es:=ab.es.set i (setCells c off (d2 s.E y).cells)})]):Fin P g s a w I bd:=by
 have aa:=h.eval x
 rw [fy] at aa
 have ej:=h.obj r k ab a3
 rcases aa.tU (gM a3) with h0|⟨b,m,ae,hval⟩
 ·rw [h0] at ej;simp only [hz] at ej;rw [ej] at li;simp at li
 ·obtain ⟨bm,o,J⟩:=Og (P:=P) h cE a3 aV ae li Ej (h.eval y) jV dK gD
  refine ⟨undef,bm,aj,.inr ⟨?_,rfl⟩,by rw [hu];exact J,by rw [ai];exact .dead _⟩
  simp [execOp,ad,hval,o]
theorem PR {t:TypeId}{x y:Operand}(h:b9 g s aj a w)(ad:I.op = .store t x y)(ai:dD P s.E s.aE aC I cb=some bd)(b4:∀p∈bd.ep,p):Fin P g s a w I bd:=by
 simp only [dD,ad] at ai
 split at ai
 ·rename_i r k i off fy
  split at ai
  ·simp at ai
  ·rename_i row cE
   split at ai
   ·rename_i ab bZ R4
    split at ai
    ·simp at ai
    ·rename_i aV
     have aV:ab.bY = .live:=by simpa using aV
     split at ai
     ·simp at ai
     ·rename_i jV
      have jV:=al.G0 (by simpa using jV)
      split at ai
      ·simp at ai
      ·rename_i dK
       simp only [not_or,Decidable.not_not,Bool.not_eq_false] at dK
       have iz:(∀p∈bZ,p)→s.ab r k=some ab:=fun bx=>by
        have:=qo R4 bx
        unfold S.ab;rw [cE];exact this
       split at ai
       ·split at ai
        ·rename_i ur
         simp only [Option.some.injEq] at ai
         subst ai;subst ur
         have c9:i<ab.es.length:=b4 _ (by simp)
         have hd:(d2 s.E y).cells.length=ab.sz:=b4 _ (by simp)
         have wB:=iz fun p ae=>b4 p (by simp [ae])
         have hlen:(ab.es[i]).length=ab.sz:=by
          have ej:=h.obj r k ab wB
          cases ae:aj r k with
          | none=>rw [ae] at ej;simp only [hz] at ej;rw [ej] at c9;simp at c9
          | some q =>
           rw [ae] at ej
           obtain ⟨_,_,_,_,ao,_⟩:=ej
           exact ao _ (List.getElem_mem c9)
         refine Hz h ad fy cE wB aV (c:=ab.es[i]) (List.getElem?_eq_getElem c9) jV dK.1 dK.2 (by omega) rfl ?_
         have e:setCells ab.es[i] 0 (d2 s.E y).cells=(d2 s.E y).cells:=by
          simp [setCells,hlen,hd]
         rw [e]
        ·simp at ai
       ·split at ai
        ·rename_i c a6 li
         split at ai
         ·rename_i gD
          simp only [Option.some.injEq] at ai
          subst ai
          exact Hz h ad fy cE (iz fun p ae=>b4 p (by simp [ae])) aV (vH li fun p ae=>b4 p (by simp [ae])) jV dK.1 dK.2 gD rfl rfl
         ·simp at ai
        ·simp at ai
   ·simp at ai
 ·simp at ai
theorem Oh {x:Operand}(h:b9 g s aj a w)(ad:I.op = .nilCheck x)(ai:dD P s.E s.aE aC I cb=some bd)(b4:∀p∈bd.ep,p):Fin P g s a w I bd:=by
 simp only [dD,ad] at ai
 have aa:=h.eval x
 split at ai
 ·rename_i r k i off fy
  rw [fy] at aa
  split at ai
  ·rename_i ab bZ a3
   split at ai
   ·rename_i c a6 li
    simp only [Option.some.injEq] at ai
    subst ai
    have iz:s.ab r k=some ab:=qo a3 fun p ae=>b4 p (by simp [ae])
    have oG:=vH li fun p ae=>b4 p (by simp [ae])
    have ej:=h.obj r k ab iz
    rcases aa.tU (gM iz) with h0|⟨b,m,ae,hval⟩
    ·rw [h0] at ej;simp only [hz] at ej;rw [ej] at oG;simp at oG
    ·refine gK (v:=a.eval x) h ?_ rfl aa
     simp [execOp,ad,hval]
   ·simp at ai
  ·simp at ai
 ·rename_i sz es i off fy
  rw [fy] at aa
  simp only [Option.some.injEq] at ai
  subst ai
  obtain ⟨c8,bD,aP,hval,gF⟩:=aa.tV
  refine gK (v:=a.eval x) h ?_ rfl aa
  simp [execOp,ad,hval]
 ·rename_i f c fy
  rw [fy] at aa
  simp only [Option.some.injEq] at ai
  subst ai
  obtain ⟨vs,hval,-⟩:=aa.yZ
  refine gK (v:=a.eval x) h ?_ rfl aa
  simp [execOp,ad,hval]
 ·simp at ai
theorem Pd {op:BinOp}{t:TypeId}{x y z:al}{ab:List Prop}(ai:DZ op x y=some (z,ab))(b4:∀p∈ab,p)
 {ok:Nat→Prop} {aK:hs} {aQ:hi} {jn jo:Value} (aa:Rel w ok aK aQ x jn) (aN:Rel w ok aK aQ y jo) (p q:Operand) :
 ∃v,((do eqGuard op t p q jn jo;binOp op t jn jo):Sem Value).run P w = .ok v w∧Rel w ok aK aQ z v:=by
 unfold DZ at ai
 split at ai
 ·rename_i k n cU ls
  have gu:=aa.m4;have ht:=aN.m4
  subst gu;subst ht
  have dd : ∀op,eqGuard op t p q (.int k n) (.int cU ls)=pure ():=fun op=>eqGuard_at_int ..
  simp only [Sem.run_bind,dd,Sem.run_pure,Result.andThen_ok]
  split at ai
  ·simp only [Option.some.injEq,Prod.mk.injEq] at ai
   obtain ⟨rfl,rfl⟩:=ai
   have h0:0≤ls:=b4 _ (by simp)
   exact ⟨_,by simp [binOp,Op.shift,show ¬ls<0 by omega],.n _ _⟩
  ·simp only [Option.some.injEq,Prod.mk.injEq] at ai
   obtain ⟨rfl,rfl⟩:=ai
   have h0:0≤ls:=b4 _ (by simp)
   exact ⟨_,by simp [binOp,Op.shift,show ¬ls<0 by omega],.n _ _⟩
  ·split at ai
   ·simp at ai
   ·rename_i aV
    have aV:k=cU:=by simpa using aV
    subst aV
    split at ai<;>simp only [Option.some.injEq,Prod.mk.injEq,reduceCtorEq] at ai
    all_goals (obtain ⟨rfl,rfl⟩:=ai)
    case h_4|h_5 =>
     have h0:ls≠0:=b4 _ (by simp)
     exact ⟨_,by simp [binOp,Op.intDiv,h0],.n _ _⟩
    all_goals first
     | (refine ⟨_,?_,.n _ _⟩;rw [binOp_add];rfl)
     | (refine ⟨_,?_,.n _ _⟩;rw [binOp_sub];rfl)
     | (refine ⟨_,?_,.n _ _⟩;rw [binOp_mul];rfl)
     | (refine ⟨_,?_,.n _ _⟩;rw [binOp_and];rfl)
     | (refine ⟨_,?_,.n _ _⟩;rw [binOp_or];rfl)
     | (refine ⟨_,?_,.n _ _⟩;rw [binOp_xor];rfl)
     | (refine ⟨_,?_,.b _⟩;simp [binOp,Op.intCmp];done)
 ·rename_i b8 j4
  have gu:=aa.uh;have ht:=aN.uh
  subst gu;subst ht
  have dd : ∀op,eqGuard op t p q (.string b8) (.string j4)=pure ():=fun op=>eqGuard_at_string ..
  simp only [Sem.run_bind,dd,Sem.run_pure,Result.andThen_ok]
  split at ai<;>simp only [Option.some.injEq,Prod.mk.injEq,reduceCtorEq] at ai
  all_goals (obtain ⟨rfl,rfl⟩:=ai)
  ·have h0:b8.size+j4.size<9223372036854775808:=b4 _ (by simp)
   refine ⟨_,?_,.s _⟩
   have o : ¬((b8.size+j4.size:Nat):Int)>IntKind.i64.max:=by rw [IntKind.max_i64];omega
   rw [IntKind.max_i64] at o
   simp [binOp,Op.stringOp]
   omega
  ·exact ⟨_,by simp [binOp,Op.stringOp],.b _⟩
  ·exact ⟨_,by simp [binOp,Op.stringOp],.b _⟩
 ·simp at ai
theorem rz (t:TypeId)(x y:Value):Op.equal t x y=Op.equalIn (9999+1) t x y:=rfl
theorem vo {t:TypeId}{a b:Bool}(d:Nat)(bq:P.underlying t=some .bool):(Op.equalIn (d+1) t (.bool a) (.bool b)).run P w = .ok (a == b) w:=by
 unfold Op.equalIn;simp [run_underlying bq]
theorem vB {t e:TypeId}(d:Nat)(bq:P.underlying t=some (.pointer e)):(Op.equalIn (d+1) t (.pointer none) (.pointer none)).run P w = .ok true w:=by
 unfold Op.equalIn;simp [run_underlying bq]
theorem vC {t e:TypeId}{a:Addr}(d:Nat)(bq:P.underlying t=some (.pointer e)):(Op.equalIn (d+1) t (.pointer (some a)) (.pointer none)).run P w = .ok false w:=by
 unfold Op.equalIn;simp [run_underlying bq]
theorem vD {t e:TypeId}{a:Addr}(d:Nat)(bq:P.underlying t=some (.pointer e)):(Op.equalIn (d+1) t (.pointer none) (.pointer (some a))).run P w = .ok false w:=by
 unfold Op.equalIn;simp [run_underlying bq]
theorem vE {t e:TypeId}(d:Nat)(bq:P.underlying t=some (.slice e)):(Op.equalIn (d+1) t (.slice none 0 0) (.slice none 0 0)).run P w = .ok true w:=by
 unfold Op.equalIn;simp [run_underlying bq]
theorem Hc {t e:TypeId}{a:Addr}{c:Nat}(d:Nat)(bq:P.underlying t=some (.slice e))(n:Nat):(Op.equalIn (d+1) t (.slice (some a) n c) (.slice none 0 0)).run P w = .ok false w:=by
 unfold Op.equalIn;simp [run_underlying bq]
theorem tQ {t:TypeId}{x y:al}{r:Bool}(ai:pg P t x y=some r)
 {ok:Nat→Prop} {aK:hs} {aQ:hi} {jn jo:Value} (aa:Rel w ok aK aQ x jn) (aN:Rel w ok aK aQ y jo) (p q:Operand) :
 ((do eqGuard .eql t p q jn jo;binOp .eql t jn jo):Sem Value).run P w = .ok (.bool r) w ∧
 ((do eqGuard .neq t p q jn jo;binOp .neq t jn jo):Sem Value).run P w = .ok (.bool !r) w:=by
 have key : ∀b:Bool,(∀op,eqGuard op t p q jn jo=pure ())→binOp .eql t jn jo=(do pure (.bool (← Op.equal t jn jo)))→binOp .neq t jn jo=(do pure (.bool (!(← Op.equal t jn jo)))) →
  (Op.equal t jn jo).run P w = .ok b w→((do eqGuard .eql t p q jn jo;binOp .eql t jn jo):Sem Value).run P w = .ok (.bool b) w ∧
  ((do eqGuard .neq t p q jn jo;binOp .neq t jn jo):Sem Value).run P w = .ok (.bool !b) w:=by
  intro b dd o J ao
  constructor
  ·rw [dd,o];simp [ao]
  ·rw [dd,J];simp [ao]
 unfold pg at ai
 split at ai
 ·rename_i b8 j4 bq
  simp only [Option.some.injEq] at ai;subst ai
  have gu:=aa.qy;have ht:=aN.qy
  subst gu;subst ht
  exact key _ (fun op=>eqGuard_at_bool ..) rfl rfl (by rw [rz];first|exact vo _ bq|exact vB _ bq|exact vC _ bq|exact vD _ bq|exact vE _ bq)
 ·rename_i e bq
  simp only [Option.some.injEq] at ai;subst ai
  have gu:=aa.rB;have ht:=aN.rB
  subst gu;subst ht
  exact key _ (fun op=>eqGuard_at_pointer ..) rfl rfl (by rw [rz];first|exact vo _ bq|exact vB _ bq|exact vC _ bq|exact vD _ bq|exact vE _ bq)
 ·rename_i e sz es i off bq
  simp only [Option.some.injEq] at ai;subst ai
  obtain ⟨c8,bD,-,gu,-⟩:=aa.tV
  have ht:=aN.rB
  subst gu;subst ht
  exact key _ (fun op=>eqGuard_at_pointer ..) rfl rfl (by rw [rz];first|exact vo _ bq|exact vB _ bq|exact vC _ bq|exact vD _ bq|exact vE _ bq)
 ·rename_i e sz es i off bq
  simp only [Option.some.injEq] at ai;subst ai
  obtain ⟨c8,bD,-,ht,-⟩:=aN.tV
  have gu:=aa.rB
  subst gu;subst ht
  exact key _ (fun op=>eqGuard_at_pointer ..) rfl rfl (by rw [rz];first|exact vo _ bq|exact vB _ bq|exact vC _ bq|exact vD _ bq|exact vE _ bq)
 ·rename_i e bq
  simp only [Option.some.injEq] at ai;subst ai
  have gu:=aa.nm;have ht:=aN.nm
  subst gu;subst ht
  exact key _ (fun op=>eqGuard_at_slice ..) rfl rfl (by rw [rz];first|exact vo _ bq|exact vB _ bq|exact vC _ bq|exact vD _ bq|exact vE _ bq)
 ·rename_i e bq
  simp only [Option.some.injEq] at ai;subst ai
  obtain ⟨su,c,gu⟩:=aa.yP
  have ht:=aN.nm
  subst gu;subst ht
  exact key _ (fun op=>eqGuard_at_slice ..) rfl rfl (by rw [rz];exact Hc _ bq 0)
 ·simp at ai
theorem I2 {t e:TypeId}(bq:P.underlying t=some (.slice e)){sz:Nat}{es:List (List al)}(cf:es≠[])
 {ok:Nat→Prop} {aK:hs} {aQ:hi} {jn jo:Value} (aa:Rel w ok aK aQ (.isl sz es) jn) (aN:Rel w ok aK aQ .dJ jo) (p q:Operand) :
 ((do eqGuard .eql t p q jn jo;binOp .eql t jn jo):Sem Value).run P w = .ok (.bool false) w ∧
 ((do eqGuard .neq t p q jn jo;binOp .neq t jn jo):Sem Value).run P w = .ok (.bool true) w:=by
 rcases aa.pF with ⟨h0,-⟩|⟨c8,off,c,-,gu,-⟩
 ·exact absurd h0 cf
 ·have ht:=aN.nm
  subst gu;subst ht
  have ao:(Op.equal t (.slice (some ⟨c8,off,none⟩) es.length c) (.slice none 0 0)).run P w = .ok false w:=by rw [rz];exact Hc _ bq _
  have dd : ∀op,eqGuard op t p q (.slice (some ⟨c8,off,none⟩) es.length c) (.slice none 0 0)=pure ():=fun op=>eqGuard_at_slice ..
  have o:binOp .eql t (.slice (some ⟨c8,off,none⟩) es.length c) (.slice none 0 0)=(do pure (.bool (← Op.equal t (.slice (some ⟨c8,off,none⟩) es.length c) (.slice none 0 0)))):=rfl
  have J:binOp .neq t (.slice (some ⟨c8,off,none⟩) es.length c) (.slice none 0 0)=(do pure (.bool (!(← Op.equal t (.slice (some ⟨c8,off,none⟩) es.length c) (.slice none 0 0))))):=rfl
  constructor
  ·rw [dd,o];simp [ao]
  ·rw [dd,J];simp [ao]
theorem PS {op:BinOp}{t cJ:TypeId}{x y:Operand}(h:b9 g s aj a w)(ad:I.op = .binOp op t x y cJ)(ai:dD P s.E s.aE aC I cb=some bd)(b4:∀p∈bd.ep,p):Fin P g s a w I bd:=by
 simp only [dD,ad] at ai
 have aa:=h.eval x
 have aN:=h.eval y
 split at ai
 ·rename_i v ab aP
  simp only [Option.some.injEq] at ai
  subst ai
  obtain ⟨u,o,J⟩:=Pd (P:=P) (t:=t) aP b4 aa aN x y
  refine gK (v:=u) h ?_ rfl J
  simp only [execOp,ad]
  rw [Sem.run_bind,o];rfl
 ·split at ai
  ·cases he:pg P t (d2 s.E x) (d2 s.E y) with
   | none=>simp [he] at ai
   | some r =>
    simp [he] at ai;subst ai
    refine gK (v:= .bool r) h ?_ rfl (.b r)
    simp only [execOp,ad]
    rw [Sem.run_bind,(tQ (w:=w) he aa aN x y).1];rfl
  ·cases he:pg P t (d2 s.E x) (d2 s.E y) with
   | none=>simp [he] at ai
   | some r =>
    simp [he] at ai;subst ai
    refine gK (v:= .bool !r) h ?_ rfl (.b _)
    simp only [execOp,ad]
    rw [Sem.run_bind,(tQ (w:=w) he aa aN x y).2];rfl
  ·simp at ai
theorem QF {op:UnOp}{t:TypeId}{x:Operand}(h:b9 g s aj a w)(ad:I.op = .unOp op t x)(ai:dD P s.E s.aE aC I cb=some bd):Fin P g s a w I bd:=by
 simp only [dD,ad] at ai
 have aa:=h.eval x
 cases he:Eh op (d2 s.E x) with
 | none=>simp [he] at ai
 | some v =>
  simp [he] at ai;subst ai
  unfold Eh at he
  split at he
  ·rename_i k n fy
   rw [fy] at aa
   simp only [Option.some.injEq] at he;subst he
   refine gK (v:= .int k (k.wrap (0-n))) h ?_ rfl (.n _ _)
   simp [execOp,ad,aa.m4,Op.unary,Op.intArith]
  ·rename_i b fy
   rw [fy] at aa
   simp only [Option.some.injEq] at he;subst he
   refine gK (v:= .bool !b) h ?_ rfl (.b _)
   simp [execOp,ad,aa.qy,Op.unary]
  ·simp at he
theorem OG {t cJ:TypeId}{x:Operand}(h:b9 g s aj a w)(ad:I.op = .convert t cJ x)(ai:dD P s.E s.aE aC I cb=some bd):Fin P g s a w I bd:=by
 simp only [dD,ad] at ai
 have aa:=h.eval x
 split at ai
 ·rename_i k cU n bq fy
  rw [fy] at aa
  split at ai
  case isFalse=>simp at ai
  rename_i bT
  simp only [Option.some.injEq] at ai
  subst ai
  refine gK (v:= .int k (k.wrap n)) h ?_ rfl (.n _ _)
  cases Kb:P.underlying t with
  | none=>simp [Kb] at bT
  | some d=>simp [execOp,ad,aa.m4,convert,run_underlying bq,run_underlying Kb,Conv.intToInt]
 ·rename_i r k bw len bq fy
  rw [fy] at aa
  split at ai
  ·rename_i ab zm a3
   split at ai
   ·rename_i lr wW
    split at ai
    ·rename_i aL
     simp only [Option.some.injEq] at ai
     subst ai
     obtain ⟨e,bT,he⟩ : ∃e,P.underlying t=some (.slice e)∧P.underlying e=some (.int .u8):=by
      unfold ns at zm
      split at zm
      ·rename_i e bT;exact ⟨e,bT,zm⟩
      ·simp at zm
     have cW:s.ab r k=some ab:=a3
     have ej:=h.obj r k ab cW
     have hzero : ∀(nI:Option Addr) (c:Nat),len=0→(convert t cJ (.slice nI 0 c)).run P w = .ok (.string (uq lr)) w:=by
      intro nI c h0
      subst h0
      have:lr=[]:=by simpa [bytesOf] using wW
      subst this
      cases nI with
      | none=>rw [run_convert_bytes_string w t cJ e none 0 c bT he bq];simp [Conv.bytesToString,uq]
      | some nI =>
       rw [run_convert_bytes_string w t cJ e (some nI) 0 c bT he bq,run_bytesToString w nI 0 c [] (by
        have:=run_loadCells_list (P:=P) w nI [] (fun j v av=>by simp at av)
        simpa using this)]
       rfl
     rcases aa.vT (gM cW) with ⟨ae,rfl,rfl,hval⟩|⟨b,m,A,c,ae,hval,oK,pU,hm⟩
     ·refine gK (v:= .string (uq lr)) h ?_ rfl (.s _)
      simp [execOp,ad,hval,hzero none 0 rfl]
     ·refine gK (v:= .string (uq lr)) h ?_ rfl (.s _)
      by_cases h0:len=0
      ·subst h0;simp [execOp,ad,hval,hzero A c rfl]
      ·rcases hm with hm|⟨hA,hm⟩
       ·omega
       ·subst hA
        rw [ae] at ej
        have gF:=ej.rd
        have uy : ∀(es:List (List al)) (lr:List Int),bytesOf es=some lr→es.length=lr.length∧ ∀(i:Nat) n,lr[i]? = some n→es[i]? = some [.n .u8 n]:=by
         intro es
         induction es with
         | nil=>intro lr h;simp [bytesOf] at h;subst h;exact ⟨rfl,fun i n af=>by simp at af⟩
         | cons x es ih =>
          intro lr h
          unfold bytesOf at h
          split at h
          ·simp at *
          ·rename_i n0 Wj zy
           simp only [List.cons.injEq] at zy
           obtain ⟨rfl,rfl⟩:=zy
           rw [Option.map_eq_some_iff] at h
           obtain ⟨fL,SP,rfl⟩:=h
           obtain ⟨ar,ay⟩:=ih fL SP
           refine ⟨by simp [ar],fun i n af=> ?_⟩
           cases i with
           | zero=>simp at af;subst af;rfl
           | succ i=>simpa using ay i n (by simpa using af)
          ·simp at h
        obtain ⟨ar,ay⟩:=uy _ _ wW
        have hlen:lr.length=len:=by rw [← ar];simp;omega
        have RE:(loadCells ⟨b,bw*ab.sz,none⟩ len).run P w = .ok (lr.map (Value.int .u8)).toArray w:=by
         have:=run_loadCells_list (P:=P) w ⟨b,bw*ab.sz,none⟩ (lr.map (Value.int .u8)) (fun j v av=>by
          rw [List.getElem?_map,Option.map_eq_some_iff] at av
          obtain ⟨n,a5,rfl⟩:=av
          have kh:=ay j n a5
          have r6:j<len:=by rw [← hlen];exact (List.getElem?_eq_some_iff.1 a5).1
          rw [List.getElem?_take_of_lt r6,List.getElem?_drop] at kh
          obtain ⟨v,v1,v2,v3⟩:=gF.2 ((bw+j)*ab.sz+0) (.n .u8 n) (by rw [vz gF.1 kh (by omega)];rfl)
          have aX:=v3.m4
          subst aX
          rw [o5,← v1,aL.2]
          congr 2
          omega)
         rw [List.length_map,hlen] at this
         exact this
        have J:=run_bytesToString w ⟨b,bw*ab.sz,none⟩ len c lr RE
        rw [← run_convert_bytes_string w t cJ e _ len c bT he bq] at J
        simp [execOp,ad,hval,J,uq]
    ·simp at ai
   ·simp at ai
  ·simp at ai
 ·simp at ai
theorem Oi {f:Fn}{xq bS:Array Operand}(h:b9 g s aj a w)(ad:I.op = .makeFunc f xq bS)(ai:dD P s.E s.aE aC I cb=some bd):Fin P g s a w I bd:=by
 cases f with
 | func n =>
  simp only [dD,ad] at ai
  split at ai
  ·rename_i SQ
   simp only [Option.some.injEq] at ai;subst ai
   refine gK (v:= .func (.func n) #[] (bS.map a.eval)) h ?_ rfl ?_
   ·have:xq = #[]:=by simpa using SQ
    subst this
    simp [execOp,ad,Instr.makeFunc]
   ·have:=Rel.fn (f:=n) (c:=bS.toList.map (d2 s.E)) (w:=w) (ok:=s.ok g aj w) (aK:=s.aK) (aQ:=s.aQ aj) (bS.toList.map a.eval) (by simp) (by
     intro j x v aa aX
     rw [List.getElem?_map,Option.map_eq_some_iff] at aa aX
     obtain ⟨p,ae,rfl⟩:=aa
     obtain ⟨q,a1,rfl⟩:=aX
     rw [ae] at a1;simp at a1;subst a1
     exact h.eval p)
    have e:(bS.toList.map a.eval).toArray=bS.map a.eval:=by apply Array.ext';rw [Array.toList_map]
    rw [e] at this
    exact this
  ·simp at ai
 | _=>simp [dD,ad] at ai
theorem OH {i:Nat}{x:Operand}(h:b9 g s aj a w)(ad:I.op = .extract x i)(ai:dD P s.E s.aE aC I cb=some bd):Fin P g s a w I bd:=by
 simp only [dD,ad] at ai
 have aa:=h.eval x
 split at ai
 ·rename_i vs fy
  rw [fy] at aa
  cases af:vs[i]? with
  | none=>simp [af] at ai
  | some v =>
   simp [af] at ai;subst ai
   obtain ⟨aK,hval,aG,ah⟩:=aa.tT
   have c9:i<aK.length:=by
    rcases Nat.lt_or_ge i vs.length with bX|bX
    ·omega
    ·rw [List.getElem?_eq_none bX] at af;simp at af
   have hu:aK[i]? = some aK[i]:=List.getElem?_eq_getElem c9
   refine gK (v:=aK[i]) h ?_ rfl (ah i v _ af hu)
   simp [execOp,ad,hval,Instr.extract,hu]
 ·simp at ai
end
end Go.VL
namespace Go.VL
set_option linter.unusedVariables false
set_option linter.unusedSimpArgs false
open Go
section
variable {P:Program} {g:G} {s:S} {aj:ef} {a:Act} {w:World} {I:Oper} {cb:ew} {aC:Nat} {bd:gx}
theorem o6 {t e:TypeId}(h:ns P t=some e):P.underlying t=some (.slice e):=by
 unfold ns at h
 split at h
 ·rename_i dy he;simp at h;subst h;exact he
 ·simp at h
theorem CQ {t:TypeId}{iX:Array Field}(h:fieldsOf P t=some iX):P.underlying t=some (.struct iX):=by
 unfold fieldsOf at h
 split at h
 ·rename_i dy he;simp at h;subst h;exact he
 ·simp at h
theorem GO : ∀(z c:List al),(oz z c).length=z.length
 | x::z,y::c=>by simp [oz,GO z c]
 | [],_=>by simp [oz]
 | _::_,[]=>by simp [oz]
theorem N0 (z:List al)(cb:ew):(pI z cb).length=z.length:=by
 unfold pI
 split
 ·exact GO z _
 ·rfl
theorem OI (x y:al){w:World}{ok:Nat→Prop}{aK:hs}{aQ:hi}{v:Value}(h:Rel w ok aK aQ x v):Rel w ok aK aQ (v5 x y) v:=by
 unfold v5
 split
 ·rw [h.nm];exact .iy _ _ _ (fun _=>rfl)
 ·rw [h.rB];exact .m7 _
 ·rw [h.nm];exact .kK (.iy _ _ _ (fun _=>rfl))
 ·exact h
theorem HA : ∀(z c:List al) (j:Nat) q,(oz z c)[j]? = some q→ ∃x,z[j]? = some x∧(q=x∨ ∃y,q=v5 x y)
 | x::z,y::c,0,q,h=>by simp [oz] at h;exact ⟨x,rfl,.inr ⟨y,h.symm⟩⟩
 | x::z,y::c,j+1,q,h=>by
  simp only [oz,List.getElem?_cons_succ] at h
  simpa using HA z c j q h
 | [],c,j,q,h=>by simp [oz] at h
 | x::z,[],j,q,h=>⟨q,by simpa [oz] using h,.inl rfl⟩
theorem PT (z:List al)(cb:ew)(j:Nat)(q:al)(h:(pI z cb)[j]? = some q): ∃x,z[j]? = some x∧(q=x∨ ∃y,q=v5 x y):=by
 unfold pI at h
 split at h
 ·exact HA z _ j q h
 ·exact ⟨q,h,.inl rfl⟩
theorem N1 {t:TypeId}{x y:Operand}(h:b9 g s aj a w)(dF:s.aE aC=none)(ad:I.op = .makeSlice t x y)(ai:dD P s.E s.aE aC I cb=some bd)(b4:∀p∈bd.ep,p):Fin P g s a w I bd:=by
 simp only [dD,ad] at ai
 have aa:=h.eval x
 have aN:=h.eval y
 split at ai
 ·rename_i e j5 l jz c he R5 R6
  rw [R5] at aa;rw [R6] at aN
  split at ai
  ·rename_i i z af b6
   obtain ⟨dU,du,hS,jk,po,I3⟩:=vA b6
   rw [af] at hS;simp at hS;subst hS
   simp only [Option.ite_none_right_eq_some,Option.some.injEq] at ai
   obtain ⟨dK,ai⟩:=ai
   subst ai
   have li:=N0 z cb
   have ie : ∀(j:Nat) q,(pI z cb)[j]? = some q→ ∃v,du.cells[j]? = some v∧VL.iv v=true∧ ∀w ok aK aQ,Rel w ok aK aQ q v:=by
    intro j q a1
    obtain ⟨x,cO,lj⟩:=PT z cb j q a1
    obtain ⟨v,v1,v2,v3⟩:=I3 j x cO
    refine ⟨v,v1,v2,fun w ok aK aQ=> ?_⟩
    rcases lj with rfl|⟨y,rfl⟩
    ·exact v3 w ok aK aQ
    ·exact OI x y (v3 w ok aK aQ)
   clear I3
   have h0:0≤l:=b4 _ (by simp)
   have o:l≤c:=b4 _ (by simp)
   have J:(i.bytes:Int)*c≤281474976710656:=b4 _ (by simp)
   have ao:c<9223372036854775808:=b4 _ (by simp)
   have lk:z.length=du.cells.size:=by rw [po];simp
   have ha:=run_make (P:=P) w t e i du (o6 he) af jk j5 jz l c h0 o J (by omega)
   refine yQ (v:= .slice (some ⟨w.heap.size,0,none⟩) l.toNat c.toNat) (ab:=⟨z.length,List.replicate l.toNat (pI z cb),.live⟩) (c:=madeCells du.cells (c.toNat*i.size)) (dv:=e) h dF rfl ?_ rfl ?_ ?_ ?_
   ·simp [execOp,ad,aa.m4,aN.m4,ha]
   ·intro dy jX;rw [List.eq_of_mem_replicate jX];exact li
   ·intro j q a1
    have aG : ∀dy∈List.replicate l.toNat (pI z cb),dy.length=z.length:=fun dy jX=>by rw [List.eq_of_mem_replicate jX];exact li
    rcases Nat.eq_zero_or_pos z.length with oL|zz
    ·have:pI z cb=[]:=List.length_eq_zero_iff.1 (by omega)
     rw [this] at a1
     simp at a1
    ·rw [m0 zz _ aG,List.getElem?_replicate] at a1
     by_cases av:j / z.length<l.toNat
     ·rw [if_pos av] at a1
      simp only [Option.bind_some] at a1
      obtain ⟨v,ar,ay,bR⟩:=ie _ _ a1
      refine ⟨v,?_,ay,bR _ _ _ _⟩
      have c9:j<c.toNat*i.size:=by
       rw [← dK]
       have:j<l.toNat*z.length:=(Nat.div_lt_iff_lt_mul zz).1 av
       exact Nat.lt_of_lt_of_le this (Nat.mul_le_mul_right _ (by omega))
      simp only [madeCells]
      rw [Array.getElem?_map,Array.getElem?_range]
      simp only [c9,if_true,Option.map_some]
      rw [lk] at ar
      have hm:j % du.cells.size<du.cells.size:=Nat.mod_lt _ (by omega)
      rw [Array.getElem?_eq_getElem hm] at ar
      rw [getElem!_pos du.cells _ hm];exact ar
     ·rw [if_neg av] at a1;simp at a1
   ·intro bm i4 kO kf hu b1
    refine Rel.bp hu b1 (by omega) (by omega) ⟨?_,.inr (by simp)⟩
    rw [size_madeCells]
    simp only [Nat.zero_add,dK]
  ·simp at ai
 ·simp at ai
theorem N2 {t:TypeId}{x:Operand}{f:Nat}(h:b9 g s aj a w)(ad:I.op = .fieldAddr t x f)(ai:dD P s.E s.aE aC I cb=some bd)(b4:∀p∈bd.ep,p):Fin P g s a w I bd:=by
 simp only [dD,ad] at ai
 have aa:=h.eval x
 split at ai
 ·rename_i iX wX
  split at ai
  ·rename_i fd qI
   split at ai
   ·simp at ai
   ·rename_i Kc
    have af:(P.info? fd.type).isSome=true:=by
     cases af:P.info? fd.type with
     | none=>simp [Program.cellsOf,af] at Kc
     | some i=>rfl
    have ha : ∀A:Addr,A.spot=none→(Instr.fieldAt t (.pointer (some A)) f).run P w = .ok (.pointer (some ⟨A.block,A.off+fd.offset,none⟩)) w:=by
     intro A hA
     have e:A.add fd.offset=⟨A.block,A.off+fd.offset,none⟩:=by
      obtain ⟨b,I,sp⟩:=A
      simp only at hA;subst hA
      exact o5 b I _
     simp [Instr.fieldAt,run_underlying (CQ wX),qI,Instr.sureAddr,fieldPlace,ru af,Kc,e]
    split at ai
    ·rename_i r k i off fy
     rw [fy] at aa
     split at ai
     ·rename_i ab bZ a3
      split at ai
      ·rename_i c a6 li
       simp only [Option.some.injEq] at ai;subst ai
       have iz:s.ab r k=some ab:=qo a3 fun p ae=>b4 p (by simp [ae])
       have oG:=vH li fun p ae=>b4 p (by simp [ae])
       have ej:=h.obj r k ab iz
       rcases aa.tU (gM iz) with h0|⟨b,m,ae,hval⟩
       ·rw [h0] at ej;simp only [hz] at ej;rw [ej] at oG;simp at oG
       ·refine gK (v:= .pointer (some ⟨b,i*ab.sz+(off+fd.offset),none⟩)) h ?_ rfl ?_
        ·simp [execOp,ad,hval,ha,Nat.add_assoc]
        ·exact aa.Pc ((gM iz).trans (by rw [ae])) _
      ·simp at ai
     ·simp at ai
    ·rename_i sz es i off fy
     rw [fy] at aa
     simp only [Option.some.injEq] at ai;subst ai
     obtain ⟨c8,bD,aP,hval,gF⟩:=aa.tV
     refine gK (v:= .pointer (some ⟨c8,bD+(i*sz+(off+fd.offset)),none⟩)) h ?_ rfl (gF.dg aP)
     simp [execOp,ad,hval,ha,Nat.add_assoc]
    ·simp at ai
  ·simp at ai
 ·simp at ai
theorem N3 {t:TypeId}{x y:Operand}(h:b9 g s aj a w)(ad:I.op = .indexAddr t x y)(ai:dD P s.E s.aE aC I cb=some bd)(b4:∀p∈bd.ep,p):Fin P g s a w I bd:=by
 simp only [dD,ad] at ai
 have aa:=h.eval x
 have aN:=h.eval y
 split at ai
 ·rename_i e k j he fy
  rw [fy] at aN
  have hu:=o6 he
  have ha : ∀(b I len cap:Nat),0≤j→j<len→(P.info? e).isSome=true →
   (Instr.indexAt t (.slice (some ⟨b,I,none⟩) len cap) (.int k j)).run P w = .ok (.pointer (some ⟨b,I+j.toNat*P.cellsOf e,none⟩)) w:=by
   intro b I len cap h0 o af
   have dy:=o5 b I (j.toNat*P.cellsOf e)
   simp [Instr.indexAt,asIntOf,run_underlying hu,h0,o,ru af,dy]
  have rP : ∀sz,sz=P.cellsOf e→sz≠0→(P.info? e).isSome=true:=by
   intro sz bT b6
   cases af:P.info? e with
   | none=>simp [Program.cellsOf,af] at bT;exact absurd bT b6
   | some i=>rfl
  split at ai
  ·rename_i sz es wC
   rw [wC] at aa
   simp only [Option.ite_none_right_eq_some,Option.some.injEq] at ai
   obtain ⟨⟨bT,b6⟩,ai⟩:=ai
   subst ai
   have h0:0≤j:=b4 _ (by simp)
   have o:j<es.length:=b4 _ (by simp)
   rcases aa.pF with ⟨wY,-⟩|⟨c8,off,c,aP,hval,aL,gF⟩
   ·subst wY;simp at o;omega
   ·refine gK (v:= .pointer (some ⟨c8,off+(j.toNat*sz+0),none⟩)) h ?_ rfl (gF.dg aP)
    simp [execOp,ad,hval,aN.m4,ha _ _ _ _ h0 o (rP sz bT b6),bT]
  ·rename_i r q bw len wC
   rw [wC] at aa
   split at ai
   ·rename_i row cE
    split at ai
    ·rename_i ab bZ a3
     simp only [Option.ite_none_right_eq_some,Option.some.injEq] at ai
     obtain ⟨⟨bT,b6⟩,ai⟩:=ai
     subst ai
     have iz:s.ab r q=some ab:=by
      unfold S.ab;rw [cE];exact qo a3 fun p ae=>b4 p (by simp [ae])
     have h0:0≤j:=b4 _ (by simp)
     have o:j<len:=b4 _ (by simp)
     rcases aa.vT (gM iz) with ⟨-,-,J,-⟩|⟨b,m,A,c,ae,hval,aG,-,hm⟩
     ·subst J;simp at o;omega
     ·rcases hm with hm|⟨hA,hm⟩
      ·omega
      ·subst hA
       have hC:=yG iz
       refine gK (v:= .pointer (some ⟨b,(bw+j.toNat)*ab.sz+0,none⟩)) h ?_ rfl (.ref hC ((gM iz).trans (by rw [ae])))
       simp [execOp,ad,hval,aN.m4,ha _ _ _ _ h0 o (rP _ bT b6),bT,Nat.add_mul]
    ·simp at ai
   ·simp at ai
  ·simp at ai
 ·simp at ai
theorem PU {t:TypeId}{x y:Operand}(h:b9 g s aj a w)(ad:I.op = .index t x y)(ai:dD P s.E s.aE aC I cb=some bd)(b4:∀p∈bd.ep,p):Fin P g s a w I bd:=by
 simp only [dD,ad] at ai
 have aa:=h.eval x
 have aN:=h.eval y
 split at ai
 ·rename_i b k j hu wC R7
  rw [wC] at aa;rw [R7] at aN
  simp only [Option.some.injEq] at ai;subst ai
  have h0:0≤j:=b4 _ (by simp)
  have o:j<b.size:=b4 _ (by simp)
  have J:j.toNat<b.size:=by omega
  refine gK (v:= .int .u8 (b[j.toNat]).toNat) h ?_ rfl ?_
  ·simp [execOp,ad,aa.uh,aN.m4,Instr.index,asIntOf,run_underlying hu,h0,J]
  ·have e:b.data.toList.getD j.toNat 0=b[j.toNat]:=by
    rw [List.getD_eq_getElem?_getD,Array.getElem?_toList,Array.getElem?_eq_getElem (by simpa using J)];rfl
   show Rel _ _ _ _ (.n .u8 _) _
   rw [e];exact .n _ _
 ·simp at ai
theorem Q7 {c:Call}(h:b9 g s aj a w)(ad:I.op = .call c)(aL:c.callee = .builtin .len)(ai:dD P s.E s.aE aC I cb=some bd)(b4:∀p∈bd.ep,p):Fin P g s a w I bd:=by
 obtain ⟨zA,args,kP⟩:=c
 simp only at aL;subst aL
 simp only [dD,ad] at ai
 have key : ∀(x:Operand) (n:Nat) (t:TypeId) (v:Value),args.toList=[x]→kP = #[t]→bd.val = .n .i64 n→bd.eE=[]→a.eval x=v →
  (Builtin.len_ #[t] I.type #[v]).run P w = .ok (goInt n) w→Fin P g s a w I bd:=by
  intro x n t v hargs jY ah fZ aX ha
  subst jY
  refine gK (v:=goInt n) h ?_ fZ (by rw [ah];exact .n _ _)
  have bx:args = #[x]:=by apply Array.ext';simpa using hargs
  subst bx
  simp [execOp,ad,resolve,invoke,builtin,aX,ha]
 have hargs : ∀y,args.toList.map (d2 s.E)=[y]→ ∃x,args.toList=[x]∧d2 s.E x=y:=by
  intro y aN
  match aG:args.toList,aN with
  | [x],aN=>simp at aN;exact ⟨x,rfl,aN⟩
 have mc:decide (kP.size=1)=true→ ∃t,kP = #[t]∧kP.getD 0 0=t:=by
  intro dK
  have dK:kP.size=1:=by simpa using dK
  obtain ⟨l⟩:=kP
  match l,dK with
  | [t],_=>exact ⟨t,rfl,rfl⟩
 split at ai
 ·rename_i sz es e hm hu dK
  obtain ⟨x,aa,fy⟩:=hargs _ hm
  obtain ⟨t,b1,lK⟩:=mc dK
  rw [lK] at hu
  simp only [Option.some.injEq] at ai
  have ah:=h.eval x
  rw [fy] at ah
  rcases ah.pF with ⟨wY,A,c,hval,hA⟩|⟨c8,off,c,aP,hval,-⟩
  ·exact key x es.length t _ aa b1 (by rw [← ai]) (by rw [← ai]) hval (by subst wY;simp [Builtin.len_,run_underlying hu])
  ·exact key x es.length t _ aa b1 (by rw [← ai]) (by rw [← ai]) hval (by simp [Builtin.len_,run_underlying hu])
 ·rename_i r k bw len e hm hu dK
  obtain ⟨x,aa,fy⟩:=hargs _ hm
  obtain ⟨t,b1,lK⟩:=mc dK
  rw [lK] at hu
  split at ai
  ·rename_i row cE
   split at ai
   ·rename_i ab bZ a3
    simp only [Option.some.injEq] at ai
    have ah:=h.eval x
    rw [fy] at ah
    have iz:s.ab r k=some ab:=by
     unfold S.ab;rw [cE];exact qo a3 fun p ae=>b4 p (by rw [← ai];exact ae)
    rcases ah.vT (gM iz) with ⟨-,-,J,hval⟩|⟨b,m,A,c,ae,hval,-⟩
    ·exact key x len t _ aa b1 (by rw [← ai]) (by rw [← ai]) hval (by subst J;simp [Builtin.len_,run_underlying hu])
    ·exact key x len t _ aa b1 (by rw [← ai]) (by rw [← ai]) hval (by simp [Builtin.len_,run_underlying hu])
   ·simp at ai
  ·simp at ai
 ·rename_i e hm hu dK
  obtain ⟨x,aa,fy⟩:=hargs _ hm
  obtain ⟨t,b1,lK⟩:=mc dK
  rw [lK] at hu
  simp only [Option.some.injEq] at ai
  have ah:=h.eval x
  rw [fy] at ah
  exact key x 0 t _ aa b1 (by rw [← ai];rfl) (by rw [← ai]) ah.nm (by simp [Builtin.len_,run_underlying hu])
 ·rename_i b hm hu dK
  obtain ⟨x,aa,fy⟩:=hargs _ hm
  obtain ⟨t,b1,lK⟩:=mc dK
  rw [lK] at hu
  simp only [Option.some.injEq] at ai
  have ah:=h.eval x
  rw [fy] at ah
  exact key x b.size t _ aa b1 (by rw [← ai]) (by rw [← ai]) ah.uh (by simp [Builtin.len_,run_underlying hu])
 ·simp at ai
theorem yo {ok:Nat→Prop}{aK:hs}{aQ:hi}{c8 off sz:Nat}{es:List (List al)}(h:mi w ok aK aQ c8 off sz es)(l n:Nat)(aG:l≤es.length):
 mi w ok aK aQ c8 (off+l*sz) sz ((es.drop l).take n):=by
 have n1 : ∀e∈(es.drop l).take n,e.length=sz:=fun e he=>h.1 e (List.mem_of_mem_drop (List.mem_of_mem_take he))
 refine ⟨n1,fun j x aa=> ?_⟩
 rcases Nat.eq_zero_or_pos sz with h0|bT
 ·have ar : ∀(l:List (List al)),(∀e∈l,e.length=0)→l.flatten=[]:=by
   intro l aG;induction l with
   | nil=>rfl
   | cons a l ih=>rw [List.flatten_cons,ih fun e he=>aG e (by simp [he])];have:=aG a (by simp);simp_all
  rw [ar _ (fun e he=>(n1 e he).trans h0)] at aa;simp at aa
 ·rw [m0 bT _ n1] at aa
  have av:j / sz<n:=by
   rcases Nat.lt_or_ge (j / sz) n with bX|bX
   ·exact bX
   ·rw [List.getElem?_eq_none (by simp;omega)] at aa;simp at aa
  rw [List.getElem?_take,if_pos av,List.getElem?_drop] at aa
  obtain ⟨v,ar,ay,bR⟩:=h.2 (l*sz+j) x (by
   rw [m0 bT es h.1]
   have hU:(l*sz+j) / sz=l+j / sz:=by rw [Nat.mul_comm,Nat.mul_add_div bT]
   have iK:(l*sz+j) % sz=j % sz:=by rw [Nat.mul_comm,Nat.mul_add_mod]
   rw [hU,iK];exact aa)
  exact ⟨v,by rw [Nat.add_assoc];exact ar,ay,bR⟩
theorem yj {t e:TypeId}(hu:P.underlying t=some (.slice e))(af:(P.info? e).isSome=true)(A:Option Addr)(len cap:Nat)(bw hS:Option Value)(l h:Nat)
 (SR:(bw=none∧l=0)∨ ∃k,bw=some (.int k l)) (SS:(hS=none∧h=len)∨ ∃k,hS=some (.int k h)) (o:l≤h) (J:h≤len) (ao:len≤cap) :
 (Instr.sliceAt t (.slice A len cap) bw hS none).run P w = .ok (.slice (if cap=l then A else A.map (·.add (l*P.cellsOf e))) (h-l) (cap-l)) w:=by
 have aP : ∀(k:IntKind) (n y:Nat) (code:BoundsCode),n≤y→(Instr.sliceBound (.int k n) y code).run P w = .ok n w:=by
  intro k n y code a5
  simp [Instr.sliceBound,asIntOf,a5]
 rcases SR with ⟨rfl,rfl⟩|⟨j5,rfl⟩<;>rcases SS with ⟨rfl,rfl⟩|⟨jz,rfl⟩ <;>
  simp [Instr.sliceAt,Instr.slice,run_underlying hu,Instr.sliceBounds,ru af,aP,o,J,ao,Nat.le_trans J ao]
theorem ua {x:Option Operand}(h:b9 g s aj a w){d n:Nat}{ab:List Prop}(aP:aI (x.map (d2 s.E)) d=some (n,ab))(b4:∀p∈ab,p):
 (x.map a.eval=none∧n=d)∨ ∃k,x.map a.eval=some (.int k n):=by
 cases x with
 | none=>simp [aI] at aP;exact .inl ⟨rfl,aP.1.symm⟩
 | some x =>
  have aa:=h.eval x
  simp only [Option.map_some] at aP ⊢
  unfold aI at aP
  split at aP
  ·rename_i he;simp at he
  ·rename_i _ k y he
   simp only [Option.some.injEq] at he
   rw [he] at aa
   simp only [Option.some.injEq,Prod.mk.injEq] at aP
   obtain ⟨rfl,rfl⟩:=aP
   have h0:0≤y:=b4 _ (by simp)
   refine .inr ⟨k,?_⟩
   rw [aa.m4,Int.toNat_of_nonneg h0]
  ·simp at aP
theorem PV {t:TypeId}{x:Operand}{bw af:Option Operand}(h:b9 g s aj a w)(ad:I.op = .slice t x bw af none)(ai:dD P s.E s.aE aC I cb=some bd)(b4:∀p∈bd.ep,p):Fin P g s a w I bd:=by
 simp only [dD,ad] at ai
 have aa:=h.eval x
 have rP : ∀sz e,sz=P.cellsOf e→sz≠0→(P.info? e).isSome=true:=by
  intro sz e bT b6
  cases af:P.info? e with
  | none=>simp [Program.cellsOf,af] at bT;exact absurd bT b6
  | some i=>rfl
 split at ai
 ·rename_i e sz es hu fy
  rw [fy] at aa
  split at ai
  ·rename_i l bZ n a6 aG a5
   simp only [Option.ite_none_right_eq_some,Option.some.injEq] at ai
   obtain ⟨⟨bT,b6⟩,ai⟩:=ai
   subst ai
   have fB:=ua h aG fun p ae=>b4 p (by simp [ae])
   have gA:=ua h a5 fun p ae=>b4 p (by simp [ae])
   have o:l≤n:=b4 _ (by simp)
   have J:n≤es.length:=b4 _ (by simp)
   rcases aa.pF with ⟨wY,A,c,hval,hA⟩|⟨c8,off,c,aP,hval,aL,gF⟩
   ·subst wY
    have Ek:n=0:=by simpa using J
    subst Ek
    have ll:l=0:=by omega
    subst ll
    refine gK (v:= .slice (if c=0 then A else A.map (·.add (0*P.cellsOf e))) (0-0) (c-0)) h ?_ rfl ?_
    ·have:=yj (w:=w) hu (rP sz e bT b6) A 0 c (bw.map a.eval) (af.map a.eval) 0 0 fB gA (Nat.le_refl _) (Nat.le_refl _) (Nat.zero_le _)
     simp only [execOp,ad,hval]
     simp only [Option.map_none,Sem.run_bind,this];rfl
    ·refine .iy sz _ _ fun a5=> ?_
     split at a5
     ·rename_i kQ;omega
     ·have:=hA (by simpa using a5)
      omega
   ·have hlen:((es.drop l).take (n-l)).length=n-l:=by simp;omega
    refine gK (v:= .slice (if c=l then some ⟨c8,off,none⟩ else (some (⟨c8,off,none⟩:Addr)).map (·.add (l*P.cellsOf e))) (n-l) (c-l)) h ?_ rfl ?_
    ·have:=yj (w:=w) hu (rP sz e bT b6) (some ⟨c8,off,none⟩) es.length c (bw.map a.eval) (af.map a.eval) l n fB gA o J aL
     simp only [execOp,ad,hval]
     simp only [Option.map_none,Sem.run_bind,this];rfl
    ·by_cases hd:c=l
     ·have:n-l=0:=by omega
      rw [this]
      show Rel _ _ _ _ (.isl sz ((es.drop l).take 0)) _
      rw [List.take_zero]
      exact .iy sz _ _ (fun _=>by omega)
     ·rw [if_neg hd]
      simp only [Option.map_some,o5,← bT]
      have ah:=(yo gF l (n-l) (by omega)).isl (c:=c-l) ⟨aP.1,fun e he=>aP.2 e (List.mem_of_mem_drop (List.mem_of_mem_take he))⟩ (by rw [hlen];omega)
      rw [hlen] at ah
      exact ah
  ·simp at ai
 ·rename_i e r k K8 len hu fy
  rw [fy] at aa
  split at ai
  ·simp at ai
  ·rename_i row cE
   split at ai
   ·simp at ai
   ·rename_i ab K9 a3
    split at ai
    ·rename_i l bZ n a6 aG a5
     simp only [Option.ite_none_right_eq_some,Option.some.injEq] at ai
     obtain ⟨⟨bT,b6⟩,ai⟩:=ai
     subst ai
     have iz:s.ab r k=some ab:=by
      unfold S.ab;rw [cE];exact qo a3 fun p ae=>b4 p (by simp [ae])
     have fB:=ua h aG fun p ae=>b4 p (by simp [ae])
     have gA:=ua h a5 fun p ae=>b4 p (by simp [ae])
     have o:l≤n:=b4 _ (by simp)
     have J:n≤len:=b4 _ (by simp)
     have hC:=yG iz
     rcases aa.rC (gM iz) with ⟨ae,rfl,rfl,hval⟩|⟨b,m,A,c,ae,hval,oK,pU,kR,hm⟩
     ·have Ek:n=0:=by omega
      subst Ek
      have ll:l=0:=by omega
      subst ll
      refine gK (v:= .slice none 0 0) h ?_ rfl (.lA hC ((gM iz).trans (by rw [ae])))
      have:=yj (w:=w) hu (rP _ e bT b6) none 0 0 (bw.map a.eval) (af.map a.eval) 0 0 fB gA (Nat.le_refl _) (Nat.le_refl _) (Nat.le_refl _)
      simp only [execOp,ad,hval]
      simp only [Option.map_none,Sem.run_bind,this];rfl
     ·refine gK (v:= .slice (if c=l then A else A.map (·.add (l*P.cellsOf e))) (n-l) (c-l)) h ?_ rfl ?_
      ·have:=yj (w:=w) hu (rP _ e bT b6) A len c (bw.map a.eval) (af.map a.eval) l n fB gA o J oK
       simp only [execOp,ad,hval]
       simp only [Option.map_none,Sem.run_bind,this];rfl
      ·refine Rel.bp hC ((gM iz).trans (by rw [ae])) (by omega) (by omega) ?_
       refine ⟨by rw [← kR];congr 1;omega,?_⟩
       by_cases hd:c=l
       ·exact .inl (by omega)
       ·rcases hm with hm|hA
        ·exact .inl (by omega)
        ·refine .inr ?_
         rw [if_neg hd,hA]
         simp only [Option.map_some,o5,← bT,Nat.add_mul]
    ·simp at ai
 ·rename_i b hu fy
  rw [fy] at aa
  split at ai
  ·rename_i l bZ n a6 aG a5
   simp only [Option.some.injEq] at ai
   subst ai
   have fB:=ua h aG fun p ae=>b4 p (by simp [ae])
   have gA:=ua h a5 fun p ae=>b4 p (by simp [ae])
   have o:l≤n:=b4 _ (by simp)
   have J:n≤b.size:=b4 _ (by simp)
   refine gK (v:= .string (b.extract l n)) h ?_ rfl (.s _)
   have aP : ∀(k:IntKind) (n y:Nat) (code:BoundsCode),n≤y→(Instr.sliceBound (.int k n) y code).run P w = .ok n w:=by
    intro k n y code a5
    simp [Instr.sliceBound,asIntOf,a5]
   simp only [execOp,ad,aa.uh,Option.map_none]
   rcases fB with ⟨ar,rfl⟩|⟨j5,ar⟩<;>rcases gA with ⟨ay,rfl⟩|⟨jz,ay⟩<;>rw [ar,ay] <;>
    simp [Instr.sliceAt,Instr.slice,run_underlying hu,Instr.sliceBounds,aP,o,J]
  ·simp at ai
 ·simp at ai
end
end Go.VL
namespace Go.VL
set_option linter.unusedVariables false
set_option linter.unusedSimpArgs false
open Go
section
variable {P:Program} {g:G} {s:S} {aj:ef} {a:Act} {w:World} {I:Oper} {cb:ew} {aC:Nat} {bd:gx}
theorem OJ {ok:Nat→Prop}{aK:hs}{aQ:hi}{t:TypeId}{c:List al}{off:Nat}{x:al}{vs:List Value}(aG:vs.length=c.length)
 (ie : ∀(j:Nat) u,vs[j]? = some u→iv u=true) (ah : ∀(j:Nat) x u,c[j]? = some x→vs[j]? = some u→Rel w ok aK aQ x u)
 (b1:pH P t c off=some x) : ∃v,(part t vs.toArray off).run P w = .ok v w∧Rel w ok aK aQ x v:=by
 unfold pH at b1
 split at b1
 ·simp at b1
 ·rename_i af
  simp only [Bool.not_eq_true',Bool.not_eq_false,Bool.and_eq_true] at af
  simp only [part,Sem.run_bind,Hy af.1,Result.andThen]
  split at b1
  ·rename_i oF
   rw [oF]
   split at b1
   ·rename_i hle
    simp at b1;subst b1
    have e:(vs.toArray.extract off (off+P.cellsOf t))=((vs.drop off).take (P.cellsOf t)).toArray:=by
     apply Array.ext'
     simp [List.extract_eq_take_drop]
    refine ⟨.agg ((vs.drop off).take (P.cellsOf t)).toArray,by simp [ru af.2],?_⟩
    refine .agg _ (by simp;omega) ?_ ?_
    ·intro j v aX
     rw [List.getElem?_take] at aX
     split at aX
     ·rw [List.getElem?_drop] at aX;exact ie _ _ aX
     ·simp at aX
    ·intro j y v aN aX
     rw [List.getElem?_take] at aX aN
     split at aX
     ·rename_i av
      rw [if_pos av] at aN
      rw [List.getElem?_drop] at aX aN;exact ah _ _ _ aN aX
     ·simp at aX
   ·simp at b1
  ·rename_i oF
   have oF:vZ P t=false:=by simpa using oF
   rw [oF]
   split at b1
   ·rename_i y aN
    split at b1
    ·simp at b1;subst b1
     have ur:off<vs.length:=by
      rcases Nat.lt_or_ge off c.length with h|h
      ·omega
      ·rw [List.getElem?_eq_none h] at aN;simp at aN
     exact ⟨vs[off],by simp [ur],ah off y _ aN (List.getElem?_eq_getElem ur)⟩
    ·simp at b1
   ·simp at b1
theorem PW {t:TypeId}{x:Operand}{f:Nat}(h:b9 g s aj a w)(ad:I.op = .field t x f)(ai:dD P s.E s.aE aC I cb=some bd):Fin P g s a w I bd:=by
 simp only [dD,ad] at ai
 have aa:=h.eval x
 split at ai
 ·rename_i iX wX
  split at ai
  ·rename_i fd c qI fy
   rw [fy] at aa
   cases b1:pH P fd.type c fd.offset with
   | none=>simp [b1] at ai
   | some v =>
    simp [b1] at ai;subst ai
    obtain ⟨vs,hval,aG,aL,ah⟩:=aa.vS
    obtain ⟨u,o,J⟩:=OJ aG aL ah b1
    refine gK (v:=u) h ?_ rfl J
    simp [execOp,ad,hval,Instr.field,run_underlying (CQ wX),qI,asAgg,o]
  ·simp at ai
 ·simp at ai
theorem Pe (off:Nat): ∀(vs:List Value) (n:Nat) (cs:Array Value) (j:Nat),off+n+vs.length≤cs.size →
 ((vs.zipIdx n).foldl (fun cs (x:Value×Nat)=>cs.setIfInBounds (off+x.2) x.1) cs)[j]? = if off+n≤j∧j<off+n+vs.length then vs[j-(off+n)]? else cs[j]? := by
 intro vs
 induction vs with
 | nil=>intro n cs j h;simp;intro o J;omega
 | cons v vs ih =>
  intro n cs j h
  simp only [List.length_cons] at h
  simp only [List.zipIdx_cons,List.foldl_cons]
  rw [ih (n+1) _ j (by simp;omega)]
  simp only [List.length_cons,Array.getElem?_setIfInBounds]
  by_cases o:j=off+n
  ·subst o
   rw [if_neg (by omega),if_pos rfl,if_pos (by omega),if_pos (by omega)]
   simp
  ·by_cases J:off+(n+1)≤j∧j<off+(n+1)+vs.length
   ·rw [if_pos J,if_pos (by omega)]
    rw [show j-(off+n)=(j-(off+(n+1)))+1 by omega];rfl
   ·rw [if_neg J,if_neg (fun e=>o e.symm),if_neg (by omega)]
theorem NK (off:Nat): ∀(vs:List (Value×Nat)) (cs:Array Value),(vs.foldl (fun cs (x:Value×Nat)=>cs.setIfInBounds (off+x.2) x.1) cs).size=cs.size:=by
 intro vs
 induction vs with
 | nil=>intro cs;rfl
 | cons v vs ih=>intro cs;simp only [List.foldl_cons];rw [ih];simp
def uU (w:World)(ok:Nat→Prop)(aK:hs)(aQ:hi)(c:List al)(cs:Array Value):Prop :=
 cs.size=c.length∧(∀(j:Nat) u,cs[j]? = some u→iv u=true)∧ ∀(j:Nat) x u,c[j]? = some x→cs[j]? = some u→Rel w ok aK aQ x u
theorem PX {ok:Nat→Prop}{aK:hs}{aQ:hi}{c:List al}{cs:Array Value}(h:uU w ok aK aQ c cs){x:al}{v:Value}{off:Nat}(aa:Rel w ok aK aQ x v)(aL:x.tN=true)
 (gD:off+x.cells.length≤c.length):v.cells.size=x.cells.length ∧
   uU w ok aK aQ (setCells c off x.cells) (v.cells.zipIdx.foldl (fun cs (y:Value×Nat)=>cs.setIfInBounds (off+y.2) y.1) cs):=by
 obtain ⟨vs,aX,aG,ie,ah⟩:=aa.cellsOf (al.G0 aL)
 have jY : ∀j,(v.cells.zipIdx.foldl (fun cs (y:Value×Nat)=>cs.setIfInBounds (off+y.2) y.1) cs)[j]? = if off≤j∧j<off+vs.length then vs[j-off]? else cs[j]? := by
  intro j
  rw [aX]
  have:=Pe off vs 0 cs j (by rw [h.1];omega)
  simp only [Nat.add_zero] at this
  rw [← this,← Array.foldl_toList,Array.toList_zipIdx]
 refine ⟨by rw [aX];simpa using aG,?_,?_,?_⟩
 ·rw [GB gD,← h.1,← Array.foldl_toList,NK]
 ·intro j u hu
  rw [jY] at hu
  split at hu
  ·exact ie _ _ hu
  ·exact h.2.1 _ _ hu
 ·intro j y u aN hu
  rw [jY] at hu
  rw [CP gD] at aN
  by_cases kh:off≤j∧j<off+x.cells.length
  ·rw [if_pos kh] at aN
   rw [if_pos (by rw [aG];exact kh)] at hu
   exact ah _ _ _ aN hu
  ·rw [if_neg kh] at aN
   rw [if_neg (by rw [aG];exact kh)] at hu
   exact h.2.2 _ _ _ aN hu
theorem Hd {ok:Nat→Prop}{aK:hs}{aQ:hi}(place:Nat→Option (Nat×Nat)): ∀(l:List (Nat×Nat×al)) (h3:List (Nat×Value)) (c:List al) (cs:Array Value) (c5:List al),
 uU w ok aK aQ c cs→l.length=h3.length →
 (∀(j:Nat) off size x i v,l[j]? = some (off,size,x)→h3[j]? = some (i,v)→place i=some (off,size)∧Rel w ok aK aQ x v) →
 qx c l=some c5→ ∃kS,Instr.fill place cs h3=some kS∧uU w ok aK aQ c5 kS:=by
 intro l
 induction l with
 | nil =>
  intro h3 c cs c5 h aG _ bM
  have:h3=[]:=List.length_eq_zero_iff.1 (by simpa using aG.symm)
  subst this
  simp [qx] at bM;subst bM
  exact ⟨cs,rfl,h⟩
 | cons q l ih =>
  intro h3 c cs c5 h aG ae bM
  obtain ⟨off,size,x⟩:=q
  match h3,aG with
  | (i,v)::h3,aG =>
   obtain ⟨SU,aa⟩:=ae 0 off size x i v rfl rfl
   simp only [qx] at bM
   split at bM
   ·rename_i aL
    simp only [Bool.and_eq_true,decide_eq_true_eq] at aL
    obtain ⟨⟨o,J⟩,ao⟩:=aL
    obtain ⟨ar,ay⟩:=PX h aa o (off:=off) (by omega)
    obtain ⟨kS,f1,f2⟩:=ih h3 _ _ c5 ay (by simpa using aG) (fun j off size x i v a b=>ae (j+1) off size x i v a b) bM
    refine ⟨kS,?_,f2⟩
    rw [Instr.fill]
    simp only [SU]
    have gr : ¬(decide (v.cells.size≠size) || decide (off+v.cells.size>cs.size))=true:=by simp;rw [ar,h.1];omega
    rw [if_neg gr]
    exact f1
   ·simp at bM
theorem mapM_some {α β:Type}(f:α→β)(p:α→Option β): ∀(l:List α),(∀x∈l,p x=some (f x))→l.mapM p=some (l.map f)
 | [],_=>rfl
 | x::l,h=>by
  rw [List.mapM_cons,h x (by simp),mapM_some f p l fun y aN=>h y (by simp [aN])];rfl
theorem Iv {α β:Type}(p:α→Option β): ∀(l:List α) (fa:List β),l.mapM p=some fa→fa.length=l.length∧ ∀(j:Nat) x y,l[j]? = some x→fa[j]? = some y→p x=some y
 | [],fa,h=>by simp at h;subst h;exact ⟨rfl,fun j x y aa=>by simp at aa⟩
 | a::l,fa,h=>by
  rw [List.mapM_cons] at h
  cases bx:p a with
  | none=>simp [bx] at h
  | some b =>
   cases aG:l.mapM p with
   | none=>simp [bx,aG] at h
   | some r =>
    simp [bx,aG] at h;subst h
    obtain ⟨o,J⟩:=Iv p l r aG
    refine ⟨by simp [o],fun j x y aa aN=> ?_⟩
    cases j with
    | zero=>simp at aa aN;subst aa;subst aN;exact bx
    | succ j=>simp at aa aN;exact J j x y aa aN
theorem Iw {t:TypeId}{z:List al}(b6:oq P t=some z): ∃i du,P.info? t=some i∧i.zero=some du∧du.cells.size=z.length∧uU w (s.ok g aj w) s.aK (s.aQ aj) z du.cells:=by
 obtain ⟨i,du,af,jk,po,ie⟩:=vA b6
 have bT:du.cells.size=z.length:=by rw [po];simp
 refine ⟨i,du,af,jk,bT,bT,fun j u hu=> ?_,fun j x u aa hu=> ?_⟩
 ·have av:j<z.length:=by
   have:=(Array.getElem?_eq_some_iff.1 hu).1;omega
  obtain ⟨v,ar,ay,-⟩:=ie j z[j] (List.getElem?_eq_getElem av)
  rw [hu] at ar;simp at ar;subst ar;exact ay
 ·obtain ⟨v,ar,-,bR⟩:=ie j x aa
  rw [hu] at ar;simp at ar;subst ar;exact bR _ _ _ _
theorem PY {t:TypeId}{parts:Array (Nat×Operand)}(h:b9 g s aj a w)(ad:I.op = .build t parts)(ai:dD P s.E s.aE aC I cb=some bd):Fin P g s a w I bd:=by
 simp only [dD,ad] at ai
 split at ai
 ·rename_i iX z wX b6
  split at ai
  ·simp at ai
  ·rename_i lH
   have lH : ∀f∈iX.toList,(P.info? f.type).isSome=true:=by
    rw [Bool.not_eq_false] at lH
    exact List.all_eq_true.1 lH
   split at ai
   ·rename_i l aG
    cases bM:qx z l with
    | none=>simp [bM] at ai
    | some c =>
     simp [bM] at ai;subst ai
     obtain ⟨it,du,wZ,jk,dK,hcs⟩:=Iw (w:=w) (s:=s) (g:=g) (aj:=aj) b6
     obtain ⟨lV,od⟩:=Iv _ _ _ aG
     have R8:iX.toList.mapM (fun f=>(P.info? f.type).map fun i=>(f.offset,i.size))=some (iX.toList.map fun f=>(f.offset,P.cellsOf f.type)):=by
      refine mapM_some (fun f:Field=>(f.offset,P.cellsOf f.type)) _ _ fun f bM=> ?_
      have:=lH f bM
      cases af:P.info? f.type with
      | none=>simp [af] at this
      | some i=>simp [Program.cellsOf,af]
     obtain ⟨kS,f1,f2⟩:=Hd (w:=w) (ok:=s.ok g aj w) (aK:=s.aK) (aQ:=s.aQ aj) ((iX.toList.map fun f=>(f.offset,P.cellsOf f.type)).toArray[·]?) l (parts.map fun (i,x)=>(i,a.eval x)).toList z du.cells c hcs (by simpa using lV) (by
      intro j off size x i v av aX
      simp only [Array.toList_map,List.getElem?_map,Option.map_eq_some_iff] at aX
      obtain ⟨⟨dU,b8⟩,ae,aX⟩:=aX
      simp only [Prod.mk.injEq] at aX
      obtain ⟨rfl,rfl⟩:=aX
      have:=od j _ _ ae av
      simp only [Option.map_eq_some_iff,Prod.mk.injEq] at this
      obtain ⟨fd,o,J,ao,aO⟩:=this
      subst J;subst ao;subst aO
      refine ⟨?_,h.eval b8⟩
      rw [List.getElem?_toArray,List.getElem?_map,Array.getElem?_toList,o];rfl) bM
     have aP:P.built t (parts.map fun (i,x)=>(i,a.eval x)).toList=some kS:=by
      unfold Program.built
      simp only [wZ,CQ wX,jk,R8]
      exact f1
     refine gK (v:= .agg kS) h ?_ rfl ?_
     ·have:=run_build w t _ kS aP
      simp [execOp,ad,this]
     ·have:=Rel.agg (w:=w) (ok:=s.ok g aj w) (aK:=s.aK) (aQ:=s.aQ aj) (c:=c) kS.toList (by simpa using f2.1) (fun j u hu=>f2.2.1 j u (by simpa using hu)) (fun j x u aa hu=>f2.2.2 j x u aa (by simpa using hu))
      simpa using this
   ·simp at ai
 ·simp at ai
theorem Np {sz:Nat}{es:List (List al)}(aG:∀e∈es,e.length=sz){i:Nat}(af:i<es.length){c:List al}(aL:c.length=sz):
 setCells es.flatten (i*sz) c=(es.set i c).flatten:=by
 have hlen : ∀(es:List (List al)),(∀e∈es,e.length=sz)→es.flatten.length=es.length*sz:=by
  intro es
  induction es with
  | nil=>simp
  | cons e es ih =>
   intro h
   rw [List.flatten_cons,List.length_append,ih fun x aa=>h x (by simp [aa]),h e (by simp),List.length_cons,Nat.add_mul];omega
 have gD:i*sz+c.length≤es.flatten.length:=by
  rw [hlen es aG,aL]
  have:=Nat.mul_le_mul_right sz (show i+1≤es.length by omega)
  rw [Nat.add_mul] at this;omega
 apply List.ext_getElem?
 intro j
 rw [CP gD,G1 aG (List.getElem?_eq_getElem af) aL,aL]
theorem He {sz:Nat}: ∀(l:List (Nat×al)) (es e9:List (List al)),(∀e∈es,e.length=sz)→ug sz es l=some e9 →
 qx es.flatten (l.map fun p=>(p.1*sz,sz,p.2))=some e9.flatten∧(∀e∈e9,e.length=sz)∧e9.length=es.length
 | [],es,e9,aG,h=>by simp [ug] at h;subst h;exact ⟨rfl,aG,rfl⟩
 | (i,x)::l,es,e9,aG,h=>by
  simp only [ug] at h
  split at h
  ·rename_i aL
   simp only [Bool.and_eq_true,decide_eq_true_eq] at aL
   obtain ⟨⟨o,J⟩,ao⟩:=aL
   have Ei : ∀e∈es.set i x.cells,e.length=sz:=by
    intro e hm
    rcases List.mem_or_eq_of_mem_set hm with bX|bX
    ·exact aG e bX
    ·exact bX▸J
   obtain ⟨hU,iK,dn⟩:=He l (es.set i x.cells) e9 Ei h
   have e:=Np aG ao J
   have gD:i*sz+sz≤es.flatten.length:=by
    have:(setCells es.flatten (i*sz) x.cells).length=(es.set i x.cells).flatten.length:=by rw [e]
    have a1 : ∀(es:List (List al)),(∀e∈es,e.length=sz)→es.flatten.length=es.length*sz:=by
     intro es
     induction es with
     | nil=>simp
     | cons e es ih =>
      intro h
      rw [List.flatten_cons,List.length_append,ih fun x aa=>h x (by simp [aa]),h e (by simp),List.length_cons,Nat.add_mul];omega
    rw [a1 es aG]
    have:=Nat.mul_le_mul_right sz (show i+1≤es.length by omega)
    rw [Nat.add_mul] at this;omega
   refine ⟨?_,iK,by simpa using dn⟩
   simp only [List.map_cons,qx,o,J,gD,decide_true,Bool.and_self,if_true]
   rw [e];exact hU
  ·simp at h
theorem NU {t:TypeId}{len:Nat}{parts:Array (Nat×Operand)}(h:b9 g s aj a w)(dF:s.aE aC=none)(ad:I.op = .buildSlice t len parts)(ai:dD P s.E s.aE aC I cb=some bd):Fin P g s a w I bd:=by
 simp only [dD,ad] at ai
 split at ai
 ·rename_i e he
  split at ai
  ·rename_i z b6
   split at ai
   ·simp at ai
   ·rename_i aL
    simp only [not_or,Nat.not_lt,Decidable.not_not] at aL
    obtain ⟨kT,uz,uA⟩:=aL
    split at ai
    ·rename_i es fY
     simp only [Option.some.injEq] at ai;subst ai
     obtain ⟨it,du,wZ,jk,dK,hcs⟩:=Iw (w:=w) (s:=s) (g:=g) (aj:=aj) b6
     have ie:P.cellsOf e=it.size:=by simp [Program.cellsOf,wZ]
     have JS : ∀x∈List.replicate len z,x.length=z.length:=fun x aa=>by rw [List.eq_of_mem_replicate aa]
     obtain ⟨f1,f2,f3⟩:=He _ _ _ JS fY
     have oL:uU w (s.ok g aj w) s.aK (s.aQ aj) (List.replicate len z).flatten ((Array.range (len*it.size)).map (du.cells[· % du.cells.size]!)):=by
      have zz:0<z.length:=by omega
      have jY : ∀j,j<len*it.size→((Array.range (len*it.size)).map (du.cells[· % du.cells.size]!))[j]? = du.cells[j % z.length]? := by
       intro j av
       rw [Array.getElem?_map,Array.getElem?_range]
       simp only [av,if_true,Option.map_some]
       have hm:j % du.cells.size<du.cells.size:=Nat.mod_lt _ (by omega)
       rw [getElem!_pos du.cells _ hm,← dK,Array.getElem?_eq_getElem hm]
      have c9 : ∀(j:Nat) u,((Array.range (len*it.size)).map (du.cells[· % du.cells.size]!))[j]? = some u→j<len*it.size:=by
       intro j u hu
       have:=(Array.getElem?_eq_some_iff.1 hu).1
       simpa using this
      refine ⟨by simp [← ie,← uz],fun j u hu=> ?_,fun j x u aa hu=> ?_⟩
      ·have av:=c9 j u hu
       rw [jY j av] at hu
       exact hcs.2.1 _ _ hu
      ·have av:=c9 j u hu
       rw [jY j av] at hu
       rw [m0 zz _ JS,List.getElem?_replicate] at aa
       split at aa
       ·exact hcs.2.2 _ _ _ aa hu
       ·simp at aa
     obtain ⟨kS,g1,g2⟩:=Hd (w:=w) (ok:=s.ok g aj w) (aK:=s.aK) (aQ:=s.aQ aj) (fun i=>some (i*it.size,it.size)) ((parts.toList.map fun p=>(p.1,d2 s.E p.2)).map fun p=>(p.1*z.length,z.length,p.2)) (parts.map fun (i,x)=>(i,a.eval x)).toList _ _ es.flatten oL (by simp) (by
      intro j off size x i v av aX
      simp only [Array.toList_map,List.getElem?_map,Option.map_eq_some_iff,List.map_map] at aX av
      obtain ⟨⟨dU,b8⟩,ae,aX⟩:=aX
      obtain ⟨⟨kZ,ek⟩,wV,av⟩:=av
      rw [ae] at wV
      simp only [Option.some.injEq,Prod.mk.injEq] at wV aX
      obtain ⟨rfl,rfl⟩:=wV
      obtain ⟨rfl,rfl⟩:=aX
      simp only [Function.comp,Prod.mk.injEq] at av
      obtain ⟨rfl,rfl,rfl⟩:=av
      exact ⟨by rw [← ie,← uz],h.eval b8⟩) f1
     have ha:(Instr.buildSlice t len (parts.map fun (i,x)=>(i,a.eval x))).run P w = .ok (.slice (some ⟨w.heap.size,0,none⟩) len len) (w.alloc (.cells kS e)):=by
      have o : ¬len*it.size>2 ^ 24:=by rw [← ie,← uz];omega
      by_cases h0:len*it.size=0
      ·have ll:len=0:=by
        rcases Nat.eq_zero_or_pos len with bX|bX
        ·exact bX
        ·have:0<len*it.size:=Nat.mul_pos bX (by omega)
         omega
       subst ll
       have e0:((Array.range (0*it.size)).map (du.cells[· % du.cells.size]!)) = #[]:=by simp
       rw [e0] at g1
       have ae:parts = #[]:=by
        obtain ⟨l⟩:=parts
        match l,fY with
        | [],_=>rfl
        | p::l,fY=>simp [ug] at fY
       subst ae
       have R9:kS = #[]:=by simpa [Instr.fill] using g1.symm
       subst R9
       simp [Instr.buildSlice,run_underlying (o6 he),sizeOf,typeInfo,wZ,newRow,Instr.fill]
       rw [Array.range_zero',Array.map_empty]
      ·simp only [Instr.buildSlice,run_underlying (o6 he),sizeOf,typeInfo,wZ,newRow,zeroValue,jk,Sem.run_bind,Result.andThen_ok,run_program,Sem.run_pure,Sem.run_ite,o,h0,if_false]
       rw [g1];rfl
     refine yQ (v:= .slice (some ⟨w.heap.size,0,none⟩) len len) (ab:=⟨z.length,es,.live⟩) (c:=kS) (dv:=e) h dF rfl ?_ rfl f2 ?_ ?_
     ·simp [execOp,ad,ha]
     ·intro j x aa
      have av:j<kS.size:=by
       rw [g2.1]
       rcases Nat.lt_or_ge j es.flatten.length with bX|bX
       ·exact bX
       ·rw [List.getElem?_eq_none bX] at aa;simp at aa
      have hu:kS[j]? = some kS[j]:=Array.getElem?_eq_getElem av
      exact ⟨_,hu,g2.2.1 _ _ hu,g2.2.2 _ _ _ aa hu⟩
     ·intro bm i4 kO kf hu b1
      refine Rel.bp hu b1 (Nat.le_refl _) ?_ ⟨?_,.inr (by simp)⟩
      ·have:len≤len*z.length:=Nat.le_mul_of_pos_right _ (by omega)
       omega
      ·rw [g2.1]
       have a1 : ∀(es:List (List al)),(∀e∈es,e.length=z.length)→es.flatten.length=es.length*z.length:=by
        intro es
        induction es with
        | nil=>simp
        | cons e es ih =>
         intro h
         rw [List.flatten_cons,List.length_append,ih fun x aa=>h x (by simp [aa]),h e (by simp),List.length_cons,Nat.add_mul];omega
       rw [a1 es f2,f3];simp
    ·simp at ai
  ·simp at ai
 ·simp at ai
theorem yz (h:b9 g s aj a w)(dF:s.aE aC=none)(ai:dD P s.E s.aE aC I cb=some bd)(b4:∀p∈bd.ep,p):Fin P g s a w I bd:=by
 cases ad:I.op with
 | move x=>exact Iu h (.inl ad) ai
 | assign x=>exact Iu h (.inr ad) ai
 | pick c x y=>exact QD h ad ai b4
 | alloc t=>exact PQ h dF ad ai
 | box t x=>exact Q6 h dF ad ai
 | load t x=>exact QE h ad ai b4
 | store t x y=>exact PR h ad ai b4
 | nilCheck x=>exact Oh h ad ai b4
 | binOp op t x y cJ=>exact PS h ad ai b4
 | unOp op t x=>exact QF h ad ai
 | convert t cJ x=>exact OG h ad ai
 | makeFunc f xq bS=>exact Oi h ad ai
 | makeSlice t x y=>exact N1 h dF ad ai b4
 | fieldAddr t x f=>exact N2 h ad ai b4
 | field t x f=>exact PW h ad ai
 | indexAddr t x y=>exact N3 h ad ai b4
 | index t x y=>exact PU h ad ai b4
 | extract x i=>exact OH h ad ai
 | slice t x bw af Fu =>
  cases Fu with
  | none=>exact PV h ad ai b4
  | some m=>simp [dD,ad] at ai
 | build t h3=>exact PY h ad ai
 | buildSlice t n h3=>exact NU h dF ad ai
 | call c =>
  obtain ⟨zA,args,kP⟩:=c
  cases zA with
  | builtin b=>cases b<;>first|exact Q7 h ad rfl ai b4|simp [dD,ad] at ai
  | value f=>simp [dD,ad] at ai
  | invoke r m=>simp [dD,ad] at ai
 | _=>simp [dD,ad] at ai
end
end Go.VL
namespace Go.VL
set_option linter.unusedVariables false
set_option linter.unusedSimpArgs false
open Go
def Q8:Option ap→ew
 | some I=> .gh I []
 | none=> .none
def oA (sz:Nat)(aE:Nat→Option (List ap))(a:ew):al→Option (List (List al)×List Prop)
 | .isl zB es=>if zB=sz then some (es,[]) else none
 | .bp r k bw len=>match mI (aE r) k a with
  | some (ab,bZ)=>if ab.sz=sz then some ((ab.es.drop bw).take len,bZ++[bw+len≤ab.es.length]) else none
  | none=>none
 | .dJ=>some ([],[])
 | .gW=>some ([],[])
 | _=>none
def rK (P:Program)(sz:Nat)(z:List al)(aE:Nat→Option (List ap))(a:ew)(t cJ:TypeId)(y:al):Option (List (List al)×List Prop) :=
 if t=cJ then oA sz aE a y else
 match P.underlying cJ,y with
 | some (.int _),.n .i64 n=>some (List.replicate n.toNat z,[0≤n,n<9223372036854775808])
 | _,_=>none
def lL (P:Program)(E:Nat→al)(aE:Nat→Option (List ap))(aC:Nat)(b:Builtin)(args:List al)(kP:List TypeId)(cb:ew):Option gx :=
 match b,args,kP,cb with
 | .append,[x,y],[t,cJ],.bb m I =>
  match ns P t with
  | none=>none
  | some e=>match P.info? e,oq P e with
   | some i,some z =>
    if z.length≠i.size∨i.size=0∨i.bytes=0 then none else
    match rK P i.size z aE (Q8 I) t cJ y with
    | none=>none
    | some (bc,bZ)=>match x with
     | .dJ=>some {val:= .bp aC 0 0 m,eE:=[(aC,[⟨i.size,bc,.live⟩])],ep:=bZ++[m=bc.length,m*i.bytes≤140737488355328]}
     | .bp r k 0 len=>match aE r with
      | none=>none
      | some row=>match cz (some row) k with
       | none=>none
       | some ab=>if ab.bY = .live∧ab.sz=i.size∧aC≠r then
        some {val:= .bp aC 0 0 m,eE:=[(aC,[⟨i.size,ab.es.take len++bc,.live⟩]),(r,row.set k {ab with bY:= .gone})],ep:=bZ++[len≤ab.es.length,m=len+bc.length,m*i.bytes≤140737488355328]} else none
     | _=>none
   | _,_=>none
 | .append,[x,y],[t,cJ],.eV =>
  match ns P t with
  | none=>none
  | some e=>match P.info? e,oq P e with
   | some i,some z =>
    if z.length≠i.size∨i.size=0∨i.bytes=0 then none else
    match rK P i.size z aE .none t cJ y with
    | none=>none
    | some (bc,bZ)=>match x with
     | .bp r k 0 len=>match aE r with
      | none=>none
      | some row=>match cz (some row) k with
       | none=>none
       | some ab=>if ab.bY = .live∧ab.sz=i.size then
        some {val:= .bp r k 0 (len+bc.length),eE:=[(r,row.set k {ab with es:=ab.es.take len++bc})],ep:=bZ++[len+bc.length≤ab.es.length,bc.length*i.bytes≤140737488355328]} else none
     | _=>none
   | _,_=>none
 | .copy,[.bp r k 0 len,y],[t,_],_ =>
  match ns P t with
  | none=>none
  | some e=>match P.info? e with
   | none=>none
   | some i=>match oA i.size aE .none y with
    | none=>none
    | some (bc,bZ)=>match aE r with
     | none=>none
     | some row=>match cz (some row) k with
      | none=>none
      | some ab=>if ab.bY = .live∧ab.sz=i.size∧i.size≠0 then
       some {val:= .n .i64 bc.length,eE:=[(r,row.set k {ab with es:=bc++ab.es.drop bc.length})],ep:=bZ++[bc.length≤len,len≤ab.es.length]} else none
 | .clear,[.bp r k 0 len],[t],_ =>
  match ns P t with
  | none=>none
  | some e=>match P.info? e,oq P e with
   | some i,some z=>match aE r with
    | none=>none
    | some row=>match cz (some row) k with
     | none=>none
     | some ab=>if ab.bY = .live∧ab.sz=i.size∧z.length=i.size∧i.size≠0 then
      some {val:= .dx [],eE:=[(r,row.set k {ab with es:=List.replicate len z})],ep:=[ab.es.length=len]} else none
   | _,_=>none
 | .min,[.n k x,.n cU y],_,_=>if k=cU then some {val:= .n k (if y<x then y else x)} else none
 | _,_,_,_=>none
section
variable {g:G} {s:S} {aj:ef} {a:Act} {w bm:World}
theorem b9.gone (h:b9 g s aj a w){r k:Nat}{l:List ap}{I:ap}(ah:s.aE r=some l)(ad:s.ab r k=some I):
 b9 g (s.setRow r (l.set k {I with bY:= .gone})) aj a w ∧
  ∀x v,Rel w (s.ok g aj w) s.aK (s.aQ aj) x v→Rel w ((s.setRow r (l.set k {I with bY:= .gone})).ok g aj w) (s.setRow r (l.set k {I with bY:= .gone})).aK ((s.setRow r (l.set k {I with bY:= .gone})).aQ aj) x v:=by
 have a3 : ∀q j p,(s.setRow r (l.set k {I with bY:= .gone})).ab q j=some p→s.ab q j=some p∧ ¬(q=r∧j=k):=by
  intro q j p ae
  rw [jF] at ae
  by_cases e:q=r
  ·subst e
   rw [if_pos rfl] at ae
   unfold cz at ae
   simp only [List.getElem?_set] at ae
   by_cases ay:k=j
   ·subst ay
    by_cases aV:k<l.length
    ·simp [aV] at ae
    ·simp [aV] at ae
   ·rw [if_neg ay] at ae
    refine ⟨?_,fun eK=>ay eK.2.symm⟩
    unfold S.ab;rw [ah];exact ae
  ·rw [if_neg e] at ae
   exact ⟨ae,fun eK=>e eK.1⟩
 have cm:Step g s aj w (s.setRow r (l.set k {I with bY:= .gone})) aj w:=by
  refine ⟨yn s ah (by simp),fun q j a1=> ?_,fun b aG=> ?_,fun _ _ _=>rfl,Nat.le_refl _⟩
  ·cases ae:(s.setRow r (l.set k {I with bY:= .gone})).ab q j with
   | none=>right;simp [S.aQ,ae]
   | some p=>left;simp [S.aQ,ae,(a3 q j p ae).1]
  ·obtain ⟨q,j,p,m,o,J,ao⟩:=aG
   exact .inl ⟨q,j,p,m,(a3 q j p o).1,J,ao⟩
 refine ⟨{togw:=⟨?_,?_,?_,h.fO,h.mlt,h.lf,cm.stay h.stay,h.low⟩,env:=fun t=>cm.rel (h.env t),defers:=h.defers,hZ:=h.hZ},fun x v=>cm.rel⟩
 ·intro q j p ae
  exact cm.obj (fun b m _=>rfl) (h.obj q j p (a3 q j p ae).1)
 ·intro q j p f9 gl iB b m a8 o J ao aO
  exact h.inj q j p f9 gl iB b m a8 (a3 q j p o).1 (a3 f9 gl iB J).1 ao aO
 ·intro q j p b m o J
  exact h.own q j p b m (a3 q j p o).1 J
theorem b9.Ix (h:b9 g s aj a w){aC sz:Nat}(dF:s.aE aC=none):
 ∃bj,bj aC 0=none∧b9 g (s.setRow aC [⟨sz,[],.live⟩]) bj a w:=by
 have a3 : ∀q k,q≠aC→(s.setRow aC [⟨sz,[],.live⟩]).ab q k=s.ab q k:=fun q k a1=>by rw [jF,if_neg a1]
 let bj:ef:=fun q k=>if q=aC then none else aj q k
 have cf : ∀q k,s.aK q k→q≠aC:=by
  rintro q k a1 rfl;exact tw dF k a1
 have D0 : ∀k I,(s.setRow aC [⟨sz,[],.live⟩]).ab aC k=some I→I=⟨sz,[],.live⟩:=by
  intro k I ad
  rw [jF,if_pos rfl,j8] at ad
  split at ad
  ·simp at ad;exact ad.symm
  ·simp at ad
 have cm:Step g s aj w (s.setRow aC [⟨sz,[],.live⟩]) bj w:=by
  refine ⟨fun q k a1=>(k9 _ _ _ _ _).2 (by rw [if_neg (cf q k a1)];exact a1),fun q k a1=> .inl ?_,fun b aG=> ?_,fun _ _ _=>rfl,Nat.le_refl _⟩
  ·simp [S.aQ,a3 q k (cf q k a1),bj,cf q k a1]
  ·obtain ⟨q,k,I,m,o,J,ao⟩:=aG
   by_cases e:q=aC
   ·subst e;simp [bj] at ao
   ·rw [a3 q k e] at o
    simp only [bj,if_neg e] at ao
    exact .inl ⟨q,k,I,m,o,J,ao⟩
 refine ⟨bj,by simp [bj],{togw:=⟨?_,?_,?_,h.fO,h.mlt,h.lf,cm.stay h.stay,h.low⟩,env:=fun t=>cm.rel (h.env t),defers:=h.defers,hZ:=h.hZ}⟩
 ·intro q k I ad
  by_cases e:q=aC
  ·subst e
   rw [D0 k I ad]
   simp [bj,hz]
  ·rw [a3 q k e] at ad
   have:=cm.obj (fun b m _=>rfl) (h.obj q k I ad)
   simpa [bj,e] using this
 ·intro q k I f9 cU bD b m a8 o J ao aO
  have e:q≠aC:=by rintro rfl;simp [bj] at ao
  have dy:f9≠aC:=by rintro rfl;simp [bj] at aO
  rw [a3 q k e] at o
  rw [a3 f9 cU dy] at J
  simp only [bj,if_neg e] at ao
  simp only [bj,if_neg dy] at aO
  exact h.inj q k I f9 cU bD b m a8 o J ao aO
 ·intro q k I b m o J
  have e:q≠aC:=by rintro rfl;simp [bj] at J
  rw [a3 q k e] at o
  simp only [bj,if_neg e] at J
  exact h.own q k I b m o J
theorem b9.turn (h:b9 g s aj a w){r k b m aC:Nat}{l:List ap}{I:ap}(ah:s.aE r=some l)(ad:s.ab r k=some I)(aV:I.bY = .live)(ae:aj r k=some (b,m))
 (dF:s.aE aC=none) (bD:ap) (kU:bD.bY = .live) (c:Array Value) (dv:TypeId)
 (hw:bm.heap[b]? = some (.cells c dv (0,0))) (dK:bm.heap.size=w.heap.size) (rJ : ∀q,q≠b→bm.heap[q]? = w.heap[q]?)
 (n3:bm.os=w.os) (Eg:bm.tape=w.tape) (DX:bm.output=w.output) (hm:c.size=m) (hlen : ∀e∈bD.es,e.length=bD.sz)
 (aL : ∀(j:Nat) x,bD.es.flatten[j]? = some x→ ∃v,c[j]? = some v∧iv v=true∧Rel w (s.ok g aj w) s.aK (s.aQ aj) x v) :
 ∃bj,bj aC 0=some (b,m)∧b9 g ((s.setRow aC [bD]).setRow r (l.set k {I with bY:= .gone})) bj a bm:=by
 have cf:r≠aC:=by rintro rfl;rw [dF] at ah;simp at ah
 have JT : ∀k,¬s.aK aC k:=tw dF
 let bo:=(s.setRow aC [bD]).setRow r (l.set k {I with bY:= .gone})
 let bj:ef:=aj.set aC 0 (some (b,m))
 have a3 : ∀q j p,bo.ab q j=some p→(q=aC∧j=0∧p=bD)∨(q≠aC∧s.ab q j=some p∧ ¬(q=r∧j=k)):=by
  intro q j p a1
  rw [jF] at a1
  by_cases e:q=r
  ·subst e
   rw [if_pos rfl] at a1
   unfold cz at a1
   simp only [List.getElem?_set] at a1
   by_cases ay:k=j
   ·subst ay
    by_cases aV:k<l.length<;>simp [aV] at a1
   ·rw [if_neg ay] at a1
    refine .inr ⟨cf,?_,fun eK=>ay eK.2.symm⟩
    unfold S.ab;rw [ah];exact a1
  ·rw [if_neg e,jF] at a1
   by_cases ay:q=aC
   ·subst ay
    rw [if_pos rfl,j8] at a1
    split at a1
    ·rename_i h0;simp at a1;exact .inl ⟨rfl,h0.1,a1.symm⟩
    ·simp at a1
   ·rw [if_neg ay] at a1
    exact .inr ⟨ay,a1,fun eK=>e eK.1⟩
 have jO : ∀q j,q≠aC→bj q j=aj q j:=fun q j a1=>by simp [bj,ef.set,a1]
 have uB:bj aC 0=some (b,m):=by simp [bj,ef.set]
 have nr:s.jT aj b:=⟨r,k,I,m,ad,aV,ae⟩
 have hC : ∀q j,s.aK q j→bo.aK q j:=fun q j a1=>by
  have e:q≠aC:=fun e=>JT j (e▸a1)
  rw [k9,k9,if_neg e]
  by_cases ay:q=r
  ·subst ay;rw [if_pos rfl];simpa [S.aK,ah] using a1
  ·rw [if_neg ay];exact a1
 have cm:Step g s aj w bo bj bm:=by
  refine ⟨hC,fun q j a1=> ?_,fun q aG=> ?_,fun q a1 aG=>rJ q fun e=>aG (e▸nr),Nat.le_of_eq dK.symm⟩
  ·have lj:q≠aC:=fun e=>JT j (e▸a1)
   cases iJ:bo.ab q j with
   | none=>right;simp [S.aQ,iJ]
   | some p =>
    left
    rcases a3 q j p iJ with ⟨e,-⟩|⟨-,ay,-⟩
    ·exact absurd e lj
    ·simp [S.aQ,iJ,ay,jO q j lj]
  ·obtain ⟨f9,j,p,a8,o,J,ao⟩:=aG
   rcases a3 f9 j p o with ⟨rfl,rfl,rfl⟩|⟨ar,ay,-⟩
   ·rw [uB] at ao;simp at ao;exact .inl (ao.1▸nr)
   ·rw [jO f9 j ar] at ao;exact .inl ⟨f9,j,p,a8,ay,J,ao⟩
 refine ⟨bj,uB,{togw:=⟨?_,?_,?_,?_,h.mlt,h.lf,cm.stay h.stay,h.low⟩,env:=fun t=>cm.rel (h.env t),defers:=h.defers,hZ:=h.hZ}⟩
 ·intro q j p iJ
  rcases a3 q j p iJ with ⟨rfl,rfl,rfl⟩|⟨ar,ay,bR⟩
  ·rw [uB]
   exact ⟨c,dv,hw,hm,hlen,fun i x aa=>let ⟨v,f1,f2,f3⟩:=aL i x aa;⟨v,f1,f2,cm.rel f3⟩⟩
  ·rw [jO q j ar]
   refine cm.obj (fun iC a8 jj=>rJ iC ?_) (h.obj q j p ay)
   rintro rfl
   exact bR (h.inj q j p r k I iC a8 m ay ad jj ae)
 ·intro q j p f9 gl iB iC gG fA o J ao aO
  rcases a3 q j p o with ⟨rfl,rfl,rfl⟩|⟨ar,ay,bR⟩<;>rcases a3 f9 gl iB J with ⟨rfl,rfl,rfl⟩|⟨kV,nd,w0⟩
  ·exact ⟨rfl,rfl⟩
  ·rw [uB] at ao;simp at ao
   rw [jO f9 gl kV] at aO
   obtain ⟨rfl,rfl⟩:=ao
   exact absurd (h.inj f9 gl iB r k I b fA m nd ad aO ae) w0
  ·rw [uB] at aO;simp at aO
   rw [jO q j ar] at ao
   obtain ⟨rfl,rfl⟩:=aO
   exact absurd (h.inj q j p r k I b gG m ay ad ao ae) bR
  ·rw [jO q j ar] at ao;rw [jO f9 gl kV] at aO
   exact h.inj q j p f9 gl iB iC gG fA ay nd ao aO
 ·intro q j p iC a8 o J
  rcases a3 q j p o with ⟨rfl,rfl,rfl⟩|⟨ar,ay,-⟩
  ·rw [uB] at J;simp at J
   rw [← J.1]
   exact h.own r k I b m ad ae
  ·rw [jO q j ar] at J;exact h.own q j p iC a8 ay J
 ·refine h.fO.step n3 Eg DX (Nat.le_of_eq dK.symm) fun iC n4 jj=>rJ iC ?_
  rintro rfl
  rcases h.own r k I iC m ad ae with o|o
  ·omega
  ·exact jj o
theorem mi.lI {ok:Nat→Prop}{aK:hs}{aQ:hi}{c8 I sz:Nat}{es:List (List al)}(h:mi w ok aK aQ c8 I sz es):
 ∃vs:List Value,vs.length=es.length*sz∧(∀(j:Nat) u,vs[j]? = some u→w.cell? ((⟨c8,I,none⟩:Addr).add j)=some u)∧(∀u∈vs,u.oneCell'=true) ∧
  ∀(j:Nat) x u,es.flatten[j]? = some x→vs[j]? = some u→Rel w ok aK aQ x u:=by
 have h1:es.flatten.length=es.length*sz:=by
  have : ∀(es:List (List al)),(∀e∈es,e.length=sz)→es.flatten.length=es.length*sz:=by
   intro es
   induction es with
   | nil=>intro _;simp
   | cons e es ih =>
    intro eK
    rw [List.flatten_cons,List.length_append,ih fun x aa=>eK x (by simp [aa]),eK e (by simp),List.length_cons,Nat.add_mul];omega
  exact this es h.1
 have aa : ∀i,i<es.length*sz→ ∃v,∀x,es.flatten[i]? = some x→w.cell? ⟨c8,I+i,none⟩=some v∧iv v=true∧Rel w ok aK aQ x v:=by
  intro i af
  have av:=List.getElem?_eq_getElem (l:=es.flatten) (i:=i) (by omega)
  obtain ⟨v,o⟩:=h.2 i _ av
  exact ⟨v,fun x aa=>by rw [av] at aa;simp at aa;subst aa;exact o⟩
 let vs:List Value:=(List.range (es.length*sz)).map fun i=>if af:i<es.length*sz then (aa i af).choose else undef
 have ny:vs.length=es.length*sz:=by simp [vs]
 have jY : ∀(i:Nat) u x,vs[i]? = some u→es.flatten[i]? = some x→w.cell? ⟨c8,I+i,none⟩=some u∧iv u=true∧Rel w ok aK aQ x u:=by
  intro i u x hu w1
  have af:i<es.length*sz:=by
   rcases Nat.lt_or_ge i vs.length with bX|bX
   ·omega
   ·rw [List.getElem?_eq_none bX] at hu;simp at hu
  simp only [vs,List.getElem?_map,List.getElem?_range af,Option.map_some,dif_pos af,Option.some.injEq] at hu
  subst hu
  exact (aa i af).choose_spec x w1
 have hex : ∀(i:Nat) u,vs[i]? = some u→ ∃x,es.flatten[i]? = some x:=by
  intro i u hu
  have af:i<es.flatten.length:=by
   rcases Nat.lt_or_ge i vs.length with bX|bX
   ·omega
   ·rw [List.getElem?_eq_none bX] at hu;simp at hu
  exact ⟨_,List.getElem?_eq_getElem af⟩
 refine ⟨vs,ny,fun j u hu=> ?_,fun u hu=> ?_,fun j x u cO hu=>(jY j u x hu cO).2.2⟩
 ·obtain ⟨x,w1⟩:=hex j u hu
  rw [o5];exact (jY j u x hu w1).1
 ·obtain ⟨j,av⟩:=List.getElem?_of_mem hu
  obtain ⟨x,w1⟩:=hex j u av
  exact (jY j u x av w1).2.1
theorem NL {es bc:List (List al)}{sz:Nat}{xs news:List Value}(aa:xs.length=es.length*sz)(he:∀e∈es,e.length=sz){j:Nat}{x:al}(h:(es++bc).flatten[j]? = some x)
 {ok:Nat→Prop} {aK:hs} {aQ:hi} (o : ∀(j:Nat) x u,es.flatten[j]? = some x→xs[j]? = some u→Rel w ok aK aQ x u) (J : ∀(j:Nat) x u,bc.flatten[j]? = some x→news[j]? = some u→Rel w ok aK aQ x u)
 {u:Value} (hu:(xs++news)[j]? = some u):Rel w ok aK aQ x u:=by
 have h1:es.flatten.length=es.length*sz:=by
  have : ∀(es:List (List al)),(∀e∈es,e.length=sz)→es.flatten.length=es.length*sz:=by
   intro es
   induction es with
   | nil=>intro _;simp
   | cons e es ih =>
    intro eK
    rw [List.flatten_cons,List.length_append,ih fun x aa=>eK x (by simp [aa]),eK e (by simp),List.length_cons,Nat.add_mul];omega
  exact this es he
 rw [List.flatten_append,List.getElem?_append] at h
 rw [List.getElem?_append] at hu
 by_cases av:j<es.flatten.length
 ·rw [if_pos av] at h
  rw [if_pos (by omega)] at hu
  exact o j x u h hu
 ·rw [if_neg av] at h
  rw [if_neg (by omega)] at hu
  rw [h1] at h
  rw [aa] at hu
  exact J _ x u h hu
variable {P:Program}
theorem HY (h:b9 g s aj a w){sz:Nat}{x:al}{eg:ew}{bc:List (List al)}{ab:List Prop}(he:oA sz s.aE eg x=some (bc,ab))(a3:∀p∈ab,p){v:Value}(aX:Rel w (s.ok g aj w) s.aK (s.aQ aj) x v):
 ∃A c,v = .slice A bc.length c∧(∀e∈bc,e.length=sz)∧(bc.length=0∨ ∃c8 off,A=some ⟨c8,off,none⟩∧mi w (s.ok g aj w) s.aK (s.aQ aj) c8 off sz bc):=by
 cases x with
 | isl zB es =>
  simp only [oA] at he
  split at he
  ·rename_i bT
   subst bT
   simp only [Option.some.injEq,Prod.mk.injEq] at he
   obtain ⟨rfl,rfl⟩:=he
   rcases aX.pF with ⟨rfl,A,c,rfl,-⟩|⟨c8,off,c,-,rfl,-,gF⟩
   ·exact ⟨A,c,rfl,by simp,.inl rfl⟩
   ·exact ⟨_,c,rfl,gF.1,.inr ⟨c8,off,rfl,gF⟩⟩
  ·simp at he
 | bp r k bw len =>
  simp only [oA] at he
  split at he
  ·rename_i lm bZ iz
   split at he
   ·rename_i bT
    simp only [Option.some.injEq,Prod.mk.injEq] at he
    obtain ⟨rfl,rfl⟩:=he
    have gD:bw+len≤lm.es.length:=a3 _ (by simp)
    have ad:s.ab r k=some lm:=qo iz (fun p ae=>a3 p (by simp [ae]))
    have ej:=h.obj r k lm ad
    have aG:((lm.es.drop bw).take len).length=len:=by simp;omega
    rcases aX.vT (gM ad) with ⟨-,rfl,rfl,rfl⟩|⟨b,m,A,c,ae,rfl,oK,-,hm⟩
    ·exact ⟨none,0,by simp,by simp,.inl (by simp)⟩
    ·rw [ae] at ej
     have gF:=ej.rd
     subst bT
     have rV:=yo gF bw len (by omega)
     refine ⟨A,c,by rw [aG],rV.1,?_⟩
     rcases hm with rfl|⟨rfl,-⟩
     ·left;rw [aG];omega
     ·right
      rw [Nat.zero_add] at rV
      exact ⟨b,_,rfl,rV⟩
   ·simp at he
  ·simp at he
 | dJ =>
  simp only [oA,Option.some.injEq,Prod.mk.injEq] at he
  obtain ⟨rfl,rfl⟩:=he
  rw [aX.nm]
  exact ⟨none,0,rfl,by simp,.inl rfl⟩
 | gW =>
  simp only [oA,Option.some.injEq,Prod.mk.injEq] at he
  obtain ⟨rfl,rfl⟩:=he
  obtain ⟨A,c,rfl⟩:=aX.yP
  exact ⟨some A,c,rfl,by simp,.inl rfl⟩
 | _=>simp [oA] at he
structure D1 (P:Program) (w:World) (t cJ dv e:TypeId) (i:TypeInfo) (du lu:Value) (n:Nat) (vs:List Value):Prop where
 zero:n=0→ ∀(B:Option Addr) (len cap:Nat),len≤cap→(Builtin.append_ #[t,cJ] dv #[.slice B len cap,lu]).run P w = .ok (.slice B len cap) w
 nil:0<n→(n:Int)≤9223372036854775807→n*i.bytes≤140737488355328 →
  (Builtin.append_ #[t,cJ] dv #[.slice none 0 0,lu]).run P w = .ok (.slice (some ⟨w.heap.size,0,none⟩) n (grownCap w n 0 e)) (w.drew.alloc (.cells (vs.toArray++Builtin.zeroCells du.cells (grownCap w n 0 e-n)) e))
 room:0<n→ ∀(g gU jW:Nat) (jI:Array Value) (dy:TypeId),w.heap[g]? = some (.cells jI dy (0,0))→gU+n≤jW→gU*i.size+vs.length≤jI.size→n*i.bytes≤140737488355328 →
  (Builtin.append_ #[t,cJ] dv #[.slice (some ⟨g,0,none⟩) gU jW,lu]).run P w = .ok (.slice (some ⟨g,0,none⟩) (gU+n) jW) (w.setRow g (jI.toList.take (gU*i.size)++vs++jI.toList.drop (gU*i.size+vs.length)).toArray)
 grow:0<n→ ∀(b:Addr) (gU jW:Nat) (rW:List Value),rW.length=gU*i.size→(∀(j:Nat) v,rW[j]? = some v→w.cell? (b.add j)=some v)→jW<gU+n→((gU+n:Nat):Int)≤9223372036854775807→Builtin.nextslicecap (gU+n) jW*i.bytes≤281474976710656→n*i.bytes≤140737488355328 →
  (Builtin.append_ #[t,cJ] dv #[.slice (some b) gU jW,lu]).run P w = .ok (.slice (some ⟨w.heap.size,0,none⟩) (gU+n) (grownCap w (gU+n) jW e))
    (w.drew.alloc (.cells (rW.toArray++vs.toArray++Builtin.zeroCells du.cells (grownCap w (gU+n) jW e-(gU+n))) e))
theorem Nq (t dv e:TypeId)(i:TypeInfo)(b1:P.underlying t=some (.slice e))(af:P.info? e=some i)
 (g gU jW:Nat) (jI:Array Value) (dy:TypeId) (dd:w.heap[g]? = some (.cells jI dy (0,0)))
 (a:Addr) (m c:Nat) (news:List Value) (aG:news.length=m*i.size) (RF : ∀j u,news[j]? = some u→w.cell? (a.add j)=some u) (o : ∀u∈news,u.oneCell'=true)
 (pJ:gU+m≤jW) (gD:gU*i.size+news.length≤jI.size) :
 (Builtin.append_ #[t,t] dv #[.slice (some ⟨g,0,none⟩) gU jW,.slice (some a) m c]).run P w =
   .ok (.slice (some ⟨g,0,none⟩) (gU+m) jW) (w.setRow g (jI.toList.take (gU*i.size)++news++jI.toList.drop (gU*i.size+news.length)).toArray):=by
 have bM:=run_firstCells_some (P:=P) w i.size m a m c news aG RF
 have kg:=run_storeCells_at P g (gU*i.size) dy news 0 jI w dd (by simpa using gD) o
 simp only [Nat.add_zero] at kg
 simp [Builtin.append_,run_underlying b1,sizeOf,typeInfo,af,Builtin.lenOf,pJ,bM,Addr.add_lit,kg]
theorem Hf {t dv e:TypeId}{i:TypeInfo}{du:Value}(b1:P.underlying t=some (.slice e))(af:P.info? e=some i)(b6:i.zero=some du){A:Option Addr}{n c:Nat}{vs:List Value}(aG:vs.length=n*i.size)
 (hA:n=0∨ ∃a,A=some a∧ ∀(j:Nat) u,vs[j]? = some u→w.cell? (a.add j)=some u) (o : ∀u∈vs,u.oneCell'=true):D1 P w t t dv e i du (.slice A n c) n vs where
 zero:=fun h0 B len cap wD=>by
  subst h0
  cases A<;>cases B<;>simp [Builtin.append_,run_underlying b1,sizeOf,typeInfo,af,Builtin.lenOf,wD,Builtin.firstCells,loadCells,loadCellsFrom,storeCells]
 nil:=fun h0 r7 uC=>by
  obtain ⟨a,rfl,bx⟩:=hA.resolve_left (by omega)
  exact run_append_nil (P:=P) w t dv e i du b1 af b6 a n c vs aG bx h0 r7 (by omega)
 room:=fun a5 g gU jW jI dy dd pJ gD _=>by
  obtain ⟨a,rfl,bx⟩:=hA.resolve_left (by omega)
  exact Nq t dv e i b1 af g gU jW jI dy dd a n c vs aG bx o pJ gD
 grow:=fun a5 b gU jW rW ad hold dd r7 gD _=>by
  obtain ⟨a,rfl,bx⟩:=hA.resolve_left (by omega)
  exact run_append_grow (P:=P) w t dv e i du b1 af b6 b gU jW rW ad hold a n c vs aG bx dd r7 gD
theorem OK {t cJ dv e:TypeId}{i:TypeInfo}{du:Value}{k:IntKind}(b1:P.underlying t=some (.slice e))(lK:P.underlying cJ=some (.int k))(af:P.info? e=some i)(b6:i.zero=some du)(jJ:du.cells.size=i.size){m:Nat}(V9:(m:Int)<9223372036854775808)
 (o : ∀u∈(Builtin.zeroCells du.cells m).toList,u.oneCell'=true):D1 P w t cJ dv e i du (.int .i64 m) m (Builtin.zeroCells du.cells m).toList:=by
 have hw:IntKind.i64.wrap (m:Int)=m:=by simp [IntKind.wrap,IntKind.bits,IntKind.signed];omega
 have n2 : ¬((m:Int)<0):=by omega
 have oL : ∀a8,a8*i.size=0→Builtin.zeroCells du.cells a8 = #[]:=fun a8 hm=>by
  apply Array.eq_empty_of_size_eq_zero
  rw [size_zeroCells,jJ,hm]
 have zC : ∀bm:World,(if m*i.size=0 then (pure #[]:Sem (Array Value)) else do pure (Builtin.zeroCells (← zeroValue e).cells m)).run P bm = .ok (Builtin.zeroCells du.cells m) bm:=fun bm=>by
  split
  ·rename_i hm;rw [oL _ hm];rfl
  ·simp [zeroValue,typeInfo,af,b6]
 have D2 : ∀b:Nat,m*b≤140737488355328→ ¬(281474976710656<(m:Int)*(b:Int)):=fun b aP=>by
  have:((m*b:Nat):Int)≤140737488355328:=by omega
  rw [Int.natCast_mul] at this
  omega
 refine ⟨fun a5 B len cap wD=> ?_,fun a5 r7 uC=> ?_,fun a5 g gU jW jI dy dd pJ gD uC=> ?_,fun a5 b gU jW rW ad hold dd r7 gD uC=> ?_⟩
 ·subst a5
  have El:IntKind.i64.wrap 0=0:=by simpa using hw
  cases B<;>simp [Builtin.append_,run_underlying b1,run_underlying lK,sizeOf,typeInfo,af,wD,asInt,asIntOf,El,storeCells]
 ·have Em : ¬m=0:=by omega
  have wE : ¬(9223372036854775807<(m:Int)):=by omega
  have qD:=D2 _ uC
  have wF : ¬(281474976710656<Builtin.nextslicecap m 0*i.bytes):=by rw [nextslicecap_zero a5];omega
  have J:=zC w.drew
  by_cases hm:m*i.size=0
  ·simp [Builtin.append_,run_underlying b1,run_underlying lK,sizeOf,typeInfo,zeroValue,af,b6,asInt,asIntOf,hw,n2,qD,Em,wE,wF,Question.forced,run_firstCells_none,newRow,grownCap,hm,oL _ hm]
  ·simp [Builtin.append_,run_underlying b1,run_underlying lK,sizeOf,typeInfo,zeroValue,af,b6,asInt,asIntOf,hw,n2,qD,Em,wE,wF,Question.forced,run_firstCells_none,newRow,grownCap,hm]
 ·have qD:=D2 _ uC
  have kg:=run_storeCells_at P g (gU*i.size) dy (Builtin.zeroCells du.cells m).toList 0 jI w dd (by simpa using gD) o
  simp only [Nat.add_zero] at kg
  by_cases hm:m*i.size=0
  ·rw [oL _ hm] at kg
   have Sa:(storeCells ⟨g,gU*i.size,none⟩ []).run P w = .ok () (w.setRow g jI):=by simpa using kg
   simp [Builtin.append_,run_underlying b1,run_underlying lK,sizeOf,typeInfo,zeroValue,af,b6,asInt,asIntOf,hw,n2,qD,pJ,hm,oL _ hm,Addr.add_lit,Sa]
  ·simp [Builtin.append_,run_underlying b1,run_underlying lK,sizeOf,typeInfo,zeroValue,af,b6,asInt,asIntOf,hw,n2,qD,pJ,hm,Addr.add_lit,kg]
 ·have qD:=D2 _ uC
  have Kd : ¬(gU+m≤jW):=by omega
  have wE : ¬(9223372036854775807<((gU:Int)+(m:Int))):=by omega
  have wF : ¬(281474976710656<Builtin.nextslicecap (gU+m) jW*i.bytes):=by omega
  have Ke:=run_firstCells_some (P:=P) w.drew i.size gU b gU jW rW ad (by simpa using hold)
  by_cases hm:m*i.size=0
  ·simp [Builtin.append_,run_underlying b1,run_underlying lK,sizeOf,typeInfo,zeroValue,af,b6,asInt,asIntOf,hw,n2,qD,Kd,wE,wF,Question.forced,Ke,newRow,grownCap,hm,oL _ hm]
  ·simp [Builtin.append_,run_underlying b1,run_underlying lK,sizeOf,typeInfo,zeroValue,af,b6,asInt,asIntOf,hw,n2,qD,Kd,wE,wF,Question.forced,Ke,newRow,grownCap,hm]
theorem CA {aC:Nat}{e:TypeId}{v:Value}{i:TypeInfo}{m:Nat}(h:b9 g s aj a w)(dF:s.aE aC=none){es:List (List al)}(hlen:∀x∈es,x.length=i.size)(hm:m=es.length)
 {lI:List Value} {p3:Array Value} {cap:Nat} (ny:lI.length=es.length*i.size) (jV : ∀u∈lI,u.oneCell'=true) (SV:p3.size=(cap-m)*i.size) (wD:m≤cap) (Sb:cap<9223372036854775808)
 (ej : ∀(j:Nat) x u,es.flatten[j]? = some x→lI[j]? = some u→Rel w (s.ok g aj w) s.aK (s.aQ aj) x u)
 (aX:v = .slice (some ⟨w.heap.size,0,none⟩) m cap) :
 ∃bj,b9 g (s.setRow aC [⟨i.size,es,.live⟩]) bj a (w.drew.alloc (.cells (lI.toArray++p3) e)) ∧
  Rel (w.drew.alloc (.cells (lI.toArray++p3) e)) ((s.setRow aC [⟨i.size,es,.live⟩]).ok g bj (w.drew.alloc (.cells (lI.toArray++p3) e))) (s.setRow aC [⟨i.size,es,.live⟩]).aK ((s.setRow aC [⟨i.size,es,.live⟩]).aQ bj) (.bp aC 0 0 m) v:=by
 have bq:=h.drew
 have h1:es.flatten.length=es.length*i.size:=by
  have : ∀(es:List (List al)),(∀e∈es,e.length=i.size)→es.flatten.length=es.length*i.size:=by
   intro es
   induction es with
   | nil=>intro _;simp
   | cons e es ih =>
    intro eK
    rw [List.flatten_cons,List.length_append,ih fun x aa=>eK x (by simp [aa]),eK e (by simp),List.length_cons,Nat.add_mul];omega
  exact this es hlen
 obtain ⟨bj,ga,hj,-⟩:=bq.alloc dF ⟨i.size,es,.live⟩ rfl (lI.toArray++p3) e hlen (fun j x aa=>by
  have av:j<lI.length:=by
   rcases Nat.lt_or_ge j es.flatten.length with bX|bX
   ·omega
   ·rw [List.getElem?_eq_none bX] at aa;simp at aa
  refine ⟨lI[j],?_,jV _ (List.getElem_mem av),?_⟩
  ·rw [Array.getElem?_append_left (by simpa using av)]
   simp [av]
  ·exact (ej j x _ aa (List.getElem?_eq_getElem av)).drew)
 refine ⟨bj,hj,?_⟩
 subst aX
 have ad:(s.setRow aC [⟨i.size,es,.live⟩]).ab aC 0=some ⟨i.size,es,.live⟩:=by rw [jF,if_pos rfl,j8];simp
 refine Rel.bp (sz:=i.size) (c8:=w.heap.size) (m:=(lI.toArray++p3).size) ((k9 _ _ _ _ _).2 (by simp)) ?_ wD Sb ⟨?_,.inr (by simp)⟩
 ·rw [gM ad,ga];rfl
 ·simp only [Array.size_append,List.size_toArray,SV,ny,Nat.zero_add]
  rw [← hm,← Nat.add_mul]
  congr 1;omega
section
variable {I:Oper} {cb:ew} {aC:Nat} {bd:gx}
theorem HB (h:b9 g s aj a w){t cJ dv e:TypeId}{i:TypeInfo}{z:List al}(hu:P.underlying t=some (.slice e))(af:P.info? e=some i)(b6:oq P e=some z)(lk:z.length=i.size)(iS:i.size≠0)
 {y:al} {eg:ew} {bc:List (List al)} {ab:List Prop} (he:rK P i.size z s.aE eg t cJ y=some (bc,ab)) (a3 : ∀p∈ab,p) {lu:Value} (aN:Rel w (s.ok g aj w) s.aK (s.aQ aj) y lu) :
 ∃du vs,i.zero=some du∧du.cells.size=i.size∧D1 P w t cJ dv e i du lu bc.length vs∧(∀x∈bc,x.length=i.size)∧vs.length=bc.length*i.size∧(∀u∈vs,u.oneCell'=true) ∧
  ∀(j:Nat) x u,bc.flatten[j]? = some x→vs[j]? = some u→Rel w (s.ok g aj w) s.aK (s.aQ aj) x u:=by
 obtain ⟨dU,du,hS,jk,po,qJ⟩:=vA b6
 rw [af] at hS;simp at hS;subst hS
 have jJ:du.cells.size=i.size:=by rw [← lk,po];simp
 unfold rK at he
 split at he
 ·rename_i SW
  subst SW
  obtain ⟨A,c,rfl,hlen,En⟩:=HY h he a3 aN
  rcases En with h0|⟨c8,off,rfl,gF⟩
  ·have:bc=[]:=List.length_eq_zero_iff.1 h0
   subst this
   exact ⟨du,[],jk,jJ,Hf hu af jk (by simp) (.inl rfl) (by simp),hlen,by simp,by simp,by simp⟩
  ·obtain ⟨vs,v1,v2,v3,v4⟩:=gF.lI
   exact ⟨du,vs,jk,jJ,Hf hu af jk v1 (.inr ⟨_,rfl,v2⟩) v3,hlen,v1,v3,v4⟩
 ·split at he
  ·rename_i k n aV
   simp only [Option.some.injEq,Prod.mk.injEq] at he
   obtain ⟨rfl,rfl⟩:=he
   have h0:0≤n:=a3 _ (by simp)
   have r7:n<9223372036854775808:=a3 _ (by simp)
   obtain ⟨m,rfl⟩:=Int.eq_ofNat_of_zero_le h0
   have SX:lu = .int .i64 m:=by cases aN;rfl
   subst SX
   have jY : ∀(j:Nat) u,(Builtin.zeroCells du.cells m).toList[j]? = some u→du.cells[j % i.size]? = some u:=by
    intro j u lM
    have av:=(List.getElem?_eq_some_iff.1 lM).1
    rw [Array.length_toList,size_zeroCells,jJ] at av
    have c9:j % i.size<du.cells.size:=by rw [jJ];exact Nat.mod_lt _ (by omega)
    rw [Array.getElem?_toList,Builtin.zeroCells,Array.getElem?_map,jJ,Array.getElem?_range] at lM
    rw [if_pos av] at lM
    simp only [Option.map_some,Option.some.injEq] at lM
    rw [← lM,Array.getElem?_eq_getElem c9,getElem!_pos du.cells _ c9]
   refine ⟨du,(Builtin.zeroCells du.cells m).toList,jk,jJ,?_,?_,?_,?_,?_⟩
   ·simp only [List.length_replicate,Int.toNat_natCast]
    refine OK hu aV af jk jJ (by omega) fun u oM=> ?_
    obtain ⟨j,av⟩:=List.getElem?_of_mem oM
    have o:=jY j u av
    have c9:j % i.size<z.length:=by rw [lk];exact Nat.mod_lt _ (by omega)
    obtain ⟨v,v1,v2,-⟩:=qJ _ _ (List.getElem?_eq_getElem c9)
    rw [o] at v1
    obtain rfl:=Option.some.inj v1
    exact v2
   ·intro x aa
    rw [List.mem_replicate] at aa
    rw [aa.2,lk]
   ·rw [Array.length_toList,size_zeroCells,jJ];simp
   ·intro u oM
    obtain ⟨j,av⟩:=List.getElem?_of_mem oM
    have o:=jY j u av
    have c9:j % i.size<z.length:=by rw [lk];exact Nat.mod_lt _ (by omega)
    obtain ⟨v,v1,v2,-⟩:=qJ _ _ (List.getElem?_eq_getElem c9)
    rw [o] at v1
    obtain rfl:=Option.some.inj v1
    exact v2
   ·intro j x u aa lM
    rw [m0 (sz:=i.size) (by omega) _ (fun dy jX=>by rw [List.mem_replicate] at jX;rw [jX.2,lk])] at aa
    have o:=jY j u lM
    cases a1:(List.replicate (Int.toNat (m:Int)) z)[j / i.size]? with
    | none=>rw [a1] at aa;simp at aa
    | some dy =>
     have:=List.mem_of_getElem? a1
     rw [List.mem_replicate] at this
     rw [a1,this.2] at aa
     simp only [Option.bind_some] at aa
     obtain ⟨v,v1,-,v3⟩:=qJ _ _ aa
     rw [o] at v1
     obtain rfl:=Option.some.inj v1
     exact v3 _ _ _ _
  ·simp at he
theorem OL (h:b9 g s aj a w)(dF:s.aE aC=none){x y:al}{oV lu:Value}{t cJ:TypeId}{m:Nat}{Fv:Option ap}{dv:TypeId}(ai:lL P s.E s.aE aC .append [x,y] [t,cJ] (.bb m Fv)=some bd)(b4:∀p∈bd.ep,p)
 (aa:Rel w (s.ok g aj w) s.aK (s.aQ aj) x oV) (aN:Rel w (s.ok g aj w) s.aK (s.aQ aj) y lu) :
 ∃v bm bj,(Builtin.append_ #[t,cJ] dv #[oV,lu]).run P w = .ok v bm∧b9 g (s.gq bd.eE) bj a bm∧Rel bm ((s.gq bd.eE).ok g bj bm) (s.gq bd.eE).aK ((s.gq bd.eE).aQ bj) bd.val v:=by
 simp only [lL] at ai
 split at ai
 ·simp at ai
 ·rename_i e he
  have hu:=o6 he
  split at ai
  ·rename_i i z af b6
   split at ai
   ·simp at ai
   ·rename_i aL
    simp only [not_or,Decidable.not_not] at aL
    obtain ⟨lk,iS,uy⟩:=aL
    split at ai
    ·simp at ai
    ·rename_i bc bZ oH
     have zD:=fun ae=>HB (dv:=dv) h hu af b6 lk iS oH ae aN
     by_cases Q9:True
     ·
      split at ai
      ·
       simp only [Option.some.injEq] at ai
       subst ai
       have hm:m=bc.length:=b4 _ (by simp)
       have w2:m*i.bytes≤140737488355328:=b4 _ (by simp)
       obtain ⟨du,vs,jk,jJ,hA,hlen,v1,v3,v4⟩:=zD (fun p ae=>b4 p (by simp [ae]))
       clear zD
       rw [aa.nm]
       by_cases h0:bc.length=0
       ·have:bc=[]:=List.length_eq_zero_iff.1 h0
        subst this
        obtain ⟨bj,ga,hj⟩:=h.Ix (sz:=i.size) dF
        refine ⟨_,w,bj,hA.zero h0 none 0 0 (Nat.le_refl _),hj,?_⟩
        subst hm
        have ad:(s.setRow aC [⟨i.size,[],.live⟩]).ab aC 0=some ⟨i.size,[],.live⟩:=by rw [jF,if_pos rfl,j8];simp
        exact .lA (sz:=i.size) ((k9 _ _ _ _ _).2 (by simp)) (by show (s.setRow aC [⟨i.size,[],.live⟩]).aQ bj aC 0=_;rw [gM ad,ga])
       ··have r8:bc.length*1≤bc.length*i.bytes:=Nat.mul_le_mul_left _ (by omega)
         rw [hm] at w2
         have ha:=hA.nil (by omega) (by omega) (by omega)
         have Kf:=grownCap_ge w bc.length 0 e
         have hle:=grownCap_le_maxLen w bc.length 0 e (by simp only [maxLen];omega)
         simp only [maxLen] at hle
         obtain ⟨bj,aZ,bg⟩:=CA (e:=e) (i:=i) (m:=m) (lI:=vs) (p3:=Builtin.zeroCells du.cells (grownCap w bc.length 0 e-bc.length)) (cap:=grownCap w bc.length 0 e) h dF hlen hm v1 v3
          (by rw [size_zeroCells,jJ,hm]) (by omega) (by omega) v4 rfl
         refine ⟨.slice (some ⟨w.heap.size,0,none⟩) m (grownCap w bc.length 0 e),_,bj,?_,aZ,bg⟩
         rw [hm];exact ha
      ·
       rename_i r k len
       split at ai
       ·simp at ai
       ·rename_i row cE
        split at ai
        ·simp at ai
        ·rename_i ab a3
         split at ai
         ·rename_i r9
          obtain ⟨lN,dK,cf⟩:=r9
          simp only [Option.some.injEq] at ai
          subst ai
          have ad:s.ab r k=some ab:=by unfold S.ab;rw [cE];exact a3
          have gD:len≤ab.es.length:=b4 _ (by simp)
          have hm:m=len+bc.length:=b4 _ (by simp)
          have w2:m*i.bytes≤140737488355328:=b4 _ (by simp)
          have r8:m*1≤m*i.bytes:=Nat.mul_le_mul_left _ (Nat.one_le_iff_ne_zero.2 uy)
          obtain ⟨du,vs,jk,jJ,hA,hlen,v1,v3,v4⟩:=zD (fun p ae=>b4 p (by simp [ae]))
          clear zD
          have Wk:bc.length*i.bytes≤m*i.bytes:=Nat.mul_le_mul_right _ (by omega)
          have ej:=h.obj r k ab ad
          have Eo:(ab.es.take len).length=len:=by simp;omega
          have pc:(s.setRow aC [⟨i.size,ab.es.take len++bc,.live⟩]).aE r=some row:=by simp [S.setRow,Ne.symm cf,cE]
          have nz : ∀bj:ef,((s.setRow aC [⟨i.size,ab.es.take len++bc,.live⟩]).setRow r (row.set k {ab with bY:= .gone})).ab aC 0=some ⟨i.size,ab.es.take len++bc,.live⟩:=by
           intro _
           rw [jF,if_neg cf,jF,if_pos rfl,j8];simp
          have wG:((s.setRow aC [⟨i.size,ab.es.take len++bc,.live⟩]).setRow r (row.set k {ab with bY:= .gone})).aK aC 0:=by rw [k9,if_neg cf,k9,if_pos rfl];simp
          show ∃v bm bj,_∧b9 g ((s.setRow aC [⟨i.size,ab.es.take len++bc,.live⟩]).setRow r (row.set k {ab with bY:= .gone})) bj a bm∧_
          rcases aa.rC (gM ad) with ⟨ae,-,rfl,rfl⟩|⟨b,M,jP,iL,ae,rfl,oK,pU,de,kR⟩
          ·
           rw [ae] at ej
           simp only [hz] at ej
           have fY:ab.es.take 0++bc=bc:=by simp
           by_cases h0:bc.length=0
           ·have:bc=[]:=List.length_eq_zero_iff.1 h0
            subst this
            obtain ⟨bj,ga,hj⟩:=h.Ix (sz:=i.size) dF
            have nA:(s.setRow aC [⟨i.size,[],.live⟩]).ab r k=some ab:=by rw [jF,if_neg (Ne.symm cf)];exact ad
            have RG:(s.setRow aC [⟨i.size,[],.live⟩]).aE r=some row:=by simp [S.setRow,Ne.symm cf,cE]
            obtain ⟨oe,-⟩:=hj.gone RG nA
            have wH:ab.es.take 0++([]:List (List al))=[]:=by simp
            rw [wH]
            rw [wH] at wG nz
            refine ⟨_,w,bj,hA.zero h0 none 0 0 (Nat.le_refl _),oe,?_⟩
            subst hm
            exact .lA (sz:=i.size) wG ((gM (nz bj)).trans (by rw [ga]))
           ··have jj:m=bc.length:=by omega
             have ha:=hA.nil (by omega) (by omega) (by omega)
             have Kf:=grownCap_ge w bc.length 0 e
             have hle:=grownCap_le_maxLen w bc.length 0 e (by simp only [maxLen];omega)
             simp only [maxLen] at hle
             obtain ⟨bj,aZ,bg⟩:=CA (e:=e) (i:=i) (m:=m) (lI:=vs) (p3:=Builtin.zeroCells du.cells (grownCap w bc.length 0 e-bc.length)) (cap:=grownCap w bc.length 0 e) h dF hlen jj v1 v3
              (by rw [size_zeroCells,jJ,jj]) (by omega) (by omega) v4 rfl
             rw [fY]
             rw [fY] at pc
             have nA:(s.setRow aC [⟨i.size,bc,.live⟩]).ab r k=some ab:=by rw [jF,if_neg (Ne.symm cf)];exact ad
             obtain ⟨oe,xr⟩:=aZ.gone pc nA
             refine ⟨.slice (some ⟨w.heap.size,0,none⟩) m (grownCap w bc.length 0 e),_,bj,?_,oe,xr _ _ bg⟩
             rw [jj];exact ha
          ·
           rw [ae] at ej
           have RH:=ej
           obtain ⟨bS,kq,g1,g2,g3,g4⟩:=ej
           have wI : ∀e∈ab.es.take len++bc,e.length=i.size:=by
            intro dy jX
            rw [List.mem_append] at jX
            rcases jX with bX|bX
            ·rw [g3 dy (List.mem_of_mem_take bX),dK]
            ·exact hlen dy bX
           have h1 : ∀(es:List (List al)),(∀e∈es,e.length=i.size)→es.flatten.length=es.length*i.size:=by
            intro es
            induction es with
            | nil=>intro _;simp
            | cons e es ih =>
             intro eK
             rw [List.flatten_cons,List.length_append,ih fun x aa=>eK x (by simp [aa]),eK e (by simp),List.length_cons,Nat.add_mul];omega
           by_cases h0:bc.length=0
           ·
            have:bc=[]:=List.length_eq_zero_iff.1 h0
            subst this
            have wH:ab.es.take len++([]:List (List al))=ab.es.take len:=by simp
            rw [wH]
            rw [wH] at wG nz wI
            obtain ⟨bj,ga,hj⟩:=h.turn cE ad lN ae dF ⟨i.size,ab.es.take len,.live⟩ rfl bS kq g1 rfl (fun _ _=>rfl) rfl rfl rfl g2 wI (fun j q a1=>by
             refine g4 j q ?_
             have av:j<(ab.es.take len).flatten.length:=by
              rcases Nat.lt_or_ge j (ab.es.take len).flatten.length with bX|bX
              ·exact bX
              ·rw [List.getElem?_eq_none bX] at a1;simp at a1
             have Kg:ab.es.flatten=(ab.es.take len).flatten++(ab.es.drop len).flatten:=by rw [← List.flatten_append,List.take_append_drop]
             rw [Kg,List.getElem?_append_left av];exact a1)
            refine ⟨_,w,bj,hA.zero h0 jP len iL oK,hj,?_⟩
            have jj:m=len:=by simpa using hm
            subst jj
            refine .bp (sz:=i.size) (c8:=b) (m:=M) wG ((gM (nz bj)).trans (by rw [ga])) oK pU ?_
            rw [← dK];exact ⟨de,kR⟩
           ··
             have hold : ∃xs:List Value,xs.length=len*i.size∧(∀(j:Nat) u,xs[j]? = some u→w.cell? ((⟨b,0,none⟩:Addr).add j)=some u)∧(∀u∈xs,u.oneCell'=true) ∧
              ∀(j:Nat) x u,(ab.es.take len).flatten[j]? = some x→xs[j]? = some u→Rel w (s.ok g aj w) s.aK (s.aQ aj) x u:=by
              have JU:=yo RH.rd 0 len (by omega)
              simp only [List.drop_zero,Nat.zero_mul,Nat.add_zero] at JU
              obtain ⟨xs,fq,ek,a4,fM⟩:=JU.lI
              exact ⟨xs,by rw [fq,Eo,dK],ek,a4,fM⟩
             obtain ⟨xs,fq,ek,a4,fM⟩:=hold
             have Ep:xs.length=(ab.es.take len).length*i.size:=by rw [Eo];exact fq
             have Iy : ∀(j:Nat) x u,(ab.es.take len++bc).flatten[j]? = some x→(xs++vs)[j]? = some u→Rel w (s.ok g aj w) s.aK (s.aQ aj) x u :=
              fun j x u SY lM=>NL Ep (fun dy jX=>by rw [g3 dy (List.mem_of_mem_take jX),dK]) SY fM v4 lM
             have wJ:(ab.es.take len++bc).length=m:=by rw [List.length_append,Eo];exact hm.symm
             by_cases pJ:len+bc.length≤iL
             ·
              rcases kR with rfl|rfl
              ·omega
              ·rw [Nat.zero_mul] at *
               rw [Nat.zero_add] at de
               have Ra:len*i.size+vs.length≤bS.size:=by
                rw [v1,g2,← de,dK,← Nat.add_mul];exact Nat.mul_le_mul_right _ pJ
               have ha:=hA.room (by omega) b len iL bS kq g1 pJ Ra (by omega)
               have Sc:(w.setRow b (bS.toList.take (len*i.size)++vs++bS.toList.drop (len*i.size+vs.length)).toArray).heap.size=w.heap.size:=size_setRow _ _ _
               have Kh:xs=bS.toList.take (len*i.size):=by
                apply List.ext_getElem?
                intro j
                rw [List.getElem?_take]
                by_cases av:j<len*i.size
                ·rw [if_pos av]
                 have qK:j<xs.length:=by omega
                 have:=ek j _ (List.getElem?_eq_getElem qK)
                 rw [o5,cell_of_row w b (0+j) bS kq (0,0) g1,Nat.zero_add] at this
                 rw [List.getElem?_eq_getElem qK,← this,Array.getElem?_toList]
                ·rw [if_neg av,List.getElem?_eq_none (by omega)]
               obtain ⟨bj,ga,hj⟩:=h.turn cE ad lN ae dF ⟨i.size,ab.es.take len++bc,.live⟩ rfl _ kq (setRow_heap w b bS _ kq _ g1) Sc (fun q a1=>setRow_other w b q _ a1) rfl rfl rfl
                (by rw [← g2];simp;omega) wI (fun j q a1=>by
                  have av:j<(xs++vs).length:=by
                   have:j<(ab.es.take len++bc).flatten.length:=by
                    rcases Nat.lt_or_ge j (ab.es.take len++bc).flatten.length with bX|bX
                    ·exact bX
                    ·rw [List.getElem?_eq_none bX] at a1;simp at a1
                   rw [h1 _ wI,wJ] at this
                   rw [List.length_append,fq,v1,← Nat.add_mul,← hm];exact this
                  refine ⟨(xs++vs)[j],?_,?_,Iy j q _ a1 (List.getElem?_eq_getElem av)⟩
                  ·rw [List.getElem?_toArray,List.getElem?_append_left (by rw [← Kh];exact av),← Kh]
                   exact List.getElem?_eq_getElem av
                  ·have:=List.getElem_mem av
                   rw [List.mem_append] at this
                   rcases this with bX|bX
                   ·exact a4 _ bX
                   ·exact v3 _ bX)
               refine ⟨_,_,bj,ha,hj,?_⟩
               rw [← hm]
               refine .bp (sz:=i.size) (c8:=b) (m:=M) wG ((gM (nz bj)).trans (by rw [ga])) (by omega) pU ⟨?_,.inr (by simp)⟩
               rw [Nat.zero_add,← dK];exact de
             ·
              have hA : ∃su:Addr,(jP=some su∧ ∀(j:Nat) u,xs[j]? = some u→w.cell? (su.add j)=some u)∨(jP=none∧len=0∧iL=0):=by
               cases jP with
               | none =>
                refine ⟨⟨0,0,none⟩,.inr ⟨rfl,?_⟩⟩
                rcases kR with bX|bX
                ·omega
                ·simp at bX
               | some su =>
                refine ⟨su,.inl ⟨rfl,?_⟩⟩
                rcases kR with bX|bX
                ·have:len=0:=by omega
                 have:xs=[]:=List.length_eq_zero_iff.1 (by rw [fq,this];simp)
                 intro j u av
                 rw [this] at av;simp at av
                ·simp at bX;subst bX;exact ek
              have Kf:=grownCap_ge w (len+bc.length) iL e
              have hle:=grownCap_le_maxLen w (len+bc.length) iL e (by simp only [maxLen];omega)
              simp only [maxLen] at hle
              have ha:(Builtin.append_ #[t,cJ] dv #[.slice jP len iL,lu]).run P w = .ok (.slice (some ⟨w.heap.size,0,none⟩) (len+bc.length) (grownCap w (len+bc.length) iL e))
               (w.drew.alloc (.cells ((xs++vs).toArray++Builtin.zeroCells du.cells (grownCap w (len+bc.length) iL e-(len+bc.length))) e)):=by
               have Sd:(xs++vs).toArray=xs.toArray++vs.toArray:=by apply Array.ext';simp
               rw [Sd]
               obtain ⟨su,⟨rfl,SZ⟩|⟨rfl,ll,kQ⟩⟩:=hA
               ·exact hA.grow (by omega) su len iL xs fq SZ (by omega) (by omega) (growslice_fits (by omega) (by rw [← hm];exact w2)) (by omega)
               ·subst ll;subst kQ
                have S0:xs=[]:=List.length_eq_zero_iff.1 (by rw [fq];simp)
                subst S0
                have:=hA.nil (by omega) (by omega) (by omega)
                simpa using this
              obtain ⟨bj,aZ,bg⟩:=CA (e:=e) (i:=i) (m:=m) (lI:=xs++vs) (p3:=Builtin.zeroCells du.cells (grownCap w (len+bc.length) iL e-(len+bc.length))) (cap:=grownCap w (len+bc.length) iL e) h dF wI wJ.symm
               (by rw [List.length_append,fq,v1,wJ,hm,Nat.add_mul]) (fun u hu=>by
                 rw [List.mem_append] at hu
                 rcases hu with bX|bX
                 ·exact a4 _ bX
                 ·exact v3 _ bX) (by rw [size_zeroCells,jJ,hm]) (by omega) (by omega) Iy rfl
              have nA:(s.setRow aC [⟨i.size,ab.es.take len++bc,.live⟩]).ab r k=some ab:=by rw [jF,if_neg (Ne.symm cf)];exact ad
              obtain ⟨oe,xr⟩:=aZ.gone pc nA
              refine ⟨.slice (some ⟨w.heap.size,0,none⟩) m (grownCap w (len+bc.length) iL e),_,bj,?_,oe,xr _ _ bg⟩
              rw [hm];exact ha
         ·simp at ai
      ·simp at ai
     ·exact absurd trivial Q9
  ·simp at ai
end
end
section
variable {P:Program} {g:G} {s:S} {aj:ef} {a:Act} {w:World}
theorem vN {sz:Nat}: ∀ {es:List (List al)},(∀e∈es,e.length=sz)→es.flatten.length=es.length*sz
 | [],_=>by simp
 | e::es,h=>by
  rw [List.flatten_cons,List.length_append,vN fun x aa=>h x (by simp [aa]),h e (by simp),List.length_cons,Nat.add_mul];omega
theorem b9.putAt (h:b9 g s aj a w){r k p b M:Nat}{row:List ap}{ab:ap}(ah:s.aE r=some row)(ad:s.ab r k=some ab)(aV:ab.bY = .live)(jO:aj r k=some (b,M)){bc e9:List (List al)}{vs:List Value}
 (hlen : ∀x∈bc,x.length=ab.sz) (v1:vs.length=bc.length*ab.sz) (v3 : ∀u∈vs,u.oneCell'=true) (v4 : ∀(j:Nat) x u,bc.flatten[j]? = some x→vs[j]? = some u→Rel w (s.ok g aj w) s.aK (s.aQ aj) x u)
 (ae:p+bc.length≤ab.es.length) (q:Nat) (fY:e9=(ab.es.take p++bc++ab.es.drop (p+bc.length)).take q) :
 ∃bS kq,w.heap[b]? = some (.cells bS kq (0,0))∧bS.size=M∧ab.es.length*ab.sz≤M∧p*ab.sz+vs.length≤bS.size ∧
  b9 g (s.setRow r (row.set k {ab with es:=e9})) aj a (w.setRow b (bS.toList.take (p*ab.sz)++vs++bS.toList.drop (p*ab.sz+vs.length)).toArray) ∧
  ∀x v,Rel w (s.ok g aj w) s.aK (s.aQ aj) x v→Rel (w.setRow b (bS.toList.take (p*ab.sz)++vs++bS.toList.drop (p*ab.sz+vs.length)).toArray) ((s.setRow r (row.set k {ab with es:=e9})).ok g aj (w.setRow b (bS.toList.take (p*ab.sz)++vs++bS.toList.drop (p*ab.sz+vs.length)).toArray)) (s.setRow r (row.set k {ab with es:=e9})).aK ((s.setRow r (row.set k {ab with es:=e9})).aQ aj) x v:=by
 have ej:=h.obj r k ab ad
 rw [jO] at ej
 obtain ⟨bS,kq,g1,g2,g3,g4⟩:=ej
 have h1:=vN g3
 have de:ab.es.length*ab.sz≤M:=by
  rcases Nat.eq_zero_or_pos ab.es.flatten.length with h0|iS
  ·omega
  ·obtain ⟨v,ar,-⟩:=g4 (ab.es.flatten.length-1) _ (List.getElem?_eq_getElem (by omega))
   have:=(Array.getElem?_eq_some_iff.1 ar).1
   omega
 have hmul:p*ab.sz+bc.length*ab.sz≤ab.es.length*ab.sz:=by rw [← Nat.add_mul];exact Nat.mul_le_mul_right _ ae
 have gD:p*ab.sz+vs.length≤bS.size:=by omega
 refine ⟨bS,kq,g1,g2,de,gD,?_⟩
 have Se : ∀e∈ab.es.take p++bc++ab.es.drop (p+bc.length),e.length=ab.sz:=by
  intro e he
  simp only [List.mem_append] at he
  rcases he with (he|he)|he
  ·exact g3 e (List.mem_of_mem_take he)
  ·exact hlen e he
  ·exact g3 e (List.mem_of_mem_drop he)
 have hA:(ab.es.take p).flatten.length=p*ab.sz:=by rw [vN fun e he=>g3 e (List.mem_of_mem_take he),List.length_take];congr 1;omega
 have hk:(ab.es.take (p+bc.length)).flatten.length=p*ab.sz+bc.length*ab.sz:=by rw [vN fun e he=>g3 e (List.mem_of_mem_take he),List.length_take,← Nat.add_mul];congr 1;omega
 have Us:bc.flatten.length=bc.length*ab.sz:=vN hlen
 have o : ∀j,j<p*ab.sz→(ab.es.take p).flatten[j]? = ab.es.flatten[j]? := fun j av=>by
  conv=>rhs;rw [← List.take_append_drop p ab.es,List.flatten_append,List.getElem?_append_left (by omega)]
 have J : ∀j,(ab.es.drop (p+bc.length)).flatten[j]? = ab.es.flatten[p*ab.sz+bc.length*ab.sz+j]? := fun j=>by
  conv=>rhs;rw [← List.take_append_drop (p+bc.length) ab.es,List.flatten_append,List.getElem?_append_right (by omega),hk]
  congr 1;omega
 refine h.write ah ad aV jO e9 _ kq (setRow_heap w b bS _ kq _ g1) (size_setRow _ _ _) (fun q a1=>setRow_other w b q _ a1) rfl rfl rfl (by rw [← g2];simp;omega) ?_ ?_
 ·intro e he
  rw [fY] at he
  exact Se e (List.mem_of_mem_take he)
 ·intro j x aa
  have cO:(ab.es.take p++bc++ab.es.drop (p+bc.length)).flatten[j]? = some x:=by
   rw [fY] at aa
   have av:=(List.getElem?_eq_some_iff.1 aa).1
   conv=>lhs;rw [← List.take_append_drop q (ab.es.take p++bc++ab.es.drop (p+bc.length)),List.flatten_append,List.getElem?_append_left av]
   exact aa
  rw [List.flatten_append,List.flatten_append] at cO
  simp only [List.getElem?_toArray]
  have hd:(bS.toList.take (p*ab.sz)).length=p*ab.sz:=by rw [List.length_take,Array.length_toList];omega
  by_cases bH:j<p*ab.sz
  ·rw [List.append_assoc,List.getElem?_append_left (by omega),o j bH] at cO
   obtain ⟨v,ar,ay,bR⟩:=g4 j x cO
   refine ⟨v,?_,ay,bR⟩
   rw [List.append_assoc,List.getElem?_append_left (by omega),List.getElem?_take,if_pos bH,Array.getElem?_toList];exact ar
  ·by_cases cq:j<p*ab.sz+vs.length
   ·rw [List.append_assoc,List.getElem?_append_right (by omega),hA,List.getElem?_append_left (by omega)] at cO
    have aX:j-p*ab.sz<vs.length:=by omega
    refine ⟨vs[j-p*ab.sz],?_,v3 _ (List.getElem_mem aX),v4 _ _ _ cO (List.getElem?_eq_getElem aX)⟩
    rw [List.append_assoc,List.getElem?_append_right (by omega),hd,List.getElem?_append_left (by omega)]
    exact List.getElem?_eq_getElem aX
   ·rw [List.getElem?_append_right (by rw [List.length_append];omega),List.length_append,hA,Us,J] at cO
    rw [show p*ab.sz+bc.length*ab.sz+(j-(p*ab.sz+bc.length*ab.sz))=j by omega] at cO
    obtain ⟨v,ar,ay,bR⟩:=g4 j x cO
    refine ⟨v,?_,ay,bR⟩
    rw [List.getElem?_append_right (by rw [List.length_append];omega),List.length_append,hd,List.getElem?_drop,Array.getElem?_toList]
    rw [show p*ab.sz+vs.length+(j-(p*ab.sz+vs.length))=j by omega];exact ar
end
section
variable {P:Program} {g:G} {s:S} {aj:ef} {a:Act} {w:World} {aC:Nat} {bd:gx}
theorem QG (h:b9 g s aj a w){x y:al}{oV lu:Value}{t cJ dv:TypeId}(ai:lL P s.E s.aE aC .append [x,y] [t,cJ] .eV=some bd)(b4:∀p∈bd.ep,p)
 (aa:Rel w (s.ok g aj w) s.aK (s.aQ aj) x oV) (aN:Rel w (s.ok g aj w) s.aK (s.aQ aj) y lu) :
 ∃v bm,(Builtin.append_ #[t,cJ] dv #[oV,lu]).run P w = .ok v bm∧b9 g (s.gq bd.eE) aj a bm∧Rel bm ((s.gq bd.eE).ok g aj bm) (s.gq bd.eE).aK ((s.gq bd.eE).aQ aj) bd.val v:=by
 simp only [lL] at ai
 split at ai
 ·simp at ai
 ·rename_i e he
  have hu:=o6 he
  split at ai
  ·rename_i i z af b6
   split at ai
   ·simp at ai
   ·rename_i aL
    simp only [not_or,Decidable.not_not] at aL
    obtain ⟨lk,iS,uy⟩:=aL
    split at ai
    ·simp at ai
    ·rename_i bc bZ oH
     split at ai
     ·rename_i r k len
      split at ai
      ·simp at ai
      ·rename_i row cE
       split at ai
       ·simp at ai
       ·rename_i ab a3
        split at ai
        ·rename_i r9
         obtain ⟨lN,dK⟩:=r9
         simp only [Option.some.injEq] at ai
         subst ai
         have ad:s.ab r k=some ab:=by unfold S.ab;rw [cE];exact a3
         have gD:len+bc.length≤ab.es.length:=b4 _ (by simp)
         have w2:bc.length*i.bytes≤140737488355328:=b4 _ (by simp)
         obtain ⟨du,vs,jk,jJ,hA,hlen,v1,v3,v4⟩:=HB (dv:=dv) h hu af b6 lk iS oH (fun p ae=>b4 p (by simp [ae])) aN
         rw [← dK] at v1
         have Jv : ∀x∈bc,x.length=ab.sz:=fun x aa=>by rw [hlen x aa,dK]
         have fY:ab.es.take len++bc=(ab.es.take len++bc++ab.es.drop (len+bc.length)).take (len+bc.length) :=
          (List.take_left' (by rw [List.length_append,List.length_take];omega)).symm
         rcases aa.rC (gM ad) with ⟨ae,-,rfl,rfl⟩|⟨b,M,jP,iL,ae,rfl,oK,pU,de,kR⟩
         ·have ej:=h.obj r k ab ad
          rw [ae] at ej
          simp only [hz] at ej
          rw [ej] at gD
          have h0:bc.length=0:=by simp at gD;exact List.length_eq_zero_iff.2 gD
          have sa:bc=[]:=List.length_eq_zero_iff.1 h0
          subst sa
          have ju:row.set k {ab with es:=ab.es.take 0++[]}=row:=by
           have o:({ab with es:=ab.es.take 0++[]}:ap)=ab:=by cases ab;simp only [] at ej;subst ej;rfl
           rw [o]
           have J:row[k]? = some ab:=by
            unfold cz at a3
            simp only at a3
            split at a3
            ·rename_i bD cW
             split at a3
             ·simp at a3
             ·simp at a3;rw [← a3];exact cW
            ·simp at a3
           exact List.ext_getElem? fun j=>by
            rw [List.getElem?_set]
            split
            ·rename_i e;subst e
             have:=(List.getElem?_eq_some_iff.1 J).1
             rw [if_pos this,J]
            ·rfl
          refine ⟨_,w,hA.zero h0 none 0 0 (Nat.le_refl _),?_⟩
          have dz:s.setRow r row=s:=by
           have:(fun q=>if q=r then some row else s.aE q)=s.aE:=by
            funext q;split
            ·rename_i e;rw [e,cE]
            ·rfl
           show ({s with aE:=_}:S)=s
           rw [this]
          show b9 g (s.setRow r (row.set k {ab with es:=ab.es.take 0++[]})) aj a w∧Rel w ((s.setRow r (row.set k {ab with es:=ab.es.take 0++[]})).ok g aj w) (s.setRow r (row.set k {ab with es:=ab.es.take 0++[]})).aK ((s.setRow r (row.set k {ab with es:=ab.es.take 0++[]})).aQ aj) (.bp r k 0 0) (.slice none 0 0)
          rw [ju,dz]
          exact ⟨h,aa⟩
         ·obtain ⟨bS,kq,bH,cq,mj,pp,ml,p4⟩:=h.putAt cE ad lN ae Jv v1 v3 v4 gD (len+bc.length) fY
          have hle:ab.es.length≤iL:=by
           rw [Nat.zero_add] at de
           rw [← de] at mj
           exact Nat.le_of_mul_le_mul_right mj (by omega)
          by_cases kQ:iL=0
          ·have h0:bc.length=0:=by omega
           have ll:len=0:=by omega
           subst ll
           have sa:bc=[]:=List.length_eq_zero_iff.1 h0
           subst sa
           have Er:vs=[]:=List.length_eq_zero_iff.1 (by simpa using v1)
           subst Er
           have hw:w.setRow b (bS.toList.take (0*ab.sz)++[]++bS.toList.drop (0*ab.sz+0)).toArray=w:=by
            simp only [Nat.zero_mul,List.take_zero,List.nil_append,Nat.zero_add,List.drop_zero,Array.toArray_toList]
            exact setRow_self w b bS kq (0,0) bH
           simp only [List.length_nil] at ml p4
           rw [hw] at ml p4
           exact ⟨_,w,hA.zero h0 jP 0 iL (Nat.zero_le _),ml,p4 _ _ aa⟩
          ·have w3:jP=some ⟨b,0,none⟩:=by
            rcases kR with bX|bX
            ·exact absurd bX kQ
            ·simpa using bX
           subst w3
           by_cases h0:bc.length=0
           ·have sa:bc=[]:=List.length_eq_zero_iff.1 h0
            subst sa
            have Er:vs=[]:=List.length_eq_zero_iff.1 (by simpa using v1)
            subst Er
            have hw:w.setRow b (bS.toList.take (len*ab.sz)++[]++bS.toList.drop (len*ab.sz+0)).toArray=w:=by
             simp only [List.append_nil,Nat.add_zero,List.take_append_drop,Array.toArray_toList]
             exact setRow_self w b bS kq (0,0) bH
            simp only [List.length_nil] at ml p4
            rw [hw] at ml p4
            exact ⟨_,w,hA.zero h0 _ len iL oK,ml,p4 _ _ aa⟩
           ·have ha:=hA.room (by omega) b len iL bS kq bH (by omega) (by rw [← dK];exact pp) w2
            rw [← dK] at ha
            refine ⟨_,_,ha,ml,?_⟩
            have wB:(s.setRow r (row.set k {ab with es:=ab.es.take len++bc})).ab r k=some {ab with es:=ab.es.take len++bc}:=by
             rw [jF,if_pos rfl,HW row k ab _ a3 (by simp [lN]),if_pos rfl]
            show Rel _ ((s.setRow r (row.set k {ab with es:=ab.es.take len++bc})).ok g aj _) (s.setRow r (row.set k {ab with es:=ab.es.take len++bc})).aK ((s.setRow r (row.set k {ab with es:=ab.es.take len++bc})).aQ aj) (.bp r k 0 (len+bc.length)) _
            refine .bp (sz:=ab.sz) (c8:=b) (m:=M) (yG wB) ((gM wB).trans (by rw [ae])) (by omega) pU ⟨de,.inr (by simp)⟩
        ·simp at ai
     ·simp at ai
  ·simp at ai
end
section
variable {P:Program} {g:G} {s:S} {aj:ef} {a:Act} {w:World} {aC:Nat} {bd:gx}
theorem G2 {s:S}{r k:Nat}{row:List ap}{ab:ap}(ah:s.aE r=some row)(ad:cz (some row) k=some ab):s.setRow r (row.set k ab)=s:=by
 have J:row[k]? = some ab:=by
  unfold cz at ad
  simp only at ad
  split at ad
  ·rename_i bD cW
   split at ad
   ·simp at ad
   ·simp at ad;rw [← ad];exact cW
  ·simp at ad
 have ao:row.set k ab=row:=List.ext_getElem? fun j=>by
  rw [List.getElem?_set]
  split
  ·rename_i e;subst e
   have:=(List.getElem?_eq_some_iff.1 J).1
   rw [if_pos this,J]
  ·rfl
 rw [ao]
 have:(fun q=>if q=r then some row else s.aE q)=s.aE:=by
  funext q;split
  ·rename_i e;rw [e,ah]
  ·rfl
 show ({s with aE:=_}:S)=s
 rw [this]
theorem OM {e:TypeId}{i:TypeInfo}{z:List al}{du:Value}(jJ:du.cells.size=i.size)(lk:z.length=i.size)(iS:i.size≠0)
 (qJ : ∀(j:Nat) x,z[j]? = some x→ ∃v,du.cells[j]? = some v∧iv v=true∧ ∀(w:World) (ok:Nat→Prop) (aK:hs) (aQ:hi),Rel w ok aK aQ x v) (m:Nat) :
 (Builtin.zeroCells du.cells m).toList.length=m*i.size∧(∀u∈(Builtin.zeroCells du.cells m).toList,u.oneCell'=true) ∧
   ∀(j:Nat) x u,(List.replicate m z).flatten[j]? = some x→(Builtin.zeroCells du.cells m).toList[j]? = some u→ ∀(w:World) (ok:Nat→Prop) (aK:hs) (aQ:hi),Rel w ok aK aQ x u:=by
 have jY : ∀(j:Nat) u,(Builtin.zeroCells du.cells m).toList[j]? = some u→du.cells[j % i.size]? = some u:=by
  intro j u lM
  have av:=(List.getElem?_eq_some_iff.1 lM).1
  rw [Array.length_toList,size_zeroCells,jJ] at av
  have c9:j % i.size<du.cells.size:=by rw [jJ];exact Nat.mod_lt _ (by omega)
  rw [Array.getElem?_toList,Builtin.zeroCells,Array.getElem?_map,jJ,Array.getElem?_range] at lM
  rw [if_pos av] at lM
  simp only [Option.map_some,Option.some.injEq] at lM
  rw [← lM,Array.getElem?_eq_getElem c9,getElem!_pos du.cells _ c9]
 refine ⟨?_,?_,?_⟩
 ·rw [Array.length_toList,size_zeroCells,jJ]
 ·intro u oM
  obtain ⟨j,av⟩:=List.getElem?_of_mem oM
  have o:=jY j u av
  have c9:j % i.size<z.length:=by rw [lk];exact Nat.mod_lt _ (by omega)
  obtain ⟨v,v1,v2,-⟩:=qJ _ _ (List.getElem?_eq_getElem c9)
  rw [o] at v1
  obtain rfl:=Option.some.inj v1
  exact v2
 ·intro j x u aa lM
  rw [m0 (sz:=i.size) (by omega) _ (fun dy jX=>by rw [List.mem_replicate] at jX;rw [jX.2,lk])] at aa
  have o:=jY j u lM
  cases a1:(List.replicate m z)[j / i.size]? with
  | none=>rw [a1] at aa;simp at aa
  | some dy =>
   have:=List.mem_of_getElem? a1
   rw [List.mem_replicate] at this
   rw [a1,this.2] at aa
   simp only [Option.bind_some] at aa
   obtain ⟨v,v1,-,v3⟩:=qJ _ _ aa
   rw [o] at v1
   obtain rfl:=Option.some.inj v1
   exact v3
theorem PZ (h:b9 g s aj a w){r k len:Nat}{y:al}{oV lu:Value}{t cJ dv:TypeId}{cb:ew}(ai:lL P s.E s.aE aC .copy [.bp r k 0 len,y] [t,cJ] cb=some bd)(b4:∀p∈bd.ep,p)
 (aa:Rel w (s.ok g aj w) s.aK (s.aQ aj) (.bp r k 0 len) oV) (aN:Rel w (s.ok g aj w) s.aK (s.aQ aj) y lu) :
 ∃n bm,(Builtin.copy_ #[t,cJ] dv #[oV,lu]).run P w = .ok (goInt n) bm∧b9 g (s.gq bd.eE) aj a bm∧bd.val = .n .i64 n:=by
 simp only [lL] at ai
 split at ai
 ·simp at ai
 ·rename_i e he
  have hu:=o6 he
  split at ai
  ·simp at ai
  ·rename_i i af
   split at ai
   ·simp at ai
   ·rename_i bc bZ oH
    split at ai
    ·simp at ai
    ·rename_i row cE
     split at ai
     ·simp at ai
     ·rename_i ab a3
      split at ai
      ·rename_i r9
       obtain ⟨lN,dK,iS⟩:=r9
       simp only [Option.some.injEq] at ai
       subst ai
       have ad:s.ab r k=some ab:=by unfold S.ab;rw [cE];exact a3
       have gD:bc.length≤len:=b4 _ (by simp)
       have hle:len≤ab.es.length:=b4 _ (by simp)
       obtain ⟨A,c,rfl,hlen,En⟩:=HY h oH (fun p ae=>b4 p (by simp [ae])) aN
       show ∃n bm,_∧b9 g (s.setRow r (row.set k {ab with es:=bc++ab.es.drop bc.length})) aj a bm∧_
       by_cases h0:bc.length=0
       ·have sa:bc=[]:=List.length_eq_zero_iff.1 h0
        subst sa
        refine ⟨0,w,?_,?_,rfl⟩
        ·rcases aa.rC (gM ad) with ⟨-,-,rfl,rfl⟩|⟨b,M,jP,iL,-,rfl,-,-,-,-⟩
         ·cases A<;>simp [Builtin.copy_,run_underlying hu,sizeOf,typeInfo,af,Builtin.lenOf,Builtin.firstCells,loadCells,loadCellsFrom]
         ·cases A<;>cases jP<;>simp [Builtin.copy_,run_underlying hu,sizeOf,typeInfo,af,Builtin.lenOf,Builtin.firstCells,loadCells,loadCellsFrom,storeCells]
        ·rw [show ({ab with es:=[]++ab.es.drop ([]:List (List al)).length}:ap)=ab from rfl,G2 cE a3];exact h
       ·obtain ⟨c8,off,rfl,gF⟩:=En.resolve_left h0
        obtain ⟨vs,v1,v2,v3,v4⟩:=gF.lI
        rw [← dK] at v1
        rcases aa.rC (gM ad) with ⟨-,-,rfl,-⟩|⟨b,M,jP,iL,ae,rfl,oK,pU,de,kR⟩
        ·exact absurd (Nat.le_zero.1 gD) h0
        ·have w3:jP=some ⟨b,0,none⟩:=by
          rcases kR with bX|bX
          ·exact absurd (show bc.length=0 by omega) h0
          ·simpa using bX
         subst w3
         obtain ⟨bS,kq,bH,cq,mj,pp,ml,-⟩:=h.putAt (p:=0) cE ad lN ae (fun x aa=>by rw [hlen x aa,dK]) v1 v3 v4 (by omega) ab.es.length (e9:=bc++ab.es.drop bc.length)
          (by rw [List.take_zero,List.nil_append,Nat.zero_add];exact (List.take_of_length_le (by simp;omega)).symm)
         simp only [Nat.zero_mul,Nat.zero_add,List.take_zero,List.nil_append] at pp ml
         have aG:=run_firstCells_some (P:=P) w i.size bc.length ⟨c8,off,none⟩ bc.length c vs (by rw [v1,dK]) v2
         have kg:=run_storeCells_at P b 0 kq vs 0 bS w bH (by simpa using pp) v3
         simp only [Nat.add_zero,List.take_zero,List.nil_append,Nat.zero_add] at kg
         refine ⟨bc.length,_,?_,ml,rfl⟩
         simp [Builtin.copy_,run_underlying hu,sizeOf,typeInfo,af,Builtin.lenOf,Nat.min_eq_left gD,aG,kg]
      ·simp at ai
theorem Pf (h:b9 g s aj a w){r k len:Nat}{oV:Value}{t dv:TypeId}{cb:ew}(ai:lL P s.E s.aE aC .clear [.bp r k 0 len] [t] cb=some bd)(b4:∀p∈bd.ep,p)
 (aa:Rel w (s.ok g aj w) s.aK (s.aQ aj) (.bp r k 0 len) oV) :
 ∃bm,(Builtin.clear_ #[t] dv #[oV]).run P w = .ok (.tuple #[]) bm∧b9 g (s.gq bd.eE) aj a bm∧bd.val = .dx []:=by
 simp only [lL] at ai
 split at ai
 ·simp at ai
 ·rename_i e he
  have hu:=o6 he
  split at ai
  ·rename_i i z af b6
   split at ai
   ·simp at ai
   ·rename_i row cE
    split at ai
    ·simp at ai
    ·rename_i ab a3
     split at ai
     ·rename_i r9
      obtain ⟨lN,dK,lk,iS⟩:=r9
      simp only [Option.some.injEq] at ai
      subst ai
      have ad:s.ab r k=some ab:=by unfold S.ab;rw [cE];exact a3
      have hle:ab.es.length=len:=b4 _ (by simp)
      show ∃bm,_∧b9 g (s.setRow r (row.set k {ab with es:=List.replicate len z})) aj a bm∧_
      by_cases h0:len=0
      ·subst h0
       refine ⟨w,?_,?_,rfl⟩
       ·rcases aa.rC (gM ad) with ⟨-,-,-,rfl⟩|⟨b,M,jP,iL,-,rfl,-,-,-,-⟩
        ·simp [Builtin.clear_,run_underlying hu]
        ·cases jP<;>simp [Builtin.clear_,run_underlying hu]
       ·rw [show ({ab with es:=List.replicate 0 z}:ap)=ab by rw [List.replicate_zero,← List.length_eq_zero_iff.1 hle],G2 cE a3];exact h
      ·obtain ⟨dU,du,hS,jk,po,qJ⟩:=vA b6
       rw [af] at hS;simp at hS;subst hS
       have jJ:du.cells.size=i.size:=by rw [← lk,po];simp
       rcases aa.rC (gM ad) with ⟨-,-,rfl,-⟩|⟨b,M,jP,iL,ae,rfl,oK,pU,de,kR⟩
       ·exact absurd rfl h0
       ·have w3:jP=some ⟨b,0,none⟩:=by
         rcases kR with bX|bX
         ·exact absurd (show len=0 by omega) h0
         ·simpa using bX
        subst w3
        obtain ⟨v1,v3,v4⟩:=OM (e:=e) jJ lk iS qJ len
        rw [← dK] at v1
        obtain ⟨bS,kq,bH,cq,mj,pp,ml,-⟩:=h.putAt (p:=0) (bc:=List.replicate len z) cE ad lN ae (fun x aa=>by rw [List.mem_replicate] at aa;rw [aa.2,lk,dK]) (by simpa using v1) v3 (fun j x u o J=>v4 j x u o J _ _ _ _)
         (by simp;omega) len (e9:=List.replicate len z)
         (by simp [hle])
        simp only [Nat.zero_mul,Nat.zero_add,List.take_zero,List.nil_append] at pp ml
        have kg:=run_storeCells_at P b 0 kq (Builtin.zeroCells du.cells len).toList 0 bS w bH (by simpa using pp) v3
        simp only [Nat.add_zero,List.take_zero,List.nil_append,Nat.zero_add] at kg
        refine ⟨_,?_,ml,rfl⟩
        cases len with
        | zero=>exact absurd rfl h0
        | succ n=>simp [Builtin.clear_,run_underlying hu,zeroValue,typeInfo,af,jk,kg]
     ·simp at ai
  ·simp at ai
end
section
variable {g:G} {s:S} {aj:ef} {a:Act} {w:World}
def jU (row:List ap):List ap:=row.map fun I=>if I.bY = .live then {I with bY:= .hR} else I
theorem HZ (row:List ap)(k:Nat):cz (some (jU row)) k=(cz (some row) k).map fun I=>if I.bY = .live then {I with bY:= .hR} else I:=by
 simp only [cz,jU,List.getElem?_map]
 cases row[k]? with
 | none=>rfl
 | some I =>
  obtain ⟨sz,es,bY⟩:=I
  cases bY<;>simp
theorem b9.freeze (h:b9 g s aj a w){r:Nat}{row:List ap}(ah:s.aE r=some row):b9 g (s.setRow r (jU row)) aj a w:=by
 have a3 : ∀q k I,(s.setRow r (jU row)).ab q k=some I→ ∃p,s.ab q k=some p∧I.sz=p.sz∧I.es=p.es∧(I.bY = .live→p.bY = .live∧q≠r):=by
  intro q k I ad
  by_cases e:q=r
  ·subst e
   have:(s.setRow q (jU row)).aE q=some (jU row):=by simp [S.setRow]
   unfold S.ab at ad
   rw [this,HZ] at ad
   rw [Option.map_eq_some_iff] at ad
   obtain ⟨p,ae,rfl⟩:=ad
   refine ⟨p,by unfold S.ab;rw [ah];exact ae,?_⟩
   split<;>simp_all
  ·have:(s.setRow r (jU row)).aE q=s.aE q:=by simp [S.setRow,e]
   unfold S.ab at ad
   rw [this] at ad
   exact ⟨I,ad,rfl,rfl,fun aG=>⟨aG,e⟩⟩
 have hC : ∀q k,s.aK q k→(s.setRow r (jU row)).aK q k:=yn s ah (by simp [jU])
 have jw : ∀q k,(s.setRow r (jU row)).aQ aj q k=s.aQ aj q k:=by
  intro q k
  by_cases e:q=r
  ·subst e
   simp only [S.aQ,S.ab]
   have:(s.setRow q (jU row)).aE q=some (jU row):=by simp [S.setRow]
   rw [this,HZ,ah]
   cases cz (some row) k with
   | none=>rfl
   | some I=>simp only [Option.map_some,Option.some.injEq,Prod.mk.injEq,and_true];split<;>rfl
  ·have:(s.setRow r (jU row)).aE q=s.aE q:=by simp [S.setRow,e]
   simp [S.aQ,S.ab,this]
 have cm:Step g s aj w (s.setRow r (jU row)) aj w:=⟨hC,fun q k _=> .inl (jw q k),fun b aG=>by
  obtain ⟨q,k,I,m,o,J,ao⟩:=aG
  obtain ⟨p,ga,hj,oe,xr⟩:=a3 q k I o
  exact .inl ⟨q,k,p,m,ga,(xr J).1,ao⟩,fun _ _ _=>rfl,Nat.le_refl _⟩
 refine {togw:=⟨?_,?_,?_,h.fO,h.mlt,h.lf,?_,h.low⟩,env:=fun t=>cm.rel (h.env t),defers:=h.defers,hZ:=h.hZ}
 ·intro q k I ad
  obtain ⟨p,ga,hj,oe,-⟩:=a3 q k I ad
  have ae:=cm.obj (fun b m _=>rfl) (h.obj q k p ga)
  cases jO:aj q k with
  | none=>rw [jO] at ae;simp only [hz] at ae ⊢;rw [oe];exact ae
  | some x =>
   obtain ⟨b,m⟩:=x
   rw [jO] at ae
   obtain ⟨c,dv,ar,ay,bR,dc⟩:=ae
   exact ⟨c,dv,ar,ay,by rw [hj,oe];exact bR,by rw [oe];exact dc⟩
 ·intro q k I f9 cU bD b m a8 o J ao aO
  obtain ⟨p,ga,-⟩:=a3 q k I o
  obtain ⟨iB,S1,-⟩:=a3 f9 cU bD J
  exact h.inj q k p f9 cU iB b m a8 ga S1 ao aO
 ·intro q k I b m o J
  obtain ⟨p,ga,-⟩:=a3 q k I o
  exact h.own q k p b m ga J
 ·intro j k av
  obtain ⟨ar,ay⟩:=h.stay j k av
  exact ⟨hC j k ar,by rw [jw];exact ay⟩
end
def ub (P:Program)(t:TypeId):Bool :=
 match P.underlying t with
 | some (.pointer _)=>true
 | _=>false
def uD (P:Program)(E:Nat→al)(aE:Nat→Option (List ap))(aC:Nat)(I:Oper)(cb:ew):Option gx :=
 match I.op with
 | .call {callee:= .builtin b,args,argTypes}=>match b with
  | .len=>dD P E aE aC I cb
  | b=>lL P E aE aC b (args.toList.map (d2 E)) argTypes.toList cb
 | .binOp op t x y _=>match cb,op,d2 E x,d2 E y with
  | .eV,.eql,.isl _ es,.dJ=>if (ns P t).isSome then some {val:= .b false,ep:=[es≠[]]} else none
  | .eV,.neq,.isl _ es,.dJ=>if (ns P t).isSome then some {val:= .b true,ep:=[es≠[]]} else none
  | .eV,.eql,.ig _ none,.gv=>if ub P t then some {val:= .b true} else none
  | .eV,.neq,.ig _ none,.gv=>if ub P t then some {val:= .b false} else none
  | .eV,.eql,.ig _ (some _),.gv=>if ub P t then some {val:= .b false} else none
  | .eV,.neq,.ig _ (some _),.gv=>if ub P t then some {val:= .b true} else none
  | .eV,_,_,_=>none
  | _,_,_,_=>dD P E aE aC I cb
 | .nilCheck x=>match cb,d2 E x with
  | .eV,.ig sz (some c)=>some {val:= .dg sz [c] 0 0}
  | .eV,_=>none
  | _,_=>dD P E aE aC I cb
 | _=>dD P E aE aC I cb
section
variable {P:Program} {g:G} {s:S} {aj:ef} {a:Act} {w:World} {I:Oper} {cb:ew} {aC:Nat} {bd:gx}
theorem yR {args:Array Operand}{E:Nat→al}{x y:al}(h:args.toList.map (d2 E)=[x,y]): ∃p q,args = #[p,q]∧d2 E p=x∧d2 E q=y:=by
 obtain ⟨l⟩:=args
 match l,h with
 | [p,q],h=>simp at h;exact ⟨p,q,rfl,h.1,h.2⟩
theorem QH {args:Array Operand}{E:Nat→al}{x:al}(h:args.toList.map (d2 E)=[x]): ∃p,args = #[p]∧d2 E p=x:=by
 obtain ⟨l⟩:=args
 match l,h with
 | [p],h=>simp at h;exact ⟨p,rfl,h⟩
theorem yA {t:TypeId}(h:ub P t=true): ∃e,P.underlying t=some (.pointer e):=by
 unfold ub at h
 split at h
 ·rename_i e he;exact ⟨e,he⟩
 ·simp at h
theorem Pg (h:b9 g s aj a w)(dF:s.aE aC=none)(ai:uD P s.E s.aE aC I cb=some bd)(b4:∀p∈bd.ep,p):Fin P g s a w I bd:=by
 unfold uD at ai
 split at ai
 ·rename_i b args kP ad
  split at ai
  ·exact yz h dF ai b4
  ·rename_i b aP
   unfold lL at ai
   split at ai
   ·rename_i x y t cJ m Fv hargs mc
    have rQ:lL P s.E s.aE aC .append [x,y] [t,cJ] (.bb m Fv)=some bd:=ai
    obtain ⟨p,q,rfl,rfl,rfl⟩:=yR hargs
    obtain ⟨l⟩:=kP
    simp only at mc
    subst mc
    obtain ⟨v,bm,bj,o,J,ao⟩:=OL (dv:=I.type) h dF rQ b4 (h.eval p) (h.eval q)
    exact ⟨v,bm,bj,.inl (by simp [execOp,ad,resolve,invoke,builtin,o]),J,ao⟩
   ·rename_i x y t cJ hargs mc
    have rQ:lL P s.E s.aE aC .append [x,y] [t,cJ] .eV=some bd:=ai
    obtain ⟨p,q,rfl,rfl,rfl⟩:=yR hargs
    obtain ⟨l⟩:=kP
    simp only at mc
    subst mc
    obtain ⟨v,bm,o,J,ao⟩:=QG (dv:=I.type) h rQ b4 (h.eval p) (h.eval q)
    exact ⟨v,bm,aj,.inl (by simp [execOp,ad,resolve,invoke,builtin,o]),J,ao⟩
   ·rename_i cb r k len y t cJ hargs mc
    have rQ:lL P s.E s.aE aC .copy [.bp r k 0 len,y] [t,cJ] cb=some bd:=ai
    obtain ⟨p,q,rfl,ae,rfl⟩:=yR hargs
    obtain ⟨l⟩:=kP
    simp only at mc
    subst mc
    have aa:=h.eval p
    rw [ae] at aa
    obtain ⟨n,bm,o,J,ao⟩:=PZ (dv:=I.type) h rQ b4 aa (h.eval q)
    refine ⟨goInt n,bm,aj,.inl (by simp [execOp,ad,resolve,invoke,builtin,o]),J,?_⟩
    rw [ao];exact .n _ _
   ·rename_i cb r k len t hargs mc
    have rQ:lL P s.E s.aE aC .clear [.bp r k 0 len] [t] cb=some bd:=ai
    obtain ⟨p,rfl,ae⟩:=QH hargs
    obtain ⟨l⟩:=kP
    simp only at mc
    subst mc
    have aa:=h.eval p
    rw [ae] at aa
    obtain ⟨bm,o,J,ao⟩:=Pf (dv:=I.type) h rQ b4 aa
    refine ⟨.tuple #[],bm,aj,.inl (by simp [execOp,ad,resolve,invoke,builtin,o]),J,?_⟩
    rw [ao];exact .dx [] rfl (fun j x u av=>by simp at av)
   ·rename_i k x cU y hargs
    split at ai
    ·rename_i aV
     simp only [Option.some.injEq] at ai
     subst ai;subst aV
     obtain ⟨p,q,rfl,ae,a1⟩:=yR hargs
     have aa:=h.eval p
     have aN:=h.eval q
     rw [ae] at aa;rw [a1] at aN
     refine gK (v:= .int k (if y<x then y else x)) h ?_ rfl (.n _ _)
     simp [execOp,ad,resolve,invoke,builtin,Builtin.min_,aa.m4,aN.m4,Builtin.min2]
    ·simp at ai
   ·simp at ai
 ·rename_i op t x y cJ ad
  split at ai
  ·rename_i sz es aa aN
   split at ai
   ·rename_i he
    obtain ⟨e,he⟩:=Option.isSome_iff_exists.1 he
    simp only [Option.some.injEq] at ai
    subst ai
    have o:=h.eval x
    have J:=h.eval y
    rw [aa] at o;rw [aN] at J
    have cf:es≠[]:=b4 _ (by simp)
    refine gK (v:= .bool false) h ?_ rfl (.b _)
    simp only [execOp,ad]
    rw [Sem.run_bind,(I2 (w:=w) (o6 he) cf o J x y).1];rfl
   ·simp at ai
  ·rename_i sz es aa aN
   split at ai
   ·rename_i he
    obtain ⟨e,he⟩:=Option.isSome_iff_exists.1 he
    simp only [Option.some.injEq] at ai
    subst ai
    have o:=h.eval x
    have J:=h.eval y
    rw [aa] at o;rw [aN] at J
    have cf:es≠[]:=b4 _ (by simp)
    refine gK (v:= .bool true) h ?_ rfl (.b _)
    simp only [execOp,ad]
    rw [Sem.run_bind,(I2 (w:=w) (o6 he) cf o J x y).2];rfl
   ·simp at ai
  ·rename_i sz aa aN
   split at ai
   ·rename_i b1
    obtain ⟨e,he⟩:=yA b1
    simp only [Option.some.injEq] at ai
    subst ai
    have o:=h.eval x
    have J:=h.eval y
    rw [aa] at o;rw [aN] at J
    have qL:Rel w (s.ok g aj w) s.aK (s.aQ aj) .gv (a.eval x):=by rw [o.HX];exact .gv
    refine gK (v:= .bool true) h ?_ rfl (.b _)
    simp only [execOp,ad]
    rw [Sem.run_bind,(tQ (w:=w) (r:=true) (by simp [pg,he]) qL J x y).1];rfl
   ·simp at ai
  ·rename_i sz aa aN
   split at ai
   ·rename_i b1
    obtain ⟨e,he⟩:=yA b1
    simp only [Option.some.injEq] at ai
    subst ai
    have o:=h.eval x
    have J:=h.eval y
    rw [aa] at o;rw [aN] at J
    have qL:Rel w (s.ok g aj w) s.aK (s.aQ aj) .gv (a.eval x):=by rw [o.HX];exact .gv
    refine gK (v:= .bool false) h ?_ rfl (.b _)
    simp only [execOp,ad]
    rw [Sem.run_bind,(tQ (w:=w) (r:=true) (by simp [pg,he]) qL J x y).2];rfl
   ·simp at ai
  ·rename_i sz c aa aN
   split at ai
   ·rename_i b1
    obtain ⟨e,he⟩:=yA b1
    simp only [Option.some.injEq] at ai
    subst ai
    have o:=h.eval x
    have J:=h.eval y
    rw [aa] at o;rw [aN] at J
    refine gK (v:= .bool false) h ?_ rfl (.b _)
    simp only [execOp,ad]
    rw [Sem.run_bind,(tQ (w:=w) (r:=false) (by simp [pg,he]) o.C9 J x y).1];rfl
   ·simp at ai
  ·rename_i sz c aa aN
   split at ai
   ·rename_i b1
    obtain ⟨e,he⟩:=yA b1
    simp only [Option.some.injEq] at ai
    subst ai
    have o:=h.eval x
    have J:=h.eval y
    rw [aa] at o;rw [aN] at J
    refine gK (v:= .bool true) h ?_ rfl (.b _)
    simp only [execOp,ad]
    rw [Sem.run_bind,(tQ (w:=w) (r:=false) (by simp [pg,he]) o.C9 J x y).2];rfl
   ·simp at ai
  ·simp at ai
  ·exact yz h dF ai b4
 ·rename_i x ad
  split at ai
  ·rename_i sz c aa
   simp only [Option.some.injEq] at ai
   subst ai
   have o:=h.eval x
   rw [aa] at o
   have J:=o.C9
   obtain ⟨c8,off,aP,hval,gF⟩:=J.tV
   refine gK (v:=a.eval x) h ?_ rfl J
   rw [hval]
   simp only [execOp,ad,hval]
   rfl
  ·simp at ai
  ·exact yz h dF ai b4
 ·exact yz h dF ai b4
end
end Go.VL
namespace Go.VL
set_option linter.unusedVariables false
set_option linter.unusedSimpArgs false
open Go
theorem py {es:List (List al)}{j:Nat}{x:al}(h:es.flatten[j]? = some x): ∃e∈es,x∈e:=by
 have:=List.mem_of_getElem? h
 rw [List.mem_flatten] at this
 obtain ⟨e,he,aa⟩:=this
 exact ⟨e,he,aa⟩
theorem Rel.pure {w:World}{ok i4:Nat→Prop}{aK kO:hs}{aQ kf:hi}{x:al}{v:Value}(h:Rel w ok aK aQ x v)(ae:Pure x)(lJ:∀b,ok b→i4 b):Rel w i4 kO kf x v:=by
 induction h with
 | dead v=>exact .dead v
 | b x=>exact .b x
 | n k x=>exact .n k x
 | s x=>exact .s x
 | gv=>exact .gv
 | dJ=>exact .dJ
 | gW a c=>exact .gW a c
 | nn=>cases ae
 | ref=>cases ae
 | la=>cases ae
 | lA=>cases ae
 | bp=>cases ae
 | kK=>cases ae
 | lG=>cases ae
 | iy sz a c h=>exact .iy sz a c h
 | isl cs aP lO aG aL hw hd ah ih =>
  cases ae with
  | isl h=>exact .isl cs (lJ _ aP) lO aG aL hw hd fun j x aa=>ih j x aa (by obtain ⟨e,he,n5⟩:=py aa;exact h e he x n5)
 | dg cs aP lO aG hw hd ah ih =>
  cases ae with
  | dg h=>exact .dg cs (lJ _ aP) lO aG hw hd fun j x aa=>ih j x aa (by obtain ⟨e,he,n5⟩:=py aa;exact h e he x n5)
 | m7 sz=>exact .m7 sz
 | mH h ih =>
  cases ae with
  | mH ae=>exact .mH (ih (.dg fun e he x aa=>by rw [List.mem_singleton] at he;subst he;exact ae x aa))
 | agg vs aG hd ah ih =>
  cases ae with
  | agg h=>exact .agg vs aG hd fun j x v aa aX=>ih j x v aa aX (h x (List.mem_of_getElem? aa))
 | dx vs aG ah ih =>
  cases ae with
  | dx h=>exact .dx vs aG fun j x v aa aX=>ih j x v aa aX (h x (List.mem_of_getElem? aa))
 | fn vs aG ah ih =>
  cases ae with
  | fn h=>exact .fn vs aG fun j x v aa aX=>ih j x v aa aX (h x (List.mem_of_getElem? aa))
abbrev ft:=Nat→Nat→Option (Nat×Nat)
structure Down (q:al→Prop):Prop where
 agg : ∀c x,q (.agg c)→x∈c→q x
 dx : ∀c x,q (.dx c)→x∈c→q x
 fn : ∀f c x,q (.fn f c)→x∈c→q x
inductive gb (s:S) (aA:ft) (bC:eU→Bool) (q:al→Prop):al→al→Prop
 | dead (x:al):gb s aA bC q x .dead
 | pure {x:al} (h:Pure x) (a1:q x):gb s aA bC q x x
 | dJ (sz:Nat):gb s aA bC q .dJ (.isl sz [])
 | gW (sz:Nat):gb s aA bC q .gW (.isl sz [])
 | y8 (sz:Nat):gb s aA bC q .gv (.ig sz none)
 | ig {sz:Nat} {x:al} {c:List al} (h:gb s aA bC q x (.dg sz [c] 0 0)):gb s aA bC q x (.ig sz (some c))
 | ref {r k j dU:Nat} (i off:Nat) (h:aA j dU=some (r,k)) (hu:s.aK r k):gb s aA bC q (.ref r k i off) (.ref j dU i off)
 | bp {r k j dU:Nat} (bw len:Nat) (h:aA j dU=some (r,k)) (hu:s.aK r k):gb s aA bC q (.bp r k bw len) (.bp j dU bw len)
 | kK (r c sz:Nat):gb s aA bC q (.gX r c sz none) (.isl sz [])
 | lG {r c sz k n:Nat} {b8:al} (h:gb s aA bC q (.bp r (k+c) 0 n) b8):gb s aA bC q (.gX r c sz (some (k,n))) b8
 | gX {r dw c c5 sz:Nat} (h:Option (Nat×Nat)) (hm : ∀k,aA dw (k+c5)=some (r,k+c)):gb s aA bC q (.gX r c sz h) (.gX dw c5 sz h)
 | dg {r k:Nat} {I:ap} {e9:List (List al)} (i off:Nat) (ad:s.ab r k=some I) (bx:bC I.bY=true) (ah:(∀j i,aA j i≠some (r,k))) (cf:I.es≠[]) (ae:gL e9) (hle : ∀e∈e9,e.length=I.sz) (aG:e9.length=I.es.length)
  (h : ∀(j:Nat) x b8,I.es.flatten[j]? = some x→e9.flatten[j]? = some b8→gb s aA bC q x b8):gb s aA bC q (.ref r k i off) (.dg I.sz e9 i off)
 | isl {r k bw len:Nat} {I:ap} {e9:List (List al)} (ad:s.ab r k=some I) (bx:bC I.bY=true) (ah:(∀j i,aA j i≠some (r,k))) (gD:bw+len≤I.es.length) (ae:gL e9) (hle : ∀e∈e9,e.length=I.sz) (aG:e9.length=len)
  (h : ∀(j:Nat) x b8,((I.es.drop bw).take len).flatten[j]? = some x→e9.flatten[j]? = some b8→gb s aA bC q x b8):gb s aA bC q (.bp r k bw len) (.isl I.sz e9)
 | agg {c c5:List al} (aG:c5.length=c.length) (h : ∀(j:Nat) x b8,c[j]? = some x→c5[j]? = some b8→gb s aA bC q x b8):gb s aA bC q (.agg c) (.agg c5)
 | dx {c c5:List al} (aG:c5.length=c.length) (h : ∀(j:Nat) x b8,c[j]? = some x→c5[j]? = some b8→gb s aA bC q x b8):gb s aA bC q (.dx c) (.dx c5)
 | fn {f:Nat} {c c5:List al} (aG:c5.length=c.length) (h : ∀(j:Nat) x b8,c[j]? = some x→c5[j]? = some b8→gb s aA bC q x b8):gb s aA bC q (.fn f c) (.fn f c5)
theorem o3 {sz:Nat}: ∀(es:List (List al)),(∀e∈es,e.length=sz)→es.flatten.length=es.length*sz
 | [],_=>by simp
 | e::es,h=>by
  rw [List.flatten_cons,List.length_append,o3 es fun x aa=>h x (by simp [aa]),h e (by simp),List.length_cons,Nat.add_mul];omega
theorem e2 {α:Type}{l:List α}{j:Nat}{x:α}(h:l[j]? = some x):j<l.length:=by
 rcases Nat.lt_or_ge j l.length with bX|bX
 ·exact bX
 ·rw [List.getElem?_eq_none bX] at h;simp at h
theorem gb.rel {g:G}{s:S}{aj:ef}{w:World}{aA:ft}{bC:eU→Bool}{q:al→Prop}(de:gw g s aj w){i4:Nat→Prop}{kO:hs}{kf:hi}
 (H1 : ∀x v,q x→Pure x→Rel w (s.ok g aj w) s.aK (s.aQ aj) x v→Rel w i4 kO kf x v)
 (z8 : ∀r k I b m,s.ab r k=some I→bC I.bY=true→(∀j i,aA j i≠some (r,k))→aj r k=some (b,m)→i4 b)
 (xt : ∀j i r k,aA j i=some (r,k)→s.aK r k→kO j i∧(kf j i=s.aQ aj r k∨kf j i=none)) {x b8:al} (bT:gb s aA bC q x b8) :
 ∀ {v:Value},Rel w (s.ok g aj w) s.aK (s.aQ aj) x v→Rel w i4 kO kf b8 v:=by
 induction bT with
 | dead x=>intro v _;exact .dead v
 | pure ae a1=>intro v ah;exact H1 _ v a1 ae ah
 | dJ sz=>intro v ah;rw [ah.nm];exact .iy sz none 0 (fun _=>rfl)
 | gW sz=>intro v ah;obtain ⟨a,c,rfl⟩:=ah.yP;exact .iy sz (some a) c (fun h=>by simp at h)
 | y8 sz=>intro v ah;rw [ah.rB];exact .m7 sz
 | ig h ih=>intro v ah;exact .mH (ih ah)
 | @ref r k j dU i off av hu =>
  intro v ah
  obtain ⟨o,J⟩:=xt j dU r k av hu
  cases ah with
  | nn a lh a5 =>
   refine .nn a o fun sz p=> ?_
   rcases J with e|e<;>rw [e]
   ·exact a5 sz p
   ·simp
  | ref lh b1 =>
   rcases J with e|e
   ·exact .ref o (e.trans b1)
   ·exact .nn _ o fun sz p=>by rw [e];simp
 | @bp r k j dU bw len av hu =>
  intro v ah
  obtain ⟨o,J⟩:=xt j dU r k av hu
  cases ah with
  | la a l c lh a5 =>
   refine .la a l c o ?_
   rcases J with e|e<;>rw [e]
   exact a5
  | lA lh b1 =>
   rcases J with e|e
   ·exact .lA o (e.trans b1)
   ·exact .la _ _ _ o e
  | bp lh b1 aG aL hm =>
   rcases J with e|e
   ·exact .bp o (e.trans b1) aG aL hm
   ·exact .la _ _ _ o e
 | kK r c sz =>
  intro v ah
  cases ah with
  | kK h0 =>
   rcases h0.pF with ⟨-,a,c,rfl,bx⟩|⟨c8,off,c,-,rfl,-⟩
   ·exact .iy sz a c bx
   ·exact .iy sz _ c (fun h=>by simp at h)
 | lG h ih =>
  intro v ah
  cases ah with
  | lG h0=>exact ih h0
 | @gX r dw c c5 sz h hm =>
  intro v ah
  cases ah with
  | kK h0 =>
   rcases h0.pF with ⟨-,a,c,rfl,bx⟩|⟨c8,off,c,-,rfl,-⟩
   ·exact .kK (.iy sz a c bx)
   ·exact .kK (.iy sz _ c (fun h=>by simp at h))
  | @lG _ _ _ k n _ h0 =>
   refine .lG ?_
   cases h0 with
   | la a l bH lh a5 =>
    obtain ⟨o,J⟩:=xt _ _ _ _ (hm k) lh
    refine .la a l bH o ?_
    rcases J with e|e<;>rw [e]
    exact a5
   | lA lh b1 =>
    obtain ⟨o,J⟩:=xt _ _ _ _ (hm k) lh
    rcases J with e|e
    ·exact .lA o (e.trans b1)
    ·exact .la _ _ _ o e
   | bp lh b1 aG aL kR =>
    obtain ⟨o,J⟩:=xt _ _ _ _ (hm k) lh
    rcases J with e|e
    ·exact .bp o (e.trans b1) aG aL kR
    ·exact .la _ _ _ o e
 | @dg r k I e9 i off ad bx ah cf Es hle aG h ih =>
  intro v aX
  have ej:=de.obj r k I ad
  rcases aX.tU (gM ad) with h0|⟨b,m,ae,hval⟩
  ·rw [h0] at ej;exact absurd ej cf
  ·rw [ae] at ej
   have gF:=ej.rd
   rw [hval]
   have h1:e9.flatten.length=I.es.flatten.length:=by rw [o3 e9 hle,o3 I.es gF.1,aG]
   have rV:mi w i4 kO kf b 0 I.sz e9:=by
    refine ⟨hle,fun j b8 cO=> ?_⟩
    have c9:j<I.es.flatten.length:=by rw [← h1];exact e2 cO
    have aa:I.es.flatten[j]? = some I.es.flatten[j]:=List.getElem?_eq_getElem c9
    obtain ⟨u,ar,ay,bR⟩:=gF.2 j _ aa
    exact ⟨u,ar,ay,ih j _ b8 aa cO bR⟩
   have:=rV.dg (i:=i) (off:=off) ⟨z8 r k I b m ad bx ah ae,Es⟩
   rw [Nat.zero_add] at this
   exact this
 | @isl r k bw len I e9 ad bx ah gD Es hle aG h ih =>
  intro v aX
  have ej:=de.obj r k I ad
  rcases aX.vT (gM ad) with ⟨ae,rfl,rfl,hval⟩|⟨b,m,A,c,ae,hval,oK,pU,hm⟩
  ·have:e9=[]:=List.length_eq_zero_iff.1 aG
   subst this
   rw [hval];exact .iy _ none 0 (fun _=>rfl)
  ·rw [ae] at ej
   rw [hval]
   rcases Nat.eq_zero_or_pos len with h0|iS
   ·subst h0
    have:e9=[]:=List.length_eq_zero_iff.1 aG
    subst this
    exact .iy _ A c (fun a5=>by rcases hm with o|⟨o,-⟩<;>simp_all)
   ·rcases hm with hm|⟨hA,hm⟩
    ·omega
    ·subst hA
     have gF:=yo ej.rd bw len (by omega)
     rw [Nat.zero_add] at gF
     have h1:e9.flatten.length=((I.es.drop bw).take len).flatten.length:=by
      rw [o3 e9 hle,o3 _ gF.1,aG,List.length_take,List.length_drop,Nat.min_eq_left (by omega)]
     have rV:mi w i4 kO kf b (bw*I.sz) I.sz e9:=by
      refine ⟨hle,fun j b8 cO=> ?_⟩
      have c9:j<((I.es.drop bw).take len).flatten.length:=by rw [← h1];exact e2 cO
      have aa:=List.getElem?_eq_getElem c9
      obtain ⟨u,ar,ay,bR⟩:=gF.2 j _ aa
      exact ⟨u,ar,ay,ih j _ b8 aa cO bR⟩
     have:=rV.isl (c:=c) ⟨z8 r k I b m ad bx ah ae,Es⟩ (by omega)
     rw [aG] at this
     exact this
 | @agg c c5 aG h ih =>
  intro v aX
  obtain ⟨vs,rfl,o,J,ao⟩:=aX.vS
  refine .agg vs (by omega) J fun j b8 u cO hu=> ?_
  have c9:j<c.length:=by have:=e2 cO;omega
  exact ih j _ b8 (List.getElem?_eq_getElem c9) cO (ao j _ u (List.getElem?_eq_getElem c9) hu)
 | @dx c c5 aG h ih =>
  intro v aX
  obtain ⟨vs,rfl,o,ao⟩:=aX.tT
  refine .dx vs (by omega) fun j b8 u cO hu=> ?_
  have c9:j<c.length:=by have:=e2 cO;omega
  exact ih j _ b8 (List.getElem?_eq_getElem c9) cO (ao j _ u (List.getElem?_eq_getElem c9) hu)
 | @fn f c c5 aG h ih =>
  intro v aX
  obtain ⟨vs,rfl,o,ao⟩:=aX.yZ
  refine .fn vs (by omega) fun j b8 u cO hu=> ?_
  have c9:j<c.length:=by have:=e2 cO;omega
  exact ih j _ b8 (List.getElem?_eq_getElem c9) cO (ao j _ u (List.getElem?_eq_getElem c9) hu)
structure me (s:S) (aA:ft) (bC:eU→Bool) (q:al→Prop) (I bD:ap):Prop where
 sz:bD.sz=I.sz
 bY:bD.bY=I.bY∨(bD.bY = .hR∧I.bY = .live)∨bD.bY = .gone
 len:bD.es.length=I.es.length
 each : ∀e∈bD.es,e.length=I.sz
 at_ : ∀(j:Nat) x b8,I.es.flatten[j]? = some x→bD.es.flatten[j]? = some b8→gb s aA bC q x b8
structure nB (s:S) (aA:ft) (bC:eU→Bool) (q:al→Prop) (gi:Nat→Option (List ap)):Prop where
 inj : ∀j i gl dU p,aA j i=some p→aA gl dU=some p→j=gl∧i=dU
 at_ : ∀j i bD,cz (gi j) i=some bD→ ∃r k I,aA j i=some (r,k)∧s.ab r k=some I∧me s aA bC q I bD
 aK : ∀j i r k,aA j i=some (r,k)→s.aK r k→i<((gi j).getD []).length
def h2 (aj:ef)(aA:ft):ef:=fun j i=>match aA j i with
 | some (r,k)=>aj r k
 | none=>none
theorem uc {aj:ef}{aA:ft}{j i r k:Nat}(h:aA j i=some (r,k)):h2 aj aA j i=aj r k:=by simp [h2,h]
def jZ (_:al):Prop:=True
theorem RI:Down jZ:=⟨fun _ _ _ _=>trivial,fun _ _ _ _=>trivial,fun _ _ _ _ _=>trivial⟩
section
variable {g:G} {s:S} {aj:ef} {w:World} {aA:ft} {bC:eU→Bool} {q:al→Prop} {bo:S}
theorem nB.ab (h:nB s aA bC q bo.aE){j i:Nat}{bD:ap}(ad:bo.ab j i=some bD): ∃r k I,aA j i=some (r,k)∧s.ab r k=some I∧me s aA bC q I bD:=h.at_ j i bD ad
theorem Iz {I bD:ap}(h:me s aA bC q I bD)(aG:bD.bY = .live):I.bY = .live:=by
 rcases h.bY with e|⟨e,-⟩|e
 ·exact e.symm.trans aG
 ·rw [e] at aG;simp at aG
 ·rw [e] at aG;simp at aG
theorem nB.live (h:nB s aA bC q bo.aE)(b:Nat)(aG:bo.jT (h2 aj aA) b): ∃r k I m,s.ab r k=some I∧I.bY = .live∧aj r k=some (b,m)∧ ∃j i,aA j i=some (r,k):=by
 obtain ⟨j,i,bD,m,o,J,ao⟩:=aG
 obtain ⟨r,k,I,ar,ay,bR⟩:=h.ab o
 rw [uc ar] at ao
 exact ⟨r,k,I,m,ay,Iz bR J,ao,j,i,ar⟩
theorem nB.zE (h:nB s aA bC q bo.aE){j i r k:Nat}(av:aA j i=some (r,k)):bo.aQ (h2 aj aA) j i=s.aQ aj r k∨bo.aQ (h2 aj aA) j i=none:=by
 cases ad:bo.ab j i with
 | none=>right;simp [S.aQ,ad]
 | some bD =>
  obtain ⟨dw,cU,I,ar,ay,bR⟩:=h.ab ad
  rw [av] at ar;simp only [Option.some.injEq,Prod.mk.injEq] at ar
  obtain ⟨rfl,rfl⟩:=ar
  left
  rw [gM ad,gM ay,bR.sz,uc av]
theorem gw.Fw (de:gw g s aj w)(h:nB s aA bC q bo.aE){eO:G}(aV:wA eO w)(wh:∀j k,eO.mO j k→bo.aK j k∧(bo.aQ (h2 aj aA) j k=eO.oJ j k∨bo.aQ (h2 aj aA) j k=none))(Sf:∀j k,eO.mO j k→j<eO.m)
 (Sg : ∀b,eO.ni b→b<eO.kA.heap.size) (halt : ∀b,eO.A b→b<eO.kA.heap.size)
 (D3 : ∀r k I b m,(∃j i,aA j i=some (r,k))→s.ab r k=some I→aj r k=some (b,m)→eO.kA.heap.size≤b∨eO.ni b)
 (H1 : ∀b,s.ok g aj w b→bo.ok eO (h2 aj aA) w b)
 (z8 : ∀r k I b m,s.ab r k=some I→bC I.bY=true→(∀j i,aA j i≠some (r,k))→aj r k=some (b,m)→bo.ok eO (h2 aj aA) w b) :
 gw eO bo (h2 aj aA) w∧ ∀ {x b8:al} {v:Value},gb s aA bC q x b8→Rel w (s.ok g aj w) s.aK (s.aQ aj) x v→Rel w (bo.ok eO (h2 aj aA) w) bo.aK (bo.aQ (h2 aj aA)) b8 v:=by
 have ej : ∀ {x b8:al} {v:Value},gb s aA bC q x b8→Rel w (s.ok g aj w) s.aK (s.aQ aj) x v→Rel w (bo.ok eO (h2 aj aA) w) bo.aK (bo.aQ (h2 aj aA)) b8 v :=
  fun bT ah=>bT.rel de (fun x v _ ae ah=>ah.pure ae H1) z8 (fun j i r k av hu=>⟨h.aK j i r k av hu,h.zE av⟩) ah
 refine ⟨⟨?_,?_,?_,aV,Sg,halt,wh,Sf⟩,ej⟩
 ·intro j k bD cW
  obtain ⟨r,cU,I,ar,ay,bR⟩:=h.ab cW
  have a3:=de.obj r cU I ay
  rw [uc ar]
  cases ae:aj r cU with
  | none =>
   rw [ae] at a3
   simp only [hz] at a3 ⊢
   apply List.length_eq_zero_iff.1
   rw [bR.len,a3];rfl
  | some q =>
   obtain ⟨b,m⟩:=q
   rw [ae] at a3
   obtain ⟨c,dv,o,J,ao,aO⟩:=a3
   have h1:bD.es.flatten.length=I.es.flatten.length:=by rw [o3 _ bR.each,o3 _ ao,bR.len]
   refine ⟨c,dv,o,J,by rw [bR.sz];exact bR.each,fun i b8 cO=> ?_⟩
   have c9:i<I.es.flatten.length:=by rw [← h1];exact e2 cO
   have aa:=List.getElem?_eq_getElem c9
   obtain ⟨u,f1,f2,f3⟩:=aO i _ aa
   exact ⟨u,f1,f2,ej (bR.at_ i _ b8 aa cO) f3⟩
 ·intro j k I gl cU bD b m a8 o J ao aO
  obtain ⟨r,j5,p,ar,ay,-⟩:=h.ab o
  obtain ⟨dw,S2,iB,kV,nd,-⟩:=h.ab J
  rw [uc ar] at ao
  rw [uc kV] at aO
  obtain ⟨rfl,rfl⟩:=de.inj r j5 p dw S2 iB b m a8 ay nd ao aO
  exact h.inj _ _ _ _ _ ar kV
 ·intro j k I b m o J
  obtain ⟨r,j5,p,ar,ay,-⟩:=h.ab o
  rw [uc ar] at J
  exact D3 r j5 p b m ⟨j,k,ar⟩ ay J
theorem b9.IA {a:Act}(h:b9 g s aj a w)(ch:nB s aA (fun _=>true) q bo.aE)(dz:∀t,gb s aA (fun _=>true) q (s.E t) (bo.E t))(wK:∀j k,g.mO j k→aA j k=some (j,k)):b9 g bo (h2 aj aA) a w:=by
 have gr : ∀b,bo.jT (h2 aj aA) b→s.jT aj b:=fun b aG=>by
  obtain ⟨r,k,I,m,o,J,ao,-⟩:=ch.live b aG
  exact ⟨r,k,I,m,o,J,ao⟩
 have wh : ∀j k,g.mO j k→bo.aK j k∧(bo.aQ (h2 aj aA) j k=g.oJ j k∨bo.aQ (h2 aj aA) j k=none):=by
  intro j k av
  obtain ⟨ar,ay⟩:=h.stay j k av
  refine ⟨ch.aK j k j k (wK j k av) ar,?_⟩
  rcases ch.zE (aj:=aj) (wK j k av) with e|e
  ·rw [e];exact ay
  ·exact .inr e
 obtain ⟨o,J⟩:=h.togw.Fw ch h.fO wh h.low h.mlt h.lf (fun r k I b m _ ad ae=>h.own r k I b m ad ae)
  (fun b aP=>⟨aP.1,aP.2.1,fun aG=>aP.2.2 (gr b aG)⟩)
  (fun r k I b m ad _ ah ae=>by
    have a3:=h.obj r k I ad
    rw [ae] at a3
    obtain ⟨c,dv,ar,-⟩:=a3
    refine ⟨(Array.getElem?_eq_some_iff.1 ar).1,?_,fun aG=> ?_⟩
    ·rcases h.own r k I b m ad ae with e|e
     ·exact .inr (.inl e)
     ·exact .inr (.inr e)
    ·obtain ⟨dw,cU,bD,a8,f1,f2,f3,⟨Fx,p5,f4⟩⟩:=ch.live b aG
     obtain ⟨rfl,rfl⟩:=h.inj r k I dw cU bD b m a8 ad f1 ae f3
     exact ah Fx p5 f4)
 exact {togw:=o,env:=fun t=>J (dz t) (h.env t),defers:=h.defers,hZ:=h.hZ}
end
end Go.VL
namespace Go.VL
set_option linter.unusedVariables false
set_option linter.unusedSimpArgs false
open Go
def dO (T:List (List ap)):S:={E:=fun _=> .dead,aE:=fun r=>T[r]?}
def RJ (P:Program)(f:FuncId)(args:List al)(T:List (List ap))(r:al)(hG:List (List ap)):Prop :=
 ∀(g:G) (aj:ef) (w:World) (vs:Array Value),g.kA=w→g.m=T.length→g.mO=(dO T).aK→g.oJ=(dO T).aQ aj→gw g (dO T) aj w→vs.size=args.length →
  (∀(j:Nat) x v,args[j]? = some x→vs[j]? = some v→Rel w ((dO T).ok g aj w) (dO T).aK ((dO T).aQ aj) x v) →
  Calls P f vs w fun e bm=> ∃v bj,e = .returned v∧gw g (dO hG) bj bm∧Rel bm ((dO hG).ok g bj bm) (dO hG).aK ((dO hG).aQ bj) r v
inductive cx:al→Prop
 | dead:cx .dead
 | b (x:Bool):cx (.b x)
 | n (k:IntKind) (x:Int):cx (.n k x)
 | s (x:ByteArray):cx (.s x)
 | gv:cx .gv
 | dJ:cx .dJ
 | gW:cx .gW
 | iy (sz:Nat):cx (.isl sz [])
 | ref (r k i off:Nat):cx (.ref r k i off)
 | bp (r k bw len:Nat):cx (.bp r k bw len)
 | gX (r c sz:Nat) (h:Option (Nat×Nat)):cx (.gX r c sz h)
 | agg {c:List al} (h : ∀x∈c,cx x):cx (.agg c)
 | dx {c:List al} (h : ∀x∈c,cx x):cx (.dx c)
theorem RK:Down cx:=⟨fun _ _ h aa=>by cases h with|agg h=>exact h _ aa,fun _ _ h aa=>by cases h with|dx h=>exact h _ aa,fun _ _ _ h=>by cases h⟩
theorem Rel.cX {w bm:World}{ok i4:Nat→Prop}{aK kO:hs}{aQ kf:hi}{x:al}(bT:cx x): ∀ {v:Value},Pure x→Rel w ok aK aQ x v→Rel bm i4 kO kf x v:=by
 induction bT with
 | dead=>intro v _ h;exact .dead v
 | b x=>intro v _ h;rw [h.qy];exact .b x
 | n k x=>intro v _ h;rw [h.m4];exact .n k x
 | s x=>intro v _ h;rw [h.uh];exact .s x
 | gv=>intro v _ h;rw [h.rB];exact .gv
 | dJ=>intro v _ h;rw [h.nm];exact .dJ
 | gW=>intro v _ h;obtain ⟨a,c,rfl⟩:=h.yP;exact .gW a c
 | iy sz =>
  intro v _ h
  rcases h.pF with ⟨-,a,c,rfl,bx⟩|⟨c8,off,c,-,rfl,-⟩
  ·exact .iy sz a c bx
  ·exact .iy sz _ c (fun h=>by simp at h)
 | ref=>intro v ae;cases ae
 | bp=>intro v ae;cases ae
 | gX=>intro v ae;cases ae
 | @agg c aL ih =>
  intro v ae h
  obtain ⟨vs,rfl,o,J,ao⟩:=h.vS
  cases ae with
  | agg ae=>exact .agg vs o J fun j x u aa hu=>ih x (List.mem_of_getElem? aa) (ae x (List.mem_of_getElem? aa)) (ao j x u aa hu)
 | @dx c aL ih =>
  intro v ae h
  obtain ⟨vs,rfl,o,ao⟩:=h.tT
  cases ae with
  | dx ae=>exact .dx vs o fun j x u aa hu=>ih x (List.mem_of_getElem? aa) (ae x (List.mem_of_getElem? aa)) (ao j x u aa hu)
section
variable {P:Program} {g:G} {s:S} {aj:ef} {a:Act} {w:World}
theorem v7 (h:gw g s aj w){r k b m:Nat}{I:ap}(ad:s.ab r k=some I)(ae:aj r k=some (b,m)):b<w.heap.size:=by
 have:=h.obj r k I ad
 rw [ae] at this
 obtain ⟨c,dv,e,-⟩:=this
 exact (Array.getElem?_eq_some_iff.1 e).1
theorem Rb (h:gw g s aj w){r k b m:Nat}{I:ap}(ad:s.ab r k=some I)(aV:I.bY = .hR)(ae:aj r k=some (b,m)):s.ok g aj w b:=by
 refine ⟨v7 h ad ae,?_,?_⟩
 ·rcases h.own r k I b m ad ae with e|e
  ·exact .inr (.inl e)
  ·exact .inr (.inr e)
 ·rintro ⟨dw,cU,bD,a8,o,J,ao⟩
  obtain ⟨rfl,rfl⟩:=h.inj r k I dw cU bD b m a8 ad o ae ao
  rw [ad] at o;simp at o;subst o;rw [aV] at J;simp at J
theorem enter (h:gw g s aj w){aA:ft}{bC:eU→Bool}{q:al→Prop}{T:List (List ap)}(A:Nat→Prop)
 (hA : ∀b,A b→b<w.heap.size) (Et : ∀b,s.ok g aj w b→A b)
 (Eu : ∀r k I b m,s.ab r k=some I→bC I.bY=true→aj r k=some (b,m)→A b)
 (ch:nB s aA bC q (dO T).aE) (nr : ∀r k I,(∃j i,aA j i=some (r,k))→s.ab r k=some I→I.bY = .live) :
 ∃eO:G,eO.kA=w∧eO.A=A∧eO.m=T.length∧eO.mO=(dO T).aK∧eO.oJ=(dO T).aQ (h2 aj aA) ∧
  (eO.ni=fun b=> ∃r k I m,(∃j i,aA j i=some (r,k))∧s.ab r k=some I∧aj r k=some (b,m))∧gw eO (dO T) (h2 aj aA) w ∧
  ∀ {x b8:al} {v:Value},gb s aA bC q x b8→Rel w (s.ok g aj w) s.aK (s.aQ aj) x v→Rel w ((dO T).ok eO (h2 aj aA) w) (dO T).aK ((dO T).aQ (h2 aj aA)) b8 v:=by
 let eO:G:={kA:=w,A:=A,ni:=fun b=> ∃r k I m,(∃j i,aA j i=some (r,k))∧s.ab r k=some I∧aj r k=some (b,m),N:=0,m:=T.length,mO:=(dO T).aK,oJ:=(dO T).aQ (h2 aj aA)}
 refine ⟨eO,rfl,rfl,rfl,rfl,rfl,rfl,?_⟩
 have gr : ∀b,(dO T).jT (h2 aj aA) b→ ∃r k I m,s.ab r k=some I∧I.bY = .live∧aj r k=some (b,m)∧ ∃j i,aA j i=some (r,k):=fun b aG=>ch.live b aG
 refine gw.Fw (bo:=dO T) (eO:=eO) h ch ⟨rfl,rfl,rfl,Nat.le_refl _,fun _ _ _=>rfl⟩ (fun j k av=>⟨av,.inl rfl⟩) ?_ ?_ hA ?_ ?_ ?_
 ·intro j k av
  have av:k<((T[j]?).getD []).length:=av
  rcases Nat.lt_or_ge j T.length with o|o
  ·exact o
  ·rw [List.getElem?_eq_none o] at av;simp at av
 ·rintro b ⟨r,k,I,m,-,ad,ae⟩
  exact v7 h ad ae
 ·intro r k I b m hm ad ae
  exact .inr ⟨r,k,I,m,hm,ad,ae⟩
 ·intro b aP
  refine ⟨aP.1,.inl (Et b aP),fun aG=> ?_⟩
  obtain ⟨r,k,I,m,o,J,ao,-⟩:=gr b aG
  exact aP.2.2 ⟨r,k,I,m,o,J,ao⟩
 ·intro r k I b m ad bx ah ae
  refine ⟨v7 h ad ae,.inl (Eu r k I b m ad bx ae),fun aG=> ?_⟩
  obtain ⟨dw,cU,bD,a8,o,J,ao,⟨j,i,av⟩⟩:=gr b aG
  obtain ⟨rfl,rfl⟩:=h.inj r k I dw cU bD b m a8 ad o ae ao
  exact ah j i av
theorem leave (h:b9 g s aj a w){bm:World}{aA iY:ft}{bC:eU→Bool}{q0 q:al→Prop}{eO:G}{T cY:List (List ap)}{i6:ef}
 (dd:eO.kA=w) (hA:(∀b,eO.A b→s.ok g aj w b)∨(∀x,q x→cx x)) (sb:eO.mO=(dO T).aK) (jw:eO.oJ=(dO T).aQ (h2 aj aA))
 (de:eO.ni=fun b=> ∃r k I m,(∃j i,aA j i=some (r,k))∧s.ab r k=some I∧aj r k=some (b,m))
 (nr : ∀r k I,(∃j i,aA j i=some (r,k))→s.ab r k=some I→I.bY = .live)
 (ch:nB s aA bC q0 (dO T).aE) (o:gw eO (dO cY) i6 bm)
 (wi : ∀j i r k,aA j i=some (r,k)→iY r k=some (j,i)) (zn : ∀r k j i,iY r k=some (j,i)→aA j i=some (r,k)∨ ¬s.aK r k)
 (Sh : ∀r k dw cU p,iY r k=some p→iY dw cU=some p→r=dw∧k=cU)
 {s2:S} (dz:s2.E=s.E)
 (a3 : ∀r k I,s2.ab r k=some I→(∃j i p,iY r k=some (j,i)∧(dO cY).ab j i=some p∧me (dO cY) iY (fun _=>false) q p I)∨(iY r k=none∧s.ab r k=some I))
 (hC : ∀r k,s.aK r k→s2.aK r k) (Si : ∀r k j i,iY r k=some (j,i)→(dO cY).aK j i→s2.aK r k)
 {x b8:al} {v:Value} (aa:gb (dO cY) iY (fun _=>false) q x b8) (aX:Rel bm ((dO cY).ok eO i6 bm) (dO cY).aK ((dO cY).aQ i6) x v) :
 ∃jA,b9 g s2 jA a bm∧Rel bm (s2.ok g jA bm) s2.aK (s2.aQ jA) b8 v:=by
 let jA:ef:=fun r k=>match iY r k with|some (j,i)=>i6 j i|none=>aj r k
 have ga : ∀r k j i,iY r k=some (j,i)→jA r k=i6 j i:=fun r k j i e=>by simp [jA,e]
 have hj : ∀r k,iY r k=none→jA r k=aj r k:=fun r k e=>by simp [jA,e]
 have aV:=o.fO
 have dK:w.heap.size≤bm.heap.size:=by have:=aV.size;rw [dd] at this;exact this
 have pP : ∀b,b<w.heap.size→ ¬eO.ni b→bm.heap[b]? = w.heap[b]? := fun b aP jj=>by
  have:=aV.block b (by rw [dd];exact aP) jj
  rw [dd] at this;exact this
 have zF : ∀j k p b m,(dO cY).ab j k=some p→i6 j k=some (b,m)→w.heap.size≤b∨ ∃r cU I a8,(∃j i,aA j i=some (r,cU))∧s.ab r cU=some I∧aj r cU=some (b,a8):=by
  intro j k p b m ae aP
  rcases o.own j k p b m ae aP with e|e
  ·rw [dd] at e;exact .inl e
  ·rw [de] at e;exact .inr e
 have hold : ∀q k I b m,iY q k=none→s.ab q k=some I→aj q k=some (b,m)→b<w.heap.size∧ ¬eO.ni b:=by
  intro q k I b m a1 ad ae
  refine ⟨v7 h.togw ad ae,fun jj=> ?_⟩
  rw [de] at jj
  obtain ⟨r,cU,bD,a8,⟨j,i,ah⟩,cW,lO⟩:=jj
  obtain ⟨rfl,rfl⟩:=h.inj q k I r cU bD b m a8 ad cW ae lO
  rw [wi _ _ _ _ ah] at a1;simp at a1
 have I4 : ∀b,s2.jT jA b→(dO cY).jT i6 b∨(∃q k I m,iY q k=none∧s.ab q k=some I∧I.bY = .live∧aj q k=some (b,m)):=by
  rintro b ⟨q,k,I,m,ad,lN,ae⟩
  rcases a3 q k I ad with ⟨j,i,p,ar,ay,bR⟩|⟨ar,ay⟩
  ·rw [ga _ _ _ _ ar] at ae
   exact .inl ⟨j,i,p,m,ay,Iz bR lN,ae⟩
  ·rw [hj _ _ ar] at ae
   exact .inr ⟨q,k,I,m,ar,ay,lN,ae⟩
 have lJ : ∀b,s.ok g aj w b→s2.ok g jA bm b:=by
  intro b aP
  refine ⟨Nat.lt_of_lt_of_le aP.1 dK,aP.2.1,fun aG=> ?_⟩
  rcases I4 b aG with ⟨j,k,p,m,ar,ay,bR⟩|⟨q,k,I,m,ar,ay,bR,dc⟩
  ·rcases zF j k p b m ar bR with e|⟨r,cU,I,a8,ah,ad,ae⟩
   ·have:=aP.1;omega
   ·exact aP.2.2 ⟨r,cU,I,a8,ad,nr r cU I ah ad,ae⟩
  ·exact aP.2.2 ⟨q,k,I,m,ay,bR,dc⟩
 have JV : ∀r k,s.aK r k→s2.aQ jA r k=s.aQ aj r k∨s2.aQ jA r k=none:=by
  intro r k ah
  cases ad:s2.ab r k with
  | none=>right;simp [S.aQ,ad]
  | some I =>
   left
   rcases a3 r k I ad with ⟨j,i,p,ar,ay,bR⟩|⟨ar,ay⟩
   ·rcases zn r k j i ar with av|av
    ·have kg:=(o.stay j i (by rw [sb];exact ch.aK _ _ _ _ av ah)).2
     rw [jw,gM ay] at kg
     have kg:some (p.sz,i6 j i)=(dO T).aQ (h2 aj aA) j i:=by
      rcases kg with e|e
      ·exact e
      ·simp at e
     have:=ch.zE (bo:=dO T) (aj:=aj) av
     rw [← kg] at this
     rw [gM ad,bR.sz,ga _ _ _ _ ar]
     rcases this with e|e
     ·exact e
     ·simp at e
    ·exact absurd ah av
   ·rw [gM ad,gM ay,hj _ _ ar]
 have RL : ∀b,s.ok g aj w b→bm.heap[b]? = w.heap[b]? := by
  intro b aP
  refine pP b aP.1 fun jj=> ?_
  rw [de] at jj
  obtain ⟨r,cU,I,a8,ah,ad,ae⟩:=jj
  exact aP.2.2 ⟨r,cU,I,a8,ad,nr r cU I ah ad,ae⟩
 have ej : ∀ {y:al} {u:Value},Rel w (s.ok g aj w) s.aK (s.aQ aj) y u→Rel bm (s2.ok g jA bm) s2.aK (s2.aQ jA) y u :=
  fun ah=>ah.mono lJ RL hC JV
 have Sj:(∀b,eO.A b→s.ok g aj w b)→ ∀b,(dO cY).ok eO i6 bm b→s2.ok g jA bm b:=by
  intro hA b aP
  have D3:g.A b∨g.kA.heap.size≤b∨g.ni b:=by
   rcases aP.2.1 with e|e|e
   ·exact (hA b e).2.1
   ·rw [dd] at e;exact .inr (.inl (Nat.le_trans h.fO.size e))
   ·rw [de] at e
    obtain ⟨r,k,I,m,-,ad,ae⟩:=e
    rcases h.own r k I b m ad ae with e|e
    ·exact .inr (.inl e)
    ·exact .inr (.inr e)
  refine ⟨aP.1,D3,fun aG=> ?_⟩
  rcases I4 b aG with e|⟨q,k,I,m,ar,ay,bR,dc⟩
  ·exact aP.2.2 e
  ·have a1:=hold q k I b m ar ay dc
   rcases aP.2.1 with e|e|e
   ·exact (hA b e).2.2 ⟨q,k,I,m,ay,bR,dc⟩
   ·rw [dd] at e;omega
   ·exact a1.2 e
 have Jw : ∀ {y j4:al} {u:Value},gb (dO cY) iY (fun _=>false) q y j4→Rel bm ((dO cY).ok eO i6 bm) (dO cY).aK ((dO cY).aQ i6) y u→Rel bm (s2.ok g jA bm) s2.aK (s2.aQ jA) j4 u:=by
  intro y j4 u bT ah
  refine bT.rel o (fun x v a1 ae ah=> ?_) (fun _ _ _ _ _ _ bx _ _=>by simp at bx) ?_ ah
  ·rcases hA with hA|hA
   ·exact ah.pure ae (Sj hA)
   ·exact ah.cX (hA x a1) ae
  ·intro r k j i a1 av
   refine ⟨Si r k j i a1 av,?_⟩
   cases ad:s2.ab r k with
   | none=>right;simp [S.aQ,ad]
   | some I =>
    left
    rcases a3 r k I ad with ⟨gl,dU,p,ar,ay,bR⟩|⟨ar,-⟩
    ·rw [a1] at ar;simp only [Option.some.injEq,Prod.mk.injEq] at ar
     obtain ⟨rfl,rfl⟩:=ar
     rw [gM ad,gM ay,bR.sz,ga _ _ _ _ a1]
    ·rw [a1] at ar;simp at ar
 refine ⟨jA,{togw:=⟨?_,?_,?_,?_,h.mlt,h.lf,?_,h.low⟩,env:=fun t=>by rw [dz];exact ej (h.env t),defers:=h.defers,hZ:=h.hZ},Jw aa aX⟩
 ·intro q k I ad
  rcases a3 q k I ad with ⟨j,i,p,ar,ay,bR⟩|⟨ar,ay⟩
  ·have ae:=o.obj j i p ay
   rw [ga _ _ _ _ ar]
   cases iJ:i6 j i with
   | none =>
    rw [iJ] at ae
    simp only [hz] at ae ⊢
    apply List.length_eq_zero_iff.1
    rw [bR.len,ae];rfl
   | some p6 =>
    obtain ⟨b,m⟩:=p6
    rw [iJ] at ae
    obtain ⟨c,dv,f1,f2,f3,f4⟩:=ae
    have h1:I.es.flatten.length=p.es.flatten.length:=by rw [o3 _ bR.each,o3 _ f3,bR.len]
    refine ⟨c,dv,f1,f2,by rw [bR.sz];exact bR.each,fun i b8 cO=> ?_⟩
    have c9:i<p.es.flatten.length:=by rw [← h1];exact e2 cO
    have lP:=List.getElem?_eq_getElem c9
    obtain ⟨u,kD,nJ,fl⟩:=f4 i _ lP
    exact ⟨u,kD,nJ,Jw (bR.at_ i _ b8 lP cO) fl⟩
  ·have ae:=h.obj q k I ay
   rw [hj _ _ ar]
   cases iJ:aj q k with
   | none=>rw [iJ] at ae;exact ae
   | some p6 =>
    obtain ⟨b,m⟩:=p6
    rw [iJ] at ae
    obtain ⟨c,dv,f1,f2,f3,f4⟩:=ae
    obtain ⟨r8,uE⟩:=hold q k I b m ar ay iJ
    refine ⟨c,dv,(pP b r8 uE).trans f1,f2,f3,fun i b8 cO=> ?_⟩
    obtain ⟨u,kD,nJ,fl⟩:=f4 i b8 cO
    exact ⟨u,kD,nJ,ej fl⟩
 ·intro q k I f9 cU bD b m a8 J ao aO aM
  rcases a3 q k I J with ⟨j,i,p,ar,ay,bR⟩|⟨ar,ay⟩<;>rcases a3 f9 cU bD ao with ⟨gl,dU,iB,kV,nd,w0⟩|⟨kV,nd⟩
  ·rw [ga _ _ _ _ ar] at aO;rw [ga _ _ _ _ kV] at aM
   obtain ⟨rfl,rfl⟩:=o.inj j i p gl dU iB b m a8 ay nd aO aM
   exact Sh _ _ _ _ _ ar kV
  ·rw [ga _ _ _ _ ar] at aO;rw [hj _ _ kV] at aM
   obtain ⟨f1,f2⟩:=hold f9 cU bD b a8 kV nd aM
   rcases zF j i p b m ay aO with e|e
   ·omega
   ·exact absurd (by rw [de];exact e) f2
  ·rw [hj _ _ ar] at aO;rw [ga _ _ _ _ kV] at aM
   obtain ⟨f1,f2⟩:=hold q k I b m ar ay aO
   rcases zF gl dU iB b a8 nd aM with e|e
   ·omega
   ·exact absurd (by rw [de];exact e) f2
  ·rw [hj _ _ ar] at aO;rw [hj _ _ kV] at aM
   exact h.inj q k I f9 cU bD b m a8 ay nd aO aM
 ·intro q k I b m J aO
  rcases a3 q k I J with ⟨j,i,p,ar,ay,bR⟩|⟨ar,ay⟩
  ·rw [ga _ _ _ _ ar] at aO
   rcases zF j i p b m ay aO with e|⟨r,cU,bD,a8,ah,ad,ae⟩
   ·exact .inl (Nat.le_trans h.fO.size e)
   ·exact h.own r cU bD b a8 ad ae
  ·rw [hj _ _ ar] at aO;exact h.own q k I b m ay aO
 ·have ar:=aV.os;have ay:=aV.tape;have bR:=aV.output
  rw [dd] at ar ay bR
  refine h.fO.step ar ay bR dK fun b aP pV=>pP b (Nat.lt_of_lt_of_le aP h.fO.size) fun jj=> ?_
  rw [de] at jj
  obtain ⟨r,k,I,m,-,ad,ae⟩:=jj
  rcases h.own r k I b m ad ae with e|e
  ·omega
  ·exact pV e
 ·intro j k av
  obtain ⟨ar,ay⟩:=h.stay j k av
  refine ⟨hC j k ar,?_⟩
  rcases JV j k ar with e|e
  ·rw [e];exact ay
  ·exact .inr e
def iT (a b n:Nat):al→al
 | .ref r k i off=>if r=a then .ref b (n+k) i off else .ref r k i off
 | .bp r k bw len=>if r=a then .bp b (n+k) bw len else .bp r k bw len
 | .gX r c sz h=>if r=a then .gX b (n+c) sz h else .gX r c sz h
 | .agg c=> .agg (uF c)
 | .dx c=> .dx (uF c)
 | x=>x
where uF:List al→List al
 | []=>[]
 | x::l=>iT a b n x::uF l
def ki (a b n:Nat)(I:ap):ap:={I with es:=I.es.map fun e=>e.map (iT a b n)}
def oB (I:ap):ap:=⟨0,[],.gone⟩
theorem y0 (a b n:Nat): ∀l:List al,iT.uF a b n l=l.map (iT a b n)
 | []=>rfl
 | x::l=>by rw [iT.uF,y0 a b n l];rfl
theorem iG (l:List ap)(k:Nat):cz (some l) k=(l[k]?).bind fun I=>if I.bY = .gone then none else some I:=by
 unfold cz
 cases h:l[k]? <;> simp [h]
theorem map_flatten {es:List (List al)}(f:al→al):(es.map fun e=>e.map f).flatten=es.flatten.map f:=by
 induction es with
 | nil=>rfl
 | cons e es ih=>rw [List.map_cons,List.flatten_cons,List.flatten_cons,List.map_append,ih]
theorem b9.merge (h:b9 g s aj a w){r dw:Nat}{l fa:List ap}(ah:s.aE r=some l)(fZ:s.aE dw=some fa)(cf:dw≠r):
 ∃bj,b9 g ((s.setRow dw (fa.map oB)).setRow r (l++fa.map (ki dw r l.length))) bj a w ∧
  ∀x v,Rel w (s.ok g aj w) s.aK (s.aQ aj) x v→Rel w (((s.setRow dw (fa.map oB)).setRow r (l++fa.map (ki dw r l.length))).ok g bj w)
   ((s.setRow dw (fa.map oB)).setRow r (l++fa.map (ki dw r l.length))).aK (((s.setRow dw (fa.map oB)).setRow r (l++fa.map (ki dw r l.length))).aQ bj) (iT dw r l.length x) v:=by
 generalize sc:(s.setRow dw (fa.map oB)).setRow r (l++fa.map (ki dw r l.length))=s2
 let bj:ef:=fun q k=>if q=r∧l.length≤k then aj dw (k-l.length) else aj q k
 have a3 : ∀q k I,s2.ab q k=some I→(q=r∧l.length≤k∧ ∃p,s.ab dw (k-l.length)=some p∧I=ki dw r l.length p∧bj q k=aj dw (k-l.length)) ∨
  (q≠dw∧s.ab q k=some I∧bj q k=aj q k∧ ¬(q=r∧l.length≤k)):=by
  intro q k I ad
  subst sc
  rw [jF] at ad
  by_cases e:q=r
  ·subst e
   rw [if_pos rfl] at ad
   by_cases aV:l.length≤k
   ·left
    refine ⟨rfl,aV,?_⟩
    rw [iG,List.getElem?_append_right aV,List.getElem?_map] at ad
    cases ae:fa[k-l.length]? with
    | none=>rw [ae] at ad;simp at ad
    | some p =>
     rw [ae] at ad
     simp only [Option.map_some,Option.bind_some] at ad
     split at ad
     ·simp at ad
     ·rename_i dd
      simp only [Option.some.injEq] at ad
      refine ⟨p,?_,ad.symm,by simp [bj,aV]⟩
      unfold S.ab
      rw [fZ,iG,ae,Option.bind_some,if_neg (by simpa [ki] using dd)]
   ·right
    refine ⟨Ne.symm cf,?_,by simp [bj,aV],fun eK=>aV eK.2⟩
    unfold S.ab
    rw [ah,iG]
    rw [iG,List.getElem?_append_left (by omega)] at ad
    exact ad
  ·rw [if_neg e,jF] at ad
   by_cases ay:q=dw
   ·subst ay
    rw [if_pos rfl,iG,List.getElem?_map] at ad
    cases ae:fa[k]? with
    | none=>rw [ae] at ad;simp at ad
    | some p=>rw [ae] at ad;simp [oB] at ad
   ·rw [if_neg ay] at ad
    exact .inr ⟨ay,ad,by simp [bj,e],fun eK=>e eK.1⟩
 have hC : ∀q k,s.aK q k→s2.aK q k:=by
  intro q k a1
  subst sc
  rw [k9]
  by_cases e:q=r
  ·subst e;rw [if_pos rfl];simp [S.aK,ah] at a1;simp;omega
  ·rw [if_neg e,k9]
   by_cases ay:q=dw
   ·subst ay;rw [if_pos rfl];simpa [S.aK,fZ] using a1
   ·rw [if_neg ay];exact a1
 have wL : ∀k,s.aK dw k→s2.aK r (l.length+k):=by
  intro k a1
  subst sc
  rw [k9,if_pos rfl]
  simp [S.aK,fZ] at a1
  simp;omega
 have wM : ∀k,s2.aQ bj r (l.length+k)=s.aQ aj dw k:=by
  intro k
  subst sc
  simp only [S.aQ]
  rw [jF,if_pos rfl]
  unfold S.ab
  rw [fZ,iG,iG,List.getElem?_append_right (by omega),List.getElem?_map,show l.length+k-l.length=k by omega]
  cases ae:fa[k]? with
  | none=>simp
  | some p =>
   simp only [Option.map_some,Option.bind_some]
   by_cases dd:p.bY = .gone
   ·rw [if_pos dd,if_pos (by simpa [ki] using dd)];rfl
   ·rw [if_neg dd,if_neg (by simpa [ki] using dd)]
    simp [bj,ki]
 have jw : ∀q k,s.aK q k→s2.aQ bj q k=s.aQ aj q k∨s2.aQ bj q k=none:=by
  intro q k a1
  cases ad:s2.ab q k with
  | none=>right;simp [S.aQ,ad]
  | some I =>
   left
   rcases a3 q k I ad with ⟨rfl,ay,-⟩|⟨-,ay,bR,-⟩
   ·simp [S.aK,ah] at a1;omega
   ·rw [gM ad,gM ay,bR]
 have nr : ∀b,s2.jT bj b→s.jT aj b:=by
  rintro b ⟨q,k,I,m,o,J,ao⟩
  rcases a3 q k I o with ⟨-,-,p,ar,ay,bR⟩|⟨-,ar,ay,-⟩
  ·rw [bR] at ao;subst ay;exact ⟨dw,_,p,m,ar,J,ao⟩
  ·rw [ay] at ao;exact ⟨q,k,I,m,ar,J,ao⟩
 have cm:Step g s aj w s2 bj w:=⟨hC,jw,fun b aG=> .inl (nr b aG),fun _ _ _=>rfl,Nat.le_refl _⟩
 have w4 : ∀x v,Rel w (s.ok g aj w) s.aK (s.aQ aj) x v→Rel w (s2.ok g bj w) s2.aK (s2.aQ bj) (iT dw r l.length x) v:=by
  intro x v ln
  induction ln with
  | dead v=>exact .dead v
  | b x=>exact .b x
  | n k x=>exact .n k x
  | s x=>exact .s x
  | gv=>exact .gv
  | dJ=>exact .dJ
  | gW a c=>exact .gW a c
  | @nn ax k i off a hu eK =>
   unfold iT
   split
   ·rename_i e;subst e
    exact .nn a (wL k hu) (by rw [wM];exact eK)
   ·exact cm.rel (.nn a hu eK)
  | @ref ax k i off sz c8 m hu eK =>
   unfold iT
   split
   ·rename_i e;subst e
    exact .ref (wL k hu) (by rw [wM];exact eK)
   ·exact cm.rel (.ref hu eK)
  | @la ax k bw len a bH cq hu eK =>
   unfold iT
   split
   ·rename_i e;subst e
    exact .la a bH cq (wL k hu) (by rw [wM];exact eK)
   ·exact cm.rel (.la a bH cq hu eK)
  | @lA ax k sz hu eK =>
   unfold iT
   split
   ·rename_i e;subst e
    exact .lA (wL k hu) (by rw [wM];exact eK)
   ·exact cm.rel (.lA hu eK)
  | @bp ax k bw len sz c8 m c a hu eK aG aL kR =>
   unfold iT
   split
   ·rename_i e;subst e
    exact .bp (wL k hu) (by rw [wM];exact eK) aG aL kR
   ·exact cm.rel (.bp hu eK aG aL kR)
  | @kK ax c sz v h0 ih =>
   unfold iT
   split
   ·exact .kK (cm.rel h0)
   ·exact cm.rel (.kK h0)
  | @lG ax c sz k n v h0 ih =>
   unfold iT
   split
   ·rename_i e;subst e
    unfold iT at ih
    rw [if_pos rfl] at ih
    exact .lG (by rw [show k+(l.length+c)=l.length+(k+c) by omega];exact ih)
   ·exact cm.rel (.lG h0)
  | iy sz a c h=>exact .iy sz a c h
  | isl cs aP ae aG aL hw hd ln ih=>exact cm.rel (.isl cs aP ae aG aL hw hd ln)
  | dg cs aP ae aG hw hd ln ih=>exact cm.rel (.dg cs aP ae aG hw hd ln)
  | m7 sz=>exact .m7 sz
  | mH h0 ih=>exact cm.rel (.mH h0)
  | agg vs aG hd ln ih =>
   unfold iT
   rw [y0]
   refine .agg vs (by simpa using aG) hd fun j x v aa aX=> ?_
   rw [List.getElem?_map,Option.map_eq_some_iff] at aa
   obtain ⟨y,aN,rfl⟩:=aa
   exact ih j y v aN aX
  | dx vs aG ln ih =>
   unfold iT
   rw [y0]
   refine .dx vs (by simpa using aG) fun j x v aa aX=> ?_
   rw [List.getElem?_map,Option.map_eq_some_iff] at aa
   obtain ⟨y,aN,rfl⟩:=aa
   exact ih j y v aN aX
  | fn vs aG ln ih=>exact cm.rel (.fn vs aG ln)
 refine ⟨bj,{togw:=⟨?_,?_,?_,h.fO,h.mlt,h.lf,?_,h.low⟩,env:=fun t=>by rw [show s2.E=s.E by rw [← sc];rfl];exact cm.rel (h.env t),defers:=h.defers,hZ:=h.hZ},w4⟩
 ·intro q k I ad
  rcases a3 q k I ad with ⟨-,-,p,ar,ay,bR⟩|⟨-,ar,ay,-⟩
  ·rw [bR]
   subst ay
   have ae:=h.obj dw _ p ar
   cases iJ:aj dw (k-l.length) with
   | none=>rw [iJ] at ae;simp only [hz] at ae ⊢;simp [ki,ae]
   | some p6 =>
    obtain ⟨b,m⟩:=p6
    rw [iJ] at ae
    obtain ⟨c,dv,f1,f2,f3,f4⟩:=ae
    refine ⟨c,dv,f1,f2,?_,fun j x aa=> ?_⟩
    ·intro e he
     simp only [ki,List.mem_map] at he
     obtain ⟨dy,jX,rfl⟩:=he
     simpa [ki] using f3 dy jX
    ·simp only [ki] at aa
     rw [map_flatten,List.getElem?_map,Option.map_eq_some_iff] at aa
     obtain ⟨y,aN,rfl⟩:=aa
     obtain ⟨u,kD,nJ,fl⟩:=f4 j y aN
     exact ⟨u,kD,nJ,w4 y u fl⟩
  ·rw [ay]
   exact cm.obj (fun b m _=>rfl) (h.obj q k I ar)
 ·intro q k I aZ j5 bZ b m a8 o J ao aO
  rcases a3 q k I o with ⟨rfl,f1,p,ar,ay,bR⟩|⟨f1,ar,ay,f2⟩<;>rcases a3 aZ j5 bZ J with ⟨rfl,uG,iB,kV,nd,w0⟩|⟨uG,kV,nd,Wl⟩
  ·rw [bR] at ao;rw [w0] at aO
   obtain ⟨-,e⟩:=h.inj _ _ _ _ _ _ b m a8 ar kV ao aO
   exact ⟨rfl,by omega⟩
  ·rw [bR] at ao;rw [nd] at aO
   obtain ⟨e,-⟩:=h.inj _ _ _ _ _ _ b m a8 ar kV ao aO
   exact absurd e.symm uG
  ·rw [ay] at ao;rw [w0] at aO
   obtain ⟨e,-⟩:=h.inj _ _ _ _ _ _ b m a8 ar kV ao aO
   exact absurd e f1
  ·rw [ay] at ao;rw [nd] at aO
   exact h.inj _ _ _ _ _ _ b m a8 ar kV ao aO
 ·intro q k I b m o J
  rcases a3 q k I o with ⟨-,-,p,ar,ay,bR⟩|⟨-,ar,ay,-⟩
  ·rw [bR] at J;exact h.own dw _ p b m ar J
  ·rw [ay] at J;exact h.own q k I b m ar J
 ·exact cm.stay h.stay
end
end Go.VL
namespace Go.VL
set_option linter.unusedVariables false
set_option linter.unusedSimpArgs false
open Go
def al.g8:al→Bool
 | .dead | .b _ | .n .. | .s _ | .gv | .dJ | .gW | .isl .. | .dg .. | .ig .. => true
 | _=>false
def al.v8:al→Bool
 | .agg c=>c.all al.g8
 | .fn _ c=>c.all al.g8
 | x=>x.g8
def al.Jx:al→Bool
 | .dx c=>c.all al.v8
 | x=>x.v8
section
variable {w:World} {ok:Nat→Prop} {aK:hs} {aQ:hi}
theorem Rel.ui {x:al}{v:Value}(h:Rel w ok aK aQ x v)(a5:x.g8=true):Pure x:=by
 cases h with
 | dead=>exact .dead
 | b=>exact .b _
 | n=>exact .n _ _
 | s=>exact .s _
 | gv=>exact .gv
 | dJ=>exact .dJ
 | gW=>exact .gW
 | iy=>exact .isl (by simp)
 | isl cs aP ae=>exact .isl ae
 | dg cs aP ae=>exact .dg ae
 | m7 sz=>exact .m7 sz
 | mH h=>cases h with|dg cs aP ae=>exact .mH fun x aa=>ae _ (List.mem_singleton.2 rfl) x aa
 | _=>simp [al.g8] at a5
theorem Hg {c:List al}{vs:List Value}(aG:vs.length=c.length)(ah:∀(j:Nat) x u,c[j]? = some x→vs[j]? = some u→Rel w ok aK aQ x u)
 (a5:c.all al.g8=true) : ∀x∈c,Pure x:=by
 intro x aa
 obtain ⟨j,av⟩:=List.getElem?_of_mem aa
 have c9:j<vs.length:=by have:=e2 av;omega
 exact (ah j x _ av (List.getElem?_eq_getElem c9)).ui (List.all_eq_true.1 a5 x aa)
theorem Rel.y9 {x:al}{v:Value}(h:Rel w ok aK aQ x v)(a5:x.v8=true):Pure x:=by
 cases h with
 | agg vs aG aL ah=>exact .agg (Hg aG ah a5)
 | fn vs aG ah=>exact .fn (Hg aG ah a5)
 | dead=>exact .dead
 | b=>exact .b _
 | n=>exact .n _ _
 | s=>exact .s _
 | gv=>exact .gv
 | dJ=>exact .dJ
 | gW=>exact .gW
 | iy=>exact .isl (by simp)
 | isl cs aP ae=>exact .isl ae
 | dg cs aP ae=>exact .dg ae
 | m7 sz=>exact .m7 sz
 | mH h=>cases h with|dg cs aP ae=>exact .mH fun x aa=>ae _ (List.mem_singleton.2 rfl) x aa
 | _=>simp [al.v8,al.g8] at a5
theorem Rel.RM {x:al}{v:Value}(h:Rel w ok aK aQ x v)(a5:x.Jx=true):Pure x:=by
 by_cases b1 : ∃c,x = .dx c
 ·obtain ⟨c,rfl⟩:=b1
  obtain ⟨vs,rfl,aG,ah⟩:=h.tT
  refine .dx fun x aa=> ?_
  obtain ⟨j,av⟩:=List.getElem?_of_mem aa
  have c9:j<vs.length:=by have:=e2 av;omega
  exact (ah j x _ av (List.getElem?_eq_getElem c9)).y9 (List.all_eq_true.1 a5 x aa)
 ·refine h.y9 ?_
  cases x<;>first|exact a5|exact absurd ⟨_,rfl⟩ b1
end
def cR:List Nat→Nat→Option Nat
 | [],_=>none
 | x::l,r=>if x=r then some 0 else (cR l r).map (· + 1)
theorem Hh : ∀ {l:List Nat} {r j:Nat},cR l r=some j→l[j]? = some r
 | x::l,r,j,h=>by
  unfold cR at h
  split at h
  ·simp at h;subst h;simp [*]
  ·rw [Option.map_eq_some_iff] at h
   obtain ⟨i,af,rfl⟩:=h
   simpa using Hh af
theorem Hi : ∀ {l:List Nat} {r j:Nat},l.Nodup→l[j]? = some r→cR l r=some j
 | x::l,r,j,a5,h=>by
  rw [List.nodup_cons] at a5
  unfold cR
  cases j with
  | zero=>simp at h;simp [h]
  | succ j =>
   simp at h
   have:x≠r:=by rintro rfl;exact a5.1 (List.mem_of_getElem? h)
   rw [if_neg this,Hi a5.2 h];rfl
def w5 (dm:Nat)(h9:List ap)(bC:eU→Bool)(x b8:al):Prop :=
 (b8=x∧x.g8=true)∨(∃c sz,x = .gX dm c sz none∧b8 = .isl sz [])∨ ∃k bw len I,(x = .bp dm k bw len∨ ∃c sz hv,k=hv+c∧bw=0∧x = .gX dm c sz (some (hv,len)))∧cz (some h9) k=some I∧bC I.bY=true∧bw+len≤I.es.length ∧
   gL ((I.es.drop bw).take len)∧b8 = .isl I.sz ((I.es.drop bw).take len)
def xu (dm:Nat)(h9:List ap)(bC:eU→Bool)(sz:Nat)(es e9:List (List al)):Prop :=
 e9.length=es.length∧(∀e∈e9,e.length=sz)∧ ∀(j:Nat) x b8,es.flatten[j]? = some x→e9.flatten[j]? = some b8→w5 dm h9 bC x b8
def jG (aE:Nat→Option (List ap))(bQ:Nat→Option Nat)(aA:ft)(bC:eU→Bool):p2→al→Option (al×List Prop)
 | .id,x=>if x.g8 then some (x,[]) else
  match x with
  | .ref r k i off=>match bQ r with
   | some j=>some (.ref j k i off,[])
   | none=>none
  | .bp r k bw len=>match bQ r with
   | some j=>some (.bp j k bw len,[])
   | none=>none
  | .gX r c sz h=>match bQ r with
   | some j=>some (.gX j c sz h,[])
   | none=>none
  | _=>none
 | .lU sz,.dJ=>some (.isl sz [],[])
 | .lU sz,.gW=>some (.isl sz [],[])
 | .eZ e9,.bp r k bw len=>match cz (aE r) k with
  | some I=>if bC I.bY && (bQ r).isNone then some (.isl I.sz e9,[e9=(I.es.drop bw).take len,bw+len≤I.es.length,gL e9]) else none
  | none=>none
 | .h3,_=>some (.dead,[])
 | .dH y,x=>if x.g8 then some (y,[x=y]) else none
 | .len n,.bp r k bw len=>match bQ r with
  | some j=>some (.bp j k bw n,[len=n])
  | none=>none
 | .Ft sz,x=>match x with
  | .gv=>some (.ig sz none,[])
  | .dg zB [c] 0 0=>if zB=sz then some (.ig sz (some c),[]) else none
  | _=>none
 | .at_ j i n,.bp r k bw len=>some (.bp j i bw n,[aA j i=some (r,k),len=n])
 | .at_ j i _,.ref r k x y=>some (.ref j i x y,[aA j i=some (r,k)])
 | .view dm I e9,.bp r k bw len=>match aE r,aE dm with
  | some row,some h9=>if (bQ r).isNone && (bQ dm).isNone then
   some (.isl I.sz e9,[cz (some row) k=some I,bC I.bY=true,bw+len≤I.es.length,gL e9,xu dm h9 bC I.sz ((I.es.drop bw).take len) e9]) else none
  | _,_=>none
 | _,_=>none
def jH {α β:Type}(f:α→β→Option (β×List Prop)):List α→List β→Option (List β×List Prop)
 | [],[]=>some ([],[])
 | a::l,b::m=>match f a b,jH f l m with
  | some (iC,bZ),some (a8,a6)=>some (iC::a8,bZ++a6)
  | _,_=>none
 | _,_=>none
def l6 (aE:Nat→Option (List ap))(bQ:Nat→Option Nat)(aA:ft)(bC:eU→Bool):uT→al→Option (al×List Prop)
 | .c6 c,x=>if x.v8 then (match c with | .id=>some (x,[]) | .h3=>some (.dead,[]) | .dH y=>some (y,[x=y])|c=>jG aE bQ aA bC c x) else jG aE bQ aA bC c x
 | .agg l,.agg c=>match jH (jG aE bQ aA bC) l c with
  | some (c5,ab)=>some (.agg c5,ab)
  | none=>none
 | .ptr l,.ref r k i off=>match cz (aE r) k with
  | some I=>match I.es with
   | [c]=>if bC I.bY && (bQ r).isNone then
    match jH (jG aE bQ aA bC) l c with
    | some (c5,ab)=>some (.dg I.sz [c5] i off,ab++[gL [c5]])
    | none=>none
    else none
   | _=>none
  | none=>none
 | .DY l,x=>match x with
  | .ref r k 0 0=>match cz (aE r) k with
   | some I=>match I.es with
    | [c]=>if bC I.bY && (bQ r).isNone then
     match jH (jG aE bQ aA bC) l c with
     | some (c5,ab)=>some (.ig I.sz (some c5),ab++[gL [c5]])
     | none=>none
     else none
    | _=>none
   | none=>none
  | _=>none
 | _,_=>none
def lE (aE:Nat→Option (List ap))(bQ:Nat→Option Nat)(aA:ft)(bC:eU→Bool):jy→al→Option (al×List Prop)
 | .bH c,x=>if x.Jx then (match c with | .c6 .id=>some (x,[])|c=>l6 aE bQ aA bC c x) else l6 aE bQ aA bC c x
 | .comp l,.dx c=>match jH (l6 aE bQ aA bC) l c with
  | some (c5,ab)=>some (.dx c5,ab)
  | none=>none
 | .comp l,.fn f c=>match jH (l6 aE bQ aA bC) l c with
  | some (c5,ab)=>some (.fn f c5,ab)
  | none=>none
 | _,_=>none
def qm (row:List ap):Prop:= ∀I∈row,gL I.es∧I.bY = .live
def nV (row:List ap):Prop:= ∀I∈row,I.bY = .live∨I.bY = .gone
def lQ (bQ:Nat→Option Nat):al→al
 | .ref r k i off=>match bQ r with|some j=> .ref j k i off|none=> .dead
 | .bp r k bw len=>match bQ r with|some j=> .bp j k bw len|none=> .dead
 | .gX r c sz h=>match bQ r with|some j=> .gX j c sz h|none=> .dead
 | x=>if x.g8 then x else .dead
def i5 (bQ:Nat→Option Nat)(I:ap):ap:={I with es:=I.es.map fun e=>e.map (lQ bQ)}
def hp (aE:Nat→Option (List ap))(bQ:Nat→Option Nat)(aA:ft)(bC:eU→Bool):gN→List ap→Option (List ap×List Prop)
 | .pure,row=>some (row,[qm row])
 | .dH c3,row=>some (c3,[row=c3,qm c3])
 | .bU c3,row=>some (c3,[c3=row.map (i5 bQ),nV row])
 | .box l,[I]=>match I.es with
  | [c]=>if I.bY = .live then match jH (jG aE bQ aA bC) l c with
   | some (c5,ab)=>some ([{I with es:=[c5]}],ab)
   | none=>none
   else none
  | _=>none
 | _,_=>none
structure p7 (q:al→Prop) (bC:eU→Bool):Prop extends Down q where
 all : ∀k,bC k=true→ ∀x,q x
theorem qM (bC:eU→Bool):p7 jZ bC:={toDown:=RI,all:=fun _ _ _=>trivial}
theorem S3:p7 cx (fun _=>false):={toDown:=RK,all:=fun _ h=>by simp at h}
structure kE (s:S) (aA:ft) (bQ:Nat→Option Nat) (bC:eU→Bool):Prop where
 af : ∀r j,bQ r=some j→ ∀k,aA j k=some (r,k)
 a5 : ∀r,bQ r=none→ ∀k I,s.ab r k=some I→bC I.bY=true→ ∀j i,aA j i≠some (r,k)
section
variable {g:G} {s:S} {aj:ef} {w:World} {aA:ft} {bQ:Nat→Option Nat} {bC:eU→Bool} {q:al→Prop}
theorem yH {α β:Type}(f:α→β→Option (β×List Prop)): ∀(l:List α) (m a8:List β) (ab:List Prop),jH f l m=some (a8,ab) →
 a8.length=m.length∧l.length=m.length∧ ∀(j:Nat) b iC,m[j]? = some b→a8[j]? = some iC→ ∃x bD,l[j]? = some x∧f x b=some (iC,bD)∧ ∀p∈bD,p∈ab
 | [],[],a8,ab,h=>by
  simp [jH] at h;obtain ⟨rfl,rfl⟩:=h
  exact ⟨rfl,rfl,fun j b iC aP=>by simp at aP⟩
 | [],_::_,_,_,h=>by simp [jH] at h
 | _::_,[],_,_,h=>by simp [jH] at h
 | x::l,b::m,a8,ab,h=>by
  simp only [jH] at h
  split at h
  ·rename_i iC bZ fA a6 o J
   simp only [Option.some.injEq,Prod.mk.injEq] at h
   obtain ⟨rfl,rfl⟩:=h
   obtain ⟨ar,ay,bR⟩:=yH f l m fA a6 J
   refine ⟨by simp [ar],by simp [ay],fun j c c5 aL r5=> ?_⟩
   cases j with
   | zero =>
    simp at aL r5;subst aL;subst r5
    exact ⟨x,bZ,rfl,o,fun p ae=>by simp [ae]⟩
   | succ j =>
    simp at aL r5
    obtain ⟨y,bD,f1,f2,f3⟩:=bR j c c5 aL r5
    exact ⟨y,bD,by simpa using f1,f2,fun p ae=>by simp [f3 p ae]⟩
  ·simp at h
theorem Da (de:gw g s aj w)(H:kE s aA bQ bC)(bq:p7 q bC){c:p2}{x b8:al}{ab:List Prop}(h:jG s.aE bQ aA bC c x=some (b8,ab))(a3:∀p∈ab,p)
 (a1:q x) {v:Value} (ah:Rel w (s.ok g aj w) s.aK (s.aQ aj) x v):gb s aA bC q x b8:=by
 have hC : ∀ {r k bw len:Nat},x = .bp r k bw len→s.aK r k:=by
  intro r k bw len e;subst e;cases ah<;>assumption
 cases c with
 | id =>
  simp only [jG] at h
  split at h
  ·rename_i a5
   simp only [Option.some.injEq,Prod.mk.injEq] at h
   obtain ⟨rfl,rfl⟩:=h
   exact .pure (ah.ui a5) a1
  ·split at h
   ·rename_i r k i off _
    split at h
    ·rename_i j av
     simp only [Option.some.injEq,Prod.mk.injEq] at h
     obtain ⟨rfl,rfl⟩:=h
     exact .ref i off (H.af r j av k) (by cases ah<;>assumption)
    ·simp at h
   ·rename_i r k bw len _
    split at h
    ·rename_i j av
     simp only [Option.some.injEq,Prod.mk.injEq] at h
     obtain ⟨rfl,rfl⟩:=h
     exact .bp bw len (H.af r j av k) (hC rfl)
    ·simp at h
   ·rename_i r c sz eK _
    split at h
    ·rename_i j av
     simp only [Option.some.injEq,Prod.mk.injEq] at h
     obtain ⟨rfl,rfl⟩:=h
     exact .gX eK (fun k=>H.af r j av _)
    ·simp at h
   ·simp at h
 | lU sz =>
  cases x<;>simp [jG] at h
  ·obtain ⟨rfl,rfl⟩:=h
   exact .dJ sz
  ·obtain ⟨rfl,rfl⟩:=h
   exact .gW sz
 | eZ e9 =>
  cases x<;>simp only [jG,reduceCtorEq] at h
  rename_i r k bw len
  split at h
  ·rename_i I ad
   split at h
   ·rename_i aL
    simp only [Bool.and_eq_true,Option.isNone_iff_eq_none] at aL
    simp only [Option.some.injEq,Prod.mk.injEq] at h
    obtain ⟨rfl,rfl⟩:=h
    have o:e9=(I.es.drop bw).take len:=a3 _ (by simp)
    have J:bw+len≤I.es.length:=a3 _ (by simp)
    have ao:gL e9:=a3 _ (by simp)
    have cW:s.ab r k=some I:=ad
    have hlen : ∀e∈I.es,e.length=I.sz:=by
     have ev:=de.obj r k I cW
     cases ae:aj r k with
     | none=>rw [ae] at ev;simp only [hz] at ev;rw [ev];simp
     | some q=>rw [ae] at ev;obtain ⟨_,_,_,_,e,_⟩:=ev;exact e
    refine .isl cW aL.1 (H.a5 r aL.2 k I cW aL.1) J ao ?_ ?_ ?_
    ·rw [o];exact fun e he=>hlen e (List.mem_of_mem_drop (List.mem_of_mem_take he))
    ·rw [o];simp;omega
    ·intro j y j4 aN mP
     rw [o] at mP
     rw [aN] at mP;simp at mP;subst mP
     rw [o] at ao
     obtain ⟨e,he,w6⟩:=py aN
     exact .pure (ao e he y w6) (bq.all _ aL.1 y)
   ·simp at h
  ·simp at h
 | h3 =>
  simp only [jG,Option.some.injEq,Prod.mk.injEq] at h
  obtain ⟨rfl,rfl⟩:=h
  exact .dead x
 | dH y =>
  simp only [jG] at h
  split at h
  ·rename_i a5
   simp only [Option.some.injEq,Prod.mk.injEq] at h
   obtain ⟨rfl,rfl⟩:=h
   have e:x=y:=a3 _ (by simp)
   subst e
   exact .pure (ah.ui a5) a1
  ·simp at h
 | len n =>
  cases x<;>simp only [jG,reduceCtorEq] at h
  rename_i r k bw len
  split at h
  ·rename_i j av
   simp only [Option.some.injEq,Prod.mk.injEq] at h
   obtain ⟨rfl,rfl⟩:=h
   have e:len=n:=a3 _ (by simp)
   subst e
   exact .bp bw len (H.af r j av k) (hC rfl)
  ·simp at h
 | at_ j i n =>
  cases x<;>simp only [jG,reduceCtorEq] at h
  ·rename_i r k x y
   simp only [Option.some.injEq,Prod.mk.injEq] at h
   obtain ⟨rfl,rfl⟩:=h
   exact .ref x y (a3 _ (List.mem_cons_self)) (by cases ah<;>assumption)
  ·rename_i r k bw len
   simp only [Option.some.injEq,Prod.mk.injEq] at h
   obtain ⟨rfl,rfl⟩:=h
   have e:len=n:=a3 _ (by simp)
   subst e
   exact .bp bw len (a3 _ (List.mem_cons_self)) (hC rfl)
 | view dm I e9 =>
  cases x<;>simp only [jG,reduceCtorEq] at h
  rename_i r k bw len
  split at h
  ·rename_i row h9 cE RN
   split at h
   ·rename_i aL
    simp only [Bool.and_eq_true,Option.isNone_iff_eq_none] at aL
    simp only [Option.some.injEq,Prod.mk.injEq] at h
    obtain ⟨rfl,rfl⟩:=h
    have o:cz (some row) k=some I:=a3 _ (by simp)
    have J:bC I.bY=true:=a3 _ (by simp)
    have ao:bw+len≤I.es.length:=a3 _ (by simp)
    have aO:gL e9:=a3 _ (by simp)
    have aM:xu dm h9 bC I.sz ((I.es.drop bw).take len) e9:=a3 _ (by simp)
    have cW:s.ab r k=some I:=by unfold S.ab;rw [cE];exact o
    obtain ⟨uV,pq,Ut⟩:=aM
    refine .isl cW J (H.a5 r aL.1 k I cW J) ao aO pq (by rw [uV];simp;omega) fun j y j4 aN mP=> ?_
    rcases Ut j y j4 aN mP with ⟨rfl,a5⟩|⟨cq,Ki,rfl,rfl⟩|⟨jz,zG,zo,p,w7,ar,ay,bR,dc,rfl⟩
    ·obtain ⟨e,he,w6⟩:=py mP
     exact .pure (aO e he j4 w6) (bq.all _ J _)
    ·exact .kK _ _ _
    ·have lO:s.ab dm jz=some p:=by unfold S.ab;rw [RN];exact ar
     have hlen : ∀e∈p.es,e.length=p.sz:=by
      have ev:=de.obj dm jz p lO
      cases ae:aj dm jz with
      | none=>rw [ae] at ev;simp only [hz] at ev;rw [ev];simp
      | some q=>rw [ae] at ev;obtain ⟨_,_,_,_,e,_⟩:=ev;exact e
     have Jy:gb s aA bC q (.bp dm jz zG zo) (.isl p.sz ((p.es.drop zG).take zo)):=by
      refine .isl lO ay (H.a5 dm aL.2 jz p lO ay) bR dc (fun e he=>hlen e (List.mem_of_mem_drop (List.mem_of_mem_take he))) (by simp;omega) fun j z W1 b6 sd=> ?_
      rw [b6] at sd;simp at sd;subst sd
      obtain ⟨e,he,S4⟩:=py b6
      exact .pure (dc e he z S4) (bq.all _ ay _)
     rcases w7 with rfl|⟨c6,Wm,hv,rfl,rfl,rfl⟩
     ·exact Jy
     ·exact .lG Jy
   ·simp at h
  ·simp at h
 | Ft sz =>
  simp only [jG] at h
  split at h
  ·simp only [Option.some.injEq,Prod.mk.injEq] at h
   obtain ⟨rfl,rfl⟩:=h
   exact .y8 _
  ·split at h
   ·rename_i e;subst e
    simp only [Option.some.injEq,Prod.mk.injEq] at h
    obtain ⟨rfl,rfl⟩:=h
    exact .ig (.pure (ah.ui rfl) a1)
   ·simp at h
  ·simp at h
theorem vI (de:gw g s aj w)(H:kE s aA bQ bC)(bq:p7 q bC){l:List p2}{c c5:List al}{ab:List Prop}(h:jH (jG s.aE bQ aA bC) l c=some (c5,ab))(a3:∀p∈ab,p)
 (a1 : ∀x∈c,q x) {vs:List Value} (aG:vs.length=c.length) (ah : ∀(j:Nat) x u,c[j]? = some x→vs[j]? = some u→Rel w (s.ok g aj w) s.aK (s.aQ aj) x u) :
 c5.length=c.length∧ ∀(j:Nat) x b8,c[j]? = some x→c5[j]? = some b8→gb s aA bC q x b8:=by
 obtain ⟨ar,ay,bR⟩:=yH _ l c c5 ab h
 refine ⟨ar,fun j x b8 aa cO=> ?_⟩
 obtain ⟨y,bD,f1,f2,f3⟩:=bR j x b8 aa cO
 have c9:j<vs.length:=by have:=e2 aa;omega
 exact Da de H bq f2 (fun p ae=>a3 p (f3 p ae)) (a1 x (List.mem_of_getElem? aa)) (ah j x _ aa (List.getElem?_eq_getElem c9))
theorem Db (de:gw g s aj w)(H:kE s aA bQ bC)(bq:p7 q bC){c:uT}{x b8:al}{ab:List Prop}(h:l6 s.aE bQ aA bC c x=some (b8,ab))(a3:∀p∈ab,p)
 (a1:q x) {v:Value} (ah:Rel w (s.ok g aj w) s.aK (s.aQ aj) x v):gb s aA bC q x b8:=by
 cases c with
 | c6 c =>
  simp only [l6] at h
  split at h
  ·rename_i a5
   split at h
   ·simp only [Option.some.injEq,Prod.mk.injEq] at h
    obtain ⟨rfl,rfl⟩:=h
    exact .pure (ah.y9 a5) a1
   ·simp only [Option.some.injEq,Prod.mk.injEq] at h
    obtain ⟨rfl,rfl⟩:=h
    exact .dead _
   ·simp only [Option.some.injEq,Prod.mk.injEq] at h
    obtain ⟨rfl,rfl⟩:=h
    have e:=a3 _ (List.mem_singleton.2 rfl)
    subst e
    exact .pure (ah.y9 a5) a1
   ·exact Da de H bq h a3 a1 ah
  ·exact Da de H bq h a3 a1 ah
 | agg l =>
  cases x<;>simp only [l6,reduceCtorEq] at h
  rename_i c
  split at h
  ·rename_i c5 lm aL
   simp only [Option.some.injEq,Prod.mk.injEq] at h
   obtain ⟨rfl,rfl⟩:=h
   obtain ⟨vs,rfl,aG,-,w8⟩:=ah.vS
   obtain ⟨ar,ay⟩:=vI de H bq aL a3 (fun y aN=>bq.agg _ _ a1 aN) aG w8
   exact .agg ar ay
  ·simp at h
 | ptr l =>
  cases x<;>simp only [l6,reduceCtorEq] at h
  rename_i r k i off
  split at h
  ·rename_i I ad
   split at h
   ·rename_i c fY
    split at h
    ·rename_i aL
     simp only [Bool.and_eq_true,Option.isNone_iff_eq_none] at aL
     split at h
     ·rename_i c5 lm hd
      simp only [Option.some.injEq,Prod.mk.injEq] at h
      obtain ⟨rfl,rfl⟩:=h
      have cW:s.ab r k=some I:=ad
      have ev:=de.obj r k I cW
      cases ae:aj r k with
      | none=>rw [ae] at ev;simp only [hz] at ev;rw [fY] at ev;simp at ev
      | some q =>
       obtain ⟨b,m⟩:=q
       rw [ae] at ev
       obtain ⟨bS,dv,g1,g2,g3,g4⟩:=ev
       have D4:c.length=I.sz:=g3 c (by rw [fY];simp)
       have h1:I.es.flatten=c:=by rw [fY];simp
       have hcs : ∀j:Nat,j<c.length→ ∃u,bS[j]? = some u∧Rel w (s.ok g aj w) s.aK (s.aQ aj) c[j]! u:=by
        intro j av
        obtain ⟨u,kD,-,fl⟩:=g4 j c[j] (by rw [h1];exact List.getElem?_eq_getElem av)
        exact ⟨u,kD,by rw [getElem!_pos c j av];exact fl⟩
       obtain ⟨ar,ay⟩:=vI (vs:=(List.range c.length).map fun j=>(bS[j]?).getD undef) de H bq hd (fun p ae=>a3 p (by simp [ae])) (fun y _=>bq.all _ aL.1 y) (by simp) (by
        intro j y u aN hu
        have av:=e2 aN
        rw [List.getElem?_map,List.getElem?_range av] at hu
        simp only [Option.map_some,Option.some.injEq] at hu
        obtain ⟨nK,kD,fl⟩:=hcs j av
        rw [kD] at hu;simp at hu;subst hu
        rw [List.getElem?_eq_getElem av] at aN;simp at aN;subst aN
        rw [getElem!_pos c j av] at fl;exact fl)
       have pK:gL [c5]:=a3 _ (by simp)
       refine .dg i off cW aL.1 (H.a5 r aL.2 k I cW aL.1) (by rw [fY];simp) pK (by simp;omega) (by rw [fY];rfl) ?_
       ·intro j y j4 aN mP
        rw [h1] at aN
        simp only [List.flatten_cons,List.flatten_nil,List.append_nil] at mP
        exact ay j y j4 aN mP
     ·simp at h
    ·simp at h
   ·simp at h
  ·simp at h
 | DY l =>
  simp only [l6] at h
  split at h
  ·rename_i r k
   split at h
   ·rename_i I ad
    split at h
    ·rename_i c fY
     split at h
     ·rename_i aL
      simp only [Bool.and_eq_true,Option.isNone_iff_eq_none] at aL
      split at h
      ·rename_i c5 lm hd
       simp only [Option.some.injEq,Prod.mk.injEq] at h
       obtain ⟨rfl,rfl⟩:=h
       have cW:s.ab r k=some I:=ad
       have ev:=de.obj r k I cW
       cases ae:aj r k with
       | none=>rw [ae] at ev;simp only [hz] at ev;rw [fY] at ev;simp at ev
       | some q =>
        obtain ⟨b,m⟩:=q
        rw [ae] at ev
        obtain ⟨bS,dv,g1,g2,g3,g4⟩:=ev
        have D4:c.length=I.sz:=g3 c (by rw [fY];simp)
        have h1:I.es.flatten=c:=by rw [fY];simp
        have hcs : ∀j:Nat,j<c.length→ ∃u,bS[j]? = some u∧Rel w (s.ok g aj w) s.aK (s.aQ aj) c[j]! u:=by
         intro j av
         obtain ⟨u,kD,-,fl⟩:=g4 j c[j] (by rw [h1];exact List.getElem?_eq_getElem av)
         exact ⟨u,kD,by rw [getElem!_pos c j av];exact fl⟩
        obtain ⟨ar,ay⟩:=vI (vs:=(List.range c.length).map fun j=>(bS[j]?).getD undef) de H bq hd (fun p ae=>a3 p (by simp [ae])) (fun y _=>bq.all _ aL.1 y) (by simp) (by
         intro j y u aN hu
         have av:=e2 aN
         rw [List.getElem?_map,List.getElem?_range av] at hu
         simp only [Option.map_some,Option.some.injEq] at hu
         obtain ⟨nK,kD,fl⟩:=hcs j av
         rw [kD] at hu;simp at hu;subst hu
         rw [List.getElem?_eq_getElem av] at aN;simp at aN;subst aN
         rw [getElem!_pos c j av] at fl;exact fl)
        have pK:gL [c5]:=a3 _ (by simp)
        refine .ig (.dg 0 0 cW aL.1 (H.a5 r aL.2 k I cW aL.1) (by rw [fY];simp) pK (by simp;omega) (by rw [fY];rfl) ?_)
        ·intro j y j4 aN mP
         rw [h1] at aN
         simp only [List.flatten_cons,List.flatten_nil,List.append_nil] at mP
         exact ay j y j4 aN mP
      ·simp at h
     ·simp at h
    ·simp at h
   ·simp at h
  ·simp at h
theorem vO (de:gw g s aj w)(H:kE s aA bQ bC)(bq:p7 q bC){c:jy}{x b8:al}{ab:List Prop}(h:lE s.aE bQ aA bC c x=some (b8,ab))(a3:∀p∈ab,p)
 (a1:q x) {v:Value} (ah:Rel w (s.ok g aj w) s.aK (s.aQ aj) x v):gb s aA bC q x b8:=by
 have key : ∀(l:List uT) (c c5:List al) (lm:List Prop) (vs:List Value),jH (l6 s.aE bQ aA bC) l c=some (c5,lm)→(∀p∈lm,p)→(∀x∈c,q x)→vs.length=c.length →
  (∀(j:Nat) x u,c[j]? = some x→vs[j]? = some u→Rel w (s.ok g aj w) s.aK (s.aQ aj) x u)→c5.length=c.length∧ ∀(j:Nat) x b8,c[j]? = some x→c5[j]? = some b8→gb s aA bC q x b8:=by
  intro l c c5 lm vs h a3 a1 aG ah
  obtain ⟨ar,ay,bR⟩:=yH _ l c c5 lm h
  refine ⟨ar,fun j x b8 aa cO=> ?_⟩
  obtain ⟨y,bD,f1,f2,f3⟩:=bR j x b8 aa cO
  have c9:j<vs.length:=by have:=e2 aa;omega
  exact Db de H bq f2 (fun p ae=>a3 p (f3 p ae)) (a1 x (List.mem_of_getElem? aa)) (ah j x _ aa (List.getElem?_eq_getElem c9))
 cases c with
 | bH c =>
  simp only [lE] at h
  split at h
  ·rename_i a5
   split at h
   ·simp only [Option.some.injEq,Prod.mk.injEq] at h
    obtain ⟨rfl,rfl⟩:=h
    exact .pure (ah.RM a5) a1
   ·exact Db de H bq h a3 a1 ah
  ·exact Db de H bq h a3 a1 ah
 | comp l =>
  cases x<;>simp only [lE,reduceCtorEq] at h
  ·rename_i c
   split at h
   ·rename_i c5 lm aL
    simp only [Option.some.injEq,Prod.mk.injEq] at h
    obtain ⟨rfl,rfl⟩:=h
    obtain ⟨vs,rfl,aG,w8⟩:=ah.tT
    obtain ⟨ar,ay⟩:=key l c c5 lm vs aL a3 (fun y aN=>bq.dx _ _ a1 aN) aG w8
    exact .dx ar ay
   ·simp at h
  ·rename_i f c
   split at h
   ·rename_i c5 lm aL
    simp only [Option.some.injEq,Prod.mk.injEq] at h
    obtain ⟨rfl,rfl⟩:=h
    obtain ⟨vs,rfl,aG,w8⟩:=ah.yZ
    obtain ⟨ar,ay⟩:=key l c c5 lm vs aL a3 (fun y aN=>bq.fn _ _ _ a1 aN) aG w8
    exact .fn ar ay
   ·simp at h
theorem Jz (de:gw g s aj w)(H:kE s aA bQ bC){r:Nat}{iq:Nat→Nat}{row:List ap}(cE:∀k I,cz (some row) k=some I→s.ab r (iq k)=some I)
 (a1 : ∀k I,cz (some row) k=some I→ ∀e∈I.es,∀x∈e,q x) :
 ∀(k:Nat) bD,cz (some (row.map (i5 bQ))) k=some bD→ ∃I,cz (some row) k=some I∧me s aA bC q I bD:=by
 intro k bD cW
 rw [iG,List.getElem?_map] at cW
 cases aV:row[k]? with
 | none=>rw [aV] at cW;simp at cW
 | some I =>
  rw [aV] at cW
  simp only [Option.map_some,Option.bind_some] at cW
  split at cW
  ·simp at cW
  ·rename_i dd
   simp only [Option.some.injEq] at cW
   subst cW
   have ad:cz (some row) k=some I:=by rw [iG,aV,Option.bind_some,if_neg (by simpa [i5] using dd)]
   have bT:s.ab r (iq k)=some I:=cE k I ad
   refine ⟨I,ad,?_⟩
   have ev:=de.obj r (iq k) I bT
   have hlen : ∀e∈I.es,e.length=I.sz:=by
    cases ae:aj r (iq k) with
    | none=>rw [ae] at ev;simp only [hz] at ev;rw [ev];simp
    | some q=>rw [ae] at ev;obtain ⟨_,_,_,_,e,_⟩:=ev;exact e
   refine ⟨rfl,.inl rfl,by simp [i5],?_,fun j x b8 aa cO=> ?_⟩
   ·intro e he
    simp only [i5,List.mem_map] at he
    obtain ⟨dy,jX,rfl⟩:=he
    simpa using hlen dy jX
   ·simp only [i5] at cO
    rw [map_flatten,List.getElem?_map,aa] at cO
    simp only [Option.map_some,Option.some.injEq] at cO
    subst cO
    obtain ⟨e,he,n5⟩:=py aa
    have S5:=a1 k I ad e he x n5
    cases ae:aj r (iq k) with
    | none=>rw [ae] at ev;simp only [hz] at ev;rw [ev] at aa;simp at aa
    | some p6 =>
     obtain ⟨b,m⟩:=p6
     rw [ae] at ev
     obtain ⟨c,dv,f1,f2,f3,f4⟩:=ev
     obtain ⟨u,kD,nJ,fl⟩:=f4 j x aa
     cases x with
     | ref bJ jz kZ Sk =>
      cases b1:bQ bJ with
      | none=>simp only [lQ,b1];exact .dead _
      | some z9=>simp only [lQ,b1];exact .ref kZ Sk (H.af _ _ b1 _) (by cases fl<;>assumption)
     | bp bJ jz zG zo =>
      cases b1:bQ bJ with
      | none=>simp only [lQ,b1];exact .dead _
      | some z9=>simp only [lQ,b1];exact .bp zG zo (H.af _ _ b1 _) (by cases fl<;>assumption)
     | gX bJ cq Ki J =>
      cases b1:bQ bJ with
      | none=>simp only [lQ,b1];exact .dead _
      | some z9=>simp only [lQ,b1];exact .gX J (fun k=>H.af _ _ b1 _)
     | _ =>
      simp only [lQ]
      split
      ·rename_i a5;exact .pure (fl.ui a5) S5
      ·exact .dead _
theorem yI (de:gw g s aj w)(H:kE s aA bQ bC)(bq:p7 q bC){c:gN}{r:Nat}{iq:Nat→Nat}{row c3:List ap}{ab:List Prop}(cE:∀k I,cz (some row) k=some I→s.ab r (iq k)=some I)
 (h:hp s.aE bQ aA bC c row=some (c3,ab)) (a3 : ∀p∈ab,p) (a1 : ∀k I,cz (some row) k=some I→ ∀e∈I.es,∀x∈e,q x) :
 c3.length=row.length∧(∀k I,cz (some row) k=some I→I.bY = .live) ∧
 ∀(k:Nat) bD,cz (some c3) k=some bD→ ∃I,cz (some row) k=some I∧me s aA bC q I bD:=by
 have hlen : ∀k I,cz (some row) k=some I→ ∀e∈I.es,e.length=I.sz:=by
  intro k I ad
  have cW:s.ab r (iq k)=some I:=cE k I ad
  have ev:=de.obj r (iq k) I cW
  cases ae:aj r (iq k) with
  | none=>rw [ae] at ev;simp only [hz] at ev;rw [ev];simp
  | some q=>rw [ae] at ev;obtain ⟨_,_,_,_,e,_⟩:=ev;exact e
 have pK:qm row→(∀k I,cz (some row) k=some I→I.bY = .live) ∧
  ∀(k:Nat) bD,cz (some row) k=some bD→ ∃I,cz (some row) k=some I∧me s aA bC q I bD:=by
  intro ae
  have n1 : ∀k I,cz (some row) k=some I→I∈row:=by
   intro k I ad
   unfold cz at ad
   simp only at ad
   split at ad
   ·rename_i bD cW
    split at ad
    ·simp at ad
    ·simp at ad;subst ad;exact List.mem_of_getElem? cW
   ·simp at ad
  refine ⟨fun k I ad=>(ae I (n1 k I ad)).2,fun k I ad=>⟨I,ad,rfl,.inl rfl,rfl,hlen k I ad,fun j x b8 aa cO=> ?_⟩⟩
  rw [aa] at cO;simp at cO;subst cO
  obtain ⟨e,he,n5⟩:=py aa
  exact .pure ((ae I (n1 k I ad)).1 e he x n5) (a1 k I ad e he x n5)
 cases c with
 | pure =>
  simp only [hp,Option.some.injEq,Prod.mk.injEq] at h
  obtain ⟨rfl,rfl⟩:=h
  exact ⟨rfl,pK (a3 _ (by simp))⟩
 | dH a7 =>
  simp only [hp,Option.some.injEq,Prod.mk.injEq] at h
  obtain ⟨rfl,rfl⟩:=h
  have e:row=a7:=a3 _ (by simp)
  subst e
  exact ⟨rfl,pK (a3 _ (by simp))⟩
 | bU a7 =>
  simp only [hp,Option.some.injEq,Prod.mk.injEq] at h
  obtain ⟨rfl,rfl⟩:=h
  have e:a7=row.map (i5 bQ):=a3 _ (by simp)
  have Ev:nV row:=a3 _ (by simp)
  subst e
  refine ⟨by simp,fun k I ad=>by
   unfold cz at ad
   simp only at ad
   split at ad
   ·rename_i bD cW
    split at ad
    ·simp at ad
    ·rename_i dd
     simp at ad;subst ad
     exact (Ev _ (List.mem_of_getElem? cW)).resolve_right dd
   ·simp at ad,Jz de H cE a1⟩
 | rx a7=>cases row with
  | nil=>simp [hp] at h
  | cons I l=>cases l<;>simp [hp] at h
 | drop=>cases row with
  | nil=>simp [hp] at h
  | cons I l=>cases l<;>simp [hp] at h
 | box l =>
  match row,h with
  | [I],h =>
   simp only [hp] at h
   split at h
   ·rename_i c fY
    split at h
    ·rename_i lN
     split at h
     ·rename_i c5 lm aL
      simp only [Option.some.injEq,Prod.mk.injEq] at h
      obtain ⟨rfl,rfl⟩:=h
      have h0:cz (some [I]) 0=some I:=by rw [j8];simp [lN]
      refine ⟨rfl,fun k p ae=> ?_,fun k p ae=> ?_⟩
      ·rw [j8] at ae
       split at ae
       ·simp at ae;subst ae;exact lN
       ·simp at ae
      ·rw [j8] at ae
       split at ae
       ·rename_i se
        obtain ⟨rfl,-⟩:=se
        simp only [Option.some.injEq] at ae;subst ae
        refine ⟨I,h0,?_⟩
        have cW:s.ab r (iq 0)=some I:=cE 0 I h0
        have ev:=de.obj r (iq 0) I cW
        cases iJ:aj r (iq 0) with
        | none=>rw [iJ] at ev;simp only [hz] at ev;rw [fY] at ev;simp at ev
        | some q =>
         obtain ⟨b,m⟩:=q
         rw [iJ] at ev
         obtain ⟨bS,dv,g1,g2,g3,g4⟩:=ev
         have D4:c.length=I.sz:=g3 c (by rw [fY];simp)
         have h1:I.es.flatten=c:=by rw [fY];simp
         obtain ⟨ar,ay⟩:=vI (vs:=(List.range c.length).map fun j=>(bS[j]?).getD undef) de H bq aL a3 (fun y aN=>a1 0 I h0 c (by rw [fY];simp) y aN) (by simp) (by
          intro j y u aN hu
          have av:=e2 aN
          rw [List.getElem?_map,List.getElem?_range av] at hu
          simp only [Option.map_some,Option.some.injEq] at hu
          obtain ⟨nK,kD,-,fl⟩:=g4 j y (by rw [h1];exact aN)
          rw [kD] at hu;simp at hu;subst hu
          exact fl)
         refine ⟨rfl,.inl rfl,by simp [fY],by simp;omega,fun j x b8 aa cO=> ?_⟩
         rw [h1] at aa
         simp only [List.flatten_cons,List.flatten_nil,List.append_nil] at cO
         exact ay j x b8 aa cO
       ·simp at ae
     ·simp at h
    ·simp at h
   ·simp at h
  | [],h=>simp [hp] at h
  | _::_::_,h=>simp [hp] at h
end
end Go.VL
namespace Go.VL
set_option linter.unusedVariables false
set_option linter.unusedSimpArgs false
open Go
def yJ (P:Program)(f:FuncId):Prop:= ∃fn,P.funcs[f]? = some fn∧(fn.name == "runtime.NumGoroutine")=false∧fn.body.isSome=true
def Con (P:Program)(f:FuncId)(args:List al)(T:List (List ap))(r:al)(hG:List (List ap)):Prop:=yJ P f∧RJ P f args T r hG
def pL (k:eU):Bool:=k = .hR
def kd (_:eU):Bool:=true
def i2 (_:eU):Bool:=false
def Src.r:Src→Nat
 | .row r=>r
 | .ab r _ _=>r
def Src.has:Src→Nat→Nat→Prop
 | .row r,q,_=>q=r
 | .ab r k _,q,cU=>q=r∧cU=k
def Src.kC:Src→Nat→Nat
 | .row _,k=>k
 | .ab ..,_=>0
def kr (l:List Src):ft:=fun j i=>match l[j]? with
 | some (.row r)=>some (r,i)
 | some (.ab r k _)=>if i=0 then some (r,k) else none
 | none=>none
def mJ (n:Nat):List Src→Nat→Option Nat
 | [],_=>none
 | .row r::l,q=>if r=q then some n else mJ (n+1) l q
 | .ab .. :: l,q=>mJ (n+1) l q
def hD (n:Nat):List Src→ft
 | [],_,_=>none
 | .row r::l,q,k=>if q=r then some (n,k) else hD (n+1) l q k
 | .ab r cU _::l,q,k=>if q=r∧k=cU then some (n,0) else hD (n+1) l q k
def pM (l:List Src):Nat→Option Nat:=fun j=>match l[j]? with
 | some (.row r)=>some r
 | _=>none
def apart:Src→Src→Option (List Prop)
 | .ab r k _,.ab dw cU _=>if r=dw then some [k≠cU] else some []
 | a,b=>if a.r=b.r then none else some []
def y1 (a:Src):List Src→Option (List Prop)
 | []=>some []
 | b::l=>match apart a b,y1 a l with
  | some x,some y=>some (x++y)
  | _,_=>none
def za:List Src→Option (List Prop)
 | []=>some []
 | a::l=>match y1 a l,za l with
  | some x,some y=>some (x++y)
  | _,_=>none
def wN (l:List Src):Prop:=l.Pairwise fun a b=> ∀r k,¬(a.has r k∧b.has r k)
theorem P0 {a b:Src}{ab:List Prop}(h:apart a b=some ab)(a3:∀p∈ab,p): ∀r k,¬(a.has r k∧b.has r k):=by
 rintro r k ⟨o,J⟩
 have ah : ∀c:Src,c.has r k→c.r=r:=fun c aL=>by
  cases c with
  | row r0=>exact Eq.symm aL
  | ab r0 hv jB=>exact Eq.symm aL.1
 have e:=(ah a o).trans (ah b J).symm
 cases a with
 | row r0=>simp only [apart] at h;rw [if_pos e] at h;simp at h
 | ab r0 hv jB =>
  cases b with
  | row ax=>simp only [apart] at h;rw [if_pos e] at h;simp at h
  | ab ax j5 bZ =>
   simp only [apart] at h
   rw [if_pos (show r0=ax from e)] at h
   simp only [Option.some.injEq] at h
   subst h
   exact a3 _ (List.mem_singleton.2 rfl) (o.2.symm.trans J.2)
theorem HC {a:Src}: ∀ {l:List Src} {ab:List Prop},y1 a l=some ab→(∀p∈ab,p)→ ∀b∈l,∀r k,¬(a.has r k∧b.has r k)
 | [],_,_,_,_,aP=>by simp at aP
 | b::l,ab,h,a3,c,aL=>by
  simp only [y1] at h
  split at h
  ·rename_i x y o J
   simp only [Option.some.injEq] at h;subst h
   rcases List.mem_cons.1 aL with rfl|aL
   ·exact P0 o fun p ae=>a3 p (by simp [ae])
   ·exact HC J (fun p ae=>a3 p (by simp [ae])) c aL
  ·simp at h
theorem H0 : ∀ {l:List Src} {ab:List Prop},za l=some ab→(∀p∈ab,p)→wN l
 | [],_,_,_=>List.Pairwise.nil
 | a::l,ab,h,a3=>by
  simp only [za] at h
  split at h
  ·rename_i x y o J
   simp only [Option.some.injEq] at h;subst h
   exact List.pairwise_cons.2 ⟨HC o fun p ae=>a3 p (by simp [ae]),H0 J fun p ae=>a3 p (by simp [ae])⟩
  ·simp at h
theorem qp {l:List Src}{j i r k:Nat}:kr l j i=some (r,k)↔ ∃a,l[j]? = some a∧a.has r k∧i=a.kC k:=by
 unfold kr
 cases h:l[j]? with
 | none=>simp
 | some a =>
  cases a with
  | row r0 =>
   simp only [Option.some.injEq,Prod.mk.injEq,exists_eq_left',Src.has,Src.kC]
   constructor<;>rintro ⟨a,b⟩<;>exact ⟨a.symm,b⟩
  | ab r0 hv I =>
   simp only [Option.some.injEq,exists_eq_left',Src.has,Src.kC]
   by_cases e:i=0
   ·rw [if_pos e];simp only [Option.some.injEq,Prod.mk.injEq,e,and_true];constructor<;>rintro ⟨a,b⟩<;>exact ⟨a.symm,b.symm⟩
   ·rw [if_neg e];simp [e]
theorem rD : ∀ {l:List Src} {n r k j i:Nat},hD n l r k=some (j,i)→ ∃a,n≤j∧l[j-n]? = some a∧a.has r k∧i=a.kC k
 | [],_,_,_,_,_,h=>by simp [hD] at h
 | .row r0::l,n,r,k,j,i,h=>by
  simp only [hD] at h
  split at h
  ·rename_i e
   simp only [Option.some.injEq,Prod.mk.injEq] at h
   obtain ⟨rfl,rfl⟩:=h
   exact ⟨.row r0,Nat.le_refl _,by simp,e,rfl⟩
  ·obtain ⟨a,o,J,ao,aO⟩:=rD h
   exact ⟨a,by omega,by rw [show j-n=(j-(n+1))+1 by omega,List.getElem?_cons_succ];exact J,ao,aO⟩
 | .ab r0 hv I::l,n,r,k,j,i,h=>by
  simp only [hD] at h
  split at h
  ·rename_i e
   simp only [Option.some.injEq,Prod.mk.injEq] at h
   obtain ⟨rfl,rfl⟩:=h
   exact ⟨.ab r0 hv I,Nat.le_refl _,by simp,e,rfl⟩
  ·obtain ⟨a,o,J,ao,aO⟩:=rD h
   exact ⟨a,by omega,by rw [show j-n=(j-(n+1))+1 by omega,List.getElem?_cons_succ];exact J,ao,aO⟩
theorem o7 (n:Nat)(a:Src)(l:List Src)(r k:Nat)(h:¬a.has r k):hD n (a::l) r k=hD (n+1) l r k:=by
 cases a<;>simp only [hD,Src.has] at h ⊢ <;> rw [if_neg h]
theorem P1 (n:Nat)(a:Src)(l:List Src)(r k:Nat)(h:a.has r k):hD n (a::l) r k=some (n,a.kC k):=by
 cases a<;>simp only [hD,Src.has,Src.kC] at h ⊢ <;> rw [if_pos h]
theorem v9 : ∀ {l:List Src} {n r k j:Nat} {a:Src},wN l→l[j]? = some a→a.has r k→hD n l r k=some (n+j,a.kC k)
 | b::l,n,r,k,0,a,_,h,bx=>by
  simp at h;subst h
  exact P1 n b l r k bx
 | b::l,n,r,k,j+1,a,bq,h,bx=>by
  simp at h
  have bq:=List.pairwise_cons.1 bq
  rw [o7 n b l r k fun aP=>bq.1 a (List.mem_of_getElem? h) r k ⟨aP,bx⟩,v9 (j:=j) bq.2 h bx]
  congr 2;omega
theorem Rd {a:Src}{r k dw cU:Nat}(h:a.has r k)(bX:a.has dw cU)(e:a.kC k=a.kC cU):r=dw∧k=cU:=by
 cases a<;>simp only [Src.has,Src.kC] at h bX e<;>omega
theorem QI {l:List Src}{n r k dw cU:Nat}{p:Nat×Nat}(h:hD n l r k=some p)(bX:hD n l dw cU=some p):r=dw∧k=cU:=by
 obtain ⟨j,i⟩:=p
 obtain ⟨a,o,J,ao,aO⟩:=rD h
 obtain ⟨cG,qL,zH,S6,Wn⟩:=rD bX
 rw [J] at zH;simp at zH;subst zH
 exact Rd ao S6 (by omega)
theorem C6 : ∀ {l:List Src} {n r j:Nat},mJ n l r=some j→n≤j∧l[j-n]? = some (.row r)
 | [],_,_,_,h=>by simp [mJ] at h
 | .row r0::l,n,r,j,h=>by
  simp only [mJ] at h
  split at h
  ·rename_i e;simp at h;subst h;subst e;exact ⟨Nat.le_refl _,by simp⟩
  ·obtain ⟨o,J⟩:=C6 h
   exact ⟨by omega,by rw [show j-n=(j-(n+1))+1 by omega,List.getElem?_cons_succ];exact J⟩
 | .ab r0 hv I::l,n,r,j,h=>by
  simp only [mJ] at h
  obtain ⟨o,J⟩:=C6 h
  exact ⟨by omega,by rw [show j-n=(j-(n+1))+1 by omega,List.getElem?_cons_succ];exact J⟩
theorem HD : ∀ {l:List Src} {n r:Nat},mJ n l r=none→Src.row r ∉ l
 | [],_,_,_=>by simp
 | .row r0::l,n,r,h=>by
  simp only [mJ] at h
  split at h
  ·simp at h
  ·rename_i e
   simp only [List.mem_cons,Src.row.injEq,not_or]
   exact ⟨fun h=>e h.symm,HD h⟩
 | .ab r0 hv I::l,n,r,h=>by
  simp only [mJ] at h
  simp only [List.mem_cons,reduceCtorEq,false_or]
  exact HD h
def ka (aE:Nat→Option (List ap))(bQ:Nat→Option Nat)(aA:ft):List Src→List gN→Option (List (List ap)×List Prop)
 | [],[]=>some ([],[])
 | .row r::l,c::b7=>match aE r with
  | some row=>match hp aE bQ aA pL c row,ka aE bQ aA l b7 with
   | some (c3,bZ),some (T,a6)=>some (c3::T,bZ++a6)
   | _,_=>none
  | none=>none
 | .ab r k I::l,c::b7=>match aE r with
  | some row=>match hp aE bQ aA pL c [I],ka aE bQ aA l b7 with
   | some (c3,bZ),some (T,a6)=>some (c3::T,(cz (some row) k=some I)::(bZ++a6))
   | _,_=>none
  | none=>none
 | _,_=>none
def je (sv:Nat→Option (List ap))(bQ:Nat→Option Nat)(iY:ft):(Nat→Option (List ap))→List Src→List gN→List (List ap)→Option (List (Nat×List ap)×List Prop)
 | _,[],[],[]=>some ([],[])
 | aE,.row q::l,c::b7,row::T=>match hp sv bQ iY i2 c row with
  | some (c3,bZ)=>match je sv bQ iY (fun x=>if x=q then some c3 else aE x) l b7 T with
   | some (u,a6)=>some ((q,c3)::u,bZ++a6)
   | none=>none
  | none=>none
 | aE,.ab q k _::l,c::b7,row::T=>match aE q with
  | some jI=>match hp sv bQ iY i2 c row with
   | some ([bD],bZ)=>match je sv bQ iY (fun x=>if x=q then some (jI.set k bD) else aE x) l b7 T with
    | some (u,a6)=>some ((q,jI.set k bD)::u,bZ++a6)
    | none=>none
   | _=>none
  | none=>none
 | _,_,_,_=>none
def qN (T:List (List ap)):Prop:= ∀row∈T,∀I∈row,∀e∈I.es,∀x∈e,cx x
def uj (P:Program)(aE:Nat→Option (List ap))(aC:Nat)(f:FuncId)(args:List al)(bS:xo):Option gx :=
 let l:=if bS.cY.length=bS.aA.length then bS.aA else bS.aA++[.row aC]
 match za bS.aA with
 | none=>none
 | some jB =>
  if bS.aA.any (fun a=>decide (a.r=aC)) then none else
  if bS.cX then
   match bS.aA with
   | [] =>
    match jH (lE aE (fun _=>none) (kr []) kd) bS.ac args,lE (fun j=>bS.cY[j]?) (pM l) (hD 0 l) i2 bS.ec bS.r,
     je (fun j=>bS.cY[j]?) (pM l) (hD 0 l) aE l bS.eL bS.cY with
    | some (nW,bZ),some (dw,gO),some (u,fN)=>some {val:=dw,eE:=u,ep:=bZ++gO++fN++[Con P f nW [] bS.r bS.cY,cx bS.r]++(if bS.cY.isEmpty then [] else [qN bS.cY])}
    | _,_,_=>none
   | _=>none
  else
   match jH (lE aE (mJ 0 bS.aA) (kr bS.aA) pL) bS.ac args,ka aE (mJ 0 bS.aA) (kr bS.aA) bS.aA bS.b7,
    lE (fun j=>bS.cY[j]?) (pM l) (hD 0 l) i2 bS.ec bS.r,je (fun j=>bS.cY[j]?) (pM l) (hD 0 l) aE l bS.eL bS.cY with
   | some (nW,bZ),some (T,a6),some (dw,gO),some (u,fN) =>
    some {val:=dw,eE:=u,ep:=jB++bZ++a6++gO++fN++[Con P f nW T bS.r bS.cY]}
   | _,_,_,_=>none
theorem Hj {aE:Nat→Option (List ap)}{bQ:Nat→Option Nat}{aA:ft}{bC:eU→Bool}{c:gN}{row c3:List ap}{ab:List Prop}(h:hp aE bQ aA bC c row=some (c3,ab))(a3:∀p∈ab,p):
 ∀k I,cz (some row) k=some I→I.bY = .live:=by
 have n1 : ∀k I,cz (some row) k=some I→I∈row∧I.bY≠ .gone:=by
  intro k I ad
  rw [iG] at ad
  cases aV:row[k]? with
  | none=>rw [aV] at ad;simp at ad
  | some p =>
   rw [aV,Option.bind_some] at ad
   split at ad
   ·simp at ad
   ·rename_i e;simp at ad;subst ad;exact ⟨List.mem_of_getElem? aV,e⟩
 intro k I ad
 obtain ⟨o,J⟩:=n1 k I ad
 cases c with
 | pure =>
  simp only [hp,Option.some.injEq,Prod.mk.injEq] at h
  obtain ⟨rfl,rfl⟩:=h
  exact ((a3 _ (List.mem_singleton.2 rfl):qm row) I o).2
 | dH a7 =>
  simp only [hp,Option.some.injEq,Prod.mk.injEq] at h
  obtain ⟨rfl,rfl⟩:=h
  have e:row=a7:=a3 _ (by simp)
  have ae:qm a7:=a3 _ (by simp)
  exact (ae I (e▸o)).2
 | bU a7 =>
  simp only [hp,Option.some.injEq,Prod.mk.injEq] at h
  obtain ⟨rfl,rfl⟩:=h
  have ae:nV row:=a3 _ (by simp)
  exact (ae I o).resolve_right J
 | rx a7=>cases row with
  | nil=>simp [hp] at h
  | cons I l=>cases l<;>simp [hp] at h
 | drop=>cases row with
  | nil=>simp [hp] at h
  | cons I l=>cases l<;>simp [hp] at h
 | box l =>
  match row,h,o with
  | [p],h,o =>
   simp only [hp] at h
   rw [List.mem_singleton] at o;subst o
   split at h
   ·split at h
    ·rename_i e;exact e
    ·simp at h
   ·simp at h
  | [],h,_=>simp [hp] at h
  | _::_::_,h,_=>simp [hp] at h
section
variable {P:Program} {g:G} {s:S} {aj:ef} {a:Act} {w:World}
theorem C7 (de:gw g s aj w){aA:ft}{bQ:Nat→Option Nat}(H:kE s aA bQ pL): ∀(l:List Src) (b7:List gN) (T:List (List ap)) (ab:List Prop),
 ka s.aE bQ aA l b7=some (T,ab)→(∀p∈ab,p)→T.length=l.length∧ ∀(j:Nat) c3 b,T[j]? = some c3→l[j]? = some b →
  (∀r k I,b.has r k→s.ab r k=some I→I.bY = .live)∧(∀r k,b.has r k→s.aK r k→b.kC k<c3.length) ∧
  (∀r k I,b = .ab r k I→s.ab r k=some I) ∧
  ∀(i:Nat) bD,cz (some c3) i=some bD→ ∃r k I,b.has r k∧i=b.kC k∧s.ab r k=some I∧me s aA pL jZ I bD
 | [],[],T,ab,h,_=>by
  simp [ka] at h;obtain ⟨rfl,rfl⟩:=h
  exact ⟨rfl,fun j c3 r av=>by simp at av⟩
 | .row r::l,c::b7,T,ab,h,a3=>by
  simp only [ka] at h
  split at h
  ·rename_i row cE
   split at h
   ·rename_i ag bZ k0 a6 o J
    simp only [Option.some.injEq,Prod.mk.injEq] at h
    obtain ⟨rfl,rfl⟩:=h
    obtain ⟨ar,ay⟩:=C7 de H l b7 k0 a6 J (fun p ae=>a3 p (by simp [ae]))
    have iz : ∀k,s.ab r k=cz (some row) k:=fun k=>by unfold S.ab;rw [cE]
    obtain ⟨f0,f1,f2⟩:=yI (q:=jZ) (iq:=id) de H (qM _) (fun k I ad=>(iz k).trans ad) o (fun p ae=>a3 p (by simp [ae])) (fun _ _ _ _ _ _ _=>trivial)
    refine ⟨by simp [ar],fun j c3 b av aP=> ?_⟩
    cases j with
    | zero =>
     simp at av aP;subst av;subst aP
     refine ⟨fun q k I a1 ad=> ?_,fun q k a1 hu=> ?_,fun _ _ _ e=>by simp at e,fun i bD cW=> ?_⟩
     ·have a1:q=r:=a1
      subst a1;rw [iz] at ad;exact f1 k I ad
     ·have a1:q=r:=a1
      subst a1;rw [f0];simpa [S.aK,cE,Src.kC] using hu
     ·obtain ⟨I,g1,g2⟩:=f2 i bD cW
      exact ⟨r,i,I,rfl,rfl,(iz i).trans g1,g2⟩
    | succ j=>simp at av aP;exact ay j c3 b av aP
   ·simp at h
  ·simp at h
 | .ab r hv jB::l,c::b7,T,ab,h,a3=>by
  simp only [ka] at h
  split at h
  ·rename_i row cE
   split at h
   ·rename_i ag bZ k0 a6 o J
    simp only [Option.some.injEq,Prod.mk.injEq] at h
    obtain ⟨rfl,rfl⟩:=h
    obtain ⟨ar,ay⟩:=C7 de H l b7 k0 a6 J (fun p ae=>a3 p (by simp [ae]))
    have ad:s.ab r hv=some jB:=by unfold S.ab;rw [cE];exact a3 _ (by simp)
    have jV : ∀k I,cz (some [jB]) k=some I→k=0∧I=jB:=fun k I aV=>by
     rw [j8] at aV;split at aV
     ·rename_i e;simp at aV;exact ⟨e.1,aV.symm⟩
     ·simp at aV
    have Ew:jB.bY≠ .gone:=by
     unfold S.ab at ad;rw [cE,iG] at ad
     cases aV:row[hv]? with
     | none=>rw [aV] at ad;simp at ad
     | some p =>
      rw [aV,Option.bind_some] at ad;split at ad
      ·simp at ad
      ·rename_i e;simp at ad;subst ad;exact e
    obtain ⟨f0,f1,f2⟩:=yI (q:=jZ) (iq:=fun _=>hv) (r:=r) de H (qM _) (fun k I aV=>by rw [(jV k I aV).2];exact ad) o (fun p ae=>a3 p (by simp [ae])) (fun _ _ _ _ _ _ _=>trivial)
    refine ⟨by simp [ar],fun j c3 b av aP=> ?_⟩
    cases j with
    | zero =>
     simp at av aP;subst av;subst aP
     refine ⟨fun q k I a1 nA=> ?_,fun q k a1 hu=> ?_,fun dw cU bD e=> ?_,fun i bD cW=> ?_⟩
     ·obtain ⟨rfl,rfl⟩:q=r∧k=hv:=a1
      rw [ad] at nA;simp at nA;subst nA
      exact f1 0 jB (by rw [j8];simp [Ew])
     ·rw [f0];simp [Src.kC]
     ·cases e;exact ad
     ·obtain ⟨I,g1,g2⟩:=f2 i bD cW
      obtain ⟨rfl,rfl⟩:=jV i I g1
      exact ⟨r,hv,I,⟨rfl,rfl⟩,rfl,ad,g2⟩
    | succ j=>simp at av aP;exact ay j c3 b av aP
   ·simp at h
  ·simp at h
 | [],_::_,_,_,h,_=>by simp [ka] at h
 | .row _::_,[],_,_,h,_=>by simp [ka] at h
 | .ab .. :: _,[],_,_,h,_=>by simp [ka] at h
theorem CZ {eO:G}{s1:S}{i6:ef}{bm:World}(de:gw eO s1 i6 bm){iY:ft}{q:al→Prop}{bQ:Nat→Option Nat}(H:kE s1 iY bQ i2)(bq:p7 q i2)
 (a1 : ∀j i I,s1.ab j i=some I→ ∀e∈I.es,∀x∈e,q x) :
 ∀(l:List Src) (b7:List gN) (T:List (List ap)) (u:List (Nat×List ap)) (ab:List Prop) (n:Nat) (s:S),wN l→(∀j row,T[j]? = some row→s1.aE (n+j)=some row) →
 (∀r k j i,hD n l r k=some (j,i)→s.aK r k→s1.aK j i)→(∀r k I,Src.ab r k I∈l→s.aK r k) →
 je s1.aE bQ iY s.aE l b7 T=some (u,ab)→(∀p∈ab,p)→T.length=l.length∧(s.gq u).E=s.E ∧
  (∀r k I,(s.gq u).ab r k=some I→(∃j i p,hD n l r k=some (j,i)∧s1.ab j i=some p∧me s1 iY i2 q p I)∨(hD n l r k=none∧s.ab r k=some I)) ∧
  (∀r k,s.aK r k→(s.gq u).aK r k)∧(∀r k j i,hD n l r k=some (j,i)→s1.aK j i→(s.gq u).aK r k)
 | [],[],[],u,ab,n,s,_,_,_,_,h,_=>by
  simp [je] at h;obtain ⟨rfl,rfl⟩:=h
  exact ⟨rfl,rfl,fun r k I ad=> .inr ⟨rfl,ad⟩,fun r k h=>h,fun r k j i h=>by simp [hD] at h⟩
 | .row q0::l,c::b7,row::T,u,ab,n,s,pr,iD,hu,oM,h,a3=>by
  simp only [je] at h
  split at h
  ·rename_i c3 bZ o
   split at h
   ·rename_i nJ a6 J
    simp only [Option.some.injEq,Prod.mk.injEq] at h
    obtain ⟨rfl,rfl⟩:=h
    have w9:=List.pairwise_cons.1 pr
    have ij:s1.aE n=some row:=iD 0 row rfl
    have rX : ∀k,s1.ab n k=cz (some row) k:=fun k=>by unfold S.ab;rw [ij]
    obtain ⟨f0,f1,f2⟩:=yI (q:=q) (iq:=id) (r:=n) de H bq (fun k I ad=>(rX k).trans ad) o (fun p ae=>a3 p (by simp [ae])) (fun k I ad=>a1 n k I ((rX k).trans ad))
    have gr : ∀k j i,hD (n+1) l q0 k≠some (j,i):=fun k j i hm=>by
     obtain ⟨b,gG,fA,og,Fy⟩:=rD hm
     exact w9.1 b (List.mem_of_getElem? fA) q0 k ⟨rfl,og⟩
    have uu : ∀r k,s.aK r k→(s.setRow q0 c3).aK r k:=fun r k aV=>by
     rw [k9]
     by_cases e:r=q0
     ·subst e;rw [if_pos rfl,f0]
      have:=hu r k n k (by simp [hD]) aV
      simpa [S.aK,ij] using this
     ·rw [if_neg e];exact aV
    obtain ⟨ar,ay,bR,dc,ed⟩:=CZ de H bq a1 l b7 T nJ a6 (n+1) (s.setRow q0 c3) w9.2 (fun j row av=>by rw [Nat.add_assoc,Nat.add_comm 1 j];exact iD (j+1) row (by simpa using av))
     (fun r k j i hm aV=>by
       have cf:r≠q0:=by rintro rfl;exact gr _ _ _ hm
       refine hu r k j i ?_ (by rw [k9,if_neg cf] at aV;exact aV)
       rw [o7 n (.row q0) l r k cf];exact hm)
     (fun r k I hm=>uu r k (oM r k I (by simp [hm]))) J (fun p ae=>a3 p (by simp [ae]))
    refine ⟨by simp [ar],ay,fun r k I ad=> ?_,fun r k aV=>dc r k (uu r k aV),fun r k j i hm aV=> ?_⟩
    ·rcases bR r k I ad with ⟨j,i,p,gG,fA,og⟩|⟨gG,fA⟩
     ·have cf:r≠q0:=by rintro rfl;exact gr _ _ _ gG
      exact .inl ⟨j,i,p,by rw [o7 n (.row q0) l r k cf];exact gG,fA,og⟩
     ·rw [jF] at fA
      by_cases e:r=q0
      ·subst e
       rw [if_pos rfl] at fA
       obtain ⟨p,g1,g2⟩:=f2 k I fA
       exact .inl ⟨n,k,p,by simp [hD],(rX k).trans g1,g2⟩
      ·rw [if_neg e] at fA
       exact .inr ⟨by rw [o7 n (.row q0) l r k e];exact gG,fA⟩
    ·by_cases e:r=q0
     ·subst e
      simp only [hD,if_true] at hm
      simp only [Option.some.injEq,Prod.mk.injEq] at hm
      obtain ⟨rfl,rfl⟩:=hm
      refine dc r k ?_
      rw [k9,if_pos rfl,f0]
      simpa [S.aK,ij] using aV
     ·rw [o7 n (.row q0) l r k e] at hm
      exact ed r k j i hm aV
   ·simp at h
  ·simp at h
 | .ab q0 hv jB::l,c::b7,row::T,u,ab,n,s,pr,iD,hu,oM,h,a3=>by
  simp only [je] at h
  split at h
  ·rename_i jI zp
   split at h
   ·rename_i bD bZ o
    split at h
    ·rename_i nJ a6 J
     simp only [Option.some.injEq,Prod.mk.injEq] at h
     obtain ⟨rfl,rfl⟩:=h
     have w9:=List.pairwise_cons.1 pr
     have ij:s1.aE n=some row:=iD 0 row rfl
     have rX : ∀k,s1.ab n k=cz (some row) k:=fun k=>by unfold S.ab;rw [ij]
     obtain ⟨f0,f1,f2⟩:=yI (q:=q) (iq:=id) (r:=n) de H bq (fun k I ad=>(rX k).trans ad) o (fun p ae=>a3 p (by simp [ae])) (fun k I ad=>a1 n k I ((rX k).trans ad))
     have gr : ∀j i,hD (n+1) l q0 hv≠some (j,i):=fun j i hm=>by
      obtain ⟨b,gG,fA,og,Fy⟩:=rD hm
      exact w9.1 b (List.mem_of_getElem? fA) q0 hv ⟨⟨rfl,rfl⟩,og⟩
     have uu : ∀r k,s.aK r k→(s.setRow q0 (jI.set hv bD)).aK r k:=yn s zp (by simp)
     have se:hv<jI.length:=by have:=oM q0 hv jB (by simp);simpa [S.aK,zp] using this
     obtain ⟨ar,ay,bR,dc,ed⟩:=CZ de H bq a1 l b7 T nJ a6 (n+1) (s.setRow q0 (jI.set hv bD)) w9.2 (fun j row av=>by rw [Nat.add_assoc,Nat.add_comm 1 j];exact iD (j+1) row (by simpa using av))
      (fun r k j i hm aV=>by
        have cf : ¬(Src.ab q0 hv jB).has r k:=by rintro ⟨rfl,rfl⟩;exact gr _ _ hm
        refine hu r k j i (by rw [o7 n _ l r k cf];exact hm) ?_
        rw [k9] at aV
        split at aV
        ·rename_i e;subst e;simpa [S.aK,zp] using aV
        ·exact aV)
      (fun r k I hm=>uu r k (oM r k I (by simp [hm]))) J (fun p ae=>a3 p (by simp [ae]))
     refine ⟨by simp [ar],ay,fun r k I ad=> ?_,fun r k aV=>dc r k (uu r k aV),fun r k j i hm aV=> ?_⟩
     ·rcases bR r k I ad with ⟨j,i,p,gG,fA,og⟩|⟨gG,fA⟩
      ·have cf : ¬(Src.ab q0 hv jB).has r k:=by rintro ⟨rfl,rfl⟩;exact gr _ _ gG
       exact .inl ⟨j,i,p,by rw [o7 n _ l r k cf];exact gG,fA,og⟩
      ·rw [jF] at fA
       by_cases e:r=q0
       ·subst e
        rw [if_pos rfl,iG,List.getElem?_set] at fA
        by_cases ay:hv=k
        ·subst ay
         rw [if_pos rfl,if_pos se,Option.bind_some] at fA
         have og:cz (some [bD]) 0=some I:=by rw [iG];exact fA
         obtain ⟨p,g1,g2⟩:=f2 0 I og
         exact .inl ⟨n,0,p,by simp [hD],(rX 0).trans g1,g2⟩
        ·rw [if_neg ay] at fA
         have cf : ¬(Src.ab r hv jB).has r k:=by rintro ⟨-,rfl⟩;exact ay rfl
         exact .inr ⟨by rw [o7 n _ l r k cf];exact gG,by unfold S.ab;rw [zp,iG];exact fA⟩
       ·rw [if_neg e] at fA
        have cf : ¬(Src.ab q0 hv jB).has r k:=by rintro ⟨rfl,-⟩;exact e rfl
        exact .inr ⟨by rw [o7 n _ l r k cf];exact gG,fA⟩
     ·by_cases e:(Src.ab q0 hv jB).has r k
      ·obtain ⟨rfl,rfl⟩:=e
       exact dc r k (uu r k (oM r k jB (by simp)))
      ·rw [o7 n _ l r k e] at hm
       exact ed r k j i hm aV
    ·simp at h
   ·simp at h
  ·simp at h
 | [],[],_::_,_,_,_,_,_,_,_,_,h,_=>by simp [je] at h
 | [],_::_,_,_,_,_,_,_,_,_,_,h,_=>by simp [je] at h
 | .row _::_,[],_,_,_,_,_,_,_,_,_,h,_=>by simp [je] at h
 | .ab .. :: _,[],_,_,_,_,_,_,_,_,_,h,_=>by simp [je] at h
 | .row _::_,_::_,[],_,_,_,_,_,_,_,_,h,_=>by simp [je] at h
 | .ab .. :: _,_::_,[],_,_,_,_,_,_,_,_,h,_=>by simp [je] at h
theorem H2 (h:b9 g s aj a w){aC:Nat}(dF:s.aE aC=none){f:FuncId}{args:List al}{bS:xo}{l:List Src}(ll:l=if bS.cY.length=bS.aA.length then bS.aA else bS.aA++[.row aC])
 (pr:wN bS.aA) (sf : ∀a∈bS.aA,a.r≠aC) {bC:eU→Bool} {A:Nat→Prop} {q:al→Prop} {T:List (List ap)} {bQ:Nat→Option Nat}
 (hA : ∀b,A b→b<w.heap.size) (Et : ∀b,s.ok g aj w b→A b) (Eu : ∀r k I b m,s.ab r k=some I→bC I.bY=true→aj r k=some (b,m)→A b)
 (S7:(∀b,A b→s.ok g aj w b)∨(∀x,q x→cx x)) (bq:p7 q i2) (Aa:kE s (kr bS.aA) bQ bC)
 (ch:nB s (kr bS.aA) bC jZ (dO T).aE) (nr : ∀r k I,(∃j i,kr bS.aA j i=some (r,k))→s.ab r k=some I→I.bY = .live) (hex : ∀r k I,Src.ab r k I∈bS.aA→s.aK r k)
 {nW:List al} {bZ:List Prop} (kT:jH (lE s.aE bQ (kr bS.aA) bC) bS.ac args=some (nW,bZ)) (oN : ∀p∈bZ,p)
 {dw:al} {gO:List Prop} (uA:lE (fun j=>bS.cY[j]?) (pM l) (hD 0 l) i2 bS.ec bS.r=some (dw,gO)) (Ex : ∀p∈gO,p)
 {u:List (Nat×List ap)} {fN:List Prop} (xa:je (fun j=>bS.cY[j]?) (pM l) (hD 0 l) s.aE l bS.eL bS.cY=some (u,fN)) (S8 : ∀p∈fN,p)
 (uv:Con P f nW T bS.r bS.cY) (S9:q bS.r) (Ta : ∀j i I,(dO bS.cY).ab j i=some I→ ∀e∈I.es,∀x∈e,q x)
 {vs:List Value} (aG:vs.length=args.length) (hargs : ∀(j:Nat) x v,args[j]? = some x→vs[j]? = some v→Rel w (s.ok g aj w) s.aK (s.aQ aj) x v) :
 yJ P f∧Calls P f vs.toArray w fun e bm=> ∃v bj,e = .returned v∧b9 g (s.gq u) bj a bm∧Rel bm ((s.gq u).ok g bj bm) (s.gq u).aK ((s.gq u).aQ bj) dw v:=by
 have Ey:wN l:=by
  subst ll
  split
  ·exact pr
  ·refine List.pairwise_append.2 ⟨pr,List.pairwise_singleton _ _,fun b aP c aL r k eK=> ?_⟩
   rw [List.mem_singleton] at aL;subst aL
   have o:r=aC:=eK.2
   subst o
   cases b with
   | row r0=>exact sf _ aP (Eq.symm eK.1)
   | ab r0 hv jB=>exact sf _ aP (Eq.symm eK.1.1)
 have Tb : ∀(j:Nat) b,bS.aA[j]? = some b→l[j]? = some b:=by
  intro j b av
  subst ll
  split
  ·exact av
  ·rw [List.getElem?_append_left (e2 av)];exact av
 have Kj : ∀(j:Nat) b,l[j]? = some b→bS.aA[j]? = some b∨b = .row aC:=by
  intro j b av
  subst ll
  split at av
  ·exact .inl av
  ·rw [List.getElem?_append] at av
   split at av
   ·exact .inl av
   ·right
    have:=e2 av
    simp at this
    rw [show j-bS.aA.length=0 by omega] at av
    simpa using av.symm
 refine ⟨uv.1,?_⟩
 obtain ⟨eO,aZ,bg,ck,Fz,cS,eB,gI,i7⟩:=enter h.togw A hA Et Eu ch nr
 obtain ⟨ar,ay,bR⟩:=yH _ _ _ _ _ kT
 have:=uv.2 eO (h2 aj (kr bS.aA)) w vs.toArray aZ ck Fz cS gI (by simp [aG,ar]) (by
  intro j b8 v cO aX
  have av:j<args.length:=by have:=e2 cO;omega
  have aa:=List.getElem?_eq_getElem av
  obtain ⟨c,bD,f1,f2,f3⟩:=bR j _ b8 aa cO
  have r4:vs[j]? = some v:=by simpa using aX
  exact i7 (vO h.togw Aa (qM _) f2 (fun p ae=>oN p (f3 p ae)) trivial (hargs j _ v aa r4)) (hargs j _ v aa r4))
 refine this.mono fun e bm wU=> ?_
 obtain ⟨v,i6,rfl,zI,aX⟩:=wU
 have Lb:kE (dO bS.cY) (hD 0 l) (pM l) i2:=by
  refine ⟨fun j r av k=> ?_,fun _ _ _ _ _ bx=>by simp [i2] at bx⟩
  unfold pM at av
  split at av
  ·rename_i r0 ln
   simp at av;subst av
   have:=v9 (n:=0) (r:=r0) (k:=k) Ey ln rfl
   simpa [Src.kC] using this
  ·simp at av
 have wi : ∀j i r k,kr bS.aA j i=some (r,k)→hD 0 l r k=some (j,i):=fun j i r k hm=>by
  obtain ⟨b,gG,fA,rfl⟩:=qp.1 hm
  have:=v9 (n:=0) Ey (Tb j b gG) fA
  simpa using this
 have zn : ∀r k j i,hD 0 l r k=some (j,i)→kr bS.aA j i=some (r,k)∨ ¬s.aK r k:=fun r k j i hm=>by
  obtain ⟨b,-,fA,og,Fy⟩:=rD hm
  rcases Kj j b (by simpa using fA) with e|e
  ·exact .inl (qp.2 ⟨b,e,og,Fy⟩)
  ·subst e
   have:r=aC:=og
   subst this
   exact .inr (tw dF k)
 obtain ⟨kD,nJ,fl,Uu,Uv⟩:=CZ (s1:=dO bS.cY) zI Lb bq Ta l bS.eL bS.cY u fN 0 s Ey (fun j row av=>by simpa [dO] using av)
  (fun r k j i hm aV=>by
    rcases zn r k j i hm with e|e
    ·exact (zI.stay j i (by rw [Fz];exact ch.aK _ _ _ _ e aV)).1
    ·exact absurd aV e)
  (fun r k I hm=>by
    obtain ⟨j,av⟩:=List.getElem?_of_mem hm
    rcases Kj j _ av with e|e
    ·exact hex r k I (List.mem_of_getElem? e)
    ·cases e) xa S8
 obtain ⟨jA,f1,f2⟩:=leave (q0:=jZ) (q:=q) h aZ (by rw [bg];exact S7) Fz cS eB nr ch zI wi zn (fun r k dw cU p=>QI) (s2:=s.gq u) nJ fl Uu Uv
  (vO zI Lb bq uA Ex S9 aX) aX
 exact ⟨v,jA,rfl,f1,f2⟩
theorem Oj (h:b9 g s aj a w){aC:Nat}(dF:s.aE aC=none){f:FuncId}{args:List al}{bS:xo}{bd:gx}(ai:uj P s.aE aC f args bS=some bd)(b4:∀p∈bd.ep,p)
 {vs:List Value} (aG:vs.length=args.length) (hargs : ∀(j:Nat) x v,args[j]? = some x→vs[j]? = some v→Rel w (s.ok g aj w) s.aK (s.aQ aj) x v) :
 yJ P f∧Calls P f vs.toArray w fun e bm=> ∃v bj,e = .returned v∧b9 g (s.gq bd.eE) bj a bm∧Rel bm ((s.gq bd.eE).ok g bj bm) (s.gq bd.eE).aK ((s.gq bd.eE).aQ bj) bd.val v:=by
 unfold uj at ai
 simp only at ai
 generalize ll:(if bS.cY.length=bS.aA.length then bS.aA else bS.aA++[.row aC])=l at ai
 split at ai
 ·simp at ai
 ·rename_i jB zJ
  split at ai
  ·simp at ai
  ·rename_i Sl
   have sf : ∀a∈bS.aA,a.r≠aC:=fun b aP e=>Sl (List.any_eq_true.2 ⟨b,aP,by simpa using e⟩)
   split at ai
   ·
    split at ai
    ·rename_i qO
     split at ai
     ·rename_i nW bZ dw gO u fN kT uA xa
      simp only [Option.some.injEq] at ai
      subst ai
      have uv:Con P f nW [] bS.r bS.cY:=b4 _ (by simp)
      have xb:cx bS.r:=b4 _ (by simp)
      have Sm:qN bS.cY:=by
       by_cases e:bS.cY=[]
       ·rw [e];intro row cE;simp at cE
       ·exact b4 _ (by
         have:bS.cY.isEmpty=false:=by simpa [List.isEmpty_iff] using e
         simp [this])
      refine H2 (bC:=kd) (A:=fun b=>b<w.heap.size) (q:=cx) (T:=[]) (bQ:=fun _=>none) h dF ll.symm (by rw [qO];exact List.Pairwise.nil) sf (fun _ aP=>aP) (fun b aP=>aP.1)
       (fun r k I b m ad _ ae=>v7 h.togw ad ae) (.inr fun _ aa=>aa) S3 ?_ ?_ ?_ ?_ (by rw [qO];exact kT) (fun p ae=>b4 p (by simp [ae])) uA (fun p ae=>b4 p (by simp [ae])) xa (fun p ae=>b4 p (by simp [ae])) uv xb ?_ aG hargs
      ·refine ⟨fun _ _ e=>by simp at e,fun r _ k I _ _ j i e=> ?_⟩
       rw [qO] at e;simp [kr] at e
      ·refine ⟨fun j i gl dU p e=> ?_,fun j i bD e=> ?_,fun j i r k e=> ?_⟩
       ·rw [qO] at e;simp [kr] at e
       ·simp [dO,cz] at e
       ·rw [qO] at e;simp [kr] at e
      ·rintro r k I ⟨j,i,e⟩
       rw [qO] at e;simp [kr] at e
      ·rintro r k I e
       rw [qO] at e;simp at e
      ·intro j i I ad e he x aa
       have ad:cz (bS.cY[j]?) i=some I:=ad
       cases ah:bS.cY[j]? with
       | none=>rw [ah] at ad;simp [cz] at ad
       | some row =>
        rw [ah,iG] at ad
        cases aV:row[i]? with
        | none=>rw [aV] at ad;simp at ad
        | some p =>
         rw [aV,Option.bind_some] at ad
         split at ad
         ·simp at ad
         ·simp at ad;subst ad
          exact Sm row (List.mem_of_getElem? ah) p (List.mem_of_getElem? aV) e he x aa
     ·simp at ai
    ·simp at ai
   ·split at ai
    ·rename_i nW bZ T a6 dw gO u fN kT uz uA xa
     simp only [Option.some.injEq] at ai
     subst ai
     have pr:=H0 zJ fun p ae=>b4 p (by simp [ae])
     have uv:Con P f nW T bS.r bS.cY:=b4 _ (by simp)
     have af : ∀r j,mJ 0 bS.aA r=some j→ ∀k,kr bS.aA j k=some (r,k):=fun r j av k=>by
      obtain ⟨-,J⟩:=C6 av
      simp only [kr,show bS.aA[j]? = some (.row r) by simpa using J]
     have Ev : ∀(l:List Src) (b7:List gN) (T:List (List ap)) (ab:List Prop),ka s.aE (mJ 0 bS.aA) (kr bS.aA) l b7=some (T,ab)→(∀p∈ab,p) →
      ∀b∈l,∀r k I,b.has r k→s.ab r k=some I→I.bY≠ .hR:=by
      intro l
      induction l with
      | nil=>intro _ _ _ _ _ b aP;simp at aP
      | cons b l ih =>
       intro b7 T ab h0 a3 c aL r k I eK ad
       cases b7 with
       | nil=>cases b<;>simp [ka] at h0
       | cons c6 b7 =>
        cases b with
        | row r0 =>
         simp only [ka] at h0
         split at h0
         ·rename_i row cE
          split at h0
          ·rename_i ag ga k0 hj o J
           simp only [Option.some.injEq,Prod.mk.injEq] at h0
           obtain ⟨rfl,rfl⟩:=h0
           rcases List.mem_cons.1 aL with rfl|aL
           ·have e:r=r0:=eK
            subst e
            have cW:cz (some row) k=some I:=by unfold S.ab at ad;rw [cE] at ad;exact ad
            have:=Hj o (fun p ae=>a3 p (by simp [ae])) k I cW
            rw [this];simp
           ·exact ih b7 k0 hj J (fun p ae=>a3 p (by simp [ae])) c aL r k I eK ad
          ·simp at h0
         ·simp at h0
        | ab r0 hv jB =>
         simp only [ka] at h0
         split at h0
         ·rename_i row cE
          split at h0
          ·rename_i ag ga k0 hj o J
           simp only [Option.some.injEq,Prod.mk.injEq] at h0
           obtain ⟨rfl,rfl⟩:=h0
           rcases List.mem_cons.1 aL with rfl|aL
           ·obtain ⟨rfl,rfl⟩:=eK
            have oN:cz (some row) k=some jB:=a3 _ (by simp)
            have cW:cz (some row) k=some I:=by unfold S.ab at ad;rw [cE] at ad;exact ad
            rw [oN] at cW;simp at cW;subst cW
            have Ew:jB.bY≠ .gone:=by
             rw [iG] at oN
             cases aV:row[k]? with
             | none=>rw [aV] at oN;simp at oN
             | some p =>
              rw [aV,Option.bind_some] at oN;split at oN
              ·simp at oN
              ·rename_i e;simp at oN;subst oN;exact e
            have:=Hj o (fun p ae=>a3 p (by simp [ae])) 0 jB (by rw [j8];simp [Ew])
            rw [this];simp
           ·exact ih b7 k0 hj J (fun p ae=>a3 p (by simp [ae])) c aL r k I eK ad
          ·simp at h0
         ·simp at h0
     have Aa:kE s (kr bS.aA) (mJ 0 bS.aA) pL:=by
      refine ⟨af,fun r ah k I ad bx j i hm=> ?_⟩
      obtain ⟨b,gG,fA,-⟩:=qp.1 hm
      exact Ev bS.aA bS.b7 T a6 uz (fun p ae=>b4 p (by simp [ae])) b (List.mem_of_getElem? gG) r k I fA ad (by simpa [pL] using bx)
     obtain ⟨t1,t2⟩:=C7 h.togw Aa bS.aA bS.b7 T a6 uz (fun p ae=>b4 p (by simp [ae]))
     have jY : ∀j b,bS.aA[j]? = some b→ ∃c3,T[j]? = some c3:=fun j b av=>by
      have:j<T.length:=by have:=e2 av;omega
      exact ⟨_,List.getElem?_eq_getElem this⟩
     refine H2 (bC:=pL) (A:=s.ok g aj w) (q:=jZ) (T:=T) h dF ll.symm pr sf (fun b aP=>aP.1) (fun b aP=>aP)
      (fun r k I b m ad aV ae=>Rb h.togw ad (by simpa [pL] using aV) ae) (.inl fun _ aP=>aP) (qM _) Aa ?_ ?_ ?_ kT (fun p ae=>b4 p (by simp [ae])) uA (fun p ae=>b4 p (by simp [ae])) xa
      (fun p ae=>b4 p (by simp [ae])) uv trivial (fun _ _ _ _ _ _ _ _=>trivial) aG hargs
     ·refine ⟨fun j i gl dU p e dy=> ?_,fun j i bD cW=> ?_,fun j i r k e hu=> ?_⟩
      ·obtain ⟨r,k⟩:=p
       obtain ⟨b,gG,fA,rfl⟩:=qp.1 e
       obtain ⟨iC,Tc,Td,rfl⟩:=qp.1 dy
       have ar:=v9 (n:=0) pr gG fA
       have ay:=v9 (n:=0) pr Tc Td
       rw [ar] at ay
       simpa using ay
      ·have av:j<T.length:=by
        rcases Nat.lt_or_ge j T.length with e|e
        ·exact e
        ·have:(dO T).aE j=none:=List.getElem?_eq_none e
         rw [this] at cW;simp [cz] at cW
       have Kk:T[j]? = some T[j]:=List.getElem?_eq_getElem av
       have Kl:bS.aA[j]? = some (bS.aA[j]'(by omega)):=List.getElem?_eq_getElem (by omega)
       have nA:cz (some T[j]) i=some bD:=by have:(dO T).aE j=some T[j]:=Kk;rw [this] at cW;exact cW
       obtain ⟨r,k,I,gd,iE,Uw,Ux⟩:=(t2 j _ _ Kk Kl).2.2.2 i bD nA
       exact ⟨r,k,I,qp.2 ⟨_,Kl,gd,iE⟩,Uw,Ux⟩
      ·obtain ⟨b,gG,fA,rfl⟩:=qp.1 e
       obtain ⟨c3,pc⟩:=jY j b gG
       have:=(t2 j c3 b pc gG).2.1 r k fA hu
       show b.kC k<((T[j]?).getD []).length
       rw [pc];exact this
     ·rintro r k I ⟨j,i,e⟩ ad
      obtain ⟨b,gG,fA,-⟩:=qp.1 e
      obtain ⟨c3,pc⟩:=jY j b gG
      exact (t2 j c3 b pc gG).1 r k I fA ad
     ·intro r k I hm
      obtain ⟨j,av⟩:=List.getElem?_of_mem hm
      obtain ⟨c3,pc⟩:=jY j _ av
      exact yG ((t2 j c3 _ pc av).2.2.1 r k I rfl)
    ·simp at ai
end
end Go.VL
