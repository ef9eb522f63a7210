/- Lemmas, plain functions of the program, and what they answer. No condition. -/
import Derived.Below
import Derived.Eval
import Derived.KernelRfl
import Derived.Laws.Append
import Derived.Laws.AppendOwn
import Derived.Laws.BytesString
import Derived.Laws.Cells
import Derived.Laws.CopyRow
import Derived.Laws.Entries
import Derived.Laws.MakeOwn
import Derived.Laws.OwnMore
import Derived.Laws.Rows
import Derived.Laws.Slices
import Derived.Laws.Tables
import Derived.Orders
namespace Go.VL
set_option linter.unusedVariables false
set_option linter.unusedSimpArgs false
open Go
inductive aj where
 | dead
 | b (x:Bool)
 | n (k:IntKind) (x:Int)
 | s (x:ByteArray)
 | eU
 | dz
 | eL
 | ref (r k i off:Nat)
 | bd (r k bD len:Nat)
 | eM (r c aa:Nat) (h:Option (Nat×Nat))
 | a1 (aa:Nat) (es:List (List aj))
 | di (aa:Nat) (es:List (List aj)) (i off:Nat)
 | er (aa:Nat) (c:Option (List aj))
 | agg (c:List aj)
 | c7 (vs:List aj)
 | fn (f:Nat) (cap:List aj)
 deriving Inhabited
inductive c3 where
 | live|lb|gone
 deriving DecidableEq,Inhabited
structure ao where
 aa:Nat
 es:List (List aj)
 bn:c3
 deriving Inhabited
structure S where
 E:Nat→aj
 aD:Nat→Option (List ao)
abbrev f7 (v:Value):Bool:=v.oneCell'
abbrev cJ:=Nat→Nat→Option (Nat×Nat)
abbrev eX:=Nat→Nat→Option (Nat×Option (Nat×Nat))
abbrev e8:=Nat→Nat→Prop
inductive Pure:aj→Prop
 | dead:Pure .dead
 | b (x:Bool):Pure (.b x)
 | n (k:IntKind) (x:Int):Pure (.n k x)
 | s (x:ByteArray):Pure (.s x)
 | eU:Pure .eU
 | dz:Pure .dz
 | eL:Pure .eL
 | a1 {aa:Nat} {es:List (List aj)} (h : ∀e∈es,∀x∈e,Pure x):Pure (.a1 aa es)
 | di {aa i off:Nat} {es:List (List aj)} (h : ∀e∈es,∀x∈e,Pure x):Pure (.di aa es i off)
 | j5 (aa:Nat):Pure (.er aa none)
 | jQ {aa:Nat} {c:List aj} (h : ∀x∈c,Pure x):Pure (.er aa (some c))
 | agg {c:List aj} (h : ∀x∈c,Pure x):Pure (.agg c)
 | c7 {c:List aj} (h : ∀x∈c,Pure x):Pure (.c7 c)
 | fn {f:Nat} {c:List aj} (h : ∀x∈c,Pure x):Pure (.fn f c)
def gV (es:List (List aj)):Prop:= ∀e∈es,∀x∈e,Pure x
inductive Rel (w:World) (ok:Nat→Prop) (az:e8) (aG:eX):aj→Value→Prop
 | dead (v:Value):Rel w ok az aG .dead v
 | b (x:Bool):Rel w ok az aG (.b x) (.bool x)
 | n (k:IntKind) (x:Int):Rel w ok az aG (.n k x) (.int k x)
 | s (x:ByteArray):Rel w ok az aG (.s x) (.string x)
 | eU:Rel w ok az aG .eU (.pointer none)
 | dz:Rel w ok az aG .dz (.slice none 0 0)
 | eL (a:Addr) (c:Nat):Rel w ok az aG .eL (.slice (some a) 0 c)
 | ki {r k i off:Nat} (a:Option Addr) (hu:az r k) (h : ∀aa p,aG r k≠some (aa,some p)):Rel w ok az aG (.ref r k i off) (.pointer a)
 | ref {r k i off aa b7 m:Nat} (hu:az r k) (h:aG r k=some (aa,some (b7,m))):Rel w ok az aG (.ref r k i off) (.pointer (some ⟨b7,i*aa+off,none⟩))
 | iM {r k bD len:Nat} (a:Option Addr) (l c:Nat) (hu:az r k) (h:aG r k=none):Rel w ok az aG (.bd r k bD len) (.slice a l c)
 | i4 {r k aa:Nat} (hu:az r k) (h:aG r k=some (aa,none)):Rel w ok az aG (.bd r k 0 0) (.slice none 0 0)
 | bd {r k bD len aa b7 m c:Nat} {a:Option Addr} (hu:az r k) (h:aG r k=some (aa,some (b7,m))) (aB:len≤c) (aY:c<9223372036854775808)
  (hm:(bD+c)*aa=m∧(c=0∨a=some ⟨b7,bD*aa,none⟩)):Rel w ok az aG (.bd r k bD len) (.slice a len c)
 | ig {r c aa:Nat} {v:Value} (h:Rel w ok az aG (.a1 aa []) v):Rel w ok az aG (.eM r c aa none) v
 | i9 {r c aa k n:Nat} {v:Value} (h:Rel w ok az aG (.bd r (k+c) 0 n) v):Rel w ok az aG (.eM r c aa (some (k,n))) v
 | dd (aa:Nat) (a:Option Addr) (c:Nat) (h:a=none→c=0):Rel w ok az aG (.a1 aa []) (.slice a 0 c)
 | a1 {aa:Nat} {es:List (List aj)} {b7 off c:Nat} (b5:Nat→Value) (a4:ok b7) (ag:gV es) (aB : ∀e∈es,e.length=aa) (aY:es.length≤c)
  (hw : ∀(j:Nat) x,es.flatten[j]? = some x→w.cell? ⟨b7,off+j,none⟩=some (b5 j)) (fR : ∀(j:Nat) x,es.flatten[j]? = some x→f7 (b5 j)=true)
  (an : ∀(j:Nat) x,es.flatten[j]? = some x→Rel w ok az aG x (b5 j)):Rel w ok az aG (.a1 aa es) (.slice (some ⟨b7,off,none⟩) es.length c)
 | di {aa:Nat} {es:List (List aj)} {b7 o i off:Nat} (b5:Nat→Value) (a4:ok b7) (ag:gV es) (aB : ∀e∈es,e.length=aa)
  (hw : ∀(j:Nat) x,es.flatten[j]? = some x→w.cell? ⟨b7,o+j,none⟩=some (b5 j)) (fR : ∀(j:Nat) x,es.flatten[j]? = some x→f7 (b5 j)=true)
  (an : ∀(j:Nat) x,es.flatten[j]? = some x→Rel w ok az aG x (b5 j)):Rel w ok az aG (.di aa es i off) (.pointer (some ⟨b7,o+(i*aa+off),none⟩))
 | j5 (aa:Nat):Rel w ok az aG (.er aa none) (.pointer none)
 | jQ {aa:Nat} {c:List aj} {v:Value} (h:Rel w ok az aG (.di aa [c] 0 0) v):Rel w ok az aG (.er aa (some c)) v
 | agg {c:List aj} (vs:List Value) (aB:vs.length=c.length) (fR : ∀(j:Nat) v,vs[j]? = some v→f7 v=true)
  (an : ∀(j:Nat) x v,c[j]? = some x→vs[j]? = some v→Rel w ok az aG x v):Rel w ok az aG (.agg c) (.agg vs.toArray)
 | c7 {c:List aj} (vs:List Value) (aB:vs.length=c.length)
  (an : ∀(j:Nat) x v,c[j]? = some x→vs[j]? = some v→Rel w ok az aG x v):Rel w ok az aG (.c7 c) (.tuple vs.toArray)
 | fn {f:Nat} {c:List aj} (vs:List Value) (aB:vs.length=c.length)
  (an : ∀(j:Nat) x v,c[j]? = some x→vs[j]? = some v→Rel w ok az aG x v):Rel w ok az aG (.fn f c) (.func (.func f) #[] vs.toArray)
theorem Rel.mono {w a8:World}{ok hJ:Nat→Prop}{az im:e8}{aG hK:eX}{a:aj}{v:Value}(h:Rel w ok az aG a v)
 (jc : ∀b,ok b→hJ b) (hw : ∀b,ok b→a8.heap[b]? = w.heap[b]?)
 (ff : ∀r k,az r k→im r k) (gY : ∀r k,az r k→hK r k=aG r k∨hK r k=none):Rel a8 hJ im hK a v:=by
 have fR : ∀b o,ok b→a8.cell? ⟨b,o,none⟩=w.cell? ⟨b,o,none⟩:=fun b o a4=>World.cell?_of_block (hw b a4)
 induction h with
 | dead v=>exact .dead v
 | b x=>exact .b x
 | n k x=>exact .n k x
 | s x=>exact .s x
 | eU=>exact .eU
 | dz=>exact .dz
 | eL a c=>exact .eL a c
 | @ki r k i off a hu h =>
  refine .ki a (ff r k hu) fun aa p=> ?_
  rcases gY r k hu with e|e<;>rw [e]
  ·exact h aa p
  ·simp
 | @ref r k i off aa b7 m hu h =>
  rcases gY r k hu with e|e
  ·exact .ref (ff r k hu) (e.trans h)
  ·exact .ki _ (ff r k hu) fun aa p=>by rw [e];simp
 | @iM r k bD len a l c hu h=>exact .iM a l c (ff r k hu) (by rcases gY r k hu with e|e<;>rw [e];exact h)
 | @i4 r k aa hu h =>
  rcases gY r k hu with e|e
  ·exact .i4 (ff r k hu) (e.trans h)
  ·exact .iM _ _ _ (ff r k hu) e
 | @bd r k bD len aa b7 m c a hu h aB aY hm =>
  rcases gY r k hu with e|e
  ·exact .bd (ff r k hu) (e.trans h) aB aY hm
  ·exact .iM _ _ _ (ff r k hu) e
 | ig h ih=>exact .ig ih
 | i9 h ih=>exact .i9 ih
 | dd aa a c h=>exact .dd aa a c h
 | a1 b5 a4 ag aB aY rG eW an ih=>exact .a1 b5 (jc _ a4) ag aB aY (fun j x ab=>(fR _ _ a4).trans (rG j x ab)) eW ih
 | di b5 a4 ag aB rG eW an ih=>exact .di b5 (jc _ a4) ag aB (fun j x ab=>(fR _ _ a4).trans (rG j x ab)) eW ih
 | j5 aa=>exact .j5 aa
 | jQ h ih=>exact .jQ ih
 | agg vs aB eW an ih=>exact .agg vs aB eW ih
 | c7 vs aB an ih=>exact .c7 vs aB ih
 | fn vs aB an ih=>exact .fn vs aB ih
structure G where
 h3:World
 A:Nat→Prop
 kc:Nat→Prop
 N:Nat
 m:Nat
 jW:e8
 lc:eX
def S.az (s:S)(r k:Nat):Prop:=k<((s.aD r).getD []).length
def bN (row:Option (List ao))(k:Nat):Option ao :=
 match row with
 | some l=>match l[k]? with
  | some o=>if o.bn = .gone then none else some o
  | none=>none
 | none=>none
def S.ad (s:S)(r k:Nat):Option ao:=bN (s.aD r) k
def S.aG (s:S)(ai:cJ):eX:=fun r k=>(s.ad r k).map fun o=>(o.aa,ai r k)
def S.hs (s:S)(ai:cJ)(b:Nat):Prop:= ∃r k o m,s.ad r k=some o∧o.bn = .live∧ai r k=some (b,m)
def S.ok (s:S)(g:G)(ai:cJ)(w:World)(b:Nat):Prop :=
 b<w.heap.size∧(g.A b∨g.h3.heap.size≤b∨g.kc b)∧ ¬s.hs ai b
def fc (w:World)(ok:Nat→Prop)(az:e8)(aG:eX)(o:ao):Option (Nat×Nat)→Prop
 | none=>o.es=[]
 | some (b7,m)=> ∃c cn,w.heap[b7]? = some (.cells c cn (0,0))∧c.size=m∧(∀e∈o.es,e.length=o.aa) ∧
  ∀(j:Nat) x,o.es.flatten[j]? = some x→ ∃v,c[j]? = some v∧f7 v=true∧Rel w ok az aG x v
structure rh (g:G) (w:World):Prop where
 os:w.os=g.h3.os
 tape:w.tape=g.h3.tape
 output:w.output=g.h3.output
 size:g.h3.heap.size≤w.heap.size
 block : ∀b,b<g.h3.heap.size→ ¬g.kc b→w.heap[b]? = g.h3.heap[b]?
structure ep (g:G) (s:S) (ai:cJ) (w:World):Prop where
 obj : ∀r k o,s.ad r k=some o→fc w (s.ok g ai w) s.az (s.aG ai) o (ai r k)
 inj : ∀r k o cp bO bf b m cE,s.ad r k=some o→s.ad cp bO=some bf→ai r k=some (b,m)→ai cp bO=some (b,cE)→r=cp∧k=bO
 own : ∀r k o b m,s.ad r k=some o→ai r k=some (b,m)→g.h3.heap.size≤b∨g.kc b
 ei:rh g w
 mlt : ∀b,g.kc b→b<g.h3.heap.size
 iR : ∀b,g.A b→b<g.h3.heap.size
 stay : ∀j k,g.jW j k→s.az j k∧(s.aG ai j k=g.lc j k∨s.aG ai j k=none)
 low : ∀j k,g.jW j k→j<g.m
structure bz (g:G) (s:S) (ai:cJ) (a:Act) (w:World):Prop extends ep g s ai w where
 env : ∀t,Rel w (s.ok g ai w) s.az (s.aG ai) (s.E t) (a.tmps.getD t undef)
 defers:a.defers=[]
 fy:g.N≤a.tmps.size
def ofValue:Value→aj
 | .bool x=> .b x
 | .int k x=> .n k x
 | .string x=> .s x
 | .pointer none=> .eU
 | .slice none 0 0=> .dz
 | _=> .dead
theorem zh {w:World}{ok:Nat→Prop}{az:e8}{aG:eX}(v:Value):Rel w ok az aG (ofValue v) v:=by
 unfold ofValue
 split<;>constructor
def cG (E:Nat→aj):Operand→aj
 | .tmp t=>E t
 | .const v=>ofValue v
 | .global _=> .dead
 | .func f=> .fn f []
theorem bz.eval {g:G}{s:S}{ai:cJ}{a:Act}{w:World}(h:bz g s ai a w)(x:Operand):
 Rel w (s.ok g ai w) s.az (s.aG ai) (cG s.E x) (a.eval x):=by
 cases x with
 | tmp t=>exact h.env t
 | const v=>exact zh v
 | global g=>exact .dead _
 | func f=>exact .fn [] rfl (fun j x v ab=>by simp at ab)
def aj.cells:aj→List aj
 | .agg c=>c
 | x=>[x]
def aj.one:aj→Bool
 | .dead | .agg _ | .c7 _=>false
 | _=>true
def aj.oQ:aj→Bool
 | .dead | .c7 _=>false
 | _=>true
theorem aj.zi {v:aj}(h:v.oQ=true):v.one=true∨ ∃c,v = .agg c:=by
 cases v<;>first|exact .inl rfl|exact .inr ⟨_,rfl⟩|simp [aj.oQ] at h
theorem Rel.f7 {w:World}{ok:Nat→Prop}{az:e8}{aG:eX}{a:aj}{v:Value}(h:Rel w ok az aG a v)(bJ:a.one=true):f7 v=true:=by
 cases h with
 | jQ h=>cases h;rfl
 | ig h=>cases h<;>rfl
 | i9 h=>cases h<;>rfl
 | _=>first|rfl|simp [aj.one] at bJ
theorem Rel.cellsOf {w:World}{ok:Nat→Prop}{az:e8}{aG:eX}{a:aj}{v:Value}(h:Rel w ok az aG a v)(bJ:a.one=true∨ ∃c,a = .agg c):
 ∃vs:List Value,v.cells=vs.toArray∧vs.length=a.cells.length∧(∀(j:Nat) x,vs[j]? = some x→VL.f7 x=true) ∧
  ∀(j:Nat) x u,a.cells[j]? = some x→vs[j]? = some u→Rel w ok az aG x u:=by
 rcases bJ with bJ|⟨c,rfl⟩
 ·have aY:=h.f7 bJ
  refine ⟨[v],?_,?_,?_,?_⟩
  ·cases v<;>first|rfl|simp [VL.f7,Value.oneCell'] at aY
  ·cases a<;>first|rfl|simp [aj.one] at bJ
  ·intro j x ab
   cases j with
   | zero=>simp at ab;subst ab;exact aY
   | succ j=>simp at ab
  ·intro j x u ab hu
   have e:a.cells=[a]:=by cases a<;>first|rfl|simp [aj.one] at bJ
   rw [e] at ab
   cases j with
   | zero=>simp at ab hu;subst ab;subst hu;exact h
   | succ j=>simp at ab
 ·cases h with
  | agg vs aB fR an=>exact ⟨vs,rfl,aB,fR,an⟩
end Go.VL
namespace Go.VL
set_option linter.unusedVariables false
set_option linter.unusedSimpArgs false
open Go
def S.put (s:S)(dst:Option Tmp)(v:aj):S :=
 match dst with
 | some t=>{s with E:=fun u=>if u=t then v else s.E u}
 | none=>s
def S.setRow (s:S)(r:Nat)(row:List ao):S:={s with aD:=fun q=>if q=r then some row else s.aD q}
@[simp] theorem S.mA (s:S) (dst:Option Tmp) (v:aj):(s.put dst v).aD=s.aD:=by cases dst<;>rfl
@[simp] theorem S.J4 (s:S) (r:Nat) (row:List ao):(s.setRow r row).E=s.E:=rfl
theorem qF {s ba:S}(h:ba.aD=s.aD):ba.ad=s.ad:=by funext r k;simp [S.ad,h]
theorem oR {s ba:S}(h:ba.aD=s.aD):ba.az=s.az:=by funext r k;simp [S.az,h]
theorem oS {s ba:S}(h:ba.aD=s.aD)(ai:cJ):ba.aG ai=s.aG ai:=by unfold S.aG;rw [qF h]
theorem EM {s ba:S}(h:ba.aD=s.aD)(ai:cJ):ba.hs ai=s.hs ai:=by unfold S.hs;rw [qF h]
theorem qG {s ba:S}(h:ba.aD=s.aD)(g:G)(ai:cJ)(w:World):ba.ok g ai w=s.ok g ai w:=by
 funext b;unfold S.ok;rw [EM h]
theorem ep.congr {g:G}{s ba:S}{ai:cJ}{w:World}(h:ep g s ai w)(e:ba.aD=s.aD):ep g ba ai w where
 obj:=by rw [qF e,oR e,oS e,qG e];exact h.obj
 inj:=by rw [qF e];exact h.inj
 own:=by rw [qF e];exact h.own
 ei:=h.ei
 mlt:=h.mlt
 iR:=h.iR
 stay:=by rw [oR e,oS e];exact h.stay
 low:=h.low
theorem FY (a:Act)(dst:Option Tmp)(v:Value)(t:Nat)(cx:∀d,dst=some d→d<a.tmps.size):
 (a.put dst v).tmps.getD t undef=if dst=some t then v else a.tmps.getD t undef:=by
 cases dst with
 | none=>simp [Act.put]
 | some d =>
  have:=cx d rfl
  simp only [Act.put,Array.getD_eq_getD_getElem?,Array.getElem?_setIfInBounds,Option.some.injEq]
  by_cases e:d=t
  ·subst e;simp [this]
  ·simp [e]
theorem bz.put {g:G}{s:S}{ai:cJ}{a:Act}{w:World}(h:bz g s ai a w)(dst:Option Tmp){x:aj}{v:Value}
 (bc : ∀d,dst=some d→d<g.N) (an:Rel w (s.ok g ai w) s.az (s.aG ai) x v):bz g (s.put dst x) ai (a.put dst v) w where
 toep:=h.toep.congr (S.mA s dst x)
 env:=by
  have e:=S.mA s dst x
  rw [qG e,oR e,oS e]
  intro t
  rw [FY a dst v t fun d Ik=>Nat.lt_of_lt_of_le (bc d Ik) h.fy]
  cases dst with
  | none=>simpa [S.put] using h.env t
  | some d =>
   simp only [S.put,Option.some.injEq]
   by_cases e:t=d
   ·subst e;simpa using an
   ·rw [if_neg e,if_neg (Ne.symm e)];exact h.env t
 defers:=by cases dst<;>exact h.defers
 fy:=by cases dst<;>simpa [Act.put] using h.fy
structure Step (g:G) (s:S) (ai:cJ) (w:World) (ba:S) (a5:cJ) (a8:World):Prop where
 az : ∀r k,s.az r k→ba.az r k
 aG : ∀r k,s.az r k→ba.aG a5 r k=s.aG ai r k∨ba.aG a5 r k=none
 live : ∀b,ba.hs a5 b→s.hs ai b∨w.heap.size≤b
 heap : ∀b,b<w.heap.size→ ¬s.hs ai b→a8.heap[b]? = w.heap[b]?
 size:w.heap.size≤a8.heap.size
theorem Step.ok {g:G}{s ba:S}{ai a5:cJ}{w a8:World}(h:Step g s ai w ba a5 a8)(b:Nat)(a4:s.ok g ai w b):ba.ok g a5 a8 b :=
 ⟨Nat.lt_of_lt_of_le a4.1 h.size,a4.2.1,fun aB=>by
  rcases h.live b aB with I|I
  ·exact a4.2.2 I
  ·exact absurd a4.1 (by omega)⟩
theorem Step.rel {g:G}{s ba:S}{ai a5:cJ}{w a8:World}(h:Step g s ai w ba a5 a8){x:aj}{v:Value}
 (an:Rel w (s.ok g ai w) s.az (s.aG ai) x v):Rel a8 (ba.ok g a5 a8) ba.az (ba.aG a5) x v :=
 an.mono h.ok (fun b a4=>h.heap b a4.1 a4.2.2) h.az h.aG
theorem Step.obj {g:G}{s ba:S}{ai a5:cJ}{w a8:World}(h:Step g s ai w ba a5 a8){o:ao}{p:Option (Nat×Nat)}
 (ag : ∀b m,p=some (b,m)→a8.heap[b]? = w.heap[b]?) (af:fc w (s.ok g ai w) s.az (s.aG ai) o p) :
 fc a8 (ba.ok g a5 a8) ba.az (ba.aG a5) o p:=by
 cases p with
 | none=>exact af
 | some q =>
  obtain ⟨b,m⟩:=q
  obtain ⟨c,cn,I,R,av,aR⟩:=af
  refine ⟨c,cn,(ag b m rfl).trans I,R,av,fun j x ab=> ?_⟩
  obtain ⟨v,ar,aE,br⟩:=aR j x ab
  exact ⟨v,ar,aE,h.rel br⟩
theorem Step.stay {g:G}{s ba:S}{ai a5:cJ}{w a8:World}(h:Step g s ai w ba a5 a8)
 (bR : ∀j k,g.jW j k→s.az j k∧(s.aG ai j k=g.lc j k∨s.aG ai j k=none)) : ∀j k,g.jW j k→ba.az j k∧(ba.aG a5 j k=g.lc j k∨ba.aG a5 j k=none):=by
 intro j k aC
 obtain ⟨I,R⟩:=bR j k aC
 refine ⟨h.az j k I,?_⟩
 rcases h.aG j k I with e|e
 ·rw [e];exact R
 ·exact .inr e
theorem rh.step {g:G}{w a8:World}(h:rh g w)(I:a8.os=w.os)(R:a8.tape=w.tape)(av:a8.output=w.output)(aR:w.heap.size≤a8.heap.size)
 (bC : ∀b,b<g.h3.heap.size→ ¬g.kc b→a8.heap[b]? = w.heap[b]?):rh g a8 :=
 ⟨I.trans h.os,R.trans h.tape,av.trans h.output,Nat.le_trans h.size aR,fun b a4 hm=>(bC b a4 hm).trans (h.block b a4 hm)⟩
theorem ha (s:S)(r:Nat)(row:List ao)(q k:Nat):(s.setRow r row).ad q k=if q=r then bN (some row) k else s.ad q k:=by
 unfold S.ad S.setRow
 by_cases e:q=r<;>simp [e]
theorem iL (s:S)(r:Nat)(row:List ao)(q k:Nat):(s.setRow r row).az q k↔(if q=r then k<row.length else s.az q k):=by
 unfold S.az S.setRow
 by_cases e:q=r<;>simp [e]
theorem s6 {s:S}{r k:Nat}{o:ao}(h:s.ad r k=some o):s.az r k:=by
 unfold S.ad bN at h
 unfold S.az
 cases an:s.aD r with
 | none=>rw [an] at h;simp at h
 | some l =>
  rw [an] at h
  simp only at h
  rcases Nat.lt_or_ge k l.length with I|I
  ·simpa using I
  ·rw [List.getElem?_eq_none I] at h;simp at h
theorem oz {s:S}{r:Nat}(h:s.aD r=none)(k:Nat): ¬s.az r k:=by simp [S.az,h]
theorem sN (s:S){r:Nat}{l row:List ao}(an:s.aD r=some l)(aB:l.length≤row.length)(q k:Nat)(h:s.az q k):(s.setRow r row).az q k:=by
 rw [iL]
 by_cases e:q=r
 ·subst e;rw [if_pos rfl];simp [S.az,an] at h;omega
 ·rw [if_neg e];exact h
theorem JC {s:S}{r:Nat}(h:s.aD r=none)(k:Nat):s.ad r k=none:=by simp [S.ad,h,bN]
def cJ.set (ai:cJ)(r k:Nat)(p:Option (Nat×Nat)):cJ:=fun q j=>if q=r∧j=k then p else ai q j
theorem hF (o:ao)(k:Nat):bN (some [o]) k=if k=0∧o.bn≠ .gone then some o else none:=by
 unfold bN
 cases k with
 | zero=>by_cases h:o.bn = .gone<;>simp [h]
 | succ k=>simp
theorem Rel.drew {w:World}{ok:Nat→Prop}{az:e8}{aG:eX}{x:aj}{v:Value}(h:Rel w ok az aG x v):Rel w.drew ok az aG x v :=
 h.mono (fun _ h=>h) (fun _ _=>rfl) (fun _ _ h=>h) (fun _ _ _=> .inl rfl)
theorem fc.drew {w:World}{ok:Nat→Prop}{az:e8}{aG:eX}{o:ao}{p:Option (Nat×Nat)}(h:fc w ok az aG o p):fc w.drew ok az aG o p:=by
 cases p with
 | none=>exact h
 | some q =>
  obtain ⟨c,cn,I,R,av,aR⟩:=h
  exact ⟨c,cn,I,R,av,fun j x ab=>let ⟨v,a,b,c⟩:=aR j x ab;⟨v,a,b,c.drew⟩⟩
theorem ep.drew {g:G}{s:S}{ai:cJ}{w:World}(h:ep g s ai w):ep g s ai w.drew :=
 {obj:=fun r k o af=>(h.obj r k o af).drew,inj:=h.inj,own:=h.own,ei:=⟨h.ei.os,h.ei.tape,h.ei.output,h.ei.size,h.ei.block⟩,mlt:=h.mlt,iR:=h.iR,stay:=h.stay,low:=h.low}
theorem bz.drew {g:G}{s:S}{ai:cJ}{a:Act}{w:World}(h:bz g s ai a w):bz g s ai a w.drew where
 toep:=h.toep.drew
 env:=fun t=>(h.env t).drew
 defers:=h.defers
 fy:=h.fy
theorem bz.alloc {g:G}{s:S}{ai:cJ}{a:Act}{w:World}(h:bz g s ai a w){r:Nat}(an:s.aD r=none)(o:ao)(a3:o.bn = .live)
 (c:Array Value) (cn:TypeId) (hlen : ∀e∈o.es,e.length=o.aa)
 (aY : ∀(j:Nat) x,o.es.flatten[j]? = some x→ ∃v,c[j]? = some v∧f7 v=true∧Rel w (s.ok g ai w) s.az (s.aG ai) x v) :
 ∃a5,a5 r 0=some (w.heap.size,c.size)∧bz g (s.setRow r [o]) a5 a (w.alloc (.cells c cn)) ∧
  ∀x v,Rel w (s.ok g ai w) s.az (s.aG ai) x v→Rel (w.alloc (.cells c cn)) ((s.setRow r [o]).ok g a5 (w.alloc (.cells c cn))) (s.setRow r [o]).az ((s.setRow r [o]).aG a5) x v:=by
 have hj : ∀q k,q≠r→(ai.set r 0 (some (w.heap.size,c.size))) q k=ai q k:=fun q k aL=>by simp [cJ.set,aL]
 have aK : ∀q k,q≠r→(s.setRow r [o]).ad q k=s.ad q k:=fun q k aL=>by rw [ha,if_neg aL]
 have o9 : ∀k,(s.setRow r [o]).ad r k=if k=0 then some o else none:=fun k=>by
  rw [ha,if_pos rfl,hF];simp [a3]
 have l6 : ∀q k p b m,s.ad q k=some p→ai q k=some (b,m)→b<w.heap.size:=fun q k p b m ag aL=>by
  have:=h.obj q k p ag
  rw [aL] at this
  obtain ⟨bV,hZ,cV,_⟩:=this
  exact (Array.getElem?_eq_some_iff.1 cV).1
 have b9:Step g s ai w (s.setRow r [o]) (ai.set r 0 (some (w.heap.size,c.size))) (w.alloc (.cells c cn)):=by
  refine ⟨fun q k aL=>(iL _ _ _ _ _).2 (by rw [if_neg (by rintro rfl;exact oz an k aL)];exact aL),fun q k aL=> ?_,fun b a4=> ?_,fun b a4 _=>heap_alloc_old w _ b a4,by simp⟩
  ·have b6:q≠r:=by rintro rfl;exact oz an k aL
   left
   simp only [S.aG,aK q k b6,hj q k b6]
  ·obtain ⟨q,k,p,m,I,R,av⟩:=a4
   by_cases e:q=r
   ·subst e
    rw [o9] at I
    by_cases e0:k=0
    ·subst e0;simp [cJ.set] at av;right;omega
    ·simp [e0] at I
   ·rw [aK q k e] at I;rw [hj q k e] at av
    exact .inl ⟨q,k,p,m,I,R,av⟩
 refine ⟨ai.set r 0 (some (w.heap.size,c.size)),by simp [cJ.set],?_,fun x v=>b9.rel⟩
 refine {toep:=⟨?_,?_,?_,?_,h.mlt,h.iR,b9.stay h.stay,h.low⟩,env:=fun t=>b9.rel (h.env t),defers:=h.defers,fy:=h.fy}
 ·intro q k p ag
  by_cases e:q=r
  ·subst e
   rw [o9] at ag
   by_cases e0:k=0
   ·subst e0
    simp at ag
    subst ag
    simp only [cJ.set,and_self,if_true]
    exact ⟨c,cn,heap_alloc_new w _,rfl,hlen,fun j x ab=>let ⟨v,ar,aE,br⟩:=aY j x ab;⟨v,ar,aE,b9.rel br⟩⟩
   ·simp [e0] at ag
  ·rw [aK q k e] at ag
   rw [hj q k e]
   exact b9.obj (fun b m hm=>heap_alloc_old w _ b (l6 q k p b m ag hm)) (h.obj q k p ag)
 ·intro q k p dZ bO gG b m cE I R av aR
  by_cases e:q=r<;>by_cases cB:dZ=r
  ·subst e;subst cB
   rw [o9] at I R
   by_cases e0:k=0<;>by_cases ar:bO=0<;>simp [e0,ar] at I R
   exact ⟨rfl,by omega⟩
  ·subst e
   rw [o9] at I;rw [aK _ _ cB] at R;rw [hj _ _ cB] at aR
   by_cases e0:k=0<;>simp [e0] at I
   subst e0
   simp [cJ.set] at av
   have:=l6 dZ bO gG b cE R aR
   omega
  ·subst cB
   rw [aK _ _ e] at I;rw [o9] at R;rw [hj _ _ e] at av
   by_cases e0:bO=0<;>simp [e0] at R
   subst e0
   simp [cJ.set] at aR
   have:=l6 q k p b m I av
   omega
  ·rw [aK _ _ e] at I;rw [aK _ _ cB] at R;rw [hj _ _ e] at av;rw [hj _ _ cB] at aR
   exact h.inj q k p dZ bO gG b m cE I R av aR
 ·intro q k p b m I R
  by_cases e:q=r
  ·subst e
   rw [o9] at I
   by_cases e0:k=0<;>simp [e0] at I
   subst e0
   simp [cJ.set] at R
   left
   have:=h.ei.size
   omega
  ·rw [aK _ _ e] at I;rw [hj _ _ e] at R
   exact h.own q k p b m I R
 ·exact h.ei.step rfl rfl rfl (by simp) fun b a4 _=>heap_alloc_old w _ b (Nat.lt_of_lt_of_le a4 h.ei.size)
theorem Af (l:List ao)(k:Nat)(o bf:ao)(h:bN (some l) k=some o)(a3:bf.bn≠ .gone)(j:Nat):
 bN (some (l.set k bf)) j=if j=k then some bf else bN (some l) j:=by
 unfold bN at *
 have cf:k<l.length:=by
  rcases Nat.lt_or_ge k l.length with I|I
  ·exact I
  ·simp [List.getElem?_eq_none I] at h
 by_cases e:j=k
 ·subst e;simp [cf,a3]
 ·simp only [List.getElem?_set,if_neg (Ne.symm e),if_neg e]
theorem bz.write {g:G}{s:S}{ai:cJ}{a:Act}{w a8:World}(h:bz g s ai a w){r k b m:Nat}{l:List ao}{o:ao}(an:s.aD r=some l)(af:s.ad r k=some o)
 (a3:o.bn = .live) (ag:ai r k=some (b,m)) (es:List (List aj)) (c:Array Value) (cn:TypeId)
 (hw:a8.heap[b]? = some (.cells c cn (0,0))) (cx:a8.heap.size=w.heap.size) (nv : ∀q,q≠b→a8.heap[q]? = w.heap[q]?)
 (xp:a8.os=w.os) (xq:a8.tape=w.tape) (xd:a8.output=w.output) (hm:c.size=m)
 (hlen : ∀e∈es,e.length=o.aa)
 (aY : ∀(j:Nat) x,es.flatten[j]? = some x→ ∃v,c[j]? = some v∧f7 v=true∧Rel w (s.ok g ai w) s.az (s.aG ai) x v) :
 bz g (s.setRow r (l.set k {o with es})) ai a a8 ∧
  ∀x v,Rel w (s.ok g ai w) s.az (s.aG ai) x v→Rel a8 ((s.setRow r (l.set k {o with es})).ok g ai a8) (s.setRow r (l.set k {o with es})).az ((s.setRow r (l.set k {o with es})).aG ai) x v:=by
 have jv:({o with es}:ao).bn≠ .gone:=by rw [a3];simp
 have aK : ∀q j,(s.setRow r (l.set k {o with es})).ad q j=if q=r∧j=k then some {o with es} else s.ad q j:=by
  intro q j
  rw [ha]
  by_cases e:q=r
  ·subst e
   have b4:bN (some l) k=some o:=by rw [← an];exact af
   rw [if_pos rfl,Af l k o _ b4 jv]
   by_cases aE:j=k<;>simp [aE,S.ad,an]
  ·simp [e]
 have kl:s.hs ai b:=⟨r,k,o,m,af,a3,ag⟩
 have b9:Step g s ai w (s.setRow r (l.set k {o with es})) ai a8:=by
  refine ⟨sN s an (by simp),fun q j aL=> .inl ?_,fun q aL=> ?_,fun q aL aB=>nv q fun e=>aB (e▸kl),Nat.le_of_eq cx.symm⟩
  ·simp only [S.aG,aK]
   by_cases e:q=r∧j=k
   ·obtain ⟨rfl,rfl⟩:=e;simp [af]
   ·rw [if_neg e]
  ·obtain ⟨dZ,j,p,cE,I,R,av⟩:=aL
   rw [aK] at I
   by_cases e:dZ=r∧j=k
   ·obtain ⟨rfl,rfl⟩:=e
    exact .inl ⟨dZ,j,o,cE,af,a3,av⟩
   ·rw [if_neg e] at I
    exact .inl ⟨dZ,j,p,cE,I,R,av⟩
 refine ⟨{toep:=⟨?_,?_,?_,?_,h.mlt,h.iR,b9.stay h.stay,h.low⟩,env:=fun t=>b9.rel (h.env t),defers:=h.defers,fy:=h.fy},fun x v=>b9.rel⟩
 ·intro q j p gi
  rw [aK] at gi
  by_cases e:q=r∧j=k
  ·obtain ⟨rfl,rfl⟩:=e
   simp at gi
   subst gi
   rw [ag]
   exact ⟨c,cn,hw,hm,hlen,fun j x ab=>let ⟨v,ar,aE,br⟩:=aY j x ab;⟨v,ar,aE,b9.rel br⟩⟩
  ·rw [if_neg e] at gi
   refine b9.obj (fun gb cE gZ=>nv gb ?_) (h.obj q j p gi)
   rintro rfl
   exact e (h.inj q j p r k o gb cE m gi af gZ ag)
 ·intro q j p dZ fD gG gb eY d7 I R av aR
  have key : ∀q j p,(s.setRow r (l.set k {o with es})).ad q j=some p→ ∃gG,s.ad q j=some gG:=by
   intro q j p aL
   rw [aK] at aL
   by_cases e:q=r∧j=k
   ·obtain ⟨rfl,rfl⟩:=e;exact ⟨o,af⟩
   ·rw [if_neg e] at aL;exact ⟨p,aL⟩
  obtain ⟨eG,Il⟩:=key q j p I
  obtain ⟨eA,rH⟩:=key dZ fD gG R
  exact h.inj q j eG dZ fD eA gb eY d7 Il rH av aR
 ·intro q j p gb cE I R
  rw [aK] at I
  by_cases e:q=r∧j=k
  ·obtain ⟨rfl,rfl⟩:=e;exact h.own q j o gb cE af R
  ·rw [if_neg e] at I;exact h.own q j p gb cE I R
 ·refine h.ei.step xp xq xd (Nat.le_of_eq cx.symm) fun gb rI gZ=>nv gb ?_
  rintro rfl
  rcases h.own r k o gb m af ag with I|I
  ·omega
  ·exact gZ I
end Go.VL
namespace Go.VL
set_option linter.unusedVariables false
set_option linter.unusedSimpArgs false
open Go
inductive me where
 | id
 | fU (es:List (List aj))
 | jB (aa:Nat)
 | fE
 | gH (x:aj)
 | len (n:Nat)
 | x9 (aa:Nat)
 | at_ (j i n:Nat)
 | view (bS:Nat) (o:ao) (es:List (List aj))
 deriving Inhabited
inductive pF where
 | dp (c:me)
 | ptr (l:List me)
 | tK (l:List me)
 | agg (l:List me)
 deriving Inhabited
inductive g6 where
 | bF (c:pF)
 | comp (l:List pF)
 deriving Inhabited
inductive eH where
 | pure
 | box (l:List me)
 | gH (row:List ao)
 | cK (row:List ao)
 | rx (row:List ao)
 | drop
 deriving Inhabited
structure iS where
 bc:List (Nat×Nat):=[]
 fF:Option (Nat×Nat):=none
 deriving DecidableEq
inductive Src where
 | row (r:Nat)
 | ad (r k:Nat) (o:ao)
 deriving Inhabited
structure sf where
 au:List Src:=[]
 bs:List eH:=[]
 ac:List g6
 r:aj
 bW:List (List ao):=[]
 cz:g6:= .bF (.dp .id)
 cO:List eH:=[]
 cy:List Nat:=[]
 cj:Bool:=true
inductive cU where
 | none
 | aH (t:Bool)
 | c4 (c:List aj)
 | ri (o:ao) (c:List aj)
 | gd
 | call (c:sf)
 | aW (m:Nat) (o:Option ao:=Option.none)
 | dB (t:Nat) (v:aj) (a:cU)
 | pG (r:Nat) (a:cU)
 | gj (r n:Nat) (a:cU)
structure et where
 val:aj
 cZ:List (Nat×List ao):=[]
 cR:List Prop:=[]
def qU (P:Program)(t:TypeId):Bool :=
 match P.underlying t with
 | some (.struct _)|some (.array _ _)=>true
 | _=>false
def lA (iY:List Int):ByteArray:=iY.foldl (fun r n=>r.push (UInt8.ofNat n.toNat)) ByteArray.empty
def bytesOf:List (List aj)→Option (List Int)
 | []=>some []
 | [.n .u8 n]::es=>(bytesOf es).map (n :: ·)
 | _=>none
def elemAt (es:List (List aj))(i:Nat):cU→Option (List aj×List Prop)
 | .c4 c=>some (c,[es[i]? = some c])
 | .ri _ c=>some (c,[es[i]? = some c])
 | _=>match es[i]? with
  | some c=>some (c,[])
  | none=>none
def jR (row:Option (List ao))(k:Nat):cU→Option (ao×List Prop)
 | .ri o _=>match row with
  | some row=>some (o,[bN (some row) k=some o])
  | none=>none
 | _=>match bN row k with
  | some o=>some (o,[])
  | none=>none
def lX (P:Program)(t:TypeId)(c:List aj)(off:Nat):Option aj :=
 if !((P.underlying t).isSome && (P.info? t).isSome) then none else
 if qU P t then (if off+P.cellsOf t≤c.length then some (.agg ((c.drop off).take (P.cellsOf t))) else none)
 else match c[off]? with
  | some x=>if x.one then some x else none
  | none=>none
def xe (op:BinOp)(x y:aj):Option (aj×List Prop) :=
 match x,y with
 | .n k a,.n bO b =>
  match op with
  | .shl=>some (.n k (k.wrap (a*2 ^ (min b.toNat k.bits))),[0≤b])
  | .shr=>some (.n k (a.fdiv (2 ^ (min b.toNat k.bits))),[0≤b])
  | _=>if k≠bO then none else
   match op with
   | .add=>some (.n k (k.wrap (a+b)),[])
   | .sub=>some (.n k (k.wrap (a-b)),[])
   | .mul=>some (.n k (k.wrap (a*b)),[])
   | .quo=>some (.n k (k.wrap (a.tdiv b)),[b≠0])
   | .rem=>some (.n k (a.tmod b),[b≠0])
   | .and=>some (.n k (k.wrap ((BitVec.ofInt k.bits a &&& BitVec.ofInt k.bits b).toNat)),[])
   | .or=>some (.n k (k.wrap ((BitVec.ofInt k.bits a ||| BitVec.ofInt k.bits b).toNat)),[])
   | .xor=>some (.n k (k.wrap ((BitVec.ofInt k.bits a ^^^ BitVec.ofInt k.bits b).toNat)),[])
   | .eql=>some (.b (a == b),[])
   | .neq=>some (.b (a != b),[])
   | .lss=>some (.b (decide (a<b)),[])
   | .leq=>some (.b (decide (a≤b)),[])
   | .gtr=>some (.b (decide (b<a)),[])
   | .geq=>some (.b (decide (b≤a)),[])
   | _=>none
 | .s a,.s b =>
  match op with
  | .add=>some (.s (a++b),[a.size+b.size<9223372036854775808])
  | .eql=>some (.b (a.toList == b.toList),[])
  | .neq=>some (.b (!(a.toList == b.toList)),[])
  | _=>none
 | _,_=>none
def lC (P:Program)(t:TypeId)(x y:aj):Option Bool :=
 match P.underlying t,x,y with
 | some .bool,.b a,.b c=>some (a == c)
 | some (.pointer _),.eU,.eU=>some true
 | some (.pointer _),.di ..,.eU=>some false
 | some (.pointer _),.eU,.di .. => some false
 | some (.slice _),.dz,.dz=>some true
 | some (.slice _),.eL,.dz=>some false
 | _,_,_=>none
def xr (op:UnOp)(x:aj):Option aj :=
 match op,x with
 | .neg,.n k a=>some (.n k (k.wrap (0-a)))
 | .not,.b a=>some (.b (!a))
 | _,_=>none
def fieldsOf (P:Program)(t:TypeId):Option (Array Field) :=
 match P.underlying t with
 | some (.struct gA)=>some gA
 | _=>none
def km (P:Program)(t:TypeId):Option TypeId :=
 match P.underlying t with
 | some (.slice e)=>some e
 | _=>none
def k2 (P:Program)(t:TypeId):Option (List aj) :=
 match P.info? t with
 | some i=>match i.zero with
  | some v=>if v.cells.toList.all (·.oneCell') then some (v.cells.toList.map ofValue) else none
  | none=>none
 | none=>none
def qV:aj→aj→aj
 | .dz,.a1 aa []=> .a1 aa []
 | .eU,.er aa none=> .er aa none
 | .dz,.eM r c aa none=> .eM r c aa none
 | x,_=>x
def k4:List aj→List aj→List aj
 | x::z,y::c=>qV x y::k4 z c
 | z,_=>z
def lY (z:List aj):cU→List aj
 | .c4 c=>k4 z c
 | _=>z
def setCells (c:List aj)(off:Nat)(vs:List aj):List aj:=c.take off++vs++c.drop (off+vs.length)
def mB:List aj→List (Nat×Nat×aj)→Option (List aj)
 | c,[]=>some c
 | c,(off,size,x)::rest =>
  if x.oQ && x.cells.length=size && decide (off+size≤c.length) then mB (setCells c off x.cells) rest else none
def o3 (aa:Nat):List (List aj)→List (Nat×aj)→Option (List (List aj))
 | es,[]=>some es
 | es,(i,x)::rest=>if x.oQ && x.cells.length=aa && decide (i<es.length) then o3 aa (es.set i x.cells) rest else none
def bp:Option aj→Nat→Option (Nat×List Prop)
 | none,d=>some (d,[])
 | some (.n _ x),_=>some (x.toNat,[0≤x])
 | _,_=>none
def cu (P:Program)(E:Nat→aj)(aD:Nat→Option (List ao))(aw:Nat)(o:Oper)(bA:cU):Option et :=
 let eB:=cG E
 match o.op with
 | .move x | .assign x=>some {val:=eB x}
 | .pick c a b =>
  match eB c,bA with
  | .b x,.aH t=>some {val:=if t then eB a else eB b,cR:=[x=t]}
  | .b true,_=>some {val:=eB a}
  | .b false,_=>some {val:=eB b}
  | _,_=>none
 | .alloc t =>
  match k2 P t with
  | some c=>some {val:= .ref aw 0 0 0,cZ:=[(aw,[⟨c.length,[c],.live⟩])]}
  | none=>none
 | .box _ x =>
  match eB x with
  | .agg c=>some {val:= .ref aw 0 0 0,cZ:=[(aw,[⟨c.length,[c],.live⟩])]}
  | v=>if v.one then some {val:= .ref aw 0 0 0,cZ:=[(aw,[⟨1,[[v]],.live⟩])]} else none
 | .load t x =>
  match eB x with
  | .ref r k i off =>
   match jR (aD r) k bA with
   | some (ad,aP)=>match elemAt ad.es i bA with
    | some (c,bb)=>match lX P t c off with
     | some v=>some {val:=v,cR:=aP++bb}
     | none=>none
    | none=>none
   | none=>none
  | .di _ es i off =>
   match elemAt es i bA with
   | some (c,bb)=>match lX P t c off with
    | some v=>some {val:=v,cR:=bb}
    | none=>none
   | none=>none
  | _=>none
 | .store t x y =>
  match eB x with
  | .ref r k i off =>
   match aD r with
   | none=>none
   | some row =>
   match jR (some row) k bA with
   | some (ad,aP) =>
    if ad.bn≠ .live then none else
    let v:=eB y
    if v.oQ=false then none else
    if v.cells.length≠P.cellsOf t∨(P.info? t).isSome=false then none else
    match bA with
    | .gd=>if off=0 then some {val:= .dead,cZ:=[(r,row.set k {ad with es:=ad.es.set i v.cells})],cR:=aP++[i<ad.es.length,v.cells.length=ad.aa]} else none
    | _=>match elemAt ad.es i bA with
     | some (c,bb)=>if off+v.cells.length≤c.length then some {val:= .dead,cZ:=[(r,row.set k {ad with es:=ad.es.set i (setCells c off v.cells)})],cR:=aP++bb} else none
     | none=>none
   | none=>none
  | _=>none
 | .nilCheck x =>
  match eB x with
  | .ref r k i off=>match jR (aD r) k bA with
   | some (ad,aP)=>match elemAt ad.es i bA with
    | some (_,bb)=>some {val:= .ref r k i off,cR:=aP++bb}
    | none=>none
   | none=>none
  | .di aa es i off=>some {val:= .di aa es i off}
  | .fn f c=>some {val:= .fn f c}
  | _=>none
 | .binOp op t x y _ =>
  match xe op (eB x) (eB y) with
  | some (v,ad)=>some {val:=v,cR:=ad}
  | none=>match op with
   | .eql=>(lC P t (eB x) (eB y)).map fun r=>{val:= .b r}
   | .neq=>(lC P t (eB x) (eB y)).map fun r=>{val:= .b (!r)}
   | _=>none
 | .unOp op _ x=>(xr op (eB x)).map fun v=>{val:=v}
 | .convert src dst x =>
  match P.underlying dst,eB x with
  | some (.int k),.n _ a=>if (P.underlying src).isSome then some {val:= .n k (k.wrap a)} else none
  | some .string,.bd r k bD len =>
   match (km P src).bind P.underlying,bN (aD r) k with
   | some (.int .u8),some ad=>match bytesOf ((ad.es.drop bD).take len) with
    | some iY=>if bD+len≤ad.es.length∧ad.aa=1 then some {val:= .s (lA iY)} else none
    | none=>none
   | _,_=>none
  | _,_=>none
 | .makeFunc (.func f) first captured =>
  if first.size=0 then some {val:= .fn f (captured.toList.map eB)} else none
 | .makeSlice t l c =>
  match km P t,eB l,eB c with
  | some e,.n _ l,.n _ c =>
   match P.info? e,k2 P e with
   | some i,some z=>if z.length=i.size then some {val:= .bd aw 0 0 l.toNat,cZ:=[(aw,[⟨z.length,List.replicate l.toNat (lY z bA),.live⟩])],cR:=[0≤l,l≤c,(i.bytes:Int)*c≤281474976710656,c<9223372036854775808]} else none
   | _,_=>none
  | _,_,_=>none
 | .fieldAddr t x f =>
  match fieldsOf P t with
  | some gA=>match gA[f]? with
   | some fd=>if P.cellsOf fd.type=0 then none else
    match eB x with
    | .ref r k i off=>match jR (aD r) k bA with
     | some (ad,aP)=>match elemAt ad.es i bA with
      | some (_,bb)=>some {val:= .ref r k i (off+fd.offset),cR:=aP++bb}
      | none=>none
     | none=>none
    | .di aa es i off=>some {val:= .di aa es i (off+fd.offset)}
    | _=>none
   | none=>none
  | none=>none
 | .field t x f =>
  match fieldsOf P t with
  | some gA=>match gA[f]?,eB x with
   | some fd,.agg c=>(lX P fd.type c fd.offset).map fun v=>{val:=v}
   | _,_=>none
  | none=>none
 | .indexAddr t x h4 =>
  match km P t,eB h4 with
  | some e,.n _ j =>
   match eB x with
   | .a1 aa es=>if aa=P.cellsOf e∧aa≠0 then some {val:= .di aa es j.toNat 0,cR:=[0≤j,j<es.length]} else none
   | .bd r k bD len=>match aD r with
    | some row=>match jR (some row) k bA with
     | some (ad,aP)=>if ad.aa=P.cellsOf e∧ad.aa≠0 then some {val:= .ref r k (bD+j.toNat) 0,cR:=aP++[0≤j,j<len]} else none
     | none=>none
    | none=>none
   | _=>none
  | _,_=>none
 | .index t x h4 =>
  match P.underlying t,eB x,eB h4 with
  | some .string,.s s,.n _ j=>some {val:= .n .u8 (s.data.toList.getD j.toNat 0).toNat,cR:=[0≤j,j<s.size]}
  | _,_,_=>none
 | .extract x i =>
  match eB x with
  | .c7 vs=>(vs[i]?).map fun v=>{val:=v}
  | _=>none
 | .slice t x bD aA none =>
  match P.underlying t,eB x with
  | some (.slice e),.a1 aa es =>
   match bp (bD.map eB) 0,bp (aA.map eB) es.length with
   | some (l,aP),some (h,bb)=>if aa=P.cellsOf e∧aa≠0 then some {val:= .a1 aa ((es.drop l).take (h-l)),cR:=aP++bb++[l≤h,h≤es.length]} else none
   | _,_=>none
  | some (.slice e),.bd r k Cx len =>
   match aD r with
   | none=>none
   | some row=>match jR (some row) k bA with
    | none=>none
    | some (ad,Cy) =>
     match bp (bD.map eB) 0,bp (aA.map eB) len with
     | some (l,aP),some (h,bb)=>if ad.aa=P.cellsOf e∧ad.aa≠0 then some {val:= .bd r k (Cx+l) (h-l),cR:=Cy++aP++bb++[l≤h,h≤len]} else none
     | _,_=>none
  | some .string,.s s =>
   match bp (bD.map eB) 0,bp (aA.map eB) s.size with
   | some (l,aP),some (h,bb)=>some {val:= .s (s.extract l h),cR:=aP++bb++[l≤h,h≤s.size]}
   | _,_=>none
  | _,_=>none
 | .build t parts =>
  match fieldsOf P t,k2 P t with
  | some gA,some z =>
   if gA.toList.all (fun f=>(P.info? f.type).isSome)=false then none else
   match parts.toList.mapM fun (p:Nat×Operand)=>(gA[p.1]?).map fun fd=>(fd.offset,P.cellsOf fd.type,eB p.2) with
   | some l=>(mB z l).map fun c=>{val:= .agg c}
   | none=>none
  | _,_=>none
 | .buildSlice t len parts =>
  match km P t with
  | some e=>match k2 P e with
   | some z =>
    if len*z.length>16777216∨z.length≠P.cellsOf e∨z.length=0 then none else
    match o3 z.length (List.replicate len z) (parts.toList.map fun p=>(p.1,eB p.2)) with
    | some es=>some {val:= .bd aw 0 0 len,cZ:=[(aw,[⟨z.length,es,.live⟩])]}
    | none=>none
   | none=>none
  | none=>none
 | .call {callee:= .builtin .len,args,argTypes} =>
  match args.toList.map eB,P.underlying (argTypes.getD 0 0),decide (argTypes.size=1) with
  | [.a1 _ es],some (.slice _),true=>some {val:= .n .i64 es.length}
  | [.bd r k _ len],some (.slice _),true=>match aD r with
   | some row=>match jR (some row) k bA with
    | some (_,aP)=>some {val:= .n .i64 len,cR:=aP}
    | none=>none
   | none=>none
  | [.dz],some (.slice _),true=>some {val:= .n .i64 0}
  | [.s x],some .string,true=>some {val:= .n .i64 x.size}
  | _,_,_=>none
 | _=>none
end Go.VL
namespace Go.VL
set_option linter.unusedVariables false
set_option linter.unusedSimpArgs false
open Go
theorem j2 {α:Type}{aa:Nat}(bR:0<aa): ∀(es:List (List α)) (_ : ∀e∈es,e.length=aa) (j:Nat),
 es.flatten[j]? = (es[j / aa]?).bind (·[j % aa]?)
 | [],_,j=>by simp
 | e::es,h,j=>by
  have he:e.length=aa:=h e (by simp)
  rw [List.flatten_cons,List.getElem?_append]
  by_cases aC:j<aa
  ·rw [if_pos (by omega),Nat.div_eq_of_lt aC,Nat.mod_eq_of_lt aC];simp
  ·rw [if_neg (by omega),he,j2 bR es (fun cB hy=>h cB (by simp [hy])) (j-aa)]
   have I:j / aa=(j-aa) / aa+1:=Nat.div_eq_sub_div bR (by omega)
   have R:j % aa=(j-aa) % aa:=Nat.mod_eq_sub_mod (by omega)
   rw [I,R];simp
theorem qq {α:Type}{aa:Nat}{es:List (List α)}(aB:∀e∈es,e.length=aa){i:Nat}{c:List α}(he:es[i]? = some c){j:Nat}(aC:j<aa):
 es.flatten[i*aa+j]? = c[j]? := by
 have bR:0<aa:=by omega
 rw [j2 bR es aB]
 have I:(i*aa+j) / aa=i:=by
  rw [Nat.mul_comm,Nat.mul_add_div bR,Nat.div_eq_of_lt aC];omega
 have R:(i*aa+j) % aa=j:=by
  rw [Nat.mul_comm,Nat.mul_add_mod,Nat.mod_eq_of_lt aC]
 rw [I,R,he];rfl
theorem zj {α:Type}{aa:Nat}{es:List (List α)}(aB:∀e∈es,e.length=aa){i:Nat}{c bV:List α}(he:es[i]? = some c)(aY:bV.length=aa)(j:Nat):
 (es.set i bV).flatten[j]? = if i*aa≤j∧j<i*aa+aa then bV[j-i*aa]? else es.flatten[j]? := by
 rcases Nat.eq_zero_or_pos aa with h0|bR
 ·subst h0
  have ar : ∀(l:List (List α)),(∀e∈l,e.length=0)→l.flatten=[]:=by
   intro l aB;induction l with
   | nil=>rfl
   | cons a l ih=>rw [List.flatten_cons,ih fun e he=>aB e (by simp [he])];have:=aB a (by simp);simp_all
  rw [ar _ aB,ar (es.set i bV) (by
   intro e hm
   rcases List.mem_or_eq_of_mem_set hm with h|h
   ·exact aB e h
   ·exact h▸aY)]
  simp
 ·have xt : ∀e∈es.set i bV,e.length=aa:=by
   intro e hm
   rcases List.mem_or_eq_of_mem_set hm with h|h
   ·exact aB e h
   ·exact h▸aY
  have aA:i<es.length:=by
   rcases Nat.lt_or_ge i es.length with h|h
   ·exact h
   ·rw [List.getElem?_eq_none h] at he;simp at he
  rw [j2 bR _ xt,j2 bR _ aB]
  by_cases aL:j / aa=i
  ·have I:i*aa≤j∧j<i*aa+aa:=by
    subst aL
    constructor
    ·exact Nat.div_mul_le_self j aa
    ·have:=Nat.lt_div_mul_add (a:=j) bR;omega
   rw [if_pos I,aL,List.getElem?_set_self aA]
   have:j % aa=j-i*aa:=by
    subst aL;have:=Nat.div_add_mod j aa;rw [Nat.mul_comm] at this;omega
   simp [this]
  ·have I : ¬(i*aa≤j∧j<i*aa+aa):=by
    rintro ⟨a,b⟩
    apply aL
    obtain ⟨d,rfl⟩ : ∃d,j=i*aa+d:=⟨j-i*aa,by omega⟩
    rw [Nat.mul_comm i aa,Nat.mul_add_div bR,Nat.div_eq_of_lt (by omega)]
    omega
   rw [if_neg I,List.getElem?_set_ne (Ne.symm aL)]
def jC (w:World)(ok:Nat→Prop)(az:e8)(aG:eX)(b7 o aa:Nat)(es:List (List aj)):Prop :=
 (∀e∈es,e.length=aa)∧ ∀(j:Nat) x,es.flatten[j]? = some x→ ∃v,w.cell? ⟨b7,o+j,none⟩=some v∧f7 v=true∧Rel w ok az aG x v
theorem fc.rd {w:World}{ok:Nat→Prop}{az:e8}{aG:eX}{o:ao}{b7 m:Nat}(h:fc w ok az aG o (some (b7,m))):jC w ok az aG b7 0 o.aa o.es:=by
 obtain ⟨c,cn,I,R,av,aR⟩:=h
 refine ⟨av,fun j x ab=> ?_⟩
 obtain ⟨v,ar,aE,br⟩:=aR j x ab
 exact ⟨v,by rw [cell_of_row w b7 (0+j) c cn (0,0) I,Nat.zero_add];exact ar,aE,br⟩
theorem JS {w:World}{ok:Nat→Prop}{az:e8}{aG:eX}{x:aj}{v:Value}(h:Rel w ok az aG x v)(af:x.one=true):v.oneCell'=true:=h.f7 af
theorem zS {P:Program}{t:TypeId}(h:(P.underlying t).isSome=true)(w:World):(isAgg t).run P w = .ok (qU P t) w:=by
 cases bc:P.underlying t with
 | none=>simp [bc] at h
 | some d=>cases d<;>simp [isAgg,qU,run_underlying bc,bc]
theorem nb {P:Program}{t:TypeId}(h:(P.info? t).isSome=true)(w:World):(sizeOf t).run P w = .ok (P.cellsOf t) w:=by
 cases aA:P.info? t with
 | none=>simp [aA] at h
 | some i=>simp [sizeOf,typeInfo,aA,Program.cellsOf]
theorem lv (b o n:Nat):(⟨b,o,none⟩:Addr).add n=⟨b,o+n,none⟩:=by unfold Addr.add;split<;>simp_all
theorem wv {P:Program}{w:World}{ok:Nat→Prop}{az:e8}{aG:eX}{b7 o aa i off:Nat}{es:List (List aj)}{c:List aj}{t:TypeId}{x:aj}
 (ey:jC w ok az aG b7 o aa es) (he:es[i]? = some c) (bu:lX P t c off=some x) :
 ∃v,(Instr.loadAt t (.pointer (some ⟨b7,o+(i*aa+off),none⟩))).run P w = .ok v w∧Rel w ok az aG x v:=by
 have hlen:c.length=aa:=ey.1 c (List.mem_of_getElem? he)
 unfold lX at bu
 split at bu
 ·simp at bu
 ·rename_i aA
  simp only [Bool.not_eq_true',Bool.not_eq_false,Bool.and_eq_true] at aA
  have fR : ∀j,j<aa→ ∃y v,c[j]? = some y∧w.cell? ⟨b7,o+(i*aa+j),none⟩=some v∧f7 v=true∧Rel w ok az aG y v:=by
   intro j aC
   have aS:c[j]? = some c[j]:=List.getElem?_eq_getElem (by omega)
   obtain ⟨v,ar,aE,br⟩:=ey.2 (i*aa+j) c[j] (by rw [qq ey.1 he aC,aS])
   exact ⟨_,v,aS,ar,aE,br⟩
  simp only [Instr.loadAt,Instr.sureAddr,loadVar,Sem.run_bind,Sem.run_pure,Result.andThen,zS aA.1,nb aA.2]
  split at bu
  ·rename_i k8
   rw [k8]
   split at bu
   ·rename_i hle
    simp at bu;subst bu
    have aB:=run_loadCells (P:=P) w ⟨b7,o+(i*aa+off),none⟩ (P.cellsOf t) (fun j=>(w.cell? ⟨b7,o+(i*aa+(off+j)),none⟩).getD undef) (by
     intro j aC
     obtain ⟨y,v,-,ar,-,-⟩:=fR (off+j) (by omega)
     rw [lv,show o+(i*aa+off)+j=o+(i*aa+(off+j)) by omega,ar];rfl)
    refine ⟨.agg (List.map (fun j=>(w.cell? ⟨b7,o+(i*aa+(off+j)),none⟩).getD undef) (List.range (P.cellsOf t))).toArray,by simp [aB,Result.andThen,nb aA.2],?_⟩
    refine .agg _ (by simp;omega) ?_ ?_
    ·intro j v aZ
     rw [List.getElem?_map,Option.map_eq_some_iff] at aZ
     obtain ⟨q,nK,rfl⟩:=aZ
     obtain ⟨xu,xv⟩:=List.getElem?_eq_some_iff.1 nK
     have aL:j<P.cellsOf t:=by simpa using xu
     obtain rfl:j=q:=by simpa using xv
     obtain ⟨y,v,-,ar,aE,-⟩:=fR (off+j) (by omega)
     rw [ar];exact aE
    ·intro j y v aS aZ
     rw [List.getElem?_map,Option.map_eq_some_iff] at aZ
     obtain ⟨q,nK,rfl⟩:=aZ
     obtain ⟨xu,xv⟩:=List.getElem?_eq_some_iff.1 nK
     have aL:j<P.cellsOf t:=by simpa using xu
     obtain rfl:j=q:=by simpa using xv
     rw [List.getElem?_take,if_pos aL,List.getElem?_drop] at aS
     obtain ⟨h5,v,h0,ar,aE,br⟩:=fR (off+j) (by omega)
     rw [h0] at aS;simp at aS;subst aS
     rw [ar];exact br
   ·simp at bu
  ·rename_i k8
   have k8:qU P t=false:=by simpa using k8
   rw [k8]
   split at bu
   ·rename_i y aS
    split at bu
    ·simp at bu;subst bu
     have pa:off<aa:=by
      rcases Nat.lt_or_ge off c.length with h|h
      ·omega
      ·rw [List.getElem?_eq_none h] at aS;simp at aS
     obtain ⟨h5,v,h0,ar,aE,br⟩:=fR off pa
     rw [h0] at aS;simp at aS;subst aS
     exact ⟨v,by simp [ar],br⟩
    ·simp at bu
   ·simp at bu
theorem y1 {c:List aj}{off:Nat}{vs:List aj}(h:off+vs.length≤c.length):(setCells c off vs).length=c.length:=by
 simp [setCells];omega
theorem wi {c:List aj}{off:Nat}{vs:List aj}(h:off+vs.length≤c.length)(j:Nat):
 (setCells c off vs)[j]? = if off≤j∧j<off+vs.length then vs[j-off]? else c[j]? := by
 unfold setCells
 rw [List.append_assoc,List.getElem?_append]
 have I:(c.take off).length=off:=by simp;omega
 rw [I]
 by_cases a:j<off
 ·rw [if_pos a,if_neg (by omega),List.getElem?_take,if_pos a]
 ·rw [if_neg a,List.getElem?_append]
  by_cases b:j<off+vs.length
  ·rw [if_pos (by omega),if_pos ⟨by omega,b⟩]
  ·rw [if_neg (by omega),if_neg (by omega),List.getElem?_drop]
   congr 1;omega
theorem G6 {c:Array Value}{p:Nat}{vs:List Value}(h:p+vs.length≤c.size)(j:Nat):
 (c.toList.take p++vs++c.toList.drop (p+vs.length)).toArray[j]? = if p≤j∧j<p+vs.length then vs[j-p]? else c[j]? := by
 rw [List.getElem?_toArray,List.append_assoc,List.getElem?_append]
 have I:(c.toList.take p).length=p:=by simp;omega
 rw [I]
 by_cases a:j<p
 ·rw [if_pos a,if_neg (by omega),List.getElem?_take,if_pos a,Array.getElem?_toList]
 ·rw [if_neg a,List.getElem?_append]
  by_cases b:j<p+vs.length
  ·rw [if_pos (by omega),if_pos ⟨by omega,b⟩]
  ·rw [if_neg (by omega),if_neg (by omega),List.getElem?_drop,Array.getElem?_toList]
   congr 1;omega
theorem EX {P:Program}{g:G}{s:S}{ai:cJ}{a:Act}{w:World}(h:bz g s ai a w){r k b m i off:Nat}{l:List ao}{o:ao}{c:List aj}
 (an:s.aD r=some l) (af:s.ad r k=some o) (a3:o.bn = .live) (ag:ai r k=some (b,m)) (he:o.es[i]? = some c)
 {t:TypeId} (xw:(P.info? t).isSome=true) {x:aj} {v:Value} (ab:Rel w (s.ok g ai w) s.az (s.aG ai) x v) (hv:x.one=true∨ ∃c,x = .agg c)
 (cx:x.cells.length=P.cellsOf t) (ex:off+x.cells.length≤c.length) :
 ∃a8,(Instr.storeAt t (.pointer (some ⟨b,i*o.aa+off,none⟩)) v).run P w = .ok () a8 ∧
  bz g (s.setRow r (l.set k {o with es:=o.es.set i (setCells c off x.cells)})) ai a a8:=by
 obtain ⟨vs,aZ,ph,fR,cN⟩:=ab.cellsOf hv
 have aK:=h.obj r k o af
 rw [ag] at aK
 obtain ⟨bm,cn,I,R,av,aR⟩:=aK
 have hlen:c.length=o.aa:=av c (List.mem_of_getElem? he)
 have pb:i*o.aa+off+vs.length≤bm.size:=by
  rcases Nat.eq_zero_or_pos o.aa with bY|bY
  ·have:off=0:=by omega
   have:vs.length=0:=by omega
   rw [bY];omega
  ·have aB:o.es.flatten[i*o.aa+(o.aa-1)]? = some (c[o.aa-1]'(by omega)):=by
    rw [qq av he (by omega)];exact List.getElem?_eq_getElem (by omega)
   obtain ⟨Cz,ar,-,-⟩:=aR _ _ aB
   have:=(Array.getElem?_eq_some_iff.1 ar).1
   omega
 have hL:=run_storeCells_at P b (i*o.aa+off) cn vs 0 bm w I (by simpa using pb) (fun Cz tZ=>by
  obtain ⟨q,aL⟩:=List.getElem?_of_mem tZ
  exact fR q Cz aL)
 simp only [Nat.add_zero] at hL
 have eV:(Instr.storeAt t (.pointer (some ⟨b,i*o.aa+off,none⟩)) v).run P w =
  .ok () (w.setRow b (bm.toList.take (i*o.aa+off)++vs++bm.toList.drop (i*o.aa+off+vs.length)).toArray):=by
  have bR:v.cells.size=P.cellsOf t:=by rw [aZ];simpa using ph.trans cx
  simp only [Instr.storeAt,Instr.sureAddr,storeVar,Sem.run_bind,Sem.run_pure,Result.andThen,nb xw,bR,ne_eq,not_true_eq_false,if_false]
  rw [aZ]
  simpa using hL
 refine ⟨_,eV,?_⟩
 have HS:(w.setRow b (bm.toList.take (i*o.aa+off)++vs++bm.toList.drop (i*o.aa+off+vs.length)).toArray).heap.size=w.heap.size:=size_setRow _ _ _
 have nL:(setCells c off x.cells).length=o.aa:=by rw [y1 ex];exact hlen
 refine (h.write an af a3 ag _ _ cn (setRow_heap w b bm _ cn _ I) HS (fun q aL=>setRow_other w b q _ aL) rfl rfl rfl ?_ ?_ ?_).1
 ·simp;omega
 ·intro e hm
  rcases List.mem_or_eq_of_mem_set hm with bG|bG
  ·exact av e bG
  ·exact bG▸nL
 ·intro j y aS
  rw [G6 pb]
  rw [zj av he nL] at aS
  by_cases hM:i*o.aa≤j∧j<i*o.aa+o.aa
  ·rw [if_pos hM,wi ex] at aS
   by_cases Bx:off≤j-i*o.aa∧j-i*o.aa<off+x.cells.length
   ·rw [if_pos Bx] at aS
    rw [if_pos ⟨by omega,by omega⟩]
    have aL:j-(i*o.aa+off)<vs.length:=by omega
    refine ⟨vs[j-(i*o.aa+off)],List.getElem?_eq_getElem aL,fR _ _ (List.getElem?_eq_getElem aL),cN (j-i*o.aa-off) y _ aS ?_⟩
    rw [show j-i*o.aa-off=j-(i*o.aa+off) by omega]
    exact List.getElem?_eq_getElem aL
   ·rw [if_neg Bx] at aS
    rw [if_neg (by omega)]
    refine aR j y ?_
    rw [show j=i*o.aa+(j-i*o.aa) by omega,qq av he (by omega)]
    exact aS
  ·rw [if_neg hM] at aS
   rw [if_neg (by rw [ph];omega)]
   exact aR j y aS
end Go.VL
namespace Go.VL
set_option linter.unusedVariables false
set_option linter.unusedSimpArgs false
open Go
def S.ej (s:S)(u:List (Nat×List ao)):S:=u.foldl (fun s p=>s.setRow p.1 p.2) s
@[simp] theorem S.J5 (s:S):s.ej []=s:=rfl
@[simp] theorem S.J6 (s:S) (p:Nat×List ao):s.ej [p]=s.setRow p.1 p.2:=rfl
section
variable {w:World} {ok:Nat→Prop} {az:e8} {aG:eX} {v:Value}
theorem Rel.mC {x:Bool}(h:Rel w ok az aG (.b x) v):v = .bool x:=by cases h;rfl
theorem Rel.j4 {k:IntKind}{x:Int}(h:Rel w ok az aG (.n k x) v):v = .int k x:=by cases h;rfl
theorem Rel.o4 {x:ByteArray}(h:Rel w ok az aG (.s x) v):v = .string x:=by cases h;rfl
theorem Rel.np (h:Rel w ok az aG .eU v):v = .pointer none:=by cases h;rfl
theorem Rel.kg (h:Rel w ok az aG .dz v):v = .slice none 0 0:=by cases h;rfl
theorem Rel.td (h:Rel w ok az aG .eL v): ∃a c,v = .slice (some a) 0 c:=by cases h;exact ⟨_,_,rfl⟩
theorem Rel.Ag {aa:Nat}(h:Rel w ok az aG (.er aa none) v):v = .pointer none:=by cases h;rfl
theorem Rel.wG {aa:Nat}{c:List aj}(h:Rel w ok az aG (.er aa (some c)) v):Rel w ok az aG (.di aa [c] 0 0) v:=by cases h;assumption
theorem Rel.tl {f:Nat}{c:List aj}(h:Rel w ok az aG (.fn f c) v): ∃vs:List Value,v = .func (.func f) #[] vs.toArray∧vs.length=c.length ∧
 ∀(j:Nat) x u,c[j]? = some x→vs[j]? = some u→Rel w ok az aG x u:=by
 cases h with|fn vs aB an=>exact ⟨vs,rfl,aB,an⟩
theorem Rel.qL {c:List aj}(h:Rel w ok az aG (.agg c) v): ∃vs:List Value,v = .agg vs.toArray∧vs.length=c.length∧(∀(j:Nat) u,vs[j]? = some u→VL.f7 u=true) ∧
 ∀(j:Nat) x u,c[j]? = some x→vs[j]? = some u→Rel w ok az aG x u:=by
 cases h with|agg vs aB aY an=>exact ⟨vs,rfl,aB,aY,an⟩
theorem Rel.oU {c:List aj}(h:Rel w ok az aG (.c7 c) v): ∃vs:List Value,v = .tuple vs.toArray∧vs.length=c.length ∧
 ∀(j:Nat) x u,c[j]? = some x→vs[j]? = some u→Rel w ok az aG x u:=by
 cases h with|c7 vs aB an=>exact ⟨vs,rfl,aB,an⟩
theorem Rel.oV {r k i off aa:Nat}{p:Option (Nat×Nat)}(h:Rel w ok az aG (.ref r k i off) v)(bu:aG r k=some (aa,p)):
 p=none∨ ∃b m,p=some (b,m)∧v = .pointer (some ⟨b,i*aa+off,none⟩):=by
 cases h with
 | ki a hu bj =>
  cases p with
  | none=>exact .inl rfl
  | some q=>exact absurd bu (bj _ _)
 | ref hu h =>
  rw [bu] at h
  simp only [Option.some.injEq,Prod.mk.injEq] at h
  obtain ⟨rfl,rfl⟩:=h
  exact .inr ⟨_,_,rfl,rfl⟩
theorem Rel.Ki {r k i off:Nat}(h:Rel w ok az aG (.ref r k i off) v): ∃a,v = .pointer a:=by
 cases h with
 | ki a=>exact ⟨a,rfl⟩
 | ref=>exact ⟨_,rfl⟩
theorem Rel.FH {r k i off aa b m:Nat}(h:Rel w ok az aG (.ref r k i off) v)(bu:aG r k=some (aa,some (b,m)))(Bz:Nat):
 Rel w ok az aG (.ref r k i Bz) (.pointer (some ⟨b,i*aa+Bz,none⟩)):=by
 cases h with
 | ki a hu bj=>exact absurd bu (bj _ _)
 | ref hu h=>exact .ref hu bu
theorem Rel.oW {aa i off:Nat}{es:List (List aj)}(h:Rel w ok az aG (.di aa es i off) v): ∃b7 o,(ok b7∧gV es)∧v = .pointer (some ⟨b7,o+(i*aa+off),none⟩)∧jC w ok az aG b7 o aa es:=by
 cases h with
 | di b5 a4 ag aB hw aY an=>exact ⟨_,_,⟨a4,ag⟩,rfl,aB,fun j x ab=>⟨b5 j,hw j x ab,aY j x ab,an j x ab⟩⟩
theorem Rel.qM {r k bD len aa:Nat}{p:Option (Nat×Nat)}(h:Rel w ok az aG (.bd r k bD len) v)(bu:aG r k=some (aa,p)):
 (p=none∧bD=0∧len=0∧v = .slice none 0 0)∨ ∃b m a c,p=some (b,m)∧v = .slice a len c∧len≤c∧c<9223372036854775808∧(c=0∨(a=some ⟨b,bD*aa,none⟩∧(bD+c)*aa=m)):=by
 cases h with
 | iM a l c hu bj=>rw [bu] at bj;simp at bj
 | i4 hu h =>
  rw [bu] at h
  simp only [Option.some.injEq,Prod.mk.injEq] at h
  exact .inl ⟨h.2,rfl,rfl,rfl⟩
 | bd hu h aB aY hm =>
  rw [bu] at h
  simp only [Option.some.injEq,Prod.mk.injEq] at h
  obtain ⟨rfl,rfl⟩:=h
  exact .inr ⟨_,_,_,_,rfl,rfl,aB,aY,hm.2.imp id fun e=>⟨e,hm.1⟩⟩
theorem Rel.nq {r k bD len aa:Nat}{p:Option (Nat×Nat)}(h:Rel w ok az aG (.bd r k bD len) v)(bu:aG r k=some (aa,p)):
 (p=none∧bD=0∧len=0∧v = .slice none 0 0)∨ ∃b m a c,p=some (b,m)∧v = .slice a len c∧len≤c∧c<9223372036854775808∧(bD+c)*aa=m∧(c=0∨a=some ⟨b,bD*aa,none⟩):=by
 cases h with
 | iM a l c hu bj=>rw [bu] at bj;simp at bj
 | i4 hu h =>
  rw [bu] at h
  simp only [Option.some.injEq,Prod.mk.injEq] at h
  exact .inl ⟨h.2,rfl,rfl,rfl⟩
 | bd hu h aB aY hm =>
  rw [bu] at h
  simp only [Option.some.injEq,Prod.mk.injEq] at h
  obtain ⟨rfl,rfl⟩:=h
  exact .inr ⟨_,_,_,_,rfl,rfl,aB,aY,hm⟩
theorem Rel.JT {r k bD len:Nat}(h:Rel w ok az aG (.bd r k bD len) v): ∃a l c,v = .slice a l c:=by
 cases h<;>exact ⟨_,_,_,rfl⟩
theorem Rel.lU {aa:Nat}{es:List (List aj)}(h:Rel w ok az aG (.a1 aa es) v):
 (es=[]∧ ∃a c,v = .slice a 0 c∧(a=none→c=0))∨ ∃b7 off c,(ok b7∧gV es)∧v = .slice (some ⟨b7,off,none⟩) es.length c∧es.length≤c∧jC w ok az aG b7 off aa es:=by
 cases h with
 | dd aa a c h=>exact .inl ⟨rfl,a,c,rfl,h⟩
 | a1 b5 a4 ag aB aY hw eW an=>exact .inr ⟨_,_,_,⟨a4,ag⟩,rfl,aY,aB,fun j x ab=>⟨b5 j,hw j x ab,eW j x ab,an j x ab⟩⟩
theorem jC.a1 {b7 off c aa:Nat}{es:List (List aj)}(h:jC w ok az aG b7 off aa es)(a4:ok b7∧gV es)(aY:es.length≤c):Rel w ok az aG (.a1 aa es) (.slice (some ⟨b7,off,none⟩) es.length c):=by
 have ab : ∀j:Nat,∃v,∀x,es.flatten[j]? = some x→w.cell? ⟨b7,off+j,none⟩=some v∧VL.f7 v=true∧Rel w ok az aG x v:=by
  intro j
  cases aC:es.flatten[j]? with
  | none=>exact ⟨undef,fun x ab=>by simp at ab⟩
  | some y =>
   obtain ⟨v,I⟩:=h.2 j y aC
   exact ⟨v,fun x ab=>by simp at ab;subst ab;exact I⟩
 exact .a1 (fun j=>(ab j).choose) a4.1 a4.2 h.1 aY (fun j x aC=>((ab j).choose_spec x aC).1) (fun j x aC=>((ab j).choose_spec x aC).2.1) (fun j x aC=>((ab j).choose_spec x aC).2.2)
theorem jC.di {b7 o i off aa:Nat}{es:List (List aj)}(h:jC w ok az aG b7 o aa es)(a4:ok b7∧gV es):Rel w ok az aG (.di aa es i off) (.pointer (some ⟨b7,o+(i*aa+off),none⟩)):=by
 have ab : ∀j:Nat,∃v,∀x,es.flatten[j]? = some x→w.cell? ⟨b7,o+j,none⟩=some v∧VL.f7 v=true∧Rel w ok az aG x v:=by
  intro j
  cases aC:es.flatten[j]? with
  | none=>exact ⟨undef,fun x ab=>by simp at ab⟩
  | some y =>
   obtain ⟨v,I⟩:=h.2 j y aC
   exact ⟨v,fun x ab=>by simp at ab;subst ab;exact I⟩
 exact .di (fun j=>(ab j).choose) a4.1 a4.2 h.1 (fun j x aC=>((ab j).choose_spec x aC).1) (fun j x aC=>((ab j).choose_spec x aC).2.1) (fun j x aC=>((ab j).choose_spec x aC).2.2)
end
def Fin (P:Program)(g:G)(s:S)(a:Act)(w:World)(o:Oper)(aV:et):Prop :=
 ∃v a8 a5,((execOp a.eval o).run P w = .ok (.value v) a8∨((execOp a.eval o).run P w = .ok .skip a8∧v=undef)) ∧
  bz g (s.ej aV.cZ) a5 a a8∧Rel a8 ((s.ej aV.cZ).ok g a5 a8) (s.ej aV.cZ).az ((s.ej aV.cZ).aG a5) aV.val v
section
variable {P:Program} {g:G} {s:S} {ai:cJ} {a:Act} {w:World} {o:Oper} {bA:cU} {aw:Nat} {aV:et}
theorem eD (h:bz g s ai a w){v:Value}(eV:(execOp a.eval o).run P w = .ok (.value v) w)(hu:aV.cZ=[])
 (an:Rel w (s.ok g ai w) s.az (s.aG ai) aV.val v):Fin P g s a w o aV :=
 ⟨v,w,ai,.inl eV,by rw [hu];exact h,by rw [hu];exact an⟩
theorem Ax {x:Operand}(h:bz g s ai a w)(af:o.op = .move x∨o.op = .assign x)(ah:cu P s.E s.aD aw o bA=some aV):Fin P g s a w o aV:=by
 have:aV={val:=cG s.E x}:=by rcases af with af|af<;>simp [cu,af] at ah<;>exact ah.symm
 subst this
 refine eD (v:=a.eval x) h ?_ rfl (h.eval x)
 rcases af with af|af<;>simp [execOp,af]
theorem GF {c x y:Operand}(h:bz g s ai a w)(af:o.op = .pick c x y)(ah:cu P s.E s.aD aw o bA=some aV)(bt:∀p∈aV.cR,p):Fin P g s a w o aV:=by
 have aY:=h.eval c
 simp only [cu,af] at ah
 have key : ∀t:Bool,cG s.E c = .b t→aV.cZ=[]→aV.val=(if t then cG s.E x else cG s.E y)→Fin P g s a w o aV:=by
  intro t bu hu aZ
  rw [bu] at aY
  have e:a.eval c = .bool t:=aY.mC
  refine eD (v:=if t then a.eval x else a.eval y) h (by simp [execOp,af,e,asBool]) hu ?_
  rw [aZ];cases t
  ·exact h.eval y
  ·exact h.eval x
 split at ah
 ·rename_i z t bY
  simp at ah;subst ah
  have e:z=t:=bt _ (by simp)
  subst e
  exact key z bY rfl rfl
 ·rename_i bY _;simp at ah;subst ah;exact key true bY rfl rfl
 ·rename_i bY _;simp at ah;subst ah;exact key false bY rfl rfl
 ·simp at ah
theorem te (h:bz g s ai a w)(cv:s.aD aw=none){v:Value}{ad:ao}{c:Array Value}{cn:TypeId}(a3:ad.bn = .live)
 (eV:(execOp a.eval o).run P w = .ok (.value v) (w.alloc (.cells c cn))) (hu:aV.cZ=[(aw,[ad])]) (hlen : ∀e∈ad.es,e.length=ad.aa)
 (aY : ∀(j:Nat) x,ad.es.flatten[j]? = some x→ ∃v,c[j]? = some v∧f7 v=true∧Rel w (s.ok g ai w) s.az (s.aG ai) x v)
 (hval : ∀(a8:World) (hJ:Nat→Prop) (im:e8) (hK:eX),im aw 0→hK aw 0=some (ad.aa,some (w.heap.size,c.size))→Rel a8 hJ im hK aV.val v):Fin P g s a w o aV:=by
 obtain ⟨a5,ag,bR,-⟩:=h.alloc cv ad a3 c cn hlen aY
 have I:(s.setRow aw [ad]).az aw 0:=by rw [iL];simp
 have R:(s.setRow aw [ad]).aG a5 aw 0=some (ad.aa,some (w.heap.size,c.size)):=by simp [S.aG,ha,hF,a3,ag]
 exact ⟨v,_,a5,.inl eV,by rw [hu];exact bR,by rw [hu];exact hval _ _ _ _ I R⟩
theorem qs {t:TypeId}{z:List aj}(bY:k2 P t=some z): ∃i cl,P.info? t=some i∧i.zero=some cl∧z=cl.cells.toList.map ofValue ∧
 ∀(j:Nat) x,z[j]? = some x→ ∃v,cl.cells[j]? = some v∧f7 v=true∧ ∀(w:World) (ok:Nat→Prop) (az:e8) (aG:eX),Rel w ok az aG x v:=by
 unfold k2 at bY
 cases aA:P.info? t with
 | none=>simp [aA] at bY
 | some i =>
  cases gQ:i.zero with
  | none=>simp [aA,gQ] at bY
  | some cl =>
   simp only [aA,gQ] at bY
   split at bY
   ·rename_i ja
    simp only [Option.some.injEq] at bY
    refine ⟨i,cl,rfl,gQ,bY.symm,fun j x ab=> ?_⟩
    subst bY
    rw [List.getElem?_map,Option.map_eq_some_iff] at ab
    obtain ⟨v,aZ,rfl⟩:=ab
    refine ⟨v,by rw [← Array.getElem?_toList];exact aZ,?_,fun w ok az aG=>zh v⟩
    exact List.all_eq_true.1 ja v (List.mem_of_getElem? aZ)
   ·simp at bY
theorem FZ {t:TypeId}(h:bz g s ai a w)(cv:s.aD aw=none)(af:o.op = .alloc t)(ah:cu P s.E s.aD aw o bA=some aV):Fin P g s a w o aV:=by
 simp only [cu,af] at ah
 split at ah
 ·rename_i z bY
  obtain ⟨i,cl,aA,gQ,e,fR⟩:=qs bY
  simp only [Option.some.injEq] at ah
  subst ah
  refine te (v:= .pointer (some ⟨w.heap.size,0,none⟩)) (c:=cl.cells) (cn:=t) (ad:=⟨z.length,[z],.live⟩) h cv rfl ?_ rfl (by simp) ?_ ?_
  ·simp [execOp,af,Instr.alloc,zeroValue,typeInfo,aA,gQ,newVar,newRow]
  ·intro j x ab
   simp only [List.flatten_cons,List.flatten_nil,List.append_nil] at ab
   obtain ⟨v,I,R,av⟩:=fR j x ab
   exact ⟨v,I,R,av _ _ _ _⟩
  ·intro a8 hJ im hK hu bu
   have:=Rel.ref (w:=a8) (ok:=hJ) (i:=0) (off:=0) hu bu
   simpa using this
 ·simp at ah
theorem G7 {t:TypeId}{x:Operand}(h:bz g s ai a w)(cv:s.aD aw=none)(af:o.op = .box t x)(ah:cu P s.E s.aD aw o bA=some aV):Fin P g s a w o aV:=by
 simp only [cu,af] at ah
 have ab:=h.eval x
 have key : ∀ad:ao,ad.bn = .live→ad.es=[(cG s.E x).cells]→ad.aa=(cG s.E x).cells.length→((cG s.E x).one=true∨ ∃c,cG s.E x = .agg c) →
  aV.cZ=[(aw,[ad])]→aV.val = .ref aw 0 0 0→Fin P g s a w o aV:=by
  intro ad a3 dU cx hv hu aZ
  obtain ⟨vs,ar,aE,br,de⟩:=ab.cellsOf hv
  refine te (v:= .pointer (some ⟨w.heap.size,0,none⟩)) (c:=(a.eval x).cells) (cn:=t) h cv a3 ?_ hu ?_ ?_ ?_
  ·simp [execOp,af,Instr.box,newVar,newRow]
  ·intro e he;rw [dU] at he;simp at he;rw [he,cx]
  ·intro j y aS
   rw [dU] at aS
   simp only [List.flatten_cons,List.flatten_nil,List.append_nil] at aS
   have aC:j<vs.length:=by
    rcases Nat.lt_or_ge j (cG s.E x).cells.length with bG|bG
    ·omega
    ·rw [List.getElem?_eq_none bG] at aS;simp at aS
   refine ⟨vs[j],by rw [ar];simp [aC],br j _ (List.getElem?_eq_getElem aC),de j y _ aS (List.getElem?_eq_getElem aC)⟩
  ·intro a8 hJ im hK kQ bu
   have:=Rel.ref (w:=a8) (ok:=hJ) (i:=0) (off:=0) kQ bu
   rw [aZ];simpa using this
 split at ah
 ·rename_i c aY
  simp only [Option.some.injEq] at ah
  subst ah
  exact key _ rfl (by rw [aY];rfl) (by rw [aY];rfl) (.inr ⟨c,aY⟩) rfl rfl
 ·split at ah
  ·rename_i hv
   simp only [Option.some.injEq] at ah
   subst ah
   have e:(cG s.E x).cells=[cG s.E x]:=by
    generalize cG s.E x=y at hv
    cases y<;>first|rfl|simp [aj.one] at hv
   exact key _ rfl (by rw [e]) (by rw [e];rfl) (.inl hv) rfl rfl
  ·simp at ah
theorem eE {s:S}{ai:cJ}{r k:Nat}{ad:ao}(h:s.ad r k=some ad):s.aG ai r k=some (ad.aa,ai r k):=by simp [S.aG,h]
theorem mv {row:Option (List ao)}{k:Nat}{ad:ao}{aP:List Prop}(h:jR row k bA=some (ad,aP))(bt:∀p∈aP,p):bN row k=some ad:=by
 unfold jR at h
 split at h
 ·split at h
  ·simp at h;obtain ⟨rfl,rfl⟩:=h;exact bt _ (by simp)
  ·simp at h
 ·split at h
  ·rename_i bG;simp at h;obtain ⟨rfl,rfl⟩:=h;exact bG
  ·simp at h
theorem qz {es:List (List aj)}{i:Nat}{c:List aj}{aP:List Prop}(h:elemAt es i bA=some (c,aP))(bt:∀p∈aP,p):es[i]? = some c:=by
 unfold elemAt at h
 split at h
 ·simp at h;obtain ⟨rfl,rfl⟩:=h;exact bt _ (by simp)
 ·simp at h;obtain ⟨rfl,rfl⟩:=h;exact bt _ (by simp)
 ·split at h
  ·rename_i bG;simp at h;obtain ⟨rfl,rfl⟩:=h;exact bG
  ·simp at h
theorem GG {t:TypeId}{x:Operand}(h:bz g s ai a w)(af:o.op = .load t x)(ah:cu P s.E s.aD aw o bA=some aV)(bt:∀p∈aV.cR,p):Fin P g s a w o aV:=by
 simp only [cu,af] at ah
 have ab:=h.eval x
 split at ah
 ·rename_i r k i off dG
  rw [dG] at ab
  split at ah
  ·rename_i ad aP aK
   split at ah
   ·rename_i c bb iT
    split at ah
    ·rename_i v aZ
     simp only [Option.some.injEq] at ah
     subst ah
     have f8:s.ad r k=some ad:=mv aK fun p ag=>bt p (by simp [ag])
     have k9:=qz iT fun p ag=>bt p (by simp [ag])
     have cN:=h.obj r k ad f8
     rcases ab.oV (eE f8) with h0|⟨b,m,ag,hval⟩
     ·rw [h0] at cN
      simp only [fc] at cN
      rw [cN] at k9;simp at k9
     ·rw [ag] at cN
      obtain ⟨u,I,R⟩:=wv (P:=P) cN.rd k9 aZ
      refine eD (v:=u) h ?_ rfl R
      rw [Nat.zero_add] at I
      simp [execOp,af,hval,I]
    ·simp at ah
   ·simp at ah
  ·simp at ah
 ·rename_i aa es i off dG
  rw [dG] at ab
  split at ah
  ·rename_i c bb iT
   split at ah
   ·rename_i v aZ
    simp only [Option.some.injEq] at ah
    subst ah
    have k9:=qz iT fun p ag=>bt p (by simp [ag])
    obtain ⟨b7,bf,a4,hval,ey⟩:=ab.oW
    obtain ⟨u,I,R⟩:=wv (P:=P) ey k9 aZ
    refine eD (v:=u) h ?_ rfl R
    simp [execOp,af,hval,I]
   ·simp at ah
  ·simp at ah
 ·simp at ah
end
end Go.VL
namespace Go.VL
set_option linter.unusedVariables false
set_option linter.unusedSimpArgs false
open Go
section
variable {P:Program} {g:G} {s:S} {ai:cJ} {a:Act} {w:World} {o:Oper} {bA:cU} {aw:Nat} {aV:et}
theorem zT (h:bz g s ai a w){r k i off:Nat}{row:List ao}{ad:ao}{c:List aj}{t:TypeId}{x y:Operand}(af:o.op = .store t x y)
 (dG:cG s.E x = .ref r k i off) (b2:s.aD r=some row) (aK:s.ad r k=some ad) (a3:ad.bn = .live) (iT:ad.es[i]? = some c)
 (hv:(cG s.E y).one=true∨ ∃c,cG s.E y = .agg c) (cx:(cG s.E y).cells.length=P.cellsOf t) (xw:(P.info? t).isSome=true)
 (ex:off+(cG s.E y).cells.length≤c.length) (ah:aV.val = .dead) (hu:aV.cZ=[(r,row.set k {ad with es:=ad.es.set i (setCells c off (cG s.E y).cells)})]):Fin P g s a w o aV:=by
 have ab:=h.eval x
 rw [dG] at ab
 have cN:=h.obj r k ad aK
 rcases ab.oV (eE aK) with h0|⟨b,m,ag,hval⟩
 ·rw [h0] at cN;simp only [fc] at cN;rw [cN] at iT;simp at iT
 ·obtain ⟨a8,I,R⟩:=EX (P:=P) h b2 aK a3 ag iT xw (h.eval y) hv cx ex
  refine ⟨undef,a8,ai,.inr ⟨?_,rfl⟩,by rw [hu];exact R,by rw [ah];exact .dead _⟩
  simp [execOp,af,hval,I]
theorem F0 {t:TypeId}{x y:Operand}(h:bz g s ai a w)(af:o.op = .store t x y)(ah:cu P s.E s.aD aw o bA=some aV)(bt:∀p∈aV.cR,p):Fin P g s a w o aV:=by
 simp only [cu,af] at ah
 split at ah
 ·rename_i r k i off dG
  split at ah
  ·simp at ah
  ·rename_i row b2
   split at ah
   ·rename_i ad aP HT
    split at ah
    ·simp at ah
    ·rename_i a3
     have a3:ad.bn = .live:=by simpa using a3
     split at ah
     ·simp at ah
     ·rename_i hv
      have hv:=aj.zi (by simpa using hv)
      split at ah
      ·simp at ah
      ·rename_i cx
       simp only [not_or,Decidable.not_not,Bool.not_eq_false] at cx
       have f8:(∀p∈aP,p)→s.ad r k=some ad:=fun bJ=>by
        have:=mv HT bJ
        unfold S.ad;rw [b2];exact this
       split at ah
       ·split at ah
        ·rename_i pa
         simp only [Option.some.injEq] at ah
         subst ah;subst pa
         have cf:i<ad.es.length:=bt _ (by simp)
         have eW:(cG s.E y).cells.length=ad.aa:=bt _ (by simp)
         have rj:=f8 fun p ag=>bt p (by simp [ag])
         have hlen:(ad.es[i]).length=ad.aa:=by
          have cN:=h.obj r k ad rj
          cases ag:ai r k with
          | none=>rw [ag] at cN;simp only [fc] at cN;rw [cN] at cf;simp at cf
          | some q =>
           rw [ag] at cN
           obtain ⟨_,_,_,_,av,_⟩:=cN
           exact av _ (List.getElem_mem cf)
         refine zT h af dG b2 rj a3 (c:=ad.es[i]) (List.getElem?_eq_getElem cf) hv cx.1 cx.2 (by omega) rfl ?_
         have e:setCells ad.es[i] 0 (cG s.E y).cells=(cG s.E y).cells:=by
          simp [setCells,hlen,eW]
         rw [e]
        ·simp at ah
       ·split at ah
        ·rename_i c bb iT
         split at ah
         ·rename_i ex
          simp only [Option.some.injEq] at ah
          subst ah
          exact zT h af dG b2 (f8 fun p ag=>bt p (by simp [ag])) a3 (qz iT fun p ag=>bt p (by simp [ag])) hv cx.1 cx.2 ex rfl rfl
         ·simp at ah
        ·simp at ah
   ·simp at ah
 ·simp at ah
theorem EY {x:Operand}(h:bz g s ai a w)(af:o.op = .nilCheck x)(ah:cu P s.E s.aD aw o bA=some aV)(bt:∀p∈aV.cR,p):Fin P g s a w o aV:=by
 simp only [cu,af] at ah
 have ab:=h.eval x
 split at ah
 ·rename_i r k i off dG
  rw [dG] at ab
  split at ah
  ·rename_i ad aP aK
   split at ah
   ·rename_i c bb iT
    simp only [Option.some.injEq] at ah
    subst ah
    have f8:s.ad r k=some ad:=mv aK fun p ag=>bt p (by simp [ag])
    have k9:=qz iT fun p ag=>bt p (by simp [ag])
    have cN:=h.obj r k ad f8
    rcases ab.oV (eE f8) with h0|⟨b,m,ag,hval⟩
    ·rw [h0] at cN;simp only [fc] at cN;rw [cN] at k9;simp at k9
    ·refine eD (v:=a.eval x) h ?_ rfl ab
     simp [execOp,af,hval]
   ·simp at ah
  ·simp at ah
 ·rename_i aa es i off dG
  rw [dG] at ab
  simp only [Option.some.injEq] at ah
  subst ah
  obtain ⟨b7,bf,a4,hval,ey⟩:=ab.oW
  refine eD (v:=a.eval x) h ?_ rfl ab
  simp [execOp,af,hval]
 ·rename_i f c dG
  rw [dG] at ab
  simp only [Option.some.injEq] at ah
  subst ah
  obtain ⟨vs,hval,-⟩:=ab.tl
  refine eD (v:=a.eval x) h ?_ rfl ab
  simp [execOp,af,hval]
 ·simp at ah
theorem FI {op:BinOp}{t:TypeId}{x y z:aj}{ad:List Prop}(ah:xe op x y=some (z,ad))(bt:∀p∈ad,p)
 {ok:Nat→Prop} {az:e8} {aG:eX} {gR gS:Value} (ab:Rel w ok az aG x gR) (aS:Rel w ok az aG y gS) (p q:Operand) :
 ∃v,((do eqGuard op t p q gR gS;binOp op t gR gS):Sem Value).run P w = .ok v w∧Rel w ok az aG z v:=by
 unfold xe at ah
 split at ah
 ·rename_i k n bO iZ
  have eQ:=ab.j4;have e9:=aS.j4
  subst eQ;subst e9
  have cS : ∀op,eqGuard op t p q (.int k n) (.int bO iZ)=pure ():=fun op=>eqGuard_at_int ..
  simp only [Sem.run_bind,cS,Sem.run_pure,Result.andThen_ok]
  split at ah
  ·simp only [Option.some.injEq,Prod.mk.injEq] at ah
   obtain ⟨rfl,rfl⟩:=ah
   have h0:0≤iZ:=bt _ (by simp)
   exact ⟨_,by simp [binOp,Op.shift,show ¬iZ<0 by omega],.n _ _⟩
  ·simp only [Option.some.injEq,Prod.mk.injEq] at ah
   obtain ⟨rfl,rfl⟩:=ah
   have h0:0≤iZ:=bt _ (by simp)
   exact ⟨_,by simp [binOp,Op.shift,show ¬iZ<0 by omega],.n _ _⟩
  ·split at ah
   ·simp at ah
   ·rename_i a3
    have a3:k=bO:=by simpa using a3
    subst a3
    split at ah<;>simp only [Option.some.injEq,Prod.mk.injEq,reduceCtorEq] at ah
    all_goals (obtain ⟨rfl,rfl⟩:=ah)
    case h_4|h_5 =>
     have h0:iZ≠0:=bt _ (by simp)
     exact ⟨_,by simp [binOp,Op.intDiv,h0],.n _ _⟩
    all_goals first
     | (refine ⟨_,?_,.n _ _⟩;rw [binOp_add];rfl)
     | (refine ⟨_,?_,.n _ _⟩;rw [binOp_sub];rfl)
     | (refine ⟨_,?_,.n _ _⟩;rw [binOp_mul];rfl)
     | (refine ⟨_,?_,.n _ _⟩;rw [binOp_and];rfl)
     | (refine ⟨_,?_,.n _ _⟩;rw [binOp_or];rfl)
     | (refine ⟨_,?_,.n _ _⟩;rw [binOp_xor];rfl)
     | (refine ⟨_,?_,.b _⟩;simp [binOp,Op.intCmp];done)
 ·rename_i bx h5
  have eQ:=ab.o4;have e9:=aS.o4
  subst eQ;subst e9
  have cS : ∀op,eqGuard op t p q (.string bx) (.string h5)=pure ():=fun op=>eqGuard_at_string ..
  simp only [Sem.run_bind,cS,Sem.run_pure,Result.andThen_ok]
  split at ah<;>simp only [Option.some.injEq,Prod.mk.injEq,reduceCtorEq] at ah
  all_goals (obtain ⟨rfl,rfl⟩:=ah)
  ·have h0:bx.size+h5.size<9223372036854775808:=bt _ (by simp)
   refine ⟨_,?_,.s _⟩
   have I : ¬((bx.size+h5.size:Nat):Int)>IntKind.i64.max:=by rw [IntKind.max_i64];omega
   rw [IntKind.max_i64] at I
   simp [binOp,Op.stringOp]
   omega
  ·exact ⟨_,by simp [binOp,Op.stringOp],.b _⟩
  ·exact ⟨_,by simp [binOp,Op.stringOp],.b _⟩
 ·simp at ah
theorem nh (t:TypeId)(x y:Value):Op.equal t x y=Op.equalIn (9999+1) t x y:=rfl
theorem qe {t:TypeId}{a b:Bool}(d:Nat)(bc:P.underlying t=some .bool):(Op.equalIn (d+1) t (.bool a) (.bool b)).run P w = .ok (a == b) w:=by
 unfold Op.equalIn;simp [run_underlying bc]
theorem qt {t e:TypeId}(d:Nat)(bc:P.underlying t=some (.pointer e)):(Op.equalIn (d+1) t (.pointer none) (.pointer none)).run P w = .ok true w:=by
 unfold Op.equalIn;simp [run_underlying bc]
theorem qu {t e:TypeId}{a:Addr}(d:Nat)(bc:P.underlying t=some (.pointer e)):(Op.equalIn (d+1) t (.pointer (some a)) (.pointer none)).run P w = .ok false w:=by
 unfold Op.equalIn;simp [run_underlying bc]
theorem qv {t e:TypeId}{a:Addr}(d:Nat)(bc:P.underlying t=some (.pointer e)):(Op.equalIn (d+1) t (.pointer none) (.pointer (some a))).run P w = .ok false w:=by
 unfold Op.equalIn;simp [run_underlying bc]
theorem qw {t e:TypeId}(d:Nat)(bc:P.underlying t=some (.slice e)):(Op.equalIn (d+1) t (.slice none 0 0) (.slice none 0 0)).run P w = .ok true w:=by
 unfold Op.equalIn;simp [run_underlying bc]
theorem zw {t e:TypeId}{a:Addr}{c:Nat}(d:Nat)(bc:P.underlying t=some (.slice e))(n:Nat):(Op.equalIn (d+1) t (.slice (some a) n c) (.slice none 0 0)).run P w = .ok false w:=by
 unfold Op.equalIn;simp [run_underlying bc]
theorem oT {t:TypeId}{x y:aj}{r:Bool}(ah:lC P t x y=some r)
 {ok:Nat→Prop} {az:e8} {aG:eX} {gR gS:Value} (ab:Rel w ok az aG x gR) (aS:Rel w ok az aG y gS) (p q:Operand) :
 ((do eqGuard .eql t p q gR gS;binOp .eql t gR gS):Sem Value).run P w = .ok (.bool r) w ∧
 ((do eqGuard .neq t p q gR gS;binOp .neq t gR gS):Sem Value).run P w = .ok (.bool !r) w:=by
 have key : ∀b:Bool,(∀op,eqGuard op t p q gR gS=pure ())→binOp .eql t gR gS=(do pure (.bool (← Op.equal t gR gS)))→binOp .neq t gR gS=(do pure (.bool (!(← Op.equal t gR gS)))) →
  (Op.equal t gR gS).run P w = .ok b w→((do eqGuard .eql t p q gR gS;binOp .eql t gR gS):Sem Value).run P w = .ok (.bool b) w ∧
  ((do eqGuard .neq t p q gR gS;binOp .neq t gR gS):Sem Value).run P w = .ok (.bool !b) w:=by
  intro b cS I R av
  constructor
  ·rw [cS,I];simp [av]
  ·rw [cS,R];simp [av]
 unfold lC at ah
 split at ah
 ·rename_i bx h5 bc
  simp only [Option.some.injEq] at ah;subst ah
  have eQ:=ab.mC;have e9:=aS.mC
  subst eQ;subst e9
  exact key _ (fun op=>eqGuard_at_bool ..) rfl rfl (by rw [nh];first|exact qe _ bc|exact qt _ bc|exact qu _ bc|exact qv _ bc|exact qw _ bc)
 ·rename_i e bc
  simp only [Option.some.injEq] at ah;subst ah
  have eQ:=ab.np;have e9:=aS.np
  subst eQ;subst e9
  exact key _ (fun op=>eqGuard_at_pointer ..) rfl rfl (by rw [nh];first|exact qe _ bc|exact qt _ bc|exact qu _ bc|exact qv _ bc|exact qw _ bc)
 ·rename_i e aa es i off bc
  simp only [Option.some.injEq] at ah;subst ah
  obtain ⟨b7,bf,-,eQ,-⟩:=ab.oW
  have e9:=aS.np
  subst eQ;subst e9
  exact key _ (fun op=>eqGuard_at_pointer ..) rfl rfl (by rw [nh];first|exact qe _ bc|exact qt _ bc|exact qu _ bc|exact qv _ bc|exact qw _ bc)
 ·rename_i e aa es i off bc
  simp only [Option.some.injEq] at ah;subst ah
  obtain ⟨b7,bf,-,e9,-⟩:=aS.oW
  have eQ:=ab.np
  subst eQ;subst e9
  exact key _ (fun op=>eqGuard_at_pointer ..) rfl rfl (by rw [nh];first|exact qe _ bc|exact qt _ bc|exact qu _ bc|exact qv _ bc|exact qw _ bc)
 ·rename_i e bc
  simp only [Option.some.injEq] at ah;subst ah
  have eQ:=ab.kg;have e9:=aS.kg
  subst eQ;subst e9
  exact key _ (fun op=>eqGuard_at_slice ..) rfl rfl (by rw [nh];first|exact qe _ bc|exact qt _ bc|exact qu _ bc|exact qv _ bc|exact qw _ bc)
 ·rename_i e bc
  simp only [Option.some.injEq] at ah;subst ah
  obtain ⟨nW,c,eQ⟩:=ab.td
  have e9:=aS.kg
  subst eQ;subst e9
  exact key _ (fun op=>eqGuard_at_slice ..) rfl rfl (by rw [nh];exact zw _ bc 0)
 ·simp at ah
theorem A1 {t e:TypeId}(bc:P.underlying t=some (.slice e)){aa:Nat}{es:List (List aj)}(b6:es≠[])
 {ok:Nat→Prop} {az:e8} {aG:eX} {gR gS:Value} (ab:Rel w ok az aG (.a1 aa es) gR) (aS:Rel w ok az aG .dz gS) (p q:Operand) :
 ((do eqGuard .eql t p q gR gS;binOp .eql t gR gS):Sem Value).run P w = .ok (.bool false) w ∧
 ((do eqGuard .neq t p q gR gS;binOp .neq t gR gS):Sem Value).run P w = .ok (.bool true) w:=by
 rcases ab.lU with ⟨h0,-⟩|⟨b7,off,c,-,eQ,-⟩
 ·exact absurd h0 b6
 ·have e9:=aS.kg
  subst eQ;subst e9
  have av:(Op.equal t (.slice (some ⟨b7,off,none⟩) es.length c) (.slice none 0 0)).run P w = .ok false w:=by rw [nh];exact zw _ bc _
  have cS : ∀op,eqGuard op t p q (.slice (some ⟨b7,off,none⟩) es.length c) (.slice none 0 0)=pure ():=fun op=>eqGuard_at_slice ..
  have I:binOp .eql t (.slice (some ⟨b7,off,none⟩) es.length c) (.slice none 0 0)=(do pure (.bool (← Op.equal t (.slice (some ⟨b7,off,none⟩) es.length c) (.slice none 0 0)))):=rfl
  have R:binOp .neq t (.slice (some ⟨b7,off,none⟩) es.length c) (.slice none 0 0)=(do pure (.bool (!(← Op.equal t (.slice (some ⟨b7,off,none⟩) es.length c) (.slice none 0 0))))):=rfl
  constructor
  ·rw [cS,I];simp [av]
  ·rw [cS,R];simp [av]
theorem F1 {op:BinOp}{t cC:TypeId}{x y:Operand}(h:bz g s ai a w)(af:o.op = .binOp op t x y cC)(ah:cu P s.E s.aD aw o bA=some aV)(bt:∀p∈aV.cR,p):Fin P g s a w o aV:=by
 simp only [cu,af] at ah
 have ab:=h.eval x
 have aS:=h.eval y
 split at ah
 ·rename_i v ad a4
  simp only [Option.some.injEq] at ah
  subst ah
  obtain ⟨u,I,R⟩:=FI (P:=P) (t:=t) a4 bt ab aS x y
  refine eD (v:=u) h ?_ rfl R
  simp only [execOp,af]
  rw [Sem.run_bind,I];rfl
 ·split at ah
  ·cases he:lC P t (cG s.E x) (cG s.E y) with
   | none=>simp [he] at ah
   | some r =>
    simp [he] at ah;subst ah
    refine eD (v:= .bool r) h ?_ rfl (.b r)
    simp only [execOp,af]
    rw [Sem.run_bind,(oT (w:=w) he ab aS x y).1];rfl
  ·cases he:lC P t (cG s.E x) (cG s.E y) with
   | none=>simp [he] at ah
   | some r =>
    simp [he] at ah;subst ah
    refine eD (v:= .bool !r) h ?_ rfl (.b _)
    simp only [execOp,af]
    rw [Sem.run_bind,(oT (w:=w) he ab aS x y).2];rfl
  ·simp at ah
theorem GH {op:UnOp}{t:TypeId}{x:Operand}(h:bz g s ai a w)(af:o.op = .unOp op t x)(ah:cu P s.E s.aD aw o bA=some aV):Fin P g s a w o aV:=by
 simp only [cu,af] at ah
 have ab:=h.eval x
 cases he:xr op (cG s.E x) with
 | none=>simp [he] at ah
 | some v =>
  simp [he] at ah;subst ah
  unfold xr at he
  split at he
  ·rename_i k n dG
   rw [dG] at ab
   simp only [Option.some.injEq] at he;subst he
   refine eD (v:= .int k (k.wrap (0-n))) h ?_ rfl (.n _ _)
   simp [execOp,af,ab.j4,Op.unary,Op.intArith]
  ·rename_i b dG
   rw [dG] at ab
   simp only [Option.some.injEq] at he;subst he
   refine eD (v:= .bool !b) h ?_ rfl (.b _)
   simp [execOp,af,ab.mC,Op.unary]
  ·simp at he
theorem Fh {t cC:TypeId}{x:Operand}(h:bz g s ai a w)(af:o.op = .convert t cC x)(ah:cu P s.E s.aD aw o bA=some aV):Fin P g s a w o aV:=by
 simp only [cu,af] at ah
 have ab:=h.eval x
 split at ah
 ·rename_i k bO n bc dG
  rw [dG] at ab
  split at ah
  case isFalse=>simp at ah
  rename_i bR
  simp only [Option.some.injEq] at ah
  subst ah
  refine eD (v:= .int k (k.wrap n)) h ?_ rfl (.n _ _)
  cases BQ:P.underlying t with
  | none=>simp [BQ] at bR
  | some d=>simp [execOp,af,ab.j4,convert,run_underlying bc,run_underlying BQ,Conv.intToInt]
 ·rename_i r k bD len bc dG
  rw [dG] at ab
  split at ah
  ·rename_i ad tL aK
   split at ah
   ·rename_i iY xx
    split at ah
    ·rename_i aY
     simp only [Option.some.injEq] at ah
     subst ah
     obtain ⟨e,bR,he⟩ : ∃e,P.underlying t=some (.slice e)∧P.underlying e=some (.int .u8):=by
      unfold km at tL
      split at tL
      ·rename_i e bR;exact ⟨e,bR,tL⟩
      ·simp at tL
     have b4:s.ad r k=some ad:=aK
     have cN:=h.obj r k ad b4
     have hzero : ∀(iD:Option Addr) (c:Nat),len=0→(convert t cC (.slice iD 0 c)).run P w = .ok (.string (lA iY)) w:=by
      intro iD c h0
      subst h0
      have:iY=[]:=by simpa [bytesOf] using xx
      subst this
      cases iD with
      | none=>rw [run_convert_bytes_string w t cC e none 0 c bR he bc];simp [Conv.bytesToString,lA]
      | some iD =>
       rw [run_convert_bytes_string w t cC e (some iD) 0 c bR he bc,run_bytesToString w iD 0 c [] (by
        have:=run_loadCells_list (P:=P) w iD [] (fun j v aC=>by simp at aC)
        simpa using this)]
       rfl
     rcases ab.qM (eE b4) with ⟨ag,rfl,rfl,hval⟩|⟨b,m,A,c,ag,hval,ld,l8,hm⟩
     ·refine eD (v:= .string (lA iY)) h ?_ rfl (.s _)
      simp [execOp,af,hval,hzero none 0 rfl]
     ·refine eD (v:= .string (lA iY)) h ?_ rfl (.s _)
      by_cases h0:len=0
      ·subst h0;simp [execOp,af,hval,hzero A c rfl]
      ·rcases hm with hm|⟨hA,hm⟩
       ·omega
       ·subst hA
        rw [ag] at cN
        have ey:=cN.rd
        have t0 : ∀(es:List (List aj)) (iY:List Int),bytesOf es=some iY→es.length=iY.length∧ ∀(i:Nat) n,iY[i]? = some n→es[i]? = some [.n .u8 n]:=by
         intro es
         induction es with
         | nil=>intro iY h;simp [bytesOf] at h;subst h;exact ⟨rfl,fun i n aA=>by simp at aA⟩
         | cons x es ih =>
          intro iY h
          unfold bytesOf at h
          split at h
          ·simp at *
          ·rename_i jD K0 t8
           simp only [List.cons.injEq] at t8
           obtain ⟨rfl,rfl⟩:=t8
           rw [Option.map_eq_some_iff] at h
           obtain ⟨du,ua,rfl⟩:=h
           obtain ⟨ar,aE⟩:=ih du ua
           refine ⟨by simp [ar],fun i n aA=> ?_⟩
           cases i with
           | zero=>simp at aA;subst aA;rfl
           | succ i=>simpa using aE i n (by simpa using aA)
          ·simp at h
        obtain ⟨ar,aE⟩:=t0 _ _ xx
        have hlen:iY.length=len:=by rw [← ar];simp;omega
        have Hw:(loadCells ⟨b,bD*ad.aa,none⟩ len).run P w = .ok (iY.map (Value.int .u8)).toArray w:=by
         have:=run_loadCells_list (P:=P) w ⟨b,bD*ad.aa,none⟩ (iY.map (Value.int .u8)) (fun j v aC=>by
          rw [List.getElem?_map,Option.map_eq_some_iff] at aC
          obtain ⟨n,bj,rfl⟩:=aC
          have hM:=aE j n bj
          have nM:j<len:=by rw [← hlen];exact (List.getElem?_eq_some_iff.1 bj).1
          rw [List.getElem?_take_of_lt nM,List.getElem?_drop] at hM
          obtain ⟨v,v1,v2,v3⟩:=ey.2 ((bD+j)*ad.aa+0) (.n .u8 n) (by rw [qq ey.1 hM (by omega)];rfl)
          have aZ:=v3.j4
          subst aZ
          rw [lv,← v1,aY.2]
          congr 2
          omega)
         rw [List.length_map,hlen] at this
         exact this
        have R:=run_bytesToString w ⟨b,bD*ad.aa,none⟩ len c iY Hw
        rw [← run_convert_bytes_string w t cC e _ len c bR he bc] at R
        simp [execOp,af,hval,R,lA]
    ·simp at ah
   ·simp at ah
  ·simp at ah
 ·simp at ah
theorem EZ {f:Fn}{uM bm:Array Operand}(h:bz g s ai a w)(af:o.op = .makeFunc f uM bm)(ah:cu P s.E s.aD aw o bA=some aV):Fin P g s a w o aV:=by
 cases f with
 | func n =>
  simp only [cu,af] at ah
  split at ah
  ·rename_i Im
   simp only [Option.some.injEq] at ah;subst ah
   refine eD (v:= .func (.func n) #[] (bm.map a.eval)) h ?_ rfl ?_
   ·have:uM = #[]:=by simpa using Im
    subst this
    simp [execOp,af,Instr.makeFunc]
   ·have:=Rel.fn (f:=n) (c:=bm.toList.map (cG s.E)) (w:=w) (ok:=s.ok g ai w) (az:=s.az) (aG:=s.aG ai) (bm.toList.map a.eval) (by simp) (by
     intro j x v ab aZ
     rw [List.getElem?_map,Option.map_eq_some_iff] at ab aZ
     obtain ⟨p,ag,rfl⟩:=ab
     obtain ⟨q,aL,rfl⟩:=aZ
     rw [ag] at aL;simp at aL;subst aL
     exact h.eval p)
    have e:(bm.toList.map a.eval).toArray=bm.map a.eval:=by apply Array.ext';rw [Array.toList_map]
    rw [e] at this
    exact this
  ·simp at ah
 | _=>simp [cu,af] at ah
theorem Fi {i:Nat}{x:Operand}(h:bz g s ai a w)(af:o.op = .extract x i)(ah:cu P s.E s.aD aw o bA=some aV):Fin P g s a w o aV:=by
 simp only [cu,af] at ah
 have ab:=h.eval x
 split at ah
 ·rename_i vs dG
  rw [dG] at ab
  cases aA:vs[i]? with
  | none=>simp [aA] at ah
  | some v =>
   simp [aA] at ah;subst ah
   obtain ⟨az,hval,aB,an⟩:=ab.oU
   have cf:i<az.length:=by
    rcases Nat.lt_or_ge i vs.length with bG|bG
    ·omega
    ·rw [List.getElem?_eq_none bG] at aA;simp at aA
   have hu:az[i]? = some az[i]:=List.getElem?_eq_getElem cf
   refine eD (v:=az[i]) h ?_ rfl (an i v _ aA hu)
   simp [execOp,af,hval,Instr.extract,hu]
 ·simp at ah
end
end Go.VL
namespace Go.VL
set_option linter.unusedVariables false
set_option linter.unusedSimpArgs false
open Go
section
variable {P:Program} {g:G} {s:S} {ai:cJ} {a:Act} {w:World} {o:Oper} {bA:cU} {aw:Nat} {aV:et}
theorem lx {t e:TypeId}(h:km P t=some e):P.underlying t=some (.slice e):=by
 unfold km at h
 split at h
 ·rename_i cB he;simp at h;subst h;exact he
 ·simp at h
theorem wj {t:TypeId}{gA:Array Field}(h:fieldsOf P t=some gA):P.underlying t=some (.struct gA):=by
 unfold fieldsOf at h
 split at h
 ·rename_i cB he;simp at h;subst h;exact he
 ·simp at h
theorem zb : ∀(z c:List aj),(k4 z c).length=z.length
 | x::z,y::c=>by simp [k4,zb z c]
 | [],_=>by simp [k4]
 | _::_,[]=>by simp [k4]
theorem EN (z:List aj)(bA:cU):(lY z bA).length=z.length:=by
 unfold lY
 split
 ·exact zb z _
 ·rfl
theorem Fj (x y:aj){w:World}{ok:Nat→Prop}{az:e8}{aG:eX}{v:Value}(h:Rel w ok az aG x v):Rel w ok az aG (qV x y) v:=by
 unfold qV
 split
 ·rw [h.kg];exact .dd _ _ _ (fun _=>rfl)
 ·rw [h.np];exact .j5 _
 ·rw [h.kg];exact .ig (.dd _ _ _ (fun _=>rfl))
 ·exact h
theorem zU : ∀(z c:List aj) (j:Nat) q,(k4 z c)[j]? = some q→ ∃x,z[j]? = some x∧(q=x∨ ∃y,q=qV x y)
 | x::z,y::c,0,q,h=>by simp [k4] at h;exact ⟨x,rfl,.inr ⟨y,h.symm⟩⟩
 | x::z,y::c,j+1,q,h=>by
  simp only [k4,List.getElem?_cons_succ] at h
  simpa using zU z c j q h
 | [],c,j,q,h=>by simp [k4] at h
 | x::z,[],j,q,h=>⟨q,by simpa [k4] using h,.inl rfl⟩
theorem F2 (z:List aj)(bA:cU)(j:Nat)(q:aj)(h:(lY z bA)[j]? = some q): ∃x,z[j]? = some x∧(q=x∨ ∃y,q=qV x y):=by
 unfold lY at h
 split at h
 ·exact zU z _ j q h
 ·exact ⟨q,h,.inl rfl⟩
theorem EO {t:TypeId}{x y:Operand}(h:bz g s ai a w)(cv:s.aD aw=none)(af:o.op = .makeSlice t x y)(ah:cu P s.E s.aD aw o bA=some aV)(bt:∀p∈aV.cR,p):Fin P g s a w o aV:=by
 simp only [cu,af] at ah
 have ab:=h.eval x
 have aS:=h.eval y
 split at ah
 ·rename_i e h6 l hk c he HU HV
  rw [HU] at ab;rw [HV] at aS
  split at ah
  ·rename_i i z aA bY
   obtain ⟨fq,cl,gE,gQ,nX,A2⟩:=qs bY
   rw [aA] at gE;simp at gE;subst gE
   simp only [Option.ite_none_right_eq_some,Option.some.injEq] at ah
   obtain ⟨cx,ah⟩:=ah
   subst ah
   have iT:=EN z bA
   have fR : ∀(j:Nat) q,(lY z bA)[j]? = some q→ ∃v,cl.cells[j]? = some v∧VL.f7 v=true∧ ∀w ok az aG,Rel w ok az aG q v:=by
    intro j q aL
    obtain ⟨x,b1,ub⟩:=F2 z bA j q aL
    obtain ⟨v,v1,v2,v3⟩:=A2 j x b1
    refine ⟨v,v1,v2,fun w ok az aG=> ?_⟩
    rcases ub with rfl|⟨y,rfl⟩
    ·exact v3 w ok az aG
    ·exact Fj x y (v3 w ok az aG)
   clear A2
   have h0:0≤l:=bt _ (by simp)
   have I:l≤c:=bt _ (by simp)
   have R:(i.bytes:Int)*c≤281474976710656:=bt _ (by simp)
   have av:c<9223372036854775808:=bt _ (by simp)
   have iU:z.length=cl.cells.size:=by rw [nX];simp
   have eV:=run_make (P:=P) w t e i cl (lx he) aA gQ h6 hk l c h0 I R (by omega)
   refine te (v:= .slice (some ⟨w.heap.size,0,none⟩) l.toNat c.toNat) (ad:=⟨z.length,List.replicate l.toNat (lY z bA),.live⟩) (c:=madeCells cl.cells (c.toNat*i.size)) (cn:=e) h cv rfl ?_ rfl ?_ ?_ ?_
   ·simp [execOp,af,ab.j4,aS.j4,eV]
   ·intro cB hy;rw [List.eq_of_mem_replicate hy];exact iT
   ·intro j q aL
    have aB : ∀cB∈List.replicate l.toNat (lY z bA),cB.length=z.length:=fun cB hy=>by rw [List.eq_of_mem_replicate hy];exact iT
    rcases Nat.eq_zero_or_pos z.length with mH|uc
    ·have:lY z bA=[]:=List.length_eq_zero_iff.1 (by omega)
     rw [this] at aL
     simp at aL
    ·rw [j2 uc _ aB,List.getElem?_replicate] at aL
     by_cases aC:j / z.length<l.toNat
     ·rw [if_pos aC] at aL
      simp only [Option.bind_some] at aL
      obtain ⟨v,ar,aE,br⟩:=fR _ _ aL
      refine ⟨v,?_,aE,br _ _ _ _⟩
      have cf:j<c.toNat*i.size:=by
       rw [← cx]
       have:j<l.toNat*z.length:=(Nat.div_lt_iff_lt_mul uc).1 aC
       exact Nat.lt_of_lt_of_le this (Nat.mul_le_mul_right _ (by omega))
      simp only [madeCells]
      rw [Array.getElem?_map,Array.getElem?_range]
      simp only [cf,if_true,Option.map_some]
      rw [iU] at ar
      have hm:j % cl.cells.size<cl.cells.size:=Nat.mod_lt _ (by omega)
      rw [Array.getElem?_eq_getElem hm] at ar
      rw [getElem!_pos cl.cells _ hm];exact ar
     ·rw [if_neg aC] at aL;simp at aL
   ·intro a8 hJ im hK hu bu
    refine Rel.bd hu bu (by omega) (by omega) ⟨?_,.inr (by simp)⟩
    rw [size_madeCells]
    simp only [Nat.zero_add,cx]
  ·simp at ah
 ·simp at ah
theorem EP {t:TypeId}{x:Operand}{f:Nat}(h:bz g s ai a w)(af:o.op = .fieldAddr t x f)(ah:cu P s.E s.aD aw o bA=some aV)(bt:∀p∈aV.cR,p):Fin P g s a w o aV:=by
 simp only [cu,af] at ah
 have ab:=h.eval x
 split at ah
 ·rename_i gA rJ
  split at ah
  ·rename_i fd mI
   split at ah
   ·simp at ah
   ·rename_i BR
    have aA:(P.info? fd.type).isSome=true:=by
     cases aA:P.info? fd.type with
     | none=>simp [Program.cellsOf,aA] at BR
     | some i=>rfl
    have eV : ∀A:Addr,A.spot=none→(Instr.fieldAt t (.pointer (some A)) f).run P w = .ok (.pointer (some ⟨A.block,A.off+fd.offset,none⟩)) w:=by
     intro A hA
     have e:A.add fd.offset=⟨A.block,A.off+fd.offset,none⟩:=by
      obtain ⟨b,o,sp⟩:=A
      simp only at hA;subst hA
      exact lv b o _
     simp [Instr.fieldAt,run_underlying (wj rJ),mI,Instr.sureAddr,fieldPlace,nb aA,BR,e]
    split at ah
    ·rename_i r k i off dG
     rw [dG] at ab
     split at ah
     ·rename_i ad aP aK
      split at ah
      ·rename_i c bb iT
       simp only [Option.some.injEq] at ah;subst ah
       have f8:s.ad r k=some ad:=mv aK fun p ag=>bt p (by simp [ag])
       have k9:=qz iT fun p ag=>bt p (by simp [ag])
       have cN:=h.obj r k ad f8
       rcases ab.oV (eE f8) with h0|⟨b,m,ag,hval⟩
       ·rw [h0] at cN;simp only [fc] at cN;rw [cN] at k9;simp at k9
       ·refine eD (v:= .pointer (some ⟨b,i*ad.aa+(off+fd.offset),none⟩)) h ?_ rfl ?_
        ·simp [execOp,af,hval,eV,Nat.add_assoc]
        ·exact ab.FH ((eE f8).trans (by rw [ag])) _
      ·simp at ah
     ·simp at ah
    ·rename_i aa es i off dG
     rw [dG] at ab
     simp only [Option.some.injEq] at ah;subst ah
     obtain ⟨b7,bf,a4,hval,ey⟩:=ab.oW
     refine eD (v:= .pointer (some ⟨b7,bf+(i*aa+(off+fd.offset)),none⟩)) h ?_ rfl (ey.di a4)
     simp [execOp,af,hval,eV,Nat.add_assoc]
    ·simp at ah
  ·simp at ah
 ·simp at ah
theorem EQ {t:TypeId}{x y:Operand}(h:bz g s ai a w)(af:o.op = .indexAddr t x y)(ah:cu P s.E s.aD aw o bA=some aV)(bt:∀p∈aV.cR,p):Fin P g s a w o aV:=by
 simp only [cu,af] at ah
 have ab:=h.eval x
 have aS:=h.eval y
 split at ah
 ·rename_i e k j he dG
  rw [dG] at aS
  have hu:=lx he
  have eV : ∀(b o len cap:Nat),0≤j→j<len→(P.info? e).isSome=true →
   (Instr.indexAt t (.slice (some ⟨b,o,none⟩) len cap) (.int k j)).run P w = .ok (.pointer (some ⟨b,o+j.toNat*P.cellsOf e,none⟩)) w:=by
   intro b o len cap h0 I aA
   have cB:=lv b o (j.toNat*P.cellsOf e)
   simp [Instr.indexAt,asIntOf,run_underlying hu,h0,I,nb aA,cB]
  have nz : ∀aa,aa=P.cellsOf e→aa≠0→(P.info? e).isSome=true:=by
   intro aa bR bY
   cases aA:P.info? e with
   | none=>simp [Program.cellsOf,aA] at bR;exact absurd bR bY
   | some i=>rfl
  split at ah
  ·rename_i aa es rk
   rw [rk] at ab
   simp only [Option.ite_none_right_eq_some,Option.some.injEq] at ah
   obtain ⟨⟨bR,bY⟩,ah⟩:=ah
   subst ah
   have h0:0≤j:=bt _ (by simp)
   have I:j<es.length:=bt _ (by simp)
   rcases ab.lU with ⟨rK,-⟩|⟨b7,off,c,a4,hval,aY,ey⟩
   ·subst rK;simp at I;omega
   ·refine eD (v:= .pointer (some ⟨b7,off+(j.toNat*aa+0),none⟩)) h ?_ rfl (ey.di a4)
    simp [execOp,af,hval,aS.j4,eV _ _ _ _ h0 I (nz aa bR bY),bR]
  ·rename_i r q bD len rk
   rw [rk] at ab
   split at ah
   ·rename_i row b2
    split at ah
    ·rename_i ad aP aK
     simp only [Option.ite_none_right_eq_some,Option.some.injEq] at ah
     obtain ⟨⟨bR,bY⟩,ah⟩:=ah
     subst ah
     have f8:s.ad r q=some ad:=by
      unfold S.ad;rw [b2];exact mv aK fun p ag=>bt p (by simp [ag])
     have h0:0≤j:=bt _ (by simp)
     have I:j<len:=bt _ (by simp)
     rcases ab.qM (eE f8) with ⟨-,-,R,-⟩|⟨b,m,A,c,ag,hval,aB,-,hm⟩
     ·subst R;simp at I;omega
     ·rcases hm with hm|⟨hA,hm⟩
      ·omega
      ·subst hA
       have ff:=s6 f8
       refine eD (v:= .pointer (some ⟨b,(bD+j.toNat)*ad.aa+0,none⟩)) h ?_ rfl (.ref ff ((eE f8).trans (by rw [ag])))
       simp [execOp,af,hval,aS.j4,eV _ _ _ _ h0 I (nz _ bR bY),bR,Nat.add_mul]
    ·simp at ah
   ·simp at ah
  ·simp at ah
 ·simp at ah
theorem F3 {t:TypeId}{x y:Operand}(h:bz g s ai a w)(af:o.op = .index t x y)(ah:cu P s.E s.aD aw o bA=some aV)(bt:∀p∈aV.cR,p):Fin P g s a w o aV:=by
 simp only [cu,af] at ah
 have ab:=h.eval x
 have aS:=h.eval y
 split at ah
 ·rename_i b k j hu rk HW
  rw [rk] at ab;rw [HW] at aS
  simp only [Option.some.injEq] at ah;subst ah
  have h0:0≤j:=bt _ (by simp)
  have I:j<b.size:=bt _ (by simp)
  have R:j.toNat<b.size:=by omega
  refine eD (v:= .int .u8 (b[j.toNat]).toNat) h ?_ rfl ?_
  ·simp [execOp,af,ab.o4,aS.j4,Instr.index,asIntOf,run_underlying hu,h0,R]
  ·have e:b.data.toList.getD j.toNat 0=b[j.toNat]:=by
    rw [List.getD_eq_getElem?_getD,Array.getElem?_toList,Array.getElem?_eq_getElem (by simpa using R)];rfl
   show Rel _ _ _ _ (.n .u8 _) _
   rw [e];exact .n _ _
 ·simp at ah
theorem G8 {c:Call}(h:bz g s ai a w)(af:o.op = .call c)(aY:c.callee = .builtin .len)(ah:cu P s.E s.aD aw o bA=some aV)(bt:∀p∈aV.cR,p):Fin P g s a w o aV:=by
 obtain ⟨ud,args,iq⟩:=c
 simp only at aY;subst aY
 simp only [cu,af] at ah
 have key : ∀(x:Operand) (n:Nat) (t:TypeId) (v:Value),args.toList=[x]→iq = #[t]→aV.val = .n .i64 n→aV.cZ=[]→a.eval x=v →
  (Builtin.len_ #[t] o.type #[v]).run P w = .ok (goInt n) w→Fin P g s a w o aV:=by
  intro x n t v hargs hz an dV aZ eV
  subst hz
  refine eD (v:=goInt n) h ?_ dV (by rw [an];exact .n _ _)
  have bJ:args = #[x]:=by apply Array.ext';simpa using hargs
  subst bJ
  simp [execOp,af,resolve,invoke,builtin,aZ,eV]
 have hargs : ∀y,args.toList.map (cG s.E)=[y]→ ∃x,args.toList=[x]∧cG s.E x=y:=by
  intro y aS
  match aB:args.toList,aS with
  | [x],aS=>simp at aS;exact ⟨x,rfl,aS⟩
 have ju:decide (iq.size=1)=true→ ∃t,iq = #[t]∧iq.getD 0 0=t:=by
  intro cx
  have cx:iq.size=1:=by simpa using cx
  obtain ⟨l⟩:=iq
  match l,cx with
  | [t],_=>exact ⟨t,rfl,rfl⟩
 split at ah
 ·rename_i aa es e hm hu cx
  obtain ⟨x,ab,dG⟩:=hargs _ hm
  obtain ⟨t,bu,jX⟩:=ju cx
  rw [jX] at hu
  simp only [Option.some.injEq] at ah
  have an:=h.eval x
  rw [dG] at an
  rcases an.lU with ⟨rK,A,c,hval,hA⟩|⟨b7,off,c,a4,hval,-⟩
  ·exact key x es.length t _ ab bu (by rw [← ah]) (by rw [← ah]) hval (by subst rK;simp [Builtin.len_,run_underlying hu])
  ·exact key x es.length t _ ab bu (by rw [← ah]) (by rw [← ah]) hval (by simp [Builtin.len_,run_underlying hu])
 ·rename_i r k bD len e hm hu cx
  obtain ⟨x,ab,dG⟩:=hargs _ hm
  obtain ⟨t,bu,jX⟩:=ju cx
  rw [jX] at hu
  split at ah
  ·rename_i row b2
   split at ah
   ·rename_i ad aP aK
    simp only [Option.some.injEq] at ah
    have an:=h.eval x
    rw [dG] at an
    have f8:s.ad r k=some ad:=by
     unfold S.ad;rw [b2];exact mv aK fun p ag=>bt p (by rw [← ah];exact ag)
    rcases an.qM (eE f8) with ⟨-,-,R,hval⟩|⟨b,m,A,c,ag,hval,-⟩
    ·exact key x len t _ ab bu (by rw [← ah]) (by rw [← ah]) hval (by subst R;simp [Builtin.len_,run_underlying hu])
    ·exact key x len t _ ab bu (by rw [← ah]) (by rw [← ah]) hval (by simp [Builtin.len_,run_underlying hu])
   ·simp at ah
  ·simp at ah
 ·rename_i e hm hu cx
  obtain ⟨x,ab,dG⟩:=hargs _ hm
  obtain ⟨t,bu,jX⟩:=ju cx
  rw [jX] at hu
  simp only [Option.some.injEq] at ah
  have an:=h.eval x
  rw [dG] at an
  exact key x 0 t _ ab bu (by rw [← ah];rfl) (by rw [← ah]) an.kg (by simp [Builtin.len_,run_underlying hu])
 ·rename_i b hm hu cx
  obtain ⟨x,ab,dG⟩:=hargs _ hm
  obtain ⟨t,bu,jX⟩:=ju cx
  rw [jX] at hu
  simp only [Option.some.injEq] at ah
  have an:=h.eval x
  rw [dG] at an
  exact key x b.size t _ ab bu (by rw [← ah]) (by rw [← ah]) an.o4 (by simp [Builtin.len_,run_underlying hu])
 ·simp at ah
theorem sO {ok:Nat→Prop}{az:e8}{aG:eX}{b7 off aa:Nat}{es:List (List aj)}(h:jC w ok az aG b7 off aa es)(l n:Nat)(aB:l≤es.length):
 jC w ok az aG b7 (off+l*aa) aa ((es.drop l).take n):=by
 have lB : ∀e∈(es.drop l).take n,e.length=aa:=fun e he=>h.1 e (List.mem_of_mem_drop (List.mem_of_mem_take he))
 refine ⟨lB,fun j x ab=> ?_⟩
 rcases Nat.eq_zero_or_pos aa with h0|bR
 ·have ar : ∀(l:List (List aj)),(∀e∈l,e.length=0)→l.flatten=[]:=by
   intro l aB;induction l with
   | nil=>rfl
   | cons a l ih=>rw [List.flatten_cons,ih fun e he=>aB e (by simp [he])];have:=aB a (by simp);simp_all
  rw [ar _ (fun e he=>(lB e he).trans h0)] at ab;simp at ab
 ·rw [j2 bR _ lB] at ab
  have aC:j / aa<n:=by
   rcases Nat.lt_or_ge (j / aa) n with bG|bG
   ·exact bG
   ·rw [List.getElem?_eq_none (by simp;omega)] at ab;simp at ab
  rw [List.getElem?_take,if_pos aC,List.getElem?_drop] at ab
  obtain ⟨v,ar,aE,br⟩:=h.2 (l*aa+j) x (by
   rw [j2 bR es h.1]
   have dI:(l*aa+j) / aa=l+j / aa:=by rw [Nat.mul_comm,Nat.mul_add_div bR]
   have ed:(l*aa+j) % aa=j % aa:=by rw [Nat.mul_comm,Nat.mul_add_mod]
   rw [dI,ed];exact ab)
  exact ⟨v,by rw [Nat.add_assoc];exact ar,aE,br⟩
theorem sJ {t e:TypeId}(hu:P.underlying t=some (.slice e))(aA:(P.info? e).isSome=true)(A:Option Addr)(len cap:Nat)(bD gE:Option Value)(l h:Nat)
 (Io:(bD=none∧l=0)∨ ∃k,bD=some (.int k l)) (Ip:(gE=none∧h=len)∨ ∃k,gE=some (.int k h)) (I:l≤h) (R:h≤len) (av:len≤cap) :
 (Instr.sliceAt t (.slice A len cap) bD gE none).run P w = .ok (.slice (if cap=l then A else A.map (·.add (l*P.cellsOf e))) (h-l) (cap-l)) w:=by
 have a4 : ∀(k:IntKind) (n y:Nat) (code:BoundsCode),n≤y→(Instr.sliceBound (.int k n) y code).run P w = .ok n w:=by
  intro k n y code bj
  simp [Instr.sliceBound,asIntOf,bj]
 rcases Io with ⟨rfl,rfl⟩|⟨h6,rfl⟩<;>rcases Ip with ⟨rfl,rfl⟩|⟨hk,rfl⟩ <;>
  simp [Instr.sliceAt,Instr.slice,run_underlying hu,Instr.sliceBounds,nb aA,a4,I,R,av,Nat.le_trans R av]
theorem oZ {x:Option Operand}(h:bz g s ai a w){d n:Nat}{ad:List Prop}(a4:bp (x.map (cG s.E)) d=some (n,ad))(bt:∀p∈ad,p):
 (x.map a.eval=none∧n=d)∨ ∃k,x.map a.eval=some (.int k n):=by
 cases x with
 | none=>simp [bp] at a4;exact .inl ⟨rfl,a4.1.symm⟩
 | some x =>
  have ab:=h.eval x
  simp only [Option.map_some] at a4 ⊢
  unfold bp at a4
  split at a4
  ·rename_i he;simp at he
  ·rename_i _ k y he
   simp only [Option.some.injEq] at he
   rw [he] at ab
   simp only [Option.some.injEq,Prod.mk.injEq] at a4
   obtain ⟨rfl,rfl⟩:=a4
   have h0:0≤y:=bt _ (by simp)
   refine .inr ⟨k,?_⟩
   rw [ab.j4,Int.toNat_of_nonneg h0]
  ·simp at a4
theorem F4 {t:TypeId}{x:Operand}{bD aA:Option Operand}(h:bz g s ai a w)(af:o.op = .slice t x bD aA none)(ah:cu P s.E s.aD aw o bA=some aV)(bt:∀p∈aV.cR,p):Fin P g s a w o aV:=by
 simp only [cu,af] at ah
 have ab:=h.eval x
 have nz : ∀aa e,aa=P.cellsOf e→aa≠0→(P.info? e).isSome=true:=by
  intro aa e bR bY
  cases aA:P.info? e with
  | none=>simp [Program.cellsOf,aA] at bR;exact absurd bR bY
  | some i=>rfl
 split at ah
 ·rename_i e aa es hu dG
  rw [dG] at ab
  split at ah
  ·rename_i l aP n bb aB bj
   simp only [Option.ite_none_right_eq_some,Option.some.injEq] at ah
   obtain ⟨⟨bR,bY⟩,ah⟩:=ah
   subst ah
   have h7:=oZ h aB fun p ag=>bt p (by simp [ag])
   have iE:=oZ h bj fun p ag=>bt p (by simp [ag])
   have I:l≤n:=bt _ (by simp)
   have R:n≤es.length:=bt _ (by simp)
   rcases ab.lU with ⟨rK,A,c,hval,hA⟩|⟨b7,off,c,a4,hval,aY,ey⟩
   ·subst rK
    have xy:n=0:=by simpa using R
    subst xy
    have jw:l=0:=by omega
    subst jw
    refine eD (v:= .slice (if c=0 then A else A.map (·.add (0*P.cellsOf e))) (0-0) (c-0)) h ?_ rfl ?_
    ·have:=sJ (w:=w) hu (nz aa e bR bY) A 0 c (bD.map a.eval) (aA.map a.eval) 0 0 h7 iE (Nat.le_refl _) (Nat.le_refl _) (Nat.zero_le _)
     simp only [execOp,af,hval]
     simp only [Option.map_none,Sem.run_bind,this];rfl
    ·refine .dd aa _ _ fun bj=> ?_
     split at bj
     ·rename_i ue;omega
     ·have:=hA (by simpa using bj)
      omega
   ·have hlen:((es.drop l).take (n-l)).length=n-l:=by simp;omega
    refine eD (v:= .slice (if c=l then some ⟨b7,off,none⟩ else (some (⟨b7,off,none⟩:Addr)).map (·.add (l*P.cellsOf e))) (n-l) (c-l)) h ?_ rfl ?_
    ·have:=sJ (w:=w) hu (nz aa e bR bY) (some ⟨b7,off,none⟩) es.length c (bD.map a.eval) (aA.map a.eval) l n h7 iE I R aY
     simp only [execOp,af,hval]
     simp only [Option.map_none,Sem.run_bind,this];rfl
    ·by_cases eW:c=l
     ·have:n-l=0:=by omega
      rw [this]
      show Rel _ _ _ _ (.a1 aa ((es.drop l).take 0)) _
      rw [List.take_zero]
      exact .dd aa _ _ (fun _=>by omega)
     ·rw [if_neg eW]
      simp only [Option.map_some,lv,← bR]
      have an:=(sO ey l (n-l) (by omega)).a1 (c:=c-l) ⟨a4.1,fun e he=>a4.2 e (List.mem_of_mem_drop (List.mem_of_mem_take he))⟩ (by rw [hlen];omega)
      rw [hlen] at an
      exact an
  ·simp at ah
 ·rename_i e r k Cx len hu dG
  rw [dG] at ab
  split at ah
  ·simp at ah
  ·rename_i row b2
   split at ah
   ·simp at ah
   ·rename_i ad Cy aK
    split at ah
    ·rename_i l aP n bb aB bj
     simp only [Option.ite_none_right_eq_some,Option.some.injEq] at ah
     obtain ⟨⟨bR,bY⟩,ah⟩:=ah
     subst ah
     have f8:s.ad r k=some ad:=by
      unfold S.ad;rw [b2];exact mv aK fun p ag=>bt p (by simp [ag])
     have h7:=oZ h aB fun p ag=>bt p (by simp [ag])
     have iE:=oZ h bj fun p ag=>bt p (by simp [ag])
     have I:l≤n:=bt _ (by simp)
     have R:n≤len:=bt _ (by simp)
     have ff:=s6 f8
     rcases ab.nq (eE f8) with ⟨ag,rfl,rfl,hval⟩|⟨b,m,A,c,ag,hval,ld,l8,ir,hm⟩
     ·have xy:n=0:=by omega
      subst xy
      have jw:l=0:=by omega
      subst jw
      refine eD (v:= .slice none 0 0) h ?_ rfl (.i4 ff ((eE f8).trans (by rw [ag])))
      have:=sJ (w:=w) hu (nz _ e bR bY) none 0 0 (bD.map a.eval) (aA.map a.eval) 0 0 h7 iE (Nat.le_refl _) (Nat.le_refl _) (Nat.le_refl _)
      simp only [execOp,af,hval]
      simp only [Option.map_none,Sem.run_bind,this];rfl
     ·refine eD (v:= .slice (if c=l then A else A.map (·.add (l*P.cellsOf e))) (n-l) (c-l)) h ?_ rfl ?_
      ·have:=sJ (w:=w) hu (nz _ e bR bY) A len c (bD.map a.eval) (aA.map a.eval) l n h7 iE I R ld
       simp only [execOp,af,hval]
       simp only [Option.map_none,Sem.run_bind,this];rfl
      ·refine Rel.bd ff ((eE f8).trans (by rw [ag])) (by omega) (by omega) ?_
       refine ⟨by rw [← ir];congr 1;omega,?_⟩
       by_cases eW:c=l
       ·exact .inl (by omega)
       ·rcases hm with hm|hA
        ·exact .inl (by omega)
        ·refine .inr ?_
         rw [if_neg eW,hA]
         simp only [Option.map_some,lv,← bR,Nat.add_mul]
    ·simp at ah
 ·rename_i b hu dG
  rw [dG] at ab
  split at ah
  ·rename_i l aP n bb aB bj
   simp only [Option.some.injEq] at ah
   subst ah
   have h7:=oZ h aB fun p ag=>bt p (by simp [ag])
   have iE:=oZ h bj fun p ag=>bt p (by simp [ag])
   have I:l≤n:=bt _ (by simp)
   have R:n≤b.size:=bt _ (by simp)
   refine eD (v:= .string (b.extract l n)) h ?_ rfl (.s _)
   have a4 : ∀(k:IntKind) (n y:Nat) (code:BoundsCode),n≤y→(Instr.sliceBound (.int k n) y code).run P w = .ok n w:=by
    intro k n y code bj
    simp [Instr.sliceBound,asIntOf,bj]
   simp only [execOp,af,ab.o4,Option.map_none]
   rcases h7 with ⟨ar,rfl⟩|⟨h6,ar⟩<;>rcases iE with ⟨aE,rfl⟩|⟨hk,aE⟩<;>rw [ar,aE] <;>
    simp [Instr.sliceAt,Instr.slice,run_underlying hu,Instr.sliceBounds,a4,I,R]
  ·simp at ah
 ·simp at ah
end
end Go.VL
namespace Go.VL
set_option linter.unusedVariables false
set_option linter.unusedSimpArgs false
open Go
section
variable {P:Program} {g:G} {s:S} {ai:cJ} {a:Act} {w:World} {o:Oper} {bA:cU} {aw:Nat} {aV:et}
theorem Fk {ok:Nat→Prop}{az:e8}{aG:eX}{t:TypeId}{c:List aj}{off:Nat}{x:aj}{vs:List Value}(aB:vs.length=c.length)
 (fR : ∀(j:Nat) u,vs[j]? = some u→f7 u=true) (an : ∀(j:Nat) x u,c[j]? = some x→vs[j]? = some u→Rel w ok az aG x u)
 (bu:lX P t c off=some x) : ∃v,(part t vs.toArray off).run P w = .ok v w∧Rel w ok az aG x v:=by
 unfold lX at bu
 split at bu
 ·simp at bu
 ·rename_i aA
  simp only [Bool.not_eq_true',Bool.not_eq_false,Bool.and_eq_true] at aA
  simp only [part,Sem.run_bind,zS aA.1,Result.andThen]
  split at bu
  ·rename_i k8
   rw [k8]
   split at bu
   ·rename_i hle
    simp at bu;subst bu
    have e:(vs.toArray.extract off (off+P.cellsOf t))=((vs.drop off).take (P.cellsOf t)).toArray:=by
     apply Array.ext'
     simp [List.extract_eq_take_drop]
    refine ⟨.agg ((vs.drop off).take (P.cellsOf t)).toArray,by simp [nb aA.2],?_⟩
    refine .agg _ (by simp;omega) ?_ ?_
    ·intro j v aZ
     rw [List.getElem?_take] at aZ
     split at aZ
     ·rw [List.getElem?_drop] at aZ;exact fR _ _ aZ
     ·simp at aZ
    ·intro j y v aS aZ
     rw [List.getElem?_take] at aZ aS
     split at aZ
     ·rename_i aC
      rw [if_pos aC] at aS
      rw [List.getElem?_drop] at aZ aS;exact an _ _ _ aS aZ
     ·simp at aZ
   ·simp at bu
  ·rename_i k8
   have k8:qU P t=false:=by simpa using k8
   rw [k8]
   split at bu
   ·rename_i y aS
    split at bu
    ·simp at bu;subst bu
     have pa:off<vs.length:=by
      rcases Nat.lt_or_ge off c.length with h|h
      ·omega
      ·rw [List.getElem?_eq_none h] at aS;simp at aS
     exact ⟨vs[off],by simp [pa],an off y _ aS (List.getElem?_eq_getElem pa)⟩
    ·simp at bu
   ·simp at bu
theorem F5 {t:TypeId}{x:Operand}{f:Nat}(h:bz g s ai a w)(af:o.op = .field t x f)(ah:cu P s.E s.aD aw o bA=some aV):Fin P g s a w o aV:=by
 simp only [cu,af] at ah
 have ab:=h.eval x
 split at ah
 ·rename_i gA rJ
  split at ah
  ·rename_i fd c mI dG
   rw [dG] at ab
   cases bu:lX P fd.type c fd.offset with
   | none=>simp [bu] at ah
   | some v =>
    simp [bu] at ah;subst ah
    obtain ⟨vs,hval,aB,aY,an⟩:=ab.qL
    obtain ⟨u,I,R⟩:=Fk aB aY an bu
    refine eD (v:=u) h ?_ rfl R
    simp [execOp,af,hval,Instr.field,run_underlying (wj rJ),mI,asAgg,I]
  ·simp at ah
 ·simp at ah
theorem FJ (off:Nat): ∀(vs:List Value) (n:Nat) (b5:Array Value) (j:Nat),off+n+vs.length≤b5.size →
 ((vs.zipIdx n).foldl (fun b5 (x:Value×Nat)=>b5.setIfInBounds (off+x.2) x.1) b5)[j]? = if off+n≤j∧j<off+n+vs.length then vs[j-(off+n)]? else b5[j]? := by
 intro vs
 induction vs with
 | nil=>intro n b5 j h;simp;intro I R;omega
 | cons v vs ih =>
  intro n b5 j h
  simp only [List.length_cons] at h
  simp only [List.zipIdx_cons,List.foldl_cons]
  rw [ih (n+1) _ j (by simp;omega)]
  simp only [List.length_cons,Array.getElem?_setIfInBounds]
  by_cases I:j=off+n
  ·subst I
   rw [if_neg (by omega),if_pos rfl,if_pos (by omega),if_pos (by omega)]
   simp
  ·by_cases R:off+(n+1)≤j∧j<off+(n+1)+vs.length
   ·rw [if_pos R,if_pos (by omega)]
    rw [show j-(off+n)=(j-(off+(n+1)))+1 by omega];rfl
   ·rw [if_neg R,if_neg (fun e=>I e.symm),if_neg (by omega)]
theorem Eo (off:Nat): ∀(vs:List (Value×Nat)) (b5:Array Value),(vs.foldl (fun b5 (x:Value×Nat)=>b5.setIfInBounds (off+x.2) x.1) b5).size=b5.size:=by
 intro vs
 induction vs with
 | nil=>intro b5;rfl
 | cons v vs ih=>intro b5;simp only [List.foldl_cons];rw [ih];simp
def pH (w:World)(ok:Nat→Prop)(az:e8)(aG:eX)(c:List aj)(b5:Array Value):Prop :=
 b5.size=c.length∧(∀(j:Nat) u,b5[j]? = some u→f7 u=true)∧ ∀(j:Nat) x u,c[j]? = some x→b5[j]? = some u→Rel w ok az aG x u
theorem F6 {ok:Nat→Prop}{az:e8}{aG:eX}{c:List aj}{b5:Array Value}(h:pH w ok az aG c b5){x:aj}{v:Value}{off:Nat}(ab:Rel w ok az aG x v)(aY:x.oQ=true)
 (ex:off+x.cells.length≤c.length):v.cells.size=x.cells.length ∧
   pH w ok az aG (setCells c off x.cells) (v.cells.zipIdx.foldl (fun b5 (y:Value×Nat)=>b5.setIfInBounds (off+y.2) y.1) b5):=by
 obtain ⟨vs,aZ,aB,fR,an⟩:=ab.cellsOf (aj.zi aY)
 have hz : ∀j,(v.cells.zipIdx.foldl (fun b5 (y:Value×Nat)=>b5.setIfInBounds (off+y.2) y.1) b5)[j]? = if off≤j∧j<off+vs.length then vs[j-off]? else b5[j]? := by
  intro j
  rw [aZ]
  have:=FJ off vs 0 b5 j (by rw [h.1];omega)
  simp only [Nat.add_zero] at this
  rw [← this,← Array.foldl_toList,Array.toList_zipIdx]
 refine ⟨by rw [aZ];simpa using aB,?_,?_,?_⟩
 ·rw [y1 ex,← h.1,← Array.foldl_toList,Eo]
 ·intro j u hu
  rw [hz] at hu
  split at hu
  ·exact fR _ _ hu
  ·exact h.2.1 _ _ hu
 ·intro j y u aS hu
  rw [hz] at hu
  rw [wi ex] at aS
  by_cases hM:off≤j∧j<off+x.cells.length
  ·rw [if_pos hM] at aS
   rw [if_pos (by rw [aB];exact hM)] at hu
   exact an _ _ _ aS hu
  ·rw [if_neg hM] at aS
   rw [if_neg (by rw [aB];exact hM)] at hu
   exact h.2.2 _ _ _ aS hu
theorem zx {ok:Nat→Prop}{az:e8}{aG:eX}(place:Nat→Option (Nat×Nat)): ∀(l:List (Nat×Nat×aj)) (fE:List (Nat×Value)) (c:List aj) (b5:Array Value) (bV:List aj),
 pH w ok az aG c b5→l.length=fE.length →
 (∀(j:Nat) off size x i v,l[j]? = some (off,size,x)→fE[j]? = some (i,v)→place i=some (off,size)∧Rel w ok az aG x v) →
 mB c l=some bV→ ∃iu,Instr.fill place b5 fE=some iu∧pH w ok az aG bV iu:=by
 intro l
 induction l with
 | nil =>
  intro fE c b5 bV h aB _ bo
  have:fE=[]:=List.length_eq_zero_iff.1 (by simpa using aB.symm)
  subst this
  simp [mB] at bo;subst bo
  exact ⟨b5,rfl,h⟩
 | cons q l ih =>
  intro fE c b5 bV h aB ag bo
  obtain ⟨off,size,x⟩:=q
  match fE,aB with
  | (i,v)::fE,aB =>
   obtain ⟨Iq,ab⟩:=ag 0 off size x i v rfl rfl
   simp only [mB] at bo
   split at bo
   ·rename_i aY
    simp only [Bool.and_eq_true,decide_eq_true_eq] at aY
    obtain ⟨⟨I,R⟩,av⟩:=aY
    obtain ⟨ar,aE⟩:=F6 h ab I (off:=off) (by omega)
    obtain ⟨iu,f1,f2⟩:=ih fE _ _ bV aE (by simpa using aB) (fun j off size x i v a b=>ag (j+1) off size x i v a b) bo
    refine ⟨iu,?_,f2⟩
    rw [Instr.fill]
    simp only [Iq]
    have jv : ¬(decide (v.cells.size≠size) || decide (off+v.cells.size>b5.size))=true:=by simp;rw [ar,h.1];omega
    rw [if_neg jv]
    exact f1
   ·simp at bo
theorem mapM_some {α β:Type}(f:α→β)(p:α→Option β): ∀(l:List α),(∀x∈l,p x=some (f x))→l.mapM p=some (l.map f)
 | [],_=>rfl
 | x::l,h=>by
  rw [List.mapM_cons,h x (by simp),mapM_some f p l fun y aS=>h y (by simp [aS])];rfl
theorem Ay {α β:Type}(p:α→Option β): ∀(l:List α) (cQ:List β),l.mapM p=some cQ→cQ.length=l.length∧ ∀(j:Nat) x y,l[j]? = some x→cQ[j]? = some y→p x=some y
 | [],cQ,h=>by simp at h;subst h;exact ⟨rfl,fun j x y ab=>by simp at ab⟩
 | a::l,cQ,h=>by
  rw [List.mapM_cons] at h
  cases bJ:p a with
  | none=>simp [bJ] at h
  | some b =>
   cases aB:l.mapM p with
   | none=>simp [bJ,aB] at h
   | some r =>
    simp [bJ,aB] at h;subst h
    obtain ⟨I,R⟩:=Ay p l r aB
    refine ⟨by simp [I],fun j x y ab aS=> ?_⟩
    cases j with
    | zero=>simp at ab aS;subst ab;subst aS;exact bJ
    | succ j=>simp at ab aS;exact R j x y ab aS
theorem Az {t:TypeId}{z:List aj}(bY:k2 P t=some z): ∃i cl,P.info? t=some i∧i.zero=some cl∧cl.cells.size=z.length∧pH w (s.ok g ai w) s.az (s.aG ai) z cl.cells:=by
 obtain ⟨i,cl,aA,gQ,nX,fR⟩:=qs bY
 have bR:cl.cells.size=z.length:=by rw [nX];simp
 refine ⟨i,cl,aA,gQ,bR,bR,fun j u hu=> ?_,fun j x u ab hu=> ?_⟩
 ·have aC:j<z.length:=by
   have:=(Array.getElem?_eq_some_iff.1 hu).1;omega
  obtain ⟨v,ar,aE,-⟩:=fR j z[j] (List.getElem?_eq_getElem aC)
  rw [hu] at ar;simp at ar;subst ar;exact aE
 ·obtain ⟨v,ar,-,br⟩:=fR j x ab
  rw [hu] at ar;simp at ar;subst ar;exact br _ _ _ _
theorem F7 {t:TypeId}{parts:Array (Nat×Operand)}(h:bz g s ai a w)(af:o.op = .build t parts)(ah:cu P s.E s.aD aw o bA=some aV):Fin P g s a w o aV:=by
 simp only [cu,af] at ah
 split at ah
 ·rename_i gA z rJ bY
  split at ah
  ·simp at ah
  ·rename_i ja
   have ja : ∀f∈gA.toList,(P.info? f.type).isSome=true:=by
    rw [Bool.not_eq_false] at ja
    exact List.all_eq_true.1 ja
   split at ah
   ·rename_i l aB
    cases bo:mB z l with
    | none=>simp [bo] at ah
    | some c =>
     simp [bo] at ah;subst ah
     obtain ⟨it,cl,rL,gQ,cx,mJ⟩:=Az (w:=w) (s:=s) (g:=g) (ai:=ai) bY
     obtain ⟨j0,lJ⟩:=Ay _ _ _ aB
     have HX:gA.toList.mapM (fun f=>(P.info? f.type).map fun i=>(f.offset,i.size))=some (gA.toList.map fun f=>(f.offset,P.cellsOf f.type)):=by
      refine mapM_some (fun f:Field=>(f.offset,P.cellsOf f.type)) _ _ fun f bo=> ?_
      have:=ja f bo
      cases aA:P.info? f.type with
      | none=>simp [aA] at this
      | some i=>simp [Program.cellsOf,aA]
     obtain ⟨iu,f1,f2⟩:=zx (w:=w) (ok:=s.ok g ai w) (az:=s.az) (aG:=s.aG ai) ((gA.toList.map fun f=>(f.offset,P.cellsOf f.type)).toArray[·]?) l (parts.map fun (i,x)=>(i,a.eval x)).toList z cl.cells c mJ (by simpa using j0) (by
      intro j off size x i v aC aZ
      simp only [Array.toList_map,List.getElem?_map,Option.map_eq_some_iff] at aZ
      obtain ⟨⟨fq,bx⟩,ag,aZ⟩:=aZ
      simp only [Prod.mk.injEq] at aZ
      obtain ⟨rfl,rfl⟩:=aZ
      have:=lJ j _ _ ag aC
      simp only [Option.map_eq_some_iff,Prod.mk.injEq] at this
      obtain ⟨fd,I,R,av,aR⟩:=this
      subst R;subst av;subst aR
      refine ⟨?_,h.eval bx⟩
      rw [List.getElem?_toArray,List.getElem?_map,Array.getElem?_toList,I];rfl) bo
     have a4:P.built t (parts.map fun (i,x)=>(i,a.eval x)).toList=some iu:=by
      unfold Program.built
      simp only [rL,wj rJ,gQ,HX]
      exact f1
     refine eD (v:= .agg iu) h ?_ rfl ?_
     ·have:=run_build w t _ iu a4
      simp [execOp,af,this]
     ·have:=Rel.agg (w:=w) (ok:=s.ok g ai w) (az:=s.az) (aG:=s.aG ai) (c:=c) iu.toList (by simpa using f2.1) (fun j u hu=>f2.2.1 j u (by simpa using hu)) (fun j x u ab hu=>f2.2.2 j x u ab (by simpa using hu))
      simpa using this
   ·simp at ah
 ·simp at ah
theorem DZ {aa:Nat}{es:List (List aj)}(aB:∀e∈es,e.length=aa){i:Nat}(aA:i<es.length){c:List aj}(aY:c.length=aa):
 setCells es.flatten (i*aa) c=(es.set i c).flatten:=by
 have hlen : ∀(es:List (List aj)),(∀e∈es,e.length=aa)→es.flatten.length=es.length*aa:=by
  intro es
  induction es with
  | nil=>simp
  | cons e es ih =>
   intro h
   rw [List.flatten_cons,List.length_append,ih fun x ab=>h x (by simp [ab]),h e (by simp),List.length_cons,Nat.add_mul];omega
 have ex:i*aa+c.length≤es.flatten.length:=by
  rw [hlen es aB,aY]
  have:=Nat.mul_le_mul_right aa (show i+1≤es.length by omega)
  rw [Nat.add_mul] at this;omega
 apply List.ext_getElem?
 intro j
 rw [wi ex,zj aB (List.getElem?_eq_getElem aA) aY,aY]
theorem zy {aa:Nat}: ∀(l:List (Nat×aj)) (es dj:List (List aj)),(∀e∈es,e.length=aa)→o3 aa es l=some dj →
 mB es.flatten (l.map fun p=>(p.1*aa,aa,p.2))=some dj.flatten∧(∀e∈dj,e.length=aa)∧dj.length=es.length
 | [],es,dj,aB,h=>by simp [o3] at h;subst h;exact ⟨rfl,aB,rfl⟩
 | (i,x)::l,es,dj,aB,h=>by
  simp only [o3] at h
  split at h
  ·rename_i aY
   simp only [Bool.and_eq_true,decide_eq_true_eq] at aY
   obtain ⟨⟨I,R⟩,av⟩:=aY
   have xt : ∀e∈es.set i x.cells,e.length=aa:=by
    intro e hm
    rcases List.mem_or_eq_of_mem_set hm with bG|bG
    ·exact aB e bG
    ·exact bG▸R
   obtain ⟨dI,ed,c1⟩:=zy l (es.set i x.cells) dj xt h
   have e:=DZ aB av R
   have ex:i*aa+aa≤es.flatten.length:=by
    have:(setCells es.flatten (i*aa) x.cells).length=(es.set i x.cells).flatten.length:=by rw [e]
    have aL : ∀(es:List (List aj)),(∀e∈es,e.length=aa)→es.flatten.length=es.length*aa:=by
     intro es
     induction es with
     | nil=>simp
     | cons e es ih =>
      intro h
      rw [List.flatten_cons,List.length_append,ih fun x ab=>h x (by simp [ab]),h e (by simp),List.length_cons,Nat.add_mul];omega
    rw [aL es aB]
    have:=Nat.mul_le_mul_right aa (show i+1≤es.length by omega)
    rw [Nat.add_mul] at this;omega
   refine ⟨?_,ed,by simpa using c1⟩
   simp only [List.map_cons,mB,I,R,ex,decide_true,Bool.and_self,if_true]
   rw [e];exact dI
  ·simp at h
theorem Ey {t:TypeId}{len:Nat}{parts:Array (Nat×Operand)}(h:bz g s ai a w)(cv:s.aD aw=none)(af:o.op = .buildSlice t len parts)(ah:cu P s.E s.aD aw o bA=some aV):Fin P g s a w o aV:=by
 simp only [cu,af] at ah
 split at ah
 ·rename_i e he
  split at ah
  ·rename_i z bY
   split at ah
   ·simp at ah
   ·rename_i aY
    simp only [not_or,Nat.not_lt,Decidable.not_not] at aY
    obtain ⟨pi,pj,pk⟩:=aY
    split at ah
    ·rename_i es dU
     simp only [Option.some.injEq] at ah;subst ah
     obtain ⟨it,cl,rL,gQ,cx,mJ⟩:=Az (w:=w) (s:=s) (g:=g) (ai:=ai) bY
     have fR:P.cellsOf e=it.size:=by simp [Program.cellsOf,rL]
     have BA : ∀x∈List.replicate len z,x.length=z.length:=fun x ab=>by rw [List.eq_of_mem_replicate ab]
     obtain ⟨f1,f2,f3⟩:=zy _ _ _ BA dU
     have mH:pH w (s.ok g ai w) s.az (s.aG ai) (List.replicate len z).flatten ((Array.range (len*it.size)).map (cl.cells[· % cl.cells.size]!)):=by
      have uc:0<z.length:=by omega
      have hz : ∀j,j<len*it.size→((Array.range (len*it.size)).map (cl.cells[· % cl.cells.size]!))[j]? = cl.cells[j % z.length]? := by
       intro j aC
       rw [Array.getElem?_map,Array.getElem?_range]
       simp only [aC,if_true,Option.map_some]
       have hm:j % cl.cells.size<cl.cells.size:=Nat.mod_lt _ (by omega)
       rw [getElem!_pos cl.cells _ hm,← cx,Array.getElem?_eq_getElem hm]
      have cf : ∀(j:Nat) u,((Array.range (len*it.size)).map (cl.cells[· % cl.cells.size]!))[j]? = some u→j<len*it.size:=by
       intro j u hu
       have:=(Array.getElem?_eq_some_iff.1 hu).1
       simpa using this
      refine ⟨by simp [← fR,← pj],fun j u hu=> ?_,fun j x u ab hu=> ?_⟩
      ·have aC:=cf j u hu
       rw [hz j aC] at hu
       exact mJ.2.1 _ _ hu
      ·have aC:=cf j u hu
       rw [hz j aC] at hu
       rw [j2 uc _ BA,List.getElem?_replicate] at ab
       split at ab
       ·exact mJ.2.2 _ _ _ ab hu
       ·simp at ab
     obtain ⟨iu,g1,g2⟩:=zx (w:=w) (ok:=s.ok g ai w) (az:=s.az) (aG:=s.aG ai) (fun i=>some (i*it.size,it.size)) ((parts.toList.map fun p=>(p.1,cG s.E p.2)).map fun p=>(p.1*z.length,z.length,p.2)) (parts.map fun (i,x)=>(i,a.eval x)).toList _ _ es.flatten mH (by simp) (by
      intro j off size x i v aC aZ
      simp only [Array.toList_map,List.getElem?_map,Option.map_eq_some_iff,List.map_map] at aZ aC
      obtain ⟨⟨fq,bx⟩,ag,aZ⟩:=aZ
      obtain ⟨⟨kD,fL⟩,rH,aC⟩:=aC
      rw [ag] at rH
      simp only [Option.some.injEq,Prod.mk.injEq] at rH aZ
      obtain ⟨rfl,rfl⟩:=rH
      obtain ⟨rfl,rfl⟩:=aZ
      simp only [Function.comp,Prod.mk.injEq] at aC
      obtain ⟨rfl,rfl,rfl⟩:=aC
      exact ⟨by rw [← fR,← pj],h.eval bx⟩) f1
     have eV:(Instr.buildSlice t len (parts.map fun (i,x)=>(i,a.eval x))).run P w = .ok (.slice (some ⟨w.heap.size,0,none⟩) len len) (w.alloc (.cells iu e)):=by
      have I : ¬len*it.size>2 ^ 24:=by rw [← fR,← pj];omega
      by_cases h0:len*it.size=0
      ·have jw:len=0:=by
        rcases Nat.eq_zero_or_pos len with bG|bG
        ·exact bG
        ·have:0<len*it.size:=Nat.mul_pos bG (by omega)
         omega
       subst jw
       have e0:((Array.range (0*it.size)).map (cl.cells[· % cl.cells.size]!)) = #[]:=by simp
       rw [e0] at g1
       have ag:parts = #[]:=by
        obtain ⟨l⟩:=parts
        match l,dU with
        | [],_=>rfl
        | p::l,dU=>simp [o3] at dU
       subst ag
       have HY:iu = #[]:=by simpa [Instr.fill] using g1.symm
       subst HY
       simp [Instr.buildSlice,run_underlying (lx he),sizeOf,typeInfo,rL,newRow,Instr.fill]
       rw [Array.range_zero',Array.map_empty]
      ·simp only [Instr.buildSlice,run_underlying (lx he),sizeOf,typeInfo,rL,newRow,zeroValue,gQ,Sem.run_bind,Result.andThen_ok,run_program,Sem.run_pure,Sem.run_ite,I,h0,if_false]
       rw [g1];rfl
     refine te (v:= .slice (some ⟨w.heap.size,0,none⟩) len len) (ad:=⟨z.length,es,.live⟩) (c:=iu) (cn:=e) h cv rfl ?_ rfl f2 ?_ ?_
     ·simp [execOp,af,eV]
     ·intro j x ab
      have aC:j<iu.size:=by
       rw [g2.1]
       rcases Nat.lt_or_ge j es.flatten.length with bG|bG
       ·exact bG
       ·rw [List.getElem?_eq_none bG] at ab;simp at ab
      have hu:iu[j]? = some iu[j]:=Array.getElem?_eq_getElem aC
      exact ⟨_,hu,g2.2.1 _ _ hu,g2.2.2 _ _ _ ab hu⟩
     ·intro a8 hJ im hK hu bu
      refine Rel.bd hu bu (Nat.le_refl _) ?_ ⟨?_,.inr (by simp)⟩
      ·have:len≤len*z.length:=Nat.le_mul_of_pos_right _ (by omega)
       omega
      ·rw [g2.1]
       have aL : ∀(es:List (List aj)),(∀e∈es,e.length=z.length)→es.flatten.length=es.length*z.length:=by
        intro es
        induction es with
        | nil=>simp
        | cons e es ih =>
         intro h
         rw [List.flatten_cons,List.length_append,ih fun x ab=>h x (by simp [ab]),h e (by simp),List.length_cons,Nat.add_mul];omega
       rw [aL es f2,f3];simp
    ·simp at ah
  ·simp at ah
 ·simp at ah
theorem sV (h:bz g s ai a w)(cv:s.aD aw=none)(ah:cu P s.E s.aD aw o bA=some aV)(bt:∀p∈aV.cR,p):Fin P g s a w o aV:=by
 cases af:o.op with
 | move x=>exact Ax h (.inl af) ah
 | assign x=>exact Ax h (.inr af) ah
 | pick c x y=>exact GF h af ah bt
 | alloc t=>exact FZ h cv af ah
 | box t x=>exact G7 h cv af ah
 | load t x=>exact GG h af ah bt
 | store t x y=>exact F0 h af ah bt
 | nilCheck x=>exact EY h af ah bt
 | binOp op t x y cC=>exact F1 h af ah bt
 | unOp op t x=>exact GH h af ah
 | convert t cC x=>exact Fh h af ah
 | makeFunc f uM bm=>exact EZ h af ah
 | makeSlice t x y=>exact EO h cv af ah bt
 | fieldAddr t x f=>exact EP h af ah bt
 | field t x f=>exact F5 h af ah
 | indexAddr t x y=>exact EQ h af ah bt
 | index t x y=>exact F3 h af ah bt
 | extract x i=>exact Fi h af ah
 | slice t x bD aA ya =>
  cases ya with
  | none=>exact F4 h af ah bt
  | some m=>simp [cu,af] at ah
 | build t fE=>exact F7 h af ah
 | buildSlice t n fE=>exact Ey h cv af ah
 | call c =>
  obtain ⟨ud,args,iq⟩:=c
  cases ud with
  | builtin b=>cases b<;>first|exact G8 h af rfl ah bt|simp [cu,af] at ah
  | value f=>simp [cu,af] at ah
  | invoke r m=>simp [cu,af] at ah
 | _=>simp [cu,af] at ah
end
end Go.VL
namespace Go.VL
set_option linter.unusedVariables false
set_option linter.unusedSimpArgs false
open Go
def G9:Option ao→cU
 | some o=> .ri o []
 | none=> .none
def k5 (aa:Nat)(aD:Nat→Option (List ao))(a:cU):aj→Option (List (List aj)×List Prop)
 | .a1 uf es=>if uf=aa then some (es,[]) else none
 | .bd r k bD len=>match jR (aD r) k a with
  | some (ad,aP)=>if ad.aa=aa then some ((ad.es.drop bD).take len,aP++[bD+len≤ad.es.length]) else none
  | none=>none
 | .dz=>some ([],[])
 | .eL=>some ([],[])
 | _=>none
def nw (P:Program)(aa:Nat)(z:List aj)(aD:Nat→Option (List ao))(a:cU)(t cC:TypeId)(y:aj):Option (List (List aj)×List Prop) :=
 if t=cC then k5 aa aD a y else
 match P.underlying cC,y with
 | some (.int _),.n .i64 n=>some (List.replicate n.toNat z,[0≤n,n<9223372036854775808])
 | _,_=>none
def jd (P:Program)(E:Nat→aj)(aD:Nat→Option (List ao))(aw:Nat)(b:Builtin)(args:List aj)(iq:List TypeId)(bA:cU):Option et :=
 match b,args,iq,bA with
 | .append,[x,y],[t,cC],.aW m o =>
  match km P t with
  | none=>none
  | some e=>match P.info? e,k2 P e with
   | some i,some z =>
    if z.length≠i.size∨i.size=0∨i.bytes=0 then none else
    match nw P i.size z aD (G9 o) t cC y with
    | none=>none
    | some (aU,aP)=>match x with
     | .dz=>some {val:= .bd aw 0 0 m,cZ:=[(aw,[⟨i.size,aU,.live⟩])],cR:=aP++[m=aU.length,m*i.bytes≤140737488355328]}
     | .bd r k 0 len=>match aD r with
      | none=>none
      | some row=>match bN (some row) k with
       | none=>none
       | some ad=>if ad.bn = .live∧ad.aa=i.size∧aw≠r then
        some {val:= .bd aw 0 0 m,cZ:=[(aw,[⟨i.size,ad.es.take len++aU,.live⟩]),(r,row.set k {ad with bn:= .gone})],cR:=aP++[len≤ad.es.length,m=len+aU.length,m*i.bytes≤140737488355328]} else none
     | _=>none
   | _,_=>none
 | .append,[x,y],[t,cC],.gd =>
  match km P t with
  | none=>none
  | some e=>match P.info? e,k2 P e with
   | some i,some z =>
    if z.length≠i.size∨i.size=0∨i.bytes=0 then none else
    match nw P i.size z aD .none t cC y with
    | none=>none
    | some (aU,aP)=>match x with
     | .bd r k 0 len=>match aD r with
      | none=>none
      | some row=>match bN (some row) k with
       | none=>none
       | some ad=>if ad.bn = .live∧ad.aa=i.size then
        some {val:= .bd r k 0 (len+aU.length),cZ:=[(r,row.set k {ad with es:=ad.es.take len++aU})],cR:=aP++[len+aU.length≤ad.es.length,aU.length*i.bytes≤140737488355328]} else none
     | _=>none
   | _,_=>none
 | .copy,[.bd r k 0 len,y],[t,_],_ =>
  match km P t with
  | none=>none
  | some e=>match P.info? e with
   | none=>none
   | some i=>match k5 i.size aD .none y with
    | none=>none
    | some (aU,aP)=>match aD r with
     | none=>none
     | some row=>match bN (some row) k with
      | none=>none
      | some ad=>if ad.bn = .live∧ad.aa=i.size∧i.size≠0 then
       some {val:= .n .i64 aU.length,cZ:=[(r,row.set k {ad with es:=aU++ad.es.drop aU.length})],cR:=aP++[aU.length≤len,len≤ad.es.length]} else none
 | .clear,[.bd r k 0 len],[t],_ =>
  match km P t with
  | none=>none
  | some e=>match P.info? e,k2 P e with
   | some i,some z=>match aD r with
    | none=>none
    | some row=>match bN (some row) k with
     | none=>none
     | some ad=>if ad.bn = .live∧ad.aa=i.size∧z.length=i.size∧i.size≠0 then
      some {val:= .c7 [],cZ:=[(r,row.set k {ad with es:=List.replicate len z})],cR:=[ad.es.length=len]} else none
   | _,_=>none
 | .min,[.n k x,.n bO y],_,_=>if k=bO then some {val:= .n k (if y<x then y else x)} else none
 | _,_,_,_=>none
section
variable {g:G} {s:S} {ai:cJ} {a:Act} {w a8:World}
theorem bz.gone (h:bz g s ai a w){r k:Nat}{l:List ao}{o:ao}(an:s.aD r=some l)(af:s.ad r k=some o):
 bz g (s.setRow r (l.set k {o with bn:= .gone})) ai a w ∧
  ∀x v,Rel w (s.ok g ai w) s.az (s.aG ai) x v→Rel w ((s.setRow r (l.set k {o with bn:= .gone})).ok g ai w) (s.setRow r (l.set k {o with bn:= .gone})).az ((s.setRow r (l.set k {o with bn:= .gone})).aG ai) x v:=by
 have aK : ∀q j p,(s.setRow r (l.set k {o with bn:= .gone})).ad q j=some p→s.ad q j=some p∧ ¬(q=r∧j=k):=by
  intro q j p ag
  rw [ha] at ag
  by_cases e:q=r
  ·subst e
   rw [if_pos rfl] at ag
   unfold bN at ag
   simp only [List.getElem?_set] at ag
   by_cases aE:k=j
   ·subst aE
    by_cases a3:k<l.length
    ·simp [a3] at ag
    ·simp [a3] at ag
   ·rw [if_neg aE] at ag
    refine ⟨?_,fun cV=>aE cV.2.symm⟩
    unfold S.ad;rw [an];exact ag
  ·rw [if_neg e] at ag
   exact ⟨ag,fun cV=>e cV.1⟩
 have b9:Step g s ai w (s.setRow r (l.set k {o with bn:= .gone})) ai w:=by
  refine ⟨sN s an (by simp),fun q j aL=> ?_,fun b aB=> ?_,fun _ _ _=>rfl,Nat.le_refl _⟩
  ·cases ag:(s.setRow r (l.set k {o with bn:= .gone})).ad q j with
   | none=>right;simp [S.aG,ag]
   | some p=>left;simp [S.aG,ag,(aK q j p ag).1]
  ·obtain ⟨q,j,p,m,I,R,av⟩:=aB
   exact .inl ⟨q,j,p,m,(aK q j p I).1,R,av⟩
 refine ⟨{toep:=⟨?_,?_,?_,h.ei,h.mlt,h.iR,b9.stay h.stay,h.low⟩,env:=fun t=>b9.rel (h.env t),defers:=h.defers,fy:=h.fy},fun x v=>b9.rel⟩
 ·intro q j p ag
  exact b9.obj (fun b m _=>rfl) (h.obj q j p (aK q j p ag).1)
 ·intro q j p dZ fD gG b m cE I R av aR
  exact h.inj q j p dZ fD gG b m cE (aK q j p I).1 (aK dZ fD gG R).1 av aR
 ·intro q j p b m I R
  exact h.own q j p b m (aK q j p I).1 R
theorem bz.AA (h:bz g s ai a w){aw aa:Nat}(cv:s.aD aw=none):
 ∃a5,a5 aw 0=none∧bz g (s.setRow aw [⟨aa,[],.live⟩]) a5 a w:=by
 have aK : ∀q k,q≠aw→(s.setRow aw [⟨aa,[],.live⟩]).ad q k=s.ad q k:=fun q k aL=>by rw [ha,if_neg aL]
 let a5:cJ:=fun q k=>if q=aw then none else ai q k
 have b6 : ∀q k,s.az q k→q≠aw:=by
  rintro q k aL rfl;exact oz cv k aL
 have xf : ∀k o,(s.setRow aw [⟨aa,[],.live⟩]).ad aw k=some o→o=⟨aa,[],.live⟩:=by
  intro k o af
  rw [ha,if_pos rfl,hF] at af
  split at af
  ·simp at af;exact af.symm
  ·simp at af
 have b9:Step g s ai w (s.setRow aw [⟨aa,[],.live⟩]) a5 w:=by
  refine ⟨fun q k aL=>(iL _ _ _ _ _).2 (by rw [if_neg (b6 q k aL)];exact aL),fun q k aL=> .inl ?_,fun b aB=> ?_,fun _ _ _=>rfl,Nat.le_refl _⟩
  ·simp [S.aG,aK q k (b6 q k aL),a5,b6 q k aL]
  ·obtain ⟨q,k,o,m,I,R,av⟩:=aB
   by_cases e:q=aw
   ·subst e;simp [a5] at av
   ·rw [aK q k e] at I
    simp only [a5,if_neg e] at av
    exact .inl ⟨q,k,o,m,I,R,av⟩
 refine ⟨a5,by simp [a5],{toep:=⟨?_,?_,?_,h.ei,h.mlt,h.iR,b9.stay h.stay,h.low⟩,env:=fun t=>b9.rel (h.env t),defers:=h.defers,fy:=h.fy}⟩
 ·intro q k o af
  by_cases e:q=aw
  ·subst e
   rw [xf k o af]
   simp [a5,fc]
  ·rw [aK q k e] at af
   have:=b9.obj (fun b m _=>rfl) (h.obj q k o af)
   simpa [a5,e] using this
 ·intro q k o dZ bO bf b m cE I R av aR
  have e:q≠aw:=by rintro rfl;simp [a5] at av
  have cB:dZ≠aw:=by rintro rfl;simp [a5] at aR
  rw [aK q k e] at I
  rw [aK dZ bO cB] at R
  simp only [a5,if_neg e] at av
  simp only [a5,if_neg cB] at aR
  exact h.inj q k o dZ bO bf b m cE I R av aR
 ·intro q k o b m I R
  have e:q≠aw:=by rintro rfl;simp [a5] at R
  rw [aK q k e] at I
  simp only [a5,if_neg e] at R
  exact h.own q k o b m I R
theorem bz.turn (h:bz g s ai a w){r k b m aw:Nat}{l:List ao}{o:ao}(an:s.aD r=some l)(af:s.ad r k=some o)(a3:o.bn = .live)(ag:ai r k=some (b,m))
 (cv:s.aD aw=none) (bf:ao) (lf:bf.bn = .live) (c:Array Value) (cn:TypeId)
 (hw:a8.heap[b]? = some (.cells c cn (0,0))) (cx:a8.heap.size=w.heap.size) (nv : ∀q,q≠b→a8.heap[q]? = w.heap[q]?)
 (xp:a8.os=w.os) (xq:a8.tape=w.tape) (xd:a8.output=w.output) (hm:c.size=m) (hlen : ∀e∈bf.es,e.length=bf.aa)
 (aY : ∀(j:Nat) x,bf.es.flatten[j]? = some x→ ∃v,c[j]? = some v∧f7 v=true∧Rel w (s.ok g ai w) s.az (s.aG ai) x v) :
 ∃a5,a5 aw 0=some (b,m)∧bz g ((s.setRow aw [bf]).setRow r (l.set k {o with bn:= .gone})) a5 a a8:=by
 have b6:r≠aw:=by rintro rfl;rw [cv] at an;simp at an
 have BB : ∀k,¬s.az aw k:=oz cv
 let ba:=(s.setRow aw [bf]).setRow r (l.set k {o with bn:= .gone})
 let a5:cJ:=ai.set aw 0 (some (b,m))
 have aK : ∀q j p,ba.ad q j=some p→(q=aw∧j=0∧p=bf)∨(q≠aw∧s.ad q j=some p∧ ¬(q=r∧j=k)):=by
  intro q j p aL
  rw [ha] at aL
  by_cases e:q=r
  ·subst e
   rw [if_pos rfl] at aL
   unfold bN at aL
   simp only [List.getElem?_set] at aL
   by_cases aE:k=j
   ·subst aE
    by_cases a3:k<l.length<;>simp [a3] at aL
   ·rw [if_neg aE] at aL
    refine .inr ⟨b6,?_,fun cV=>aE cV.2.symm⟩
    unfold S.ad;rw [an];exact aL
  ·rw [if_neg e,ha] at aL
   by_cases aE:q=aw
   ·subst aE
    rw [if_pos rfl,hF] at aL
    split at aL
    ·rename_i h0;simp at aL;exact .inl ⟨rfl,h0.1,aL.symm⟩
    ·simp at aL
   ·rw [if_neg aE] at aL
    exact .inr ⟨aE,aL,fun cV=>e cV.1⟩
 have hj : ∀q j,q≠aw→a5 q j=ai q j:=fun q j aL=>by simp [a5,cJ.set,aL]
 have pn:a5 aw 0=some (b,m):=by simp [a5,cJ.set]
 have kl:s.hs ai b:=⟨r,k,o,m,af,a3,ag⟩
 have ff : ∀q j,s.az q j→ba.az q j:=fun q j aL=>by
  have e:q≠aw:=fun e=>BB j (e▸aL)
  rw [iL,iL,if_neg e]
  by_cases aE:q=r
  ·subst aE;rw [if_pos rfl];simpa [S.az,an] using aL
  ·rw [if_neg aE];exact aL
 have b9:Step g s ai w ba a5 a8:=by
  refine ⟨ff,fun q j aL=> ?_,fun q aB=> ?_,fun q aL aB=>nv q fun e=>aB (e▸kl),Nat.le_of_eq cx.symm⟩
  ·have ub:q≠aw:=fun e=>BB j (e▸aL)
   cases gi:ba.ad q j with
   | none=>right;simp [S.aG,gi]
   | some p =>
    left
    rcases aK q j p gi with ⟨e,-⟩|⟨-,aE,-⟩
    ·exact absurd e ub
    ·simp [S.aG,gi,aE,hj q j ub]
  ·obtain ⟨dZ,j,p,cE,I,R,av⟩:=aB
   rcases aK dZ j p I with ⟨rfl,rfl,rfl⟩|⟨ar,aE,-⟩
   ·rw [pn] at av;simp at av;exact .inl (av.1▸kl)
   ·rw [hj dZ j ar] at av;exact .inl ⟨dZ,j,p,cE,aE,R,av⟩
 refine ⟨a5,pn,{toep:=⟨?_,?_,?_,?_,h.mlt,h.iR,b9.stay h.stay,h.low⟩,env:=fun t=>b9.rel (h.env t),defers:=h.defers,fy:=h.fy}⟩
 ·intro q j p gi
  rcases aK q j p gi with ⟨rfl,rfl,rfl⟩|⟨ar,aE,br⟩
  ·rw [pn]
   exact ⟨c,cn,hw,hm,hlen,fun i x ab=>let ⟨v,f1,f2,f3⟩:=aY i x ab;⟨v,f1,f2,b9.rel f3⟩⟩
  ·rw [hj q j ar]
   refine b9.obj (fun gb cE gZ=>nv gb ?_) (h.obj q j p aE)
   rintro rfl
   exact br (h.inj q j p r k o gb cE m aE af gZ ag)
 ·intro q j p dZ fD gG gb eY d7 I R av aR
  rcases aK q j p I with ⟨rfl,rfl,rfl⟩|⟨ar,aE,br⟩<;>rcases aK dZ fD gG R with ⟨rfl,rfl,rfl⟩|⟨iv,j7,rM⟩
  ·exact ⟨rfl,rfl⟩
  ·rw [pn] at av;simp at av
   rw [hj dZ fD iv] at aR
   obtain ⟨rfl,rfl⟩:=av
   exact absurd (h.inj dZ fD gG r k o b d7 m j7 af aR ag) rM
  ·rw [pn] at aR;simp at aR
   rw [hj q j ar] at av
   obtain ⟨rfl,rfl⟩:=aR
   exact absurd (h.inj q j p r k o b eY m aE af av ag) br
  ·rw [hj q j ar] at av;rw [hj dZ fD iv] at aR
   exact h.inj q j p dZ fD gG gb eY d7 aE j7 av aR
 ·intro q j p gb cE I R
  rcases aK q j p I with ⟨rfl,rfl,rfl⟩|⟨ar,aE,-⟩
  ·rw [pn] at R;simp at R
   rw [← R.1]
   exact h.own r k o b m af ag
  ·rw [hj q j ar] at R;exact h.own q j p gb cE aE R
 ·refine h.ei.step xp xq xd (Nat.le_of_eq cx.symm) fun gb rI gZ=>nv gb ?_
  rintro rfl
  rcases h.own r k o gb m af ag with I|I
  ·omega
  ·exact gZ I
theorem jC.jb {ok:Nat→Prop}{az:e8}{aG:eX}{b7 o aa:Nat}{es:List (List aj)}(h:jC w ok az aG b7 o aa es):
 ∃vs:List Value,vs.length=es.length*aa∧(∀(j:Nat) u,vs[j]? = some u→w.cell? ((⟨b7,o,none⟩:Addr).add j)=some u)∧(∀u∈vs,u.oneCell'=true) ∧
  ∀(j:Nat) x u,es.flatten[j]? = some x→vs[j]? = some u→Rel w ok az aG x u:=by
 have f9:es.flatten.length=es.length*aa:=by
  have : ∀(es:List (List aj)),(∀e∈es,e.length=aa)→es.flatten.length=es.length*aa:=by
   intro es
   induction es with
   | nil=>intro _;simp
   | cons e es ih =>
    intro cV
    rw [List.flatten_cons,List.length_append,ih fun x ab=>cV x (by simp [ab]),cV e (by simp),List.length_cons,Nat.add_mul];omega
  exact this es h.1
 have ab : ∀i,i<es.length*aa→ ∃v,∀x,es.flatten[i]? = some x→w.cell? ⟨b7,o+i,none⟩=some v∧f7 v=true∧Rel w ok az aG x v:=by
  intro i aA
  have aC:=List.getElem?_eq_getElem (l:=es.flatten) (i:=i) (by omega)
  obtain ⟨v,I⟩:=h.2 i _ aC
  exact ⟨v,fun x ab=>by rw [aC] at ab;simp at ab;subst ab;exact I⟩
 let vs:List Value:=(List.range (es.length*aa)).map fun i=>if aA:i<es.length*aa then (ab i aA).choose else undef
 have ph:vs.length=es.length*aa:=by simp [vs]
 have hz : ∀(i:Nat) u x,vs[i]? = some u→es.flatten[i]? = some x→w.cell? ⟨b7,o+i,none⟩=some u∧f7 u=true∧Rel w ok az aG x u:=by
  intro i u x hu rN
  have aA:i<es.length*aa:=by
   rcases Nat.lt_or_ge i vs.length with bG|bG
   ·omega
   ·rw [List.getElem?_eq_none bG] at hu;simp at hu
  simp only [vs,List.getElem?_map,List.getElem?_range aA,Option.map_some,dif_pos aA,Option.some.injEq] at hu
  subst hu
  exact (ab i aA).choose_spec x rN
 have hex : ∀(i:Nat) u,vs[i]? = some u→ ∃x,es.flatten[i]? = some x:=by
  intro i u hu
  have aA:i<es.flatten.length:=by
   rcases Nat.lt_or_ge i vs.length with bG|bG
   ·omega
   ·rw [List.getElem?_eq_none bG] at hu;simp at hu
  exact ⟨_,List.getElem?_eq_getElem aA⟩
 refine ⟨vs,ph,fun j u hu=> ?_,fun u hu=> ?_,fun j x u b1 hu=>(hz j u x hu b1).2.2⟩
 ·obtain ⟨x,rN⟩:=hex j u hu
  rw [lv];exact (hz j u x hu rN).1
 ·obtain ⟨j,aC⟩:=List.getElem?_of_mem hu
  obtain ⟨x,rN⟩:=hex j u aC
  exact (hz j u x aC rN).2.1
theorem Ep {es aU:List (List aj)}{aa:Nat}{xs news:List Value}(ab:xs.length=es.length*aa)(he:∀e∈es,e.length=aa){j:Nat}{x:aj}(h:(es++aU).flatten[j]? = some x)
 {ok:Nat→Prop} {az:e8} {aG:eX} (I : ∀(j:Nat) x u,es.flatten[j]? = some x→xs[j]? = some u→Rel w ok az aG x u) (R : ∀(j:Nat) x u,aU.flatten[j]? = some x→news[j]? = some u→Rel w ok az aG x u)
 {u:Value} (hu:(xs++news)[j]? = some u):Rel w ok az aG x u:=by
 have f9:es.flatten.length=es.length*aa:=by
  have : ∀(es:List (List aj)),(∀e∈es,e.length=aa)→es.flatten.length=es.length*aa:=by
   intro es
   induction es with
   | nil=>intro _;simp
   | cons e es ih =>
    intro cV
    rw [List.flatten_cons,List.length_append,ih fun x ab=>cV x (by simp [ab]),cV e (by simp),List.length_cons,Nat.add_mul];omega
  exact this es he
 rw [List.flatten_append,List.getElem?_append] at h
 rw [List.getElem?_append] at hu
 by_cases aC:j<es.flatten.length
 ·rw [if_pos aC] at h
  rw [if_pos (by omega)] at hu
  exact I j x u h hu
 ·rw [if_neg aC] at h
  rw [if_neg (by omega)] at hu
  rw [f9] at h
  rw [ab] at hu
  exact R _ x u h hu
variable {P:Program}
theorem Ah (h:bz g s ai a w){aa:Nat}{x:aj}{cM:cU}{aU:List (List aj)}{ad:List Prop}(he:k5 aa s.aD cM x=some (aU,ad))(aK:∀p∈ad,p){v:Value}(aZ:Rel w (s.ok g ai w) s.az (s.aG ai) x v):
 ∃A c,v = .slice A aU.length c∧(∀e∈aU,e.length=aa)∧(aU.length=0∨ ∃b7 off,A=some ⟨b7,off,none⟩∧jC w (s.ok g ai w) s.az (s.aG ai) b7 off aa aU):=by
 cases x with
 | a1 uf es =>
  simp only [k5] at he
  split at he
  ·rename_i bR
   subst bR
   simp only [Option.some.injEq,Prod.mk.injEq] at he
   obtain ⟨rfl,rfl⟩:=he
   rcases aZ.lU with ⟨rfl,A,c,rfl,-⟩|⟨b7,off,c,-,rfl,-,ey⟩
   ·exact ⟨A,c,rfl,by simp,.inl rfl⟩
   ·exact ⟨_,c,rfl,ey.1,.inr ⟨b7,off,rfl,ey⟩⟩
  ·simp at he
 | bd r k bD len =>
  simp only [k5] at he
  split at he
  ·rename_i iV aP f8
   split at he
   ·rename_i bR
    simp only [Option.some.injEq,Prod.mk.injEq] at he
    obtain ⟨rfl,rfl⟩:=he
    have ex:bD+len≤iV.es.length:=aK _ (by simp)
    have af:s.ad r k=some iV:=mv f8 (fun p ag=>aK p (by simp [ag]))
    have cN:=h.obj r k iV af
    have aB:((iV.es.drop bD).take len).length=len:=by simp;omega
    rcases aZ.qM (eE af) with ⟨-,rfl,rfl,rfl⟩|⟨b,m,A,c,ag,rfl,ld,-,hm⟩
    ·exact ⟨none,0,by simp,by simp,.inl (by simp)⟩
    ·rw [ag] at cN
     have ey:=cN.rd
     subst bR
     have nG:=sO ey bD len (by omega)
     refine ⟨A,c,by rw [aB],nG.1,?_⟩
     rcases hm with rfl|⟨rfl,-⟩
     ·left;rw [aB];omega
     ·right
      rw [Nat.zero_add] at nG
      exact ⟨b,_,rfl,nG⟩
   ·simp at he
  ·simp at he
 | dz =>
  simp only [k5,Option.some.injEq,Prod.mk.injEq] at he
  obtain ⟨rfl,rfl⟩:=he
  rw [aZ.kg]
  exact ⟨none,0,rfl,by simp,.inl rfl⟩
 | eL =>
  simp only [k5,Option.some.injEq,Prod.mk.injEq] at he
  obtain ⟨rfl,rfl⟩:=he
  obtain ⟨A,c,rfl⟩:=aZ.td
  exact ⟨some A,c,rfl,by simp,.inl rfl⟩
 | _=>simp [k5] at he
structure xg (P:Program) (w:World) (t cC cn e:TypeId) (i:TypeInfo) (cl i1:Value) (n:Nat) (vs:List Value):Prop where
 zero:n=0→ ∀(B:Option Addr) (len cap:Nat),len≤cap→(Builtin.append_ #[t,cC] cn #[.slice B len cap,i1]).run P w = .ok (.slice B len cap) w
 nil:0<n→(n:Int)≤9223372036854775807→n*i.bytes≤140737488355328 →
  (Builtin.append_ #[t,cC] cn #[.slice none 0 0,i1]).run P w = .ok (.slice (some ⟨w.heap.size,0,none⟩) n (grownCap w n 0 e)) (w.drew.alloc (.cells (vs.toArray++Builtin.zeroCells cl.cells (grownCap w n 0 e-n)) e))
 room:0<n→ ∀(g eK hx:Nat) (hd:Array Value) (cB:TypeId),w.heap[g]? = some (.cells hd cB (0,0))→eK+n≤hx→eK*i.size+vs.length≤hd.size→n*i.bytes≤140737488355328 →
  (Builtin.append_ #[t,cC] cn #[.slice (some ⟨g,0,none⟩) eK hx,i1]).run P w = .ok (.slice (some ⟨g,0,none⟩) (eK+n) hx) (w.setRow g (hd.toList.take (eK*i.size)++vs++hd.toList.drop (eK*i.size+vs.length)).toArray)
 grow:0<n→ ∀(b:Addr) (eK hx:Nat) (nH:List Value),nH.length=eK*i.size→(∀(j:Nat) v,nH[j]? = some v→w.cell? (b.add j)=some v)→hx<eK+n→((eK+n:Nat):Int)≤9223372036854775807→Builtin.nextslicecap (eK+n) hx*i.bytes≤281474976710656→n*i.bytes≤140737488355328 →
  (Builtin.append_ #[t,cC] cn #[.slice (some b) eK hx,i1]).run P w = .ok (.slice (some ⟨w.heap.size,0,none⟩) (eK+n) (grownCap w (eK+n) hx e))
    (w.drew.alloc (.cells (nH.toArray++vs.toArray++Builtin.zeroCells cl.cells (grownCap w (eK+n) hx e-(eK+n))) e))
theorem D0 (t cn e:TypeId)(i:TypeInfo)(bu:P.underlying t=some (.slice e))(aA:P.info? e=some i)
 (g eK hx:Nat) (hd:Array Value) (cB:TypeId) (cS:w.heap[g]? = some (.cells hd cB (0,0)))
 (a:Addr) (m c:Nat) (news:List Value) (aB:news.length=m*i.size) (Hx : ∀j u,news[j]? = some u→w.cell? (a.add j)=some u) (I : ∀u∈news,u.oneCell'=true)
 (lZ:eK+m≤hx) (ex:eK*i.size+news.length≤hd.size) :
 (Builtin.append_ #[t,t] cn #[.slice (some ⟨g,0,none⟩) eK hx,.slice (some a) m c]).run P w =
   .ok (.slice (some ⟨g,0,none⟩) (eK+m) hx) (w.setRow g (hd.toList.take (eK*i.size)++news++hd.toList.drop (eK*i.size+news.length)).toArray):=by
 have bo:=run_firstCells_some (P:=P) w i.size m a m c news aB Hx
 have hL:=run_storeCells_at P g (eK*i.size) cB news 0 hd w cS (by simpa using ex) I
 simp only [Nat.add_zero] at hL
 simp [Builtin.append_,run_underlying bu,sizeOf,typeInfo,aA,Builtin.lenOf,lZ,bo,Addr.add_lit,hL]
theorem zz {t cn e:TypeId}{i:TypeInfo}{cl:Value}(bu:P.underlying t=some (.slice e))(aA:P.info? e=some i)(bY:i.zero=some cl){A:Option Addr}{n c:Nat}{vs:List Value}(aB:vs.length=n*i.size)
 (hA:n=0∨ ∃a,A=some a∧ ∀(j:Nat) u,vs[j]? = some u→w.cell? (a.add j)=some u) (I : ∀u∈vs,u.oneCell'=true):xg P w t t cn e i cl (.slice A n c) n vs where
 zero:=fun h0 B len cap rl=>by
  subst h0
  cases A<;>cases B<;>simp [Builtin.append_,run_underlying bu,sizeOf,typeInfo,aA,Builtin.lenOf,rl,Builtin.firstCells,loadCells,loadCellsFrom,storeCells]
 nil:=fun h0 nN po=>by
  obtain ⟨a,rfl,bJ⟩:=hA.resolve_left (by omega)
  exact run_append_nil (P:=P) w t cn e i cl bu aA bY a n c vs aB bJ h0 nN (by omega)
 room:=fun bj g eK hx hd cB cS lZ ex _=>by
  obtain ⟨a,rfl,bJ⟩:=hA.resolve_left (by omega)
  exact D0 t cn e i bu aA g eK hx hd cB cS a n c vs aB bJ I lZ ex
 grow:=fun bj b eK hx nH af hold cS nN ex _=>by
  obtain ⟨a,rfl,bJ⟩:=hA.resolve_left (by omega)
  exact run_append_grow (P:=P) w t cn e i cl bu aA bY b eK hx nH af hold a n c vs aB bJ cS nN ex
theorem Fl {t cC cn e:TypeId}{i:TypeInfo}{cl:Value}{k:IntKind}(bu:P.underlying t=some (.slice e))(jX:P.underlying cC=some (.int k))(aA:P.info? e=some i)(bY:i.zero=some cl)(hf:cl.cells.size=i.size){m:Nat}(KX:(m:Int)<9223372036854775808)
 (I : ∀u∈(Builtin.zeroCells cl.cells m).toList,u.oneCell'=true):xg P w t cC cn e i cl (.int .i64 m) m (Builtin.zeroCells cl.cells m).toList:=by
 have hw:IntKind.i64.wrap (m:Int)=m:=by simp [IntKind.wrap,IntKind.bits,IntKind.signed];omega
 have pc : ¬((m:Int)<0):=by omega
 have mH : ∀cE,cE*i.size=0→Builtin.zeroCells cl.cells cE = #[]:=fun cE hm=>by
  apply Array.eq_empty_of_size_eq_zero
  rw [size_zeroCells,hf,hm]
 have Ir : ∀a8:World,(if m*i.size=0 then (pure #[]:Sem (Array Value)) else do pure (Builtin.zeroCells (← zeroValue e).cells m)).run P a8 = .ok (Builtin.zeroCells cl.cells m) a8:=fun a8=>by
  split
  ·rename_i hm;rw [mH _ hm];rfl
  ·simp [zeroValue,typeInfo,aA,bY]
 have xh : ∀b:Nat,m*b≤140737488355328→ ¬(281474976710656<(m:Int)*(b:Int)):=fun b a4=>by
  have:((m*b:Nat):Int)≤140737488355328:=by omega
  rw [Int.natCast_mul] at this
  omega
 refine ⟨fun bj B len cap rl=> ?_,fun bj nN po=> ?_,fun bj g eK hx hd cB cS lZ ex po=> ?_,fun bj b eK hx nH af hold cS nN ex po=> ?_⟩
 ·subst bj
  have Is:IntKind.i64.wrap 0=0:=by simpa using hw
  cases B<;>simp [Builtin.append_,run_underlying bu,run_underlying jX,sizeOf,typeInfo,aA,rl,asInt,asIntOf,Is,storeCells]
 ·have BS : ¬m=0:=by omega
  have rm : ¬(9223372036854775807<(m:Int)):=by omega
  have mE:=xh _ po
  have rn : ¬(281474976710656<Builtin.nextslicecap m 0*i.bytes):=by rw [nextslicecap_zero bj];omega
  have R:=Ir w.drew
  by_cases hm:m*i.size=0
  ·simp [Builtin.append_,run_underlying bu,run_underlying jX,sizeOf,typeInfo,zeroValue,aA,bY,asInt,asIntOf,hw,pc,mE,BS,rm,rn,Question.forced,run_firstCells_none,newRow,grownCap,hm,mH _ hm]
  ·simp [Builtin.append_,run_underlying bu,run_underlying jX,sizeOf,typeInfo,zeroValue,aA,bY,asInt,asIntOf,hw,pc,mE,BS,rm,rn,Question.forced,run_firstCells_none,newRow,grownCap,hm]
 ·have mE:=xh _ po
  have hL:=run_storeCells_at P g (eK*i.size) cB (Builtin.zeroCells cl.cells m).toList 0 hd w cS (by simpa using ex) I
  simp only [Nat.add_zero] at hL
  by_cases hm:m*i.size=0
  ·rw [mH _ hm] at hL
   have HZ:(storeCells ⟨g,eK*i.size,none⟩ []).run P w = .ok () (w.setRow g hd):=by simpa using hL
   simp [Builtin.append_,run_underlying bu,run_underlying jX,sizeOf,typeInfo,zeroValue,aA,bY,asInt,asIntOf,hw,pc,mE,lZ,hm,mH _ hm,Addr.add_lit,HZ]
  ·simp [Builtin.append_,run_underlying bu,run_underlying jX,sizeOf,typeInfo,zeroValue,aA,bY,asInt,asIntOf,hw,pc,mE,lZ,hm,Addr.add_lit,hL]
 ·have mE:=xh _ po
  have kR : ¬(eK+m≤hx):=by omega
  have rm : ¬(9223372036854775807<((eK:Int)+(m:Int))):=by omega
  have rn : ¬(281474976710656<Builtin.nextslicecap (eK+m) hx*i.bytes):=by omega
  have BT:=run_firstCells_some (P:=P) w.drew i.size eK b eK hx nH af (by simpa using hold)
  by_cases hm:m*i.size=0
  ·simp [Builtin.append_,run_underlying bu,run_underlying jX,sizeOf,typeInfo,zeroValue,aA,bY,asInt,asIntOf,hw,pc,mE,kR,rm,rn,Question.forced,BT,newRow,grownCap,hm,mH _ hm]
  ·simp [Builtin.append_,run_underlying bu,run_underlying jX,sizeOf,typeInfo,zeroValue,aA,bY,asInt,asIntOf,hw,pc,mE,kR,rm,rn,Question.forced,BT,newRow,grownCap,hm]
theorem wa {aw:Nat}{e:TypeId}{v:Value}{i:TypeInfo}{m:Nat}(h:bz g s ai a w)(cv:s.aD aw=none){es:List (List aj)}(hlen:∀x∈es,x.length=i.size)(hm:m=es.length)
 {jb:List Value} {mf:Array Value} {cap:Nat} (ph:jb.length=es.length*i.size) (hv : ∀u∈jb,u.oneCell'=true) (It:mf.size=(cap-m)*i.size) (rl:m≤cap) (H0:cap<9223372036854775808)
 (cN : ∀(j:Nat) x u,es.flatten[j]? = some x→jb[j]? = some u→Rel w (s.ok g ai w) s.az (s.aG ai) x u)
 (aZ:v = .slice (some ⟨w.heap.size,0,none⟩) m cap) :
 ∃a5,bz g (s.setRow aw [⟨i.size,es,.live⟩]) a5 a (w.drew.alloc (.cells (jb.toArray++mf) e)) ∧
  Rel (w.drew.alloc (.cells (jb.toArray++mf) e)) ((s.setRow aw [⟨i.size,es,.live⟩]).ok g a5 (w.drew.alloc (.cells (jb.toArray++mf) e))) (s.setRow aw [⟨i.size,es,.live⟩]).az ((s.setRow aw [⟨i.size,es,.live⟩]).aG a5) (.bd aw 0 0 m) v:=by
 have bc:=h.drew
 have f9:es.flatten.length=es.length*i.size:=by
  have : ∀(es:List (List aj)),(∀e∈es,e.length=i.size)→es.flatten.length=es.length*i.size:=by
   intro es
   induction es with
   | nil=>intro _;simp
   | cons e es ih =>
    intro cV
    rw [List.flatten_cons,List.length_append,ih fun x ab=>cV x (by simp [ab]),cV e (by simp),List.length_cons,Nat.add_mul];omega
  exact this es hlen
 obtain ⟨a5,eG,eA,-⟩:=bc.alloc cv ⟨i.size,es,.live⟩ rfl (jb.toArray++mf) e hlen (fun j x ab=>by
  have aC:j<jb.length:=by
   rcases Nat.lt_or_ge j es.flatten.length with bG|bG
   ·omega
   ·rw [List.getElem?_eq_none bG] at ab;simp at ab
  refine ⟨jb[j],?_,hv _ (List.getElem_mem aC),?_⟩
  ·rw [Array.getElem?_append_left (by simpa using aC)]
   simp [aC]
  ·exact (cN j x _ ab (List.getElem?_eq_getElem aC)).drew)
 refine ⟨a5,eA,?_⟩
 subst aZ
 have af:(s.setRow aw [⟨i.size,es,.live⟩]).ad aw 0=some ⟨i.size,es,.live⟩:=by rw [ha,if_pos rfl,hF];simp
 refine Rel.bd (aa:=i.size) (b7:=w.heap.size) (m:=(jb.toArray++mf).size) ((iL _ _ _ _ _).2 (by simp)) ?_ rl H0 ⟨?_,.inr (by simp)⟩
 ·rw [eE af,eG];rfl
 ·simp only [Array.size_append,List.size_toArray,It,ph,Nat.zero_add]
  rw [← hm,← Nat.add_mul]
  congr 1;omega
section
variable {o:Oper} {bA:cU} {aw:Nat} {aV:et}
theorem zV (h:bz g s ai a w){t cC cn e:TypeId}{i:TypeInfo}{z:List aj}(hu:P.underlying t=some (.slice e))(aA:P.info? e=some i)(bY:k2 P e=some z)(iU:z.length=i.size)(gP:i.size≠0)
 {y:aj} {cM:cU} {aU:List (List aj)} {ad:List Prop} (he:nw P i.size z s.aD cM t cC y=some (aU,ad)) (aK : ∀p∈ad,p) {i1:Value} (aS:Rel w (s.ok g ai w) s.az (s.aG ai) y i1) :
 ∃cl vs,i.zero=some cl∧cl.cells.size=i.size∧xg P w t cC cn e i cl i1 aU.length vs∧(∀x∈aU,x.length=i.size)∧vs.length=aU.length*i.size∧(∀u∈vs,u.oneCell'=true) ∧
  ∀(j:Nat) x u,aU.flatten[j]? = some x→vs[j]? = some u→Rel w (s.ok g ai w) s.az (s.aG ai) x u:=by
 obtain ⟨fq,cl,gE,gQ,nX,mK⟩:=qs bY
 rw [aA] at gE;simp at gE;subst gE
 have hf:cl.cells.size=i.size:=by rw [← iU,nX];simp
 unfold nw at he
 split at he
 ·rename_i Iu
  subst Iu
  obtain ⟨A,c,rfl,hlen,xz⟩:=Ah h he aK aS
  rcases xz with h0|⟨b7,off,rfl,ey⟩
  ·have:aU=[]:=List.length_eq_zero_iff.1 h0
   subst this
   exact ⟨cl,[],gQ,hf,zz hu aA gQ (by simp) (.inl rfl) (by simp),hlen,by simp,by simp,by simp⟩
  ·obtain ⟨vs,v1,v2,v3,v4⟩:=ey.jb
   exact ⟨cl,vs,gQ,hf,zz hu aA gQ v1 (.inr ⟨_,rfl,v2⟩) v3,hlen,v1,v3,v4⟩
 ·split at he
  ·rename_i k n a3
   simp only [Option.some.injEq,Prod.mk.injEq] at he
   obtain ⟨rfl,rfl⟩:=he
   have h0:0≤n:=aK _ (by simp)
   have nN:n<9223372036854775808:=aK _ (by simp)
   obtain ⟨m,rfl⟩:=Int.eq_ofNat_of_zero_le h0
   have Iv:i1 = .int .i64 m:=by cases aS;rfl
   subst Iv
   have hz : ∀(j:Nat) u,(Builtin.zeroCells cl.cells m).toList[j]? = some u→cl.cells[j % i.size]? = some u:=by
    intro j u je
    have aC:=(List.getElem?_eq_some_iff.1 je).1
    rw [Array.length_toList,size_zeroCells,hf] at aC
    have cf:j % i.size<cl.cells.size:=by rw [hf];exact Nat.mod_lt _ (by omega)
    rw [Array.getElem?_toList,Builtin.zeroCells,Array.getElem?_map,hf,Array.getElem?_range] at je
    rw [if_pos aC] at je
    simp only [Option.map_some,Option.some.injEq] at je
    rw [← je,Array.getElem?_eq_getElem cf,getElem!_pos cl.cells _ cf]
   refine ⟨cl,(Builtin.zeroCells cl.cells m).toList,gQ,hf,?_,?_,?_,?_,?_⟩
   ·simp only [List.length_replicate,Int.toNat_natCast]
    refine Fl hu a3 aA gQ hf (by omega) fun u lg=> ?_
    obtain ⟨j,aC⟩:=List.getElem?_of_mem lg
    have I:=hz j u aC
    have cf:j % i.size<z.length:=by rw [iU];exact Nat.mod_lt _ (by omega)
    obtain ⟨v,v1,v2,-⟩:=mK _ _ (List.getElem?_eq_getElem cf)
    rw [I] at v1
    obtain rfl:=Option.some.inj v1
    exact v2
   ·intro x ab
    rw [List.mem_replicate] at ab
    rw [ab.2,iU]
   ·rw [Array.length_toList,size_zeroCells,hf];simp
   ·intro u lg
    obtain ⟨j,aC⟩:=List.getElem?_of_mem lg
    have I:=hz j u aC
    have cf:j % i.size<z.length:=by rw [iU];exact Nat.mod_lt _ (by omega)
    obtain ⟨v,v1,v2,-⟩:=mK _ _ (List.getElem?_eq_getElem cf)
    rw [I] at v1
    obtain rfl:=Option.some.inj v1
    exact v2
   ·intro j x u ab je
    rw [j2 (aa:=i.size) (by omega) _ (fun cB hy=>by rw [List.mem_replicate] at hy;rw [hy.2,iU])] at ab
    have I:=hz j u je
    cases aL:(List.replicate (Int.toNat (m:Int)) z)[j / i.size]? with
    | none=>rw [aL] at ab;simp at ab
    | some cB =>
     have:=List.mem_of_getElem? aL
     rw [List.mem_replicate] at this
     rw [aL,this.2] at ab
     simp only [Option.bind_some] at ab
     obtain ⟨v,v1,-,v3⟩:=mK _ _ ab
     rw [I] at v1
     obtain rfl:=Option.some.inj v1
     exact v3 _ _ _ _
  ·simp at he
theorem Fm (h:bz g s ai a w)(cv:s.aD aw=none){x y:aj}{ln i1:Value}{t cC:TypeId}{m:Nat}{yb:Option ao}{cn:TypeId}(ah:jd P s.E s.aD aw .append [x,y] [t,cC] (.aW m yb)=some aV)(bt:∀p∈aV.cR,p)
 (ab:Rel w (s.ok g ai w) s.az (s.aG ai) x ln) (aS:Rel w (s.ok g ai w) s.az (s.aG ai) y i1) :
 ∃v a8 a5,(Builtin.append_ #[t,cC] cn #[ln,i1]).run P w = .ok v a8∧bz g (s.ej aV.cZ) a5 a a8∧Rel a8 ((s.ej aV.cZ).ok g a5 a8) (s.ej aV.cZ).az ((s.ej aV.cZ).aG a5) aV.val v:=by
 simp only [jd] at ah
 split at ah
 ·simp at ah
 ·rename_i e he
  have hu:=lx he
  split at ah
  ·rename_i i z aA bY
   split at ah
   ·simp at ah
   ·rename_i aY
    simp only [not_or,Decidable.not_not] at aY
    obtain ⟨iU,gP,t0⟩:=aY
    split at ah
    ·simp at ah
    ·rename_i aU aP la
     have ug:=fun ag=>zV (cn:=cn) h hu aA bY iU gP la ag aS
     by_cases Ha:True
     ·
      split at ah
      ·
       simp only [Option.some.injEq] at ah
       subst ah
       have hm:m=aU.length:=bt _ (by simp)
       have rO:m*i.bytes≤140737488355328:=bt _ (by simp)
       obtain ⟨cl,vs,gQ,hf,hA,hlen,v1,v3,v4⟩:=ug (fun p ag=>bt p (by simp [ag]))
       clear ug
       rw [ab.kg]
       by_cases h0:aU.length=0
       ·have:aU=[]:=List.length_eq_zero_iff.1 h0
        subst this
        obtain ⟨a5,eG,eA⟩:=h.AA (aa:=i.size) cv
        refine ⟨_,w,a5,hA.zero h0 none 0 0 (Nat.le_refl _),eA,?_⟩
        subst hm
        have af:(s.setRow aw [⟨i.size,[],.live⟩]).ad aw 0=some ⟨i.size,[],.live⟩:=by rw [ha,if_pos rfl,hF];simp
        exact .i4 (aa:=i.size) ((iL _ _ _ _ _).2 (by simp)) (by show (s.setRow aw [⟨i.size,[],.live⟩]).aG a5 aw 0=_;rw [eE af,eG])
       ··have xA:aU.length*1≤aU.length*i.bytes:=Nat.mul_le_mul_left _ (by omega)
         rw [hm] at rO
         have eV:=hA.nil (by omega) (by omega) (by omega)
         have BU:=grownCap_ge w aU.length 0 e
         have hle:=grownCap_le_maxLen w aU.length 0 e (by simp only [maxLen];omega)
         simp only [maxLen] at hle
         obtain ⟨a5,cq,dJ⟩:=wa (e:=e) (i:=i) (m:=m) (jb:=vs) (mf:=Builtin.zeroCells cl.cells (grownCap w aU.length 0 e-aU.length)) (cap:=grownCap w aU.length 0 e) h cv hlen hm v1 v3
          (by rw [size_zeroCells,hf,hm]) (by omega) (by omega) v4 rfl
         refine ⟨.slice (some ⟨w.heap.size,0,none⟩) m (grownCap w aU.length 0 e),_,a5,?_,cq,dJ⟩
         rw [hm];exact eV
      ·
       rename_i r k len
       split at ah
       ·simp at ah
       ·rename_i row b2
        split at ah
        ·simp at ah
        ·rename_i ad aK
         split at ah
         ·rename_i nO
          obtain ⟨jf,cx,b6⟩:=nO
          simp only [Option.some.injEq] at ah
          subst ah
          have af:s.ad r k=some ad:=by unfold S.ad;rw [b2];exact aK
          have ex:len≤ad.es.length:=bt _ (by simp)
          have hm:m=len+aU.length:=bt _ (by simp)
          have rO:m*i.bytes≤140737488355328:=bt _ (by simp)
          have xA:m*1≤m*i.bytes:=Nat.mul_le_mul_left _ (Nat.one_le_iff_ne_zero.2 t0)
          obtain ⟨cl,vs,gQ,hf,hA,hlen,v1,v3,v4⟩:=ug (fun p ag=>bt p (by simp [ag]))
          clear ug
          have K1:aU.length*i.bytes≤m*i.bytes:=Nat.mul_le_mul_right _ (by omega)
          have cN:=h.obj r k ad af
          have xB:(ad.es.take len).length=len:=by simp;omega
          have lz:(s.setRow aw [⟨i.size,ad.es.take len++aU,.live⟩]).aD r=some row:=by simp [S.setRow,Ne.symm b6,b2]
          have kt : ∀a5:cJ,((s.setRow aw [⟨i.size,ad.es.take len++aU,.live⟩]).setRow r (row.set k {ad with bn:= .gone})).ad aw 0=some ⟨i.size,ad.es.take len++aU,.live⟩:=by
           intro _
           rw [ha,if_neg b6,ha,if_pos rfl,hF];simp
          have rp:((s.setRow aw [⟨i.size,ad.es.take len++aU,.live⟩]).setRow r (row.set k {ad with bn:= .gone})).az aw 0:=by rw [iL,if_neg b6,iL,if_pos rfl];simp
          show ∃v a8 a5,_∧bz g ((s.setRow aw [⟨i.size,ad.es.take len++aU,.live⟩]).setRow r (row.set k {ad with bn:= .gone})) a5 a a8∧_
          rcases ab.nq (eE af) with ⟨ag,-,rfl,rfl⟩|⟨b,M,jE,hl,ag,rfl,ld,l8,cd,ir⟩
          ·
           rw [ag] at cN
           simp only [fc] at cN
           have dU:ad.es.take 0++aU=aU:=by simp
           by_cases h0:aU.length=0
           ·have:aU=[]:=List.length_eq_zero_iff.1 h0
            subst this
            obtain ⟨a5,eG,eA⟩:=h.AA (aa:=i.size) cv
            have ku:(s.setRow aw [⟨i.size,[],.live⟩]).ad r k=some ad:=by rw [ha,if_neg (Ne.symm b6)];exact af
            have Hy:(s.setRow aw [⟨i.size,[],.live⟩]).aD r=some row:=by simp [S.setRow,Ne.symm b6,b2]
            obtain ⟨lK,-⟩:=eA.gone Hy ku
            have rq:ad.es.take 0++([]:List (List aj))=[]:=by simp
            rw [rq]
            rw [rq] at rp kt
            refine ⟨_,w,a5,hA.zero h0 none 0 0 (Nat.le_refl _),lK,?_⟩
            subst hm
            exact .i4 (aa:=i.size) rp ((eE (kt a5)).trans (by rw [eG]))
           ··have gZ:m=aU.length:=by omega
             have eV:=hA.nil (by omega) (by omega) (by omega)
             have BU:=grownCap_ge w aU.length 0 e
             have hle:=grownCap_le_maxLen w aU.length 0 e (by simp only [maxLen];omega)
             simp only [maxLen] at hle
             obtain ⟨a5,cq,dJ⟩:=wa (e:=e) (i:=i) (m:=m) (jb:=vs) (mf:=Builtin.zeroCells cl.cells (grownCap w aU.length 0 e-aU.length)) (cap:=grownCap w aU.length 0 e) h cv hlen gZ v1 v3
              (by rw [size_zeroCells,hf,gZ]) (by omega) (by omega) v4 rfl
             rw [dU]
             rw [dU] at lz
             have ku:(s.setRow aw [⟨i.size,aU,.live⟩]).ad r k=some ad:=by rw [ha,if_neg (Ne.symm b6)];exact af
             obtain ⟨lK,sg⟩:=cq.gone lz ku
             refine ⟨.slice (some ⟨w.heap.size,0,none⟩) m (grownCap w aU.length 0 e),_,a5,?_,lK,sg _ _ dJ⟩
             rw [gZ];exact eV
          ·
           rw [ag] at cN
           have Hz:=cN
           obtain ⟨bm,hZ,g1,g2,g3,g4⟩:=cN
           have rr : ∀e∈ad.es.take len++aU,e.length=i.size:=by
            intro cB hy
            rw [List.mem_append] at hy
            rcases hy with bG|bG
            ·rw [g3 cB (List.mem_of_mem_take bG),cx]
            ·exact hlen cB bG
           have f9 : ∀(es:List (List aj)),(∀e∈es,e.length=i.size)→es.flatten.length=es.length*i.size:=by
            intro es
            induction es with
            | nil=>intro _;simp
            | cons e es ih =>
             intro cV
             rw [List.flatten_cons,List.length_append,ih fun x ab=>cV x (by simp [ab]),cV e (by simp),List.length_cons,Nat.add_mul];omega
           by_cases h0:aU.length=0
           ·
            have:aU=[]:=List.length_eq_zero_iff.1 h0
            subst this
            have rq:ad.es.take len++([]:List (List aj))=ad.es.take len:=by simp
            rw [rq]
            rw [rq] at rp kt rr
            obtain ⟨a5,eG,eA⟩:=h.turn b2 af jf ag cv ⟨i.size,ad.es.take len,.live⟩ rfl bm hZ g1 rfl (fun _ _=>rfl) rfl rfl rfl g2 rr (fun j q aL=>by
             refine g4 j q ?_
             have aC:j<(ad.es.take len).flatten.length:=by
              rcases Nat.lt_or_ge j (ad.es.take len).flatten.length with bG|bG
              ·exact bG
              ·rw [List.getElem?_eq_none bG] at aL;simp at aL
             have BV:ad.es.flatten=(ad.es.take len).flatten++(ad.es.drop len).flatten:=by rw [← List.flatten_append,List.take_append_drop]
             rw [BV,List.getElem?_append_left aC];exact aL)
            refine ⟨_,w,a5,hA.zero h0 jE len hl ld,eA,?_⟩
            have gZ:m=len:=by simpa using hm
            subst gZ
            refine .bd (aa:=i.size) (b7:=b) (m:=M) rp ((eE (kt a5)).trans (by rw [eG])) ld l8 ?_
            rw [← cx];exact ⟨cd,ir⟩
           ··
             have hold : ∃xs:List Value,xs.length=len*i.size∧(∀(j:Nat) u,xs[j]? = some u→w.cell? ((⟨b,0,none⟩:Addr).add j)=some u)∧(∀u∈xs,u.oneCell'=true) ∧
              ∀(j:Nat) x u,(ad.es.take len).flatten[j]? = some x→xs[j]? = some u→Rel w (s.ok g ai w) s.az (s.aG ai) x u:=by
              have BC:=sO Hz.rd 0 len (by omega)
              simp only [List.drop_zero,Nat.zero_mul,Nat.add_zero] at BC
              obtain ⟨xs,eR,fL,a9,hS⟩:=BC.jb
              exact ⟨xs,by rw [eR,xB,cx],fL,a9,hS⟩
             obtain ⟨xs,eR,fL,a9,hS⟩:=hold
             have Iw:xs.length=(ad.es.take len).length*i.size:=by rw [xB];exact eR
             have AB : ∀(j:Nat) x u,(ad.es.take len++aU).flatten[j]? = some x→(xs++vs)[j]? = some u→Rel w (s.ok g ai w) s.az (s.aG ai) x u :=
              fun j x u Ix je=>Ep Iw (fun cB hy=>by rw [g3 cB (List.mem_of_mem_take hy),cx]) Ix hS v4 je
             have rs:(ad.es.take len++aU).length=m:=by rw [List.length_append,xB];exact hm.symm
             by_cases lZ:len+aU.length≤hl
             ·
              rcases ir with rfl|rfl
              ·omega
              ·rw [Nat.zero_mul] at *
               rw [Nat.zero_add] at cd
               have Hb:len*i.size+vs.length≤bm.size:=by
                rw [v1,g2,← cd,cx,← Nat.add_mul];exact Nat.mul_le_mul_right _ lZ
               have eV:=hA.room (by omega) b len hl bm hZ g1 lZ Hb (by omega)
               have H2:(w.setRow b (bm.toList.take (len*i.size)++vs++bm.toList.drop (len*i.size+vs.length)).toArray).heap.size=w.heap.size:=size_setRow _ _ _
               have BW:xs=bm.toList.take (len*i.size):=by
                apply List.ext_getElem?
                intro j
                rw [List.getElem?_take]
                by_cases aC:j<len*i.size
                ·rw [if_pos aC]
                 have BX:j<xs.length:=by omega
                 have:=fL j _ (List.getElem?_eq_getElem BX)
                 rw [lv,cell_of_row w b (0+j) bm hZ (0,0) g1,Nat.zero_add] at this
                 rw [List.getElem?_eq_getElem BX,← this,Array.getElem?_toList]
                ·rw [if_neg aC,List.getElem?_eq_none (by omega)]
               obtain ⟨a5,eG,eA⟩:=h.turn b2 af jf ag cv ⟨i.size,ad.es.take len++aU,.live⟩ rfl _ hZ (setRow_heap w b bm _ hZ _ g1) H2 (fun q aL=>setRow_other w b q _ aL) rfl rfl rfl
                (by rw [← g2];simp;omega) rr (fun j q aL=>by
                  have aC:j<(xs++vs).length:=by
                   have:j<(ad.es.take len++aU).flatten.length:=by
                    rcases Nat.lt_or_ge j (ad.es.take len++aU).flatten.length with bG|bG
                    ·exact bG
                    ·rw [List.getElem?_eq_none bG] at aL;simp at aL
                   rw [f9 _ rr,rs] at this
                   rw [List.length_append,eR,v1,← Nat.add_mul,← hm];exact this
                  refine ⟨(xs++vs)[j],?_,?_,AB j q _ aL (List.getElem?_eq_getElem aC)⟩
                  ·rw [List.getElem?_toArray,List.getElem?_append_left (by rw [← BW];exact aC),← BW]
                   exact List.getElem?_eq_getElem aC
                  ·have:=List.getElem_mem aC
                   rw [List.mem_append] at this
                   rcases this with bG|bG
                   ·exact a9 _ bG
                   ·exact v3 _ bG)
               refine ⟨_,_,a5,eV,eA,?_⟩
               rw [← hm]
               refine .bd (aa:=i.size) (b7:=b) (m:=M) rp ((eE (kt a5)).trans (by rw [eG])) (by omega) l8 ⟨?_,.inr (by simp)⟩
               rw [Nat.zero_add,← cx];exact cd
             ·
              have hA : ∃nW:Addr,(jE=some nW∧ ∀(j:Nat) u,xs[j]? = some u→w.cell? (nW.add j)=some u)∨(jE=none∧len=0∧hl=0):=by
               cases jE with
               | none =>
                refine ⟨⟨0,0,none⟩,.inr ⟨rfl,?_⟩⟩
                rcases ir with bG|bG
                ·omega
                ·simp at bG
               | some nW =>
                refine ⟨nW,.inl ⟨rfl,?_⟩⟩
                rcases ir with bG|bG
                ·have:len=0:=by omega
                 have:xs=[]:=List.length_eq_zero_iff.1 (by rw [eR,this];simp)
                 intro j u aC
                 rw [this] at aC;simp at aC
                ·simp at bG;subst bG;exact fL
              have BU:=grownCap_ge w (len+aU.length) hl e
              have hle:=grownCap_le_maxLen w (len+aU.length) hl e (by simp only [maxLen];omega)
              simp only [maxLen] at hle
              have eV:(Builtin.append_ #[t,cC] cn #[.slice jE len hl,i1]).run P w = .ok (.slice (some ⟨w.heap.size,0,none⟩) (len+aU.length) (grownCap w (len+aU.length) hl e))
               (w.drew.alloc (.cells ((xs++vs).toArray++Builtin.zeroCells cl.cells (grownCap w (len+aU.length) hl e-(len+aU.length))) e)):=by
               have H3:(xs++vs).toArray=xs.toArray++vs.toArray:=by apply Array.ext';simp
               rw [H3]
               obtain ⟨nW,⟨rfl,Iy⟩|⟨rfl,jw,ue⟩⟩:=hA
               ·exact hA.grow (by omega) nW len hl xs eR Iy (by omega) (by omega) (growslice_fits (by omega) (by rw [← hm];exact rO)) (by omega)
               ·subst jw;subst ue
                have Iz:xs=[]:=List.length_eq_zero_iff.1 (by rw [eR];simp)
                subst Iz
                have:=hA.nil (by omega) (by omega) (by omega)
                simpa using this
              obtain ⟨a5,cq,dJ⟩:=wa (e:=e) (i:=i) (m:=m) (jb:=xs++vs) (mf:=Builtin.zeroCells cl.cells (grownCap w (len+aU.length) hl e-(len+aU.length))) (cap:=grownCap w (len+aU.length) hl e) h cv rr rs.symm
               (by rw [List.length_append,eR,v1,rs,hm,Nat.add_mul]) (fun u hu=>by
                 rw [List.mem_append] at hu
                 rcases hu with bG|bG
                 ·exact a9 _ bG
                 ·exact v3 _ bG) (by rw [size_zeroCells,hf,hm]) (by omega) (by omega) AB rfl
              have ku:(s.setRow aw [⟨i.size,ad.es.take len++aU,.live⟩]).ad r k=some ad:=by rw [ha,if_neg (Ne.symm b6)];exact af
              obtain ⟨lK,sg⟩:=cq.gone lz ku
              refine ⟨.slice (some ⟨w.heap.size,0,none⟩) m (grownCap w (len+aU.length) hl e),_,a5,?_,lK,sg _ _ dJ⟩
              rw [hm];exact eV
         ·simp at ah
      ·simp at ah
     ·exact absurd trivial Ha
  ·simp at ah
end
end
section
variable {P:Program} {g:G} {s:S} {ai:cJ} {a:Act} {w:World}
theorem qH {aa:Nat}: ∀ {es:List (List aj)},(∀e∈es,e.length=aa)→es.flatten.length=es.length*aa
 | [],_=>by simp
 | e::es,h=>by
  rw [List.flatten_cons,List.length_append,qH fun x ab=>h x (by simp [ab]),h e (by simp),List.length_cons,Nat.add_mul];omega
theorem bz.putAt (h:bz g s ai a w){r k p b M:Nat}{row:List ao}{ad:ao}(an:s.aD r=some row)(af:s.ad r k=some ad)(a3:ad.bn = .live)(hj:ai r k=some (b,M)){aU dj:List (List aj)}{vs:List Value}
 (hlen : ∀x∈aU,x.length=ad.aa) (v1:vs.length=aU.length*ad.aa) (v3 : ∀u∈vs,u.oneCell'=true) (v4 : ∀(j:Nat) x u,aU.flatten[j]? = some x→vs[j]? = some u→Rel w (s.ok g ai w) s.az (s.aG ai) x u)
 (ag:p+aU.length≤ad.es.length) (q:Nat) (dU:dj=(ad.es.take p++aU++ad.es.drop (p+aU.length)).take q) :
 ∃bm hZ,w.heap[b]? = some (.cells bm hZ (0,0))∧bm.size=M∧ad.es.length*ad.aa≤M∧p*ad.aa+vs.length≤bm.size ∧
  bz g (s.setRow r (row.set k {ad with es:=dj})) ai a (w.setRow b (bm.toList.take (p*ad.aa)++vs++bm.toList.drop (p*ad.aa+vs.length)).toArray) ∧
  ∀x v,Rel w (s.ok g ai w) s.az (s.aG ai) x v→Rel (w.setRow b (bm.toList.take (p*ad.aa)++vs++bm.toList.drop (p*ad.aa+vs.length)).toArray) ((s.setRow r (row.set k {ad with es:=dj})).ok g ai (w.setRow b (bm.toList.take (p*ad.aa)++vs++bm.toList.drop (p*ad.aa+vs.length)).toArray)) (s.setRow r (row.set k {ad with es:=dj})).az ((s.setRow r (row.set k {ad with es:=dj})).aG ai) x v:=by
 have cN:=h.obj r k ad af
 rw [hj] at cN
 obtain ⟨bm,hZ,g1,g2,g3,g4⟩:=cN
 have f9:=qH g3
 have cd:ad.es.length*ad.aa≤M:=by
  rcases Nat.eq_zero_or_pos ad.es.flatten.length with h0|gP
  ·omega
  ·obtain ⟨v,ar,-⟩:=g4 (ad.es.flatten.length-1) _ (List.getElem?_eq_getElem (by omega))
   have:=(Array.getElem?_eq_some_iff.1 ar).1
   omega
 have hmul:p*ad.aa+aU.length*ad.aa≤ad.es.length*ad.aa:=by rw [← Nat.add_mul];exact Nat.mul_le_mul_right _ ag
 have ex:p*ad.aa+vs.length≤bm.size:=by omega
 refine ⟨bm,hZ,g1,g2,cd,ex,?_⟩
 have H4 : ∀e∈ad.es.take p++aU++ad.es.drop (p+aU.length),e.length=ad.aa:=by
  intro e he
  simp only [List.mem_append] at he
  rcases he with (he|he)|he
  ·exact g3 e (List.mem_of_mem_take he)
  ·exact hlen e he
  ·exact g3 e (List.mem_of_mem_drop he)
 have hA:(ad.es.take p).flatten.length=p*ad.aa:=by rw [qH fun e he=>g3 e (List.mem_of_mem_take he),List.length_take];congr 1;omega
 have nY:(ad.es.take (p+aU.length)).flatten.length=p*ad.aa+aU.length*ad.aa:=by rw [qH fun e he=>g3 e (List.mem_of_mem_take he),List.length_take,← Nat.add_mul];congr 1;omega
 have si:aU.flatten.length=aU.length*ad.aa:=qH hlen
 have I : ∀j,j<p*ad.aa→(ad.es.take p).flatten[j]? = ad.es.flatten[j]? := fun j aC=>by
  conv=>rhs;rw [← List.take_append_drop p ad.es,List.flatten_append,List.getElem?_append_left (by omega)]
 have R : ∀j,(ad.es.drop (p+aU.length)).flatten[j]? = ad.es.flatten[p*ad.aa+aU.length*ad.aa+j]? := fun j=>by
  conv=>rhs;rw [← List.take_append_drop (p+aU.length) ad.es,List.flatten_append,List.getElem?_append_right (by omega),nY]
  congr 1;omega
 refine h.write an af a3 hj dj _ hZ (setRow_heap w b bm _ hZ _ g1) (size_setRow _ _ _) (fun q aL=>setRow_other w b q _ aL) rfl rfl rfl (by rw [← g2];simp;omega) ?_ ?_
 ·intro e he
  rw [dU] at he
  exact H4 e (List.mem_of_mem_take he)
 ·intro j x ab
  have b1:(ad.es.take p++aU++ad.es.drop (p+aU.length)).flatten[j]? = some x:=by
   rw [dU] at ab
   have aC:=(List.getElem?_eq_some_iff.1 ab).1
   conv=>lhs;rw [← List.take_append_drop q (ad.es.take p++aU++ad.es.drop (p+aU.length)),List.flatten_append,List.getElem?_append_left aC]
   exact ab
  rw [List.flatten_append,List.flatten_append] at b1
  simp only [List.getElem?_toArray]
  have eW:(bm.toList.take (p*ad.aa)).length=p*ad.aa:=by rw [List.length_take,Array.length_toList];omega
  by_cases bF:j<p*ad.aa
  ·rw [List.append_assoc,List.getElem?_append_left (by omega),I j bF] at b1
   obtain ⟨v,ar,aE,br⟩:=g4 j x b1
   refine ⟨v,?_,aE,br⟩
   rw [List.append_assoc,List.getElem?_append_left (by omega),List.getElem?_take,if_pos bF,Array.getElem?_toList];exact ar
  ·by_cases eI:j<p*ad.aa+vs.length
   ·rw [List.append_assoc,List.getElem?_append_right (by omega),hA,List.getElem?_append_left (by omega)] at b1
    have aZ:j-p*ad.aa<vs.length:=by omega
    refine ⟨vs[j-p*ad.aa],?_,v3 _ (List.getElem_mem aZ),v4 _ _ _ b1 (List.getElem?_eq_getElem aZ)⟩
    rw [List.append_assoc,List.getElem?_append_right (by omega),eW,List.getElem?_append_left (by omega)]
    exact List.getElem?_eq_getElem aZ
   ·rw [List.getElem?_append_right (by rw [List.length_append];omega),List.length_append,hA,si,R] at b1
    rw [show p*ad.aa+aU.length*ad.aa+(j-(p*ad.aa+aU.length*ad.aa))=j by omega] at b1
    obtain ⟨v,ar,aE,br⟩:=g4 j x b1
    refine ⟨v,?_,aE,br⟩
    rw [List.getElem?_append_right (by rw [List.length_append];omega),List.length_append,eW,List.getElem?_drop,Array.getElem?_toList]
    rw [show p*ad.aa+vs.length+(j-(p*ad.aa+vs.length))=j by omega];exact ar
end
section
variable {P:Program} {g:G} {s:S} {ai:cJ} {a:Act} {w:World} {aw:Nat} {aV:et}
theorem GI (h:bz g s ai a w){x y:aj}{ln i1:Value}{t cC cn:TypeId}(ah:jd P s.E s.aD aw .append [x,y] [t,cC] .gd=some aV)(bt:∀p∈aV.cR,p)
 (ab:Rel w (s.ok g ai w) s.az (s.aG ai) x ln) (aS:Rel w (s.ok g ai w) s.az (s.aG ai) y i1) :
 ∃v a8,(Builtin.append_ #[t,cC] cn #[ln,i1]).run P w = .ok v a8∧bz g (s.ej aV.cZ) ai a a8∧Rel a8 ((s.ej aV.cZ).ok g ai a8) (s.ej aV.cZ).az ((s.ej aV.cZ).aG ai) aV.val v:=by
 simp only [jd] at ah
 split at ah
 ·simp at ah
 ·rename_i e he
  have hu:=lx he
  split at ah
  ·rename_i i z aA bY
   split at ah
   ·simp at ah
   ·rename_i aY
    simp only [not_or,Decidable.not_not] at aY
    obtain ⟨iU,gP,t0⟩:=aY
    split at ah
    ·simp at ah
    ·rename_i aU aP la
     split at ah
     ·rename_i r k len
      split at ah
      ·simp at ah
      ·rename_i row b2
       split at ah
       ·simp at ah
       ·rename_i ad aK
        split at ah
        ·rename_i nO
         obtain ⟨jf,cx⟩:=nO
         simp only [Option.some.injEq] at ah
         subst ah
         have af:s.ad r k=some ad:=by unfold S.ad;rw [b2];exact aK
         have ex:len+aU.length≤ad.es.length:=bt _ (by simp)
         have rO:aU.length*i.bytes≤140737488355328:=bt _ (by simp)
         obtain ⟨cl,vs,gQ,hf,hA,hlen,v1,v3,v4⟩:=zV (cn:=cn) h hu aA bY iU gP la (fun p ag=>bt p (by simp [ag])) aS
         rw [← cx] at v1
         have HA : ∀x∈aU,x.length=ad.aa:=fun x ab=>by rw [hlen x ab,cx]
         have dU:ad.es.take len++aU=(ad.es.take len++aU++ad.es.drop (len+aU.length)).take (len+aU.length) :=
          (List.take_left' (by rw [List.length_append,List.length_take];omega)).symm
         rcases ab.nq (eE af) with ⟨ag,-,rfl,rfl⟩|⟨b,M,jE,hl,ag,rfl,ld,l8,cd,ir⟩
         ·have cN:=h.obj r k ad af
          rw [ag] at cN
          simp only [fc] at cN
          rw [cN] at ex
          have h0:aU.length=0:=by simp at ex;exact List.length_eq_zero_iff.2 ex
          have nP:aU=[]:=List.length_eq_zero_iff.1 h0
          subst nP
          have HB:row.set k {ad with es:=ad.es.take 0++[]}=row:=by
           have I:({ad with es:=ad.es.take 0++[]}:ao)=ad:=by cases ad;simp only [] at cN;subst cN;rfl
           rw [I]
           have R:row[k]? = some ad:=by
            unfold bN at aK
            simp only at aK
            split at aK
            ·rename_i bf b4
             split at aK
             ·simp at aK
             ·simp at aK;rw [← aK];exact b4
            ·simp at aK
           exact List.ext_getElem? fun j=>by
            rw [List.getElem?_set]
            split
            ·rename_i e;subst e
             have:=(List.getElem?_eq_some_iff.1 R).1
             rw [if_pos this,R]
            ·rfl
          refine ⟨_,w,hA.zero h0 none 0 0 (Nat.le_refl _),?_⟩
          have cF:s.setRow r row=s:=by
           have:(fun q=>if q=r then some row else s.aD q)=s.aD:=by
            funext q;split
            ·rename_i e;rw [e,b2]
            ·rfl
           show ({s with aD:=_}:S)=s
           rw [this]
          show bz g (s.setRow r (row.set k {ad with es:=ad.es.take 0++[]})) ai a w∧Rel w ((s.setRow r (row.set k {ad with es:=ad.es.take 0++[]})).ok g ai w) (s.setRow r (row.set k {ad with es:=ad.es.take 0++[]})).az ((s.setRow r (row.set k {ad with es:=ad.es.take 0++[]})).aG ai) (.bd r k 0 0) (.slice none 0 0)
          rw [HB,cF]
          exact ⟨h,ab⟩
         ·obtain ⟨bm,hZ,bF,eI,h8,lL,jF,mg⟩:=h.putAt b2 af jf ag HA v1 v3 v4 ex (len+aU.length) dU
          have hle:ad.es.length≤hl:=by
           rw [Nat.zero_add] at cd
           rw [← cd] at h8
           exact Nat.le_of_mul_le_mul_right h8 (by omega)
          by_cases ue:hl=0
          ·have h0:aU.length=0:=by omega
           have jw:len=0:=by omega
           subst jw
           have nP:aU=[]:=List.length_eq_zero_iff.1 h0
           subst nP
           have xC:vs=[]:=List.length_eq_zero_iff.1 (by simpa using v1)
           subst xC
           have hw:w.setRow b (bm.toList.take (0*ad.aa)++[]++bm.toList.drop (0*ad.aa+0)).toArray=w:=by
            simp only [Nat.zero_mul,List.take_zero,List.nil_append,Nat.zero_add,List.drop_zero,Array.toArray_toList]
            exact setRow_self w b bm hZ (0,0) bF
           simp only [List.length_nil] at jF mg
           rw [hw] at jF mg
           exact ⟨_,w,hA.zero h0 jE 0 hl (Nat.zero_le _),jF,mg _ _ ab⟩
          ·have rP:jE=some ⟨b,0,none⟩:=by
            rcases ir with bG|bG
            ·exact absurd bG ue
            ·simpa using bG
           subst rP
           by_cases h0:aU.length=0
           ·have nP:aU=[]:=List.length_eq_zero_iff.1 h0
            subst nP
            have xC:vs=[]:=List.length_eq_zero_iff.1 (by simpa using v1)
            subst xC
            have hw:w.setRow b (bm.toList.take (len*ad.aa)++[]++bm.toList.drop (len*ad.aa+0)).toArray=w:=by
             simp only [List.append_nil,Nat.add_zero,List.take_append_drop,Array.toArray_toList]
             exact setRow_self w b bm hZ (0,0) bF
            simp only [List.length_nil] at jF mg
            rw [hw] at jF mg
            exact ⟨_,w,hA.zero h0 _ len hl ld,jF,mg _ _ ab⟩
           ·have eV:=hA.room (by omega) b len hl bm hZ bF (by omega) (by rw [← cx];exact lL) rO
            rw [← cx] at eV
            refine ⟨_,_,eV,jF,?_⟩
            have rj:(s.setRow r (row.set k {ad with es:=ad.es.take len++aU})).ad r k=some {ad with es:=ad.es.take len++aU}:=by
             rw [ha,if_pos rfl,Af row k ad _ aK (by simp [jf]),if_pos rfl]
            show Rel _ ((s.setRow r (row.set k {ad with es:=ad.es.take len++aU})).ok g ai _) (s.setRow r (row.set k {ad with es:=ad.es.take len++aU})).az ((s.setRow r (row.set k {ad with es:=ad.es.take len++aU})).aG ai) (.bd r k 0 (len+aU.length)) _
            refine .bd (aa:=ad.aa) (b7:=b) (m:=M) (s6 rj) ((eE rj).trans (by rw [ag])) (by omega) l8 ⟨cd,.inr (by simp)⟩
        ·simp at ah
     ·simp at ah
  ·simp at ah
end
section
variable {P:Program} {g:G} {s:S} {ai:cJ} {a:Act} {w:World} {aw:Nat} {aV:et}
theorem zk {s:S}{r k:Nat}{row:List ao}{ad:ao}(an:s.aD r=some row)(af:bN (some row) k=some ad):s.setRow r (row.set k ad)=s:=by
 have R:row[k]? = some ad:=by
  unfold bN at af
  simp only at af
  split at af
  ·rename_i bf b4
   split at af
   ·simp at af
   ·simp at af;rw [← af];exact b4
  ·simp at af
 have av:row.set k ad=row:=List.ext_getElem? fun j=>by
  rw [List.getElem?_set]
  split
  ·rename_i e;subst e
   have:=(List.getElem?_eq_some_iff.1 R).1
   rw [if_pos this,R]
  ·rfl
 rw [av]
 have:(fun q=>if q=r then some row else s.aD q)=s.aD:=by
  funext q;split
  ·rename_i e;rw [e,an]
  ·rfl
 show ({s with aD:=_}:S)=s
 rw [this]
theorem Fo {e:TypeId}{i:TypeInfo}{z:List aj}{cl:Value}(hf:cl.cells.size=i.size)(iU:z.length=i.size)(gP:i.size≠0)
 (mK : ∀(j:Nat) x,z[j]? = some x→ ∃v,cl.cells[j]? = some v∧f7 v=true∧ ∀(w:World) (ok:Nat→Prop) (az:e8) (aG:eX),Rel w ok az aG x v) (m:Nat) :
 (Builtin.zeroCells cl.cells m).toList.length=m*i.size∧(∀u∈(Builtin.zeroCells cl.cells m).toList,u.oneCell'=true) ∧
   ∀(j:Nat) x u,(List.replicate m z).flatten[j]? = some x→(Builtin.zeroCells cl.cells m).toList[j]? = some u→ ∀(w:World) (ok:Nat→Prop) (az:e8) (aG:eX),Rel w ok az aG x u:=by
 have hz : ∀(j:Nat) u,(Builtin.zeroCells cl.cells m).toList[j]? = some u→cl.cells[j % i.size]? = some u:=by
  intro j u je
  have aC:=(List.getElem?_eq_some_iff.1 je).1
  rw [Array.length_toList,size_zeroCells,hf] at aC
  have cf:j % i.size<cl.cells.size:=by rw [hf];exact Nat.mod_lt _ (by omega)
  rw [Array.getElem?_toList,Builtin.zeroCells,Array.getElem?_map,hf,Array.getElem?_range] at je
  rw [if_pos aC] at je
  simp only [Option.map_some,Option.some.injEq] at je
  rw [← je,Array.getElem?_eq_getElem cf,getElem!_pos cl.cells _ cf]
 refine ⟨?_,?_,?_⟩
 ·rw [Array.length_toList,size_zeroCells,hf]
 ·intro u lg
  obtain ⟨j,aC⟩:=List.getElem?_of_mem lg
  have I:=hz j u aC
  have cf:j % i.size<z.length:=by rw [iU];exact Nat.mod_lt _ (by omega)
  obtain ⟨v,v1,v2,-⟩:=mK _ _ (List.getElem?_eq_getElem cf)
  rw [I] at v1
  obtain rfl:=Option.some.inj v1
  exact v2
 ·intro j x u ab je
  rw [j2 (aa:=i.size) (by omega) _ (fun cB hy=>by rw [List.mem_replicate] at hy;rw [hy.2,iU])] at ab
  have I:=hz j u je
  cases aL:(List.replicate m z)[j / i.size]? with
  | none=>rw [aL] at ab;simp at ab
  | some cB =>
   have:=List.mem_of_getElem? aL
   rw [List.mem_replicate] at this
   rw [aL,this.2] at ab
   simp only [Option.bind_some] at ab
   obtain ⟨v,v1,-,v3⟩:=mK _ _ ab
   rw [I] at v1
   obtain rfl:=Option.some.inj v1
   exact v3
theorem F8 (h:bz g s ai a w){r k len:Nat}{y:aj}{ln i1:Value}{t cC cn:TypeId}{bA:cU}(ah:jd P s.E s.aD aw .copy [.bd r k 0 len,y] [t,cC] bA=some aV)(bt:∀p∈aV.cR,p)
 (ab:Rel w (s.ok g ai w) s.az (s.aG ai) (.bd r k 0 len) ln) (aS:Rel w (s.ok g ai w) s.az (s.aG ai) y i1) :
 ∃n a8,(Builtin.copy_ #[t,cC] cn #[ln,i1]).run P w = .ok (goInt n) a8∧bz g (s.ej aV.cZ) ai a a8∧aV.val = .n .i64 n:=by
 simp only [jd] at ah
 split at ah
 ·simp at ah
 ·rename_i e he
  have hu:=lx he
  split at ah
  ·simp at ah
  ·rename_i i aA
   split at ah
   ·simp at ah
   ·rename_i aU aP la
    split at ah
    ·simp at ah
    ·rename_i row b2
     split at ah
     ·simp at ah
     ·rename_i ad aK
      split at ah
      ·rename_i nO
       obtain ⟨jf,cx,gP⟩:=nO
       simp only [Option.some.injEq] at ah
       subst ah
       have af:s.ad r k=some ad:=by unfold S.ad;rw [b2];exact aK
       have ex:aU.length≤len:=bt _ (by simp)
       have hle:len≤ad.es.length:=bt _ (by simp)
       obtain ⟨A,c,rfl,hlen,xz⟩:=Ah h la (fun p ag=>bt p (by simp [ag])) aS
       show ∃n a8,_∧bz g (s.setRow r (row.set k {ad with es:=aU++ad.es.drop aU.length})) ai a a8∧_
       by_cases h0:aU.length=0
       ·have nP:aU=[]:=List.length_eq_zero_iff.1 h0
        subst nP
        refine ⟨0,w,?_,?_,rfl⟩
        ·rcases ab.nq (eE af) with ⟨-,-,rfl,rfl⟩|⟨b,M,jE,hl,-,rfl,-,-,-,-⟩
         ·cases A<;>simp [Builtin.copy_,run_underlying hu,sizeOf,typeInfo,aA,Builtin.lenOf,Builtin.firstCells,loadCells,loadCellsFrom]
         ·cases A<;>cases jE<;>simp [Builtin.copy_,run_underlying hu,sizeOf,typeInfo,aA,Builtin.lenOf,Builtin.firstCells,loadCells,loadCellsFrom,storeCells]
        ·rw [show ({ad with es:=[]++ad.es.drop ([]:List (List aj)).length}:ao)=ad from rfl,zk b2 aK];exact h
       ·obtain ⟨b7,off,rfl,ey⟩:=xz.resolve_left h0
        obtain ⟨vs,v1,v2,v3,v4⟩:=ey.jb
        rw [← cx] at v1
        rcases ab.nq (eE af) with ⟨-,-,rfl,-⟩|⟨b,M,jE,hl,ag,rfl,ld,l8,cd,ir⟩
        ·exact absurd (Nat.le_zero.1 ex) h0
        ·have rP:jE=some ⟨b,0,none⟩:=by
          rcases ir with bG|bG
          ·exact absurd (show aU.length=0 by omega) h0
          ·simpa using bG
         subst rP
         obtain ⟨bm,hZ,bF,eI,h8,lL,jF,-⟩:=h.putAt (p:=0) b2 af jf ag (fun x ab=>by rw [hlen x ab,cx]) v1 v3 v4 (by omega) ad.es.length (dj:=aU++ad.es.drop aU.length)
          (by rw [List.take_zero,List.nil_append,Nat.zero_add];exact (List.take_of_length_le (by simp;omega)).symm)
         simp only [Nat.zero_mul,Nat.zero_add,List.take_zero,List.nil_append] at lL jF
         have aB:=run_firstCells_some (P:=P) w i.size aU.length ⟨b7,off,none⟩ aU.length c vs (by rw [v1,cx]) v2
         have hL:=run_storeCells_at P b 0 hZ vs 0 bm w bF (by simpa using lL) v3
         simp only [Nat.add_zero,List.take_zero,List.nil_append,Nat.zero_add] at hL
         refine ⟨aU.length,_,?_,jF,rfl⟩
         simp [Builtin.copy_,run_underlying hu,sizeOf,typeInfo,aA,Builtin.lenOf,Nat.min_eq_left ex,aB,hL]
      ·simp at ah
theorem FK (h:bz g s ai a w){r k len:Nat}{ln:Value}{t cn:TypeId}{bA:cU}(ah:jd P s.E s.aD aw .clear [.bd r k 0 len] [t] bA=some aV)(bt:∀p∈aV.cR,p)
 (ab:Rel w (s.ok g ai w) s.az (s.aG ai) (.bd r k 0 len) ln) :
 ∃a8,(Builtin.clear_ #[t] cn #[ln]).run P w = .ok (.tuple #[]) a8∧bz g (s.ej aV.cZ) ai a a8∧aV.val = .c7 []:=by
 simp only [jd] at ah
 split at ah
 ·simp at ah
 ·rename_i e he
  have hu:=lx he
  split at ah
  ·rename_i i z aA bY
   split at ah
   ·simp at ah
   ·rename_i row b2
    split at ah
    ·simp at ah
    ·rename_i ad aK
     split at ah
     ·rename_i nO
      obtain ⟨jf,cx,iU,gP⟩:=nO
      simp only [Option.some.injEq] at ah
      subst ah
      have af:s.ad r k=some ad:=by unfold S.ad;rw [b2];exact aK
      have hle:ad.es.length=len:=bt _ (by simp)
      show ∃a8,_∧bz g (s.setRow r (row.set k {ad with es:=List.replicate len z})) ai a a8∧_
      by_cases h0:len=0
      ·subst h0
       refine ⟨w,?_,?_,rfl⟩
       ·rcases ab.nq (eE af) with ⟨-,-,-,rfl⟩|⟨b,M,jE,hl,-,rfl,-,-,-,-⟩
        ·simp [Builtin.clear_,run_underlying hu]
        ·cases jE<;>simp [Builtin.clear_,run_underlying hu]
       ·rw [show ({ad with es:=List.replicate 0 z}:ao)=ad by rw [List.replicate_zero,← List.length_eq_zero_iff.1 hle],zk b2 aK];exact h
      ·obtain ⟨fq,cl,gE,gQ,nX,mK⟩:=qs bY
       rw [aA] at gE;simp at gE;subst gE
       have hf:cl.cells.size=i.size:=by rw [← iU,nX];simp
       rcases ab.nq (eE af) with ⟨-,-,rfl,-⟩|⟨b,M,jE,hl,ag,rfl,ld,l8,cd,ir⟩
       ·exact absurd rfl h0
       ·have rP:jE=some ⟨b,0,none⟩:=by
         rcases ir with bG|bG
         ·exact absurd (show len=0 by omega) h0
         ·simpa using bG
        subst rP
        obtain ⟨v1,v3,v4⟩:=Fo (e:=e) hf iU gP mK len
        rw [← cx] at v1
        obtain ⟨bm,hZ,bF,eI,h8,lL,jF,-⟩:=h.putAt (p:=0) (aU:=List.replicate len z) b2 af jf ag (fun x ab=>by rw [List.mem_replicate] at ab;rw [ab.2,iU,cx]) (by simpa using v1) v3 (fun j x u I R=>v4 j x u I R _ _ _ _)
         (by simp;omega) len (dj:=List.replicate len z)
         (by simp [hle])
        simp only [Nat.zero_mul,Nat.zero_add,List.take_zero,List.nil_append] at lL jF
        have hL:=run_storeCells_at P b 0 hZ (Builtin.zeroCells cl.cells len).toList 0 bm w bF (by simpa using lL) v3
        simp only [Nat.add_zero,List.take_zero,List.nil_append,Nat.zero_add] at hL
        refine ⟨_,?_,jF,rfl⟩
        cases len with
        | zero=>exact absurd rfl h0
        | succ n=>simp [Builtin.clear_,run_underlying hu,zeroValue,typeInfo,aA,gQ,hL]
     ·simp at ah
  ·simp at ah
end
section
variable {g:G} {s:S} {ai:cJ} {a:Act} {w:World}
def ht (row:List ao):List ao:=row.map fun o=>if o.bn = .live then {o with bn:= .lb} else o
theorem Ai (row:List ao)(k:Nat):bN (some (ht row)) k=(bN (some row) k).map fun o=>if o.bn = .live then {o with bn:= .lb} else o:=by
 simp only [bN,ht,List.getElem?_map]
 cases row[k]? with
 | none=>rfl
 | some o =>
  obtain ⟨aa,es,bn⟩:=o
  cases bn<;>simp
theorem bz.freeze (h:bz g s ai a w){r:Nat}{row:List ao}(an:s.aD r=some row):bz g (s.setRow r (ht row)) ai a w:=by
 have aK : ∀q k o,(s.setRow r (ht row)).ad q k=some o→ ∃p,s.ad q k=some p∧o.aa=p.aa∧o.es=p.es∧(o.bn = .live→p.bn = .live∧q≠r):=by
  intro q k o af
  by_cases e:q=r
  ·subst e
   have:(s.setRow q (ht row)).aD q=some (ht row):=by simp [S.setRow]
   unfold S.ad at af
   rw [this,Ai] at af
   rw [Option.map_eq_some_iff] at af
   obtain ⟨p,ag,rfl⟩:=af
   refine ⟨p,by unfold S.ad;rw [an];exact ag,?_⟩
   split<;>simp_all
  ·have:(s.setRow r (ht row)).aD q=s.aD q:=by simp [S.setRow,e]
   unfold S.ad at af
   rw [this] at af
   exact ⟨o,af,rfl,rfl,fun aB=>⟨aB,e⟩⟩
 have ff : ∀q k,s.az q k→(s.setRow r (ht row)).az q k:=sN s an (by simp [ht])
 have gY : ∀q k,(s.setRow r (ht row)).aG ai q k=s.aG ai q k:=by
  intro q k
  by_cases e:q=r
  ·subst e
   simp only [S.aG,S.ad]
   have:(s.setRow q (ht row)).aD q=some (ht row):=by simp [S.setRow]
   rw [this,Ai,an]
   cases bN (some row) k with
   | none=>rfl
   | some o=>simp only [Option.map_some,Option.some.injEq,Prod.mk.injEq,and_true];split<;>rfl
  ·have:(s.setRow r (ht row)).aD q=s.aD q:=by simp [S.setRow,e]
   simp [S.aG,S.ad,this]
 have b9:Step g s ai w (s.setRow r (ht row)) ai w:=⟨ff,fun q k _=> .inl (gY q k),fun b aB=>by
  obtain ⟨q,k,o,m,I,R,av⟩:=aB
  obtain ⟨p,eG,eA,lK,sg⟩:=aK q k o I
  exact .inl ⟨q,k,p,m,eG,(sg R).1,av⟩,fun _ _ _=>rfl,Nat.le_refl _⟩
 refine {toep:=⟨?_,?_,?_,h.ei,h.mlt,h.iR,?_,h.low⟩,env:=fun t=>b9.rel (h.env t),defers:=h.defers,fy:=h.fy}
 ·intro q k o af
  obtain ⟨p,eG,eA,lK,-⟩:=aK q k o af
  have ag:=b9.obj (fun b m _=>rfl) (h.obj q k p eG)
  cases hj:ai q k with
  | none=>rw [hj] at ag;simp only [fc] at ag ⊢;rw [lK];exact ag
  | some x =>
   obtain ⟨b,m⟩:=x
   rw [hj] at ag
   obtain ⟨c,cn,ar,aE,br,de⟩:=ag
   exact ⟨c,cn,ar,aE,by rw [eA,lK];exact br,by rw [lK];exact de⟩
 ·intro q k o dZ bO bf b m cE I R av aR
  obtain ⟨p,eG,-⟩:=aK q k o I
  obtain ⟨gG,IA,-⟩:=aK dZ bO bf R
  exact h.inj q k p dZ bO gG b m cE eG IA av aR
 ·intro q k o b m I R
  obtain ⟨p,eG,-⟩:=aK q k o I
  exact h.own q k p b m eG R
 ·intro j k aC
  obtain ⟨ar,aE⟩:=h.stay j k aC
  exact ⟨ff j k ar,by rw [gY];exact aE⟩
end
def o0 (P:Program)(t:TypeId):Bool :=
 match P.underlying t with
 | some (.pointer _)=>true
 | _=>false
def pp (P:Program)(E:Nat→aj)(aD:Nat→Option (List ao))(aw:Nat)(o:Oper)(bA:cU):Option et :=
 match o.op with
 | .call {callee:= .builtin b,args,argTypes}=>match b with
  | .len=>cu P E aD aw o bA
  | b=>jd P E aD aw b (args.toList.map (cG E)) argTypes.toList bA
 | .binOp op t x y _=>match bA,op,cG E x,cG E y with
  | .gd,.eql,.a1 _ es,.dz=>if (km P t).isSome then some {val:= .b false,cR:=[es≠[]]} else none
  | .gd,.neq,.a1 _ es,.dz=>if (km P t).isSome then some {val:= .b true,cR:=[es≠[]]} else none
  | .gd,.eql,.er _ none,.eU=>if o0 P t then some {val:= .b true} else none
  | .gd,.neq,.er _ none,.eU=>if o0 P t then some {val:= .b false} else none
  | .gd,.eql,.er _ (some _),.eU=>if o0 P t then some {val:= .b false} else none
  | .gd,.neq,.er _ (some _),.eU=>if o0 P t then some {val:= .b true} else none
  | .gd,_,_,_=>none
  | _,_,_,_=>cu P E aD aw o bA
 | .nilCheck x=>match bA,cG E x with
  | .gd,.er aa (some c)=>some {val:= .di aa [c] 0 0}
  | .gd,_=>none
  | _,_=>cu P E aD aw o bA
 | _=>cu P E aD aw o bA
section
variable {P:Program} {g:G} {s:S} {ai:cJ} {a:Act} {w:World} {o:Oper} {bA:cU} {aw:Nat} {aV:et}
theorem tf {args:Array Operand}{E:Nat→aj}{x y:aj}(h:args.toList.map (cG E)=[x,y]): ∃p q,args = #[p,q]∧cG E p=x∧cG E q=y:=by
 obtain ⟨l⟩:=args
 match l,h with
 | [p,q],h=>simp at h;exact ⟨p,q,rfl,h.1,h.2⟩
theorem GJ {args:Array Operand}{E:Nat→aj}{x:aj}(h:args.toList.map (cG E)=[x]): ∃p,args = #[p]∧cG E p=x:=by
 obtain ⟨l⟩:=args
 match l,h with
 | [p],h=>simp at h;exact ⟨p,rfl,h⟩
theorem sW {t:TypeId}(h:o0 P t=true): ∃e,P.underlying t=some (.pointer e):=by
 unfold o0 at h
 split at h
 ·rename_i e he;exact ⟨e,he⟩
 ·simp at h
theorem FL (h:bz g s ai a w)(cv:s.aD aw=none)(ah:pp P s.E s.aD aw o bA=some aV)(bt:∀p∈aV.cR,p):Fin P g s a w o aV:=by
 unfold pp at ah
 split at ah
 ·rename_i b args iq af
  split at ah
  ·exact sV h cv ah bt
  ·rename_i b a4
   unfold jd at ah
   split at ah
   ·rename_i x y t cC m yb hargs ju
    have nA:jd P s.E s.aD aw .append [x,y] [t,cC] (.aW m yb)=some aV:=ah
    obtain ⟨p,q,rfl,rfl,rfl⟩:=tf hargs
    obtain ⟨l⟩:=iq
    simp only at ju
    subst ju
    obtain ⟨v,a8,a5,I,R,av⟩:=Fm (cn:=o.type) h cv nA bt (h.eval p) (h.eval q)
    exact ⟨v,a8,a5,.inl (by simp [execOp,af,resolve,invoke,builtin,I]),R,av⟩
   ·rename_i x y t cC hargs ju
    have nA:jd P s.E s.aD aw .append [x,y] [t,cC] .gd=some aV:=ah
    obtain ⟨p,q,rfl,rfl,rfl⟩:=tf hargs
    obtain ⟨l⟩:=iq
    simp only at ju
    subst ju
    obtain ⟨v,a8,I,R,av⟩:=GI (cn:=o.type) h nA bt (h.eval p) (h.eval q)
    exact ⟨v,a8,ai,.inl (by simp [execOp,af,resolve,invoke,builtin,I]),R,av⟩
   ·rename_i bA r k len y t cC hargs ju
    have nA:jd P s.E s.aD aw .copy [.bd r k 0 len,y] [t,cC] bA=some aV:=ah
    obtain ⟨p,q,rfl,ag,rfl⟩:=tf hargs
    obtain ⟨l⟩:=iq
    simp only at ju
    subst ju
    have ab:=h.eval p
    rw [ag] at ab
    obtain ⟨n,a8,I,R,av⟩:=F8 (cn:=o.type) h nA bt ab (h.eval q)
    refine ⟨goInt n,a8,ai,.inl (by simp [execOp,af,resolve,invoke,builtin,I]),R,?_⟩
    rw [av];exact .n _ _
   ·rename_i bA r k len t hargs ju
    have nA:jd P s.E s.aD aw .clear [.bd r k 0 len] [t] bA=some aV:=ah
    obtain ⟨p,rfl,ag⟩:=GJ hargs
    obtain ⟨l⟩:=iq
    simp only at ju
    subst ju
    have ab:=h.eval p
    rw [ag] at ab
    obtain ⟨a8,I,R,av⟩:=FK (cn:=o.type) h nA bt ab
    refine ⟨.tuple #[],a8,ai,.inl (by simp [execOp,af,resolve,invoke,builtin,I]),R,?_⟩
    rw [av];exact .c7 [] rfl (fun j x u aC=>by simp at aC)
   ·rename_i k x bO y hargs
    split at ah
    ·rename_i a3
     simp only [Option.some.injEq] at ah
     subst ah;subst a3
     obtain ⟨p,q,rfl,ag,aL⟩:=tf hargs
     have ab:=h.eval p
     have aS:=h.eval q
     rw [ag] at ab;rw [aL] at aS
     refine eD (v:= .int k (if y<x then y else x)) h ?_ rfl (.n _ _)
     simp [execOp,af,resolve,invoke,builtin,Builtin.min_,ab.j4,aS.j4,Builtin.min2]
    ·simp at ah
   ·simp at ah
 ·rename_i op t x y cC af
  split at ah
  ·rename_i aa es ab aS
   split at ah
   ·rename_i he
    obtain ⟨e,he⟩:=Option.isSome_iff_exists.1 he
    simp only [Option.some.injEq] at ah
    subst ah
    have I:=h.eval x
    have R:=h.eval y
    rw [ab] at I;rw [aS] at R
    have b6:es≠[]:=bt _ (by simp)
    refine eD (v:= .bool false) h ?_ rfl (.b _)
    simp only [execOp,af]
    rw [Sem.run_bind,(A1 (w:=w) (lx he) b6 I R x y).1];rfl
   ·simp at ah
  ·rename_i aa es ab aS
   split at ah
   ·rename_i he
    obtain ⟨e,he⟩:=Option.isSome_iff_exists.1 he
    simp only [Option.some.injEq] at ah
    subst ah
    have I:=h.eval x
    have R:=h.eval y
    rw [ab] at I;rw [aS] at R
    have b6:es≠[]:=bt _ (by simp)
    refine eD (v:= .bool true) h ?_ rfl (.b _)
    simp only [execOp,af]
    rw [Sem.run_bind,(A1 (w:=w) (lx he) b6 I R x y).2];rfl
   ·simp at ah
  ·rename_i aa ab aS
   split at ah
   ·rename_i bu
    obtain ⟨e,he⟩:=sW bu
    simp only [Option.some.injEq] at ah
    subst ah
    have I:=h.eval x
    have R:=h.eval y
    rw [ab] at I;rw [aS] at R
    have lD:Rel w (s.ok g ai w) s.az (s.aG ai) .eU (a.eval x):=by rw [I.Ag];exact .eU
    refine eD (v:= .bool true) h ?_ rfl (.b _)
    simp only [execOp,af]
    rw [Sem.run_bind,(oT (w:=w) (r:=true) (by simp [lC,he]) lD R x y).1];rfl
   ·simp at ah
  ·rename_i aa ab aS
   split at ah
   ·rename_i bu
    obtain ⟨e,he⟩:=sW bu
    simp only [Option.some.injEq] at ah
    subst ah
    have I:=h.eval x
    have R:=h.eval y
    rw [ab] at I;rw [aS] at R
    have lD:Rel w (s.ok g ai w) s.az (s.aG ai) .eU (a.eval x):=by rw [I.Ag];exact .eU
    refine eD (v:= .bool false) h ?_ rfl (.b _)
    simp only [execOp,af]
    rw [Sem.run_bind,(oT (w:=w) (r:=true) (by simp [lC,he]) lD R x y).2];rfl
   ·simp at ah
  ·rename_i aa c ab aS
   split at ah
   ·rename_i bu
    obtain ⟨e,he⟩:=sW bu
    simp only [Option.some.injEq] at ah
    subst ah
    have I:=h.eval x
    have R:=h.eval y
    rw [ab] at I;rw [aS] at R
    refine eD (v:= .bool false) h ?_ rfl (.b _)
    simp only [execOp,af]
    rw [Sem.run_bind,(oT (w:=w) (r:=false) (by simp [lC,he]) I.wG R x y).1];rfl
   ·simp at ah
  ·rename_i aa c ab aS
   split at ah
   ·rename_i bu
    obtain ⟨e,he⟩:=sW bu
    simp only [Option.some.injEq] at ah
    subst ah
    have I:=h.eval x
    have R:=h.eval y
    rw [ab] at I;rw [aS] at R
    refine eD (v:= .bool true) h ?_ rfl (.b _)
    simp only [execOp,af]
    rw [Sem.run_bind,(oT (w:=w) (r:=false) (by simp [lC,he]) I.wG R x y).2];rfl
   ·simp at ah
  ·simp at ah
  ·exact sV h cv ah bt
 ·rename_i x af
  split at ah
  ·rename_i aa c ab
   simp only [Option.some.injEq] at ah
   subst ah
   have I:=h.eval x
   rw [ab] at I
   have R:=I.wG
   obtain ⟨b7,off,a4,hval,ey⟩:=R.oW
   refine eD (v:=a.eval x) h ?_ rfl R
   rw [hval]
   simp only [execOp,af,hval]
   rfl
  ·simp at ah
  ·exact sV h cv ah bt
 ·exact sV h cv ah bt
end
end Go.VL
namespace Go.VL
set_option linter.unusedVariables false
set_option linter.unusedSimpArgs false
open Go
theorem lR {es:List (List aj)}{j:Nat}{x:aj}(h:es.flatten[j]? = some x): ∃e∈es,x∈e:=by
 have:=List.mem_of_getElem? h
 rw [List.mem_flatten] at this
 obtain ⟨e,he,ab⟩:=this
 exact ⟨e,he,ab⟩
theorem Rel.pure {w:World}{ok hJ:Nat→Prop}{az im:e8}{aG hK:eX}{x:aj}{v:Value}(h:Rel w ok az aG x v)(ag:Pure x)(jc:∀b,ok b→hJ b):Rel w hJ im hK x v:=by
 induction h with
 | dead v=>exact .dead v
 | b x=>exact .b x
 | n k x=>exact .n k x
 | s x=>exact .s x
 | eU=>exact .eU
 | dz=>exact .dz
 | eL a c=>exact .eL a c
 | ki=>cases ag
 | ref=>cases ag
 | iM=>cases ag
 | i4=>cases ag
 | bd=>cases ag
 | ig=>cases ag
 | i9=>cases ag
 | dd aa a c h=>exact .dd aa a c h
 | a1 b5 a4 jg aB aY hw eW an ih =>
  cases ag with
  | a1 h=>exact .a1 b5 (jc _ a4) jg aB aY hw eW fun j x ab=>ih j x ab (by obtain ⟨e,he,kS⟩:=lR ab;exact h e he x kS)
 | di b5 a4 jg aB hw eW an ih =>
  cases ag with
  | di h=>exact .di b5 (jc _ a4) jg aB hw eW fun j x ab=>ih j x ab (by obtain ⟨e,he,kS⟩:=lR ab;exact h e he x kS)
 | j5 aa=>exact .j5 aa
 | jQ h ih =>
  cases ag with
  | jQ ag=>exact .jQ (ih (.di fun e he x ab=>by rw [List.mem_singleton] at he;subst he;exact ag x ab))
 | agg vs aB eW an ih =>
  cases ag with
  | agg h=>exact .agg vs aB eW fun j x v ab aZ=>ih j x v ab aZ (h x (List.mem_of_getElem? ab))
 | c7 vs aB an ih =>
  cases ag with
  | c7 h=>exact .c7 vs aB fun j x v ab aZ=>ih j x v ab aZ (h x (List.mem_of_getElem? ab))
 | fn vs aB an ih =>
  cases ag with
  | fn h=>exact .fn vs aB fun j x v ab aZ=>ih j x v ab aZ (h x (List.mem_of_getElem? ab))
abbrev dv:=Nat→Nat→Option (Nat×Nat)
structure Down (q:aj→Prop):Prop where
 agg : ∀c x,q (.agg c)→x∈c→q x
 c7 : ∀c x,q (.c7 c)→x∈c→q x
 fn : ∀f c x,q (.fn f c)→x∈c→q x
inductive d1 (s:S) (au:dv) (bg:c3→Bool) (q:aj→Prop):aj→aj→Prop
 | dead (x:aj):d1 s au bg q x .dead
 | pure {x:aj} (h:Pure x) (aL:q x):d1 s au bg q x x
 | dz (aa:Nat):d1 s au bg q .dz (.a1 aa [])
 | eL (aa:Nat):d1 s au bg q .eL (.a1 aa [])
 | tz (aa:Nat):d1 s au bg q .eU (.er aa none)
 | er {aa:Nat} {x:aj} {c:List aj} (h:d1 s au bg q x (.di aa [c] 0 0)):d1 s au bg q x (.er aa (some c))
 | ref {r k j fq:Nat} (i off:Nat) (h:au j fq=some (r,k)) (hu:s.az r k):d1 s au bg q (.ref r k i off) (.ref j fq i off)
 | bd {r k j fq:Nat} (bD len:Nat) (h:au j fq=some (r,k)) (hu:s.az r k):d1 s au bg q (.bd r k bD len) (.bd j fq bD len)
 | ig (r c aa:Nat):d1 s au bg q (.eM r c aa none) (.a1 aa [])
 | i9 {r c aa k n:Nat} {bx:aj} (h:d1 s au bg q (.bd r (k+c) 0 n) bx):d1 s au bg q (.eM r c aa (some (k,n))) bx
 | eM {r cp c bV aa:Nat} (h:Option (Nat×Nat)) (hm : ∀k,au cp (k+bV)=some (r,k+c)):d1 s au bg q (.eM r c aa h) (.eM cp bV aa h)
 | di {r k:Nat} {o:ao} {dj:List (List aj)} (i off:Nat) (af:s.ad r k=some o) (bJ:bg o.bn=true) (an:(∀j i,au j i≠some (r,k))) (b6:o.es≠[]) (ag:gV dj) (hle : ∀e∈dj,e.length=o.aa) (aB:dj.length=o.es.length)
  (h : ∀(j:Nat) x bx,o.es.flatten[j]? = some x→dj.flatten[j]? = some bx→d1 s au bg q x bx):d1 s au bg q (.ref r k i off) (.di o.aa dj i off)
 | a1 {r k bD len:Nat} {o:ao} {dj:List (List aj)} (af:s.ad r k=some o) (bJ:bg o.bn=true) (an:(∀j i,au j i≠some (r,k))) (ex:bD+len≤o.es.length) (ag:gV dj) (hle : ∀e∈dj,e.length=o.aa) (aB:dj.length=len)
  (h : ∀(j:Nat) x bx,((o.es.drop bD).take len).flatten[j]? = some x→dj.flatten[j]? = some bx→d1 s au bg q x bx):d1 s au bg q (.bd r k bD len) (.a1 o.aa dj)
 | agg {c bV:List aj} (aB:bV.length=c.length) (h : ∀(j:Nat) x bx,c[j]? = some x→bV[j]? = some bx→d1 s au bg q x bx):d1 s au bg q (.agg c) (.agg bV)
 | c7 {c bV:List aj} (aB:bV.length=c.length) (h : ∀(j:Nat) x bx,c[j]? = some x→bV[j]? = some bx→d1 s au bg q x bx):d1 s au bg q (.c7 c) (.c7 bV)
 | fn {f:Nat} {c bV:List aj} (aB:bV.length=c.length) (h : ∀(j:Nat) x bx,c[j]? = some x→bV[j]? = some bx→d1 s au bg q x bx):d1 s au bg q (.fn f c) (.fn f bV)
theorem lu {aa:Nat}: ∀(es:List (List aj)),(∀e∈es,e.length=aa)→es.flatten.length=es.length*aa
 | [],_=>by simp
 | e::es,h=>by
  rw [List.flatten_cons,List.length_append,lu es fun x ab=>h x (by simp [ab]),h e (by simp),List.length_cons,Nat.add_mul];omega
theorem dr {α:Type}{l:List α}{j:Nat}{x:α}(h:l[j]? = some x):j<l.length:=by
 rcases Nat.lt_or_ge j l.length with bG|bG
 ·exact bG
 ·rw [List.getElem?_eq_none bG] at h;simp at h
theorem d1.rel {g:G}{s:S}{ai:cJ}{w:World}{au:dv}{bg:c3→Bool}{q:aj→Prop}(cd:ep g s ai w){hJ:Nat→Prop}{im:e8}{hK:eX}
 (H1 : ∀x v,q x→Pure x→Rel w (s.ok g ai w) s.az (s.aG ai) x v→Rel w hJ im hK x v)
 (uN : ∀r k o b m,s.ad r k=some o→bg o.bn=true→(∀j i,au j i≠some (r,k))→ai r k=some (b,m)→hJ b)
 (sj : ∀j i r k,au j i=some (r,k)→s.az r k→im j i∧(hK j i=s.aG ai r k∨hK j i=none)) {x bx:aj} (bR:d1 s au bg q x bx) :
 ∀ {v:Value},Rel w (s.ok g ai w) s.az (s.aG ai) x v→Rel w hJ im hK bx v:=by
 induction bR with
 | dead x=>intro v _;exact .dead v
 | pure ag aL=>intro v an;exact H1 _ v aL ag an
 | dz aa=>intro v an;rw [an.kg];exact .dd aa none 0 (fun _=>rfl)
 | eL aa=>intro v an;obtain ⟨a,c,rfl⟩:=an.td;exact .dd aa (some a) c (fun h=>by simp at h)
 | tz aa=>intro v an;rw [an.np];exact .j5 aa
 | er h ih=>intro v an;exact .jQ (ih an)
 | @ref r k j fq i off aC hu =>
  intro v an
  obtain ⟨I,R⟩:=sj j fq r k aC hu
  cases an with
  | ki a kQ bj =>
   refine .ki a I fun aa p=> ?_
   rcases R with e|e<;>rw [e]
   ·exact bj aa p
   ·simp
  | ref kQ bu =>
   rcases R with e|e
   ·exact .ref I (e.trans bu)
   ·exact .ki _ I fun aa p=>by rw [e];simp
 | @bd r k j fq bD len aC hu =>
  intro v an
  obtain ⟨I,R⟩:=sj j fq r k aC hu
  cases an with
  | iM a l c kQ bj =>
   refine .iM a l c I ?_
   rcases R with e|e<;>rw [e]
   exact bj
  | i4 kQ bu =>
   rcases R with e|e
   ·exact .i4 I (e.trans bu)
   ·exact .iM _ _ _ I e
  | bd kQ bu aB aY hm =>
   rcases R with e|e
   ·exact .bd I (e.trans bu) aB aY hm
   ·exact .iM _ _ _ I e
 | ig r c aa =>
  intro v an
  cases an with
  | ig h0 =>
   rcases h0.lU with ⟨-,a,c,rfl,bJ⟩|⟨b7,off,c,-,rfl,-⟩
   ·exact .dd aa a c bJ
   ·exact .dd aa _ c (fun h=>by simp at h)
 | i9 h ih =>
  intro v an
  cases an with
  | i9 h0=>exact ih h0
 | @eM r cp c bV aa h hm =>
  intro v an
  cases an with
  | ig h0 =>
   rcases h0.lU with ⟨-,a,c,rfl,bJ⟩|⟨b7,off,c,-,rfl,-⟩
   ·exact .ig (.dd aa a c bJ)
   ·exact .ig (.dd aa _ c (fun h=>by simp at h))
  | @i9 _ _ _ k n _ h0 =>
   refine .i9 ?_
   cases h0 with
   | iM a l bF kQ bj =>
    obtain ⟨I,R⟩:=sj _ _ _ _ (hm k) kQ
    refine .iM a l bF I ?_
    rcases R with e|e<;>rw [e]
    exact bj
   | i4 kQ bu =>
    obtain ⟨I,R⟩:=sj _ _ _ _ (hm k) kQ
    rcases R with e|e
    ·exact .i4 I (e.trans bu)
    ·exact .iM _ _ _ I e
   | bd kQ bu aB aY ir =>
    obtain ⟨I,R⟩:=sj _ _ _ _ (hm k) kQ
    rcases R with e|e
    ·exact .bd I (e.trans bu) aB aY ir
    ·exact .iM _ _ _ I e
 | @di r k o dj i off af bJ an b6 xD hle aB h ih =>
  intro v aZ
  have cN:=cd.obj r k o af
  rcases aZ.oV (eE af) with h0|⟨b,m,ag,hval⟩
  ·rw [h0] at cN;exact absurd cN b6
  ·rw [ag] at cN
   have ey:=cN.rd
   rw [hval]
   have f9:dj.flatten.length=o.es.flatten.length:=by rw [lu dj hle,lu o.es ey.1,aB]
   have nG:jC w hJ im hK b 0 o.aa dj:=by
    refine ⟨hle,fun j bx b1=> ?_⟩
    have cf:j<o.es.flatten.length:=by rw [← f9];exact dr b1
    have ab:o.es.flatten[j]? = some o.es.flatten[j]:=List.getElem?_eq_getElem cf
    obtain ⟨u,ar,aE,br⟩:=ey.2 j _ ab
    exact ⟨u,ar,aE,ih j _ bx ab b1 br⟩
   have:=nG.di (i:=i) (off:=off) ⟨uN r k o b m af bJ an ag,xD⟩
   rw [Nat.zero_add] at this
   exact this
 | @a1 r k bD len o dj af bJ an ex xD hle aB h ih =>
  intro v aZ
  have cN:=cd.obj r k o af
  rcases aZ.qM (eE af) with ⟨ag,rfl,rfl,hval⟩|⟨b,m,A,c,ag,hval,ld,l8,hm⟩
  ·have:dj=[]:=List.length_eq_zero_iff.1 aB
   subst this
   rw [hval];exact .dd _ none 0 (fun _=>rfl)
  ·rw [ag] at cN
   rw [hval]
   rcases Nat.eq_zero_or_pos len with h0|gP
   ·subst h0
    have:dj=[]:=List.length_eq_zero_iff.1 aB
    subst this
    exact .dd _ A c (fun bj=>by rcases hm with I|⟨I,-⟩<;>simp_all)
   ·rcases hm with hm|⟨hA,hm⟩
    ·omega
    ·subst hA
     have ey:=sO cN.rd bD len (by omega)
     rw [Nat.zero_add] at ey
     have f9:dj.flatten.length=((o.es.drop bD).take len).flatten.length:=by
      rw [lu dj hle,lu _ ey.1,aB,List.length_take,List.length_drop,Nat.min_eq_left (by omega)]
     have nG:jC w hJ im hK b (bD*o.aa) o.aa dj:=by
      refine ⟨hle,fun j bx b1=> ?_⟩
      have cf:j<((o.es.drop bD).take len).flatten.length:=by rw [← f9];exact dr b1
      have ab:=List.getElem?_eq_getElem cf
      obtain ⟨u,ar,aE,br⟩:=ey.2 j _ ab
      exact ⟨u,ar,aE,ih j _ bx ab b1 br⟩
     have:=nG.a1 (c:=c) ⟨uN r k o b m af bJ an ag,xD⟩ (by omega)
     rw [aB] at this
     exact this
 | @agg c bV aB h ih =>
  intro v aZ
  obtain ⟨vs,rfl,I,R,av⟩:=aZ.qL
  refine .agg vs (by omega) R fun j bx u b1 hu=> ?_
  have cf:j<c.length:=by have:=dr b1;omega
  exact ih j _ bx (List.getElem?_eq_getElem cf) b1 (av j _ u (List.getElem?_eq_getElem cf) hu)
 | @c7 c bV aB h ih =>
  intro v aZ
  obtain ⟨vs,rfl,I,av⟩:=aZ.oU
  refine .c7 vs (by omega) fun j bx u b1 hu=> ?_
  have cf:j<c.length:=by have:=dr b1;omega
  exact ih j _ bx (List.getElem?_eq_getElem cf) b1 (av j _ u (List.getElem?_eq_getElem cf) hu)
 | @fn f c bV aB h ih =>
  intro v aZ
  obtain ⟨vs,rfl,I,av⟩:=aZ.tl
  refine .fn vs (by omega) fun j bx u b1 hu=> ?_
  have cf:j<c.length:=by have:=dr b1;omega
  exact ih j _ bx (List.getElem?_eq_getElem cf) b1 (av j _ u (List.getElem?_eq_getElem cf) hu)
structure jx (s:S) (au:dv) (bg:c3→Bool) (q:aj→Prop) (o bf:ao):Prop where
 aa:bf.aa=o.aa
 bn:bf.bn=o.bn∨(bf.bn = .lb∧o.bn = .live)∨bf.bn = .gone
 len:bf.es.length=o.es.length
 each : ∀e∈bf.es,e.length=o.aa
 at_ : ∀(j:Nat) x bx,o.es.flatten[j]? = some x→bf.es.flatten[j]? = some bx→d1 s au bg q x bx
structure kv (s:S) (au:dv) (bg:c3→Bool) (q:aj→Prop) (d8:Nat→Option (List ao)):Prop where
 inj : ∀j i fD fq p,au j i=some p→au fD fq=some p→j=fD∧i=fq
 at_ : ∀j i bf,bN (d8 j) i=some bf→ ∃r k o,au j i=some (r,k)∧s.ad r k=some o∧jx s au bg q o bf
 az : ∀j i r k,au j i=some (r,k)→s.az r k→i<((d8 j).getD []).length
def fz (ai:cJ)(au:dv):cJ:=fun j i=>match au j i with
 | some (r,k)=>ai r k
 | none=>none
theorem o1 {ai:cJ}{au:dv}{j i r k:Nat}(h:au j i=some (r,k)):fz ai au j i=ai r k:=by simp [fz,h]
def hB (_:aj):Prop:=True
theorem HC:Down hB:=⟨fun _ _ _ _=>trivial,fun _ _ _ _=>trivial,fun _ _ _ _ _=>trivial⟩
section
variable {g:G} {s:S} {ai:cJ} {w:World} {au:dv} {bg:c3→Bool} {q:aj→Prop} {ba:S}
theorem kv.ad (h:kv s au bg q ba.aD){j i:Nat}{bf:ao}(af:ba.ad j i=some bf): ∃r k o,au j i=some (r,k)∧s.ad r k=some o∧jx s au bg q o bf:=h.at_ j i bf af
theorem AD {o bf:ao}(h:jx s au bg q o bf)(aB:bf.bn = .live):o.bn = .live:=by
 rcases h.bn with e|⟨e,-⟩|e
 ·exact e.symm.trans aB
 ·rw [e] at aB;simp at aB
 ·rw [e] at aB;simp at aB
theorem kv.live (h:kv s au bg q ba.aD)(b:Nat)(aB:ba.hs (fz ai au) b): ∃r k o m,s.ad r k=some o∧o.bn = .live∧ai r k=some (b,m)∧ ∃j i,au j i=some (r,k):=by
 obtain ⟨j,i,bf,m,I,R,av⟩:=aB
 obtain ⟨r,k,o,ar,aE,br⟩:=h.ad I
 rw [o1 ar] at av
 exact ⟨r,k,o,m,aE,AD br R,av,j,i,ar⟩
theorem kv.uh (h:kv s au bg q ba.aD){j i r k:Nat}(aC:au j i=some (r,k)):ba.aG (fz ai au) j i=s.aG ai r k∨ba.aG (fz ai au) j i=none:=by
 cases af:ba.ad j i with
 | none=>right;simp [S.aG,af]
 | some bf =>
  obtain ⟨cp,bO,o,ar,aE,br⟩:=h.ad af
  rw [aC] at ar;simp only [Option.some.injEq,Prod.mk.injEq] at ar
  obtain ⟨rfl,rfl⟩:=ar
  left
  rw [eE af,eE aE,br.aa,o1 aC]
theorem ep.yc (cd:ep g s ai w)(h:kv s au bg q ba.aD){cW:G}(a3:rh cW w)(q7:∀j k,cW.jW j k→ba.az j k∧(ba.aG (fz ai au) j k=cW.lc j k∨ba.aG (fz ai au) j k=none))(H5:∀j k,cW.jW j k→j<cW.m)
 (H6 : ∀b,cW.kc b→b<cW.h3.heap.size) (halt : ∀b,cW.A b→b<cW.h3.heap.size)
 (xi : ∀r k o b m,(∃j i,au j i=some (r,k))→s.ad r k=some o→ai r k=some (b,m)→cW.h3.heap.size≤b∨cW.kc b)
 (H1 : ∀b,s.ok g ai w b→ba.ok cW (fz ai au) w b)
 (uN : ∀r k o b m,s.ad r k=some o→bg o.bn=true→(∀j i,au j i≠some (r,k))→ai r k=some (b,m)→ba.ok cW (fz ai au) w b) :
 ep cW ba (fz ai au) w∧ ∀ {x bx:aj} {v:Value},d1 s au bg q x bx→Rel w (s.ok g ai w) s.az (s.aG ai) x v→Rel w (ba.ok cW (fz ai au) w) ba.az (ba.aG (fz ai au)) bx v:=by
 have cN : ∀ {x bx:aj} {v:Value},d1 s au bg q x bx→Rel w (s.ok g ai w) s.az (s.aG ai) x v→Rel w (ba.ok cW (fz ai au) w) ba.az (ba.aG (fz ai au)) bx v :=
  fun bR an=>bR.rel cd (fun x v _ ag an=>an.pure ag H1) uN (fun j i r k aC hu=>⟨h.az j i r k aC hu,h.uh aC⟩) an
 refine ⟨⟨?_,?_,?_,a3,H6,halt,q7,H5⟩,cN⟩
 ·intro j k bf b4
  obtain ⟨r,bO,o,ar,aE,br⟩:=h.ad b4
  have aK:=cd.obj r bO o aE
  rw [o1 ar]
  cases ag:ai r bO with
  | none =>
   rw [ag] at aK
   simp only [fc] at aK ⊢
   apply List.length_eq_zero_iff.1
   rw [br.len,aK];rfl
  | some q =>
   obtain ⟨b,m⟩:=q
   rw [ag] at aK
   obtain ⟨c,cn,I,R,av,aR⟩:=aK
   have f9:bf.es.flatten.length=o.es.flatten.length:=by rw [lu _ br.each,lu _ av,br.len]
   refine ⟨c,cn,I,R,by rw [br.aa];exact br.each,fun i bx b1=> ?_⟩
   have cf:i<o.es.flatten.length:=by rw [← f9];exact dr b1
   have ab:=List.getElem?_eq_getElem cf
   obtain ⟨u,f1,f2,f3⟩:=aR i _ ab
   exact ⟨u,f1,f2,cN (br.at_ i _ bx ab b1) f3⟩
 ·intro j k o fD bO bf b m cE I R av aR
  obtain ⟨r,h6,p,ar,aE,-⟩:=h.ad I
  obtain ⟨cp,IB,gG,iv,j7,-⟩:=h.ad R
  rw [o1 ar] at av
  rw [o1 iv] at aR
  obtain ⟨rfl,rfl⟩:=cd.inj r h6 p cp IB gG b m cE aE j7 av aR
  exact h.inj _ _ _ _ _ ar iv
 ·intro j k o b m I R
  obtain ⟨r,h6,p,ar,aE,-⟩:=h.ad I
  rw [o1 ar] at R
  exact xi r h6 p b m ⟨j,k,ar⟩ aE R
theorem bz.AE {a:Act}(h:bz g s ai a w)(bL:kv s au (fun _=>true) q ba.aD)(cF:∀t,d1 s au (fun _=>true) q (s.E t) (ba.E t))(ru:∀j k,g.jW j k→au j k=some (j,k)):bz g ba (fz ai au) a w:=by
 have jv : ∀b,ba.hs (fz ai au) b→s.hs ai b:=fun b aB=>by
  obtain ⟨r,k,o,m,I,R,av,-⟩:=bL.live b aB
  exact ⟨r,k,o,m,I,R,av⟩
 have q7 : ∀j k,g.jW j k→ba.az j k∧(ba.aG (fz ai au) j k=g.lc j k∨ba.aG (fz ai au) j k=none):=by
  intro j k aC
  obtain ⟨ar,aE⟩:=h.stay j k aC
  refine ⟨bL.az j k j k (ru j k aC) ar,?_⟩
  rcases bL.uh (ai:=ai) (ru j k aC) with e|e
  ·rw [e];exact aE
  ·exact .inr e
 obtain ⟨I,R⟩:=h.toep.yc bL h.ei q7 h.low h.mlt h.iR (fun r k o b m _ af ag=>h.own r k o b m af ag)
  (fun b a4=>⟨a4.1,a4.2.1,fun aB=>a4.2.2 (jv b aB)⟩)
  (fun r k o b m af _ an ag=>by
    have aK:=h.obj r k o af
    rw [ag] at aK
    obtain ⟨c,cn,ar,-⟩:=aK
    refine ⟨(Array.getElem?_eq_some_iff.1 ar).1,?_,fun aB=> ?_⟩
    ·rcases h.own r k o b m af ag with e|e
     ·exact .inr (.inl e)
     ·exact .inr (.inr e)
    ·obtain ⟨cp,bO,bf,cE,f1,f2,f3,⟨yd,ye,f4⟩⟩:=bL.live b aB
     obtain ⟨rfl,rfl⟩:=h.inj r k o cp bO bf b m cE af f1 ag f3
     exact an yd ye f4)
 exact {toep:=I,env:=fun t=>R (cF t) (h.env t),defers:=h.defers,fy:=h.fy}
end
end Go.VL
namespace Go.VL
set_option linter.unusedVariables false
set_option linter.unusedSimpArgs false
open Go
def cA (T:List (List ao)):S:={E:=fun _=> .dead,aD:=fun r=>T[r]?}
def HD (P:Program)(f:FuncId)(args:List aj)(T:List (List ao))(r:aj)(fi:List (List ao)):Prop :=
 ∀(g:G) (ai:cJ) (w:World) (vs:Array Value),g.h3=w→g.m=T.length→g.jW=(cA T).az→g.lc=(cA T).aG ai→ep g (cA T) ai w→vs.size=args.length →
  (∀(j:Nat) x v,args[j]? = some x→vs[j]? = some v→Rel w ((cA T).ok g ai w) (cA T).az ((cA T).aG ai) x v) →
  Calls P f vs w fun e a8=> ∃v a5,e = .returned v∧ep g (cA fi) a5 a8∧Rel a8 ((cA fi).ok g a5 a8) (cA fi).az ((cA fi).aG a5) r v
inductive aT:aj→Prop
 | dead:aT .dead
 | b (x:Bool):aT (.b x)
 | n (k:IntKind) (x:Int):aT (.n k x)
 | s (x:ByteArray):aT (.s x)
 | eU:aT .eU
 | dz:aT .dz
 | eL:aT .eL
 | dd (aa:Nat):aT (.a1 aa [])
 | ref (r k i off:Nat):aT (.ref r k i off)
 | bd (r k bD len:Nat):aT (.bd r k bD len)
 | eM (r c aa:Nat) (h:Option (Nat×Nat)):aT (.eM r c aa h)
 | agg {c:List aj} (h : ∀x∈c,aT x):aT (.agg c)
 | c7 {c:List aj} (h : ∀x∈c,aT x):aT (.c7 c)
theorem HE:Down aT:=⟨fun _ _ h ab=>by cases h with|agg h=>exact h _ ab,fun _ _ h ab=>by cases h with|c7 h=>exact h _ ab,fun _ _ _ h=>by cases h⟩
theorem Rel.cj {w a8:World}{ok hJ:Nat→Prop}{az im:e8}{aG hK:eX}{x:aj}(bR:aT x): ∀ {v:Value},Pure x→Rel w ok az aG x v→Rel a8 hJ im hK x v:=by
 induction bR with
 | dead=>intro v _ h;exact .dead v
 | b x=>intro v _ h;rw [h.mC];exact .b x
 | n k x=>intro v _ h;rw [h.j4];exact .n k x
 | s x=>intro v _ h;rw [h.o4];exact .s x
 | eU=>intro v _ h;rw [h.np];exact .eU
 | dz=>intro v _ h;rw [h.kg];exact .dz
 | eL=>intro v _ h;obtain ⟨a,c,rfl⟩:=h.td;exact .eL a c
 | dd aa =>
  intro v _ h
  rcases h.lU with ⟨-,a,c,rfl,bJ⟩|⟨b7,off,c,-,rfl,-⟩
  ·exact .dd aa a c bJ
  ·exact .dd aa _ c (fun h=>by simp at h)
 | ref=>intro v ag;cases ag
 | bd=>intro v ag;cases ag
 | eM=>intro v ag;cases ag
 | @agg c aY ih =>
  intro v ag h
  obtain ⟨vs,rfl,I,R,av⟩:=h.qL
  cases ag with
  | agg ag=>exact .agg vs I R fun j x u ab hu=>ih x (List.mem_of_getElem? ab) (ag x (List.mem_of_getElem? ab)) (av j x u ab hu)
 | @c7 c aY ih =>
  intro v ag h
  obtain ⟨vs,rfl,I,av⟩:=h.oU
  cases ag with
  | c7 ag=>exact .c7 vs I fun j x u ab hu=>ih x (List.mem_of_getElem? ab) (ag x (List.mem_of_getElem? ab)) (av j x u ab hu)
section
variable {P:Program} {g:G} {s:S} {ai:cJ} {a:Act} {w:World}
theorem qW (h:ep g s ai w){r k b m:Nat}{o:ao}(af:s.ad r k=some o)(ag:ai r k=some (b,m)):b<w.heap.size:=by
 have:=h.obj r k o af
 rw [ag] at this
 obtain ⟨c,cn,e,-⟩:=this
 exact (Array.getElem?_eq_some_iff.1 e).1
theorem Hc (h:ep g s ai w){r k b m:Nat}{o:ao}(af:s.ad r k=some o)(a3:o.bn = .lb)(ag:ai r k=some (b,m)):s.ok g ai w b:=by
 refine ⟨qW h af ag,?_,?_⟩
 ·rcases h.own r k o b m af ag with e|e
  ·exact .inr (.inl e)
  ·exact .inr (.inr e)
 ·rintro ⟨cp,bO,bf,cE,I,R,av⟩
  obtain ⟨rfl,rfl⟩:=h.inj r k o cp bO bf b m cE af I ag av
  rw [af] at I;simp at I;subst I;rw [a3] at R;simp at R
theorem enter (h:ep g s ai w){au:dv}{bg:c3→Bool}{q:aj→Prop}{T:List (List ao)}(A:Nat→Prop)
 (hA : ∀b,A b→b<w.heap.size) (xE : ∀b,s.ok g ai w b→A b)
 (xF : ∀r k o b m,s.ad r k=some o→bg o.bn=true→ai r k=some (b,m)→A b)
 (bL:kv s au bg q (cA T).aD) (kl : ∀r k o,(∃j i,au j i=some (r,k))→s.ad r k=some o→o.bn = .live) :
 ∃cW:G,cW.h3=w∧cW.A=A∧cW.m=T.length∧cW.jW=(cA T).az∧cW.lc=(cA T).aG (fz ai au) ∧
  (cW.kc=fun b=> ∃r k o m,(∃j i,au j i=some (r,k))∧s.ad r k=some o∧ai r k=some (b,m))∧ep cW (cA T) (fz ai au) w ∧
  ∀ {x bx:aj} {v:Value},d1 s au bg q x bx→Rel w (s.ok g ai w) s.az (s.aG ai) x v→Rel w ((cA T).ok cW (fz ai au) w) (cA T).az ((cA T).aG (fz ai au)) bx v:=by
 let cW:G:={h3:=w,A:=A,kc:=fun b=> ∃r k o m,(∃j i,au j i=some (r,k))∧s.ad r k=some o∧ai r k=some (b,m),N:=0,m:=T.length,jW:=(cA T).az,lc:=(cA T).aG (fz ai au)}
 refine ⟨cW,rfl,rfl,rfl,rfl,rfl,rfl,?_⟩
 have jv : ∀b,(cA T).hs (fz ai au) b→ ∃r k o m,s.ad r k=some o∧o.bn = .live∧ai r k=some (b,m)∧ ∃j i,au j i=some (r,k):=fun b aB=>bL.live b aB
 refine ep.yc (ba:=cA T) (cW:=cW) h bL ⟨rfl,rfl,rfl,Nat.le_refl _,fun _ _ _=>rfl⟩ (fun j k aC=>⟨aC,.inl rfl⟩) ?_ ?_ hA ?_ ?_ ?_
 ·intro j k aC
  have aC:k<((T[j]?).getD []).length:=aC
  rcases Nat.lt_or_ge j T.length with I|I
  ·exact I
  ·rw [List.getElem?_eq_none I] at aC;simp at aC
 ·rintro b ⟨r,k,o,m,-,af,ag⟩
  exact qW h af ag
 ·intro r k o b m hm af ag
  exact .inr ⟨r,k,o,m,hm,af,ag⟩
 ·intro b a4
  refine ⟨a4.1,.inl (xE b a4),fun aB=> ?_⟩
  obtain ⟨r,k,o,m,I,R,av,-⟩:=jv b aB
  exact a4.2.2 ⟨r,k,o,m,I,R,av⟩
 ·intro r k o b m af bJ an ag
  refine ⟨qW h af ag,.inl (xF r k o b m af bJ ag),fun aB=> ?_⟩
  obtain ⟨cp,bO,bf,cE,I,R,av,⟨j,i,aC⟩⟩:=jv b aB
  obtain ⟨rfl,rfl⟩:=h.inj r k o cp bO bf b m cE af I ag av
  exact an j i aC
theorem leave (h:bz g s ai a w){a8:World}{au gB:dv}{bg:c3→Bool}{q0 q:aj→Prop}{cW:G}{T bW:List (List ao)}{gI:cJ}
 (cS:cW.h3=w) (hA:(∀b,cW.A b→s.ok g ai w b)∨(∀x,q x→aT x)) (pq:cW.jW=(cA T).az) (gY:cW.lc=(cA T).aG (fz ai au))
 (cd:cW.kc=fun b=> ∃r k o m,(∃j i,au j i=some (r,k))∧s.ad r k=some o∧ai r k=some (b,m))
 (kl : ∀r k o,(∃j i,au j i=some (r,k))→s.ad r k=some o→o.bn = .live)
 (bL:kv s au bg q0 (cA T).aD) (I:ep cW (cA bW) gI a8)
 (q8 : ∀j i r k,au j i=some (r,k)→gB r k=some (j,i)) (tM : ∀r k j i,gB r k=some (j,i)→au j i=some (r,k)∨ ¬s.az r k)
 (H7 : ∀r k cp bO p,gB r k=some p→gB cp bO=some p→r=cp∧k=bO)
 {s2:S} (cF:s2.E=s.E)
 (aK : ∀r k o,s2.ad r k=some o→(∃j i p,gB r k=some (j,i)∧(cA bW).ad j i=some p∧jx (cA bW) gB (fun _=>false) q p o)∨(gB r k=none∧s.ad r k=some o))
 (ff : ∀r k,s.az r k→s2.az r k) (H8 : ∀r k j i,gB r k=some (j,i)→(cA bW).az j i→s2.az r k)
 {x bx:aj} {v:Value} (ab:d1 (cA bW) gB (fun _=>false) q x bx) (aZ:Rel a8 ((cA bW).ok cW gI a8) (cA bW).az ((cA bW).aG gI) x v) :
 ∃g7,bz g s2 g7 a a8∧Rel a8 (s2.ok g g7 a8) s2.az (s2.aG g7) bx v:=by
 let g7:cJ:=fun r k=>match gB r k with|some (j,i)=>gI j i|none=>ai r k
 have eG : ∀r k j i,gB r k=some (j,i)→g7 r k=gI j i:=fun r k j i e=>by simp [g7,e]
 have eA : ∀r k,gB r k=none→g7 r k=ai r k:=fun r k e=>by simp [g7,e]
 have a3:=I.ei
 have cx:w.heap.size≤a8.heap.size:=by have:=a3.size;rw [cS] at this;exact this
 have l6 : ∀b,b<w.heap.size→ ¬cW.kc b→a8.heap[b]? = w.heap[b]? := fun b a4 gZ=>by
  have:=a3.block b (by rw [cS];exact a4) gZ
  rw [cS] at this;exact this
 have ui : ∀j k p b m,(cA bW).ad j k=some p→gI j k=some (b,m)→w.heap.size≤b∨ ∃r bO o cE,(∃j i,au j i=some (r,bO))∧s.ad r bO=some o∧ai r bO=some (b,cE):=by
  intro j k p b m ag a4
  rcases I.own j k p b m ag a4 with e|e
  ·rw [cS] at e;exact .inl e
  ·rw [cd] at e;exact .inr e
 have hold : ∀q k o b m,gB q k=none→s.ad q k=some o→ai q k=some (b,m)→b<w.heap.size∧ ¬cW.kc b:=by
  intro q k o b m aL af ag
  refine ⟨qW h.toep af ag,fun gZ=> ?_⟩
  rw [cd] at gZ
  obtain ⟨r,bO,bf,cE,⟨j,i,an⟩,b4,jg⟩:=gZ
  obtain ⟨rfl,rfl⟩:=h.inj q k o r bO bf b m cE af b4 ag jg
  rw [q8 _ _ _ _ an] at aL;simp at aL
 have A3 : ∀b,s2.hs g7 b→(cA bW).hs gI b∨(∃q k o m,gB q k=none∧s.ad q k=some o∧o.bn = .live∧ai q k=some (b,m)):=by
  rintro b ⟨q,k,o,m,af,jf,ag⟩
  rcases aK q k o af with ⟨j,i,p,ar,aE,br⟩|⟨ar,aE⟩
  ·rw [eG _ _ _ _ ar] at ag
   exact .inl ⟨j,i,p,m,aE,AD br jf,ag⟩
  ·rw [eA _ _ ar] at ag
   exact .inr ⟨q,k,o,m,ar,aE,jf,ag⟩
 have jc : ∀b,s.ok g ai w b→s2.ok g g7 a8 b:=by
  intro b a4
  refine ⟨Nat.lt_of_lt_of_le a4.1 cx,a4.2.1,fun aB=> ?_⟩
  rcases A3 b aB with ⟨j,k,p,m,ar,aE,br⟩|⟨q,k,o,m,ar,aE,br,de⟩
  ·rcases ui j k p b m ar br with e|⟨r,bO,o,cE,an,af,ag⟩
   ·have:=a4.1;omega
   ·exact a4.2.2 ⟨r,bO,o,cE,af,kl r bO o an af,ag⟩
  ·exact a4.2.2 ⟨q,k,o,m,aE,br,de⟩
 have BD : ∀r k,s.az r k→s2.aG g7 r k=s.aG ai r k∨s2.aG g7 r k=none:=by
  intro r k an
  cases af:s2.ad r k with
  | none=>right;simp [S.aG,af]
  | some o =>
   left
   rcases aK r k o af with ⟨j,i,p,ar,aE,br⟩|⟨ar,aE⟩
   ·rcases tM r k j i ar with aC|aC
    ·have hL:=(I.stay j i (by rw [pq];exact bL.az _ _ _ _ aC an)).2
     rw [gY,eE aE] at hL
     have hL:some (p.aa,gI j i)=(cA T).aG (fz ai au) j i:=by
      rcases hL with e|e
      ·exact e
      ·simp at e
     have:=bL.uh (ba:=cA T) (ai:=ai) aC
     rw [← hL] at this
     rw [eE af,br.aa,eG _ _ _ _ ar]
     rcases this with e|e
     ·exact e
     ·simp at e
    ·exact absurd an aC
   ·rw [eE af,eE aE,eA _ _ ar]
 have HF : ∀b,s.ok g ai w b→a8.heap[b]? = w.heap[b]? := by
  intro b a4
  refine l6 b a4.1 fun gZ=> ?_
  rw [cd] at gZ
  obtain ⟨r,bO,o,cE,an,af,ag⟩:=gZ
  exact a4.2.2 ⟨r,bO,o,cE,af,kl r bO o an af,ag⟩
 have cN : ∀ {y:aj} {u:Value},Rel w (s.ok g ai w) s.az (s.aG ai) y u→Rel a8 (s2.ok g g7 a8) s2.az (s2.aG g7) y u :=
  fun an=>an.mono jc HF ff BD
 have H9:(∀b,cW.A b→s.ok g ai w b)→ ∀b,(cA bW).ok cW gI a8 b→s2.ok g g7 a8 b:=by
  intro hA b a4
  have xi:g.A b∨g.h3.heap.size≤b∨g.kc b:=by
   rcases a4.2.1 with e|e|e
   ·exact (hA b e).2.1
   ·rw [cS] at e;exact .inr (.inl (Nat.le_trans h.ei.size e))
   ·rw [cd] at e
    obtain ⟨r,k,o,m,-,af,ag⟩:=e
    rcases h.own r k o b m af ag with e|e
    ·exact .inr (.inl e)
    ·exact .inr (.inr e)
  refine ⟨a4.1,xi,fun aB=> ?_⟩
  rcases A3 b aB with e|⟨q,k,o,m,ar,aE,br,de⟩
  ·exact a4.2.2 e
  ·have aL:=hold q k o b m ar aE de
   rcases a4.2.1 with e|e|e
   ·exact (hA b e).2.2 ⟨q,k,o,m,aE,br,de⟩
   ·rw [cS] at e;omega
   ·exact aL.2 e
 have Bi : ∀ {y h5:aj} {u:Value},d1 (cA bW) gB (fun _=>false) q y h5→Rel a8 ((cA bW).ok cW gI a8) (cA bW).az ((cA bW).aG gI) y u→Rel a8 (s2.ok g g7 a8) s2.az (s2.aG g7) h5 u:=by
  intro y h5 u bR an
  refine bR.rel I (fun x v aL ag an=> ?_) (fun _ _ _ _ _ _ bJ _ _=>by simp at bJ) ?_ an
  ·rcases hA with hA|hA
   ·exact an.pure ag (H9 hA)
   ·exact an.cj (hA x aL) ag
  ·intro r k j i aL aC
   refine ⟨H8 r k j i aL aC,?_⟩
   cases af:s2.ad r k with
   | none=>right;simp [S.aG,af]
   | some o =>
    left
    rcases aK r k o af with ⟨fD,fq,p,ar,aE,br⟩|⟨ar,-⟩
    ·rw [aL] at ar;simp only [Option.some.injEq,Prod.mk.injEq] at ar
     obtain ⟨rfl,rfl⟩:=ar
     rw [eE af,eE aE,br.aa,eG _ _ _ _ aL]
    ·rw [aL] at ar;simp at ar
 refine ⟨g7,{toep:=⟨?_,?_,?_,?_,h.mlt,h.iR,?_,h.low⟩,env:=fun t=>by rw [cF];exact cN (h.env t),defers:=h.defers,fy:=h.fy},Bi ab aZ⟩
 ·intro q k o af
  rcases aK q k o af with ⟨j,i,p,ar,aE,br⟩|⟨ar,aE⟩
  ·have ag:=I.obj j i p aE
   rw [eG _ _ _ _ ar]
   cases gi:gI j i with
   | none =>
    rw [gi] at ag
    simp only [fc] at ag ⊢
    apply List.length_eq_zero_iff.1
    rw [br.len,ag];rfl
   | some mh =>
    obtain ⟨b,m⟩:=mh
    rw [gi] at ag
    obtain ⟨c,cn,f1,f2,f3,f4⟩:=ag
    have f9:o.es.flatten.length=p.es.flatten.length:=by rw [lu _ br.each,lu _ f3,br.len]
    refine ⟨c,cn,f1,f2,by rw [br.aa];exact br.each,fun i bx b1=> ?_⟩
    have cf:i<p.es.flatten.length:=by rw [← f9];exact dr b1
    have uj:=List.getElem?_eq_getElem cf
    obtain ⟨u,h9,kE,gk⟩:=f4 i _ uj
    exact ⟨u,h9,kE,Bi (br.at_ i _ bx uj b1) gk⟩
  ·have ag:=h.obj q k o aE
   rw [eA _ _ ar]
   cases gi:ai q k with
   | none=>rw [gi] at ag;exact ag
   | some mh =>
    obtain ⟨b,m⟩:=mh
    rw [gi] at ag
    obtain ⟨c,cn,f1,f2,f3,f4⟩:=ag
    obtain ⟨xA,IC⟩:=hold q k o b m ar aE gi
    refine ⟨c,cn,(l6 b xA IC).trans f1,f2,f3,fun i bx b1=> ?_⟩
    obtain ⟨u,h9,kE,gk⟩:=f4 i bx b1
    exact ⟨u,h9,kE,cN gk⟩
 ·intro q k o dZ bO bf b m cE R av aR bC
  rcases aK q k o R with ⟨j,i,p,ar,aE,br⟩|⟨ar,aE⟩<;>rcases aK dZ bO bf av with ⟨fD,fq,gG,iv,j7,rM⟩|⟨iv,j7⟩
  ·rw [eG _ _ _ _ ar] at aR;rw [eG _ _ _ _ iv] at bC
   obtain ⟨rfl,rfl⟩:=I.inj j i p fD fq gG b m cE aE j7 aR bC
   exact H7 _ _ _ _ _ ar iv
  ·rw [eG _ _ _ _ ar] at aR;rw [eA _ _ iv] at bC
   obtain ⟨f1,f2⟩:=hold dZ bO bf b cE iv j7 bC
   rcases ui j i p b m aE aR with e|e
   ·omega
   ·exact absurd (by rw [cd];exact e) f2
  ·rw [eA _ _ ar] at aR;rw [eG _ _ _ _ iv] at bC
   obtain ⟨f1,f2⟩:=hold q k o b m ar aE aR
   rcases ui fD fq gG b cE j7 bC with e|e
   ·omega
   ·exact absurd (by rw [cd];exact e) f2
  ·rw [eA _ _ ar] at aR;rw [eA _ _ iv] at bC
   exact h.inj q k o dZ bO bf b m cE aE j7 aR bC
 ·intro q k o b m R aR
  rcases aK q k o R with ⟨j,i,p,ar,aE,br⟩|⟨ar,aE⟩
  ·rw [eG _ _ _ _ ar] at aR
   rcases ui j i p b m aE aR with e|⟨r,bO,bf,cE,an,af,ag⟩
   ·exact .inl (Nat.le_trans h.ei.size e)
   ·exact h.own r bO bf b cE af ag
  ·rw [eA _ _ ar] at aR;exact h.own q k o b m aE aR
 ·have ar:=a3.os;have aE:=a3.tape;have br:=a3.output
  rw [cS] at ar aE br
  refine h.ei.step ar aE br cx fun b a4 nQ=>l6 b (Nat.lt_of_lt_of_le a4 h.ei.size) fun gZ=> ?_
  rw [cd] at gZ
  obtain ⟨r,k,o,m,-,af,ag⟩:=gZ
  rcases h.own r k o b m af ag with e|e
  ·omega
  ·exact nQ e
 ·intro j k aC
  obtain ⟨ar,aE⟩:=h.stay j k aC
  refine ⟨ff j k ar,?_⟩
  rcases BD j k ar with e|e
  ·rw [e];exact aE
  ·exact .inr e
def gx (a b n:Nat):aj→aj
 | .ref r k i off=>if r=a then .ref b (n+k) i off else .ref r k i off
 | .bd r k bD len=>if r=a then .bd b (n+k) bD len else .bd r k bD len
 | .eM r c aa h=>if r=a then .eM b (n+c) aa h else .eM r c aa h
 | .agg c=> .agg (pr c)
 | .c7 c=> .c7 (pr c)
 | x=>x
where pr:List aj→List aj
 | []=>[]
 | x::l=>gx a b n x::pr l
def hN (a b n:Nat)(o:ao):ao:={o with es:=o.es.map fun e=>e.map (gx a b n)}
def k6 (o:ao):ao:=⟨0,[],.gone⟩
theorem tm (a b n:Nat): ∀l:List aj,gx.pr a b n l=l.map (gx a b n)
 | []=>rfl
 | x::l=>by rw [gx.pr,tm a b n l];rfl
theorem gh (l:List ao)(k:Nat):bN (some l) k=(l[k]?).bind fun o=>if o.bn = .gone then none else some o:=by
 unfold bN
 cases h:l[k]? <;> simp [h]
theorem map_flatten {es:List (List aj)}(f:aj→aj):(es.map fun e=>e.map f).flatten=es.flatten.map f:=by
 induction es with
 | nil=>rfl
 | cons e es ih=>rw [List.map_cons,List.flatten_cons,List.flatten_cons,List.map_append,ih]
theorem bz.merge (h:bz g s ai a w){r cp:Nat}{l cQ:List ao}(an:s.aD r=some l)(dV:s.aD cp=some cQ)(b6:cp≠r):
 ∃a5,bz g ((s.setRow cp (cQ.map k6)).setRow r (l++cQ.map (hN cp r l.length))) a5 a w ∧
  ∀x v,Rel w (s.ok g ai w) s.az (s.aG ai) x v→Rel w (((s.setRow cp (cQ.map k6)).setRow r (l++cQ.map (hN cp r l.length))).ok g a5 w)
   ((s.setRow cp (cQ.map k6)).setRow r (l++cQ.map (hN cp r l.length))).az (((s.setRow cp (cQ.map k6)).setRow r (l++cQ.map (hN cp r l.length))).aG a5) (gx cp r l.length x) v:=by
 generalize rQ:(s.setRow cp (cQ.map k6)).setRow r (l++cQ.map (hN cp r l.length))=s2
 let a5:cJ:=fun q k=>if q=r∧l.length≤k then ai cp (k-l.length) else ai q k
 have aK : ∀q k o,s2.ad q k=some o→(q=r∧l.length≤k∧ ∃p,s.ad cp (k-l.length)=some p∧o=hN cp r l.length p∧a5 q k=ai cp (k-l.length)) ∨
  (q≠cp∧s.ad q k=some o∧a5 q k=ai q k∧ ¬(q=r∧l.length≤k)):=by
  intro q k o af
  subst rQ
  rw [ha] at af
  by_cases e:q=r
  ·subst e
   rw [if_pos rfl] at af
   by_cases a3:l.length≤k
   ·left
    refine ⟨rfl,a3,?_⟩
    rw [gh,List.getElem?_append_right a3,List.getElem?_map] at af
    cases ag:cQ[k-l.length]? with
    | none=>rw [ag] at af;simp at af
    | some p =>
     rw [ag] at af
     simp only [Option.map_some,Option.bind_some] at af
     split at af
     ·simp at af
     ·rename_i cS
      simp only [Option.some.injEq] at af
      refine ⟨p,?_,af.symm,by simp [a5,a3]⟩
      unfold S.ad
      rw [dV,gh,ag,Option.bind_some,if_neg (by simpa [hN] using cS)]
   ·right
    refine ⟨Ne.symm b6,?_,by simp [a5,a3],fun cV=>a3 cV.2⟩
    unfold S.ad
    rw [an,gh]
    rw [gh,List.getElem?_append_left (by omega)] at af
    exact af
  ·rw [if_neg e,ha] at af
   by_cases aE:q=cp
   ·subst aE
    rw [if_pos rfl,gh,List.getElem?_map] at af
    cases ag:cQ[k]? with
    | none=>rw [ag] at af;simp at af
    | some p=>rw [ag] at af;simp [k6] at af
   ·rw [if_neg aE] at af
    exact .inr ⟨aE,af,by simp [a5,e],fun cV=>e cV.1⟩
 have ff : ∀q k,s.az q k→s2.az q k:=by
  intro q k aL
  subst rQ
  rw [iL]
  by_cases e:q=r
  ·subst e;rw [if_pos rfl];simp [S.az,an] at aL;simp;omega
  ·rw [if_neg e,iL]
   by_cases aE:q=cp
   ·subst aE;rw [if_pos rfl];simpa [S.az,dV] using aL
   ·rw [if_neg aE];exact aL
 have rv : ∀k,s.az cp k→s2.az r (l.length+k):=by
  intro k aL
  subst rQ
  rw [iL,if_pos rfl]
  simp [S.az,dV] at aL
  simp;omega
 have ry : ∀k,s2.aG a5 r (l.length+k)=s.aG ai cp k:=by
  intro k
  subst rQ
  simp only [S.aG]
  rw [ha,if_pos rfl]
  unfold S.ad
  rw [dV,gh,gh,List.getElem?_append_right (by omega),List.getElem?_map,show l.length+k-l.length=k by omega]
  cases ag:cQ[k]? with
  | none=>simp
  | some p =>
   simp only [Option.map_some,Option.bind_some]
   by_cases cS:p.bn = .gone
   ·rw [if_pos cS,if_pos (by simpa [hN] using cS)];rfl
   ·rw [if_neg cS,if_neg (by simpa [hN] using cS)]
    simp [a5,hN]
 have gY : ∀q k,s.az q k→s2.aG a5 q k=s.aG ai q k∨s2.aG a5 q k=none:=by
  intro q k aL
  cases af:s2.ad q k with
  | none=>right;simp [S.aG,af]
  | some o =>
   left
   rcases aK q k o af with ⟨rfl,aE,-⟩|⟨-,aE,br,-⟩
   ·simp [S.az,an] at aL;omega
   ·rw [eE af,eE aE,br]
 have kl : ∀b,s2.hs a5 b→s.hs ai b:=by
  rintro b ⟨q,k,o,m,I,R,av⟩
  rcases aK q k o I with ⟨-,-,p,ar,aE,br⟩|⟨-,ar,aE,-⟩
  ·rw [br] at av;subst aE;exact ⟨cp,_,p,m,ar,R,av⟩
  ·rw [aE] at av;exact ⟨q,k,o,m,ar,R,av⟩
 have b9:Step g s ai w s2 a5 w:=⟨ff,gY,fun b aB=> .inl (kl b aB),fun _ _ _=>rfl,Nat.le_refl _⟩
 have rR : ∀x v,Rel w (s.ok g ai w) s.az (s.aG ai) x v→Rel w (s2.ok g a5 w) s2.az (s2.aG a5) (gx cp r l.length x) v:=by
  intro x v kw
  induction kw with
  | dead v=>exact .dead v
  | b x=>exact .b x
  | n k x=>exact .n k x
  | s x=>exact .s x
  | eU=>exact .eU
  | dz=>exact .dz
  | eL a c=>exact .eL a c
  | @ki aQ k i off a hu cV =>
   unfold gx
   split
   ·rename_i e;subst e
    exact .ki a (rv k hu) (by rw [ry];exact cV)
   ·exact b9.rel (.ki a hu cV)
  | @ref aQ k i off aa b7 m hu cV =>
   unfold gx
   split
   ·rename_i e;subst e
    exact .ref (rv k hu) (by rw [ry];exact cV)
   ·exact b9.rel (.ref hu cV)
  | @iM aQ k bD len a bF eI hu cV =>
   unfold gx
   split
   ·rename_i e;subst e
    exact .iM a bF eI (rv k hu) (by rw [ry];exact cV)
   ·exact b9.rel (.iM a bF eI hu cV)
  | @i4 aQ k aa hu cV =>
   unfold gx
   split
   ·rename_i e;subst e
    exact .i4 (rv k hu) (by rw [ry];exact cV)
   ·exact b9.rel (.i4 hu cV)
  | @bd aQ k bD len aa b7 m c a hu cV aB aY ir =>
   unfold gx
   split
   ·rename_i e;subst e
    exact .bd (rv k hu) (by rw [ry];exact cV) aB aY ir
   ·exact b9.rel (.bd hu cV aB aY ir)
  | @ig aQ c aa v h0 ih =>
   unfold gx
   split
   ·exact .ig (b9.rel h0)
   ·exact b9.rel (.ig h0)
  | @i9 aQ c aa k n v h0 ih =>
   unfold gx
   split
   ·rename_i e;subst e
    unfold gx at ih
    rw [if_pos rfl] at ih
    exact .i9 (by rw [show k+(l.length+c)=l.length+(k+c) by omega];exact ih)
   ·exact b9.rel (.i9 h0)
  | dd aa a c h=>exact .dd aa a c h
  | a1 b5 a4 ag aB aY hw eW kw ih=>exact b9.rel (.a1 b5 a4 ag aB aY hw eW kw)
  | di b5 a4 ag aB hw eW kw ih=>exact b9.rel (.di b5 a4 ag aB hw eW kw)
  | j5 aa=>exact .j5 aa
  | jQ h0 ih=>exact b9.rel (.jQ h0)
  | agg vs aB eW kw ih =>
   unfold gx
   rw [tm]
   refine .agg vs (by simpa using aB) eW fun j x v ab aZ=> ?_
   rw [List.getElem?_map,Option.map_eq_some_iff] at ab
   obtain ⟨y,aS,rfl⟩:=ab
   exact ih j y v aS aZ
  | c7 vs aB kw ih =>
   unfold gx
   rw [tm]
   refine .c7 vs (by simpa using aB) fun j x v ab aZ=> ?_
   rw [List.getElem?_map,Option.map_eq_some_iff] at ab
   obtain ⟨y,aS,rfl⟩:=ab
   exact ih j y v aS aZ
  | fn vs aB kw ih=>exact b9.rel (.fn vs aB kw)
 refine ⟨a5,{toep:=⟨?_,?_,?_,h.ei,h.mlt,h.iR,?_,h.low⟩,env:=fun t=>by rw [show s2.E=s.E by rw [← rQ];rfl];exact b9.rel (h.env t),defers:=h.defers,fy:=h.fy},rR⟩
 ·intro q k o af
  rcases aK q k o af with ⟨-,-,p,ar,aE,br⟩|⟨-,ar,aE,-⟩
  ·rw [br]
   subst aE
   have ag:=h.obj cp _ p ar
   cases gi:ai cp (k-l.length) with
   | none=>rw [gi] at ag;simp only [fc] at ag ⊢;simp [hN,ag]
   | some mh =>
    obtain ⟨b,m⟩:=mh
    rw [gi] at ag
    obtain ⟨c,cn,f1,f2,f3,f4⟩:=ag
    refine ⟨c,cn,f1,f2,?_,fun j x ab=> ?_⟩
    ·intro e he
     simp only [hN,List.mem_map] at he
     obtain ⟨cB,hy,rfl⟩:=he
     simpa [hN] using f3 cB hy
    ·simp only [hN] at ab
     rw [map_flatten,List.getElem?_map,Option.map_eq_some_iff] at ab
     obtain ⟨y,aS,rfl⟩:=ab
     obtain ⟨u,h9,kE,gk⟩:=f4 j y aS
     exact ⟨u,h9,kE,rR y u gk⟩
  ·rw [aE]
   exact b9.obj (fun b m _=>rfl) (h.obj q k o ar)
 ·intro q k o cq h6 aP b m cE I R av aR
  rcases aK q k o I with ⟨rfl,f1,p,ar,aE,br⟩|⟨f1,ar,aE,f2⟩<;>rcases aK cq h6 aP R with ⟨rfl,ps,gG,iv,j7,rM⟩|⟨ps,iv,j7,K2⟩
  ·rw [br] at av;rw [rM] at aR
   obtain ⟨-,e⟩:=h.inj _ _ _ _ _ _ b m cE ar iv av aR
   exact ⟨rfl,by omega⟩
  ·rw [br] at av;rw [j7] at aR
   obtain ⟨e,-⟩:=h.inj _ _ _ _ _ _ b m cE ar iv av aR
   exact absurd e.symm ps
  ·rw [aE] at av;rw [rM] at aR
   obtain ⟨e,-⟩:=h.inj _ _ _ _ _ _ b m cE ar iv av aR
   exact absurd e f1
  ·rw [aE] at av;rw [j7] at aR
   exact h.inj _ _ _ _ _ _ b m cE ar iv av aR
 ·intro q k o b m I R
  rcases aK q k o I with ⟨-,-,p,ar,aE,br⟩|⟨-,ar,aE,-⟩
  ·rw [br] at R;exact h.own cp _ p b m ar R
  ·rw [aE] at R;exact h.own q k o b m ar R
 ·exact b9.stay h.stay
end
end Go.VL
namespace Go.VL
set_option linter.unusedVariables false
set_option linter.unusedSimpArgs false
open Go
def aj.fb:aj→Bool
 | .dead | .b _ | .n .. | .s _ | .eU | .dz | .eL | .a1 .. | .di .. | .er .. => true
 | _=>false
def aj.qX:aj→Bool
 | .agg c=>c.all aj.fb
 | .fn _ c=>c.all aj.fb
 | x=>x.fb
def aj.Bj:aj→Bool
 | .c7 c=>c.all aj.qX
 | x=>x.qX
section
variable {w:World} {ok:Nat→Prop} {az:e8} {aG:eX}
theorem Rel.o5 {x:aj}{v:Value}(h:Rel w ok az aG x v)(bj:x.fb=true):Pure x:=by
 cases h with
 | dead=>exact .dead
 | b=>exact .b _
 | n=>exact .n _ _
 | s=>exact .s _
 | eU=>exact .eU
 | dz=>exact .dz
 | eL=>exact .eL
 | dd=>exact .a1 (by simp)
 | a1 b5 a4 ag=>exact .a1 ag
 | di b5 a4 ag=>exact .di ag
 | j5 aa=>exact .j5 aa
 | jQ h=>cases h with|di b5 a4 ag=>exact .jQ fun x ab=>ag _ (List.mem_singleton.2 rfl) x ab
 | _=>simp [aj.fb] at bj
theorem zA {c:List aj}{vs:List Value}(aB:vs.length=c.length)(an:∀(j:Nat) x u,c[j]? = some x→vs[j]? = some u→Rel w ok az aG x u)
 (bj:c.all aj.fb=true) : ∀x∈c,Pure x:=by
 intro x ab
 obtain ⟨j,aC⟩:=List.getElem?_of_mem ab
 have cf:j<vs.length:=by have:=dr aC;omega
 exact (an j x _ aC (List.getElem?_eq_getElem cf)).o5 (List.all_eq_true.1 bj x ab)
theorem Rel.tA {x:aj}{v:Value}(h:Rel w ok az aG x v)(bj:x.qX=true):Pure x:=by
 cases h with
 | agg vs aB aY an=>exact .agg (zA aB an bj)
 | fn vs aB an=>exact .fn (zA aB an bj)
 | dead=>exact .dead
 | b=>exact .b _
 | n=>exact .n _ _
 | s=>exact .s _
 | eU=>exact .eU
 | dz=>exact .dz
 | eL=>exact .eL
 | dd=>exact .a1 (by simp)
 | a1 b5 a4 ag=>exact .a1 ag
 | di b5 a4 ag=>exact .di ag
 | j5 aa=>exact .j5 aa
 | jQ h=>cases h with|di b5 a4 ag=>exact .jQ fun x ab=>ag _ (List.mem_singleton.2 rfl) x ab
 | _=>simp [aj.qX,aj.fb] at bj
theorem Rel.HG {x:aj}{v:Value}(h:Rel w ok az aG x v)(bj:x.Bj=true):Pure x:=by
 by_cases bu : ∃c,x = .c7 c
 ·obtain ⟨c,rfl⟩:=bu
  obtain ⟨vs,rfl,aB,an⟩:=h.oU
  refine .c7 fun x ab=> ?_
  obtain ⟨j,aC⟩:=List.getElem?_of_mem ab
  have cf:j<vs.length:=by have:=dr aC;omega
  exact (an j x _ aC (List.getElem?_eq_getElem cf)).tA (List.all_eq_true.1 bj x ab)
 ·refine h.tA ?_
  cases x<;>first|exact bj|exact absurd ⟨_,rfl⟩ bu
end
def da:List Nat→Nat→Option Nat
 | [],_=>none
 | x::l,r=>if x=r then some 0 else (da l r).map (· + 1)
theorem zB : ∀ {l:List Nat} {r j:Nat},da l r=some j→l[j]? = some r
 | x::l,r,j,h=>by
  unfold da at h
  split at h
  ·simp at h;subst h;simp [*]
  ·rw [Option.map_eq_some_iff] at h
   obtain ⟨i,aA,rfl⟩:=h
   simpa using zB aA
theorem zC : ∀ {l:List Nat} {r j:Nat},l.Nodup→l[j]? = some r→da l r=some j
 | x::l,r,j,bj,h=>by
  rw [List.nodup_cons] at bj
  unfold da
  cases j with
  | zero=>simp at h;simp [h]
  | succ j =>
   simp at h
   have:x≠r:=by rintro rfl;exact bj.1 (List.mem_of_getElem? h)
   rw [if_neg this,zC bj.2 h];rfl
def rS (bS:Nat)(fp:List ao)(bg:c3→Bool)(x bx:aj):Prop :=
 (bx=x∧x.fb=true)∨(∃c aa,x = .eM bS c aa none∧bx = .a1 aa [])∨ ∃k bD len o,(x = .bd bS k bD len∨ ∃c aa fM,k=fM+c∧bD=0∧x = .eM bS c aa (some (fM,len)))∧bN (some fp) k=some o∧bg o.bn=true∧bD+len≤o.es.length ∧
   gV ((o.es.drop bD).take len)∧bx = .a1 o.aa ((o.es.drop bD).take len)
def sk (bS:Nat)(fp:List ao)(bg:c3→Bool)(aa:Nat)(es dj:List (List aj)):Prop :=
 dj.length=es.length∧(∀e∈dj,e.length=aa)∧ ∀(j:Nat) x bx,es.flatten[j]? = some x→dj.flatten[j]? = some bx→rS bS fp bg x bx
def hb (aD:Nat→Option (List ao))(a2:Nat→Option Nat)(au:dv)(bg:c3→Bool):me→aj→Option (aj×List Prop)
 | .id,x=>if x.fb then some (x,[]) else
  match x with
  | .ref r k i off=>match a2 r with
   | some j=>some (.ref j k i off,[])
   | none=>none
  | .bd r k bD len=>match a2 r with
   | some j=>some (.bd j k bD len,[])
   | none=>none
  | .eM r c aa h=>match a2 r with
   | some j=>some (.eM j c aa h,[])
   | none=>none
  | _=>none
 | .jB aa,.dz=>some (.a1 aa [],[])
 | .jB aa,.eL=>some (.a1 aa [],[])
 | .fU dj,.bd r k bD len=>match bN (aD r) k with
  | some o=>if bg o.bn && (a2 r).isNone then some (.a1 o.aa dj,[dj=(o.es.drop bD).take len,bD+len≤o.es.length,gV dj]) else none
  | none=>none
 | .fE,_=>some (.dead,[])
 | .gH y,x=>if x.fb then some (y,[x=y]) else none
 | .len n,.bd r k bD len=>match a2 r with
  | some j=>some (.bd j k bD n,[len=n])
  | none=>none
 | .x9 aa,x=>match x with
  | .eU=>some (.er aa none,[])
  | .di uf [c] 0 0=>if uf=aa then some (.er aa (some c),[]) else none
  | _=>none
 | .at_ j i n,.bd r k bD len=>some (.bd j i bD n,[au j i=some (r,k),len=n])
 | .at_ j i _,.ref r k x y=>some (.ref j i x y,[au j i=some (r,k)])
 | .view bS o dj,.bd r k bD len=>match aD r,aD bS with
  | some row,some fp=>if (a2 r).isNone && (a2 bS).isNone then
   some (.a1 o.aa dj,[bN (some row) k=some o,bg o.bn=true,bD+len≤o.es.length,gV dj,sk bS fp bg o.aa ((o.es.drop bD).take len) dj]) else none
  | _,_=>none
 | _,_=>none
def hc {α β:Type}(f:α→β→Option (β×List Prop)):List α→List β→Option (List β×List Prop)
 | [],[]=>some ([],[])
 | a::l,b::m=>match f a b,hc f l m with
  | some (gb,aP),some (cE,bb)=>some (gb::cE,aP++bb)
  | _,_=>none
 | _,_=>none
def jq (aD:Nat→Option (List ao))(a2:Nat→Option Nat)(au:dv)(bg:c3→Bool):pF→aj→Option (aj×List Prop)
 | .dp c,x=>if x.qX then (match c with | .id=>some (x,[]) | .fE=>some (.dead,[]) | .gH y=>some (y,[x=y])|c=>hb aD a2 au bg c x) else hb aD a2 au bg c x
 | .agg l,.agg c=>match hc (hb aD a2 au bg) l c with
  | some (bV,ad)=>some (.agg bV,ad)
  | none=>none
 | .ptr l,.ref r k i off=>match bN (aD r) k with
  | some o=>match o.es with
   | [c]=>if bg o.bn && (a2 r).isNone then
    match hc (hb aD a2 au bg) l c with
    | some (bV,ad)=>some (.di o.aa [bV] i off,ad++[gV [bV]])
    | none=>none
    else none
   | _=>none
  | none=>none
 | .tK l,x=>match x with
  | .ref r k 0 0=>match bN (aD r) k with
   | some o=>match o.es with
    | [c]=>if bg o.bn && (a2 r).isNone then
     match hc (hb aD a2 au bg) l c with
     | some (bV,ad)=>some (.er o.aa (some bV),ad++[gV [bV]])
     | none=>none
     else none
    | _=>none
   | none=>none
  | _=>none
 | _,_=>none
def i6 (aD:Nat→Option (List ao))(a2:Nat→Option Nat)(au:dv)(bg:c3→Bool):g6→aj→Option (aj×List Prop)
 | .bF c,x=>if x.Bj then (match c with | .dp .id=>some (x,[])|c=>jq aD a2 au bg c x) else jq aD a2 au bg c x
 | .comp l,.c7 c=>match hc (jq aD a2 au bg) l c with
  | some (bV,ad)=>some (.c7 bV,ad)
  | none=>none
 | .comp l,.fn f c=>match hc (jq aD a2 au bg) l c with
  | some (bV,ad)=>some (.fn f bV,ad)
  | none=>none
 | _,_=>none
def mu (row:List ao):Prop:= ∀o∈row,gV o.es∧o.bn = .live
def gv (row:List ao):Prop:= ∀o∈row,o.bn = .live∨o.bn = .gone
def iw (a2:Nat→Option Nat):aj→aj
 | .ref r k i off=>match a2 r with|some j=> .ref j k i off|none=> .dead
 | .bd r k bD len=>match a2 r with|some j=> .bd j k bD len|none=> .dead
 | .eM r c aa h=>match a2 r with|some j=> .eM j c aa h|none=> .dead
 | x=>if x.fb then x else .dead
def hg (a2:Nat→Option Nat)(o:ao):ao:={o with es:=o.es.map fun e=>e.map (iw a2)}
def e7 (aD:Nat→Option (List ao))(a2:Nat→Option Nat)(au:dv)(bg:c3→Bool):eH→List ao→Option (List ao×List Prop)
 | .pure,row=>some (row,[mu row])
 | .gH cc,row=>some (cc,[row=cc,mu cc])
 | .cK cc,row=>some (cc,[cc=row.map (hg a2),gv row])
 | .box l,[o]=>match o.es with
  | [c]=>if o.bn = .live then match hc (hb aD a2 au bg) l c with
   | some (bV,ad)=>some ([{o with es:=[bV]}],ad)
   | none=>none
   else none
  | _=>none
 | _,_=>none
structure mi (q:aj→Prop) (bg:c3→Bool):Prop extends Down q where
 all : ∀k,bg k=true→ ∀x,q x
theorem mL (bg:c3→Bool):mi hB bg:={toDown:=HC,all:=fun _ _ _=>trivial}
theorem ID:mi aT (fun _=>false):={toDown:=HE,all:=fun _ h=>by simp at h}
structure ia (s:S) (au:dv) (a2:Nat→Option Nat) (bg:c3→Bool):Prop where
 aA : ∀r j,a2 r=some j→ ∀k,au j k=some (r,k)
 bj : ∀r,a2 r=none→ ∀k o,s.ad r k=some o→bg o.bn=true→ ∀j i,au j i≠some (r,k)
section
variable {g:G} {s:S} {ai:cJ} {w:World} {au:dv} {a2:Nat→Option Nat} {bg:c3→Bool} {q:aj→Prop}
theorem s7 {α β:Type}(f:α→β→Option (β×List Prop)): ∀(l:List α) (m cE:List β) (ad:List Prop),hc f l m=some (cE,ad) →
 cE.length=m.length∧l.length=m.length∧ ∀(j:Nat) b gb,m[j]? = some b→cE[j]? = some gb→ ∃x bf,l[j]? = some x∧f x b=some (gb,bf)∧ ∀p∈bf,p∈ad
 | [],[],cE,ad,h=>by
  simp [hc] at h;obtain ⟨rfl,rfl⟩:=h
  exact ⟨rfl,rfl,fun j b gb a4=>by simp at a4⟩
 | [],_::_,_,_,h=>by simp [hc] at h
 | _::_,[],_,_,h=>by simp [hc] at h
 | x::l,b::m,cE,ad,h=>by
  simp only [hc] at h
  split at h
  ·rename_i gb aP d7 bb I R
   simp only [Option.some.injEq,Prod.mk.injEq] at h
   obtain ⟨rfl,rfl⟩:=h
   obtain ⟨ar,aE,br⟩:=s7 f l m d7 bb R
   refine ⟨by simp [ar],by simp [aE],fun j c bV aY nL=> ?_⟩
   cases j with
   | zero =>
    simp at aY nL;subst aY;subst nL
    exact ⟨x,aP,rfl,I,fun p ag=>by simp [ag]⟩
   | succ j =>
    simp at aY nL
    obtain ⟨y,bf,f1,f2,f3⟩:=br j c bV aY nL
    exact ⟨y,bf,by simpa using f1,f2,fun p ag=>by simp [f3 p ag]⟩
  ·simp at h
theorem wH (cd:ep g s ai w)(H:ia s au a2 bg)(bc:mi q bg){c:me}{x bx:aj}{ad:List Prop}(h:hb s.aD a2 au bg c x=some (bx,ad))(aK:∀p∈ad,p)
 (aL:q x) {v:Value} (an:Rel w (s.ok g ai w) s.az (s.aG ai) x v):d1 s au bg q x bx:=by
 have ff : ∀ {r k bD len:Nat},x = .bd r k bD len→s.az r k:=by
  intro r k bD len e;subst e;cases an<;>assumption
 cases c with
 | id =>
  simp only [hb] at h
  split at h
  ·rename_i bj
   simp only [Option.some.injEq,Prod.mk.injEq] at h
   obtain ⟨rfl,rfl⟩:=h
   exact .pure (an.o5 bj) aL
  ·split at h
   ·rename_i r k i off _
    split at h
    ·rename_i j aC
     simp only [Option.some.injEq,Prod.mk.injEq] at h
     obtain ⟨rfl,rfl⟩:=h
     exact .ref i off (H.aA r j aC k) (by cases an<;>assumption)
    ·simp at h
   ·rename_i r k bD len _
    split at h
    ·rename_i j aC
     simp only [Option.some.injEq,Prod.mk.injEq] at h
     obtain ⟨rfl,rfl⟩:=h
     exact .bd bD len (H.aA r j aC k) (ff rfl)
    ·simp at h
   ·rename_i r c aa cV _
    split at h
    ·rename_i j aC
     simp only [Option.some.injEq,Prod.mk.injEq] at h
     obtain ⟨rfl,rfl⟩:=h
     exact .eM cV (fun k=>H.aA r j aC _)
    ·simp at h
   ·simp at h
 | jB aa =>
  cases x<;>simp [hb] at h
  ·obtain ⟨rfl,rfl⟩:=h
   exact .dz aa
  ·obtain ⟨rfl,rfl⟩:=h
   exact .eL aa
 | fU dj =>
  cases x<;>simp only [hb,reduceCtorEq] at h
  rename_i r k bD len
  split at h
  ·rename_i o af
   split at h
   ·rename_i aY
    simp only [Bool.and_eq_true,Option.isNone_iff_eq_none] at aY
    simp only [Option.some.injEq,Prod.mk.injEq] at h
    obtain ⟨rfl,rfl⟩:=h
    have I:dj=(o.es.drop bD).take len:=aK _ (by simp)
    have R:bD+len≤o.es.length:=aK _ (by simp)
    have av:gV dj:=aK _ (by simp)
    have b4:s.ad r k=some o:=af
    have hlen : ∀e∈o.es,e.length=o.aa:=by
     have cT:=cd.obj r k o b4
     cases ag:ai r k with
     | none=>rw [ag] at cT;simp only [fc] at cT;rw [cT];simp
     | some q=>rw [ag] at cT;obtain ⟨_,_,_,_,e,_⟩:=cT;exact e
    refine .a1 b4 aY.1 (H.bj r aY.2 k o b4 aY.1) R av ?_ ?_ ?_
    ·rw [I];exact fun e he=>hlen e (List.mem_of_mem_drop (List.mem_of_mem_take he))
    ·rw [I];simp;omega
    ·intro j y h5 aS kx
     rw [I] at kx
     rw [aS] at kx;simp at kx;subst kx
     rw [I] at av
     obtain ⟨e,he,rT⟩:=lR aS
     exact .pure (av e he y rT) (bc.all _ aY.1 y)
   ·simp at h
  ·simp at h
 | fE =>
  simp only [hb,Option.some.injEq,Prod.mk.injEq] at h
  obtain ⟨rfl,rfl⟩:=h
  exact .dead x
 | gH y =>
  simp only [hb] at h
  split at h
  ·rename_i bj
   simp only [Option.some.injEq,Prod.mk.injEq] at h
   obtain ⟨rfl,rfl⟩:=h
   have e:x=y:=aK _ (by simp)
   subst e
   exact .pure (an.o5 bj) aL
  ·simp at h
 | len n =>
  cases x<;>simp only [hb,reduceCtorEq] at h
  rename_i r k bD len
  split at h
  ·rename_i j aC
   simp only [Option.some.injEq,Prod.mk.injEq] at h
   obtain ⟨rfl,rfl⟩:=h
   have e:len=n:=aK _ (by simp)
   subst e
   exact .bd bD len (H.aA r j aC k) (ff rfl)
  ·simp at h
 | at_ j i n =>
  cases x<;>simp only [hb,reduceCtorEq] at h
  ·rename_i r k x y
   simp only [Option.some.injEq,Prod.mk.injEq] at h
   obtain ⟨rfl,rfl⟩:=h
   exact .ref x y (aK _ (List.mem_cons_self)) (by cases an<;>assumption)
  ·rename_i r k bD len
   simp only [Option.some.injEq,Prod.mk.injEq] at h
   obtain ⟨rfl,rfl⟩:=h
   have e:len=n:=aK _ (by simp)
   subst e
   exact .bd bD len (aK _ (List.mem_cons_self)) (ff rfl)
 | view bS o dj =>
  cases x<;>simp only [hb,reduceCtorEq] at h
  rename_i r k bD len
  split at h
  ·rename_i row fp b2 HH
   split at h
   ·rename_i aY
    simp only [Bool.and_eq_true,Option.isNone_iff_eq_none] at aY
    simp only [Option.some.injEq,Prod.mk.injEq] at h
    obtain ⟨rfl,rfl⟩:=h
    have I:bN (some row) k=some o:=aK _ (by simp)
    have R:bg o.bn=true:=aK _ (by simp)
    have av:bD+len≤o.es.length:=aK _ (by simp)
    have aR:gV dj:=aK _ (by simp)
    have bC:sk bS fp bg o.aa ((o.es.drop bD).take len) dj:=aK _ (by simp)
    have b4:s.ad r k=some o:=by unfold S.ad;rw [b2];exact I
    obtain ⟨lM,lN,uO⟩:=bC
    refine .a1 b4 R (H.bj r aY.1 k o b4 R) av aR lN (by rw [lM];simp;omega) fun j y h5 aS kx=> ?_
    rcases uO j y h5 aS kx with ⟨rfl,bj⟩|⟨eI,BZ,rfl,rfl⟩|⟨hk,uk,tN,p,IE,ar,aE,br,de,rfl⟩
    ·obtain ⟨e,he,rT⟩:=lR kx
     exact .pure (aR e he h5 rT) (bc.all _ R _)
    ·exact .ig _ _ _
    ·have jg:s.ad bS hk=some p:=by unfold S.ad;rw [HH];exact ar
     have hlen : ∀e∈p.es,e.length=p.aa:=by
      have cT:=cd.obj bS hk p jg
      cases ag:ai bS hk with
      | none=>rw [ag] at cT;simp only [fc] at cT;rw [cT];simp
      | some q=>rw [ag] at cT;obtain ⟨_,_,_,_,e,_⟩:=cT;exact e
     have Bk:d1 s au bg q (.bd bS hk uk tN) (.a1 p.aa ((p.es.drop uk).take tN)):=by
      refine .a1 jg aE (H.bj bS aY.2 hk p jg aE) br de (fun e he=>hlen e (List.mem_of_mem_drop (List.mem_of_mem_take he))) (by simp;omega) fun j z Li bY xG=> ?_
      rw [bY] at xG;simp at xG;subst xG
      obtain ⟨e,he,IF⟩:=lR bY
      exact .pure (de e he z IF) (bc.all _ aE _)
     rcases IE with rfl|⟨dp,K3,fM,rfl,rfl,rfl⟩
     ·exact Bk
     ·exact .i9 Bk
   ·simp at h
  ·simp at h
 | x9 aa =>
  simp only [hb] at h
  split at h
  ·simp only [Option.some.injEq,Prod.mk.injEq] at h
   obtain ⟨rfl,rfl⟩:=h
   exact .tz _
  ·split at h
   ·rename_i e;subst e
    simp only [Option.some.injEq,Prod.mk.injEq] at h
    obtain ⟨rfl,rfl⟩:=h
    exact .er (.pure (an.o5 rfl) aL)
   ·simp at h
  ·simp at h
theorem qA (cd:ep g s ai w)(H:ia s au a2 bg)(bc:mi q bg){l:List me}{c bV:List aj}{ad:List Prop}(h:hc (hb s.aD a2 au bg) l c=some (bV,ad))(aK:∀p∈ad,p)
 (aL : ∀x∈c,q x) {vs:List Value} (aB:vs.length=c.length) (an : ∀(j:Nat) x u,c[j]? = some x→vs[j]? = some u→Rel w (s.ok g ai w) s.az (s.aG ai) x u) :
 bV.length=c.length∧ ∀(j:Nat) x bx,c[j]? = some x→bV[j]? = some bx→d1 s au bg q x bx:=by
 obtain ⟨ar,aE,br⟩:=s7 _ l c bV ad h
 refine ⟨ar,fun j x bx ab b1=> ?_⟩
 obtain ⟨y,bf,f1,f2,f3⟩:=br j x bx ab b1
 have cf:j<vs.length:=by have:=dr ab;omega
 exact wH cd H bc f2 (fun p ag=>aK p (f3 p ag)) (aL x (List.mem_of_getElem? ab)) (an j x _ ab (List.getElem?_eq_getElem cf))
theorem wI (cd:ep g s ai w)(H:ia s au a2 bg)(bc:mi q bg){c:pF}{x bx:aj}{ad:List Prop}(h:jq s.aD a2 au bg c x=some (bx,ad))(aK:∀p∈ad,p)
 (aL:q x) {v:Value} (an:Rel w (s.ok g ai w) s.az (s.aG ai) x v):d1 s au bg q x bx:=by
 cases c with
 | dp c =>
  simp only [jq] at h
  split at h
  ·rename_i bj
   split at h
   ·simp only [Option.some.injEq,Prod.mk.injEq] at h
    obtain ⟨rfl,rfl⟩:=h
    exact .pure (an.tA bj) aL
   ·simp only [Option.some.injEq,Prod.mk.injEq] at h
    obtain ⟨rfl,rfl⟩:=h
    exact .dead _
   ·simp only [Option.some.injEq,Prod.mk.injEq] at h
    obtain ⟨rfl,rfl⟩:=h
    have e:=aK _ (List.mem_singleton.2 rfl)
    subst e
    exact .pure (an.tA bj) aL
   ·exact wH cd H bc h aK aL an
  ·exact wH cd H bc h aK aL an
 | agg l =>
  cases x<;>simp only [jq,reduceCtorEq] at h
  rename_i c
  split at h
  ·rename_i bV iV aY
   simp only [Option.some.injEq,Prod.mk.injEq] at h
   obtain ⟨rfl,rfl⟩:=h
   obtain ⟨vs,rfl,aB,-,rU⟩:=an.qL
   obtain ⟨ar,aE⟩:=qA cd H bc aY aK (fun y aS=>bc.agg _ _ aL aS) aB rU
   exact .agg ar aE
  ·simp at h
 | ptr l =>
  cases x<;>simp only [jq,reduceCtorEq] at h
  rename_i r k i off
  split at h
  ·rename_i o af
   split at h
   ·rename_i c dU
    split at h
    ·rename_i aY
     simp only [Bool.and_eq_true,Option.isNone_iff_eq_none] at aY
     split at h
     ·rename_i bV iV eW
      simp only [Option.some.injEq,Prod.mk.injEq] at h
      obtain ⟨rfl,rfl⟩:=h
      have b4:s.ad r k=some o:=af
      have cT:=cd.obj r k o b4
      cases ag:ai r k with
      | none=>rw [ag] at cT;simp only [fc] at cT;rw [dU] at cT;simp at cT
      | some q =>
       obtain ⟨b,m⟩:=q
       rw [ag] at cT
       obtain ⟨bm,cn,g1,g2,g3,g4⟩:=cT
       have xj:c.length=o.aa:=g3 c (by rw [dU];simp)
       have f9:o.es.flatten=c:=by rw [dU];simp
       have mJ : ∀j:Nat,j<c.length→ ∃u,bm[j]? = some u∧Rel w (s.ok g ai w) s.az (s.aG ai) c[j]! u:=by
        intro j aC
        obtain ⟨u,h9,-,gk⟩:=g4 j c[j] (by rw [f9];exact List.getElem?_eq_getElem aC)
        exact ⟨u,h9,by rw [getElem!_pos c j aC];exact gk⟩
       obtain ⟨ar,aE⟩:=qA (vs:=(List.range c.length).map fun j=>(bm[j]?).getD undef) cd H bc eW (fun p ag=>aK p (by simp [ag])) (fun y _=>bc.all _ aY.1 y) (by simp) (by
        intro j y u aS hu
        have aC:=dr aS
        rw [List.getElem?_map,List.getElem?_range aC] at hu
        simp only [Option.map_some,Option.some.injEq] at hu
        obtain ⟨yf,h9,gk⟩:=mJ j aC
        rw [h9] at hu;simp at hu;subst hu
        rw [List.getElem?_eq_getElem aC] at aS;simp at aS;subst aS
        rw [getElem!_pos c j aC] at gk;exact gk)
       have l0:gV [bV]:=aK _ (by simp)
       refine .di i off b4 aY.1 (H.bj r aY.2 k o b4 aY.1) (by rw [dU];simp) l0 (by simp;omega) (by rw [dU];rfl) ?_
       ·intro j y h5 aS kx
        rw [f9] at aS
        simp only [List.flatten_cons,List.flatten_nil,List.append_nil] at kx
        exact aE j y h5 aS kx
     ·simp at h
    ·simp at h
   ·simp at h
  ·simp at h
 | tK l =>
  simp only [jq] at h
  split at h
  ·rename_i r k
   split at h
   ·rename_i o af
    split at h
    ·rename_i c dU
     split at h
     ·rename_i aY
      simp only [Bool.and_eq_true,Option.isNone_iff_eq_none] at aY
      split at h
      ·rename_i bV iV eW
       simp only [Option.some.injEq,Prod.mk.injEq] at h
       obtain ⟨rfl,rfl⟩:=h
       have b4:s.ad r k=some o:=af
       have cT:=cd.obj r k o b4
       cases ag:ai r k with
       | none=>rw [ag] at cT;simp only [fc] at cT;rw [dU] at cT;simp at cT
       | some q =>
        obtain ⟨b,m⟩:=q
        rw [ag] at cT
        obtain ⟨bm,cn,g1,g2,g3,g4⟩:=cT
        have xj:c.length=o.aa:=g3 c (by rw [dU];simp)
        have f9:o.es.flatten=c:=by rw [dU];simp
        have mJ : ∀j:Nat,j<c.length→ ∃u,bm[j]? = some u∧Rel w (s.ok g ai w) s.az (s.aG ai) c[j]! u:=by
         intro j aC
         obtain ⟨u,h9,-,gk⟩:=g4 j c[j] (by rw [f9];exact List.getElem?_eq_getElem aC)
         exact ⟨u,h9,by rw [getElem!_pos c j aC];exact gk⟩
        obtain ⟨ar,aE⟩:=qA (vs:=(List.range c.length).map fun j=>(bm[j]?).getD undef) cd H bc eW (fun p ag=>aK p (by simp [ag])) (fun y _=>bc.all _ aY.1 y) (by simp) (by
         intro j y u aS hu
         have aC:=dr aS
         rw [List.getElem?_map,List.getElem?_range aC] at hu
         simp only [Option.map_some,Option.some.injEq] at hu
         obtain ⟨yf,h9,gk⟩:=mJ j aC
         rw [h9] at hu;simp at hu;subst hu
         rw [List.getElem?_eq_getElem aC] at aS;simp at aS;subst aS
         rw [getElem!_pos c j aC] at gk;exact gk)
        have l0:gV [bV]:=aK _ (by simp)
        refine .er (.di 0 0 b4 aY.1 (H.bj r aY.2 k o b4 aY.1) (by rw [dU];simp) l0 (by simp;omega) (by rw [dU];rfl) ?_)
        ·intro j y h5 aS kx
         rw [f9] at aS
         simp only [List.flatten_cons,List.flatten_nil,List.append_nil] at kx
         exact aE j y h5 aS kx
      ·simp at h
     ·simp at h
    ·simp at h
   ·simp at h
  ·simp at h
theorem qI (cd:ep g s ai w)(H:ia s au a2 bg)(bc:mi q bg){c:g6}{x bx:aj}{ad:List Prop}(h:i6 s.aD a2 au bg c x=some (bx,ad))(aK:∀p∈ad,p)
 (aL:q x) {v:Value} (an:Rel w (s.ok g ai w) s.az (s.aG ai) x v):d1 s au bg q x bx:=by
 have key : ∀(l:List pF) (c bV:List aj) (iV:List Prop) (vs:List Value),hc (jq s.aD a2 au bg) l c=some (bV,iV)→(∀p∈iV,p)→(∀x∈c,q x)→vs.length=c.length →
  (∀(j:Nat) x u,c[j]? = some x→vs[j]? = some u→Rel w (s.ok g ai w) s.az (s.aG ai) x u)→bV.length=c.length∧ ∀(j:Nat) x bx,c[j]? = some x→bV[j]? = some bx→d1 s au bg q x bx:=by
  intro l c bV iV vs h aK aL aB an
  obtain ⟨ar,aE,br⟩:=s7 _ l c bV iV h
  refine ⟨ar,fun j x bx ab b1=> ?_⟩
  obtain ⟨y,bf,f1,f2,f3⟩:=br j x bx ab b1
  have cf:j<vs.length:=by have:=dr ab;omega
  exact wI cd H bc f2 (fun p ag=>aK p (f3 p ag)) (aL x (List.mem_of_getElem? ab)) (an j x _ ab (List.getElem?_eq_getElem cf))
 cases c with
 | bF c =>
  simp only [i6] at h
  split at h
  ·rename_i bj
   split at h
   ·simp only [Option.some.injEq,Prod.mk.injEq] at h
    obtain ⟨rfl,rfl⟩:=h
    exact .pure (an.HG bj) aL
   ·exact wI cd H bc h aK aL an
  ·exact wI cd H bc h aK aL an
 | comp l =>
  cases x<;>simp only [i6,reduceCtorEq] at h
  ·rename_i c
   split at h
   ·rename_i bV iV aY
    simp only [Option.some.injEq,Prod.mk.injEq] at h
    obtain ⟨rfl,rfl⟩:=h
    obtain ⟨vs,rfl,aB,rU⟩:=an.oU
    obtain ⟨ar,aE⟩:=key l c bV iV vs aY aK (fun y aS=>bc.c7 _ _ aL aS) aB rU
    exact .c7 ar aE
   ·simp at h
  ·rename_i f c
   split at h
   ·rename_i bV iV aY
    simp only [Option.some.injEq,Prod.mk.injEq] at h
    obtain ⟨rfl,rfl⟩:=h
    obtain ⟨vs,rfl,aB,rU⟩:=an.tl
    obtain ⟨ar,aE⟩:=key l c bV iV vs aY aK (fun y aS=>bc.fn _ _ _ aL aS) aB rU
    exact .fn ar aE
   ·simp at h
theorem Bl (cd:ep g s ai w)(H:ia s au a2 bg){r:Nat}{fZ:Nat→Nat}{row:List ao}(b2:∀k o,bN (some row) k=some o→s.ad r (fZ k)=some o)
 (aL : ∀k o,bN (some row) k=some o→ ∀e∈o.es,∀x∈e,q x) :
 ∀(k:Nat) bf,bN (some (row.map (hg a2))) k=some bf→ ∃o,bN (some row) k=some o∧jx s au bg q o bf:=by
 intro k bf b4
 rw [gh,List.getElem?_map] at b4
 cases a3:row[k]? with
 | none=>rw [a3] at b4;simp at b4
 | some o =>
  rw [a3] at b4
  simp only [Option.map_some,Option.bind_some] at b4
  split at b4
  ·simp at b4
  ·rename_i cS
   simp only [Option.some.injEq] at b4
   subst b4
   have af:bN (some row) k=some o:=by rw [gh,a3,Option.bind_some,if_neg (by simpa [hg] using cS)]
   have bR:s.ad r (fZ k)=some o:=b2 k o af
   refine ⟨o,af,?_⟩
   have cT:=cd.obj r (fZ k) o bR
   have hlen : ∀e∈o.es,e.length=o.aa:=by
    cases ag:ai r (fZ k) with
    | none=>rw [ag] at cT;simp only [fc] at cT;rw [cT];simp
    | some q=>rw [ag] at cT;obtain ⟨_,_,_,_,e,_⟩:=cT;exact e
   refine ⟨rfl,.inl rfl,by simp [hg],?_,fun j x bx ab b1=> ?_⟩
   ·intro e he
    simp only [hg,List.mem_map] at he
    obtain ⟨cB,hy,rfl⟩:=he
    simpa using hlen cB hy
   ·simp only [hg] at b1
    rw [map_flatten,List.getElem?_map,ab] at b1
    simp only [Option.map_some,Option.some.injEq] at b1
    subst b1
    obtain ⟨e,he,kS⟩:=lR ab
    have IG:=aL k o af e he x kS
    cases ag:ai r (fZ k) with
    | none=>rw [ag] at cT;simp only [fc] at cT;rw [cT] at ab;simp at ab
    | some mh =>
     obtain ⟨b,m⟩:=mh
     rw [ag] at cT
     obtain ⟨c,cn,f1,f2,f3,f4⟩:=cT
     obtain ⟨u,h9,kE,gk⟩:=f4 j x ab
     cases x with
     | ref bX hk kD Ia =>
      cases bu:a2 bX with
      | none=>simp only [iw,bu];exact .dead _
      | some uP=>simp only [iw,bu];exact .ref kD Ia (H.aA _ _ bu _) (by cases gk<;>assumption)
     | bd bX hk uk tN =>
      cases bu:a2 bX with
      | none=>simp only [iw,bu];exact .dead _
      | some uP=>simp only [iw,bu];exact .bd uk tN (H.aA _ _ bu _) (by cases gk<;>assumption)
     | eM bX eI BZ R =>
      cases bu:a2 bX with
      | none=>simp only [iw,bu];exact .dead _
      | some uP=>simp only [iw,bu];exact .eM R (fun k=>H.aA _ _ bu _)
     | _ =>
      simp only [iw]
      split
      ·rename_i bj;exact .pure (gk.o5 bj) IG
      ·exact .dead _
theorem s8 (cd:ep g s ai w)(H:ia s au a2 bg)(bc:mi q bg){c:eH}{r:Nat}{fZ:Nat→Nat}{row cc:List ao}{ad:List Prop}(b2:∀k o,bN (some row) k=some o→s.ad r (fZ k)=some o)
 (h:e7 s.aD a2 au bg c row=some (cc,ad)) (aK : ∀p∈ad,p) (aL : ∀k o,bN (some row) k=some o→ ∀e∈o.es,∀x∈e,q x) :
 cc.length=row.length∧(∀k o,bN (some row) k=some o→o.bn = .live) ∧
 ∀(k:Nat) bf,bN (some cc) k=some bf→ ∃o,bN (some row) k=some o∧jx s au bg q o bf:=by
 have hlen : ∀k o,bN (some row) k=some o→ ∀e∈o.es,e.length=o.aa:=by
  intro k o af
  have b4:s.ad r (fZ k)=some o:=b2 k o af
  have cT:=cd.obj r (fZ k) o b4
  cases ag:ai r (fZ k) with
  | none=>rw [ag] at cT;simp only [fc] at cT;rw [cT];simp
  | some q=>rw [ag] at cT;obtain ⟨_,_,_,_,e,_⟩:=cT;exact e
 have l0:mu row→(∀k o,bN (some row) k=some o→o.bn = .live) ∧
  ∀(k:Nat) bf,bN (some row) k=some bf→ ∃o,bN (some row) k=some o∧jx s au bg q o bf:=by
  intro ag
  have lB : ∀k o,bN (some row) k=some o→o∈row:=by
   intro k o af
   unfold bN at af
   simp only at af
   split at af
   ·rename_i bf b4
    split at af
    ·simp at af
    ·simp at af;subst af;exact List.mem_of_getElem? b4
   ·simp at af
  refine ⟨fun k o af=>(ag o (lB k o af)).2,fun k o af=>⟨o,af,rfl,.inl rfl,rfl,hlen k o af,fun j x bx ab b1=> ?_⟩⟩
  rw [ab] at b1;simp at b1;subst b1
  obtain ⟨e,he,kS⟩:=lR ab
  exact .pure ((ag o (lB k o af)).1 e he x kS) (aL k o af e he x kS)
 cases c with
 | pure =>
  simp only [e7,Option.some.injEq,Prod.mk.injEq] at h
  obtain ⟨rfl,rfl⟩:=h
  exact ⟨rfl,l0 (aK _ (by simp))⟩
 | gH iP =>
  simp only [e7,Option.some.injEq,Prod.mk.injEq] at h
  obtain ⟨rfl,rfl⟩:=h
  have e:row=iP:=aK _ (by simp)
  subst e
  exact ⟨rfl,l0 (aK _ (by simp))⟩
 | cK iP =>
  simp only [e7,Option.some.injEq,Prod.mk.injEq] at h
  obtain ⟨rfl,rfl⟩:=h
  have e:iP=row.map (hg a2):=aK _ (by simp)
  have xH:gv row:=aK _ (by simp)
  subst e
  refine ⟨by simp,fun k o af=>by
   unfold bN at af
   simp only at af
   split at af
   ·rename_i bf b4
    split at af
    ·simp at af
    ·rename_i cS
     simp at af;subst af
     exact (xH _ (List.mem_of_getElem? b4)).resolve_right cS
   ·simp at af,Bl cd H b2 aL⟩
 | rx iP=>cases row with
  | nil=>simp [e7] at h
  | cons o l=>cases l<;>simp [e7] at h
 | drop=>cases row with
  | nil=>simp [e7] at h
  | cons o l=>cases l<;>simp [e7] at h
 | box l =>
  match row,h with
  | [o],h =>
   simp only [e7] at h
   split at h
   ·rename_i c dU
    split at h
    ·rename_i jf
     split at h
     ·rename_i bV iV aY
      simp only [Option.some.injEq,Prod.mk.injEq] at h
      obtain ⟨rfl,rfl⟩:=h
      have h0:bN (some [o]) 0=some o:=by rw [hF];simp [jf]
      refine ⟨rfl,fun k p ag=> ?_,fun k p ag=> ?_⟩
      ·rw [hF] at ag
       split at ag
       ·simp at ag;subst ag;exact jf
       ·simp at ag
      ·rw [hF] at ag
       split at ag
       ·rename_i rV
        obtain ⟨rfl,-⟩:=rV
        simp only [Option.some.injEq] at ag;subst ag
        refine ⟨o,h0,?_⟩
        have b4:s.ad r (fZ 0)=some o:=b2 0 o h0
        have cT:=cd.obj r (fZ 0) o b4
        cases gi:ai r (fZ 0) with
        | none=>rw [gi] at cT;simp only [fc] at cT;rw [dU] at cT;simp at cT
        | some q =>
         obtain ⟨b,m⟩:=q
         rw [gi] at cT
         obtain ⟨bm,cn,g1,g2,g3,g4⟩:=cT
         have xj:c.length=o.aa:=g3 c (by rw [dU];simp)
         have f9:o.es.flatten=c:=by rw [dU];simp
         obtain ⟨ar,aE⟩:=qA (vs:=(List.range c.length).map fun j=>(bm[j]?).getD undef) cd H bc aY aK (fun y aS=>aL 0 o h0 c (by rw [dU];simp) y aS) (by simp) (by
          intro j y u aS hu
          have aC:=dr aS
          rw [List.getElem?_map,List.getElem?_range aC] at hu
          simp only [Option.map_some,Option.some.injEq] at hu
          obtain ⟨yf,h9,-,gk⟩:=g4 j y (by rw [f9];exact aS)
          rw [h9] at hu;simp at hu;subst hu
          exact gk)
         refine ⟨rfl,.inl rfl,by simp [dU],by simp;omega,fun j x bx ab b1=> ?_⟩
         rw [f9] at ab
         simp only [List.flatten_cons,List.flatten_nil,List.append_nil] at b1
         exact aE j x bx ab b1
       ·simp at ag
     ·simp at h
    ·simp at h
   ·simp at h
  | [],h=>simp [e7] at h
  | _::_::_,h=>simp [e7] at h
end
end Go.VL
namespace Go.VL
set_option linter.unusedVariables false
set_option linter.unusedSimpArgs false
open Go
def s9 (P:Program)(f:FuncId):Prop:= ∃fn,P.funcs[f]? = some fn∧(fn.name == "runtime.NumGoroutine")=false∧fn.body.isSome=true
def Con (P:Program)(f:FuncId)(args:List aj)(T:List (List ao))(r:aj)(fi:List (List ao)):Prop:=s9 P f∧HD P f args T r fi
def l1 (k:c3):Bool:=k = .lb
def gO (_:c3):Bool:=true
def gD (_:c3):Bool:=false
def Src.r:Src→Nat
 | .row r=>r
 | .ad r _ _=>r
def Src.has:Src→Nat→Nat→Prop
 | .row r,q,_=>q=r
 | .ad r k _,q,bO=>q=r∧bO=k
def Src.h4:Src→Nat→Nat
 | .row _,k=>k
 | .ad ..,_=>0
def gy (l:List Src):dv:=fun j i=>match l[j]? with
 | some (.row r)=>some (r,i)
 | some (.ad r k _)=>if i=0 then some (r,k) else none
 | none=>none
def jS (n:Nat):List Src→Nat→Option Nat
 | [],_=>none
 | .row r::l,q=>if r=q then some n else jS (n+1) l q
 | .ad .. :: l,q=>jS (n+1) l q
def fg (n:Nat):List Src→dv
 | [],_,_=>none
 | .row r::l,q,k=>if q=r then some (n,k) else fg (n+1) l q k
 | .ad r bO _::l,q,k=>if q=r∧k=bO then some (n,0) else fg (n+1) l q k
def l2 (l:List Src):Nat→Option Nat:=fun j=>match l[j]? with
 | some (.row r)=>some r
 | _=>none
def apart:Src→Src→Option (List Prop)
 | .ad r k _,.ad cp bO _=>if r=cp then some [k≠bO] else some []
 | a,b=>if a.r=b.r then none else some []
def tn (a:Src):List Src→Option (List Prop)
 | []=>some []
 | b::l=>match apart a b,tn a l with
  | some x,some y=>some (x++y)
  | _,_=>none
def tB:List Src→Option (List Prop)
 | []=>some []
 | a::l=>match tn a l,tB l with
  | some x,some y=>some (x++y)
  | _,_=>none
def rz (l:List Src):Prop:=l.Pairwise fun a b=> ∀r k,¬(a.has r k∧b.has r k)
theorem F9 {a b:Src}{ad:List Prop}(h:apart a b=some ad)(aK:∀p∈ad,p): ∀r k,¬(a.has r k∧b.has r k):=by
 rintro r k ⟨I,R⟩
 have an : ∀c:Src,c.has r k→c.r=r:=fun c aY=>by
  cases c with
  | row r0=>exact Eq.symm aY
  | ad r0 fM g8=>exact Eq.symm aY.1
 have e:=(an a I).trans (an b R).symm
 cases a with
 | row r0=>simp only [apart] at h;rw [if_pos e] at h;simp at h
 | ad r0 fM g8 =>
  cases b with
  | row aQ=>simp only [apart] at h;rw [if_pos e] at h;simp at h
  | ad aQ h6 aP =>
   simp only [apart] at h
   rw [if_pos (show r0=aQ from e)] at h
   simp only [Option.some.injEq] at h
   subst h
   exact aK _ (List.mem_singleton.2 rfl) (I.2.symm.trans R.2)
theorem zW {a:Src}: ∀ {l:List Src} {ad:List Prop},tn a l=some ad→(∀p∈ad,p)→ ∀b∈l,∀r k,¬(a.has r k∧b.has r k)
 | [],_,_,_,_,a4=>by simp at a4
 | b::l,ad,h,aK,c,aY=>by
  simp only [tn] at h
  split at h
  ·rename_i x y I R
   simp only [Option.some.injEq] at h;subst h
   rcases List.mem_cons.1 aY with rfl|aY
   ·exact F9 I fun p ag=>aK p (by simp [ag])
   ·exact zW R (fun p ag=>aK p (by simp [ag])) c aY
  ·simp at h
theorem Aj : ∀ {l:List Src} {ad:List Prop},tB l=some ad→(∀p∈ad,p)→rz l
 | [],_,_,_=>List.Pairwise.nil
 | a::l,ad,h,aK=>by
  simp only [tB] at h
  split at h
  ·rename_i x y I R
   simp only [Option.some.injEq] at h;subst h
   exact List.pairwise_cons.2 ⟨zW I fun p ag=>aK p (by simp [ag]),Aj R fun p ag=>aK p (by simp [ag])⟩
  ·simp at h
theorem mw {l:List Src}{j i r k:Nat}:gy l j i=some (r,k)↔ ∃a,l[j]? = some a∧a.has r k∧i=a.h4 k:=by
 unfold gy
 cases h:l[j]? with
 | none=>simp
 | some a =>
  cases a with
  | row r0 =>
   simp only [Option.some.injEq,Prod.mk.injEq,exists_eq_left',Src.has,Src.h4]
   constructor<;>rintro ⟨a,b⟩<;>exact ⟨a.symm,b⟩
  | ad r0 fM o =>
   simp only [Option.some.injEq,exists_eq_left',Src.has,Src.h4]
   by_cases e:i=0
   ·rw [if_pos e];simp only [Option.some.injEq,Prod.mk.injEq,e,and_true];constructor<;>rintro ⟨a,b⟩<;>exact ⟨a.symm,b.symm⟩
   ·rw [if_neg e];simp [e]
theorem nr : ∀ {l:List Src} {n r k j i:Nat},fg n l r k=some (j,i)→ ∃a,n≤j∧l[j-n]? = some a∧a.has r k∧i=a.h4 k
 | [],_,_,_,_,_,h=>by simp [fg] at h
 | .row r0::l,n,r,k,j,i,h=>by
  simp only [fg] at h
  split at h
  ·rename_i e
   simp only [Option.some.injEq,Prod.mk.injEq] at h
   obtain ⟨rfl,rfl⟩:=h
   exact ⟨.row r0,Nat.le_refl _,by simp,e,rfl⟩
  ·obtain ⟨a,I,R,av,aR⟩:=nr h
   exact ⟨a,by omega,by rw [show j-n=(j-(n+1))+1 by omega,List.getElem?_cons_succ];exact R,av,aR⟩
 | .ad r0 fM o::l,n,r,k,j,i,h=>by
  simp only [fg] at h
  split at h
  ·rename_i e
   simp only [Option.some.injEq,Prod.mk.injEq] at h
   obtain ⟨rfl,rfl⟩:=h
   exact ⟨.ad r0 fM o,Nat.le_refl _,by simp,e,rfl⟩
  ·obtain ⟨a,I,R,av,aR⟩:=nr h
   exact ⟨a,by omega,by rw [show j-n=(j-(n+1))+1 by omega,List.getElem?_cons_succ];exact R,av,aR⟩
theorem ly (n:Nat)(a:Src)(l:List Src)(r k:Nat)(h:¬a.has r k):fg n (a::l) r k=fg (n+1) l r k:=by
 cases a<;>simp only [fg,Src.has] at h ⊢ <;> rw [if_neg h]
theorem Ga (n:Nat)(a:Src)(l:List Src)(r k:Nat)(h:a.has r k):fg n (a::l) r k=some (n,a.h4 k):=by
 cases a<;>simp only [fg,Src.has,Src.h4] at h ⊢ <;> rw [if_pos h]
theorem qY : ∀ {l:List Src} {n r k j:Nat} {a:Src},rz l→l[j]? = some a→a.has r k→fg n l r k=some (n+j,a.h4 k)
 | b::l,n,r,k,0,a,_,h,bJ=>by
  simp at h;subst h
  exact Ga n b l r k bJ
 | b::l,n,r,k,j+1,a,bc,h,bJ=>by
  simp at h
  have bc:=List.pairwise_cons.1 bc
  rw [ly n b l r k fun a4=>bc.1 a (List.mem_of_getElem? h) r k ⟨a4,bJ⟩,qY (j:=j) bc.2 h bJ]
  congr 2;omega
theorem He {a:Src}{r k cp bO:Nat}(h:a.has r k)(bG:a.has cp bO)(e:a.h4 k=a.h4 bO):r=cp∧k=bO:=by
 cases a<;>simp only [Src.has,Src.h4] at h bG e<;>omega
theorem GK {l:List Src}{n r k cp bO:Nat}{p:Nat×Nat}(h:fg n l r k=some p)(bG:fg n l cp bO=some p):r=cp∧k=bO:=by
 obtain ⟨j,i⟩:=p
 obtain ⟨a,I,R,av,aR⟩:=nr h
 obtain ⟨b0,lD,xI,IH,K4⟩:=nr bG
 rw [R] at xI;simp at xI;subst xI
 exact He av IH (by omega)
theorem wB : ∀ {l:List Src} {n r j:Nat},jS n l r=some j→n≤j∧l[j-n]? = some (.row r)
 | [],_,_,_,h=>by simp [jS] at h
 | .row r0::l,n,r,j,h=>by
  simp only [jS] at h
  split at h
  ·rename_i e;simp at h;subst h;subst e;exact ⟨Nat.le_refl _,by simp⟩
  ·obtain ⟨I,R⟩:=wB h
   exact ⟨by omega,by rw [show j-n=(j-(n+1))+1 by omega,List.getElem?_cons_succ];exact R⟩
 | .ad r0 fM o::l,n,r,j,h=>by
  simp only [jS] at h
  obtain ⟨I,R⟩:=wB h
  exact ⟨by omega,by rw [show j-n=(j-(n+1))+1 by omega,List.getElem?_cons_succ];exact R⟩
theorem zX : ∀ {l:List Src} {n r:Nat},jS n l r=none→Src.row r ∉ l
 | [],_,_,_=>by simp
 | .row r0::l,n,r,h=>by
  simp only [jS] at h
  split at h
  ·simp at h
  ·rename_i e
   simp only [List.mem_cons,Src.row.injEq,not_or]
   exact ⟨fun h=>e h.symm,zX h⟩
 | .ad r0 fM o::l,n,r,h=>by
  simp only [jS] at h
  simp only [List.mem_cons,reduceCtorEq,false_or]
  exact zX h
def hG (aD:Nat→Option (List ao))(a2:Nat→Option Nat)(au:dv):List Src→List eH→Option (List (List ao)×List Prop)
 | [],[]=>some ([],[])
 | .row r::l,c::bs=>match aD r with
  | some row=>match e7 aD a2 au l1 c row,hG aD a2 au l bs with
   | some (cc,aP),some (T,bb)=>some (cc::T,aP++bb)
   | _,_=>none
  | none=>none
 | .ad r k o::l,c::bs=>match aD r with
  | some row=>match e7 aD a2 au l1 c [o],hG aD a2 au l bs with
   | some (cc,aP),some (T,bb)=>some (cc::T,(bN (some row) k=some o)::(aP++bb))
   | _,_=>none
  | none=>none
 | _,_=>none
def gM (nZ:Nat→Option (List ao))(a2:Nat→Option Nat)(gB:dv):(Nat→Option (List ao))→List Src→List eH→List (List ao)→Option (List (Nat×List ao)×List Prop)
 | _,[],[],[]=>some ([],[])
 | aD,.row q::l,c::bs,row::T=>match e7 nZ a2 gB gD c row with
  | some (cc,aP)=>match gM nZ a2 gB (fun x=>if x=q then some cc else aD x) l bs T with
   | some (u,bb)=>some ((q,cc)::u,aP++bb)
   | none=>none
  | none=>none
 | aD,.ad q k _::l,c::bs,row::T=>match aD q with
  | some hd=>match e7 nZ a2 gB gD c row with
   | some ([bf],aP)=>match gM nZ a2 gB (fun x=>if x=q then some (hd.set k bf) else aD x) l bs T with
    | some (u,bb)=>some ((q,hd.set k bf)::u,aP++bb)
    | none=>none
   | _=>none
  | none=>none
 | _,_,_,_=>none
def eN (T:List (List ao)):Prop:= ∀row∈T,∀o∈row,∀e∈o.es,∀x∈e,aT x
def o6 (P:Program)(aD:Nat→Option (List ao))(aw:Nat)(f:FuncId)(args:List aj)(bm:sf):Option et :=
 let l:=if bm.bW.length=bm.au.length then bm.au else bm.au++[.row aw]
 match tB bm.au with
 | none=>none
 | some g8 =>
  if bm.au.any (fun a=>decide (a.r=aw)) then none else
  if bm.cj then
   match bm.au with
   | [] =>
    match hc (i6 aD (fun _=>none) (gy []) gO) bm.ac args,i6 (fun j=>bm.bW[j]?) (l2 l) (fg 0 l) gD bm.cz bm.r,
     gM (fun j=>bm.bW[j]?) (l2 l) (fg 0 l) aD l bm.cO bm.bW with
    | some (kN,aP),some (cp,db),some (u,d2)=>some {val:=cp,cZ:=u,cR:=aP++db++d2++[Con P f kN [] bm.r bm.bW,aT bm.r]++(if bm.bW.isEmpty then [] else [eN bm.bW])}
    | _,_,_=>none
   | _=>none
  else
   match hc (i6 aD (jS 0 bm.au) (gy bm.au) l1) bm.ac args,hG aD (jS 0 bm.au) (gy bm.au) bm.au bm.bs,
    i6 (fun j=>bm.bW[j]?) (l2 l) (fg 0 l) gD bm.cz bm.r,gM (fun j=>bm.bW[j]?) (l2 l) (fg 0 l) aD l bm.cO bm.bW with
   | some (kN,aP),some (T,bb),some (cp,db),some (u,d2) =>
    some {val:=cp,cZ:=u,cR:=g8++aP++bb++db++d2++[Con P f kN T bm.r bm.bW]}
   | _,_,_,_=>none
theorem zD {aD:Nat→Option (List ao)}{a2:Nat→Option Nat}{au:dv}{bg:c3→Bool}{c:eH}{row cc:List ao}{ad:List Prop}(h:e7 aD a2 au bg c row=some (cc,ad))(aK:∀p∈ad,p):
 ∀k o,bN (some row) k=some o→o.bn = .live:=by
 have lB : ∀k o,bN (some row) k=some o→o∈row∧o.bn≠ .gone:=by
  intro k o af
  rw [gh] at af
  cases a3:row[k]? with
  | none=>rw [a3] at af;simp at af
  | some p =>
   rw [a3,Option.bind_some] at af
   split at af
   ·simp at af
   ·rename_i e;simp at af;subst af;exact ⟨List.mem_of_getElem? a3,e⟩
 intro k o af
 obtain ⟨I,R⟩:=lB k o af
 cases c with
 | pure =>
  simp only [e7,Option.some.injEq,Prod.mk.injEq] at h
  obtain ⟨rfl,rfl⟩:=h
  exact ((aK _ (List.mem_singleton.2 rfl):mu row) o I).2
 | gH iP =>
  simp only [e7,Option.some.injEq,Prod.mk.injEq] at h
  obtain ⟨rfl,rfl⟩:=h
  have e:row=iP:=aK _ (by simp)
  have ag:mu iP:=aK _ (by simp)
  exact (ag o (e▸I)).2
 | cK iP =>
  simp only [e7,Option.some.injEq,Prod.mk.injEq] at h
  obtain ⟨rfl,rfl⟩:=h
  have ag:gv row:=aK _ (by simp)
  exact (ag o I).resolve_right R
 | rx iP=>cases row with
  | nil=>simp [e7] at h
  | cons o l=>cases l<;>simp [e7] at h
 | drop=>cases row with
  | nil=>simp [e7] at h
  | cons o l=>cases l<;>simp [e7] at h
 | box l =>
  match row,h,I with
  | [p],h,I =>
   simp only [e7] at h
   rw [List.mem_singleton] at I;subst I
   split at h
   ·split at h
    ·rename_i e;exact e
    ·simp at h
   ·simp at h
  | [],h,_=>simp [e7] at h
  | _::_::_,h,_=>simp [e7] at h
section
variable {P:Program} {g:G} {s:S} {ai:cJ} {a:Act} {w:World}
theorem wC (cd:ep g s ai w){au:dv}{a2:Nat→Option Nat}(H:ia s au a2 l1): ∀(l:List Src) (bs:List eH) (T:List (List ao)) (ad:List Prop),
 hG s.aD a2 au l bs=some (T,ad)→(∀p∈ad,p)→T.length=l.length∧ ∀(j:Nat) cc b,T[j]? = some cc→l[j]? = some b →
  (∀r k o,b.has r k→s.ad r k=some o→o.bn = .live)∧(∀r k,b.has r k→s.az r k→b.h4 k<cc.length) ∧
  (∀r k o,b = .ad r k o→s.ad r k=some o) ∧
  ∀(i:Nat) bf,bN (some cc) i=some bf→ ∃r k o,b.has r k∧i=b.h4 k∧s.ad r k=some o∧jx s au l1 hB o bf
 | [],[],T,ad,h,_=>by
  simp [hG] at h;obtain ⟨rfl,rfl⟩:=h
  exact ⟨rfl,fun j cc r aC=>by simp at aC⟩
 | .row r::l,c::bs,T,ad,h,aK=>by
  simp only [hG] at h
  split at h
  ·rename_i row b2
   split at h
   ·rename_i tO aP iF bb I R
    simp only [Option.some.injEq,Prod.mk.injEq] at h
    obtain ⟨rfl,rfl⟩:=h
    obtain ⟨ar,aE⟩:=wC cd H l bs iF bb R (fun p ag=>aK p (by simp [ag]))
    have f8 : ∀k,s.ad r k=bN (some row) k:=fun k=>by unfold S.ad;rw [b2]
    obtain ⟨f0,f1,f2⟩:=s8 (q:=hB) (fZ:=id) cd H (mL _) (fun k o af=>(f8 k).trans af) I (fun p ag=>aK p (by simp [ag])) (fun _ _ _ _ _ _ _=>trivial)
    refine ⟨by simp [ar],fun j cc b aC a4=> ?_⟩
    cases j with
    | zero =>
     simp at aC a4;subst aC;subst a4
     refine ⟨fun q k o aL af=> ?_,fun q k aL hu=> ?_,fun _ _ _ e=>by simp at e,fun i bf b4=> ?_⟩
     ·have aL:q=r:=aL
      subst aL;rw [f8] at af;exact f1 k o af
     ·have aL:q=r:=aL
      subst aL;rw [f0];simpa [S.az,b2,Src.h4] using hu
     ·obtain ⟨o,g1,g2⟩:=f2 i bf b4
      exact ⟨r,i,o,rfl,rfl,(f8 i).trans g1,g2⟩
    | succ j=>simp at aC a4;exact aE j cc b aC a4
   ·simp at h
  ·simp at h
 | .ad r fM g8::l,c::bs,T,ad,h,aK=>by
  simp only [hG] at h
  split at h
  ·rename_i row b2
   split at h
   ·rename_i tO aP iF bb I R
    simp only [Option.some.injEq,Prod.mk.injEq] at h
    obtain ⟨rfl,rfl⟩:=h
    obtain ⟨ar,aE⟩:=wC cd H l bs iF bb R (fun p ag=>aK p (by simp [ag]))
    have af:s.ad r fM=some g8:=by unfold S.ad;rw [b2];exact aK _ (by simp)
    have hv : ∀k o,bN (some [g8]) k=some o→k=0∧o=g8:=fun k o a3=>by
     rw [hF] at a3;split at a3
     ·rename_i e;simp at a3;exact ⟨e.1,a3.symm⟩
     ·simp at a3
    have xJ:g8.bn≠ .gone:=by
     unfold S.ad at af;rw [b2,gh] at af
     cases a3:row[fM]? with
     | none=>rw [a3] at af;simp at af
     | some p =>
      rw [a3,Option.bind_some] at af;split at af
      ·simp at af
      ·rename_i e;simp at af;subst af;exact e
    obtain ⟨f0,f1,f2⟩:=s8 (q:=hB) (fZ:=fun _=>fM) (r:=r) cd H (mL _) (fun k o a3=>by rw [(hv k o a3).2];exact af) I (fun p ag=>aK p (by simp [ag])) (fun _ _ _ _ _ _ _=>trivial)
    refine ⟨by simp [ar],fun j cc b aC a4=> ?_⟩
    cases j with
    | zero =>
     simp at aC a4;subst aC;subst a4
     refine ⟨fun q k o aL ku=> ?_,fun q k aL hu=> ?_,fun cp bO bf e=> ?_,fun i bf b4=> ?_⟩
     ·obtain ⟨rfl,rfl⟩:q=r∧k=fM:=aL
      rw [af] at ku;simp at ku;subst ku
      exact f1 0 g8 (by rw [hF];simp [xJ])
     ·rw [f0];simp [Src.h4]
     ·cases e;exact af
     ·obtain ⟨o,g1,g2⟩:=f2 i bf b4
      obtain ⟨rfl,rfl⟩:=hv i o g1
      exact ⟨r,fM,o,⟨rfl,rfl⟩,rfl,af,g2⟩
    | succ j=>simp at aC a4;exact aE j cc b aC a4
   ·simp at h
  ·simp at h
 | [],_::_,_,_,h,_=>by simp [hG] at h
 | .row _::_,[],_,_,h,_=>by simp [hG] at h
 | .ad .. :: _,[],_,_,h,_=>by simp [hG] at h
theorem wx {cW:G}{s1:S}{gI:cJ}{a8:World}(cd:ep cW s1 gI a8){gB:dv}{q:aj→Prop}{a2:Nat→Option Nat}(H:ia s1 gB a2 gD)(bc:mi q gD)
 (aL : ∀j i o,s1.ad j i=some o→ ∀e∈o.es,∀x∈e,q x) :
 ∀(l:List Src) (bs:List eH) (T:List (List ao)) (u:List (Nat×List ao)) (ad:List Prop) (n:Nat) (s:S),rz l→(∀j row,T[j]? = some row→s1.aD (n+j)=some row) →
 (∀r k j i,fg n l r k=some (j,i)→s.az r k→s1.az j i)→(∀r k o,Src.ad r k o∈l→s.az r k) →
 gM s1.aD a2 gB s.aD l bs T=some (u,ad)→(∀p∈ad,p)→T.length=l.length∧(s.ej u).E=s.E ∧
  (∀r k o,(s.ej u).ad r k=some o→(∃j i p,fg n l r k=some (j,i)∧s1.ad j i=some p∧jx s1 gB gD q p o)∨(fg n l r k=none∧s.ad r k=some o)) ∧
  (∀r k,s.az r k→(s.ej u).az r k)∧(∀r k j i,fg n l r k=some (j,i)→s1.az j i→(s.ej u).az r k)
 | [],[],[],u,ad,n,s,_,_,_,_,h,_=>by
  simp [gM] at h;obtain ⟨rfl,rfl⟩:=h
  exact ⟨rfl,rfl,fun r k o af=> .inr ⟨rfl,af⟩,fun r k h=>h,fun r k j i h=>by simp [fg] at h⟩
 | .row q0::l,c::bs,row::T,u,ad,n,s,lO,sl,hu,lg,h,aK=>by
  simp only [gM] at h
  split at h
  ·rename_i cc aP I
   split at h
   ·rename_i kE bb R
    simp only [Option.some.injEq,Prod.mk.injEq] at h
    obtain ⟨rfl,rfl⟩:=h
    have rW:=List.pairwise_cons.1 lO
    have jh:s1.aD n=some row:=sl 0 row rfl
    have nI : ∀k,s1.ad n k=bN (some row) k:=fun k=>by unfold S.ad;rw [jh]
    obtain ⟨f0,f1,f2⟩:=s8 (q:=q) (fZ:=id) (r:=n) cd H bc (fun k o af=>(nI k).trans af) I (fun p ag=>aK p (by simp [ag])) (fun k o af=>aL n k o ((nI k).trans af))
    have jv : ∀k j i,fg (n+1) l q0 k≠some (j,i):=fun k j i hm=>by
     obtain ⟨b,eY,d7,kX,yg⟩:=nr hm
     exact rW.1 b (List.mem_of_getElem? d7) q0 k ⟨rfl,kX⟩
    have pd : ∀r k,s.az r k→(s.setRow q0 cc).az r k:=fun r k a3=>by
     rw [iL]
     by_cases e:r=q0
     ·subst e;rw [if_pos rfl,f0]
      have:=hu r k n k (by simp [fg]) a3
      simpa [S.az,jh] using this
     ·rw [if_neg e];exact a3
    obtain ⟨ar,aE,br,de,ee⟩:=wx cd H bc aL l bs T kE bb (n+1) (s.setRow q0 cc) rW.2 (fun j row aC=>by rw [Nat.add_assoc,Nat.add_comm 1 j];exact sl (j+1) row (by simpa using aC))
     (fun r k j i hm a3=>by
       have b6:r≠q0:=by rintro rfl;exact jv _ _ _ hm
       refine hu r k j i ?_ (by rw [iL,if_neg b6] at a3;exact a3)
       rw [ly n (.row q0) l r k b6];exact hm)
     (fun r k o hm=>pd r k (lg r k o (by simp [hm]))) R (fun p ag=>aK p (by simp [ag]))
    refine ⟨by simp [ar],aE,fun r k o af=> ?_,fun r k a3=>de r k (pd r k a3),fun r k j i hm a3=> ?_⟩
    ·rcases br r k o af with ⟨j,i,p,eY,d7,kX⟩|⟨eY,d7⟩
     ·have b6:r≠q0:=by rintro rfl;exact jv _ _ _ eY
      exact .inl ⟨j,i,p,by rw [ly n (.row q0) l r k b6];exact eY,d7,kX⟩
     ·rw [ha] at d7
      by_cases e:r=q0
      ·subst e
       rw [if_pos rfl] at d7
       obtain ⟨p,g1,g2⟩:=f2 k o d7
       exact .inl ⟨n,k,p,by simp [fg],(nI k).trans g1,g2⟩
      ·rw [if_neg e] at d7
       exact .inr ⟨by rw [ly n (.row q0) l r k e];exact eY,d7⟩
    ·by_cases e:r=q0
     ·subst e
      simp only [fg,if_true] at hm
      simp only [Option.some.injEq,Prod.mk.injEq] at hm
      obtain ⟨rfl,rfl⟩:=hm
      refine de r k ?_
      rw [iL,if_pos rfl,f0]
      simpa [S.az,jh] using a3
     ·rw [ly n (.row q0) l r k e] at hm
      exact ee r k j i hm a3
   ·simp at h
  ·simp at h
 | .ad q0 fM g8::l,c::bs,row::T,u,ad,n,s,lO,sl,hu,lg,h,aK=>by
  simp only [gM] at h
  split at h
  ·rename_i hd tP
   split at h
   ·rename_i bf aP I
    split at h
    ·rename_i kE bb R
     simp only [Option.some.injEq,Prod.mk.injEq] at h
     obtain ⟨rfl,rfl⟩:=h
     have rW:=List.pairwise_cons.1 lO
     have jh:s1.aD n=some row:=sl 0 row rfl
     have nI : ∀k,s1.ad n k=bN (some row) k:=fun k=>by unfold S.ad;rw [jh]
     obtain ⟨f0,f1,f2⟩:=s8 (q:=q) (fZ:=id) (r:=n) cd H bc (fun k o af=>(nI k).trans af) I (fun p ag=>aK p (by simp [ag])) (fun k o af=>aL n k o ((nI k).trans af))
     have jv : ∀j i,fg (n+1) l q0 fM≠some (j,i):=fun j i hm=>by
      obtain ⟨b,eY,d7,kX,yg⟩:=nr hm
      exact rW.1 b (List.mem_of_getElem? d7) q0 fM ⟨⟨rfl,rfl⟩,kX⟩
     have pd : ∀r k,s.az r k→(s.setRow q0 (hd.set fM bf)).az r k:=sN s tP (by simp)
     have rV:fM<hd.length:=by have:=lg q0 fM g8 (by simp);simpa [S.az,tP] using this
     obtain ⟨ar,aE,br,de,ee⟩:=wx cd H bc aL l bs T kE bb (n+1) (s.setRow q0 (hd.set fM bf)) rW.2 (fun j row aC=>by rw [Nat.add_assoc,Nat.add_comm 1 j];exact sl (j+1) row (by simpa using aC))
      (fun r k j i hm a3=>by
        have b6 : ¬(Src.ad q0 fM g8).has r k:=by rintro ⟨rfl,rfl⟩;exact jv _ _ hm
        refine hu r k j i (by rw [ly n _ l r k b6];exact hm) ?_
        rw [iL] at a3
        split at a3
        ·rename_i e;subst e;simpa [S.az,tP] using a3
        ·exact a3)
      (fun r k o hm=>pd r k (lg r k o (by simp [hm]))) R (fun p ag=>aK p (by simp [ag]))
     refine ⟨by simp [ar],aE,fun r k o af=> ?_,fun r k a3=>de r k (pd r k a3),fun r k j i hm a3=> ?_⟩
     ·rcases br r k o af with ⟨j,i,p,eY,d7,kX⟩|⟨eY,d7⟩
      ·have b6 : ¬(Src.ad q0 fM g8).has r k:=by rintro ⟨rfl,rfl⟩;exact jv _ _ eY
       exact .inl ⟨j,i,p,by rw [ly n _ l r k b6];exact eY,d7,kX⟩
      ·rw [ha] at d7
       by_cases e:r=q0
       ·subst e
        rw [if_pos rfl,gh,List.getElem?_set] at d7
        by_cases aE:fM=k
        ·subst aE
         rw [if_pos rfl,if_pos rV,Option.bind_some] at d7
         have kX:bN (some [bf]) 0=some o:=by rw [gh];exact d7
         obtain ⟨p,g1,g2⟩:=f2 0 o kX
         exact .inl ⟨n,0,p,by simp [fg],(nI 0).trans g1,g2⟩
        ·rw [if_neg aE] at d7
         have b6 : ¬(Src.ad r fM g8).has r k:=by rintro ⟨-,rfl⟩;exact aE rfl
         exact .inr ⟨by rw [ly n _ l r k b6];exact eY,by unfold S.ad;rw [tP,gh];exact d7⟩
       ·rw [if_neg e] at d7
        have b6 : ¬(Src.ad q0 fM g8).has r k:=by rintro ⟨rfl,-⟩;exact e rfl
        exact .inr ⟨by rw [ly n _ l r k b6];exact eY,d7⟩
     ·by_cases e:(Src.ad q0 fM g8).has r k
      ·obtain ⟨rfl,rfl⟩:=e
       exact de r k (pd r k (lg r k g8 (by simp)))
      ·rw [ly n _ l r k e] at hm
       exact ee r k j i hm a3
    ·simp at h
   ·simp at h
  ·simp at h
 | [],[],_::_,_,_,_,_,_,_,_,_,h,_=>by simp [gM] at h
 | [],_::_,_,_,_,_,_,_,_,_,_,h,_=>by simp [gM] at h
 | .row _::_,[],_,_,_,_,_,_,_,_,_,h,_=>by simp [gM] at h
 | .ad .. :: _,[],_,_,_,_,_,_,_,_,_,h,_=>by simp [gM] at h
 | .row _::_,_::_,[],_,_,_,_,_,_,_,_,h,_=>by simp [gM] at h
 | .ad .. :: _,_::_,[],_,_,_,_,_,_,_,_,h,_=>by simp [gM] at h
theorem Ak (h:bz g s ai a w){aw:Nat}(cv:s.aD aw=none){f:FuncId}{args:List aj}{bm:sf}{l:List Src}(jw:l=if bm.bW.length=bm.au.length then bm.au else bm.au++[.row aw])
 (lO:rz bm.au) (nR : ∀a∈bm.au,a.r≠aw) {bg:c3→Bool} {A:Nat→Prop} {q:aj→Prop} {T:List (List ao)} {a2:Nat→Option Nat}
 (hA : ∀b,A b→b<w.heap.size) (xE : ∀b,s.ok g ai w b→A b) (xF : ∀r k o b m,s.ad r k=some o→bg o.bn=true→ai r k=some (b,m)→A b)
 (II:(∀b,A b→s.ok g ai w b)∨(∀x,q x→aT x)) (bc:mi q gD) (uQ:ia s (gy bm.au) a2 bg)
 (bL:kv s (gy bm.au) bg hB (cA T).aD) (kl : ∀r k o,(∃j i,gy bm.au j i=some (r,k))→s.ad r k=some o→o.bn = .live) (hex : ∀r k o,Src.ad r k o∈bm.au→s.az r k)
 {kN:List aj} {aP:List Prop} (pi:hc (i6 s.aD a2 (gy bm.au) bg) bm.ac args=some (kN,aP)) (lh : ∀p∈aP,p)
 {cp:aj} {db:List Prop} (pk:i6 (fun j=>bm.bW[j]?) (l2 l) (fg 0 l) gD bm.cz bm.r=some (cp,db)) (xK : ∀p∈db,p)
 {u:List (Nat×List ao)} {d2:List Prop} (rX:gM (fun j=>bm.bW[j]?) (l2 l) (fg 0 l) s.aD l bm.cO bm.bW=some (u,d2)) (IJ : ∀p∈d2,p)
 (pe:Con P f kN T bm.r bm.bW) (IK:q bm.r) (IL : ∀j i o,(cA bm.bW).ad j i=some o→ ∀e∈o.es,∀x∈e,q x)
 {vs:List Value} (aB:vs.length=args.length) (hargs : ∀(j:Nat) x v,args[j]? = some x→vs[j]? = some v→Rel w (s.ok g ai w) s.az (s.aG ai) x v) :
 s9 P f∧Calls P f vs.toArray w fun e a8=> ∃v a5,e = .returned v∧bz g (s.ej u) a5 a a8∧Rel a8 ((s.ej u).ok g a5 a8) (s.ej u).az ((s.ej u).aG a5) cp v:=by
 have xL:rz l:=by
  subst jw
  split
  ·exact lO
  ·refine List.pairwise_append.2 ⟨lO,List.pairwise_singleton _ _,fun b a4 c aY r k cV=> ?_⟩
   rw [List.mem_singleton] at aY;subst aY
   have I:r=aw:=cV.2
   subst I
   cases b with
   | row r0=>exact nR _ a4 (Eq.symm cV.1)
   | ad r0 fM g8=>exact nR _ a4 (Eq.symm cV.1.1)
 have IM : ∀(j:Nat) b,bm.au[j]? = some b→l[j]? = some b:=by
  intro j b aC
  subst jw
  split
  ·exact aC
  ·rw [List.getElem?_append_left (dr aC)];exact aC
 have B0 : ∀(j:Nat) b,l[j]? = some b→bm.au[j]? = some b∨b = .row aw:=by
  intro j b aC
  subst jw
  split at aC
  ·exact .inl aC
  ·rw [List.getElem?_append] at aC
   split at aC
   ·exact .inl aC
   ·right
    have:=dr aC
    simp at this
    rw [show j-bm.au.length=0 by omega] at aC
    simpa using aC.symm
 refine ⟨pe.1,?_⟩
 obtain ⟨cW,cq,dJ,ek,yh,hD,gC,lo,mT⟩:=enter h.toep A hA xE xF bL kl
 obtain ⟨ar,aE,br⟩:=s7 _ _ _ _ _ pi
 have:=pe.2 cW (fz ai (gy bm.au)) w vs.toArray cq ek yh hD lo (by simp [aB,ar]) (by
  intro j bx v b1 aZ
  have aC:j<args.length:=by have:=dr b1;omega
  have ab:=List.getElem?_eq_getElem aC
  obtain ⟨c,bf,f1,f2,f3⟩:=br j _ bx ab b1
  have tZ:vs[j]? = some v:=by simpa using aZ
  exact mT (qI h.toep uQ (mL _) f2 (fun p ag=>lh p (f3 p ag)) trivial (hargs j _ v ab tZ)) (hargs j _ v ab tZ))
 refine this.mono fun e a8 rG=> ?_
 obtain ⟨v,gI,rfl,ul,aZ⟩:=rG
 have CA:ia (cA bm.bW) (fg 0 l) (l2 l) gD:=by
  refine ⟨fun j r aC k=> ?_,fun _ _ _ _ _ bJ=>by simp [gD] at bJ⟩
  unfold l2 at aC
  split at aC
  ·rename_i r0 kw
   simp at aC;subst aC
   have:=qY (n:=0) (r:=r0) (k:=k) xL kw rfl
   simpa [Src.h4] using this
  ·simp at aC
 have q8 : ∀j i r k,gy bm.au j i=some (r,k)→fg 0 l r k=some (j,i):=fun j i r k hm=>by
  obtain ⟨b,eY,d7,rfl⟩:=mw.1 hm
  have:=qY (n:=0) xL (IM j b eY) d7
  simpa using this
 have tM : ∀r k j i,fg 0 l r k=some (j,i)→gy bm.au j i=some (r,k)∨ ¬s.az r k:=fun r k j i hm=>by
  obtain ⟨b,-,d7,kX,yg⟩:=nr hm
  rcases B0 j b (by simpa using d7) with e|e
  ·exact .inl (mw.2 ⟨b,e,kX,yg⟩)
  ·subst e
   have:r=aw:=kX
   subst this
   exact .inr (oz cv k)
 obtain ⟨h9,kE,gk,Jl,Jm⟩:=wx (s1:=cA bm.bW) ul CA bc IL l bm.cO bm.bW u d2 0 s xL (fun j row aC=>by simpa [cA] using aC)
  (fun r k j i hm a3=>by
    rcases tM r k j i hm with e|e
    ·exact (ul.stay j i (by rw [yh];exact bL.az _ _ _ _ e a3)).1
    ·exact absurd a3 e)
  (fun r k o hm=>by
    obtain ⟨j,aC⟩:=List.getElem?_of_mem hm
    rcases B0 j _ aC with e|e
    ·exact hex r k o (List.mem_of_getElem? e)
    ·cases e) rX IJ
 obtain ⟨g7,f1,f2⟩:=leave (q0:=hB) (q:=q) h cq (by rw [dJ];exact II) yh hD gC kl bL ul q8 tM (fun r k cp bO p=>GK) (s2:=s.ej u) kE gk Jl Jm
  (qI ul CA bc pk xK IK aZ) aZ
 exact ⟨v,g7,rfl,f1,f2⟩
theorem E0 (h:bz g s ai a w){aw:Nat}(cv:s.aD aw=none){f:FuncId}{args:List aj}{bm:sf}{aV:et}(ah:o6 P s.aD aw f args bm=some aV)(bt:∀p∈aV.cR,p)
 {vs:List Value} (aB:vs.length=args.length) (hargs : ∀(j:Nat) x v,args[j]? = some x→vs[j]? = some v→Rel w (s.ok g ai w) s.az (s.aG ai) x v) :
 s9 P f∧Calls P f vs.toArray w fun e a8=> ∃v a5,e = .returned v∧bz g (s.ej aV.cZ) a5 a a8∧Rel a8 ((s.ej aV.cZ).ok g a5 a8) (s.ej aV.cZ).az ((s.ej aV.cZ).aG a5) aV.val v:=by
 unfold o6 at ah
 simp only at ah
 generalize jw:(if bm.bW.length=bm.au.length then bm.au else bm.au++[.row aw])=l at ah
 split at ah
 ·simp at ah
 ·rename_i g8 IP
  split at ah
  ·simp at ah
  ·rename_i Ib
   have nR : ∀a∈bm.au,a.r≠aw:=fun b a4 e=>Ib (List.any_eq_true.2 ⟨b,a4,by simpa using e⟩)
   split at ah
   ·
    split at ah
    ·rename_i mM
     split at ah
     ·rename_i kN aP cp db u d2 pi pk rX
      simp only [Option.some.injEq] at ah
      subst ah
      have pe:Con P f kN [] bm.r bm.bW:=bt _ (by simp)
      have rY:aT bm.r:=bt _ (by simp)
      have Ic:eN bm.bW:=by
       by_cases e:bm.bW=[]
       ·rw [e];intro row b2;simp at b2
       ·exact bt _ (by
         have:bm.bW.isEmpty=false:=by simpa [List.isEmpty_iff] using e
         simp [this])
      refine Ak (bg:=gO) (A:=fun b=>b<w.heap.size) (q:=aT) (T:=[]) (a2:=fun _=>none) h cv jw.symm (by rw [mM];exact List.Pairwise.nil) nR (fun _ a4=>a4) (fun b a4=>a4.1)
       (fun r k o b m af _ ag=>qW h.toep af ag) (.inr fun _ ab=>ab) ID ?_ ?_ ?_ ?_ (by rw [mM];exact pi) (fun p ag=>bt p (by simp [ag])) pk (fun p ag=>bt p (by simp [ag])) rX (fun p ag=>bt p (by simp [ag])) pe rY ?_ aB hargs
      ·refine ⟨fun _ _ e=>by simp at e,fun r _ k o _ _ j i e=> ?_⟩
       rw [mM] at e;simp [gy] at e
      ·refine ⟨fun j i fD fq p e=> ?_,fun j i bf e=> ?_,fun j i r k e=> ?_⟩
       ·rw [mM] at e;simp [gy] at e
       ·simp [cA,bN] at e
       ·rw [mM] at e;simp [gy] at e
      ·rintro r k o ⟨j,i,e⟩
       rw [mM] at e;simp [gy] at e
      ·rintro r k o e
       rw [mM] at e;simp at e
      ·intro j i o af e he x ab
       have af:bN (bm.bW[j]?) i=some o:=af
       cases an:bm.bW[j]? with
       | none=>rw [an] at af;simp [bN] at af
       | some row =>
        rw [an,gh] at af
        cases a3:row[i]? with
        | none=>rw [a3] at af;simp at af
        | some p =>
         rw [a3,Option.bind_some] at af
         split at af
         ·simp at af
         ·simp at af;subst af
          exact Ic row (List.mem_of_getElem? an) p (List.mem_of_getElem? a3) e he x ab
     ·simp at ah
    ·simp at ah
   ·split at ah
    ·rename_i kN aP T bb cp db u d2 pi pj pk rX
     simp only [Option.some.injEq] at ah
     subst ah
     have lO:=Aj IP fun p ag=>bt p (by simp [ag])
     have pe:Con P f kN T bm.r bm.bW:=bt _ (by simp)
     have aA : ∀r j,jS 0 bm.au r=some j→ ∀k,gy bm.au j k=some (r,k):=fun r j aC k=>by
      obtain ⟨-,R⟩:=wB aC
      simp only [gy,show bm.au[j]? = some (.row r) by simpa using R]
     have xH : ∀(l:List Src) (bs:List eH) (T:List (List ao)) (ad:List Prop),hG s.aD (jS 0 bm.au) (gy bm.au) l bs=some (T,ad)→(∀p∈ad,p) →
      ∀b∈l,∀r k o,b.has r k→s.ad r k=some o→o.bn≠ .lb:=by
      intro l
      induction l with
      | nil=>intro _ _ _ _ _ b a4;simp at a4
      | cons b l ih =>
       intro bs T ad h0 aK c aY r k o cV af
       cases bs with
       | nil=>cases b<;>simp [hG] at h0
       | cons dp bs =>
        cases b with
        | row r0 =>
         simp only [hG] at h0
         split at h0
         ·rename_i row b2
          split at h0
          ·rename_i tO eG iF eA I R
           simp only [Option.some.injEq,Prod.mk.injEq] at h0
           obtain ⟨rfl,rfl⟩:=h0
           rcases List.mem_cons.1 aY with rfl|aY
           ·have e:r=r0:=cV
            subst e
            have b4:bN (some row) k=some o:=by unfold S.ad at af;rw [b2] at af;exact af
            have:=zD I (fun p ag=>aK p (by simp [ag])) k o b4
            rw [this];simp
           ·exact ih bs iF eA R (fun p ag=>aK p (by simp [ag])) c aY r k o cV af
          ·simp at h0
         ·simp at h0
        | ad r0 fM g8 =>
         simp only [hG] at h0
         split at h0
         ·rename_i row b2
          split at h0
          ·rename_i tO eG iF eA I R
           simp only [Option.some.injEq,Prod.mk.injEq] at h0
           obtain ⟨rfl,rfl⟩:=h0
           rcases List.mem_cons.1 aY with rfl|aY
           ·obtain ⟨rfl,rfl⟩:=cV
            have lh:bN (some row) k=some g8:=aK _ (by simp)
            have b4:bN (some row) k=some o:=by unfold S.ad at af;rw [b2] at af;exact af
            rw [lh] at b4;simp at b4;subst b4
            have xJ:g8.bn≠ .gone:=by
             rw [gh] at lh
             cases a3:row[k]? with
             | none=>rw [a3] at lh;simp at lh
             | some p =>
              rw [a3,Option.bind_some] at lh;split at lh
              ·simp at lh
              ·rename_i e;simp at lh;subst lh;exact e
            have:=zD I (fun p ag=>aK p (by simp [ag])) 0 g8 (by rw [hF];simp [xJ])
            rw [this];simp
           ·exact ih bs iF eA R (fun p ag=>aK p (by simp [ag])) c aY r k o cV af
          ·simp at h0
         ·simp at h0
     have uQ:ia s (gy bm.au) (jS 0 bm.au) l1:=by
      refine ⟨aA,fun r an k o af bJ j i hm=> ?_⟩
      obtain ⟨b,eY,d7,-⟩:=mw.1 hm
      exact xH bm.au bm.bs T bb pj (fun p ag=>bt p (by simp [ag])) b (List.mem_of_getElem? eY) r k o d7 af (by simpa [l1] using bJ)
     obtain ⟨t1,t2⟩:=wC h.toep uQ bm.au bm.bs T bb pj (fun p ag=>bt p (by simp [ag]))
     have hz : ∀j b,bm.au[j]? = some b→ ∃cc,T[j]? = some cc:=fun j b aC=>by
      have:j<T.length:=by have:=dr aC;omega
      exact ⟨_,List.getElem?_eq_getElem this⟩
     refine Ak (bg:=l1) (A:=s.ok g ai w) (q:=hB) (T:=T) h cv jw.symm lO nR (fun b a4=>a4.1) (fun b a4=>a4)
      (fun r k o b m af a3 ag=>Hc h.toep af (by simpa [l1] using a3) ag) (.inl fun _ a4=>a4) (mL _) uQ ?_ ?_ ?_ pi (fun p ag=>bt p (by simp [ag])) pk (fun p ag=>bt p (by simp [ag])) rX
      (fun p ag=>bt p (by simp [ag])) pe trivial (fun _ _ _ _ _ _ _ _=>trivial) aB hargs
     ·refine ⟨fun j i fD fq p e cB=> ?_,fun j i bf b4=> ?_,fun j i r k e hu=> ?_⟩
      ·obtain ⟨r,k⟩:=p
       obtain ⟨b,eY,d7,rfl⟩:=mw.1 e
       obtain ⟨gb,IQ,IR,rfl⟩:=mw.1 cB
       have ar:=qY (n:=0) lO eY d7
       have aE:=qY (n:=0) lO IQ IR
       rw [ar] at aE
       simpa using aE
      ·have aC:j<T.length:=by
        rcases Nat.lt_or_ge j T.length with e|e
        ·exact e
        ·have:(cA T).aD j=none:=List.getElem?_eq_none e
         rw [this] at b4;simp [bN] at b4
       have B1:T[j]? = some T[j]:=List.getElem?_eq_getElem aC
       have B2:bm.au[j]? = some (bm.au[j]'(by omega)):=List.getElem?_eq_getElem (by omega)
       have ku:bN (some T[j]) i=some bf:=by have:(cA T).aD j=some T[j]:=B1;rw [this] at b4;exact b4
       obtain ⟨r,k,o,d9,dc,Jn,Jo⟩:=(t2 j _ _ B1 B2).2.2.2 i bf ku
       exact ⟨r,k,o,mw.2 ⟨_,B2,d9,dc⟩,Jn,Jo⟩
      ·obtain ⟨b,eY,d7,rfl⟩:=mw.1 e
       obtain ⟨cc,lz⟩:=hz j b eY
       have:=(t2 j cc b lz eY).2.1 r k d7 hu
       show b.h4 k<((T[j]?).getD []).length
       rw [lz];exact this
     ·rintro r k o ⟨j,i,e⟩ af
      obtain ⟨b,eY,d7,-⟩:=mw.1 e
      obtain ⟨cc,lz⟩:=hz j b eY
      exact (t2 j cc b lz eY).1 r k o d7 af
     ·intro r k o hm
      obtain ⟨j,aC⟩:=List.getElem?_of_mem hm
      obtain ⟨cc,lz⟩:=hz j _ aC
      exact s6 ((t2 j cc _ lz aC).2.2.1 r k o rfl)
    ·simp at ah
end
end Go.VL
