/- Lemmas, plain functions of the program, and what they answer. No condition. -/
import Derived.Below
import Derived.Eval
import Derived.KernelRfl
import Derived.Laws.Append
import Derived.Laws.AppendOwn
import Derived.Laws.BytesString
import Derived.Laws.Cells
import Derived.Laws.CopyRow
import Derived.Laws.Entries
import Derived.Laws.MakeOwn
import Derived.Laws.OwnMore
import Derived.Laws.Rows
import Derived.Laws.Slices
import Derived.Laws.Tables
import Derived.Orders
namespace Go.VL
set_option linter.unusedVariables false
set_option linter.unusedSimpArgs false
open Go
abbrev ar:=List Int
theorem dw{c:Prop}{h:Decidable c}(i:c){α:Sort _}{t e:α}:ite c t e=t:=if_pos i
theorem dx{α β:Type _}(a:α)(f:α->Option β):(some a).bind f=f a:=rfl
theorem dy(n:Nat):(n:Int).toNat=n:=rfl
theorem dz{α:Type _}{l:List α}{i:Nat}(h:i<l.length):l[i]? = some l[i]:=List.getElem?_eq_getElem h
theorem dA{c:Prop}{h:Decidable c}(i:¬c){α:Sort _}{t e:α}:ite c t e=e:=if_neg i
theorem dB{α:Type _}(a b:α):(some a=some b)=(a=b):=Option.some.injEq a b
theorem dC{α β:Type _}:bind=@Option.bind α β:=rfl
theorem dD(n:Nat):n<=n:=Nat.le_refl n
theorem dE{α β:Type _}(a:α)(b:β)(c:α)(d:β):((a,b)=(c,d))=(a=c/\b=d):=Prod.mk.injEq a b c d
theorem dF{α:Type _}{a b:List α}:(a++b).length=a.length+b.length:=List.length_append
theorem dG(n:Nat):0+n=n:=Nat.zero_add n
theorem dH{α:Type _}{l:List α}{i:Nat}{a:α}(e:l[i]? = some a):a∈l:=List.mem_of_getElem? e
theorem dI{α:Type _}{a b:α}(h:some a=some b):a=b:=Option.some.inj h
theorem dJ{α β:Type _}{f:α->β}{l:List α}{i:Nat}:(l.map f)[i]? =l[i]?.map f:=List.getElem?_map
theorem dK{a b c:Int}(h:a<=b)(i:0<=c):c*a<=c*b:=Int.mul_le_mul_of_nonneg_left h i
theorem dL(a b:Bool):((a&&b)=true)=(a=true/\b=true):=Bool.and_eq_true a b
theorem dM{n m:Nat}(k:Nat)(h:n<=m):n*k<=m*k:=Nat.mul_le_mul_right k h
theorem dN(a b:Int):((a*b:Int):Rat)=a*b:=Rat.intCast_mul a b
theorem dO{a b:Rat}(h:0<=a)(i:0<=b):0<=a*b:=Rat.mul_nonneg h i
inductive aG where
 | dead
 | b (x:Bool)
 | n (k:IntKind) (x:Int)
 | s (x:ByteArray)
 | jA
 | fv
 | jQ
 | ref (r k i off:Nat)
 | bc (r k b6 len:Nat)
 | jR (r c sz:Nat) (h:Option (Nat×Nat))
 | isl (sz:Nat) (es:List (List aG))
 | fg (sz:Nat) (es:List (List aG)) (i off:Nat)
 | f6 (sz:Nat) (c:Option (List aG))
 | agg (c:List aG)
 | de (vs:List aG)
 | fn (f:Nat) (cap:List aG)
 deriving Inhabited
inductive hc where
 | live|jS|gone
 deriving DecidableEq,Inhabited
structure a9 where
 sz:Nat
 es:List (List aG)
 cN:hc
 deriving Inhabited
structure S where
 E:Nat->aG
 a0:Nat->Option (List a9)
abbrev lg (v:Value):Bool:=v.oneCell'
abbrev gh:=Nat->Nat->Option (Nat×Nat)
abbrev j2:=Nat->Nat->Option (Nat×Option (Nat×Nat))
abbrev kd:=Nat->Nat->Prop
inductive Pure:aG->Prop
 | dead:Pure .dead
 | b (x:Bool):Pure (.b x)
 | n (k:IntKind) (x:Int):Pure (.n k x)
 | s (x:ByteArray):Pure (.s x)
 | jA:Pure .jA
 | fv:Pure .fv
 | jQ:Pure .jQ
 | isl {sz:Nat} {es:List (List aG)} (h : ∀e∈es,∀x∈e,Pure x):Pure (.isl sz es)
 | fg {sz i off:Nat} {es:List (List aG)} (h : ∀e∈es,∀x∈e,Pure x):Pure (.fg sz es i off)
 | qW (sz:Nat):Pure (.f6 sz none)
 | qi {sz:Nat} {c:List aG} (h : ∀x∈c,Pure x):Pure (.f6 sz (some c))
 | agg {c:List aG} (h : ∀x∈c,Pure x):Pure (.agg c)
 | de {c:List aG} (h : ∀x∈c,Pure x):Pure (.de c)
 | fn {f:Nat} {c:List aG} (h : ∀x∈c,Pure x):Pure (.fn f c)
def jx (es:List (List aG)):Prop:= ∀e∈es,∀x∈e,Pure x
inductive Rel (w:World) (ok:Nat->Prop) (bf:kd) (bk:j2):aG->Value->Prop
 | dead (v:Value):Rel w ok bf bk .dead v
 | b (x:Bool):Rel w ok bf bk (.b x) (.bool x)
 | n (k:IntKind) (x:Int):Rel w ok bf bk (.n k x) (.int k x)
 | s (x:ByteArray):Rel w ok bf bk (.s x) (.string x)
 | jA:Rel w ok bf bk .jA (.pointer none)
 | fv:Rel w ok bf bk .fv (.slice none 0 0)
 | jQ (a:Addr) (c:Nat):Rel w ok bf bk .jQ (.slice (some a) 0 c)
 | rq {r k i off:Nat} (a:Option Addr) (hu:bf r k) (h : ∀sz p,bk r k≠some (sz,some p)):Rel w ok bf bk (.ref r k i off) (.pointer a)
 | ref {r k i off sz eV m:Nat} (hu:bf r k) (h:bk r k=some (sz,some (eV,m))):Rel w ok bf bk (.ref r k i off) (.pointer (some ⟨eV,i*sz+off,none⟩))
 | ov {r k b6 len:Nat} (a:Option Addr) (l c:Nat) (hu:bf r k) (h:bk r k=none):Rel w ok bf bk (.bc r k b6 len) (.slice a l c)
 | oV {r k sz:Nat} (hu:bf r k) (h:bk r k=some (sz,none)):Rel w ok bf bk (.bc r k 0 0) (.slice none 0 0)
 | bc {r k b6 len sz eV m c:Nat} {a:Option Addr} (hu:bf r k) (h:bk r k=some (sz,some (eV,m))) (aV:len<=c) (aY:c<9223372036854775808)
  (hm:(b6+c)*sz=m/\(c=0\/a=some ⟨eV,b6*sz,none⟩)):Rel w ok bf bk (.bc r k b6 len) (.slice a len c)
 | nU {r c sz:Nat} {v:Value} (h:Rel w ok bf bk (.isl sz []) v):Rel w ok bf bk (.jR r c sz none) v
 | o7 {r c sz k n:Nat} {v:Value} (h:Rel w ok bf bk (.bc r (k+c) 0 n) v):Rel w ok bf bk (.jR r c sz (some (k,n))) v
 | li (sz:Nat) (a:Option Addr) (c:Nat) (h:a=none->c=0):Rel w ok bf bk (.isl sz []) (.slice a 0 c)
 | isl {sz:Nat} {es:List (List aG)} {eV off c:Nat} (cs:Nat->Value) (aW:ok eV) (ah:jx es) (aV : ∀e∈es,e.length=sz) (aY:es.length<=c)
  (hw : ∀(j:Nat) x,es.flatten[j]? = some x->w.cell? ⟨eV,off+j,none⟩=some (cs j)) (k8 : ∀(j:Nat) x,es.flatten[j]? = some x->lg (cs j)=true)
  (ai : ∀(j:Nat) x,es.flatten[j]? = some x->Rel w ok bf bk x (cs j)):Rel w ok bf bk (.isl sz es) (.slice (some ⟨eV,off,none⟩) es.length c)
 | fg {sz:Nat} {es:List (List aG)} {eV o i off:Nat} (cs:Nat->Value) (aW:ok eV) (ah:jx es) (aV : ∀e∈es,e.length=sz)
  (hw : ∀(j:Nat) x,es.flatten[j]? = some x->w.cell? ⟨eV,o+j,none⟩=some (cs j)) (k8 : ∀(j:Nat) x,es.flatten[j]? = some x->lg (cs j)=true)
  (ai : ∀(j:Nat) x,es.flatten[j]? = some x->Rel w ok bf bk x (cs j)):Rel w ok bf bk (.fg sz es i off) (.pointer (some ⟨eV,o+(i*sz+off),none⟩))
 | qW (sz:Nat):Rel w ok bf bk (.f6 sz none) (.pointer none)
 | qi {sz:Nat} {c:List aG} {v:Value} (h:Rel w ok bf bk (.fg sz [c] 0 0) v):Rel w ok bf bk (.f6 sz (some c)) v
 | agg {c:List aG} (vs:List Value) (aV:vs.length=c.length) (k8 : ∀(j:Nat) v,vs[j]? = some v->lg v=true)
  (ai : ∀(j:Nat) x v,c[j]? = some x->vs[j]? = some v->Rel w ok bf bk x v):Rel w ok bf bk (.agg c) (.agg vs.toArray)
 | de {c:List aG} (vs:List Value) (aV:vs.length=c.length)
  (ai : ∀(j:Nat) x v,c[j]? = some x->vs[j]? = some v->Rel w ok bf bk x v):Rel w ok bf bk (.de c) (.tuple vs.toArray)
 | fn {f:Nat} {c:List aG} (vs:List Value) (aV:vs.length=c.length)
  (ai : ∀(j:Nat) x v,c[j]? = some x->vs[j]? = some v->Rel w ok bf bk x v):Rel w ok bf bk (.fn f c) (.func (.func f) #[] vs.toArray)
theorem Rel.mono {w bT:World}{ok lZ:Nat->Prop}{bf n0:kd}{bk ns:j2}{a:aG}{v:Value}(h:Rel w ok bf bk a v)
 (lk : ∀b,ok b->lZ b) (hw : ∀b,ok b->bT.heap[b]? = w.heap[b]?)
 (km : ∀r k,bf r k->n0 r k) (mu : ∀r k,bf r k->ns r k=bk r k\/ns r k=none):Rel bT lZ n0 ns a v:=by
 have k8 : ∀b o,ok b->bT.cell? ⟨b,o,none⟩=w.cell? ⟨b,o,none⟩:=fun b o aW=>World.cell?_of_block (hw b aW)
 induction h with
 | dead v=>exact .dead v
 | b x=>exact .b x
 | n k x=>exact .n k x
 | s x=>exact .s x
 | jA=>exact .jA
 | fv=>exact .fv
 | jQ a c=>exact .jQ a c
 | @rq r k i off a hu h =>
  refine .rq a (km r k hu) fun sz p=> ?_;rcases mu r k hu with e|e<;>rw[e]
  ·exact h sz p
  ·simp
 | @ref r k i off sz eV m hu h =>
  rcases mu r k hu with e|e
  ·exact .ref (km r k hu) (e.trans h)
  ·exact .rq _ (km r k hu) fun sz p=>by rw[e];simp
 | @ov r k b6 len a l c hu h=>exact .ov a l c (km r k hu) (by rcases mu r k hu with e|e<;>rw[e];exact h)
 | @oV r k sz hu h =>
  rcases mu r k hu with e|e
  ·exact .oV (km r k hu) (e.trans h)
  ·exact .ov _ _ _ (km r k hu) e
 | @bc r k b6 len sz eV m c a hu h aV aY hm =>
  rcases mu r k hu with e|e
  ·exact .bc (km r k hu) (e.trans h) aV aY hm
  ·exact .ov _ _ _ (km r k hu) e
 | nU h ih=>exact .nU ih
 | o7 h ih=>exact .o7 ih
 | li sz a c h=>exact .li sz a c h
 | isl cs aW ah aV aY FR i7 ai ih=>exact .isl cs (lk _ aW) ah aV aY (fun j x aa=>(k8 _ _ aW).trans (FR j x aa)) i7 ih
 | fg cs aW ah aV FR i7 ai ih=>exact .fg cs (lk _ aW) ah aV (fun j x aa=>(k8 _ _ aW).trans (FR j x aa)) i7 ih
 | qW sz=>exact .qW sz
 | qi h ih=>exact .qi ih
 | agg vs aV i7 ai ih=>exact .agg vs aV i7 ih
 | de vs aV ai ih=>exact .de vs aV ih
 | fn vs aV ai ih=>exact .fn vs aV ih
structure G where
 nc:World
 A:Nat->Prop
 q9:Nat->Prop
 N:Nat
 m:Nat
 qo:kd
 tz:j2
def S.bf (s:S)(r k:Nat):Prop:=k<((s.a0 r).getD []).length
def dZ (row:Option (List a9))(k:Nat):Option a9 :=
 match row with
 | some l=>match l[k]? with
  | some o=>if o.cN = .gone then none else some o
  | none=>none
 | none=>none
def S.an (s:S)(r k:Nat):Option a9:=dZ (s.a0 r) k
def S.bk (s:S)(aF:gh):j2:=fun r k=>(s.an r k).map fun o=>(o.sz,aF r k)
def S.m1 (s:S)(aF:gh)(b:Nat):Prop:= ∃r k o m,s.an r k=some o/\o.cN = .live/\aF r k=some (b,m)
def S.ok (s:S)(g:G)(aF:gh)(w:World)(b:Nat):Prop :=
 b<w.heap.size/\(g.A b\/g.nc.heap.size<=b\/g.q9 b)/\ ¬s.m1 aF b
def j8 (w:World)(ok:Nat->Prop)(bf:kd)(bk:j2)(o:a9):Option (Nat×Nat)->Prop
 | none=>o.es=[]
 | some (eV,m)=> ∃c fo,w.heap[eV]? = some (.cells c fo (0,0))/\c.size=m/\(∀e∈o.es,e.length=o.sz) /\
  ∀(j:Nat) x,o.es.flatten[j]? = some x-> ∃v,c[j]? = some v/\lg v=true/\Rel w ok bf bk x v
structure Fu (g:G) (w:World):Prop where
 os:w.os=g.nc.os
 tape:w.tape=g.nc.tape
 output:w.output=g.nc.output
 size:g.nc.heap.size<=w.heap.size
 block : ∀b,b<g.nc.heap.size-> ¬g.q9 b->w.heap[b]? = g.nc.heap[b]?
structure jr (g:G) (s:S) (aF:gh) (w:World):Prop where
 obj : ∀r k o,s.an r k=some o->j8 w (s.ok g aF w) s.bf (s.bk aF) o (aF r k)
 inj : ∀r k o fp eu ch b m aH,s.an r k=some o->s.an fp eu=some ch->aF r k=some (b,m)->aF fp eu=some (b,aH)->r=fp/\k=eu
 own : ∀r k o b m,s.an r k=some o->aF r k=some (b,m)->g.nc.heap.size<=b\/g.q9 b
 hX:Fu g w
 mlt : ∀b,g.q9 b->b<g.nc.heap.size
 oG : ∀b,g.A b->b<g.nc.heap.size
 stay : ∀j k,g.qo j k->s.bf j k/\(s.bk aF j k=g.tz j k\/s.bk aF j k=none)
 low : ∀j k,g.qo j k->j<g.m
structure c7 (g:G) (s:S) (aF:gh) (a:Act) (w:World):Prop extends jr g s aF w where
 env : ∀t,Rel w (s.ok g aF w) s.bf (s.bk aF) (s.E t) (a.tmps.getD t undef)
 defers:a.defers=[]
 kJ:g.N<=a.tmps.size
def ofValue:Value->aG
 | .bool x=> .b x
 | .int k x=> .n k x
 | .string x=> .s x
 | .pointer none=> .jA
 | .slice none 0 0=> .fv
 | _=> .dead
theorem Sw {w:World}{ok:Nat->Prop}{bf:kd}{bk:j2}(v:Value):Rel w ok bf bk (ofValue v) v:=by unfold ofValue;split<;>constructor
def fy (E:Nat->aG):Operand->aG
 | .tmp t=>E t
 | .const v=>ofValue v
 | .global _=> .dead
 | .func f=> .fn f []
theorem c7.eval {g:G}{s:S}{aF:gh}{a:Act}{w:World}(h:c7 g s aF a w)(x:Operand):
 Rel w (s.ok g aF w) s.bf (s.bk aF) (fy s.E x) (a.eval x):=by
 cases x with
 | tmp t=>exact h.env t
 | const v=>exact Sw v
 | global g=>exact .dead _
 | func f=>exact .fn [] rfl (fun j x v aa=>by simp at aa)
def aG.cells:aG->List aG
 | .agg c=>c
 | x=>[x]
def aG.one:aG->Bool
 | .dead | .agg _ | .de _=>false
 | _=>true
def aG.BO:aG->Bool
 | .dead | .de _=>false
 | _=>true
theorem aG.Sx {v:aG}(h:v.BO=true):v.one=true\/ ∃c,v = .agg c:=by cases v<;>first|exact .inl rfl|exact .inr ⟨_,rfl⟩|simp[aG.BO] at h
theorem Rel.lg {w:World}{ok:Nat->Prop}{bf:kd}{bk:j2}{a:aG}{v:Value}(h:Rel w ok bf bk a v)(bG:a.one=true):lg v=true:=by
 cases h with
 | qi h=>cases h;rfl
 | nU h=>cases h<;>rfl
 | o7 h=>cases h<;>rfl
 | _=>first|rfl|simp[aG.one] at bG
theorem Rel.cellsOf {w:World}{ok:Nat->Prop}{bf:kd}{bk:j2}{a:aG}{v:Value}(h:Rel w ok bf bk a v)(bG:a.one=true\/ ∃c,a = .agg c):
 ∃vs:List Value,v.cells=vs.toArray/\vs.length=a.cells.length/\(∀(j:Nat) x,vs[j]? = some x->VL.lg x=true) /\
  ∀(j:Nat) x u,a.cells[j]? = some x->vs[j]? = some u->Rel w ok bf bk x u:=by
 rcases bG with bG|⟨c,rfl⟩
 ·have aY:=h.lg bG
  refine⟨[v],?_,?_,?_,?_⟩
  ·cases v<;>first|rfl|simp[VL.lg,Value.oneCell'] at aY
  ·cases a<;>first|rfl|simp[aG.one] at bG
  ·intro j x aa
   cases j with
   | zero=>simp at aa;subst aa;exact aY
   | succ j=>simp at aa
  ·intro j x u aa hu
   have e:a.cells=[a]:=by cases a<;>first|rfl|simp[aG.one] at bG
   rw[e] at aa
   cases j with
   | zero=>simp at aa hu;subst aa;subst hu;exact h
   | succ j=>simp at aa
 ·cases h with
  | agg vs aV k8 ai=>exact⟨vs,rfl,aV,k8,ai⟩
def S.put (s:S)(dst:Option Tmp)(v:aG):S :=
 match dst with
 | some t=>{s with E:=fun u=>if u=t then v else s.E u}
 | none=>s
def S.setRow (s:S)(r:Nat)(row:List a9):S:={s with a0:=fun q=>if q=r then some row else s.a0 q}
@[simp] theorem S.wA (s:S) (dst:Option Tmp) (v:aG):(s.put dst v).a0=s.a0:=by cases dst<;>rfl
@[simp] theorem S.akE (s:S) (r:Nat) (row:List a9):(s.setRow r row).E=s.E:=rfl
theorem EF {s b0:S}(h:b0.a0=s.a0):b0.an=s.an:=by funext r k;simp[S.an,h]
theorem BP {s b0:S}(h:b0.a0=s.a0):b0.bf=s.bf:=by funext r k;simp[S.bf,h]
theorem BQ {s b0:S}(h:b0.a0=s.a0)(aF:gh):b0.bk aF=s.bk aF:=by unfold S.bk;rw[EF h]
theorem acr {s b0:S}(h:b0.a0=s.a0)(aF:gh):b0.m1 aF=s.m1 aF:=by unfold S.m1;rw[EF h]
theorem EG {s b0:S}(h:b0.a0=s.a0)(g:G)(aF:gh)(w:World):b0.ok g aF w=s.ok g aF w:=by funext b;unfold S.ok;rw[acr h]
theorem jr.congr {g:G}{s b0:S}{aF:gh}{w:World}(h:jr g s aF w)(e:b0.a0=s.a0):jr g b0 aF w where
 obj:=by rw[EF e,BP e,BQ e,EG e];exact h.obj
 inj:=by rw[EF e];exact h.inj
 own:=by rw[EF e];exact h.own
 hX:=h.hX
 mlt:=h.mlt
 oG:=h.oG
 stay:=by rw[BP e,BQ e];exact h.stay
 low:=h.low
theorem aeK (a:Act)(dst:Option Tmp)(v:Value)(t:Nat)(fE:∀d,dst=some d->d<a.tmps.size):
 (a.put dst v).tmps.getD t undef=if dst=some t then v else a.tmps.getD t undef:=by
 cases dst with
 | none=>simp[Act.put]
 | some d =>
  have:=fE d rfl;simp only[Act.put,Array.getD_eq_getD_getElem?,Array.getElem?_setIfInBounds,dB];by_cases e:d=t
  ·subst e;simp[this]
  ·simp[e]
theorem c7.put {g:G}{s:S}{aF:gh}{a:Act}{w:World}(h:c7 g s aF a w)(dst:Option Tmp){x:aG}{v:Value}
 (bC : ∀d,dst=some d->d<g.N) (ai:Rel w (s.ok g aF w) s.bf (s.bk aF) x v):c7 g (s.put dst x) aF (a.put dst v) w where
 tojr:=h.tojr.congr (S.wA s dst x)
 env:=by
  have e:=S.wA s dst x;rw[EG e,BP e,BQ e];intro t;rw[aeK a dst v t fun d rK=>Nat.lt_of_lt_of_le (bC d rK) h.kJ]
  cases dst with
  | none=>simpa [S.put] using h.env t
  | some d =>
   simp only[S.put,dB];by_cases e:t=d
   ·subst e;simpa using ai
   ·rw[dA e,dA (Ne.symm e)];exact h.env t
 defers:=by cases dst<;>exact h.defers
 kJ:=by cases dst<;>simpa [Act.put] using h.kJ
structure Step (g:G) (s:S) (aF:gh) (w:World) (b0:S) (bX:gh) (bT:World):Prop where
 bf : ∀r k,s.bf r k->b0.bf r k
 bk : ∀r k,s.bf r k->b0.bk bX r k=s.bk aF r k\/b0.bk bX r k=none
 live : ∀b,b0.m1 bX b->s.m1 aF b\/w.heap.size<=b
 heap : ∀b,b<w.heap.size-> ¬s.m1 aF b->bT.heap[b]? = w.heap[b]?
 size:w.heap.size<=bT.heap.size
theorem Step.ok {g:G}{s b0:S}{aF bX:gh}{w bT:World}(h:Step g s aF w b0 bX bT)(b:Nat)(aW:s.ok g aF w b):b0.ok g bX bT b :=
 ⟨Nat.lt_of_lt_of_le aW.1 h.size,aW.2.1,fun aV=>by
  rcases h.live b aV with h1|h1
  ·exact aW.2.2 h1
  ·exact absurd aW.1 (by omega)⟩
theorem Step.rel {g:G}{s b0:S}{aF bX:gh}{w bT:World}(h:Step g s aF w b0 bX bT){x:aG}{v:Value}
 (ai:Rel w (s.ok g aF w) s.bf (s.bk aF) x v):Rel bT (b0.ok g bX bT) b0.bf (b0.bk bX) x v :=
 ai.mono h.ok (fun b aW=>h.heap b aW.1 aW.2.2) h.bf h.bk
theorem Step.obj {g:G}{s b0:S}{aF bX:gh}{w bT:World}(h:Step g s aF w b0 bX bT){o:a9}{p:Option (Nat×Nat)}
 (ah : ∀b m,p=some (b,m)->bT.heap[b]? = w.heap[b]?) (ak:j8 w (s.ok g aF w) s.bf (s.bk aF) o p) :
 j8 bT (b0.ok g bX bT) b0.bf (b0.bk bX) o p:=by
 cases p with
 | none=>exact ak
 | some q =>
  obtain⟨b,m⟩:=q;obtain⟨c,fo,h1,h2,J,aj⟩:=ak;refine⟨c,fo,(ah b m rfl).trans h1,h2,J,fun j x aa=> ?_⟩;obtain⟨v,e1,e2,bN⟩:=aj j x aa;exact⟨v,e1,e2,h.rel bN⟩
theorem Step.stay {g:G}{s b0:S}{aF bX:gh}{w bT:World}(h:Step g s aF w b0 bX bT)
 (bJ : ∀j k,g.qo j k->s.bf j k/\(s.bk aF j k=g.tz j k\/s.bk aF j k=none)) : ∀j k,g.qo j k->b0.bf j k/\(b0.bk bX j k=g.tz j k\/b0.bk bX j k=none):=by
 intro j k aq;obtain⟨h1,h2⟩:=bJ j k aq;refine⟨h.bf j k h1,?_⟩;rcases h.bk j k h1 with e|e
 ·rw[e];exact h2
 ·exact .inr e
theorem Fu.step {g:G}{w bT:World}(h:Fu g w)(h1:bT.os=w.os)(h2:bT.tape=w.tape)(J:bT.output=w.output)(aj:w.heap.size<=bT.heap.size)
 (av : ∀b,b<g.nc.heap.size-> ¬g.q9 b->bT.heap[b]? = w.heap[b]?):Fu g bT :=
 ⟨h1.trans h.os,h2.trans h.tape,J.trans h.output,Nat.le_trans h.size aj,fun b aW hm=>(av b aW hm).trans (h.block b aW hm)⟩
theorem mL (s:S)(r:Nat)(row:List a9)(q k:Nat):(s.setRow r row).an q k=if q=r then dZ (some row) k else s.an q k:=by unfold S.an S.setRow;by_cases e:q=r<;>simp[e]
theorem oq (s:S)(r:Nat)(row:List a9)(q k:Nat):(s.setRow r row).bf q k↔(if q=r then k<row.length else s.bf q k):=by unfold S.bf S.setRow;by_cases e:q=r<;>simp[e]
theorem HU {s:S}{r k:Nat}{o:a9}(h:s.an r k=some o):s.bf r k:=by
 unfold S.an dZ at h;unfold S.bf
 cases ai:s.a0 r with
 | none=>rw[ai] at h;simp at h
 | some l =>
  rw[ai] at h;simp only at h;rcases Nat.lt_or_ge k l.length with h1|h1
  ·simpa using h1
  ·rw[List.getElem?_eq_none h1] at h;simp at h
theorem Bl {s:S}{r:Nat}(h:s.a0 r=none)(k:Nat): ¬s.bf r k:=by simp[S.bf,h]
theorem Hq (s:S){r:Nat}{l row:List a9}(ai:s.a0 r=some l)(aV:l.length<=row.length)(q k:Nat)(h:s.bf q k):(s.setRow r row).bf q k:=by
 rw[oq];by_cases e:q=r
 ·subst e;rw[dw rfl];simp[S.bf,ai] at h;omega
 ·rw[dA e];exact h
def gh.set (aF:gh)(r k:Nat)(p:Option (Nat×Nat)):gh:=fun q j=>if q=r/\j=k then p else aF q j
theorem nj (o:a9)(k:Nat):dZ (some [o]) k=if k=0/\o.cN≠ .gone then some o else none:=by
 unfold dZ
 cases k with
 | zero=>by_cases h:o.cN = .gone<;>simp[h]
 | succ k=>simp
theorem Rel.drew {w:World}{ok:Nat->Prop}{bf:kd}{bk:j2}{x:aG}{v:Value}(h:Rel w ok bf bk x v):Rel w.drew ok bf bk x v :=
 h.mono (fun _ h=>h) (fun _ _=>rfl) (fun _ _ h=>h) (fun _ _ _=> .inl rfl)
theorem j8.drew {w:World}{ok:Nat->Prop}{bf:kd}{bk:j2}{o:a9}{p:Option (Nat×Nat)}(h:j8 w ok bf bk o p):j8 w.drew ok bf bk o p:=by
 cases p with
 | none=>exact h
 | some q =>
  obtain⟨c,fo,h1,h2,J,aj⟩:=h;exact⟨c,fo,h1,h2,J,fun j x aa=>let ⟨v,a,b,c⟩:=aj j x aa;⟨v,a,b,c.drew⟩⟩
theorem jr.drew {g:G}{s:S}{aF:gh}{w:World}(h:jr g s aF w):jr g s aF w.drew :=
 {obj:=fun r k o ak=>(h.obj r k o ak).drew,inj:=h.inj,own:=h.own,hX:=⟨h.hX.os,h.hX.tape,h.hX.output,h.hX.size,h.hX.block⟩,mlt:=h.mlt,oG:=h.oG,stay:=h.stay,low:=h.low}
theorem c7.drew {g:G}{s:S}{aF:gh}{a:Act}{w:World}(h:c7 g s aF a w):c7 g s aF a w.drew where
 tojr:=h.tojr.drew
 env:=fun t=>(h.env t).drew
 defers:=h.defers
 kJ:=h.kJ
theorem c7.alloc {g:G}{s:S}{aF:gh}{a:Act}{w:World}(h:c7 g s aF a w){r:Nat}(ai:s.a0 r=none)(o:a9)(aX:o.cN = .live)
 (c:Array Value) (fo:TypeId) (hlen : ∀e∈o.es,e.length=o.sz)
 (aY : ∀(j:Nat) x,o.es.flatten[j]? = some x-> ∃v,c[j]? = some v/\lg v=true/\Rel w (s.ok g aF w) s.bf (s.bk aF) x v) :
 ∃bX,bX r 0=some (w.heap.size,c.size)/\c7 g (s.setRow r [o]) bX a (w.alloc (.cells c fo)) /\
  ∀x v,Rel w (s.ok g aF w) s.bf (s.bk aF) x v->Rel (w.alloc (.cells c fo)) ((s.setRow r [o]).ok g bX (w.alloc (.cells c fo))) (s.setRow r [o]).bf ((s.setRow r [o]).bk bX) x v:=by
 have mY : ∀q k,q≠r->(aF.set r 0 (some (w.heap.size,c.size))) q k=aF q k:=fun q k aZ=>by simp[gh.set,aZ]
 have bp : ∀q k,q≠r->(s.setRow r [o]).an q k=s.an q k:=fun q k aZ=>by rw[mL,dA aZ]
 have Cs : ∀k,(s.setRow r [o]).an r k=if k=0 then some o else none:=fun k=>by rw[mL,dw rfl,nj];simp[aX]
 have vt : ∀q k p b m,s.an q k=some p->aF q k=some (b,m)->b<w.heap.size:=fun q k p b m ah aZ=>by have:=h.obj q k p ah;rw[aZ] at this;obtain⟨eF,nH,gN,_⟩:=this;exact(Array.getElem?_eq_some_iff.1 gN).1
 have c2:Step g s aF w (s.setRow r [o]) (aF.set r 0 (some (w.heap.size,c.size))) (w.alloc (.cells c fo)):=by
  refine⟨fun q k aZ=>(oq _ _ _ _ _).2 (by rw[dA (by rintro rfl;exact Bl ai k aZ)];exact aZ),fun q k aZ=> ?_,fun b aW=> ?_,fun b aW _=>heap_alloc_old w _ b aW,by simp⟩
  ·have c8:q≠r:=(by rintro rfl;exact Bl ai k aZ);left;simp only[S.bk,bp q k c8,mY q k c8]
  ·obtain⟨q,k,p,m,h1,h2,J⟩:=aW
   by_cases e:q=r
   ·subst e
    rw[Cs] at h1;by_cases e0:k=0
    ·subst e0;simp[gh.set] at J;right;omega
    ·simp[e0] at h1
   ·rw[bp q k e] at h1;rw[mY q k e] at J;exact .inl ⟨q,k,p,m,h1,h2,J⟩
 refine⟨aF.set r 0 (some (w.heap.size,c.size)),by simp[gh.set],?_,fun x v=>c2.rel⟩;refine {tojr:=⟨?_,?_,?_,?_,h.mlt,h.oG,c2.stay h.stay,h.low⟩,env:=fun t=>c2.rel (h.env t),defers:=h.defers,kJ:=h.kJ}
 ·intro q k p ah
  by_cases e:q=r
  ·subst e
   rw[Cs] at ah;by_cases e0:k=0
   ·subst e0;simp at ah;subst ah;simp only[gh.set,and_self,if_true];exact⟨c,fo,heap_alloc_new w _,rfl,hlen,fun j x aa=>let ⟨v,e1,e2,bN⟩:=aY j x aa;⟨v,e1,e2,c2.rel bN⟩⟩
   ·simp[e0] at ah
  ·rw[bp q k e] at ah;rw[mY q k e];exact c2.obj (fun b m hm=>heap_alloc_old w _ b (vt q k p b m ah hm)) (h.obj q k p ah)
 ·intro q k p iS eu lq b m aH h1 h2 J aj
  by_cases e:q=r<;>by_cases e3:iS=r
  ·subst e;subst e3;rw[Cs] at h1 h2;by_cases e0:k=0<;>by_cases e1:eu=0<;>simp[e0,e1] at h1 h2;exact⟨rfl,by omega⟩
  ·subst e;rw[Cs] at h1;rw[bp _ _ e3] at h2;rw[mY _ _ e3] at aj;by_cases e0:k=0<;>simp[e0] at h1;subst e0;simp[gh.set] at J;have:=vt iS eu lq b aH h2 aj;omega
  ·subst e3;rw[bp _ _ e] at h1;rw[Cs] at h2;rw[mY _ _ e] at J;by_cases e0:eu=0<;>simp[e0] at h2;subst e0;simp[gh.set] at aj;have:=vt q k p b m h1 J;omega
  ·rw[bp _ _ e] at h1;rw[bp _ _ e3] at h2;rw[mY _ _ e] at J;rw[mY _ _ e3] at aj;exact h.inj q k p iS eu lq b m aH h1 h2 J aj
 ·intro q k p b m h1 h2
  by_cases e:q=r
  ·subst e;rw[Cs] at h1;by_cases e0:k=0<;>simp[e0] at h1;subst e0;simp[gh.set] at h2;left;have:=h.hX.size;omega
  ·rw[bp _ _ e] at h1;rw[mY _ _ e] at h2;exact h.own q k p b m h1 h2
 ·exact h.hX.step rfl rfl rfl (by simp) fun b aW _=>heap_alloc_old w _ b (Nat.lt_of_lt_of_le aW h.hX.size)
theorem T0 (l:List a9)(k:Nat)(o ch:a9)(h:dZ (some l) k=some o)(aX:ch.cN≠ .gone)(j:Nat):
 dZ (some (l.set k ch)) j=if j=k then some ch else dZ (some l) j:=by
 unfold dZ at *
 have ep:k<l.length:=by
  rcases Nat.lt_or_ge k l.length with h1|h1
  ·exact h1
  ·simp[List.getElem?_eq_none h1] at h
 by_cases e:j=k
 ·subst e;simp[ep,aX]
 ·simp only[List.getElem?_set,dA (Ne.symm e),dA e]
theorem c7.write {g:G}{s:S}{aF:gh}{a:Act}{w bT:World}(h:c7 g s aF a w){r k b m:Nat}{l:List a9}{o:a9}(ai:s.a0 r=some l)(ak:s.an r k=some o)
 (aX:o.cN = .live) (ah:aF r k=some (b,m)) (es:List (List aG)) (c:Array Value) (fo:TypeId)
 (hw:bT.heap[b]? = some (.cells c fo (0,0))) (fE:bT.heap.size=w.heap.size) (yo : ∀q,q≠b->bT.heap[q]? = w.heap[q]?)
 (pK:bT.os=w.os) (Nj:bT.tape=w.tape) (MV:bT.output=w.output) (hm:c.size=m)
 (hlen : ∀e∈es,e.length=o.sz)
 (aY : ∀(j:Nat) x,es.flatten[j]? = some x-> ∃v,c[j]? = some v/\lg v=true/\Rel w (s.ok g aF w) s.bf (s.bk aF) x v) :
 c7 g (s.setRow r (l.set k {o with es})) aF a bT /\
  ∀x v,Rel w (s.ok g aF w) s.bf (s.bk aF) x v->Rel bT ((s.setRow r (l.set k {o with es})).ok g aF bT) (s.setRow r (l.set k {o with es})).bf ((s.setRow r (l.set k {o with es})).bk aF) x v:=by
 have hg:({o with es}:a9).cN≠ .gone:=by rw[aX];simp
 have bp : ∀q j,(s.setRow r (l.set k {o with es})).an q j=if q=r/\j=k then some {o with es} else s.an q j:=by
  intro q j;rw[mL];by_cases e:q=r
  ·subst e;have eK:dZ (some l) k=some o:=(by rw[<- ai];exact ak);rw[dw rfl,T0 l k o _ eK hg];by_cases e2:j=k<;>simp[e2,S.an,ai]
  ·simp[e]
 have rz:s.m1 aF b:=⟨r,k,o,m,ak,aX,ah⟩
 have c2:Step g s aF w (s.setRow r (l.set k {o with es})) aF bT:=by
  refine⟨Hq s ai (by simp),fun q j aZ=> .inl ?_,fun q aZ=> ?_,fun q aZ aV=>yo q fun e=>aV (e▸rz),Nat.le_of_eq fE.symm⟩
  ·simp only[S.bk,bp]
   by_cases e:q=r/\j=k
   ·obtain⟨rfl,rfl⟩:=e;simp[ak]
   ·rw[dA e]
  ·obtain⟨iS,j,p,aH,h1,h2,J⟩:=aZ
   rw[bp] at h1;by_cases e:iS=r/\j=k
   ·obtain⟨rfl,rfl⟩:=e;exact .inl ⟨iS,j,o,aH,ak,aX,J⟩
   ·rw[dA e] at h1;exact .inl ⟨iS,j,p,aH,h1,h2,J⟩
 refine⟨{tojr:=⟨?_,?_,?_,?_,h.mlt,h.oG,c2.stay h.stay,h.low⟩,env:=fun t=>c2.rel (h.env t),defers:=h.defers,kJ:=h.kJ},fun x v=>c2.rel⟩
 ·intro q j p lx
  rw[bp] at lx;by_cases e:q=r/\j=k
  ·obtain⟨rfl,rfl⟩:=e;simp at lx;subst lx;rw[ah];exact⟨c,fo,hw,hm,hlen,fun j x aa=>let ⟨v,e1,e2,bN⟩:=aY j x aa;⟨v,e1,e2,c2.rel bN⟩⟩
  ·rw[dA e] at lx;refine c2.obj (fun k1 aH la=>yo k1 ?_) (h.obj q j p lx);rintro rfl;exact e (h.inj q j p r k o k1 aH m lx ak la ah)
 ·intro q j p iS ja lq k1 jl ik h1 h2 J aj
  have key : ∀q j p,(s.setRow r (l.set k {o with es})).an q j=some p-> ∃lq,s.an q j=some lq:=by
   intro q j p aZ;rw[bp] at aZ;by_cases e:q=r/\j=k
   ·obtain⟨rfl,rfl⟩:=e;exact⟨o,ak⟩
   ·rw[dA e] at aZ;exact⟨p,aZ⟩
  obtain⟨p1,Wx⟩:=key q j p h1;obtain⟨p2,FT⟩:=key iS ja lq h2;exact h.inj q j p1 iS ja p2 k1 jl ik Wx FT J aj
 ·intro q j p k1 aH h1 h2
  rw[bp] at h1;by_cases e:q=r/\j=k
  ·obtain⟨rfl,rfl⟩:=e;exact h.own q j o k1 aH ak h2
  ·rw[dA e] at h1;exact h.own q j p k1 aH h1 h2
 ·refine h.hX.step pK Nj MV (Nat.le_of_eq fE.symm) fun k1 oH la=>yo k1 ?_
  rintro rfl;rcases h.own r k o k1 m ak ah with h1|h1
  ·omega
  ·exact la h1
inductive tQ where
 | id
 | eR (es:List (List aG))
 | fi (sz:Nat)
 | kq
 | cA (x:aG)
 | len (n:Nat)
 | ra (sz:Nat)
 | at_ (j i n:Nat)
 | view (er:Nat) (o:a9) (es:List (List aG))
 deriving Inhabited
inductive C3 where
 | b3 (c:tQ)
 | ptr (l:List tQ)
 | vu (l:List tQ)
 | agg (l:List tQ)
 deriving Inhabited
inductive mD where
 | bl (c:C3)
 | comp (l:List C3)
 deriving Inhabited
inductive jv where
 | pure
 | box (l:List tQ)
 | cA (row:List a9)
 | bx (row:List a9)
 | rx (row:List a9)
 | drop
 deriving Inhabited
structure nt where
 bC:List (Nat×Nat):=[]
 k2:Option (Nat×Nat):=none
 deriving DecidableEq
inductive Src where
 | row (r:Nat)
 | an (r k:Nat) (o:a9)
 deriving Inhabited
structure GH where
 a5:List Src:=[]
 dr:List jv:=[]
 ac:List mD
 r:aG
 fx:List (List a9):=[]
 ht:mD:= .bl (.b3 .id)
 iL:List jv:=[]
 fB:List Nat:=[]
 fa:Bool:=true
inductive gp where
 | none
 | R (t:Bool)
 | bO (c:List aG)
 | gq (o:a9) (c:List aG)
 | d4
 | call (c:GH)
 | ay (m:Nat) (o:Option a9:=Option.none)
 | fP (t:Nat) (v:aG) (a:gp)
 | vQ (r:Nat) (a:gp)
 | w4 (r n:Nat) (a:gp)
structure iR where
 val:aG
 gI:List (Nat×List a9):=[]
 f7:List Prop:=[]
def EV (P:Program)(t:TypeId):Bool :=
 match P.underlying t with
 | some (.struct _)|some (.array _ _)=>true
 | _=>false
def Ct (oO:ar):ByteArray:=oO.foldl (fun r n=>r.push (UInt8.ofNat n.toNat)) ByteArray.empty
def bytesOf:List (List aG)->Option ar
 | []=>some []
 | [.n .u8 n]::es=>(bytesOf es).map (n :: ·)
 | _=>none
def elemAt (es:List (List aG))(i:Nat):gp->Option (List aG×List Prop)
 | .bO c=>some (c,[es[i]? = some c])
 | .gq _ c=>some (c,[es[i]? = some c])
 | _=>match es[i]? with
  | some c=>some (c,[])
  | none=>none
def pD (row:Option (List a9))(k:Nat):gp->Option (a9×List Prop)
 | .gq o _=>match row with
  | some row=>some (o,[dZ (some row) k=some o])
  | none=>none
 | _=>match dZ row k with
  | some o=>some (o,[])
  | none=>none
def sC (P:Program)(t:TypeId)(c:List aG)(off:Nat):Option aG :=
 if !((P.underlying t).isSome && (P.info? t).isSome) then none else
 if EV P t then (if off+P.cellsOf t<=c.length then some (.agg ((c.drop off).take (P.cellsOf t))) else none)
 else match c[off]? with
  | some x=>if x.one then some x else none
  | none=>none
def MW (op:BinOp)(x y:aG):Option (aG×List Prop) :=
 match x,y with
 | .n k a,.n eu b =>
  match op with
  | .shl=>some (.n k (k.wrap (a*2 ^ (min b.toNat k.bits))),[0<=b])
  | .shr=>some (.n k (a.fdiv (2 ^ (min b.toNat k.bits))),[0<=b])
  | _=>if k≠eu then none else
   match op with
   | .add=>some (.n k (k.wrap (a+b)),[])
   | .sub=>some (.n k (k.wrap (a-b)),[])
   | .mul=>some (.n k (k.wrap (a*b)),[])
   | .quo=>some (.n k (k.wrap (a.tdiv b)),[b≠0])
   | .rem=>some (.n k (a.tmod b),[b≠0])
   | .and=>some (.n k (k.wrap ((BitVec.ofInt k.bits a &&& BitVec.ofInt k.bits b).toNat)),[])
   | .or=>some (.n k (k.wrap ((BitVec.ofInt k.bits a ||| BitVec.ofInt k.bits b).toNat)),[])
   | .xor=>some (.n k (k.wrap ((BitVec.ofInt k.bits a ^^^ BitVec.ofInt k.bits b).toNat)),[])
   | .eql=>some (.b (a == b),[])
   | .neq=>some (.b (a != b),[])
   | .lss=>some (.b (decide (a<b)),[])
   | .leq=>some (.b (decide (a<=b)),[])
   | .gtr=>some (.b (decide (b<a)),[])
   | .geq=>some (.b (decide (b<=a)),[])
   | _=>none
 | .s a,.s b =>
  match op with
  | .add=>some (.s (a++b),[a.size+b.size<9223372036854775808])
  | .eql=>some (.b (a.toList == b.toList),[])
  | .neq=>some (.b (!(a.toList == b.toList)),[])
  | _=>none
 | _,_=>none
def uy (P:Program)(t:TypeId)(x y:aG):Option Bool :=
 match P.underlying t,x,y with
 | some .bool,.b a,.b c=>some (a == c)
 | some (.pointer _),.jA,.jA=>some true
 | some (.pointer _),.fg ..,.jA=>some false
 | some (.pointer _),.jA,.fg .. => some false
 | some (.slice _),.fv,.fv=>some true
 | some (.slice _),.jQ,.fv=>some false
 | _,_,_=>none
def Nk (op:UnOp)(x:aG):Option aG :=
 match op,x with
 | .neg,.n k a=>some (.n k (k.wrap (0-a)))
 | .not,.b a=>some (.b (!a))
 | _,_=>none
def fieldsOf (P:Program)(t:TypeId):Option (Array Field) :=
 match P.underlying t with
 | some (.struct lP)=>some lP
 | _=>none
def rA (P:Program)(t:TypeId):Option TypeId :=
 match P.underlying t with
 | some (.slice e)=>some e
 | _=>none
def si (P:Program)(t:TypeId):Option (List aG) :=
 match P.info? t with
 | some i=>match i.zero with
  | some v=>if v.cells.toList.all (·.oneCell') then some (v.cells.toList.map ofValue) else none
  | none=>none
 | none=>none
def Fv (P:Program)(t:TypeId):Option (Nat×TypeId) :=
 match P.underlying t with
 | some (.array n e)=>if (P.info? e).isSome/\P.cellsOf e≠0/\1<n then some (n,e) else none
 | _=>none
def rG (j:Int):List aG->List aG->Option (List aG)
 | [],[]=>some []
 | .n k x::a,.n eu y::b=>if k=eu then (rG j a b).map (.n k (if j=0 then x else y) :: ·) else none
 | _,_=>none
def Mo (P:Program)(t:TypeId)(x lr:aG):Option iR :=
 match Fv P t,x,lr with
 | some (2,e),.agg cs,.n _ j=>match sC P e cs (0*P.cellsOf e),sC P e cs (1*P.cellsOf e) with
  | some (.agg a),some (.agg b)=>(rG j a b).map fun c=>{val:= .agg c,f7:=[0<=j,j<2]}
  | _,_=>none
 | _,_,_=>none
def Cj (P:Program)(a0:Nat->Option (List a9))(t:TypeId)(x lr:aG)(c4:gp):Option iR :=
 match Fv P t,x,lr with
 | some (n,e),.ref r k i off,.n _ j=>match pD (a0 r) k c4 with
  | some (an,bQ)=>match elemAt an.es i c4 with
   | some (_,aN)=>some {val:= .ref r k i (off+j.toNat*P.cellsOf e),f7:=bQ++aN++[0<=j,j<n]}
   | none=>none
  | none=>none
 | _,_,_=>none
def EW:aG->aG->aG
 | .fv,.isl sz []=> .isl sz []
 | .jA,.f6 sz none=> .f6 sz none
 | .fv,.jR r c sz none=> .jR r c sz none
 | x,_=>x
def tk:List aG->List aG->List aG
 | x::z,y::c=>EW x y::tk z c
 | z,_=>z
def vi (z:List aG):gp->List aG
 | .bO c=>tk z c
 | _=>z
def setCells (c:List aG)(off:Nat)(vs:List aG):List aG:=c.take off++vs++c.drop (off+vs.length)
def uo:List aG->List (Nat×Nat×aG)->Option (List aG)
 | c,[]=>some c
 | c,(off,size,x)::rest =>
  if x.BO && x.cells.length=size && decide (off+size<=c.length) then uo (setCells c off x.cells) rest else none
def Ck (sz:Nat):List (List aG)->List (Nat×aG)->Option (List (List aG))
 | es,[]=>some es
 | es,(i,x)::rest=>if x.BO && x.cells.length=sz && decide (i<es.length) then Ck sz (es.set i x.cells) rest else none
def ag:Option aG->Nat->Option (Nat×List Prop)
 | none,d=>some (d,[])
 | some (.n _ x),_=>some (x.toNat,[0<=x])
 | _,_=>none
def LO (P:Program)(t:TypeId)(parts:List (Nat×aG)):Option iR :=
 match Fv P t,si P t with
 | some (_,e),some z=>(uo z (parts.map fun p=>(p.1*P.cellsOf e,P.cellsOf e,p.2))).map fun c=>{val:= .agg c}
 | _,_=>none
def fC (P:Program)(E:Nat->aG)(a0:Nat->Option (List a9))(a1:Nat)(o:Oper)(c4:gp):Option iR :=
 let iT:=fy E
 match o.op with
 | .move x | .assign x=>some {val:=iT x}
 | .pick c a b =>
  match iT c,c4 with
  | .b x,.R t=>some {val:=if t then iT a else iT b,f7:=[x=t]}
  | .b true,_=>some {val:=iT a}
  | .b false,_=>some {val:=iT b}
  | _,_=>none
 | .alloc t =>
  match si P t with
  | some c=>some {val:= .ref a1 0 0 0,gI:=[(a1,[⟨c.length,[c],.live⟩])]}
  | none=>none
 | .box _ x =>
  match iT x with
  | .agg c=>some {val:= .ref a1 0 0 0,gI:=[(a1,[⟨c.length,[c],.live⟩])]}
  | v=>if v.one then some {val:= .ref a1 0 0 0,gI:=[(a1,[⟨1,[[v]],.live⟩])]} else none
 | .load t x =>
  match iT x with
  | .ref r k i off =>
   match pD (a0 r) k c4 with
   | some (an,bQ)=>match elemAt an.es i c4 with
    | some (c,aN)=>match sC P t c off with
     | some v=>some {val:=v,f7:=bQ++aN}
     | none=>none
    | none=>none
   | none=>none
  | .fg _ es i off =>
   match elemAt es i c4 with
   | some (c,aN)=>match sC P t c off with
    | some v=>some {val:=v,f7:=aN}
    | none=>none
   | none=>none
  | _=>none
 | .store t x y =>
  match iT x with
  | .ref r k i off =>
   match a0 r with
   | none=>none
   | some row =>
   match pD (some row) k c4 with
   | some (an,bQ) =>
    if an.cN≠ .live then none else
    let v:=iT y
    if v.BO=false then none else
    if v.cells.length≠P.cellsOf t\/(P.info? t).isSome=false then none else
    match c4 with
    | .d4=>if off=0 then some {val:= .dead,gI:=[(r,row.set k {an with es:=an.es.set i v.cells})],f7:=bQ++[i<an.es.length,v.cells.length=an.sz]} else none
    | _=>match elemAt an.es i c4 with
     | some (c,aN)=>if off+v.cells.length<=c.length then some {val:= .dead,gI:=[(r,row.set k {an with es:=an.es.set i (setCells c off v.cells)})],f7:=bQ++aN} else none
     | none=>none
   | none=>none
  | _=>none
 | .nilCheck x =>
  match iT x with
  | .ref r k i off=>match pD (a0 r) k c4 with
   | some (an,bQ)=>match elemAt an.es i c4 with
    | some (_,aN)=>some {val:= .ref r k i off,f7:=bQ++aN}
    | none=>none
   | none=>none
  | .fg sz es i off=>some {val:= .fg sz es i off}
  | .fn f c=>some {val:= .fn f c}
  | _=>none
 | .binOp op t x y _ =>
  match MW op (iT x) (iT y) with
  | some (v,an)=>some {val:=v,f7:=an}
  | none=>match op with
   | .eql=>(uy P t (iT x) (iT y)).map fun r=>{val:= .b r}
   | .neq=>(uy P t (iT x) (iT y)).map fun r=>{val:= .b (!r)}
   | _=>none
 | .unOp op _ x=>(Nk op (iT x)).map fun v=>{val:=v}
 | .convert src dst x =>
  match P.underlying dst,iT x with
  | some (.int k),.n _ a=>if (P.underlying src).isSome then some {val:= .n k (k.wrap a)} else none
  | some .string,.bc r k b6 len =>
   match (rA P src).bind P.underlying,dZ (a0 r) k with
   | some (.int .u8),some an=>match bytesOf ((an.es.drop b6).take len) with
    | some oO=>if b6+len<=an.es.length/\an.sz=1 then some {val:= .s (Ct oO)} else none
    | none=>none
   | _,_=>none
  | _,_=>none
 | .makeFunc (.func f) first captured =>
  if first.size=0 then some {val:= .fn f (captured.toList.map iT)} else none
 | .makeSlice t l c =>
  match rA P t,iT l,iT c with
  | some e,.n _ l,.n _ c =>
   match P.info? e,si P e with
   | some i,some z=>if z.length=i.size then some {val:= .bc a1 0 0 l.toNat,gI:=[(a1,[⟨z.length,List.replicate l.toNat (vi z c4),.live⟩])],f7:=[0<=l,l<=c,(i.bytes:Int)*c<=281474976710656,c<9223372036854775808]} else none
   | _,_=>none
  | _,_,_=>none
 | .fieldAddr t x f =>
  match fieldsOf P t with
  | some lP=>match lP[f]? with
   | some fd=>if P.cellsOf fd.type=0 then none else
    match iT x with
    | .ref r k i off=>match pD (a0 r) k c4 with
     | some (an,bQ)=>match elemAt an.es i c4 with
      | some (_,aN)=>some {val:= .ref r k i (off+fd.offset),f7:=bQ++aN}
      | none=>none
     | none=>none
    | .fg sz es i off=>some {val:= .fg sz es i (off+fd.offset)}
    | _=>none
   | none=>none
  | none=>none
 | .field t x f =>
  match fieldsOf P t with
  | some lP=>match lP[f]?,iT x with
   | some fd,.agg c=>(sC P fd.type c fd.offset).map fun v=>{val:=v}
   | _,_=>none
  | none=>none
 | .indexAddr t x lr =>
  match rA P t,iT lr with
  | some e,.n _ j =>
   match iT x with
   | .isl sz es=>if sz=P.cellsOf e/\sz≠0 then some {val:= .fg sz es j.toNat 0,f7:=[0<=j,j<es.length]} else none
   | .bc r k b6 len=>match a0 r with
    | some row=>match pD (some row) k c4 with
     | some (an,bQ)=>if an.sz=P.cellsOf e/\an.sz≠0 then some {val:= .ref r k (b6+j.toNat) 0,f7:=bQ++[0<=j,j<len]} else none
     | none=>none
    | none=>none
   | _=>none
  | _,_=>Cj P a0 t (iT x) (iT lr) c4
 | .index t x lr =>
  match P.underlying t,iT x,iT lr with
  | some .string,.s s,.n _ j=>some {val:= .n .u8 (s.data.toList.getD j.toNat 0).toNat,f7:=[0<=j,j<s.size]}
  | _,_,_=>Mo P t (iT x) (iT lr)
 | .extract x i =>
  match iT x with
  | .de vs=>(vs[i]?).map fun v=>{val:=v}
  | _=>none
 | .slice t x b6 ab none =>
  match P.underlying t,iT x with
  | some (.slice e),.isl sz es =>
   match ag (b6.map iT) 0,ag (ab.map iT) es.length with
   | some (l,bQ),some (h,aN)=>if sz=P.cellsOf e/\sz≠0 then some {val:= .isl sz ((es.drop l).take (h-l)),f7:=bQ++aN++[l<=h,h<=es.length]} else none
   | _,_=>none
  | some (.slice e),.bc r k XG len =>
   match a0 r with
   | none=>none
   | some row=>match pD (some row) k c4 with
    | none=>none
    | some (an,XH) =>
     match ag (b6.map iT) 0,ag (ab.map iT) len with
     | some (l,bQ),some (h,aN)=>if an.sz=P.cellsOf e/\an.sz≠0 then some {val:= .bc r k (XG+l) (h-l),f7:=XH++bQ++aN++[l<=h,h<=len]} else none
     | _,_=>none
  | some .string,.s s =>
   match ag (b6.map iT) 0,ag (ab.map iT) s.size with
   | some (l,bQ),some (h,aN)=>some {val:= .s (s.extract l h),f7:=bQ++aN++[l<=h,h<=s.size]}
   | _,_=>none
  | _,_=>none
 | .build t parts =>
  match fieldsOf P t,si P t with
  | some lP,some z =>
   if lP.toList.all (fun f=>(P.info? f.type).isSome)=false then none else
   match parts.toList.mapM fun (p:Nat×Operand)=>(lP[p.1]?).map fun fd=>(fd.offset,P.cellsOf fd.type,iT p.2) with
   | some l=>(uo z l).map fun c=>{val:= .agg c}
   | none=>none
  | _,_=>LO P t (parts.toList.map fun p=>(p.1,iT p.2))
 | .buildSlice t len parts =>
  match rA P t with
  | some e=>match si P e with
   | some z =>
    if len*z.length>16777216\/z.length≠P.cellsOf e\/z.length=0 then none else
    match Ck z.length (List.replicate len z) (parts.toList.map fun p=>(p.1,iT p.2)) with
    | some es=>some {val:= .bc a1 0 0 len,gI:=[(a1,[⟨z.length,es,.live⟩])]}
    | none=>none
   | none=>none
  | none=>none
 | .call {callee:= .builtin .len,args,argTypes} =>
  match args.toList.map iT,P.underlying (argTypes.getD 0 0),decide (argTypes.size=1) with
  | [.isl _ es],some (.slice _),true=>some {val:= .n .i64 es.length}
  | [.bc r k _ len],some (.slice _),true=>match a0 r with
   | some row=>match pD (some row) k c4 with
    | some (_,bQ)=>some {val:= .n .i64 len,f7:=bQ}
    | none=>none
   | none=>none
  | [.fv],some (.slice _),true=>some {val:= .n .i64 0}
  | [.s x],some .string,true=>some {val:= .n .i64 x.size}
  | _,_,_=>none
 | _=>none
theorem qG {α:Type}{sz:Nat}(bJ:0<sz): ∀(es:List (List α)) (_ : ∀e∈es,e.length=sz) (j:Nat),
 es.flatten[j]? = (es[j / sz]?).bind (·[j % sz]?)
 | [],_,j=>by simp
 | e::es,h,j=>by
  have he:e.length=sz:=h e (by simp);rw[List.flatten_cons,List.getElem?_append];by_cases aq:j<sz
  ·rw[dw (by omega),Nat.div_eq_of_lt aq,Nat.mod_eq_of_lt aq];simp
  ·rw[dA (by omega),he,qG bJ es (fun e3 m7=>h e3 (by simp[m7])) (j-sz)];have h1:j / sz=(j-sz) / sz+1:=Nat.div_eq_sub_div bJ (by omega);have h2:j % sz=(j-sz) % sz:=Nat.mod_eq_sub_mod (by omega);rw[h1,h2];simp
theorem Et {α:Type}{sz:Nat}{es:List (List α)}(aV:∀e∈es,e.length=sz){i:Nat}{c:List α}(he:es[i]? = some c){j:Nat}(aq:j<sz):
 es.flatten[i*sz+j]? = c[j]? := by
 have bJ:0<sz:=by omega
 rw[qG bJ es aV];have h1:(i*sz+j) / sz=i:=by rw[Nat.mul_comm,Nat.mul_add_div bJ,Nat.div_eq_of_lt aq];omega
 have h2:(i*sz+j) % sz=j:=by rw[Nat.mul_comm,Nat.mul_add_mod,Nat.mod_eq_of_lt aq]
 rw[h1,h2,he];rfl
theorem Sy {α:Type}{sz:Nat}{es:List (List α)}(aV:∀e∈es,e.length=sz){i:Nat}{c eF:List α}(he:es[i]? = some c)(aY:eF.length=sz)(j:Nat):
 (es.set i eF).flatten[j]? = if i*sz<=j/\j<i*sz+sz then eF[j-i*sz]? else es.flatten[j]? := by
 rcases Nat.eq_zero_or_pos sz with h0|bJ
 ·subst h0
  have e1 : ∀(l:List (List α)),(∀e∈l,e.length=0)->l.flatten=[]:=by
   intro l aV;induction l with
   | nil=>rfl
   | cons a l ih=>rw[List.flatten_cons,ih fun e he=>aV e (by simp[he])];have:=aV a (by simp);simp_all
  rw[e1 _ aV,e1 (es.set i eF) (by
   intro e hm;rcases List.mem_or_eq_of_mem_set hm with h|h
   ·exact aV e h
   ·exact h▸aY)]
  simp
 ·have Nl : ∀e∈es.set i eF,e.length=sz:=by
   intro e hm;rcases List.mem_or_eq_of_mem_set hm with h|h
   ·exact aV e h
   ·exact h▸aY
  have ab:i<es.length:=by
   rcases Nat.lt_or_ge i es.length with h|h
   ·exact h
   ·rw[List.getElem?_eq_none h] at he;simp at he
  rw[qG bJ _ Nl,qG bJ _ aV];by_cases aZ:j / sz=i
  ·have h1:i*sz<=j/\j<i*sz+sz:=by
    subst aZ;constructor
    ·exact Nat.div_mul_le_self j sz
    ·have:=Nat.lt_div_mul_add (a:=j) bJ;omega
   rw[dw h1,aZ,List.getElem?_set_self ab];have:j % sz=j-i*sz:=(by subst aZ;have:=Nat.div_add_mod j sz;rw[Nat.mul_comm] at this;omega);simp[this]
  ·have h1 : ¬(i*sz<=j/\j<i*sz+sz):=by
    rintro⟨a,b⟩;apply aZ;obtain⟨d,rfl⟩ : ∃d,j=i*sz+d:=⟨j-i*sz,by omega⟩;rw[Nat.mul_comm i sz,Nat.mul_add_div bJ,Nat.div_eq_of_lt (by omega)];omega
   rw[dA h1,List.getElem?_set_ne (Ne.symm aZ)]
def pW (w:World)(ok:Nat->Prop)(bf:kd)(bk:j2)(eV o sz:Nat)(es:List (List aG)):Prop :=
 (∀e∈es,e.length=sz)/\ ∀(j:Nat) x,es.flatten[j]? = some x-> ∃v,w.cell? ⟨eV,o+j,none⟩=some v/\lg v=true/\Rel w ok bf bk x v
theorem j8.rd {w:World}{ok:Nat->Prop}{bf:kd}{bk:j2}{o:a9}{eV m:Nat}(h:j8 w ok bf bk o (some (eV,m))):pW w ok bf bk eV 0 o.sz o.es:=by obtain⟨c,fo,h1,h2,J,aj⟩:=h;refine⟨J,fun j x aa=> ?_⟩;obtain⟨v,e1,e2,bN⟩:=aj j x aa;exact⟨v,by rw[cell_of_row w eV (0+j) c fo (0,0) h1,dG];exact e1,e2,bN⟩
theorem To {P:Program}{t:TypeId}(h:(P.underlying t).isSome=true)(w:World):(isAgg t).run P w = .ok (EV P t) w:=by
 cases bC:P.underlying t with
 | none=>simp[bC] at h
 | some d=>cases d<;>simp[isAgg,EV,run_underlying bC,bC]
theorem u1 {P:Program}{t:TypeId}(h:(P.info? t).isSome=true)(w:World):(sizeOf t).run P w = .ok (P.cellsOf t) w:=by
 cases ab:P.info? t with
 | none=>simp[ab] at h
 | some i=>simp[sizeOf,typeInfo,ab,Program.cellsOf]
theorem te (b o n:Nat):(⟨b,o,none⟩:Addr).add n=⟨b,o+n,none⟩:=by unfold Addr.add;split<;>simp_all
theorem Ln {P:Program}{w:World}{ok:Nat->Prop}{bf:kd}{bk:j2}{eV o sz i off:Nat}{es:List (List aG)}{c:List aG}{t:TypeId}{x:aG}
 (jD:pW w ok bf bk eV o sz es) (he:es[i]? = some c) (cg:sC P t c off=some x) :
 ∃v,(Instr.loadAt t (.pointer (some ⟨eV,o+(i*sz+off),none⟩))).run P w = .ok v w/\Rel w ok bf bk x v:=by
 have hlen:c.length=sz:=jD.1 c (dH he);unfold sC at cg;split at cg
 ·simp at cg
 ·rename_i ab
  simp only[Bool.not_eq_true',Bool.not_eq_false,dL] at ab;have k8 : ∀j,j<sz-> ∃y v,c[j]? = some y/\w.cell? ⟨eV,o+(i*sz+j),none⟩=some v/\lg v=true/\Rel w ok bf bk y v:=(by intro j aq;have aU:c[j]? = some c[j]:=dz (by omega);obtain⟨v,e1,e2,bN⟩:=jD.2 (i*sz+j) c[j] (by rw[Et jD.1 he aq,aU]);exact⟨_,v,aU,e1,e2,bN⟩);simp only[Instr.loadAt,Instr.sureAddr,loadVar,Sem.run_bind,Sem.run_pure,Result.andThen,To ab.1,u1 ab.2];split at cg
  ·rename_i tx
   rw[tx];split at cg
   ·rename_i hle
    simp at cg;subst cg;have aV:=run_loadCells (P:=P) w ⟨eV,o+(i*sz+off),none⟩ (P.cellsOf t) (fun j=>(w.cell? ⟨eV,o+(i*sz+(off+j)),none⟩).getD undef) (by intro j aq;obtain⟨y,v,-,e1,-,-⟩:=k8 (off+j) (by omega);rw[te,show o+(i*sz+off)+j=o+(i*sz+(off+j)) by omega,e1];rfl);refine⟨.agg (List.map (fun j=>(w.cell? ⟨eV,o+(i*sz+(off+j)),none⟩).getD undef) (List.range (P.cellsOf t))).toArray,by simp[aV,Result.andThen,u1 ab.2],?_⟩;refine .agg _ (by simp;omega) ?_ ?_
    ·intro j v bh;rw[dJ,Option.map_eq_some_iff] at bh;obtain⟨q,mv,rfl⟩:=bh;obtain⟨pL,CA⟩:=List.getElem?_eq_some_iff.1 mv;have aZ:j<P.cellsOf t:=(by simpa using pL);obtain rfl:j=q:=(by simpa using CA);obtain⟨y,v,-,e1,e2,-⟩:=k8 (off+j) (by omega);rw[e1];exact e2
    ·intro j y v aU bh;rw[dJ,Option.map_eq_some_iff] at bh;obtain⟨q,mv,rfl⟩:=bh;obtain⟨pL,CA⟩:=List.getElem?_eq_some_iff.1 mv;have aZ:j<P.cellsOf t:=(by simpa using pL);obtain rfl:j=q:=(by simpa using CA);rw[List.getElem?_take,dw aZ,List.getElem?_drop] at aU;obtain⟨nd,v,h0,e1,e2,bN⟩:=k8 (off+j) (by omega);rw[h0] at aU;simp at aU;subst aU;rw[e1];exact bN
   ·simp at cg
  ·rename_i tx
   have tx:EV P t=false:=(by simpa using tx);rw[tx];split at cg
   ·rename_i y aU
    split at cg
    ·simp at cg;subst cg
     have Cu:off<sz:=by
      rcases Nat.lt_or_ge off c.length with h|h
      ·omega
      ·rw[List.getElem?_eq_none h] at aU;simp at aU
     obtain⟨nd,v,h0,e1,e2,bN⟩:=k8 off Cu;rw[h0] at aU;simp at aU;subst aU;exact⟨v,by simp[e1],bN⟩
    ·simp at cg
   ·simp at cg
theorem Ru {c:List aG}{off:Nat}{vs:List aG}(h:off+vs.length<=c.length):(setCells c off vs).length=c.length:=by simp[setCells];omega
theorem Le {c:List aG}{off:Nat}{vs:List aG}(h:off+vs.length<=c.length)(j:Nat):
 (setCells c off vs)[j]? = if off<=j/\j<off+vs.length then vs[j-off]? else c[j]? := by
 unfold setCells;rw[List.append_assoc,List.getElem?_append];have h1:(c.take off).length=off:=by simp;omega
 rw[h1];by_cases a:j<off
 ·rw[dw a,dA (by omega),List.getElem?_take,dw a]
 ·rw[dA a,List.getElem?_append]
  by_cases b:j<off+vs.length
  ·rw[dw (by omega),dw ⟨by omega,b⟩]
  ·rw[dA (by omega),dA (by omega),List.getElem?_drop];congr 1;omega
theorem agq {c:Array Value}{p:Nat}{vs:List Value}(h:p+vs.length<=c.size)(j:Nat):
 (c.toList.take p++vs++c.toList.drop (p+vs.length)).toArray[j]? = if p<=j/\j<p+vs.length then vs[j-p]? else c[j]? := by
 rw[List.getElem?_toArray,List.append_assoc,List.getElem?_append];have h1:(c.toList.take p).length=p:=by simp;omega
 rw[h1];by_cases a:j<p
 ·rw[dw a,dA (by omega),List.getElem?_take,dw a,Array.getElem?_toList]
 ·rw[dA a,List.getElem?_append]
  by_cases b:j<p+vs.length
  ·rw[dw (by omega),dw ⟨by omega,b⟩]
  ·rw[dA (by omega),dA (by omega),List.getElem?_drop,Array.getElem?_toList];congr 1;omega
theorem acM {P:Program}{g:G}{s:S}{aF:gh}{a:Act}{w:World}(h:c7 g s aF a w){r k b m i off:Nat}{l:List a9}{o:a9}{c:List aG}
 (ai:s.a0 r=some l) (ak:s.an r k=some o) (aX:o.cN = .live) (ah:aF r k=some (b,m)) (he:o.es[i]? = some c)
 {t:TypeId} (Nm:(P.info? t).isSome=true) {x:aG} {v:Value} (aa:Rel w (s.ok g aF w) s.bf (s.bk aF) x v) (m5:x.one=true\/ ∃c,x = .agg c)
 (fE:x.cells.length=P.cellsOf t) (ig:off+x.cells.length<=c.length) :
 ∃bT,(Instr.storeAt t (.pointer (some ⟨b,i*o.sz+off,none⟩)) v).run P w = .ok () bT /\
  c7 g (s.setRow r (l.set k {o with es:=o.es.set i (setCells c off x.cells)})) aF a bT:=by
 obtain⟨vs,bh,rL,k8,fZ⟩:=aa.cellsOf m5;have bp:=h.obj r k o ak;rw[ah] at bp;obtain⟨cI,fo,h1,h2,J,aj⟩:=bp;have hlen:c.length=o.sz:=J c (dH he)
 have Cv:i*o.sz+off+vs.length<=cI.size:=by
  rcases Nat.eq_zero_or_pos o.sz with cC|cC
  ·have:off=0:=(by omega);have:vs.length=0:=(by omega);rw[cC];omega
  ·have aV:o.es.flatten[i*o.sz+(o.sz-1)]? = some (c[o.sz-1]'(by omega)):=by
    rw[Et J he (by omega)];exact dz (by omega)
   obtain⟨XI,e1,-,-⟩:=aj _ _ aV;have:=(Array.getElem?_eq_some_iff.1 e1).1;omega
 have nu:=run_storeCells_at P b (i*o.sz+off) fo vs 0 cI w h1 (by simpa using Cv) (fun XI FU=>by obtain⟨q,aZ⟩:=List.getElem?_of_mem FU;exact k8 q XI aZ);simp only[Nat.add_zero] at nu
 have jX:(Instr.storeAt t (.pointer (some ⟨b,i*o.sz+off,none⟩)) v).run P w =
  .ok () (w.setRow b (cI.toList.take (i*o.sz+off)++vs++cI.toList.drop (i*o.sz+off+vs.length)).toArray):=by
  have bJ:v.cells.size=P.cellsOf t:=(by rw[bh];simpa using rL.trans fE);simp only[Instr.storeAt,Instr.sureAddr,storeVar,Sem.run_bind,Sem.run_pure,Result.andThen,u1 Nm,bJ,ne_eq,not_true_eq_false,if_false];rw[bh];simpa using nu
 refine⟨_,jX,?_⟩;have ahE:(w.setRow b (cI.toList.take (i*o.sz+off)++vs++cI.toList.drop (i*o.sz+off+vs.length)).toArray).heap.size=w.heap.size:=size_setRow _ _ _;have uz:(setCells c off x.cells).length=o.sz:=by rw[Ru ig];exact hlen
 refine(h.write ai ak aX ah _ _ fo (setRow_heap w b cI _ fo _ h1) ahE (fun q aZ=>setRow_other w b q _ aZ) rfl rfl rfl ?_ ?_ ?_).1
 ·simp;omega
 ·intro e hm
  rcases List.mem_or_eq_of_mem_set hm with c1|c1
  ·exact J e c1
  ·exact c1▸uz
 ·intro j y aU
  rw[agq Cv];rw[Sy J he uz] at aU;by_cases lb:i*o.sz<=j/\j<i*o.sz+o.sz
  ·rw[dw lb,Le ig] at aU
   by_cases V6:off<=j-i*o.sz/\j-i*o.sz<off+x.cells.length
   ·rw[dw V6] at aU;rw[dw ⟨by omega,by omega⟩];have aZ:j-(i*o.sz+off)<vs.length:=(by omega);refine⟨vs[j-(i*o.sz+off)],dz aZ,k8 _ _ (dz aZ),fZ (j-i*o.sz-off) y _ aU ?_⟩;rw[show j-i*o.sz-off=j-(i*o.sz+off) by omega];exact dz aZ
   ·rw[dA V6] at aU;rw[dA (by omega)];refine aj j y ?_;rw[show j=i*o.sz+(j-i*o.sz) by omega,Et J he (by omega)];exact aU
  ·rw[dA lb] at aU;rw[dA (by rw[rL];omega)];exact aj j y aU
def S.jg (s:S)(u:List (Nat×List a9)):S:=u.foldl (fun s p=>s.setRow p.1 p.2) s
@[simp] theorem S.akF (s:S):s.jg []=s:=rfl
@[simp] theorem S.akG (s:S) (p:Nat×List a9):s.jg [p]=s.setRow p.1 p.2:=rfl
section
variable {w:World} {ok:Nat->Prop} {bf:kd} {bk:j2} {v:Value}
theorem Rel.wB {x:Bool}(h:Rel w ok bf bk (.b x) v):v = .bool x:=by cases h;rfl
theorem Rel.pA {k:IntKind}{x:Int}(h:Rel w ok bf bk (.n k x) v):v = .int k x:=by cases h;rfl
theorem Rel.Cl {x:ByteArray}(h:Rel w ok bf bk (.s x) v):v = .string x:=by cases h;rfl
theorem Rel.x7 (h:Rel w ok bf bk .jA v):v = .pointer none:=by cases h;rfl
theorem Rel.rp (h:Rel w ok bf bk .fv v):v = .slice none 0 0:=by cases h;rfl
theorem Rel.H9 (h:Rel w ok bf bk .jQ v): ∃a c,v = .slice (some a) 0 c:=by cases h;exact⟨_,_,rfl⟩
theorem Rel.T1 {sz:Nat}(h:Rel w ok bf bk (.f6 sz none) v):v = .pointer none:=by cases h;rfl
theorem Rel.LP {sz:Nat}{c:List aG}(h:Rel w ok bf bk (.f6 sz (some c)) v):Rel w ok bf bk (.fg sz [c] 0 0) v:=by cases h;assumption
theorem Rel.Iw {f:Nat}{c:List aG}(h:Rel w ok bf bk (.fn f c) v): ∃vs:List Value,v = .func (.func f) #[] vs.toArray/\vs.length=c.length /\
 ∀(j:Nat) x u,c[j]? = some x->vs[j]? = some u->Rel w ok bf bk x u:=by
 cases h with|fn vs aV ai=>exact⟨vs,rfl,aV,ai⟩
theorem Rel.BX {c:List aG}(h:Rel w ok bf bk (.agg c) v): ∃vs:List Value,v = .agg vs.toArray/\vs.length=c.length/\(∀(j:Nat) u,vs[j]? = some u->VL.lg u=true) /\
 ∀(j:Nat) x u,c[j]? = some x->vs[j]? = some u->Rel w ok bf bk x u:=by
 cases h with|agg vs aV aY ai=>exact⟨vs,rfl,aV,aY,ai⟩
theorem Rel.BZ {c:List aG}(h:Rel w ok bf bk (.de c) v): ∃vs:List Value,v = .tuple vs.toArray/\vs.length=c.length /\
 ∀(j:Nat) x u,c[j]? = some x->vs[j]? = some u->Rel w ok bf bk x u:=by
 cases h with|de vs aV ai=>exact⟨vs,rfl,aV,ai⟩
theorem Rel.yh {r k i off sz:Nat}{p:Option (Nat×Nat)}(h:Rel w ok bf bk (.ref r k i off) v)(cg:bk r k=some (sz,p)):
 p=none\/ ∃b m,p=some (b,m)/\v = .pointer (some ⟨b,i*sz+off,none⟩):=by
 cases h with
 | rq a hu aT =>
  cases p with
  | none=>exact .inl rfl
  | some q=>exact absurd cg (aT _ _)
 | ref hu h =>
  rw[cg] at h;simp only[dB,dE] at h;obtain⟨rfl,rfl⟩:=h;exact .inr ⟨_,_,rfl,rfl⟩
theorem Rel.Tp {r k i off sz b m:Nat}(h:Rel w ok bf bk (.ref r k i off) v)(cg:bk r k=some (sz,some (b,m)))(V7:Nat):
 Rel w ok bf bk (.ref r k i V7) (.pointer (some ⟨b,i*sz+V7,none⟩)):=by
 cases h with
 | rq a hu aT=>exact absurd cg (aT _ _)
 | ref hu h=>exact .ref hu cg
theorem Rel.B0 {sz i off:Nat}{es:List (List aG)}(h:Rel w ok bf bk (.fg sz es i off) v): ∃eV o,(ok eV/\jx es)/\v = .pointer (some ⟨eV,o+(i*sz+off),none⟩)/\pW w ok bf bk eV o sz es:=by
 cases h with
 | fg cs aW ah aV hw aY ai=>exact⟨_,_,⟨aW,ah⟩,rfl,aV,fun j x aa=>⟨cs j,hw j x aa,aY j x aa,ai j x aa⟩⟩
theorem Rel.EQ {r k b6 len sz:Nat}{p:Option (Nat×Nat)}(h:Rel w ok bf bk (.bc r k b6 len) v)(cg:bk r k=some (sz,p)):
 (p=none/\b6=0/\len=0/\v = .slice none 0 0)\/ ∃b m a c,p=some (b,m)/\v = .slice a len c/\len<=c/\c<9223372036854775808/\(c=0\/(a=some ⟨b,b6*sz,none⟩/\(b6+c)*sz=m)):=by
 cases h with
 | ov a l c hu aT=>rw[cg] at aT;simp at aT
 | oV hu h =>
  rw[cg] at h;simp only[dB,dE] at h;exact .inl ⟨h.2,rfl,rfl,rfl⟩
 | bc hu h aV aY hm =>
  rw[cg] at h;simp only[dB,dE] at h;obtain⟨rfl,rfl⟩:=h;exact .inr ⟨_,_,_,_,rfl,rfl,aV,aY,hm.2.imp id fun e=>⟨e,hm.1⟩⟩
theorem Rel.x8 {r k b6 len sz:Nat}{p:Option (Nat×Nat)}(h:Rel w ok bf bk (.bc r k b6 len) v)(cg:bk r k=some (sz,p)):
 (p=none/\b6=0/\len=0/\v = .slice none 0 0)\/ ∃b m a c,p=some (b,m)/\v = .slice a len c/\len<=c/\c<9223372036854775808/\(b6+c)*sz=m/\(c=0\/a=some ⟨b,b6*sz,none⟩):=by
 cases h with
 | ov a l c hu aT=>rw[cg] at aT;simp at aT
 | oV hu h =>
  rw[cg] at h;simp only[dB,dE] at h;exact .inl ⟨h.2,rfl,rfl,rfl⟩
 | bc hu h aV aY hm =>
  rw[cg] at h;simp only[dB,dE] at h;obtain⟨rfl,rfl⟩:=h;exact .inr ⟨_,_,_,_,rfl,rfl,aV,aY,hm⟩
theorem Rel.vb {sz:Nat}{es:List (List aG)}(h:Rel w ok bf bk (.isl sz es) v):
 (es=[]/\ ∃a c,v = .slice a 0 c/\(a=none->c=0))\/ ∃eV off c,(ok eV/\jx es)/\v = .slice (some ⟨eV,off,none⟩) es.length c/\es.length<=c/\pW w ok bf bk eV off sz es:=by
 cases h with
 | li sz a c h=>exact .inl ⟨rfl,a,c,rfl,h⟩
 | isl cs aW ah aV aY hw i7 ai=>exact .inr ⟨_,_,_,⟨aW,ah⟩,rfl,aY,aV,fun j x aa=>⟨cs j,hw j x aa,i7 j x aa,ai j x aa⟩⟩
theorem pW.isl {eV off c sz:Nat}{es:List (List aG)}(h:pW w ok bf bk eV off sz es)(aW:ok eV/\jx es)(aY:es.length<=c):Rel w ok bf bk (.isl sz es) (.slice (some ⟨eV,off,none⟩) es.length c):=by
 have aa : ∀j:Nat,∃v,∀x,es.flatten[j]? = some x->w.cell? ⟨eV,off+j,none⟩=some v/\VL.lg v=true/\Rel w ok bf bk x v:=by
  intro j
  cases aq:es.flatten[j]? with
  | none=>exact⟨undef,fun x aa=>by simp at aa⟩
  | some y =>
   obtain⟨v,h1⟩:=h.2 j y aq;exact⟨v,fun x aa=>by simp at aa;subst aa;exact h1⟩
 exact .isl (fun j=>(aa j).choose) aW.1 aW.2 h.1 aY (fun j x aq=>((aa j).choose_spec x aq).1) (fun j x aq=>((aa j).choose_spec x aq).2.1) (fun j x aq=>((aa j).choose_spec x aq).2.2)
theorem pW.fg {eV o i off sz:Nat}{es:List (List aG)}(h:pW w ok bf bk eV o sz es)(aW:ok eV/\jx es):Rel w ok bf bk (.fg sz es i off) (.pointer (some ⟨eV,o+(i*sz+off),none⟩)):=by
 have aa : ∀j:Nat,∃v,∀x,es.flatten[j]? = some x->w.cell? ⟨eV,o+j,none⟩=some v/\VL.lg v=true/\Rel w ok bf bk x v:=by
  intro j
  cases aq:es.flatten[j]? with
  | none=>exact⟨undef,fun x aa=>by simp at aa⟩
  | some y =>
   obtain⟨v,h1⟩:=h.2 j y aq;exact⟨v,fun x aa=>by simp at aa;subst aa;exact h1⟩
 exact .fg (fun j=>(aa j).choose) aW.1 aW.2 h.1 (fun j x aq=>((aa j).choose_spec x aq).1) (fun j x aq=>((aa j).choose_spec x aq).2.1) (fun j x aq=>((aa j).choose_spec x aq).2.2)
end
def Fin (P:Program)(g:G)(s:S)(a:Act)(w:World)(o:Oper)(bD:iR):Prop :=
 ∃v bT bX,((execOp a.eval o).run P w = .ok (.value v) bT\/((execOp a.eval o).run P w = .ok .skip bT/\v=undef)) /\
  c7 g (s.jg bD.gI) bX a bT/\Rel bT ((s.jg bD.gI).ok g bX bT) (s.jg bD.gI).bf ((s.jg bD.gI).bk bX) bD.val v
section
variable {P:Program} {g:G} {s:S} {aF:gh} {a:Act} {w:World} {o:Oper} {c4:gp} {a1:Nat} {bD:iR}
theorem je (h:c7 g s aF a w){v:Value}(jX:(execOp a.eval o).run P w = .ok (.value v) w)(hu:bD.gI=[])
 (ai:Rel w (s.ok g aF w) s.bf (s.bk aF) bD.val v):Fin P g s a w o bD :=
 ⟨v,w,aF,.inl jX,by rw[hu];exact h,by rw[hu];exact ai⟩
theorem UA {x:Operand}(h:c7 g s aF a w)(ak:o.op = .move x\/o.op = .assign x)(aB:fC P s.E s.a0 a1 o c4=some bD):Fin P g s a w o bD:=by
 have:bD={val:=fy s.E x}:=by rcases ak with ak|ak<;>simp[fC,ak] at aB<;>exact aB.symm
 subst this;refine je (v:=a.eval x) h ?_ rfl (h.eval x);rcases ak with ak|ak<;>simp[execOp,ak]
theorem afN {c x y:Operand}(h:c7 g s aF a w)(ak:o.op = .pick c x y)(aB:fC P s.E s.a0 a1 o c4=some bD)(cR:∀p∈bD.f7,p):Fin P g s a w o bD:=by
 have aY:=h.eval c;simp only[fC,ak] at aB
 have key : ∀t:Bool,fy s.E c = .b t->bD.gI=[]->bD.val=(if t then fy s.E x else fy s.E y)->Fin P g s a w o bD:=by
  intro t cg hu bh;rw[cg] at aY;have e:a.eval c = .bool t:=aY.wB;refine je (v:=if t then a.eval x else a.eval y) h (by simp[execOp,ak,e,asBool]) hu ?_;rw[bh];cases t
  ·exact h.eval y
  ·exact h.eval x
 split at aB
 ·rename_i z t cC;simp at aB;subst aB;have e:z=t:=cR _ (by simp);subst e;exact key z cC rfl rfl
 ·rename_i cC _;simp at aB;subst aB;exact key true cC rfl rfl
 ·rename_i cC _;simp at aB;subst aB;exact key false cC rfl rfl
 ·simp at aB
theorem Ia (h:c7 g s aF a w)(fF:s.a0 a1=none){v:Value}{an:a9}{c:Array Value}{fo:TypeId}(aX:an.cN = .live)
 (jX:(execOp a.eval o).run P w = .ok (.value v) (w.alloc (.cells c fo))) (hu:bD.gI=[(a1,[an])]) (hlen : ∀e∈an.es,e.length=an.sz)
 (aY : ∀(j:Nat) x,an.es.flatten[j]? = some x-> ∃v,c[j]? = some v/\lg v=true/\Rel w (s.ok g aF w) s.bf (s.bk aF) x v)
 (hval : ∀(bT:World) (lZ:Nat->Prop) (n0:kd) (ns:j2),n0 a1 0->ns a1 0=some (an.sz,some (w.heap.size,c.size))->Rel bT lZ n0 ns bD.val v):Fin P g s a w o bD:=by
 obtain⟨bX,ah,bJ,-⟩:=h.alloc fF an aX c fo hlen aY;have h1:(s.setRow a1 [an]).bf a1 0:=by rw[oq];simp
 have h2:(s.setRow a1 [an]).bk bX a1 0=some (an.sz,some (w.heap.size,c.size)):=by simp[S.bk,mL,nj,aX,ah]
 exact⟨v,_,bX,.inl jX,by rw[hu];exact bJ,by rw[hu];exact hval _ _ _ _ h1 h2⟩
theorem Eu {t:TypeId}{z:List aG}(cC:si P t=some z): ∃i fb,P.info? t=some i/\i.zero=some fb/\z=fb.cells.toList.map ofValue /\
 ∀(j:Nat) x,z[j]? = some x-> ∃v,fb.cells[j]? = some v/\lg v=true/\ ∀(w:World) (ok:Nat->Prop) (bf:kd) (bk:j2),Rel w ok bf bk x v:=by
 unfold si at cC
 cases ab:P.info? t with
 | none=>simp[ab] at cC
 | some i =>
  cases lJ:i.zero with
  | none=>simp[ab,lJ] at cC
  | some fb =>
   simp only[ab,lJ] at cC;split at cC
   ·rename_i jY;simp only[dB] at cC;refine⟨i,fb,rfl,lJ,cC.symm,fun j x aa=> ?_⟩;subst cC;rw[dJ,Option.map_eq_some_iff] at aa;obtain⟨v,bh,rfl⟩:=aa;refine⟨v,by rw[<- Array.getElem?_toList];exact bh,?_,fun w ok bf bk=>Sw v⟩;exact List.all_eq_true.1 jY v (dH bh)
   ·simp at cC
theorem aeL {t:TypeId}(h:c7 g s aF a w)(fF:s.a0 a1=none)(ak:o.op = .alloc t)(aB:fC P s.E s.a0 a1 o c4=some bD):Fin P g s a w o bD:=by
 simp only[fC,ak] at aB;split at aB
 ·rename_i z cC
  obtain⟨i,fb,ab,lJ,e,k8⟩:=Eu cC;simp only[dB] at aB;subst aB;refine Ia (v:= .pointer (some ⟨w.heap.size,0,none⟩)) (c:=fb.cells) (fo:=t) (an:=⟨z.length,[z],.live⟩) h fF rfl ?_ rfl (by simp) ?_ ?_
  ·simp[execOp,ak,Instr.alloc,zeroValue,typeInfo,ab,lJ,newVar,newRow]
  ·intro j x aa;simp only[List.flatten_cons,List.flatten_nil,List.append_nil] at aa;obtain⟨v,h1,h2,J⟩:=k8 j x aa;exact⟨v,h1,h2,J _ _ _ _⟩
  ·intro bT lZ n0 ns hu cg;have:=Rel.ref (w:=bT) (ok:=lZ) (i:=0) (off:=0) hu cg;simpa using this
 ·simp at aB
theorem agr {t:TypeId}{x:Operand}(h:c7 g s aF a w)(fF:s.a0 a1=none)(ak:o.op = .box t x)(aB:fC P s.E s.a0 a1 o c4=some bD):Fin P g s a w o bD:=by
 simp only[fC,ak] at aB;have aa:=h.eval x
 have key : ∀an:a9,an.cN = .live->an.es=[(fy s.E x).cells]->an.sz=(fy s.E x).cells.length->((fy s.E x).one=true\/ ∃c,fy s.E x = .agg c) ->
  bD.gI=[(a1,[an])]->bD.val = .ref a1 0 0 0->Fin P g s a w o bD:=by
  intro an aX iM fE m5 hu bh;obtain⟨vs,e1,e2,bN,c0⟩:=aa.cellsOf m5;refine Ia (v:= .pointer (some ⟨w.heap.size,0,none⟩)) (c:=(a.eval x).cells) (fo:=t) h fF aX ?_ hu ?_ ?_ ?_
  ·simp[execOp,ak,Instr.box,newVar,newRow]
  ·intro e he;rw[iM] at he;simp at he;rw[he,fE]
  ·intro j y aU
   rw[iM] at aU;simp only[List.flatten_cons,List.flatten_nil,List.append_nil] at aU
   have aq:j<vs.length:=by
    rcases Nat.lt_or_ge j (fy s.E x).cells.length with c1|c1
    ·omega
    ·rw[List.getElem?_eq_none c1] at aU;simp at aU
   refine⟨vs[j],by rw[e1];simp[aq],bN j _ (dz aq),c0 j y _ aU (dz aq)⟩
  ·intro bT lZ n0 ns pM cg;have:=Rel.ref (w:=bT) (ok:=lZ) (i:=0) (off:=0) pM cg;rw[bh];simpa using this
 split at aB
 ·rename_i c aY;simp only[dB] at aB;subst aB;exact key _ rfl (by rw[aY];rfl) (by rw[aY];rfl) (.inr ⟨c,aY⟩) rfl rfl
 ·split at aB
  ·rename_i m5
   simp only[dB] at aB;subst aB;have e:(fy s.E x).cells=[fy s.E x]:=by generalize fy s.E x=y at m5;cases y<;>first|rfl|simp[aG.one] at m5
   exact key _ rfl (by rw[e]) (by rw[e];rfl) (.inl m5) rfl rfl
  ·simp at aB
theorem jo {s:S}{aF:gh}{r k:Nat}{an:a9}(h:s.an r k=some an):s.bk aF r k=some (an.sz,aF r k):=by simp[S.bk,h]
theorem vc {row:Option (List a9)}{k:Nat}{an:a9}{bQ:List Prop}(h:pD row k c4=some (an,bQ))(cR:∀p∈bQ,p):dZ row k=some an:=by
 unfold pD at h;split at h
 ·split at h
  ·simp at h;obtain⟨rfl,rfl⟩:=h;exact cR _ (by simp)
  ·simp at h
 ·split at h
  ·rename_i c1;simp at h;obtain⟨rfl,rfl⟩:=h;exact c1
  ·simp at h
theorem BL {es:List (List aG)}{i:Nat}{c:List aG}{bQ:List Prop}(h:elemAt es i c4=some (c,bQ))(cR:∀p∈bQ,p):es[i]? = some c:=by
 unfold elemAt at h;split at h
 ·simp at h;obtain⟨rfl,rfl⟩:=h;exact cR _ (by simp)
 ·simp at h;obtain⟨rfl,rfl⟩:=h;exact cR _ (by simp)
 ·split at h
  ·rename_i c1;simp at h;obtain⟨rfl,rfl⟩:=h;exact c1
  ·simp at h
theorem afO {t:TypeId}{x:Operand}(h:c7 g s aF a w)(ak:o.op = .load t x)(aB:fC P s.E s.a0 a1 o c4=some bD)(cR:∀p∈bD.f7,p):Fin P g s a w o bD:=by
 simp only[fC,ak] at aB;have aa:=h.eval x;split at aB
 ·rename_i r k i off h9
  rw[h9] at aa;split at aB
  ·rename_i an bQ bp
   split at aB
   ·rename_i c aN ma
    split at aB
    ·rename_i v bh
     simp only[dB] at aB;subst aB;have ky:s.an r k=some an:=vc bp fun p ah=>cR p (by simp[ah]);have qX:=BL ma fun p ah=>cR p (by simp[ah]);have fZ:=h.obj r k an ky;rcases aa.yh (jo ky) with h0|⟨b,m,ah,hval⟩
     ·rw[h0] at fZ;simp only[j8] at fZ;rw[fZ] at qX;simp at qX
     ·rw[ah] at fZ;obtain⟨u,h1,h2⟩:=Ln (P:=P) fZ.rd qX bh;refine je (v:=u) h ?_ rfl h2;rw[dG] at h1;simp[execOp,ak,hval,h1]
    ·simp at aB
   ·simp at aB
  ·simp at aB
 ·rename_i sz es i off h9
  rw[h9] at aa;split at aB
  ·rename_i c aN ma
   split at aB
   ·rename_i v bh;simp only[dB] at aB;subst aB;have qX:=BL ma fun p ah=>cR p (by simp[ah]);obtain⟨eV,ch,aW,hval,jD⟩:=aa.B0;obtain⟨u,h1,h2⟩:=Ln (P:=P) jD qX bh;refine je (v:=u) h ?_ rfl h2;simp[execOp,ak,hval,h1]
   ·simp at aB
  ·simp at aB
 ·simp at aB
end
section
variable {P:Program} {g:G} {s:S} {aF:gh} {a:Act} {w:World} {o:Oper} {c4:gp} {a1:Nat} {bD:iR}
theorem Tq (h:c7 g s aF a w){r k i off:Nat}{row:List a9}{an:a9}{c:List aG}{t:TypeId}{x y:Operand}(ak:o.op = .store t x y)
 (h9:fy s.E x = .ref r k i off) (d6:s.a0 r=some row) (bp:s.an r k=some an) (aX:an.cN = .live) (ma:an.es[i]? = some c)
 (m5:(fy s.E y).one=true\/ ∃c,fy s.E y = .agg c) (fE:(fy s.E y).cells.length=P.cellsOf t) (Nm:(P.info? t).isSome=true)
 (ig:off+(fy s.E y).cells.length<=c.length) (aB:bD.val = .dead) (hu:bD.gI=[(r,row.set k {an with es:=an.es.set i (setCells c off (fy s.E y).cells)})]):Fin P g s a w o bD:=by
 have aa:=h.eval x;rw[h9] at aa;have fZ:=h.obj r k an bp;rcases aa.yh (jo bp) with h0|⟨b,m,ah,hval⟩
 ·rw[h0] at fZ;simp only[j8] at fZ;rw[fZ] at ma;simp at ma
 ·obtain⟨bT,h1,h2⟩:=acM (P:=P) h d6 bp aX ah ma Nm (h.eval y) m5 fE ig;refine⟨undef,bT,aF,.inr ⟨?_,rfl⟩,by rw[hu];exact h2,by rw[aB];exact .dead _⟩;simp[execOp,ak,hval,h1]
theorem aeM {t:TypeId}{x y:Operand}(h:c7 g s aF a w)(ak:o.op = .store t x y)(aB:fC P s.E s.a0 a1 o c4=some bD)(cR:∀p∈bD.f7,p):Fin P g s a w o bD:=by
 simp only[fC,ak] at aB;split at aB
 ·rename_i r k i off h9
  split at aB
  ·simp at aB
  ·rename_i row d6
   split at aB
   ·rename_i an bQ ahF
    split at aB
    ·simp at aB
    ·rename_i aX
     have aX:an.cN = .live:=(by simpa using aX);split at aB
     ·simp at aB
     ·rename_i m5
      have m5:=aG.Sx (by simpa using m5);split at aB
      ·simp at aB
      ·rename_i fE
       simp only[not_or,Decidable.not_not,Bool.not_eq_false] at fE;have ky:(∀p∈bQ,p)->s.an r k=some an:=fun bG=>(by have:=vc ahF bG;unfold S.an;rw[d6];exact this);split at aB
       ·split at aB
        ·rename_i Cu
         simp only[dB] at aB;subst aB;subst Cu;have ep:i<an.es.length:=cR _ (by simp);have i7:(fy s.E y).cells.length=an.sz:=cR _ (by simp);have Fw:=ky fun p ah=>cR p (by simp[ah])
         have hlen:(an.es[i]).length=an.sz:=by
          have fZ:=h.obj r k an Fw
          cases ah:aF r k with
          | none=>rw[ah] at fZ;simp only[j8] at fZ;rw[fZ] at ep;simp at ep
          | some q =>
           rw[ah] at fZ;obtain⟨_,_,_,_,J,_⟩:=fZ;exact J _ (List.getElem_mem ep)
         refine Tq h ak h9 d6 Fw aX (c:=an.es[i]) (dz ep) m5 fE.1 fE.2 (by omega) rfl ?_;have e:setCells an.es[i] 0 (fy s.E y).cells=(fy s.E y).cells:=(by simp[setCells,hlen,i7]);rw[e]
        ·simp at aB
       ·split at aB
        ·rename_i c aN ma
         split at aB
         ·rename_i ig;simp only[dB] at aB;subst aB;exact Tq h ak h9 d6 (ky fun p ah=>cR p (by simp[ah])) aX (BL ma fun p ah=>cR p (by simp[ah])) m5 fE.1 fE.2 ig rfl rfl
         ·simp at aB
        ·simp at aB
   ·simp at aB
 ·simp at aB
theorem acN {x:Operand}(h:c7 g s aF a w)(ak:o.op = .nilCheck x)(aB:fC P s.E s.a0 a1 o c4=some bD)(cR:∀p∈bD.f7,p):Fin P g s a w o bD:=by
 simp only[fC,ak] at aB;have aa:=h.eval x;split at aB
 ·rename_i r k i off h9
  rw[h9] at aa;split at aB
  ·rename_i an bQ bp
   split at aB
   ·rename_i c aN ma
    simp only[dB] at aB;subst aB;have ky:s.an r k=some an:=vc bp fun p ah=>cR p (by simp[ah]);have qX:=BL ma fun p ah=>cR p (by simp[ah]);have fZ:=h.obj r k an ky;rcases aa.yh (jo ky) with h0|⟨b,m,ah,hval⟩
    ·rw[h0] at fZ;simp only[j8] at fZ;rw[fZ] at qX;simp at qX
    ·refine je (v:=a.eval x) h ?_ rfl aa;simp[execOp,ak,hval]
   ·simp at aB
  ·simp at aB
 ·rename_i sz es i off h9;rw[h9] at aa;simp only[dB] at aB;subst aB;obtain⟨eV,ch,aW,hval,jD⟩:=aa.B0;refine je (v:=a.eval x) h ?_ rfl aa;simp[execOp,ak,hval]
 ·rename_i f c h9;rw[h9] at aa;simp only[dB] at aB;subst aB;obtain⟨vs,hval,-⟩:=aa.Iw;refine je (v:=a.eval x) h ?_ rfl aa;simp[execOp,ak,hval]
 ·simp at aB
theorem adU {op:BinOp}{t:TypeId}{x y z:aG}{an:List Prop}(aB:MW op x y=some (z,an))(cR:∀p∈an,p)
 {ok:Nat->Prop} {bf:kd} {bk:j2} {mf mg:Value} (aa:Rel w ok bf bk x mf) (aU:Rel w ok bf bk y mg) (p q:Operand) :
 ∃v,((do eqGuard op t p q mf mg;binOp op t mf mg):Sem Value).run P w = .ok v w/\Rel w ok bf bk z v:=by
 unfold MW at aB;split at aB
 ·rename_i k n eu og
  have jb:=aa.pA;have j3:=aU.pA;subst jb;subst j3;have di : ∀op,eqGuard op t p q (.int k n) (.int eu og)=pure ():=fun op=>eqGuard_at_int ..;simp only[Sem.run_bind,di,Sem.run_pure,Result.andThen_ok];split at aB
  ·simp only[dB,dE] at aB;obtain⟨rfl,rfl⟩:=aB;have h0:0<=og:=cR _ (by simp);exact⟨_,by simp[binOp,Op.shift,show ¬og<0 by omega],.n _ _⟩
  ·simp only[dB,dE] at aB;obtain⟨rfl,rfl⟩:=aB;have h0:0<=og:=cR _ (by simp);exact⟨_,by simp[binOp,Op.shift,show ¬og<0 by omega],.n _ _⟩
  ·split at aB
   ·simp at aB
   ·rename_i aX
    have aX:k=eu:=(by simpa using aX);subst aX;split at aB<;>simp only[dB,dE,reduceCtorEq] at aB
    all_goals (obtain⟨rfl,rfl⟩:=aB)
    case h_4|h_5 =>
     have h0:og≠0:=cR _ (by simp);exact⟨_,by simp[binOp,Op.intDiv,h0],.n _ _⟩
    all_goals first
     | (refine⟨_,?_,.n _ _⟩;rw[binOp_add];rfl)
     | (refine⟨_,?_,.n _ _⟩;rw[binOp_sub];rfl)
     | (refine⟨_,?_,.n _ _⟩;rw[binOp_mul];rfl)
     | (refine⟨_,?_,.n _ _⟩;rw[binOp_and];rfl)
     | (refine⟨_,?_,.n _ _⟩;rw[binOp_or];rfl)
     | (refine⟨_,?_,.n _ _⟩;rw[binOp_xor];rfl)
     | (refine⟨_,?_,.b _⟩;simp[binOp,Op.intCmp];done)
 ·rename_i c6 nd
  have jb:=aa.Cl;have j3:=aU.Cl;subst jb;subst j3;have di : ∀op,eqGuard op t p q (.string c6) (.string nd)=pure ():=fun op=>eqGuard_at_string ..;simp only[Sem.run_bind,di,Sem.run_pure,Result.andThen_ok];split at aB<;>simp only[dB,dE,reduceCtorEq] at aB
  all_goals (obtain⟨rfl,rfl⟩:=aB)
  ·have h0:c6.size+nd.size<9223372036854775808:=cR _ (by simp);refine⟨_,?_,.s _⟩;have h1 : ¬((c6.size+nd.size:Nat):Int)>IntKind.i64.max:=(by rw[IntKind.max_i64];omega);rw[IntKind.max_i64] at h1;simp[binOp,Op.stringOp];omega
  ·exact⟨_,by simp[binOp,Op.stringOp],.b _⟩
  ·exact⟨_,by simp[binOp,Op.stringOp],.b _⟩
 ·simp at aB
theorem xX (t:TypeId)(x y:Value):Op.equal t x y=Op.equalIn (9999+1) t x y:=rfl
theorem D7 {t:TypeId}{a b:Bool}(d:Nat)(bC:P.underlying t=some .bool):(Op.equalIn (d+1) t (.bool a) (.bool b)).run P w = .ok (a == b) w:=by unfold Op.equalIn;simp[run_underlying bC]
theorem Ev {t e:TypeId}(d:Nat)(bC:P.underlying t=some (.pointer e)):(Op.equalIn (d+1) t (.pointer none) (.pointer none)).run P w = .ok true w:=by unfold Op.equalIn;simp[run_underlying bC]
theorem Ew {t e:TypeId}{a:Addr}(d:Nat)(bC:P.underlying t=some (.pointer e)):(Op.equalIn (d+1) t (.pointer (some a)) (.pointer none)).run P w = .ok false w:=by unfold Op.equalIn;simp[run_underlying bC]
theorem Ex {t e:TypeId}{a:Addr}(d:Nat)(bC:P.underlying t=some (.pointer e)):(Op.equalIn (d+1) t (.pointer none) (.pointer (some a))).run P w = .ok false w:=by unfold Op.equalIn;simp[run_underlying bC]
theorem Ey {t e:TypeId}(d:Nat)(bC:P.underlying t=some (.slice e)):(Op.equalIn (d+1) t (.slice none 0 0) (.slice none 0 0)).run P w = .ok true w:=by unfold Op.equalIn;simp[run_underlying bC]
theorem SU {t e:TypeId}{a:Addr}{c:Nat}(d:Nat)(bC:P.underlying t=some (.slice e))(n:Nat):(Op.equalIn (d+1) t (.slice (some a) n c) (.slice none 0 0)).run P w = .ok false w:=by unfold Op.equalIn;simp[run_underlying bC]
theorem BR {t:TypeId}{x y:aG}{r:Bool}(aB:uy P t x y=some r)
 {ok:Nat->Prop} {bf:kd} {bk:j2} {mf mg:Value} (aa:Rel w ok bf bk x mf) (aU:Rel w ok bf bk y mg) (p q:Operand) :
 ((do eqGuard .eql t p q mf mg;binOp .eql t mf mg):Sem Value).run P w = .ok (.bool r) w /\
 ((do eqGuard .neq t p q mf mg;binOp .neq t mf mg):Sem Value).run P w = .ok (.bool !r) w:=by
 have key : ∀b:Bool,(∀op,eqGuard op t p q mf mg=pure ())->binOp .eql t mf mg=(do pure (.bool (<- Op.equal t mf mg)))->binOp .neq t mf mg=(do pure (.bool (!(<- Op.equal t mf mg)))) ->
  (Op.equal t mf mg).run P w = .ok b w->((do eqGuard .eql t p q mf mg;binOp .eql t mf mg):Sem Value).run P w = .ok (.bool b) w /\
  ((do eqGuard .neq t p q mf mg;binOp .neq t mf mg):Sem Value).run P w = .ok (.bool !b) w:=by
  intro b di h1 h2 J;constructor
  ·rw[di,h1];simp[J]
  ·rw[di,h2];simp[J]
 unfold uy at aB;split at aB
 ·rename_i c6 nd bC;simp only[dB] at aB;subst aB;have jb:=aa.wB;have j3:=aU.wB;subst jb;subst j3;exact key _ (fun op=>eqGuard_at_bool ..) rfl rfl (by rw[xX];first|exact D7 _ bC|exact Ev _ bC|exact Ew _ bC|exact Ex _ bC|exact Ey _ bC)
 ·rename_i e bC;simp only[dB] at aB;subst aB;have jb:=aa.x7;have j3:=aU.x7;subst jb;subst j3;exact key _ (fun op=>eqGuard_at_pointer ..) rfl rfl (by rw[xX];first|exact D7 _ bC|exact Ev _ bC|exact Ew _ bC|exact Ex _ bC|exact Ey _ bC)
 ·rename_i e sz es i off bC;simp only[dB] at aB;subst aB;obtain⟨eV,ch,-,jb,-⟩:=aa.B0;have j3:=aU.x7;subst jb;subst j3;exact key _ (fun op=>eqGuard_at_pointer ..) rfl rfl (by rw[xX];first|exact D7 _ bC|exact Ev _ bC|exact Ew _ bC|exact Ex _ bC|exact Ey _ bC)
 ·rename_i e sz es i off bC;simp only[dB] at aB;subst aB;obtain⟨eV,ch,-,j3,-⟩:=aU.B0;have jb:=aa.x7;subst jb;subst j3;exact key _ (fun op=>eqGuard_at_pointer ..) rfl rfl (by rw[xX];first|exact D7 _ bC|exact Ev _ bC|exact Ew _ bC|exact Ex _ bC|exact Ey _ bC)
 ·rename_i e bC;simp only[dB] at aB;subst aB;have jb:=aa.rp;have j3:=aU.rp;subst jb;subst j3;exact key _ (fun op=>eqGuard_at_slice ..) rfl rfl (by rw[xX];first|exact D7 _ bC|exact Ev _ bC|exact Ew _ bC|exact Ex _ bC|exact Ey _ bC)
 ·rename_i e bC;simp only[dB] at aB;subst aB;obtain⟨zv,c,jb⟩:=aa.H9;have j3:=aU.rp;subst jb;subst j3;exact key _ (fun op=>eqGuard_at_slice ..) rfl rfl (by rw[xX];exact SU _ bC 0)
 ·simp at aB
theorem Vd {t e:TypeId}(bC:P.underlying t=some (.slice e)){sz:Nat}{es:List (List aG)}(c8:es≠[])
 {ok:Nat->Prop} {bf:kd} {bk:j2} {mf mg:Value} (aa:Rel w ok bf bk (.isl sz es) mf) (aU:Rel w ok bf bk .fv mg) (p q:Operand) :
 ((do eqGuard .eql t p q mf mg;binOp .eql t mf mg):Sem Value).run P w = .ok (.bool false) w /\
 ((do eqGuard .neq t p q mf mg;binOp .neq t mf mg):Sem Value).run P w = .ok (.bool true) w:=by
 rcases aa.vb with ⟨h0,-⟩|⟨eV,off,c,-,jb,-⟩
 ·exact absurd h0 c8
 ·have j3:=aU.rp
  subst jb;subst j3;have J:(Op.equal t (.slice (some ⟨eV,off,none⟩) es.length c) (.slice none 0 0)).run P w = .ok false w:=(by rw[xX];exact SU _ bC _);have di : ∀op,eqGuard op t p q (.slice (some ⟨eV,off,none⟩) es.length c) (.slice none 0 0)=pure ():=fun op=>eqGuard_at_slice ..;have h1:binOp .eql t (.slice (some ⟨eV,off,none⟩) es.length c) (.slice none 0 0)=(do pure (.bool (<- Op.equal t (.slice (some ⟨eV,off,none⟩) es.length c) (.slice none 0 0)))):=rfl;have h2:binOp .neq t (.slice (some ⟨eV,off,none⟩) es.length c) (.slice none 0 0)=(do pure (.bool (!(<- Op.equal t (.slice (some ⟨eV,off,none⟩) es.length c) (.slice none 0 0))))):=rfl;constructor
  ·rw[di,h1];simp[J]
  ·rw[di,h2];simp[J]
theorem aeN {op:BinOp}{t cD:TypeId}{x y:Operand}(h:c7 g s aF a w)(ak:o.op = .binOp op t x y cD)(aB:fC P s.E s.a0 a1 o c4=some bD)(cR:∀p∈bD.f7,p):Fin P g s a w o bD:=by
 simp only[fC,ak] at aB;have aa:=h.eval x;have aU:=h.eval y;split at aB
 ·rename_i v an aW;simp only[dB] at aB;subst aB;obtain⟨u,h1,h2⟩:=adU (P:=P) (t:=t) aW cR aa aU x y;refine je (v:=u) h ?_ rfl h2;simp only[execOp,ak];rw[Sem.run_bind,h1];rfl
 ·split at aB
  ·cases he:uy P t (fy s.E x) (fy s.E y) with
   | none=>simp[he] at aB
   | some r =>
    simp[he] at aB;subst aB;refine je (v:= .bool r) h ?_ rfl (.b r);simp only[execOp,ak];rw[Sem.run_bind,(BR (w:=w) he aa aU x y).1];rfl
  ·cases he:uy P t (fy s.E x) (fy s.E y) with
   | none=>simp[he] at aB
   | some r =>
    simp[he] at aB;subst aB;refine je (v:= .bool !r) h ?_ rfl (.b _);simp only[execOp,ak];rw[Sem.run_bind,(BR (w:=w) he aa aU x y).2];rfl
  ·simp at aB
theorem afP {op:UnOp}{t:TypeId}{x:Operand}(h:c7 g s aF a w)(ak:o.op = .unOp op t x)(aB:fC P s.E s.a0 a1 o c4=some bD):Fin P g s a w o bD:=by
 simp only[fC,ak] at aB;have aa:=h.eval x
 cases he:Nk op (fy s.E x) with
 | none=>simp[he] at aB
 | some v =>
  simp[he] at aB;subst aB;unfold Nk at he;split at he
  ·rename_i k n h9;rw[h9] at aa;simp only[dB] at he;subst he;refine je (v:= .int k (k.wrap (0-n))) h ?_ rfl (.n _ _);simp[execOp,ak,aa.pA,Op.unary,Op.intArith]
  ·rename_i b h9;rw[h9] at aa;simp only[dB] at he;subst he;refine je (v:= .bool !b) h ?_ rfl (.b _);simp[execOp,ak,aa.wB,Op.unary]
  ·simp at he
theorem adf {t cD:TypeId}{x:Operand}(h:c7 g s aF a w)(ak:o.op = .convert t cD x)(aB:fC P s.E s.a0 a1 o c4=some bD):Fin P g s a w o bD:=by
 simp only[fC,ak] at aB;have aa:=h.eval x;split at aB
 ·rename_i k eu n bC h9
  rw[h9] at aa;split at aB
  case isFalse=>simp at aB
  rename_i bJ;simp only[dB] at aB;subst aB;refine je (v:= .int k (k.wrap n)) h ?_ rfl (.n _ _)
  cases Wy:P.underlying t with
  | none=>simp[Wy] at bJ
  | some d=>simp[execOp,ak,aa.pA,convert,run_underlying bC,run_underlying Wy,Conv.intToInt]
 ·rename_i r k b6 len bC h9
  rw[h9] at aa;split at aB
  ·rename_i an IV bp
   split at aB
   ·rename_i oO FV
    split at aB
    ·rename_i aY
     simp only[dB] at aB;subst aB
     obtain⟨e,bJ,he⟩ : ∃e,P.underlying t=some (.slice e)/\P.underlying e=some (.int .u8):=by
      unfold rA at IV;split at IV
      ·rename_i e bJ;exact⟨e,bJ,IV⟩
      ·simp at IV
     have eK:s.an r k=some an:=bp;have fZ:=h.obj r k an eK
     have hzero : ∀(lQ:Option Addr) (c:Nat),len=0->(convert t cD (.slice lQ 0 c)).run P w = .ok (.string (Ct oO)) w:=by
      intro lQ c h0;subst h0;have:oO=[]:=(by simpa [bytesOf] using FV);subst this
      cases lQ with
      | none=>rw[run_convert_bytes_string w t cD e none 0 c bJ he bC];simp[Conv.bytesToString,Ct]
      | some lQ =>
       rw[run_convert_bytes_string w t cD e (some lQ) 0 c bJ he bC,run_bytesToString w lQ 0 c [] (by have:=run_loadCells_list (P:=P) w lQ [] (fun j v aq=>by simp at aq);simpa using this)];rfl
     rcases aa.EQ (jo eK) with ⟨ah,rfl,rfl,hval⟩|⟨b,m,A,c,ah,hval,tA,vD,hm⟩
     ·refine je (v:= .string (Ct oO)) h ?_ rfl (.s _);simp[execOp,ak,hval,hzero none 0 rfl]
     ·refine je (v:= .string (Ct oO)) h ?_ rfl (.s _)
      by_cases h0:len=0
      ·subst h0;simp[execOp,ak,hval,hzero A c rfl]
      ·rcases hm with hm|⟨hA,hm⟩
       ·omega
       ·subst hA
        rw[ah] at fZ;have jD:=fZ.rd
        have CB : ∀(es:List (List aG)) (oO:ar),bytesOf es=some oO->es.length=oO.length/\ ∀(i:Nat) n,oO[i]? = some n->es[i]? = some [.n .u8 n]:=by
         intro es
         induction es with
         | nil=>intro oO h;simp[bytesOf] at h;subst h;exact⟨rfl,fun i n ab=>by simp at ab⟩
         | cons x es ih =>
          intro oO h;unfold bytesOf at h;split at h
          ·simp at *
          ·rename_i mE alj CC
           simp only[List.cons.injEq] at CC;obtain⟨rfl,rfl⟩:=CC;rw[Option.map_eq_some_iff] at h;obtain⟨gi,Jd,rfl⟩:=h;obtain⟨e1,e2⟩:=ih gi Jd;refine⟨by simp[e1],fun i n ab=> ?_⟩
           cases i with
           | zero=>simp at ab;subst ab;rfl
           | succ i=>simpa using e2 i n (by simpa using ab)
          ·simp at h
        obtain⟨e1,e2⟩:=CB _ _ FV;have hlen:oO.length=len:=(by rw[<- e1];simp;omega);have ahb:(loadCells ⟨b,b6*an.sz,none⟩ len).run P w = .ok (oO.map (Value.int .u8)).toArray w:=(by have:=run_loadCells_list (P:=P) w ⟨b,b6*an.sz,none⟩ (oO.map (Value.int .u8)) (fun j v aq=>by rw[dJ,Option.map_eq_some_iff] at aq;obtain⟨n,aT,rfl⟩:=aq;have lb:=e2 j n aT;have y2:j<len:=(by rw[<- hlen];exact(List.getElem?_eq_some_iff.1 aT).1);rw[List.getElem?_take_of_lt y2,List.getElem?_drop] at lb;obtain⟨v,v1,v2,v3⟩:=jD.2 ((b6+j)*an.sz+0) (.n .u8 n) (by rw[Et jD.1 lb (by omega)];rfl);have bh:=v3.pA;subst bh;rw[te,<- v1,aY.2];congr 2;omega);rw[List.length_map,hlen] at this;exact this);have h2:=run_bytesToString w ⟨b,b6*an.sz,none⟩ len c oO ahb;rw[<- run_convert_bytes_string w t cD e _ len c bJ he bC] at h2;simp[execOp,ak,hval,h2,Ct]
    ·simp at aB
   ·simp at aB
  ·simp at aB
 ·simp at aB
theorem acO {f:Fn}{GI cI:Array Operand}(h:c7 g s aF a w)(ak:o.op = .makeFunc f GI cI)(aB:fC P s.E s.a0 a1 o c4=some bD):Fin P g s a w o bD:=by
 cases f with
 | func n =>
  simp only[fC,ak] at aB;split at aB
  ·rename_i ail
   simp only[dB] at aB;subst aB;refine je (v:= .func (.func n) #[] (cI.map a.eval)) h ?_ rfl ?_
   ·have:GI = #[]:=(by simpa using ail);subst this;simp[execOp,ak,Instr.makeFunc]
   ·have:=Rel.fn (f:=n) (c:=cI.toList.map (fy s.E)) (w:=w) (ok:=s.ok g aF w) (bf:=s.bf) (bk:=s.bk aF) (cI.toList.map a.eval) (by simp) (by
     intro j x v aa bh;rw[dJ,Option.map_eq_some_iff] at aa bh;obtain⟨p,ah,rfl⟩:=aa;obtain⟨q,aZ,rfl⟩:=bh;rw[ah] at aZ;simp at aZ;subst aZ;exact h.eval p)
    have e:(cI.toList.map a.eval).toArray=cI.map a.eval:=(by apply Array.ext';rw[Array.toList_map]);rw[e] at this;exact this
  ·simp at aB
 | _=>simp[fC,ak] at aB
theorem adg {i:Nat}{x:Operand}(h:c7 g s aF a w)(ak:o.op = .extract x i)(aB:fC P s.E s.a0 a1 o c4=some bD):Fin P g s a w o bD:=by
 simp only[fC,ak] at aB;have aa:=h.eval x;split at aB
 ·rename_i vs h9
  rw[h9] at aa
  cases ab:vs[i]? with
  | none=>simp[ab] at aB
  | some v =>
   simp[ab] at aB;subst aB;obtain⟨bf,hval,aV,ai⟩:=aa.BZ
   have ep:i<bf.length:=by
    rcases Nat.lt_or_ge i vs.length with c1|c1
    ·omega
    ·rw[List.getElem?_eq_none c1] at ab;simp at ab
   have hu:bf[i]? = some bf[i]:=dz ep;refine je (v:=bf[i]) h ?_ rfl (ai i v _ ab hu);simp[execOp,ak,hval,Instr.extract,hu]
 ·simp at aB
end
section
variable {P:Program} {g:G} {s:S} {aF:gh} {a:Act} {w:World} {o:Oper} {c4:gp} {a1:Nat} {bD:iR}
theorem uf {t e:TypeId}(h:rA P t=some e):P.underlying t=some (.slice e):=by
 unfold rA at h;split at h
 ·rename_i e3 he;simp at h;subst h;exact he
 ·simp at h
theorem Lf {t:TypeId}{lP:Array Field}(h:fieldsOf P t=some lP):P.underlying t=some (.struct lP):=by
 unfold fieldsOf at h;split at h
 ·rename_i e3 he;simp at h;subst h;exact he
 ·simp at h
theorem Sa : ∀(z c:List aG),(tk z c).length=z.length
 | x::z,y::c=>by simp[tk,Sa z c]
 | [],_=>by simp[tk]
 | _::_,[]=>by simp[tk]
theorem acs (z:List aG)(c4:gp):(vi z c4).length=z.length:=by
 unfold vi;split
 ·exact Sa z _
 ·rfl
theorem adh (x y:aG){w:World}{ok:Nat->Prop}{bf:kd}{bk:j2}{v:Value}(h:Rel w ok bf bk x v):Rel w ok bf bk (EW x y) v:=by
 unfold EW;split
 ·rw[h.rp];exact .li _ _ _ (fun _=>rfl)
 ·rw[h.x7];exact .qW _
 ·rw[h.rp];exact .nU (.li _ _ _ (fun _=>rfl))
 ·exact h
theorem Tr : ∀(z c:List aG) (j:Nat) q,(tk z c)[j]? = some q-> ∃x,z[j]? = some x/\(q=x\/ ∃y,q=EW x y)
 | x::z,y::c,0,q,h=>by simp[tk] at h;exact⟨x,rfl,.inr ⟨y,h.symm⟩⟩
 | x::z,y::c,j+1,q,h=>by simp only[tk,List.getElem?_cons_succ] at h;simpa using Tr z c j q h
 | [],c,j,q,h=>by simp[tk] at h
 | x::z,[],j,q,h=>⟨q,by simpa [tk] using h,.inl rfl⟩
theorem aeO (z:List aG)(c4:gp)(j:Nat)(q:aG)(h:(vi z c4)[j]? = some q): ∃x,z[j]? = some x/\(q=x\/ ∃y,q=EW x y):=by
 unfold vi at h;split at h
 ·exact Tr z _ j q h
 ·exact⟨q,h,.inl rfl⟩
theorem acu {t:TypeId}{x y:Operand}(h:c7 g s aF a w)(fF:s.a0 a1=none)(ak:o.op = .makeSlice t x y)(aB:fC P s.E s.a0 a1 o c4=some bD)(cR:∀p∈bD.f7,p):Fin P g s a w o bD:=by
 simp only[fC,ak] at aB;have aa:=h.eval x;have aU:=h.eval y;split at aB
 ·rename_i e lR l kr c he ahG ahH
  rw[ahG] at aa;rw[ahH] at aU;split at aB
  ·rename_i i z ab cC
   obtain⟨ff,fb,lK,lJ,rY,Ve⟩:=Eu cC;rw[ab] at lK;simp at lK;subst lK;simp only[Option.ite_none_right_eq_some,dB] at aB;obtain⟨fE,aB⟩:=aB;subst aB;have ma:=acs z c4
   have k8 : ∀(j:Nat) q,(vi z c4)[j]? = some q-> ∃v,fb.cells[j]? = some v/\VL.lg v=true/\ ∀w ok bf bk,Rel w ok bf bk q v:=by
    intro j q aZ;obtain⟨x,et,oI⟩:=aeO z c4 j q aZ;obtain⟨v,v1,v2,v3⟩:=Ve j x et;refine⟨v,v1,v2,fun w ok bf bk=> ?_⟩;rcases oI with rfl|⟨y,rfl⟩
    ·exact v3 w ok bf bk
    ·exact adh x y (v3 w ok bf bk)
   clear Ve;have h0:0<=l:=cR _ (by simp);have h1:l<=c:=cR _ (by simp);have h2:(i.bytes:Int)*c<=281474976710656:=cR _ (by simp);have J:c<9223372036854775808:=cR _ (by simp);have oJ:z.length=fb.cells.size:=(by rw[rY];simp);have jX:=run_make (P:=P) w t e i fb (uf he) ab lJ lR kr l c h0 h1 h2 (by omega);refine Ia (v:= .slice (some ⟨w.heap.size,0,none⟩) l.toNat c.toNat) (an:=⟨z.length,List.replicate l.toNat (vi z c4),.live⟩) (c:=madeCells fb.cells (c.toNat*i.size)) (fo:=e) h fF rfl ?_ rfl ?_ ?_ ?_
   ·simp[execOp,ak,aa.pA,aU.pA,jX]
   ·intro e3 m7;rw[List.eq_of_mem_replicate m7];exact ma
   ·intro j q aZ
    have aV : ∀e3∈List.replicate l.toNat (vi z c4),e3.length=z.length:=fun e3 m7=>(by rw[List.eq_of_mem_replicate m7];exact ma);rcases Nat.eq_zero_or_pos z.length with tB|Je
    ·have:vi z c4=[]:=List.length_eq_zero_iff.1 (by omega);rw[this] at aZ;simp at aZ
    ·rw[qG Je _ aV,List.getElem?_replicate] at aZ
     by_cases aq:j / z.length<l.toNat
     ·rw[dw aq] at aZ;simp only[dx] at aZ;obtain⟨v,e1,e2,bN⟩:=k8 _ _ aZ;refine⟨v,?_,e2,bN _ _ _ _⟩;have ep:j<c.toNat*i.size:=(by rw[<- fE];have:j<l.toNat*z.length:=(Nat.div_lt_iff_lt_mul Je).1 aq;exact Nat.lt_of_lt_of_le this (dM _ (by omega)));simp only[madeCells];rw[Array.getElem?_map,Array.getElem?_range];simp only[ep,if_true,Option.map_some];rw[oJ] at e1;have hm:j % fb.cells.size<fb.cells.size:=Nat.mod_lt _ (by omega);rw[Array.getElem?_eq_getElem hm] at e1;rw[getElem!_pos fb.cells _ hm];exact e1
     ·rw[dA aq] at aZ;simp at aZ
   ·intro bT lZ n0 ns hu cg;refine Rel.bc hu cg (by omega) (by omega) ⟨?_,.inr (by simp)⟩;rw[size_madeCells];simp only[dG,fE]
  ·simp at aB
 ·simp at aB
theorem acv {t:TypeId}{x:Operand}{f:Nat}(h:c7 g s aF a w)(ak:o.op = .fieldAddr t x f)(aB:fC P s.E s.a0 a1 o c4=some bD)(cR:∀p∈bD.f7,p):Fin P g s a w o bD:=by
 simp only[fC,ak] at aB;have aa:=h.eval x;split at aB
 ·rename_i lP FW
  split at aB
  ·rename_i fd wO
   split at aB
   ·simp at aB
   ·rename_i Wz
    have ab:(P.info? fd.type).isSome=true:=by
     cases ab:P.info? fd.type with
     | none=>simp[Program.cellsOf,ab] at Wz
     | some i=>rfl
    have jX : ∀A:Addr,A.spot=none->(Instr.fieldAt t (.pointer (some A)) f).run P w = .ok (.pointer (some ⟨A.block,A.off+fd.offset,none⟩)) w:=(by intro A hA;have e:A.add fd.offset=⟨A.block,A.off+fd.offset,none⟩:=(by obtain⟨b,o,sp⟩:=A;simp only at hA;subst hA;exact te b o _);simp[Instr.fieldAt,run_underlying (Lf FW),wO,Instr.sureAddr,fieldPlace,u1 ab,Wz,e]);split at aB
    ·rename_i r k i off h9
     rw[h9] at aa;split at aB
     ·rename_i an bQ bp
      split at aB
      ·rename_i c aN ma
       simp only[dB] at aB;subst aB;have ky:s.an r k=some an:=vc bp fun p ah=>cR p (by simp[ah]);have qX:=BL ma fun p ah=>cR p (by simp[ah]);have fZ:=h.obj r k an ky;rcases aa.yh (jo ky) with h0|⟨b,m,ah,hval⟩
       ·rw[h0] at fZ;simp only[j8] at fZ;rw[fZ] at qX;simp at qX
       ·refine je (v:= .pointer (some ⟨b,i*an.sz+(off+fd.offset),none⟩)) h ?_ rfl ?_
        ·simp[execOp,ak,hval,jX,Nat.add_assoc]
        ·exact aa.Tp ((jo ky).trans (by rw[ah])) _
      ·simp at aB
     ·simp at aB
    ·rename_i sz es i off h9;rw[h9] at aa;simp only[dB] at aB;subst aB;obtain⟨eV,ch,aW,hval,jD⟩:=aa.B0;refine je (v:= .pointer (some ⟨eV,ch+(i*sz+(off+fd.offset)),none⟩)) h ?_ rfl (jD.fg aW);simp[execOp,ak,hval,jX,Nat.add_assoc]
    ·simp at aB
  ·simp at aB
 ·simp at aB
theorem Mc {t e:TypeId}{n:Nat}(h:Fv P t=some (n,e)):P.underlying t=some (.array n e)/\(P.info? e).isSome=true/\P.cellsOf e≠0/\1<n:=by
 unfold Fv at h;split at h
 ·rename_i og e3 hu
  split at h
  ·rename_i aY;simp only[dB,dE] at h;obtain⟨rfl,rfl⟩:=h;exact⟨hu,aY⟩
  ·simp at h
 ·simp at h
theorem aeP {t:TypeId}{x y:Operand}(h:c7 g s aF a w)(ak:o.op = .indexAddr t x y)(aB:Cj P s.a0 t (fy s.E x) (fy s.E y) c4=some bD)(cR:∀p∈bD.f7,p):Fin P g s a w o bD:=by
 unfold Cj at aB;have aa:=h.eval x;have aU:=h.eval y;split at aB
 ·rename_i n e r k i off cN j hZ vv Fx
  rw[vv] at aa;rw[Fx] at aU;obtain⟨hu,ab,aY,aT⟩:=Mc hZ;split at aB
  ·rename_i an bQ bp
   split at aB
   ·rename_i c aN ma
    simp only[dB] at aB;subst aB;have ky:s.an r k=some an:=vc bp fun p ah=>cR p (by simp[ah]);have qX:=BL ma fun p ah=>cR p (by simp[ah]);have h0:0<=j:=cR _ (by simp);have h1:j<n:=cR _ (by simp);have fZ:=h.obj r k an ky;rcases aa.yh (jo ky) with cC|⟨b,m,ah,hval⟩
    ·rw[cC] at fZ;simp only[j8] at fZ;rw[fZ] at qX;simp at qX
    ·refine je (v:= .pointer (some ⟨b,i*an.sz+(off+j.toNat*P.cellsOf e),none⟩)) h ?_ rfl ?_
     ·simp[execOp,ak,hval,aU.pA,Instr.indexAt,asIntOf,run_underlying hu,Instr.sureAddr,h0,h1,u1 ab,te,Nat.add_assoc]
     ·exact aa.Tp ((jo ky).trans (by rw[ah])) _
   ·simp at aB
  ·simp at aB
 ·simp at aB
theorem acw {t:TypeId}{x y:Operand}(h:c7 g s aF a w)(ak:o.op = .indexAddr t x y)(aB:fC P s.E s.a0 a1 o c4=some bD)(cR:∀p∈bD.f7,p):Fin P g s a w o bD:=by
 simp only[fC,ak] at aB;have aa:=h.eval x;have aU:=h.eval y;split at aB
 ·rename_i e k j he h9
  rw[h9] at aU;have hu:=uf he
  have jX : ∀(b o len cap:Nat),0<=j->j<len->(P.info? e).isSome=true ->
   (Instr.indexAt t (.slice (some ⟨b,o,none⟩) len cap) (.int k j)).run P w = .ok (.pointer (some ⟨b,o+j.toNat*P.cellsOf e,none⟩)) w:=by
   intro b o len cap h0 h1 ab;have e3:=te b o (j.toNat*P.cellsOf e);simp[Instr.indexAt,asIntOf,run_underlying hu,h0,h1,u1 ab,e3]
  have yE : ∀sz,sz=P.cellsOf e->sz≠0->(P.info? e).isSome=true:=by
   intro sz bJ cC
   cases ab:P.info? e with
   | none=>simp[Program.cellsOf,ab] at bJ;exact absurd bJ cC
   | some i=>rfl
  split at aB
  ·rename_i sz es vv
   rw[vv] at aa;simp only[Option.ite_none_right_eq_some,dB] at aB;obtain⟨⟨bJ,cC⟩,aB⟩:=aB;subst aB;have h0:0<=j:=cR _ (by simp);have h1:j<es.length:=cR _ (by simp);rcases aa.vb with ⟨FX,-⟩|⟨eV,off,c,aW,hval,aY,jD⟩
   ·subst FX;simp at h1;omega
   ·refine je (v:= .pointer (some ⟨eV,off+(j.toNat*sz+0),none⟩)) h ?_ rfl (jD.fg aW);simp[execOp,ak,hval,aU.pA,jX _ _ _ _ h0 h1 (yE sz bJ cC),bJ]
  ·rename_i r q b6 len vv
   rw[vv] at aa;split at aB
   ·rename_i row d6
    split at aB
    ·rename_i an bQ bp
     simp only[Option.ite_none_right_eq_some,dB] at aB;obtain⟨⟨bJ,cC⟩,aB⟩:=aB;subst aB;have ky:s.an r q=some an:=(by unfold S.an;rw[d6];exact vc bp fun p ah=>cR p (by simp[ah]));have h0:0<=j:=cR _ (by simp);have h1:j<len:=cR _ (by simp);rcases aa.EQ (jo ky) with ⟨-,-,h2,-⟩|⟨b,m,A,c,ah,hval,aV,-,hm⟩
     ·subst h2;simp at h1;omega
     ·rcases hm with hm|⟨hA,hm⟩
      ·omega
      ·subst hA;have km:=HU ky;refine je (v:= .pointer (some ⟨b,(b6+j.toNat)*an.sz+0,none⟩)) h ?_ rfl (.ref km ((jo ky).trans (by rw[ah])));simp[execOp,ak,hval,aU.pA,jX _ _ _ _ h0 h1 (yE _ bJ cC),bJ,Nat.add_mul]
    ·simp at aB
   ·simp at aB
  ·simp at aB
 ·exact aeP h ak aB cR
theorem ags {c:Call}(h:c7 g s aF a w)(ak:o.op = .call c)(aY:c.callee = .builtin .len)(aB:fC P s.E s.a0 a1 o c4=some bD)(cR:∀p∈bD.f7,p):Fin P g s a w o bD:=by
 obtain⟨Jf,args,n3⟩:=c;simp only at aY;subst aY;simp only[fC,ak] at aB
 have key : ∀(x:Operand) (n:Nat) (t:TypeId) (v:Value),args.toList=[x]->n3 = #[t]->bD.val = .n .i64 n->bD.gI=[]->a.eval x=v ->
  (Builtin.len_ #[t] o.type #[v]).run P w = .ok (goInt n) w->Fin P g s a w o bD:=by
  intro x n t v hargs m8 ai iN bh jX;subst m8;refine je (v:=goInt n) h ?_ iN (by rw[ai];exact .n _ _);have bG:args = #[x]:=(by apply Array.ext';simpa using hargs);subst bG;simp[execOp,ak,resolve,invoke,builtin,bh,jX]
 have hargs : ∀y,args.toList.map (fy s.E)=[y]-> ∃x,args.toList=[x]/\fy s.E x=y:=by
  intro y aU
  match aV:args.toList,aU with
  | [x],aU=>simp at aU;exact⟨x,rfl,aU⟩
 have pE:decide (n3.size=1)=true-> ∃t,n3 = #[t]/\n3.getD 0 0=t:=by
  intro fE;have fE:n3.size=1:=(by simpa using fE);obtain⟨l⟩:=n3
  match l,fE with
  | [t],_=>exact⟨t,rfl,rfl⟩
 split at aB
 ·rename_i sz es e hm hu fE
  obtain⟨x,aa,h9⟩:=hargs _ hm;obtain⟨t,cg,nv⟩:=pE fE;rw[nv] at hu;simp only[dB] at aB;have ai:=h.eval x;rw[h9] at ai;rcases ai.vb with ⟨FX,A,c,hval,hA⟩|⟨eV,off,c,aW,hval,-⟩
  ·exact key x es.length t _ aa cg (by rw[<- aB]) (by rw[<- aB]) hval (by subst FX;simp[Builtin.len_,run_underlying hu])
  ·exact key x es.length t _ aa cg (by rw[<- aB]) (by rw[<- aB]) hval (by simp[Builtin.len_,run_underlying hu])
 ·rename_i r k b6 len e hm hu fE
  obtain⟨x,aa,h9⟩:=hargs _ hm;obtain⟨t,cg,nv⟩:=pE fE;rw[nv] at hu;split at aB
  ·rename_i row d6
   split at aB
   ·rename_i an bQ bp
    simp only[dB] at aB;have ai:=h.eval x;rw[h9] at ai;have ky:s.an r k=some an:=(by unfold S.an;rw[d6];exact vc bp fun p ah=>cR p (by rw[<- aB];exact ah));rcases ai.EQ (jo ky) with ⟨-,-,h2,hval⟩|⟨b,m,A,c,ah,hval,-⟩
    ·exact key x len t _ aa cg (by rw[<- aB]) (by rw[<- aB]) hval (by subst h2;simp[Builtin.len_,run_underlying hu])
    ·exact key x len t _ aa cg (by rw[<- aB]) (by rw[<- aB]) hval (by simp[Builtin.len_,run_underlying hu])
   ·simp at aB
  ·simp at aB
 ·rename_i e hm hu fE;obtain⟨x,aa,h9⟩:=hargs _ hm;obtain⟨t,cg,nv⟩:=pE fE;rw[nv] at hu;simp only[dB] at aB;have ai:=h.eval x;rw[h9] at ai;exact key x 0 t _ aa cg (by rw[<- aB];rfl) (by rw[<- aB]) ai.rp (by simp[Builtin.len_,run_underlying hu])
 ·rename_i b hm hu fE;obtain⟨x,aa,h9⟩:=hargs _ hm;obtain⟨t,cg,nv⟩:=pE fE;rw[nv] at hu;simp only[dB] at aB;have ai:=h.eval x;rw[h9] at ai;exact key x b.size t _ aa cg (by rw[<- aB]) (by rw[<- aB]) ai.Cl (by simp[Builtin.len_,run_underlying hu])
 ·simp at aB
theorem Hr {ok:Nat->Prop}{bf:kd}{bk:j2}{eV off sz:Nat}{es:List (List aG)}(h:pW w ok bf bk eV off sz es)(l n:Nat)(aV:l<=es.length):
 pW w ok bf bk eV (off+l*sz) sz ((es.drop l).take n):=by
 have uw : ∀e∈(es.drop l).take n,e.length=sz:=fun e he=>h.1 e (List.mem_of_mem_drop (List.mem_of_mem_take he));refine⟨uw,fun j x aa=> ?_⟩;rcases Nat.eq_zero_or_pos sz with h0|bJ
 ·have e1 : ∀(l:List (List aG)),(∀e∈l,e.length=0)->l.flatten=[]:=by
   intro l aV;induction l with
   | nil=>rfl
   | cons a l ih=>rw[List.flatten_cons,ih fun e he=>aV e (by simp[he])];have:=aV a (by simp);simp_all
  rw[e1 _ (fun e he=>(uw e he).trans h0)] at aa;simp at aa
 ·rw[qG bJ _ uw] at aa
  have aq:j / sz<n:=by
   rcases Nat.lt_or_ge (j / sz) n with c1|c1
   ·exact c1
   ·rw[List.getElem?_eq_none (by simp;omega)] at aa;simp at aa
  rw[List.getElem?_take,dw aq,List.getElem?_drop] at aa;obtain⟨v,e1,e2,bN⟩:=h.2 (l*sz+j) x (by rw[qG bJ es h.1];have hi:(l*sz+j) / sz=l+j / sz:=(by rw[Nat.mul_comm,Nat.mul_add_div bJ]);have hn:(l*sz+j) % sz=j % sz:=(by rw[Nat.mul_comm,Nat.mul_add_mod]);rw[hi,hn];exact aa);exact⟨v,by rw[Nat.add_assoc];exact e1,e2,bN⟩
theorem Hn {t e:TypeId}(hu:P.underlying t=some (.slice e))(ab:(P.info? e).isSome=true)(A:Option Addr)(len cap:Nat)(b6 lK:Option Value)(l h:Nat)
 (WA:(b6=none/\l=0)\/ ∃k,b6=some (.int k l)) (WB:(lK=none/\h=len)\/ ∃k,lK=some (.int k h)) (h1:l<=h) (h2:h<=len) (J:len<=cap) :
 (Instr.sliceAt t (.slice A len cap) b6 lK none).run P w = .ok (.slice (if cap=l then A else A.map (·.add (l*P.cellsOf e))) (h-l) (cap-l)) w:=by
 have aW : ∀(k:IntKind) (n y:Nat) (code:BoundsCode),n<=y->(Instr.sliceBound (.int k n) y code).run P w = .ok n w:=by intro k n y code aT;simp[Instr.sliceBound,asIntOf,aT]
 rcases WA with ⟨rfl,rfl⟩|⟨lR,rfl⟩<;>rcases WB with ⟨rfl,rfl⟩|⟨kr,rfl⟩ <;>
  simp[Instr.sliceAt,Instr.slice,run_underlying hu,Instr.sliceBounds,u1 ab,aW,h1,h2,J,Nat.le_trans h2 J]
theorem B9 {x:Option Operand}(h:c7 g s aF a w){d n:Nat}{an:List Prop}(aW:ag (x.map (fy s.E)) d=some (n,an))(cR:∀p∈an,p):
 (x.map a.eval=none/\n=d)\/ ∃k,x.map a.eval=some (.int k n):=by
 cases x with
 | none=>simp[ag] at aW;exact .inl ⟨rfl,aW.1.symm⟩
 | some x =>
  have aa:=h.eval x;simp only[Option.map_some] at aW ⊢;unfold ag at aW;split at aW
  ·rename_i he;simp at he
  ·rename_i _ k y he;simp only[dB] at he;rw[he] at aa;simp only[dB,dE] at aW;obtain⟨rfl,rfl⟩:=aW;have h0:0<=y:=cR _ (by simp);refine .inr ⟨k,?_⟩;rw[aa.pA,Int.toNat_of_nonneg h0]
  ·simp at aW
theorem aeQ {t:TypeId}{x:Operand}{b6 ab:Option Operand}(h:c7 g s aF a w)(ak:o.op = .slice t x b6 ab none)(aB:fC P s.E s.a0 a1 o c4=some bD)(cR:∀p∈bD.f7,p):Fin P g s a w o bD:=by
 simp only[fC,ak] at aB;have aa:=h.eval x
 have yE : ∀sz e,sz=P.cellsOf e->sz≠0->(P.info? e).isSome=true:=by
  intro sz e bJ cC
  cases ab:P.info? e with
  | none=>simp[Program.cellsOf,ab] at bJ;exact absurd bJ cC
  | some i=>rfl
 split at aB
 ·rename_i e sz es hu h9
  rw[h9] at aa;split at aB
  ·rename_i l bQ n aN aV aT
   simp only[Option.ite_none_right_eq_some,dB] at aB;obtain⟨⟨bJ,cC⟩,aB⟩:=aB;subst aB;have i3:=B9 h aV fun p ah=>cR p (by simp[ah]);have j4:=B9 h aT fun p ah=>cR p (by simp[ah]);have h1:l<=n:=cR _ (by simp);have h2:n<=es.length:=cR _ (by simp);rcases aa.vb with ⟨FX,A,c,hval,hA⟩|⟨eV,off,c,aW,hval,aY,jD⟩
   ·subst FX
    have Nn:n=0:=(by simpa using h2);subst Nn;have oK:l=0:=(by omega);subst oK;refine je (v:= .slice (if c=0 then A else A.map (·.add (0*P.cellsOf e))) (0-0) (c-0)) h ?_ rfl ?_
    ·have:=Hn (w:=w) hu (yE sz e bJ cC) A 0 c (b6.map a.eval) (ab.map a.eval) 0 0 i3 j4 (dD _) (dD _) (Nat.zero_le _);simp only[execOp,ak,hval];simp only[Option.map_none,Sem.run_bind,this];rfl
    ·refine .li sz _ _ fun aT=> ?_
     split at aT
     ·rename_i nI;omega
     ·have:=hA (by simpa using aT);omega
   ·have hlen:((es.drop l).take (n-l)).length=n-l:=by simp;omega
    refine je (v:= .slice (if c=l then some ⟨eV,off,none⟩ else (some (⟨eV,off,none⟩:Addr)).map (·.add (l*P.cellsOf e))) (n-l) (c-l)) h ?_ rfl ?_
    ·have:=Hn (w:=w) hu (yE sz e bJ cC) (some ⟨eV,off,none⟩) es.length c (b6.map a.eval) (ab.map a.eval) l n i3 j4 h1 h2 aY;simp only[execOp,ak,hval];simp only[Option.map_none,Sem.run_bind,this];rfl
    ·by_cases i7:c=l
     ·have:n-l=0:=(by omega);rw[this];show Rel _ _ _ _ (.isl sz ((es.drop l).take 0)) _;rw[List.take_zero];exact .li sz _ _ (fun _=>by omega)
     ·rw[dA i7];simp only[Option.map_some,te,<- bJ];have ai:=(Hr jD l (n-l) (by omega)).isl (c:=c-l) ⟨aW.1,fun e he=>aW.2 e (List.mem_of_mem_drop (List.mem_of_mem_take he))⟩ (by rw[hlen];omega);rw[hlen] at ai;exact ai
  ·simp at aB
 ·rename_i e r k XG len hu h9
  rw[h9] at aa;split at aB
  ·simp at aB
  ·rename_i row d6
   split at aB
   ·simp at aB
   ·rename_i an XH bp
    split at aB
    ·rename_i l bQ n aN aV aT
     simp only[Option.ite_none_right_eq_some,dB] at aB;obtain⟨⟨bJ,cC⟩,aB⟩:=aB;subst aB;have ky:s.an r k=some an:=(by unfold S.an;rw[d6];exact vc bp fun p ah=>cR p (by simp[ah]));have i3:=B9 h aV fun p ah=>cR p (by simp[ah]);have j4:=B9 h aT fun p ah=>cR p (by simp[ah]);have h1:l<=n:=cR _ (by simp);have h2:n<=len:=cR _ (by simp);have km:=HU ky;rcases aa.x8 (jo ky) with ⟨ah,rfl,rfl,hval⟩|⟨b,m,A,c,ah,hval,tA,vD,nw,hm⟩
     ·have Nn:n=0:=(by omega);subst Nn;have oK:l=0:=(by omega);subst oK;refine je (v:= .slice none 0 0) h ?_ rfl (.oV km ((jo ky).trans (by rw[ah])));have:=Hn (w:=w) hu (yE _ e bJ cC) none 0 0 (b6.map a.eval) (ab.map a.eval) 0 0 i3 j4 (dD _) (dD _) (dD _);simp only[execOp,ak,hval];simp only[Option.map_none,Sem.run_bind,this];rfl
     ·refine je (v:= .slice (if c=l then A else A.map (·.add (l*P.cellsOf e))) (n-l) (c-l)) h ?_ rfl ?_
      ·have:=Hn (w:=w) hu (yE _ e bJ cC) A len c (b6.map a.eval) (ab.map a.eval) l n i3 j4 h1 h2 tA;simp only[execOp,ak,hval];simp only[Option.map_none,Sem.run_bind,this];rfl
      ·refine Rel.bc km ((jo ky).trans (by rw[ah])) (by omega) (by omega) ?_
       refine⟨by rw[<- nw];congr 1;omega,?_⟩;by_cases i7:c=l
       ·exact .inl (by omega)
       ·rcases hm with hm|hA
        ·exact .inl (by omega)
        ·refine .inr ?_;rw[dA i7,hA];simp only[Option.map_some,te,<- bJ,Nat.add_mul]
    ·simp at aB
 ·rename_i b hu h9
  rw[h9] at aa;split at aB
  ·rename_i l bQ n aN aV aT
   simp only[dB] at aB;subst aB;have i3:=B9 h aV fun p ah=>cR p (by simp[ah]);have j4:=B9 h aT fun p ah=>cR p (by simp[ah]);have h1:l<=n:=cR _ (by simp);have h2:n<=b.size:=cR _ (by simp);refine je (v:= .string (b.extract l n)) h ?_ rfl (.s _);have aW : ∀(k:IntKind) (n y:Nat) (code:BoundsCode),n<=y->(Instr.sliceBound (.int k n) y code).run P w = .ok n w:=(by intro k n y code aT;simp[Instr.sliceBound,asIntOf,aT]);simp only[execOp,ak,aa.Cl,Option.map_none]
   rcases i3 with ⟨e1,rfl⟩|⟨lR,e1⟩<;>rcases j4 with ⟨e2,rfl⟩|⟨kr,e2⟩<;>rw[e1,e2] <;>
    simp[Instr.sliceAt,Instr.slice,run_underlying hu,Instr.sliceBounds,aW,h1,h2]
  ·simp at aB
 ·simp at aB
end
section
variable {P:Program} {g:G} {s:S} {aF:gh} {a:Act} {w:World} {o:Oper} {c4:gp} {a1:Nat} {bD:iR}
theorem SV {ok:Nat->Prop}{bf:kd}{bk:j2}{t:TypeId}{c:List aG}{off:Nat}{x:aG}{vs:List Value}(aV:vs.length=c.length)
 (k8 : ∀(j:Nat) u,vs[j]? = some u->lg u=true) (ai : ∀(j:Nat) x u,c[j]? = some x->vs[j]? = some u->Rel w ok bf bk x u)
 (cg:sC P t c off=some x) : ∃v,(part t vs.toArray off).run P w = .ok v w/\Rel w ok bf bk x v:=by
 unfold sC at cg;split at cg
 ·simp at cg
 ·rename_i ab
  simp only[Bool.not_eq_true',Bool.not_eq_false,dL] at ab;simp only[part,Sem.run_bind,To ab.1,Result.andThen];split at cg
  ·rename_i tx
   rw[tx];split at cg
   ·rename_i hle
    simp at cg;subst cg;have e:(vs.toArray.extract off (off+P.cellsOf t))=((vs.drop off).take (P.cellsOf t)).toArray:=(by apply Array.ext';simp[List.extract_eq_take_drop]);refine⟨.agg ((vs.drop off).take (P.cellsOf t)).toArray,by simp[u1 ab.2],?_⟩;refine .agg _ (by simp;omega) ?_ ?_
    ·intro j v bh
     rw[List.getElem?_take] at bh;split at bh
     ·rw[List.getElem?_drop] at bh;exact k8 _ _ bh
     ·simp at bh
    ·intro j y v aU bh
     rw[List.getElem?_take] at bh aU;split at bh
     ·rename_i aq;rw[dw aq] at aU;rw[List.getElem?_drop] at bh aU;exact ai _ _ _ aU bh
     ·simp at bh
   ·simp at cg
  ·rename_i tx
   have tx:EV P t=false:=(by simpa using tx);rw[tx];split at cg
   ·rename_i y aU
    split at cg
    ·simp at cg;subst cg
     have Cu:off<vs.length:=by
      rcases Nat.lt_or_ge off c.length with h|h
      ·omega
      ·rw[List.getElem?_eq_none h] at aU;simp at aU
     exact⟨vs[off],by simp[Cu],ai off y _ aU (dz Cu)⟩
    ·simp at cg
   ·simp at cg
theorem aeR {t:TypeId}{x:Operand}{f:Nat}(h:c7 g s aF a w)(ak:o.op = .field t x f)(aB:fC P s.E s.a0 a1 o c4=some bD):Fin P g s a w o bD:=by
 simp only[fC,ak] at aB;have aa:=h.eval x;split at aB
 ·rename_i lP FW
  split at aB
  ·rename_i fd c wO h9
   rw[h9] at aa
   cases cg:sC P fd.type c fd.offset with
   | none=>simp[cg] at aB
   | some v =>
    simp[cg] at aB;subst aB;obtain⟨vs,hval,aV,aY,ai⟩:=aa.BX;obtain⟨u,h1,h2⟩:=SV aV aY ai cg;refine je (v:=u) h ?_ rfl h2;simp[execOp,ak,hval,Instr.field,run_underlying (Lf FW),wO,asAgg,h1]
  ·simp at aB
 ·simp at aB
theorem Ts : ∀ {a b c:List aG},rG 0 a b=some c->c=a
 | [],[],c,h=>by simp[rG] at h;exact h
 | .n k x::a,.n eu y::b,c,h=>by
  unfold rG at h;split at h
  ·cases hm:rG 0 a b with
   | none=>simp[hm] at h
   | some d=>simp[hm] at h;rw[<- h,Ts hm]
  ·simp at h
 | [],_::_,_,h=>by simp[rG] at h
theorem T2 {j:Int}(aq:j≠0): ∀ {a b c:List aG},rG j a b=some c->c=b
 | [],[],c,h=>by simp[rG] at h;exact h
 | .n k x::a,.n eu y::b,c,h=>by
  unfold rG at h;split at h
  ·rename_i aX
   subst aX
   cases hm:rG j a b with
   | none=>simp[hm] at h
   | some d=>simp[hm,aq] at h;rw[<- h,T2 aq hm]
  ·simp at h
 | [],_::_,_,h=>by simp[rG] at h
theorem adV {t:TypeId}{x y:Operand}(h:c7 g s aF a w)(ak:o.op = .index t x y)(aB:Mo P t (fy s.E x) (fy s.E y)=some bD)(cR:∀p∈bD.f7,p):Fin P g s a w o bD:=by
 unfold Mo at aB;have aa:=h.eval x;have aU:=h.eval y;split at aB
 ·rename_i e cs cN j hZ vv Fx
  rw[vv] at aa;rw[Fx] at aU;obtain⟨hu,ab,-,-⟩:=Mc hZ;split at aB
  ·rename_i ej k1 bG aW
   cases hm:rG j ej k1 with
   | none=>simp[hm] at aB
   | some c =>
    simp only[hm,Option.map_some,dB] at aB;subst aB;have h0:0<=j:=cR _ (by simp);have h1:j<2:=cR _ (by simp);obtain⟨vs,hval,aV,aY,ai⟩:=aa.BX
    have key:sC P e cs (j.toNat*P.cellsOf e)=some (.agg c):=by
     have:j=0\/j=1:=(by omega);rcases this with rfl|rfl
     ·rw[Ts hm];exact bG
     ·rw[T2 (by decide) hm];exact aW
    obtain⟨u,lR,kr⟩:=SV aV aY ai key;refine je (v:=u) h ?_ rfl kr;simp[execOp,ak,hval,aU.pA,Instr.index,asIntOf,run_underlying hu,h0,h1,u1 ab,lR]
  ·simp at aB
 ·simp at aB
theorem aeS {t:TypeId}{x y:Operand}(h:c7 g s aF a w)(ak:o.op = .index t x y)(aB:fC P s.E s.a0 a1 o c4=some bD)(cR:∀p∈bD.f7,p):Fin P g s a w o bD:=by
 simp only[fC,ak] at aB;have aa:=h.eval x;have aU:=h.eval y;split at aB
 ·rename_i b k j hu vv Fx
  rw[vv] at aa;rw[Fx] at aU;simp only[dB] at aB;subst aB;have h0:0<=j:=cR _ (by simp);have h1:j<b.size:=cR _ (by simp);have h2:j.toNat<b.size:=(by omega);refine je (v:= .int .u8 (b[j.toNat]).toNat) h ?_ rfl ?_
  ·simp[execOp,ak,aa.Cl,aU.pA,Instr.index,asIntOf,run_underlying hu,h0,h2]
  ·have e:b.data.toList.getD j.toNat 0=b[j.toNat]:=by
    rw[List.getD_eq_getElem?_getD,Array.getElem?_toList,Array.getElem?_eq_getElem (by simpa using h2)];rfl
   show Rel _ _ _ _ (.n .u8 _) _;rw[e];exact .n _ _
 ·exact adV h ak aB cR
theorem adW (off:Nat): ∀(vs:List Value) (n:Nat) (cs:Array Value) (j:Nat),off+n+vs.length<=cs.size ->
 ((vs.zipIdx n).foldl (fun cs (x:Value×Nat)=>cs.setIfInBounds (off+x.2) x.1) cs)[j]? = if off+n<=j/\j<off+n+vs.length then vs[j-(off+n)]? else cs[j]? := by
 intro vs
 induction vs with
 | nil=>intro n cs j h;simp;intro h1 h2;omega
 | cons v vs ih =>
  intro n cs j h;simp only[List.length_cons] at h;simp only[List.zipIdx_cons,List.foldl_cons];rw[ih (n+1) _ j (by simp;omega)];simp only[List.length_cons,Array.getElem?_setIfInBounds];by_cases h1:j=off+n
  ·subst h1;rw[dA (by omega),dw rfl,dw (by omega),dw (by omega)];simp
  ·by_cases h2:off+(n+1)<=j/\j<off+(n+1)+vs.length
   ·rw[dw h2,dw (by omega)];rw[show j-(off+n)=(j-(off+(n+1)))+1 by omega];rfl
   ·rw[dA h2,dA (fun e=>h1 e.symm),dA (by omega)]
theorem abK (off:Nat): ∀(vs:List (Value×Nat)) (cs:Array Value),(vs.foldl (fun cs (x:Value×Nat)=>cs.setIfInBounds (off+x.2) x.1) cs).size=cs.size:=by
 intro vs
 induction vs with
 | nil=>intro cs;rfl
 | cons v vs ih=>intro cs;simp only[List.foldl_cons];rw[ih];simp
def C4 (w:World)(ok:Nat->Prop)(bf:kd)(bk:j2)(c:List aG)(cs:Array Value):Prop :=
 cs.size=c.length/\(∀(j:Nat) u,cs[j]? = some u->lg u=true)/\ ∀(j:Nat) x u,c[j]? = some x->cs[j]? = some u->Rel w ok bf bk x u
theorem aeT {ok:Nat->Prop}{bf:kd}{bk:j2}{c:List aG}{cs:Array Value}(h:C4 w ok bf bk c cs){x:aG}{v:Value}{off:Nat}(aa:Rel w ok bf bk x v)(aY:x.BO=true)
 (ig:off+x.cells.length<=c.length):v.cells.size=x.cells.length /\
   C4 w ok bf bk (setCells c off x.cells) (v.cells.zipIdx.foldl (fun cs (y:Value×Nat)=>cs.setIfInBounds (off+y.2) y.1) cs):=by
 obtain⟨vs,bh,aV,k8,ai⟩:=aa.cellsOf (aG.Sx aY);have m8 : ∀j,(v.cells.zipIdx.foldl (fun cs (y:Value×Nat)=>cs.setIfInBounds (off+y.2) y.1) cs)[j]? = if off<=j/\j<off+vs.length then vs[j-off]? else cs[j]? := by intro j;rw[bh];have:=adW off vs 0 cs j (by rw[h.1];omega);simp only[Nat.add_zero] at this;rw[<- this,<- Array.foldl_toList,Array.toList_zipIdx]
 refine⟨by rw[bh];simpa using aV,?_,?_,?_⟩
 ·rw[Ru ig,<- h.1,<- Array.foldl_toList,abK]
 ·intro j u hu
  rw[m8] at hu;split at hu
  ·exact k8 _ _ hu
  ·exact h.2.1 _ _ hu
 ·intro j y u aU hu
  rw[m8] at hu;rw[Le ig] at aU;by_cases lb:off<=j/\j<off+x.cells.length
  ·rw[dw lb] at aU;rw[dw (by rw[aV];exact lb)] at hu;exact ai _ _ _ aU hu
  ·rw[dA lb] at aU;rw[dA (by rw[aV];exact lb)] at hu;exact h.2.2 _ _ _ aU hu
theorem Lo {ok:Nat->Prop}{bf:kd}{bk:j2}(place:Nat->Option (Nat×Nat)): ∀(l:List (Nat×Nat×aG)) (kq:List (Nat×Value)) (c:List aG) (cs:Array Value) (eF:List aG),
 C4 w ok bf bk c cs->l.length=kq.length ->
 (∀(j:Nat) off size x i v,l[j]? = some (off,size,x)->kq[j]? = some (i,v)->place i=some (off,size)/\Rel w ok bf bk x v) ->
 uo c l=some eF-> ∃mw,Instr.fill place cs kq=some mw/\C4 w ok bf bk eF mw:=by
 intro l
 induction l with
 | nil =>
  intro kq c cs eF h aV _ cl;have:kq=[]:=List.length_eq_zero_iff.1 (by simpa using aV.symm);subst this;simp[uo] at cl;subst cl;exact⟨cs,rfl,h⟩
 | cons q l ih =>
  intro kq c cs eF h aV ah cl;obtain⟨off,size,x⟩:=q
  match kq,aV with
  | (i,v)::kq,aV =>
   obtain⟨Np,aa⟩:=ah 0 off size x i v rfl rfl;simp only[uo] at cl;split at cl
   ·rename_i aY;simp only[dL,decide_eq_true_eq] at aY;obtain⟨⟨h1,h2⟩,J⟩:=aY;obtain⟨e1,e2⟩:=aeT h aa h1 (off:=off) (by omega);obtain⟨mw,f1,f2⟩:=ih kq _ _ eF e2 (by simpa using aV) (fun j off size x i v a b=>ah (j+1) off size x i v a b) cl;refine⟨mw,?_,f2⟩;rw[Instr.fill];simp only[Np];have hg : ¬(decide (v.cells.size≠size) || decide (off+v.cells.size>cs.size))=true:=(by simp;rw[e1,h.1];omega);rw[dA hg];exact f1
   ·simp at cl
theorem mapM_some {α β:Type}(f:α->β)(p:α->Option β): ∀(l:List α),(∀x∈l,p x=some (f x))->l.mapM p=some (l.map f)
 | [],_=>rfl
 | x::l,h=>by rw[List.mapM_cons,h x (by simp),mapM_some f p l fun y aU=>h y (by simp[aU])];rfl
theorem UB {α β:Type}(p:α->Option β): ∀(l:List α) (hv:List β),l.mapM p=some hv->hv.length=l.length/\ ∀(j:Nat) x y,l[j]? = some x->hv[j]? = some y->p x=some y
 | [],hv,h=>by simp at h;subst h;exact⟨rfl,fun j x y aa=>by simp at aa⟩
 | a::l,hv,h=>by
  rw[List.mapM_cons] at h
  cases bG:p a with
  | none=>simp[bG] at h
  | some b =>
   cases aV:l.mapM p with
   | none=>simp[bG,aV] at h
   | some r =>
    simp[bG,aV] at h;subst h;obtain⟨h1,h2⟩:=UB p l r aV;refine⟨by simp[h1],fun j x y aa aU=> ?_⟩
    cases j with
    | zero=>simp at aa aU;subst aa;subst aU;exact bG
    | succ j=>simp at aa aU;exact h2 j x y aa aU
theorem Md {t:TypeId}{z:List aG}(cC:si P t=some z): ∃i fb,P.info? t=some i/\i.zero=some fb/\fb.cells.size=z.length/\C4 w (s.ok g aF w) s.bf (s.bk aF) z fb.cells:=by
 obtain⟨i,fb,ab,lJ,rY,k8⟩:=Eu cC;have bJ:fb.cells.size=z.length:=by rw[rY];simp
 refine⟨i,fb,ab,lJ,bJ,bJ,fun j u hu=> ?_,fun j x u aa hu=> ?_⟩
 ·have aq:j<z.length:=by
   have:=(Array.getElem?_eq_some_iff.1 hu).1;omega
  obtain⟨v,e1,e2,-⟩:=k8 j z[j] (dz aq);rw[hu] at e1;simp at e1;subst e1;exact e2
 ·obtain⟨v,e1,-,bN⟩:=k8 j x aa;rw[hu] at e1;simp at e1;subst e1;exact bN _ _ _ _
theorem acP {t:TypeId}{parts:Array (Nat×Operand)}(h:c7 g s aF a w)(ak:o.op = .build t parts)(aB:LO P t (parts.toList.map fun p=>(p.1,fy s.E p.2))=some bD):Fin P g s a w o bD:=by
 unfold LO at aB;split at aB
 ·rename_i n e z hZ cC
  obtain⟨hu,ab,-,-⟩:=Mc hZ;rw[List.map_map] at aB
  cases cl:uo z (parts.toList.map ((fun p:Nat×aG=>(p.1*P.cellsOf e,P.cellsOf e,p.2))∘fun p=>(p.1,fy s.E p.2))) with
  | none=>rw[cl] at aB;simp at aB
  | some c =>
   rw[cl] at aB;simp only[Option.map_some,dB] at aB;subst aB;obtain⟨it,fb,y3,lJ,fE,hcs⟩:=Md (w:=w) (s:=s) (g:=g) (aF:=aF) cC;obtain⟨Oi,CD⟩:=Option.isSome_iff_exists.1 ab;have ahc:P.cellsOf e=Oi.size:=(by simp[Program.cellsOf,CD]);obtain⟨mw,f1,f2⟩:=Lo (w:=w) (ok:=s.ok g aF w) (bf:=s.bf) (bk:=s.bk aF) (fun i=>some (i*Oi.size,Oi.size)) _ (parts.map fun (i,x)=>(i,a.eval x)).toList z fb.cells c hcs (by simp) (by intro j off size x i v aq bh;simp only[dJ,Option.map_eq_some_iff,Function.comp,dE] at aq;simp only[Array.toList_map,dJ,Option.map_eq_some_iff] at bh;obtain⟨p,ah,e1,e2,bN⟩:=aq;obtain⟨⟨ff,c6⟩,mb,bh⟩:=bh;simp only[dE] at bh;obtain⟨rfl,rfl⟩:=bh;rw[ah] at mb;have:=dI mb;subst this;refine⟨by rw[<- e1,<- e2,ahc],?_⟩;rw[<- bN];exact h.eval _) cl;have aW:P.built t (parts.map fun (i,x)=>(i,a.eval x)).toList=some mw:=(by unfold Program.built;simp only[y3,hu,lJ,CD];exact f1);refine je (v:= .agg mw) h ?_ rfl ?_
   ·have:=run_build w t _ mw aW;simp[execOp,ak,this]
   ·have:=Rel.agg (w:=w) (ok:=s.ok g aF w) (bf:=s.bf) (bk:=s.bk aF) (c:=c) mw.toList (by simpa using f2.1) (fun j u hu=>f2.2.1 j u (by simpa using hu)) (fun j x u aa hu=>f2.2.2 j x u aa (by simpa using hu));simpa using this
 ·simp at aB
theorem aeU {t:TypeId}{parts:Array (Nat×Operand)}(h:c7 g s aF a w)(ak:o.op = .build t parts)(aB:fC P s.E s.a0 a1 o c4=some bD):Fin P g s a w o bD:=by
 simp only[fC,ak] at aB;split at aB
 ·rename_i lP z FW cC
  split at aB
  ·simp at aB
  ·rename_i jY
   have jY : ∀f∈lP.toList,(P.info? f.type).isSome=true:=(by rw[Bool.not_eq_false] at jY;exact List.all_eq_true.1 jY);split at aB
   ·rename_i l aV
    cases cl:uo z l with
    | none=>simp[cl] at aB
    | some c =>
     simp[cl] at aB;subst aB;obtain⟨it,fb,y3,lJ,fE,hcs⟩:=Md (w:=w) (s:=s) (g:=g) (aF:=aF) cC;obtain⟨kN,k3⟩:=UB _ _ _ aV
     have ahI:lP.toList.mapM (fun f=>(P.info? f.type).map fun i=>(f.offset,i.size))=some (lP.toList.map fun f=>(f.offset,P.cellsOf f.type)):=by
      refine mapM_some (fun f:Field=>(f.offset,P.cellsOf f.type)) _ _ fun f cl=> ?_;have:=jY f cl
      cases ab:P.info? f.type with
      | none=>simp[ab] at this
      | some i=>simp[Program.cellsOf,ab]
     obtain⟨mw,f1,f2⟩:=Lo (w:=w) (ok:=s.ok g aF w) (bf:=s.bf) (bk:=s.bk aF) ((lP.toList.map fun f=>(f.offset,P.cellsOf f.type)).toArray[·]?) l (parts.map fun (i,x)=>(i,a.eval x)).toList z fb.cells c hcs (by simpa using kN) (by intro j off size x i v aq bh;simp only[Array.toList_map,dJ,Option.map_eq_some_iff] at bh;obtain⟨⟨ff,c6⟩,ah,bh⟩:=bh;simp only[dE] at bh;obtain⟨rfl,rfl⟩:=bh;have:=k3 j _ _ ah aq;simp only[Option.map_eq_some_iff,dE] at this;obtain⟨fd,h1,h2,J,aj⟩:=this;subst h2;subst J;subst aj;refine⟨?_,h.eval c6⟩;rw[List.getElem?_toArray,dJ,Array.getElem?_toList,h1];rfl) cl;have aW:P.built t (parts.map fun (i,x)=>(i,a.eval x)).toList=some mw:=(by unfold Program.built;simp only[y3,Lf FW,lJ,ahI];exact f1);refine je (v:= .agg mw) h ?_ rfl ?_
     ·have:=run_build w t _ mw aW;simp[execOp,ak,this]
     ·have:=Rel.agg (w:=w) (ok:=s.ok g aF w) (bf:=s.bf) (bk:=s.bk aF) (c:=c) mw.toList (by simpa using f2.1) (fun j u hu=>f2.2.1 j u (by simpa using hu)) (fun j x u aa hu=>f2.2.2 j x u aa (by simpa using hu));simpa using this
   ·simp at aB
 ·exact acP h ak aB
theorem aaS {sz:Nat}{es:List (List aG)}(aV:∀e∈es,e.length=sz){i:Nat}(ab:i<es.length){c:List aG}(aY:c.length=sz):
 setCells es.flatten (i*sz) c=(es.set i c).flatten:=by
 have hlen : ∀(es:List (List aG)),(∀e∈es,e.length=sz)->es.flatten.length=es.length*sz:=by
  intro es
  induction es with
  | nil=>simp
  | cons e es ih =>
   intro h;rw[List.flatten_cons,dF,ih fun x aa=>h x (by simp[aa]),h e (by simp),List.length_cons,Nat.add_mul];omega
 have ig:i*sz+c.length<=es.flatten.length:=by rw[hlen es aV,aY];have:=dM sz (show i+1<=es.length by omega);rw[Nat.add_mul] at this;omega
 apply List.ext_getElem?;intro j;rw[Le ig,Sy aV (dz ab) aY,aY]
theorem SW {sz:Nat}: ∀(l:List (Nat×aG)) (es hr:List (List aG)),(∀e∈es,e.length=sz)->Ck sz es l=some hr ->
 uo es.flatten (l.map fun p=>(p.1*sz,sz,p.2))=some hr.flatten/\(∀e∈hr,e.length=sz)/\hr.length=es.length
 | [],es,hr,aV,h=>by simp[Ck] at h;subst h;exact⟨rfl,aV,rfl⟩
 | (i,x)::l,es,hr,aV,h=>by
  simp only[Ck] at h;split at h
  ·rename_i aY
   simp only[dL,decide_eq_true_eq] at aY;obtain⟨⟨h1,h2⟩,J⟩:=aY
   have Nl : ∀e∈es.set i x.cells,e.length=sz:=by
    intro e hm;rcases List.mem_or_eq_of_mem_set hm with c1|c1
    ·exact aV e c1
    ·exact c1▸h2
   obtain⟨hi,hn,bA⟩:=SW l (es.set i x.cells) hr Nl h;have e:=aaS aV J h2
   have ig:i*sz+sz<=es.flatten.length:=by
    have:(setCells es.flatten (i*sz) x.cells).length=(es.set i x.cells).flatten.length:=by rw[e]
    have aZ : ∀(es:List (List aG)),(∀e∈es,e.length=sz)->es.flatten.length=es.length*sz:=by
     intro es
     induction es with
     | nil=>simp
     | cons e es ih =>
      intro h;rw[List.flatten_cons,dF,ih fun x aa=>h x (by simp[aa]),h e (by simp),List.length_cons,Nat.add_mul];omega
    rw[aZ es aV];have:=dM sz (show i+1<=es.length by omega);rw[Nat.add_mul] at this;omega
   refine⟨?_,hn,by simpa using bA⟩;simp only[List.map_cons,uo,h1,h2,ig,decide_true,Bool.and_self,if_true];rw[e];exact hi
  ·simp at h
theorem ab7 {t:TypeId}{len:Nat}{parts:Array (Nat×Operand)}(h:c7 g s aF a w)(fF:s.a0 a1=none)(ak:o.op = .buildSlice t len parts)(aB:fC P s.E s.a0 a1 o c4=some bD):Fin P g s a w o bD:=by
 simp only[fC,ak] at aB;split at aB
 ·rename_i e he
  split at aB
  ·rename_i z cC
   split at aB
   ·simp at aB
   ·rename_i aY
    simp only[not_or,Nat.not_lt,Decidable.not_not] at aY;obtain⟨n4,CE,CF⟩:=aY;split at aB
    ·rename_i es iM
     simp only[dB] at aB;subst aB;obtain⟨it,fb,y3,lJ,fE,hcs⟩:=Md (w:=w) (s:=s) (g:=g) (aF:=aF) cC;have k8:P.cellsOf e=it.size:=(by simp[Program.cellsOf,y3]);have V8 : ∀x∈List.replicate len z,x.length=z.length:=fun x aa=>(by rw[List.eq_of_mem_replicate aa]);obtain⟨f1,f2,f3⟩:=SW _ _ _ V8 iM
     have tB:C4 w (s.ok g aF w) s.bf (s.bk aF) (List.replicate len z).flatten ((Array.range (len*it.size)).map (fb.cells[· % fb.cells.size]!)):=by
      have Je:0<z.length:=(by omega);have m8 : ∀j,j<len*it.size->((Array.range (len*it.size)).map (fb.cells[· % fb.cells.size]!))[j]? = fb.cells[j % z.length]? := (by intro j aq;rw[Array.getElem?_map,Array.getElem?_range];simp only[aq,if_true,Option.map_some];have hm:j % fb.cells.size<fb.cells.size:=Nat.mod_lt _ (by omega);rw[getElem!_pos fb.cells _ hm,<- fE,Array.getElem?_eq_getElem hm]);have ep : ∀(j:Nat) u,((Array.range (len*it.size)).map (fb.cells[· % fb.cells.size]!))[j]? = some u->j<len*it.size:=(by intro j u hu;have:=(Array.getElem?_eq_some_iff.1 hu).1;simpa using this);refine⟨by simp[<- k8,<- CE],fun j u hu=> ?_,fun j x u aa hu=> ?_⟩
      ·have aq:=ep j u hu;rw[m8 j aq] at hu;exact hcs.2.1 _ _ hu
      ·have aq:=ep j u hu
       rw[m8 j aq] at hu;rw[qG Je _ V8,List.getElem?_replicate] at aa;split at aa
       ·exact hcs.2.2 _ _ _ aa hu
       ·simp at aa
     obtain⟨mw,g1,g2⟩:=Lo (w:=w) (ok:=s.ok g aF w) (bf:=s.bf) (bk:=s.bk aF) (fun i=>some (i*it.size,it.size)) ((parts.toList.map fun p=>(p.1,fy s.E p.2)).map fun p=>(p.1*z.length,z.length,p.2)) (parts.map fun (i,x)=>(i,a.eval x)).toList _ _ es.flatten tB (by simp) (by intro j off size x i v aq bh;simp only[Array.toList_map,dJ,Option.map_eq_some_iff,List.map_map] at bh aq;obtain⟨⟨ff,c6⟩,ah,bh⟩:=bh;obtain⟨⟨i2,x2⟩,FT,aq⟩:=aq;rw[ah] at FT;simp only[dB,dE] at FT bh;obtain⟨rfl,rfl⟩:=FT;obtain⟨rfl,rfl⟩:=bh;simp only[Function.comp,dE] at aq;obtain⟨rfl,rfl,rfl⟩:=aq;exact⟨by rw[<- k8,<- CE],h.eval c6⟩) f1
     have jX:(Instr.buildSlice t len (parts.map fun (i,x)=>(i,a.eval x))).run P w = .ok (.slice (some ⟨w.heap.size,0,none⟩) len len) (w.alloc (.cells mw e)):=by
      have h1 : ¬len*it.size>2 ^ 24:=(by rw[<- k8,<- CE];omega);by_cases h0:len*it.size=0
      ·have oK:len=0:=by
        rcases Nat.eq_zero_or_pos len with c1|c1
        ·exact c1
        ·have:0<len*it.size:=Nat.mul_pos c1 (by omega);omega
       subst oK;have e0:((Array.range (0*it.size)).map (fb.cells[· % fb.cells.size]!)) = #[]:=(by simp);rw[e0] at g1
       have ah:parts = #[]:=by
        obtain⟨l⟩:=parts
        match l,iM with
        | [],_=>rfl
        | p::l,iM=>simp[Ck] at iM
       subst ah;have ahJ:mw = #[]:=(by simpa [Instr.fill] using g1.symm);subst ahJ;simp[Instr.buildSlice,run_underlying (uf he),sizeOf,typeInfo,y3,newRow,Instr.fill];rw[Array.range_zero',Array.map_empty]
      ·simp only[Instr.buildSlice,run_underlying (uf he),sizeOf,typeInfo,y3,newRow,zeroValue,lJ,Sem.run_bind,Result.andThen_ok,run_program,Sem.run_pure,Sem.run_ite,h1,h0,if_false];rw[g1];rfl
     refine Ia (v:= .slice (some ⟨w.heap.size,0,none⟩) len len) (an:=⟨z.length,es,.live⟩) (c:=mw) (fo:=e) h fF rfl ?_ rfl f2 ?_ ?_
     ·simp[execOp,ak,jX]
     ·intro j x aa
      have aq:j<mw.size:=by
       rw[g2.1];rcases Nat.lt_or_ge j es.flatten.length with c1|c1
       ·exact c1
       ·rw[List.getElem?_eq_none c1] at aa;simp at aa
      have hu:mw[j]? = some mw[j]:=Array.getElem?_eq_getElem aq;exact⟨_,hu,g2.2.1 _ _ hu,g2.2.2 _ _ _ aa hu⟩
     ·intro bT lZ n0 ns hu cg
      refine Rel.bc hu cg (dD _) ?_ ⟨?_,.inr (by simp)⟩
      ·have:len<=len*z.length:=Nat.le_mul_of_pos_right _ (by omega);omega
      ·rw[g2.1]
       have aZ : ∀(es:List (List aG)),(∀e∈es,e.length=z.length)->es.flatten.length=es.length*z.length:=by
        intro es
        induction es with
        | nil=>simp
        | cons e es ih =>
         intro h;rw[List.flatten_cons,dF,ih fun x aa=>h x (by simp[aa]),h e (by simp),List.length_cons,Nat.add_mul];omega
       rw[aZ es f2,f3];simp
    ·simp at aB
  ·simp at aB
 ·simp at aB
theorem HL (h:c7 g s aF a w)(fF:s.a0 a1=none)(aB:fC P s.E s.a0 a1 o c4=some bD)(cR:∀p∈bD.f7,p):Fin P g s a w o bD:=by
 cases ak:o.op with
 | move x=>exact UA h (.inl ak) aB
 | assign x=>exact UA h (.inr ak) aB
 | pick c x y=>exact afN h ak aB cR
 | alloc t=>exact aeL h fF ak aB
 | box t x=>exact agr h fF ak aB
 | load t x=>exact afO h ak aB cR
 | store t x y=>exact aeM h ak aB cR
 | nilCheck x=>exact acN h ak aB cR
 | binOp op t x y cD=>exact aeN h ak aB cR
 | unOp op t x=>exact afP h ak aB
 | convert t cD x=>exact adf h ak aB
 | makeFunc f GI cI=>exact acO h ak aB
 | makeSlice t x y=>exact acu h fF ak aB cR
 | fieldAddr t x f=>exact acv h ak aB cR
 | field t x f=>exact aeR h ak aB
 | indexAddr t x y=>exact acw h ak aB cR
 | index t x y=>exact aeS h ak aB cR
 | extract x i=>exact adg h ak aB
 | slice t x b6 ab Oj =>
  cases Oj with
  | none=>exact aeQ h ak aB cR
  | some m=>simp[fC,ak] at aB
 | build t kq=>exact aeU h ak aB
 | buildSlice t n kq=>exact ab7 h fF ak aB
 | call c =>
  obtain⟨Jf,args,n3⟩:=c
  cases Jf with
  | builtin b=>cases b<;>first|exact ags h ak rfl aB cR|simp[fC,ak] at aB
  | value f=>simp[fC,ak] at aB
  | invoke r m=>simp[fC,ak] at aB
 | _=>simp[fC,ak] at aB
end
def agt:Option a9->gp
 | some o=> .gq o []
 | none=> .none
def tr (sz:Nat)(a0:Nat->Option (List a9))(a:gp):aG->Option (List (List aG)×List Prop)
 | .isl Jg es=>if Jg=sz then some (es,[]) else none
 | .bc r k b6 len=>match pD (a0 r) k a with
  | some (an,bQ)=>if an.sz=sz then some ((an.es.drop b6).take len,bQ++[b6+len<=an.es.length]) else none
  | none=>none
 | .fv=>some ([],[])
 | .jQ=>some ([],[])
 | _=>none
def yp (P:Program)(sz:Nat)(z:List aG)(a0:Nat->Option (List a9))(a:gp)(t cD:TypeId)(y:aG):Option (List (List aG)×List Prop) :=
 if t=cD then tr sz a0 a y else
 match P.underlying cD,y with
 | some (.int _),.n .i64 n=>some (List.replicate n.toNat z,[0<=n,n<9223372036854775808])
 | _,_=>none
def pb (P:Program)(E:Nat->aG)(a0:Nat->Option (List a9))(a1:Nat)(b:Builtin)(args:List aG)(n3:List TypeId)(c4:gp):Option iR :=
 match b,args,n3,c4 with
 | .append,[x,y],[t,cD],.ay m o =>
  match rA P t with
  | none=>none
  | some e=>match P.info? e,si P e with
   | some i,some z =>
    if z.length≠i.size\/i.size=0\/i.bytes=0 then none else
    match yp P i.size z a0 (agt o) t cD y with
    | none=>none
    | some (bs,bQ)=>match x with
     | .fv=>some {val:= .bc a1 0 0 m,gI:=[(a1,[⟨i.size,bs,.live⟩])],f7:=bQ++[m=bs.length,m*i.bytes<=140737488355328]}
     | .bc r k 0 len=>match a0 r with
      | none=>none
      | some row=>match dZ (some row) k with
       | none=>none
       | some an=>if an.cN = .live/\an.sz=i.size/\a1≠r then
        some {val:= .bc a1 0 0 m,gI:=[(a1,[⟨i.size,an.es.take len++bs,.live⟩]),(r,row.set k {an with cN:= .gone})],f7:=bQ++[len<=an.es.length,m=len+bs.length,m*i.bytes<=140737488355328]} else none
     | _=>none
   | _,_=>none
 | .append,[x,y],[t,cD],.d4 =>
  match rA P t with
  | none=>none
  | some e=>match P.info? e,si P e with
   | some i,some z =>
    if z.length≠i.size\/i.size=0\/i.bytes=0 then none else
    match yp P i.size z a0 .none t cD y with
    | none=>none
    | some (bs,bQ)=>match x with
     | .bc r k 0 len=>match a0 r with
      | none=>none
      | some row=>match dZ (some row) k with
       | none=>none
       | some an=>if an.cN = .live/\an.sz=i.size then
        some {val:= .bc r k 0 (len+bs.length),gI:=[(r,row.set k {an with es:=an.es.take len++bs})],f7:=bQ++[len+bs.length<=an.es.length,bs.length*i.bytes<=140737488355328]} else none
     | _=>none
   | _,_=>none
 | .copy,[.bc r k 0 len,y],[t,_],_ =>
  match rA P t with
  | none=>none
  | some e=>match P.info? e with
   | none=>none
   | some i=>match tr i.size a0 .none y with
    | none=>none
    | some (bs,bQ)=>match a0 r with
     | none=>none
     | some row=>match dZ (some row) k with
      | none=>none
      | some an=>if an.cN = .live/\an.sz=i.size/\i.size≠0 then
       some {val:= .n .i64 bs.length,gI:=[(r,row.set k {an with es:=bs++an.es.drop bs.length})],f7:=bQ++[bs.length<=len,len<=an.es.length]} else none
 | .clear,[.bc r k 0 len],[t],_ =>
  match rA P t with
  | none=>none
  | some e=>match P.info? e,si P e with
   | some i,some z=>match a0 r with
    | none=>none
    | some row=>match dZ (some row) k with
     | none=>none
     | some an=>if an.cN = .live/\an.sz=i.size/\z.length=i.size/\i.size≠0 then
      some {val:= .de [],gI:=[(r,row.set k {an with es:=List.replicate len z})],f7:=[an.es.length=len]} else none
   | _,_=>none
 | .min,[.n k x,.n eu y],_,_=>if k=eu then some {val:= .n k (if y<x then y else x)} else none
 | _,_,_,_=>none
section
variable {g:G} {s:S} {aF:gh} {a:Act} {w bT:World}
theorem c7.gone (h:c7 g s aF a w){r k:Nat}{l:List a9}{o:a9}(ai:s.a0 r=some l)(ak:s.an r k=some o):
 c7 g (s.setRow r (l.set k {o with cN:= .gone})) aF a w /\
  ∀x v,Rel w (s.ok g aF w) s.bf (s.bk aF) x v->Rel w ((s.setRow r (l.set k {o with cN:= .gone})).ok g aF w) (s.setRow r (l.set k {o with cN:= .gone})).bf ((s.setRow r (l.set k {o with cN:= .gone})).bk aF) x v:=by
 have bp : ∀q j p,(s.setRow r (l.set k {o with cN:= .gone})).an q j=some p->s.an q j=some p/\ ¬(q=r/\j=k):=by
  intro q j p ah;rw[mL] at ah;by_cases e:q=r
  ·subst e
   rw[dw rfl] at ah;unfold dZ at ah;simp only[List.getElem?_set] at ah;by_cases e2:k=j
   ·subst e2
    by_cases aX:k<l.length
    ·simp[aX] at ah
    ·simp[aX] at ah
   ·rw[dA e2] at ah;refine⟨?_,fun gN=>e2 gN.2.symm⟩;unfold S.an;rw[ai];exact ah
  ·rw[dA e] at ah;exact⟨ah,fun gN=>e gN.1⟩
 have c2:Step g s aF w (s.setRow r (l.set k {o with cN:= .gone})) aF w:=by
  refine⟨Hq s ai (by simp),fun q j aZ=> ?_,fun b aV=> ?_,fun _ _ _=>rfl,dD _⟩
  ·cases ah:(s.setRow r (l.set k {o with cN:= .gone})).an q j with
   | none=>right;simp[S.bk,ah]
   | some p=>left;simp[S.bk,ah,(bp q j p ah).1]
  ·obtain⟨q,j,p,m,h1,h2,J⟩:=aV;exact .inl ⟨q,j,p,m,(bp q j p h1).1,h2,J⟩
 refine⟨{tojr:=⟨?_,?_,?_,h.hX,h.mlt,h.oG,c2.stay h.stay,h.low⟩,env:=fun t=>c2.rel (h.env t),defers:=h.defers,kJ:=h.kJ},fun x v=>c2.rel⟩
 ·intro q j p ah;exact c2.obj (fun b m _=>rfl) (h.obj q j p (bp q j p ah).1)
 ·intro q j p iS ja lq b m aH h1 h2 J aj;exact h.inj q j p iS ja lq b m aH (bp q j p h1).1 (bp iS ja lq h2).1 J aj
 ·intro q j p b m h1 h2;exact h.own q j p b m (bp q j p h1).1 h2
theorem c7.UC (h:c7 g s aF a w){a1 sz:Nat}(fF:s.a0 a1=none):
 ∃bX,bX a1 0=none/\c7 g (s.setRow a1 [⟨sz,[],.live⟩]) bX a w:=by
 have bp : ∀q k,q≠a1->(s.setRow a1 [⟨sz,[],.live⟩]).an q k=s.an q k:=fun q k aZ=>by rw[mL,dA aZ]
 let bX:gh:=fun q k=>if q=a1 then none else aF q k
 have c8 : ∀q k,s.bf q k->q≠a1:=by rintro q k aZ rfl;exact Bl fF k aZ
 have MX : ∀k o,(s.setRow a1 [⟨sz,[],.live⟩]).an a1 k=some o->o=⟨sz,[],.live⟩:=by
  intro k o ak;rw[mL,dw rfl,nj] at ak;split at ak
  ·simp at ak;exact ak.symm
  ·simp at ak
 have c2:Step g s aF w (s.setRow a1 [⟨sz,[],.live⟩]) bX w:=by
  refine⟨fun q k aZ=>(oq _ _ _ _ _).2 (by rw[dA (c8 q k aZ)];exact aZ),fun q k aZ=> .inl ?_,fun b aV=> ?_,fun _ _ _=>rfl,dD _⟩
  ·simp[S.bk,bp q k (c8 q k aZ),bX,c8 q k aZ]
  ·obtain⟨q,k,o,m,h1,h2,J⟩:=aV
   by_cases e:q=a1
   ·subst e;simp[bX] at J
   ·rw[bp q k e] at h1;simp only[bX,dA e] at J;exact .inl ⟨q,k,o,m,h1,h2,J⟩
 refine⟨bX,by simp[bX],{tojr:=⟨?_,?_,?_,h.hX,h.mlt,h.oG,c2.stay h.stay,h.low⟩,env:=fun t=>c2.rel (h.env t),defers:=h.defers,kJ:=h.kJ}⟩
 ·intro q k o ak
  by_cases e:q=a1
  ·subst e;rw[MX k o ak];simp[bX,j8]
  ·rw[bp q k e] at ak;have:=c2.obj (fun b m _=>rfl) (h.obj q k o ak);simpa [bX,e] using this
 ·intro q k o iS eu ch b m aH h1 h2 J aj;have e:q≠a1:=(by rintro rfl;simp[bX] at J);have e3:iS≠a1:=(by rintro rfl;simp[bX] at aj);rw[bp q k e] at h1;rw[bp iS eu e3] at h2;simp only[bX,dA e] at J;simp only[bX,dA e3] at aj;exact h.inj q k o iS eu ch b m aH h1 h2 J aj
 ·intro q k o b m h1 h2;have e:q≠a1:=(by rintro rfl;simp[bX] at h2);rw[bp q k e] at h1;simp only[bX,dA e] at h2;exact h.own q k o b m h1 h2
theorem c7.turn (h:c7 g s aF a w){r k b m a1:Nat}{l:List a9}{o:a9}(ai:s.a0 r=some l)(ak:s.an r k=some o)(aX:o.cN = .live)(ah:aF r k=some (b,m))
 (fF:s.a0 a1=none) (ch:a9) (n5:ch.cN = .live) (c:Array Value) (fo:TypeId)
 (hw:bT.heap[b]? = some (.cells c fo (0,0))) (fE:bT.heap.size=w.heap.size) (yo : ∀q,q≠b->bT.heap[q]? = w.heap[q]?)
 (pK:bT.os=w.os) (Nj:bT.tape=w.tape) (MV:bT.output=w.output) (hm:c.size=m) (hlen : ∀e∈ch.es,e.length=ch.sz)
 (aY : ∀(j:Nat) x,ch.es.flatten[j]? = some x-> ∃v,c[j]? = some v/\lg v=true/\Rel w (s.ok g aF w) s.bf (s.bk aF) x v) :
 ∃bX,bX a1 0=some (b,m)/\c7 g ((s.setRow a1 [ch]).setRow r (l.set k {o with cN:= .gone})) bX a bT:=by
 have c8:r≠a1:=by rintro rfl;rw[fF] at ai;simp at ai
 have V9 : ∀k,¬s.bf a1 k:=Bl fF
 let b0:=(s.setRow a1 [ch]).setRow r (l.set k {o with cN:= .gone})
 let bX:gh:=aF.set a1 0 (some (b,m))
 have bp : ∀q j p,b0.an q j=some p->(q=a1/\j=0/\p=ch)\/(q≠a1/\s.an q j=some p/\ ¬(q=r/\j=k)):=by
  intro q j p aZ;rw[mL] at aZ;by_cases e:q=r
  ·subst e
   rw[dw rfl] at aZ;unfold dZ at aZ;simp only[List.getElem?_set] at aZ;by_cases e2:k=j
   ·subst e2;by_cases aX:k<l.length<;>simp[aX] at aZ
   ·rw[dA e2] at aZ;refine .inr ⟨c8,?_,fun gN=>e2 gN.2.symm⟩;unfold S.an;rw[ai];exact aZ
  ·rw[dA e,mL] at aZ
   by_cases e2:q=a1
   ·subst e2
    rw[dw rfl,nj] at aZ;split at aZ
    ·rename_i h0;simp at aZ;exact .inl ⟨rfl,h0.1,aZ.symm⟩
    ·simp at aZ
   ·rw[dA e2] at aZ;exact .inr ⟨e2,aZ,fun gN=>e gN.1⟩
 have mY : ∀q j,q≠a1->bX q j=aF q j:=fun q j aZ=>by simp[bX,gh.set,aZ]
 have CG:bX a1 0=some (b,m):=by simp[bX,gh.set]
 have rz:s.m1 aF b:=⟨r,k,o,m,ak,aX,ah⟩
 have km : ∀q j,s.bf q j->b0.bf q j:=fun q j aZ=>by
  have e:q≠a1:=fun e=>V9 j (e▸aZ);rw[oq,oq,dA e];by_cases e2:q=r
  ·subst e2;rw[dw rfl];simpa [S.bf,ai] using aZ
  ·rw[dA e2];exact aZ
 have c2:Step g s aF w b0 bX bT:=by
  refine⟨km,fun q j aZ=> ?_,fun q aV=> ?_,fun q aZ aV=>yo q fun e=>aV (e▸rz),Nat.le_of_eq fE.symm⟩
  ·have oI:q≠a1:=fun e=>V9 j (e▸aZ)
   cases lx:b0.an q j with
   | none=>right;simp[S.bk,lx]
   | some p =>
    left;rcases bp q j p lx with ⟨e,-⟩|⟨-,e2,-⟩
    ·exact absurd e oI
    ·simp[S.bk,lx,e2,mY q j oI]
  ·obtain⟨iS,j,p,aH,h1,h2,J⟩:=aV
   rcases bp iS j p h1 with ⟨rfl,rfl,rfl⟩|⟨e1,e2,-⟩
   ·rw[CG] at J;simp at J;exact .inl (J.1▸rz)
   ·rw[mY iS j e1] at J;exact .inl ⟨iS,j,p,aH,e2,h2,J⟩
 refine⟨bX,CG,{tojr:=⟨?_,?_,?_,?_,h.mlt,h.oG,c2.stay h.stay,h.low⟩,env:=fun t=>c2.rel (h.env t),defers:=h.defers,kJ:=h.kJ}⟩
 ·intro q j p lx
  rcases bp q j p lx with ⟨rfl,rfl,rfl⟩|⟨e1,e2,bN⟩
  ·rw[CG];exact⟨c,fo,hw,hm,hlen,fun i x aa=>let ⟨v,f1,f2,f3⟩:=aY i x aa;⟨v,f1,f2,c2.rel f3⟩⟩
  ·rw[mY q j e1];refine c2.obj (fun k1 aH la=>yo k1 ?_) (h.obj q j p e2);rintro rfl;exact bN (h.inj q j p r k o k1 aH m e2 ak la ah)
 ·intro q j p iS ja lq k1 jl ik h1 h2 J aj
  rcases bp q j p h1 with ⟨rfl,rfl,rfl⟩|⟨e1,e2,bN⟩<;>rcases bp iS ja lq h2 with ⟨rfl,rfl,rfl⟩|⟨n6,q5,wP⟩
  ·exact⟨rfl,rfl⟩
  ·rw[CG] at J;simp at J;rw[mY iS ja n6] at aj;obtain⟨rfl,rfl⟩:=J;exact absurd (h.inj iS ja lq r k o b ik m q5 ak aj ah) wP
  ·rw[CG] at aj;simp at aj;rw[mY q j e1] at J;obtain⟨rfl,rfl⟩:=aj;exact absurd (h.inj q j p r k o b jl m e2 ak J ah) bN
  ·rw[mY q j e1] at J;rw[mY iS ja n6] at aj;exact h.inj q j p iS ja lq k1 jl ik e2 q5 J aj
 ·intro q j p k1 aH h1 h2
  rcases bp q j p h1 with ⟨rfl,rfl,rfl⟩|⟨e1,e2,-⟩
  ·rw[CG] at h2;simp at h2;rw[<- h2.1];exact h.own r k o b m ak ah
  ·rw[mY q j e1] at h2;exact h.own q j p k1 aH e2 h2
 ·refine h.hX.step pK Nj MV (Nat.le_of_eq fE.symm) fun k1 oH la=>yo k1 ?_
  rintro rfl;rcases h.own r k o k1 m ak ah with h1|h1
  ·omega
  ·exact la h1
theorem pW.o8 {ok:Nat->Prop}{bf:kd}{bk:j2}{eV o sz:Nat}{es:List (List aG)}(h:pW w ok bf bk eV o sz es):
 ∃vs:List Value,vs.length=es.length*sz/\(∀(j:Nat) u,vs[j]? = some u->w.cell? ((⟨eV,o,none⟩:Addr).add j)=some u)/\(∀u∈vs,u.oneCell'=true) /\
  ∀(j:Nat) x u,es.flatten[j]? = some x->vs[j]? = some u->Rel w ok bf bk x u:=by
 have kK:es.flatten.length=es.length*sz:=by
  have : ∀(es:List (List aG)),(∀e∈es,e.length=sz)->es.flatten.length=es.length*sz:=by
   intro es
   induction es with
   | nil=>intro _;simp
   | cons e es ih =>
    intro gN;rw[List.flatten_cons,dF,ih fun x aa=>gN x (by simp[aa]),gN e (by simp),List.length_cons,Nat.add_mul];omega
  exact this es h.1
 have aa : ∀i,i<es.length*sz-> ∃v,∀x,es.flatten[i]? = some x->w.cell? ⟨eV,o+i,none⟩=some v/\lg v=true/\Rel w ok bf bk x v:=by intro i ab;have aq:=dz (l:=es.flatten) (i:=i) (by omega);obtain⟨v,h1⟩:=h.2 i _ aq;exact⟨v,fun x aa=>by rw[aq] at aa;simp at aa;subst aa;exact h1⟩
 let vs:List Value:=(List.range (es.length*sz)).map fun i=>if ab:i<es.length*sz then (aa i ab).choose else undef
 have rL:vs.length=es.length*sz:=by simp[vs]
 have m8 : ∀(i:Nat) u x,vs[i]? = some u->es.flatten[i]? = some x->w.cell? ⟨eV,o+i,none⟩=some u/\lg u=true/\Rel w ok bf bk x u:=by
  intro i u x hu FY
  have ab:i<es.length*sz:=by
   rcases Nat.lt_or_ge i vs.length with c1|c1
   ·omega
   ·rw[List.getElem?_eq_none c1] at hu;simp at hu
  simp only[vs,dJ,List.getElem?_range ab,Option.map_some,dif_pos ab,dB] at hu;subst hu;exact(aa i ab).choose_spec x FY
 have hex : ∀(i:Nat) u,vs[i]? = some u-> ∃x,es.flatten[i]? = some x:=by
  intro i u hu
  have ab:i<es.flatten.length:=by
   rcases Nat.lt_or_ge i vs.length with c1|c1
   ·omega
   ·rw[List.getElem?_eq_none c1] at hu;simp at hu
  exact⟨_,dz ab⟩
 refine⟨vs,rL,fun j u hu=> ?_,fun u hu=> ?_,fun j x u et hu=>(m8 j u x hu et).2.2⟩
 ·obtain⟨x,FY⟩:=hex j u hu;rw[te];exact(m8 j u x hu FY).1
 ·obtain⟨j,aq⟩:=List.getElem?_of_mem hu;obtain⟨x,FY⟩:=hex j u aq;exact(m8 j u x aq FY).2.1
theorem abL {es bs:List (List aG)}{sz:Nat}{xs news:List Value}(aa:xs.length=es.length*sz)(he:∀e∈es,e.length=sz){j:Nat}{x:aG}(h:(es++bs).flatten[j]? = some x)
 {ok:Nat->Prop} {bf:kd} {bk:j2} (h1 : ∀(j:Nat) x u,es.flatten[j]? = some x->xs[j]? = some u->Rel w ok bf bk x u) (h2 : ∀(j:Nat) x u,bs.flatten[j]? = some x->news[j]? = some u->Rel w ok bf bk x u)
 {u:Value} (hu:(xs++news)[j]? = some u):Rel w ok bf bk x u:=by
 have kK:es.flatten.length=es.length*sz:=by
  have : ∀(es:List (List aG)),(∀e∈es,e.length=sz)->es.flatten.length=es.length*sz:=by
   intro es
   induction es with
   | nil=>intro _;simp
   | cons e es ih =>
    intro gN;rw[List.flatten_cons,dF,ih fun x aa=>gN x (by simp[aa]),gN e (by simp),List.length_cons,Nat.add_mul];omega
  exact this es he
 rw[List.flatten_append,List.getElem?_append] at h;rw[List.getElem?_append] at hu;by_cases aq:j<es.flatten.length
 ·rw[dw aq] at h;rw[dw (by omega)] at hu;exact h1 j x u h hu
 ·rw[dA aq] at h;rw[dA (by omega)] at hu;rw[kK] at h;rw[aa] at hu;exact h2 _ x u h hu
variable {P:Program}
theorem T3 (h:c7 g s aF a w){sz:Nat}{x:aG}{gk:gp}{bs:List (List aG)}{an:List Prop}(he:tr sz s.a0 gk x=some (bs,an))(bp:∀p∈an,p){v:Value}(bh:Rel w (s.ok g aF w) s.bf (s.bk aF) x v):
 ∃A c,v = .slice A bs.length c/\(∀e∈bs,e.length=sz)/\(bs.length=0\/ ∃eV off,A=some ⟨eV,off,none⟩/\pW w (s.ok g aF w) s.bf (s.bk aF) eV off sz bs):=by
 cases x with
 | isl Jg es =>
  simp only[tr] at he;split at he
  ·rename_i bJ
   subst bJ;simp only[dB,dE] at he;obtain⟨rfl,rfl⟩:=he;rcases bh.vb with ⟨rfl,A,c,rfl,-⟩|⟨eV,off,c,-,rfl,-,jD⟩
   ·exact⟨A,c,rfl,by simp,.inl rfl⟩
   ·exact⟨_,c,rfl,jD.1,.inr ⟨eV,off,rfl,jD⟩⟩
  ·simp at he
 | bc r k b6 len =>
  simp only[tr] at he;split at he
  ·rename_i oL bQ ky
   split at he
   ·rename_i bJ
    simp only[dB,dE] at he;obtain⟨rfl,rfl⟩:=he;have ig:b6+len<=oL.es.length:=bp _ (by simp);have ak:s.an r k=some oL:=vc ky (fun p ah=>bp p (by simp[ah]));have fZ:=h.obj r k oL ak;have aV:((oL.es.drop b6).take len).length=len:=(by simp;omega);rcases bh.EQ (jo ak) with ⟨-,rfl,rfl,rfl⟩|⟨b,m,A,c,ah,rfl,tA,-,hm⟩
    ·exact⟨none,0,by simp,by simp,.inl (by simp)⟩
    ·rw[ah] at fZ
     have jD:=fZ.rd;subst bJ;have yV:=Hr jD b6 len (by omega);refine⟨A,c,by rw[aV],yV.1,?_⟩;rcases hm with rfl|⟨rfl,-⟩
     ·left;rw[aV];omega
     ·right;rw[dG] at yV;exact⟨b,_,rfl,yV⟩
   ·simp at he
  ·simp at he
 | fv =>
  simp only[tr,dB,dE] at he;obtain⟨rfl,rfl⟩:=he;rw[bh.rp];exact⟨none,0,rfl,by simp,.inl rfl⟩
 | jQ =>
  simp only[tr,dB,dE] at he;obtain⟨rfl,rfl⟩:=he;obtain⟨A,c,rfl⟩:=bh.H9;exact⟨some A,c,rfl,by simp,.inl rfl⟩
 | _=>simp[tr] at he
structure MY (P:Program) (w:World) (t cD fo e:TypeId) (i:TypeInfo) (fb oP:Value) (n:Nat) (vs:List Value):Prop where
 zero:n=0-> ∀(B:Option Addr) (len cap:Nat),len<=cap->(Builtin.append_ #[t,cD] fo #[.slice B len cap,oP]).run P w = .ok (.slice B len cap) w
 nil:0<n->(n:Int)<=9223372036854775807->n*i.bytes<=140737488355328 ->
  (Builtin.append_ #[t,cD] fo #[.slice none 0 0,oP]).run P w = .ok (.slice (some ⟨w.heap.size,0,none⟩) n (grownCap w n 0 e)) (w.drew.alloc (.cells (vs.toArray++Builtin.zeroCells fb.cells (grownCap w n 0 e-n)) e))
 room:0<n-> ∀(g jP m6:Nat) (mU:Array Value) (e3:TypeId),w.heap[g]? = some (.cells mU e3 (0,0))->jP+n<=m6->jP*i.size+vs.length<=mU.size->n*i.bytes<=140737488355328 ->
  (Builtin.append_ #[t,cD] fo #[.slice (some ⟨g,0,none⟩) jP m6,oP]).run P w = .ok (.slice (some ⟨g,0,none⟩) (jP+n) m6) (w.setRow g (mU.toList.take (jP*i.size)++vs++mU.toList.drop (jP*i.size+vs.length)).toArray)
 grow:0<n-> ∀(b:Addr) (jP m6:Nat) (yW:List Value),yW.length=jP*i.size->(∀(j:Nat) v,yW[j]? = some v->w.cell? (b.add j)=some v)->m6<jP+n->((jP+n:Nat):Int)<=9223372036854775807->Builtin.nextslicecap (jP+n) m6*i.bytes<=281474976710656->n*i.bytes<=140737488355328 ->
  (Builtin.append_ #[t,cD] fo #[.slice (some b) jP m6,oP]).run P w = .ok (.slice (some ⟨w.heap.size,0,none⟩) (jP+n) (grownCap w (jP+n) m6 e))
    (w.drew.alloc (.cells (yW.toArray++vs.toArray++Builtin.zeroCells fb.cells (grownCap w (jP+n) m6 e-(jP+n))) e))
theorem aaT (t fo e:TypeId)(i:TypeInfo)(cg:P.underlying t=some (.slice e))(ab:P.info? e=some i)
 (g jP m6:Nat) (mU:Array Value) (e3:TypeId) (di:w.heap[g]? = some (.cells mU e3 (0,0)))
 (a:Addr) (m c:Nat) (news:List Value) (aV:news.length=m*i.size) (ahd : ∀j u,news[j]? = some u->w.cell? (a.add j)=some u) (h1 : ∀u∈news,u.oneCell'=true)
 (vj:jP+m<=m6) (ig:jP*i.size+news.length<=mU.size) :
 (Builtin.append_ #[t,t] fo #[.slice (some ⟨g,0,none⟩) jP m6,.slice (some a) m c]).run P w =
   .ok (.slice (some ⟨g,0,none⟩) (jP+m) m6) (w.setRow g (mU.toList.take (jP*i.size)++news++mU.toList.drop (jP*i.size+news.length)).toArray):=by
 have cl:=run_firstCells_some (P:=P) w i.size m a m c news aV ahd;have nu:=run_storeCells_at P g (jP*i.size) e3 news 0 mU w di (by simpa using ig) h1;simp only[Nat.add_zero] at nu;simp[Builtin.append_,run_underlying cg,sizeOf,typeInfo,ab,Builtin.lenOf,vj,cl,Addr.add_lit,nu]
theorem SX {t fo e:TypeId}{i:TypeInfo}{fb:Value}(cg:P.underlying t=some (.slice e))(ab:P.info? e=some i)(cC:i.zero=some fb){A:Option Addr}{n c:Nat}{vs:List Value}(aV:vs.length=n*i.size)
 (hA:n=0\/ ∃a,A=some a/\ ∀(j:Nat) u,vs[j]? = some u->w.cell? (a.add j)=some u) (h1 : ∀u∈vs,u.oneCell'=true):MY P w t t fo e i fb (.slice A n c) n vs where
 zero:=fun h0 B len cap Fy=>by subst h0;cases A<;>cases B<;>simp[Builtin.append_,run_underlying cg,sizeOf,typeInfo,ab,Builtin.lenOf,Fy,Builtin.firstCells,loadCells,loadCellsFrom,storeCells]
 nil:=fun h0 y4 CH=>by obtain⟨a,rfl,bG⟩:=hA.resolve_left (by omega);exact run_append_nil (P:=P) w t fo e i fb cg ab cC a n c vs aV bG h0 y4 (by omega)
 room:=fun aT g jP m6 mU e3 di vj ig _=>by obtain⟨a,rfl,bG⟩:=hA.resolve_left (by omega);exact aaT t fo e i cg ab g jP m6 mU e3 di a n c vs aV bG h1 vj ig
 grow:=fun aT b jP m6 yW ak hold di y4 ig _=>by obtain⟨a,rfl,bG⟩:=hA.resolve_left (by omega);exact run_append_grow (P:=P) w t fo e i fb cg ab cC b jP m6 yW ak hold a n c vs aV bG di y4 ig
theorem adi {t cD fo e:TypeId}{i:TypeInfo}{fb:Value}{k:IntKind}(cg:P.underlying t=some (.slice e))(nv:P.underlying cD=some (.int k))(ab:P.info? e=some i)(cC:i.zero=some fb)(mV:fb.cells.size=i.size){m:Nat}(ak9:(m:Int)<9223372036854775808)
 (h1 : ∀u∈(Builtin.zeroCells fb.cells m).toList,u.oneCell'=true):MY P w t cD fo e i fb (.int .i64 m) m (Builtin.zeroCells fb.cells m).toList:=by
 have hw:IntKind.i64.wrap (m:Int)=m:=by simp[IntKind.wrap,IntKind.bits,IntKind.signed];omega
 have oE : ¬((m:Int)<0):=by omega
 have tB : ∀aH,aH*i.size=0->Builtin.zeroCells fb.cells aH = #[]:=fun aH hm=>by apply Array.eq_empty_of_size_eq_zero;rw[size_zeroCells,mV,hm]
 have Jh : ∀bT:World,(if m*i.size=0 then (pure #[]:Sem (Array Value)) else do pure (Builtin.zeroCells (<- zeroValue e).cells m)).run P bT = .ok (Builtin.zeroCells fb.cells m) bT:=fun bT=>by
  split
  ·rename_i hm;rw[tB _ hm];rfl
  ·simp[zeroValue,typeInfo,ab,cC]
 have MZ : ∀b:Nat,m*b<=140737488355328-> ¬(281474976710656<(m:Int)*(b:Int)):=fun b aW=>by have:((m*b:Nat):Int)<=140737488355328:=(by omega);rw[Int.natCast_mul] at this;omega
 refine⟨fun aT B len cap Fy=> ?_,fun aT y4 CH=> ?_,fun aT g jP m6 mU e3 di vj ig CH=> ?_,fun aT b jP m6 yW ak hold di y4 ig CH=> ?_⟩
 ·subst aT;have Nq:IntKind.i64.wrap 0=0:=(by simpa using hw);cases B<;>simp[Builtin.append_,run_underlying cg,run_underlying nv,sizeOf,typeInfo,ab,Fy,asInt,asIntOf,Nq,storeCells]
 ·have Ji : ¬m=0:=by omega
  have Fz : ¬(9223372036854775807<(m:Int)):=(by omega);have wI:=MZ _ CH;have FA : ¬(281474976710656<Builtin.nextslicecap m 0*i.bytes):=(by rw[nextslicecap_zero aT];omega);have h2:=Jh w.drew;by_cases hm:m*i.size=0
  ·simp[Builtin.append_,run_underlying cg,run_underlying nv,sizeOf,typeInfo,zeroValue,ab,cC,asInt,asIntOf,hw,oE,wI,Ji,Fz,FA,Question.forced,run_firstCells_none,newRow,grownCap,hm,tB _ hm]
  ·simp[Builtin.append_,run_underlying cg,run_underlying nv,sizeOf,typeInfo,zeroValue,ab,cC,asInt,asIntOf,hw,oE,wI,Ji,Fz,FA,Question.forced,run_firstCells_none,newRow,grownCap,hm]
 ·have wI:=MZ _ CH
  have nu:=run_storeCells_at P g (jP*i.size) e3 (Builtin.zeroCells fb.cells m).toList 0 mU w di (by simpa using ig) h1;simp only[Nat.add_zero] at nu;by_cases hm:m*i.size=0
  ·rw[tB _ hm] at nu;have ahK:(storeCells ⟨g,jP*i.size,none⟩ []).run P w = .ok () (w.setRow g mU):=(by simpa using nu);simp[Builtin.append_,run_underlying cg,run_underlying nv,sizeOf,typeInfo,zeroValue,ab,cC,asInt,asIntOf,hw,oE,wI,vj,hm,tB _ hm,Addr.add_lit,ahK]
  ·simp[Builtin.append_,run_underlying cg,run_underlying nv,sizeOf,typeInfo,zeroValue,ab,cC,asInt,asIntOf,hw,oE,wI,vj,hm,Addr.add_lit,nu]
 ·have wI:=MZ _ CH
  have WC : ¬(jP+m<=m6):=(by omega);have Fz : ¬(9223372036854775807<((jP:Int)+(m:Int))):=(by omega);have FA : ¬(281474976710656<Builtin.nextslicecap (jP+m) m6*i.bytes):=(by omega);have WD:=run_firstCells_some (P:=P) w.drew i.size jP b jP m6 yW ak (by simpa using hold);by_cases hm:m*i.size=0
  ·simp[Builtin.append_,run_underlying cg,run_underlying nv,sizeOf,typeInfo,zeroValue,ab,cC,asInt,asIntOf,hw,oE,wI,WC,Fz,FA,Question.forced,WD,newRow,grownCap,hm,tB _ hm]
  ·simp[Builtin.append_,run_underlying cg,run_underlying nv,sizeOf,typeInfo,zeroValue,ab,cC,asInt,asIntOf,hw,oE,wI,WC,Fz,FA,Question.forced,WD,newRow,grownCap,hm]
theorem KY {a1:Nat}{e:TypeId}{v:Value}{i:TypeInfo}{m:Nat}(h:c7 g s aF a w)(fF:s.a0 a1=none){es:List (List aG)}(hlen:∀x∈es,x.length=i.size)(hm:m=es.length)
 {o8:List Value} {vR:Array Value} {cap:Nat} (rL:o8.length=es.length*i.size) (m5 : ∀u∈o8,u.oneCell'=true) (aim:vR.size=(cap-m)*i.size) (Fy:m<=cap) (ahL:cap<9223372036854775808)
 (fZ : ∀(j:Nat) x u,es.flatten[j]? = some x->o8[j]? = some u->Rel w (s.ok g aF w) s.bf (s.bk aF) x u)
 (bh:v = .slice (some ⟨w.heap.size,0,none⟩) m cap) :
 ∃bX,c7 g (s.setRow a1 [⟨i.size,es,.live⟩]) bX a (w.drew.alloc (.cells (o8.toArray++vR) e)) /\
  Rel (w.drew.alloc (.cells (o8.toArray++vR) e)) ((s.setRow a1 [⟨i.size,es,.live⟩]).ok g bX (w.drew.alloc (.cells (o8.toArray++vR) e))) (s.setRow a1 [⟨i.size,es,.live⟩]).bf ((s.setRow a1 [⟨i.size,es,.live⟩]).bk bX) (.bc a1 0 0 m) v:=by
 have bC:=h.drew
 have kK:es.flatten.length=es.length*i.size:=by
  have : ∀(es:List (List aG)),(∀e∈es,e.length=i.size)->es.flatten.length=es.length*i.size:=by
   intro es
   induction es with
   | nil=>intro _;simp
   | cons e es ih =>
    intro gN;rw[List.flatten_cons,dF,ih fun x aa=>gN x (by simp[aa]),gN e (by simp),List.length_cons,Nat.add_mul];omega
  exact this es hlen
 obtain⟨bX,p1,p2,-⟩:=bC.alloc fF ⟨i.size,es,.live⟩ rfl (o8.toArray++vR) e hlen (fun j x aa=>by
  have aq:j<o8.length:=by
   rcases Nat.lt_or_ge j es.flatten.length with c1|c1
   ·omega
   ·rw[List.getElem?_eq_none c1] at aa;simp at aa
  refine⟨o8[j],?_,m5 _ (List.getElem_mem aq),?_⟩
  ·rw[Array.getElem?_append_left (by simpa using aq)];simp[aq]
  ·exact(fZ j x _ aa (dz aq)).drew)
 refine⟨bX,p2,?_⟩;subst bh;have ak:(s.setRow a1 [⟨i.size,es,.live⟩]).an a1 0=some ⟨i.size,es,.live⟩:=by rw[mL,dw rfl,nj];simp
 refine Rel.bc (sz:=i.size) (eV:=w.heap.size) (m:=(o8.toArray++vR).size) ((oq _ _ _ _ _).2 (by simp)) ?_ Fy ahL ⟨?_,.inr (by simp)⟩
 ·rw[jo ak,p1];rfl
 ·simp only[Array.size_append,List.size_toArray,aim,rL,dG];rw[<- hm,<- Nat.add_mul];congr 1;omega
section
variable {o:Oper} {c4:gp} {a1:Nat} {bD:iR}
theorem Tt (h:c7 g s aF a w){t cD fo e:TypeId}{i:TypeInfo}{z:List aG}(hu:P.underlying t=some (.slice e))(ab:P.info? e=some i)(cC:si P e=some z)(oJ:z.length=i.size)(kI:i.size≠0)
 {y:aG} {gk:gp} {bs:List (List aG)} {an:List Prop} (he:yp P i.size z s.a0 gk t cD y=some (bs,an)) (bp : ∀p∈an,p) {oP:Value} (aU:Rel w (s.ok g aF w) s.bf (s.bk aF) y oP) :
 ∃fb vs,i.zero=some fb/\fb.cells.size=i.size/\MY P w t cD fo e i fb oP bs.length vs/\(∀x∈bs,x.length=i.size)/\vs.length=bs.length*i.size/\(∀u∈vs,u.oneCell'=true) /\
  ∀(j:Nat) x u,bs.flatten[j]? = some x->vs[j]? = some u->Rel w (s.ok g aF w) s.bf (s.bk aF) x u:=by
 obtain⟨ff,fb,lK,lJ,rY,wQ⟩:=Eu cC;rw[ab] at lK;simp at lK;subst lK;have mV:fb.cells.size=i.size:=by rw[<- oJ,rY];simp
 unfold yp at he;split at he
 ·rename_i ain
  subst ain;obtain⟨A,c,rfl,hlen,Nr⟩:=T3 h he bp aU;rcases Nr with h0|⟨eV,off,rfl,jD⟩
  ·have:bs=[]:=List.length_eq_zero_iff.1 h0;subst this;exact⟨fb,[],lJ,mV,SX hu ab lJ (by simp) (.inl rfl) (by simp),hlen,by simp,by simp,by simp⟩
  ·obtain⟨vs,v1,v2,v3,v4⟩:=jD.o8;exact⟨fb,vs,lJ,mV,SX hu ab lJ v1 (.inr ⟨_,rfl,v2⟩) v3,hlen,v1,v3,v4⟩
 ·split at he
  ·rename_i k n aX
   simp only[dB,dE] at he;obtain⟨rfl,rfl⟩:=he;have h0:0<=n:=bp _ (by simp);have y4:n<9223372036854775808:=bp _ (by simp);obtain⟨m,rfl⟩:=Int.eq_ofNat_of_zero_le h0;have aio:oP = .int .i64 m:=(by cases aU;rfl);subst aio;have m8 : ∀(j:Nat) u,(Builtin.zeroCells fb.cells m).toList[j]? = some u->fb.cells[j % i.size]? = some u:=(by intro j u pc;have aq:=(List.getElem?_eq_some_iff.1 pc).1;rw[Array.length_toList,size_zeroCells,mV] at aq;have ep:j % i.size<fb.cells.size:=(by rw[mV];exact Nat.mod_lt _ (by omega));rw[Array.getElem?_toList,Builtin.zeroCells,Array.getElem?_map,mV,Array.getElem?_range] at pc;rw[dw aq] at pc;simp only[Option.map_some,dB] at pc;rw[<- pc,Array.getElem?_eq_getElem ep,getElem!_pos fb.cells _ ep]);refine⟨fb,(Builtin.zeroCells fb.cells m).toList,lJ,mV,?_,?_,?_,?_,?_⟩
   ·simp only[List.length_replicate,dy];refine adi hu aX ab lJ mV (by omega) fun u tC=> ?_;obtain⟨j,aq⟩:=List.getElem?_of_mem tC;have h1:=m8 j u aq;have ep:j % i.size<z.length:=(by rw[oJ];exact Nat.mod_lt _ (by omega));obtain⟨v,v1,v2,-⟩:=wQ _ _ (dz ep);rw[h1] at v1;obtain rfl:=dI v1;exact v2
   ·intro x aa;rw[List.mem_replicate] at aa;rw[aa.2,oJ]
   ·rw[Array.length_toList,size_zeroCells,mV];simp
   ·intro u tC;obtain⟨j,aq⟩:=List.getElem?_of_mem tC;have h1:=m8 j u aq;have ep:j % i.size<z.length:=(by rw[oJ];exact Nat.mod_lt _ (by omega));obtain⟨v,v1,v2,-⟩:=wQ _ _ (dz ep);rw[h1] at v1;obtain rfl:=dI v1;exact v2
   ·intro j x u aa pc
    rw[qG (sz:=i.size) (by omega) _ (fun e3 m7=>by rw[List.mem_replicate] at m7;rw[m7.2,oJ])] at aa;have h1:=m8 j u pc
    cases aZ:(List.replicate (Int.toNat (m:Int)) z)[j / i.size]? with
    | none=>rw[aZ] at aa;simp at aa
    | some e3 =>
     have:=dH aZ;rw[List.mem_replicate] at this;rw[aZ,this.2] at aa;simp only[dx] at aa;obtain⟨v,v1,-,v3⟩:=wQ _ _ aa;rw[h1] at v1;obtain rfl:=dI v1;exact v3 _ _ _ _
  ·simp at he
theorem adj (h:c7 g s aF a w)(fF:s.a0 a1=none){x y:aG}{tR oP:Value}{t cD:TypeId}{m:Nat}{Ok:Option a9}{fo:TypeId}(aB:pb P s.E s.a0 a1 .append [x,y] [t,cD] (.ay m Ok)=some bD)(cR:∀p∈bD.f7,p)
 (aa:Rel w (s.ok g aF w) s.bf (s.bk aF) x tR) (aU:Rel w (s.ok g aF w) s.bf (s.bk aF) y oP) :
 ∃v bT bX,(Builtin.append_ #[t,cD] fo #[tR,oP]).run P w = .ok v bT/\c7 g (s.jg bD.gI) bX a bT/\Rel bT ((s.jg bD.gI).ok g bX bT) (s.jg bD.gI).bf ((s.jg bD.gI).bk bX) bD.val v:=by
 simp only[pb] at aB;split at aB
 ·simp at aB
 ·rename_i e he
  have hu:=uf he;split at aB
  ·rename_i i z ab cC
   split at aB
   ·simp at aB
   ·rename_i aY
    simp only[not_or,Decidable.not_not] at aY;obtain⟨oJ,kI,CB⟩:=aY;split at aB
    ·simp at aB
    ·rename_i bs bQ ty
     have Jj:=fun ah=>Tt (fo:=fo) h hu ab cC oJ kI ty ah aU;by_cases agu:True
     ·
      split at aB
      ·
       simp only[dB] at aB;subst aB;have hm:m=bs.length:=cR _ (by simp);have FZ:m*i.bytes<=140737488355328:=cR _ (by simp);obtain⟨fb,vs,lJ,mV,hA,hlen,v1,v3,v4⟩:=Jj (fun p ah=>cR p (by simp[ah]));clear Jj;rw[aa.rp];by_cases h0:bs.length=0
       ·have:bs=[]:=List.length_eq_zero_iff.1 h0;subst this;obtain⟨bX,p1,p2⟩:=h.UC (sz:=i.size) fF;refine⟨_,w,bX,hA.zero h0 none 0 0 (dD _),p2,?_⟩;subst hm;have ak:(s.setRow a1 [⟨i.size,[],.live⟩]).an a1 0=some ⟨i.size,[],.live⟩:=(by rw[mL,dw rfl,nj];simp);exact .oV (sz:=i.size) ((oq _ _ _ _ _).2 (by simp)) (by show (s.setRow a1 [⟨i.size,[],.live⟩]).bk bX a1 0=_;rw[jo ak,p1])
       ··have wR:bs.length*1<=bs.length*i.bytes:=Nat.mul_le_mul_left _ (by omega)
         rw[hm] at FZ;have jX:=hA.nil (by omega) (by omega) (by omega);have WE:=grownCap_ge w bs.length 0 e;have hle:=grownCap_le_maxLen w bs.length 0 e (by simp only[maxLen];omega);simp only[maxLen] at hle
         obtain⟨bX,q1,q2⟩:=KY (e:=e) (i:=i) (m:=m) (o8:=vs) (vR:=Builtin.zeroCells fb.cells (grownCap w bs.length 0 e-bs.length)) (cap:=grownCap w bs.length 0 e) h fF hlen hm v1 v3
          (by rw[size_zeroCells,mV,hm]) (by omega) (by omega) v4 rfl
         refine⟨.slice (some ⟨w.heap.size,0,none⟩) m (grownCap w bs.length 0 e),_,bX,?_,q1,q2⟩;rw[hm];exact jX
      ·
       rename_i r k len;split at aB
       ·simp at aB
       ·rename_i row d6
        split at aB
        ·simp at aB
        ·rename_i an bp
         split at aB
         ·rename_i y5
          obtain⟨pd,fE,c8⟩:=y5;simp only[dB] at aB;subst aB;have ak:s.an r k=some an:=(by unfold S.an;rw[d6];exact bp);have ig:len<=an.es.length:=cR _ (by simp);have hm:m=len+bs.length:=cR _ (by simp);have FZ:m*i.bytes<=140737488355328:=cR _ (by simp);have wR:m*1<=m*i.bytes:=Nat.mul_le_mul_left _ (Nat.one_le_iff_ne_zero.2 CB);obtain⟨fb,vs,lJ,mV,hA,hlen,v1,v3,v4⟩:=Jj (fun p ah=>cR p (by simp[ah]));clear Jj;have alk:bs.length*i.bytes<=m*i.bytes:=dM _ (by omega);have fZ:=h.obj r k an ak;have Ns:(an.es.take len).length=len:=(by simp;omega);have uq:(s.setRow a1 [⟨i.size,an.es.take len++bs,.live⟩]).a0 r=some row:=(by simp[S.setRow,Ne.symm c8,d6]);have rM : ∀bX:gh,((s.setRow a1 [⟨i.size,an.es.take len++bs,.live⟩]).setRow r (row.set k {an with cN:= .gone})).an a1 0=some ⟨i.size,an.es.take len++bs,.live⟩:=(by intro _;rw[mL,dA c8,mL,dw rfl,nj];simp);have FB:((s.setRow a1 [⟨i.size,an.es.take len++bs,.live⟩]).setRow r (row.set k {an with cN:= .gone})).bf a1 0:=(by rw[oq,dA c8,oq,dw rfl];simp);show ∃v bT bX,_/\c7 g ((s.setRow a1 [⟨i.size,an.es.take len++bs,.live⟩]).setRow r (row.set k {an with cN:= .gone})) bX a bT/\_;rcases aa.x8 (jo ak) with ⟨ah,-,rfl,rfl⟩|⟨b,M,ho,lz,ah,rfl,tA,vD,ek,nw⟩
          ·
           rw[ah] at fZ;simp only[j8] at fZ;have iM:an.es.take 0++bs=bs:=(by simp);by_cases h0:bs.length=0
           ·have:bs=[]:=List.length_eq_zero_iff.1 h0;subst this;obtain⟨bX,p1,p2⟩:=h.UC (sz:=i.size) fF;have pe:(s.setRow a1 [⟨i.size,[],.live⟩]).an r k=some an:=(by rw[mL,dA (Ne.symm c8)];exact ak);have ahe:(s.setRow a1 [⟨i.size,[],.live⟩]).a0 r=some row:=(by simp[S.setRow,Ne.symm c8,d6]);obtain⟨uM,-⟩:=p2.gone ahe pe;have FC:an.es.take 0++([]:List (List aG))=[]:=(by simp);rw[FC];rw[FC] at FB rM;refine⟨_,w,bX,hA.zero h0 none 0 0 (dD _),uM,?_⟩;subst hm;exact .oV (sz:=i.size) FB ((jo (rM bX)).trans (by rw[p1]))
           ··have la:m=bs.length:=by omega
             have jX:=hA.nil (by omega) (by omega) (by omega);have WE:=grownCap_ge w bs.length 0 e;have hle:=grownCap_le_maxLen w bs.length 0 e (by simp only[maxLen];omega);simp only[maxLen] at hle
             obtain⟨bX,q1,q2⟩:=KY (e:=e) (i:=i) (m:=m) (o8:=vs) (vR:=Builtin.zeroCells fb.cells (grownCap w bs.length 0 e-bs.length)) (cap:=grownCap w bs.length 0 e) h fF hlen la v1 v3
              (by rw[size_zeroCells,mV,la]) (by omega) (by omega) v4 rfl
             rw[iM];rw[iM] at uq;have pe:(s.setRow a1 [⟨i.size,bs,.live⟩]).an r k=some an:=(by rw[mL,dA (Ne.symm c8)];exact ak);obtain⟨uM,GJ⟩:=q1.gone uq pe;refine⟨.slice (some ⟨w.heap.size,0,none⟩) m (grownCap w bs.length 0 e),_,bX,?_,uM,GJ _ _ q2⟩;rw[la];exact jX
          ·
           rw[ah] at fZ;have ahf:=fZ;obtain⟨cI,nH,g1,g2,g3,g4⟩:=fZ
           have FD : ∀e∈an.es.take len++bs,e.length=i.size:=by
            intro e3 m7;rw[List.mem_append] at m7;rcases m7 with c1|c1
            ·rw[g3 e3 (List.mem_of_mem_take c1),fE]
            ·exact hlen e3 c1
           have kK : ∀(es:List (List aG)),(∀e∈es,e.length=i.size)->es.flatten.length=es.length*i.size:=by
            intro es
            induction es with
            | nil=>intro _;simp
            | cons e es ih =>
             intro gN;rw[List.flatten_cons,dF,ih fun x aa=>gN x (by simp[aa]),gN e (by simp),List.length_cons,Nat.add_mul];omega
           by_cases h0:bs.length=0
           ·
            have:bs=[]:=List.length_eq_zero_iff.1 h0;subst this;have FC:an.es.take len++([]:List (List aG))=an.es.take len:=(by simp);rw[FC];rw[FC] at FB rM FD
            obtain⟨bX,p1,p2⟩:=h.turn d6 ak pd ah fF ⟨i.size,an.es.take len,.live⟩ rfl cI nH g1 rfl (fun _ _=>rfl) rfl rfl rfl g2 FD (fun j q aZ=>by
             refine g4 j q ?_
             have aq:j<(an.es.take len).flatten.length:=by
              rcases Nat.lt_or_ge j (an.es.take len).flatten.length with c1|c1
              ·exact c1
              ·rw[List.getElem?_eq_none c1] at aZ;simp at aZ
             have WG:an.es.flatten=(an.es.take len).flatten++(an.es.drop len).flatten:=(by rw[<- List.flatten_append,List.take_append_drop]);rw[WG,List.getElem?_append_left aq];exact aZ)
            refine⟨_,w,bX,hA.zero h0 ho len lz tA,p2,?_⟩;have la:m=len:=(by simpa using hm);subst la;refine .bc (sz:=i.size) (eV:=b) (m:=M) FB ((jo (rM bX)).trans (by rw[p1])) tA vD ?_;rw[<- fE];exact⟨ek,nw⟩
           ··
             have hold : ∃xs:List Value,xs.length=len*i.size/\(∀(j:Nat) u,xs[j]? = some u->w.cell? ((⟨b,0,none⟩:Addr).add j)=some u)/\(∀u∈xs,u.oneCell'=true) /\
              ∀(j:Nat) x u,(an.es.take len).flatten[j]? = some x->xs[j]? = some u->Rel w (s.ok g aF w) s.bf (s.bk aF) x u:=by
              have Wa:=Hr ahf.rd 0 len (by omega);simp only[List.drop_zero,Nat.zero_mul,Nat.add_zero] at Wa;obtain⟨xs,x1,x2,aw,fJ⟩:=Wa.o8;exact⟨xs,by rw[x1,Ns,fE],x2,aw,fJ⟩
             obtain⟨xs,x1,x2,aw,fJ⟩:=hold;have Jk:xs.length=(an.es.take len).length*i.size:=by rw[Ns];exact x1
             have UD : ∀(j:Nat) x u,(an.es.take len++bs).flatten[j]? = some x->(xs++vs)[j]? = some u->Rel w (s.ok g aF w) s.bf (s.bk aF) x u :=
              fun j x u aip pc=>abL Jk (fun e3 m7=>by rw[g3 e3 (List.mem_of_mem_take m7),fE]) aip fJ v4 pc
             have FE:(an.es.take len++bs).length=m:=(by rw[dF,Ns];exact hm.symm);by_cases vj:len+bs.length<=lz
             ·
              rcases nw with rfl|rfl
              ·omega
              ·rw[Nat.zero_mul] at *
               rw[dG] at ek;have agv:len*i.size+vs.length<=cI.size:=(by rw[v1,g2,<- ek,fE,<- Nat.add_mul];exact dM _ vj);have jX:=hA.room (by omega) b len lz cI nH g1 vj agv (by omega);have ahM:(w.setRow b (cI.toList.take (len*i.size)++vs++cI.toList.drop (len*i.size+vs.length)).toArray).heap.size=w.heap.size:=size_setRow _ _ _
               have WH:xs=cI.toList.take (len*i.size):=by
                apply List.ext_getElem?;intro j;rw[List.getElem?_take];by_cases aq:j<len*i.size
                ·rw[dw aq];have uA:j<xs.length:=(by omega);have:=x2 j _ (dz uA);rw[te,cell_of_row w b (0+j) cI nH (0,0) g1,dG] at this;rw[dz uA,<- this,Array.getElem?_toList]
                ·rw[dA aq,List.getElem?_eq_none (by omega)]
               obtain⟨bX,p1,p2⟩:=h.turn d6 ak pd ah fF ⟨i.size,an.es.take len++bs,.live⟩ rfl _ nH (setRow_heap w b cI _ nH _ g1) ahM (fun q aZ=>setRow_other w b q _ aZ) rfl rfl rfl
                (by rw[<- g2];simp;omega) FD (fun j q aZ=>by
                  have aq:j<(xs++vs).length:=by
                   have:j<(an.es.take len++bs).flatten.length:=by
                    rcases Nat.lt_or_ge j (an.es.take len++bs).flatten.length with c1|c1
                    ·exact c1
                    ·rw[List.getElem?_eq_none c1] at aZ;simp at aZ
                   rw[kK _ FD,FE] at this;rw[dF,x1,v1,<- Nat.add_mul,<- hm];exact this
                  refine⟨(xs++vs)[j],?_,?_,UD j q _ aZ (dz aq)⟩
                  ·rw[List.getElem?_toArray,List.getElem?_append_left (by rw[<- WH];exact aq),<- WH];exact dz aq
                  ·have:=List.getElem_mem aq
                   rw[List.mem_append] at this;rcases this with c1|c1
                   ·exact aw _ c1
                   ·exact v3 _ c1)
               refine⟨_,_,bX,jX,p2,?_⟩;rw[<- hm];refine .bc (sz:=i.size) (eV:=b) (m:=M) FB ((jo (rM bX)).trans (by rw[p1])) (by omega) vD ⟨?_,.inr (by simp)⟩;rw[dG,<- fE];exact ek
             ·
              have hA : ∃zv:Addr,(ho=some zv/\ ∀(j:Nat) u,xs[j]? = some u->w.cell? (zv.add j)=some u)\/(ho=none/\len=0/\lz=0):=by
               cases ho with
               | none =>
                refine⟨⟨0,0,none⟩,.inr ⟨rfl,?_⟩⟩;rcases nw with c1|c1
                ·omega
                ·simp at c1
               | some zv =>
                refine⟨zv,.inl ⟨rfl,?_⟩⟩;rcases nw with c1|c1
                ·have:len=0:=(by omega);have:xs=[]:=List.length_eq_zero_iff.1 (by rw[x1,this];simp);intro j u aq;rw[this] at aq;simp at aq
                ·simp at c1;subst c1;exact x2
              have WE:=grownCap_ge w (len+bs.length) lz e;have hle:=grownCap_le_maxLen w (len+bs.length) lz e (by simp only[maxLen];omega);simp only[maxLen] at hle
              have jX:(Builtin.append_ #[t,cD] fo #[.slice ho len lz,oP]).run P w = .ok (.slice (some ⟨w.heap.size,0,none⟩) (len+bs.length) (grownCap w (len+bs.length) lz e))
               (w.drew.alloc (.cells ((xs++vs).toArray++Builtin.zeroCells fb.cells (grownCap w (len+bs.length) lz e-(len+bs.length))) e)):=by
               have ahN:(xs++vs).toArray=xs.toArray++vs.toArray:=(by apply Array.ext';simp);rw[ahN];obtain⟨zv,⟨rfl,aiq⟩|⟨rfl,oK,nI⟩⟩:=hA
               ·exact hA.grow (by omega) zv len lz xs x1 aiq (by omega) (by omega) (growslice_fits (by omega) (by rw[<- hm];exact FZ)) (by omega)
               ·subst oK;subst nI;have air:xs=[]:=List.length_eq_zero_iff.1 (by rw[x1];simp);subst air;have:=hA.nil (by omega) (by omega) (by omega);simpa using this
              obtain⟨bX,q1,q2⟩:=KY (e:=e) (i:=i) (m:=m) (o8:=xs++vs) (vR:=Builtin.zeroCells fb.cells (grownCap w (len+bs.length) lz e-(len+bs.length))) (cap:=grownCap w (len+bs.length) lz e) h fF FD FE.symm
               (by rw[dF,x1,v1,FE,hm,Nat.add_mul]) (fun u hu=>by
                 rw[List.mem_append] at hu;rcases hu with c1|c1
                 ·exact aw _ c1
                 ·exact v3 _ c1) (by rw[size_zeroCells,mV,hm]) (by omega) (by omega) UD rfl
              have pe:(s.setRow a1 [⟨i.size,an.es.take len++bs,.live⟩]).an r k=some an:=(by rw[mL,dA (Ne.symm c8)];exact ak);obtain⟨uM,GJ⟩:=q1.gone uq pe;refine⟨.slice (some ⟨w.heap.size,0,none⟩) m (grownCap w (len+bs.length) lz e),_,bX,?_,uM,GJ _ _ q2⟩;rw[hm];exact jX
         ·simp at aB
      ·simp at aB
     ·exact absurd trivial agu
  ·simp at aB
end
end
section
variable {P:Program} {g:G} {s:S} {aF:gh} {a:Act} {w:World}
theorem EH {sz:Nat}: ∀ {es:List (List aG)},(∀e∈es,e.length=sz)->es.flatten.length=es.length*sz
 | [],_=>by simp
 | e::es,h=>by rw[List.flatten_cons,dF,EH fun x aa=>h x (by simp[aa]),h e (by simp),List.length_cons,Nat.add_mul];omega
theorem c7.putAt (h:c7 g s aF a w){r k p b M:Nat}{row:List a9}{an:a9}(ai:s.a0 r=some row)(ak:s.an r k=some an)(aX:an.cN = .live)(mY:aF r k=some (b,M)){bs hr:List (List aG)}{vs:List Value}
 (hlen : ∀x∈bs,x.length=an.sz) (v1:vs.length=bs.length*an.sz) (v3 : ∀u∈vs,u.oneCell'=true) (v4 : ∀(j:Nat) x u,bs.flatten[j]? = some x->vs[j]? = some u->Rel w (s.ok g aF w) s.bf (s.bk aF) x u)
 (ah:p+bs.length<=an.es.length) (q:Nat) (iM:hr=(an.es.take p++bs++an.es.drop (p+bs.length)).take q) :
 ∃cI nH,w.heap[b]? = some (.cells cI nH (0,0))/\cI.size=M/\an.es.length*an.sz<=M/\p*an.sz+vs.length<=cI.size /\
  c7 g (s.setRow r (row.set k {an with es:=hr})) aF a (w.setRow b (cI.toList.take (p*an.sz)++vs++cI.toList.drop (p*an.sz+vs.length)).toArray) /\
  ∀x v,Rel w (s.ok g aF w) s.bf (s.bk aF) x v->Rel (w.setRow b (cI.toList.take (p*an.sz)++vs++cI.toList.drop (p*an.sz+vs.length)).toArray) ((s.setRow r (row.set k {an with es:=hr})).ok g aF (w.setRow b (cI.toList.take (p*an.sz)++vs++cI.toList.drop (p*an.sz+vs.length)).toArray)) (s.setRow r (row.set k {an with es:=hr})).bf ((s.setRow r (row.set k {an with es:=hr})).bk aF) x v:=by
 have fZ:=h.obj r k an ak;rw[mY] at fZ;obtain⟨cI,nH,g1,g2,g3,g4⟩:=fZ;have kK:=EH g3
 have ek:an.es.length*an.sz<=M:=by
  rcases Nat.eq_zero_or_pos an.es.flatten.length with h0|kI
  ·omega
  ·obtain⟨v,e1,-⟩:=g4 (an.es.flatten.length-1) _ (dz (by omega));have:=(Array.getElem?_eq_some_iff.1 e1).1;omega
 have hmul:p*an.sz+bs.length*an.sz<=an.es.length*an.sz:=by rw[<- Nat.add_mul];exact dM _ ah
 have ig:p*an.sz+vs.length<=cI.size:=by omega
 refine⟨cI,nH,g1,g2,ek,ig,?_⟩
 have ahO : ∀e∈an.es.take p++bs++an.es.drop (p+bs.length),e.length=an.sz:=by
  intro e he;simp only[List.mem_append] at he;rcases he with (he|he)|he
  ·exact g3 e (List.mem_of_mem_take he)
  ·exact hlen e he
  ·exact g3 e (List.mem_of_mem_drop he)
 have hA:(an.es.take p).flatten.length=p*an.sz:=by rw[EH fun e he=>g3 e (List.mem_of_mem_take he),List.length_take];congr 1;omega
 have gl:(an.es.take (p+bs.length)).flatten.length=p*an.sz+bs.length*an.sz:=by rw[EH fun e he=>g3 e (List.mem_of_mem_take he),List.length_take,<- Nat.add_mul];congr 1;omega
 have ajL:bs.flatten.length=bs.length*an.sz:=EH hlen
 have h1 : ∀j,j<p*an.sz->(an.es.take p).flatten[j]? = an.es.flatten[j]? := fun j aq=>by
  conv=>rhs;rw[<- List.take_append_drop p an.es,List.flatten_append,List.getElem?_append_left (by omega)]
 have h2 : ∀j,(an.es.drop (p+bs.length)).flatten[j]? = an.es.flatten[p*an.sz+bs.length*an.sz+j]? := fun j=>by
  conv=>rhs;rw[<- List.take_append_drop (p+bs.length) an.es,List.flatten_append,List.getElem?_append_right (by omega),gl]
  congr 1;omega
 refine h.write ai ak aX mY hr _ nH (setRow_heap w b cI _ nH _ g1) (size_setRow _ _ _) (fun q aZ=>setRow_other w b q _ aZ) rfl rfl rfl (by rw[<- g2];simp;omega) ?_ ?_
 ·intro e he;rw[iM] at he;exact ahO e (List.mem_of_mem_take he)
 ·intro j x aa
  have et:(an.es.take p++bs++an.es.drop (p+bs.length)).flatten[j]? = some x:=by
   rw[iM] at aa;have aq:=(List.getElem?_eq_some_iff.1 aa).1
   conv=>lhs;rw[<- List.take_append_drop q (an.es.take p++bs++an.es.drop (p+bs.length)),List.flatten_append,List.getElem?_append_left aq]
   exact aa
  rw[List.flatten_append,List.flatten_append] at et;simp only[List.getElem?_toArray];have i7:(cI.toList.take (p*an.sz)).length=p*an.sz:=(by rw[List.length_take,Array.length_toList];omega);by_cases bl:j<p*an.sz
  ·rw[List.append_assoc,List.getElem?_append_left (by omega),h1 j bl] at et;obtain⟨v,e1,e2,bN⟩:=g4 j x et;refine⟨v,?_,e2,bN⟩;rw[List.append_assoc,List.getElem?_append_left (by omega),List.getElem?_take,dw bl,Array.getElem?_toList];exact e1
  ·by_cases cm:j<p*an.sz+vs.length
   ·rw[List.append_assoc,List.getElem?_append_right (by omega),hA,List.getElem?_append_left (by omega)] at et;have bh:j-p*an.sz<vs.length:=(by omega);refine⟨vs[j-p*an.sz],?_,v3 _ (List.getElem_mem bh),v4 _ _ _ et (dz bh)⟩;rw[List.append_assoc,List.getElem?_append_right (by omega),i7,List.getElem?_append_left (by omega)];exact dz bh
   ·rw[List.getElem?_append_right (by rw[dF];omega),dF,hA,ajL,h2] at et;rw[show p*an.sz+bs.length*an.sz+(j-(p*an.sz+bs.length*an.sz))=j by omega] at et;obtain⟨v,e1,e2,bN⟩:=g4 j x et;refine⟨v,?_,e2,bN⟩;rw[List.getElem?_append_right (by rw[dF];omega),dF,i7,List.getElem?_drop,Array.getElem?_toList];rw[show p*an.sz+vs.length+(j-(p*an.sz+vs.length))=j by omega];exact e1
end
section
variable {P:Program} {g:G} {s:S} {aF:gh} {a:Act} {w:World} {a1:Nat} {bD:iR}
theorem afQ (h:c7 g s aF a w){x y:aG}{tR oP:Value}{t cD fo:TypeId}(aB:pb P s.E s.a0 a1 .append [x,y] [t,cD] .d4=some bD)(cR:∀p∈bD.f7,p)
 (aa:Rel w (s.ok g aF w) s.bf (s.bk aF) x tR) (aU:Rel w (s.ok g aF w) s.bf (s.bk aF) y oP) :
 ∃v bT,(Builtin.append_ #[t,cD] fo #[tR,oP]).run P w = .ok v bT/\c7 g (s.jg bD.gI) aF a bT/\Rel bT ((s.jg bD.gI).ok g aF bT) (s.jg bD.gI).bf ((s.jg bD.gI).bk aF) bD.val v:=by
 simp only[pb] at aB;split at aB
 ·simp at aB
 ·rename_i e he
  have hu:=uf he;split at aB
  ·rename_i i z ab cC
   split at aB
   ·simp at aB
   ·rename_i aY
    simp only[not_or,Decidable.not_not] at aY;obtain⟨oJ,kI,CB⟩:=aY;split at aB
    ·simp at aB
    ·rename_i bs bQ ty
     split at aB
     ·rename_i r k len
      split at aB
      ·simp at aB
      ·rename_i row d6
       split at aB
       ·simp at aB
       ·rename_i an bp
        split at aB
        ·rename_i y5
         obtain⟨pd,fE⟩:=y5;simp only[dB] at aB;subst aB;have ak:s.an r k=some an:=(by unfold S.an;rw[d6];exact bp);have ig:len+bs.length<=an.es.length:=cR _ (by simp);have FZ:bs.length*i.bytes<=140737488355328:=cR _ (by simp);obtain⟨fb,vs,lJ,mV,hA,hlen,v1,v3,v4⟩:=Tt (fo:=fo) h hu ab cC oJ kI ty (fun p ah=>cR p (by simp[ah])) aU;rw[<- fE] at v1;have VM : ∀x∈bs,x.length=an.sz:=fun x aa=>by rw[hlen x aa,fE]
         have iM:an.es.take len++bs=(an.es.take len++bs++an.es.drop (len+bs.length)).take (len+bs.length) :=
          (List.take_left' (by rw[dF,List.length_take];omega)).symm
         rcases aa.x8 (jo ak) with ⟨ah,-,rfl,rfl⟩|⟨b,M,ho,lz,ah,rfl,tA,vD,ek,nw⟩
         ·have fZ:=h.obj r k an ak
          rw[ah] at fZ;simp only[j8] at fZ;rw[fZ] at ig;have h0:bs.length=0:=(by simp at ig;exact List.length_eq_zero_iff.2 ig);have y6:bs=[]:=List.length_eq_zero_iff.1 h0;subst y6
          have mr:row.set k {an with es:=an.es.take 0++[]}=row:=by
           have h1:({an with es:=an.es.take 0++[]}:a9)=an:=(by cases an;simp only[] at fZ;subst fZ;rfl);rw[h1]
           have h2:row[k]? = some an:=by
            unfold dZ at bp;simp only at bp;split at bp
            ·rename_i ch eK
             split at bp
             ·simp at bp
             ·simp at bp;rw[<- bp];exact eK
            ·simp at bp
           exact List.ext_getElem? fun j=>by
            rw[List.getElem?_set];split
            ·rename_i e;subst e;have:=(List.getElem?_eq_some_iff.1 h2).1;rw[dw this,h2]
            ·rfl
          refine⟨_,w,hA.zero h0 none 0 0 (dD _),?_⟩
          have eM:s.setRow r row=s:=by
           have:(fun q=>if q=r then some row else s.a0 q)=s.a0:=by
            funext q;split
            ·rename_i e;rw[e,d6]
            ·rfl
           show ({s with a0:=_}:S)=s;rw[this]
          show c7 g (s.setRow r (row.set k {an with es:=an.es.take 0++[]})) aF a w/\Rel w ((s.setRow r (row.set k {an with es:=an.es.take 0++[]})).ok g aF w) (s.setRow r (row.set k {an with es:=an.es.take 0++[]})).bf ((s.setRow r (row.set k {an with es:=an.es.take 0++[]})).bk aF) (.bc r k 0 0) (.slice none 0 0);rw[mr,eM];exact⟨h,aa⟩
         ·obtain⟨cI,nH,bl,cm,j5,rZ,pX,vS⟩:=h.putAt d6 ak pd ah VM v1 v3 v4 ig (len+bs.length) iM
          have hle:an.es.length<=lz:=(by rw[dG] at ek;rw[<- ek] at j5;exact Nat.le_of_mul_le_mul_right j5 (by omega));by_cases nI:lz=0
          ·have h0:bs.length=0:=(by omega);have oK:len=0:=(by omega);subst oK;have y6:bs=[]:=List.length_eq_zero_iff.1 h0;subst y6;have Nt:vs=[]:=List.length_eq_zero_iff.1 (by simpa using v1);subst Nt;have hw:w.setRow b (cI.toList.take (0*an.sz)++[]++cI.toList.drop (0*an.sz+0)).toArray=w:=(by simp only[Nat.zero_mul,List.take_zero,List.nil_append,dG,List.drop_zero,Array.toArray_toList];exact setRow_self w b cI nH (0,0) bl);simp only[List.length_nil] at pX vS;rw[hw] at pX vS;exact⟨_,w,hA.zero h0 ho 0 lz (Nat.zero_le _),pX,vS _ _ aa⟩
          ·have F0:ho=some ⟨b,0,none⟩:=by
            rcases nw with c1|c1
            ·exact absurd c1 nI
            ·simpa using c1
           subst F0;by_cases h0:bs.length=0
           ·have y6:bs=[]:=List.length_eq_zero_iff.1 h0;subst y6;have Nt:vs=[]:=List.length_eq_zero_iff.1 (by simpa using v1);subst Nt;have hw:w.setRow b (cI.toList.take (len*an.sz)++[]++cI.toList.drop (len*an.sz+0)).toArray=w:=(by simp only[List.append_nil,Nat.add_zero,List.take_append_drop,Array.toArray_toList];exact setRow_self w b cI nH (0,0) bl);simp only[List.length_nil] at pX vS;rw[hw] at pX vS;exact⟨_,w,hA.zero h0 _ len lz tA,pX,vS _ _ aa⟩
           ·have jX:=hA.room (by omega) b len lz cI nH bl (by omega) (by rw[<- fE];exact rZ) FZ;rw[<- fE] at jX;refine⟨_,_,jX,pX,?_⟩;have Fw:(s.setRow r (row.set k {an with es:=an.es.take len++bs})).an r k=some {an with es:=an.es.take len++bs}:=(by rw[mL,dw rfl,T0 row k an _ bp (by simp[pd]),dw rfl]);show Rel _ ((s.setRow r (row.set k {an with es:=an.es.take len++bs})).ok g aF _) (s.setRow r (row.set k {an with es:=an.es.take len++bs})).bf ((s.setRow r (row.set k {an with es:=an.es.take len++bs})).bk aF) (.bc r k 0 (len+bs.length)) _;refine .bc (sz:=an.sz) (eV:=b) (m:=M) (HU Fw) ((jo Fw).trans (by rw[ah])) (by omega) vD ⟨ek,.inr (by simp)⟩
        ·simp at aB
     ·simp at aB
  ·simp at aB
end
section
variable {P:Program} {g:G} {s:S} {aF:gh} {a:Act} {w:World} {a1:Nat} {bD:iR}
theorem Sz {s:S}{r k:Nat}{row:List a9}{an:a9}(ai:s.a0 r=some row)(ak:dZ (some row) k=some an):s.setRow r (row.set k an)=s:=by
 have h2:row[k]? = some an:=by
  unfold dZ at ak;simp only at ak;split at ak
  ·rename_i ch eK
   split at ak
   ·simp at ak
   ·simp at ak;rw[<- ak];exact eK
  ·simp at ak
 have J:row.set k an=row:=List.ext_getElem? fun j=>by
  rw[List.getElem?_set];split
  ·rename_i e;subst e;have:=(List.getElem?_eq_some_iff.1 h2).1;rw[dw this,h2]
  ·rfl
 rw[J]
 have:(fun q=>if q=r then some row else s.a0 q)=s.a0:=by
  funext q;split
  ·rename_i e;rw[e,ai]
  ·rfl
 show ({s with a0:=_}:S)=s;rw[this]
theorem adk {e:TypeId}{i:TypeInfo}{z:List aG}{fb:Value}(mV:fb.cells.size=i.size)(oJ:z.length=i.size)(kI:i.size≠0)
 (wQ : ∀(j:Nat) x,z[j]? = some x-> ∃v,fb.cells[j]? = some v/\lg v=true/\ ∀(w:World) (ok:Nat->Prop) (bf:kd) (bk:j2),Rel w ok bf bk x v) (m:Nat) :
 (Builtin.zeroCells fb.cells m).toList.length=m*i.size/\(∀u∈(Builtin.zeroCells fb.cells m).toList,u.oneCell'=true) /\
   ∀(j:Nat) x u,(List.replicate m z).flatten[j]? = some x->(Builtin.zeroCells fb.cells m).toList[j]? = some u-> ∀(w:World) (ok:Nat->Prop) (bf:kd) (bk:j2),Rel w ok bf bk x u:=by
 have m8 : ∀(j:Nat) u,(Builtin.zeroCells fb.cells m).toList[j]? = some u->fb.cells[j % i.size]? = some u:=by intro j u pc;have aq:=(List.getElem?_eq_some_iff.1 pc).1;rw[Array.length_toList,size_zeroCells,mV] at aq;have ep:j % i.size<fb.cells.size:=(by rw[mV];exact Nat.mod_lt _ (by omega));rw[Array.getElem?_toList,Builtin.zeroCells,Array.getElem?_map,mV,Array.getElem?_range] at pc;rw[dw aq] at pc;simp only[Option.map_some,dB] at pc;rw[<- pc,Array.getElem?_eq_getElem ep,getElem!_pos fb.cells _ ep]
 refine⟨?_,?_,?_⟩
 ·rw[Array.length_toList,size_zeroCells,mV]
 ·intro u tC;obtain⟨j,aq⟩:=List.getElem?_of_mem tC;have h1:=m8 j u aq;have ep:j % i.size<z.length:=(by rw[oJ];exact Nat.mod_lt _ (by omega));obtain⟨v,v1,v2,-⟩:=wQ _ _ (dz ep);rw[h1] at v1;obtain rfl:=dI v1;exact v2
 ·intro j x u aa pc
  rw[qG (sz:=i.size) (by omega) _ (fun e3 m7=>by rw[List.mem_replicate] at m7;rw[m7.2,oJ])] at aa;have h1:=m8 j u pc
  cases aZ:(List.replicate m z)[j / i.size]? with
  | none=>rw[aZ] at aa;simp at aa
  | some e3 =>
   have:=dH aZ;rw[List.mem_replicate] at this;rw[aZ,this.2] at aa;simp only[dx] at aa;obtain⟨v,v1,-,v3⟩:=wQ _ _ aa;rw[h1] at v1;obtain rfl:=dI v1;exact v3
theorem aeV (h:c7 g s aF a w){r k len:Nat}{y:aG}{tR oP:Value}{t cD fo:TypeId}{c4:gp}(aB:pb P s.E s.a0 a1 .copy [.bc r k 0 len,y] [t,cD] c4=some bD)(cR:∀p∈bD.f7,p)
 (aa:Rel w (s.ok g aF w) s.bf (s.bk aF) (.bc r k 0 len) tR) (aU:Rel w (s.ok g aF w) s.bf (s.bk aF) y oP) :
 ∃n bT,(Builtin.copy_ #[t,cD] fo #[tR,oP]).run P w = .ok (goInt n) bT/\c7 g (s.jg bD.gI) aF a bT/\bD.val = .n .i64 n:=by
 simp only[pb] at aB;split at aB
 ·simp at aB
 ·rename_i e he
  have hu:=uf he;split at aB
  ·simp at aB
  ·rename_i i ab
   split at aB
   ·simp at aB
   ·rename_i bs bQ ty
    split at aB
    ·simp at aB
    ·rename_i row d6
     split at aB
     ·simp at aB
     ·rename_i an bp
      split at aB
      ·rename_i y5
       obtain⟨pd,fE,kI⟩:=y5;simp only[dB] at aB;subst aB;have ak:s.an r k=some an:=(by unfold S.an;rw[d6];exact bp);have ig:bs.length<=len:=cR _ (by simp);have hle:len<=an.es.length:=cR _ (by simp);obtain⟨A,c,rfl,hlen,Nr⟩:=T3 h ty (fun p ah=>cR p (by simp[ah])) aU;show ∃n bT,_/\c7 g (s.setRow r (row.set k {an with es:=bs++an.es.drop bs.length})) aF a bT/\_;by_cases h0:bs.length=0
       ·have y6:bs=[]:=List.length_eq_zero_iff.1 h0
        subst y6;refine⟨0,w,?_,?_,rfl⟩
        ·rcases aa.x8 (jo ak) with ⟨-,-,rfl,rfl⟩|⟨b,M,ho,lz,-,rfl,-,-,-,-⟩
         ·cases A<;>simp[Builtin.copy_,run_underlying hu,sizeOf,typeInfo,ab,Builtin.lenOf,Builtin.firstCells,loadCells,loadCellsFrom]
         ·cases A<;>cases ho<;>simp[Builtin.copy_,run_underlying hu,sizeOf,typeInfo,ab,Builtin.lenOf,Builtin.firstCells,loadCells,loadCellsFrom,storeCells]
        ·rw[show ({an with es:=[]++an.es.drop ([]:List (List aG)).length}:a9)=an from rfl,Sz d6 bp];exact h
       ·obtain⟨eV,off,rfl,jD⟩:=Nr.resolve_left h0
        obtain⟨vs,v1,v2,v3,v4⟩:=jD.o8;rw[<- fE] at v1;rcases aa.x8 (jo ak) with ⟨-,-,rfl,-⟩|⟨b,M,ho,lz,ah,rfl,tA,vD,ek,nw⟩
        ·exact absurd (Nat.le_zero.1 ig) h0
        ·have F0:ho=some ⟨b,0,none⟩:=by
          rcases nw with c1|c1
          ·exact absurd (show bs.length=0 by omega) h0
          ·simpa using c1
         subst F0
         obtain⟨cI,nH,bl,cm,j5,rZ,pX,-⟩:=h.putAt (p:=0) d6 ak pd ah (fun x aa=>by rw[hlen x aa,fE]) v1 v3 v4 (by omega) an.es.length (hr:=bs++an.es.drop bs.length)
          (by rw[List.take_zero,List.nil_append,dG];exact(List.take_of_length_le (by simp;omega)).symm)
         simp only[Nat.zero_mul,dG,List.take_zero,List.nil_append] at rZ pX;have aV:=run_firstCells_some (P:=P) w i.size bs.length ⟨eV,off,none⟩ bs.length c vs (by rw[v1,fE]) v2;have nu:=run_storeCells_at P b 0 nH vs 0 cI w bl (by simpa using rZ) v3;simp only[Nat.add_zero,List.take_zero,List.nil_append,dG] at nu;refine⟨bs.length,_,?_,pX,rfl⟩;simp[Builtin.copy_,run_underlying hu,sizeOf,typeInfo,ab,Builtin.lenOf,Nat.min_eq_left ig,aV,nu]
      ·simp at aB
theorem adX (h:c7 g s aF a w){r k len:Nat}{tR:Value}{t fo:TypeId}{c4:gp}(aB:pb P s.E s.a0 a1 .clear [.bc r k 0 len] [t] c4=some bD)(cR:∀p∈bD.f7,p)
 (aa:Rel w (s.ok g aF w) s.bf (s.bk aF) (.bc r k 0 len) tR) :
 ∃bT,(Builtin.clear_ #[t] fo #[tR]).run P w = .ok (.tuple #[]) bT/\c7 g (s.jg bD.gI) aF a bT/\bD.val = .de []:=by
 simp only[pb] at aB;split at aB
 ·simp at aB
 ·rename_i e he
  have hu:=uf he;split at aB
  ·rename_i i z ab cC
   split at aB
   ·simp at aB
   ·rename_i row d6
    split at aB
    ·simp at aB
    ·rename_i an bp
     split at aB
     ·rename_i y5
      obtain⟨pd,fE,oJ,kI⟩:=y5;simp only[dB] at aB;subst aB;have ak:s.an r k=some an:=(by unfold S.an;rw[d6];exact bp);have hle:an.es.length=len:=cR _ (by simp);show ∃bT,_/\c7 g (s.setRow r (row.set k {an with es:=List.replicate len z})) aF a bT/\_;by_cases h0:len=0
      ·subst h0
       refine⟨w,?_,?_,rfl⟩
       ·rcases aa.x8 (jo ak) with ⟨-,-,-,rfl⟩|⟨b,M,ho,lz,-,rfl,-,-,-,-⟩
        ·simp[Builtin.clear_,run_underlying hu]
        ·cases ho<;>simp[Builtin.clear_,run_underlying hu]
       ·rw[show ({an with es:=List.replicate 0 z}:a9)=an by rw[List.replicate_zero,<- List.length_eq_zero_iff.1 hle],Sz d6 bp];exact h
      ·obtain⟨ff,fb,lK,lJ,rY,wQ⟩:=Eu cC
       rw[ab] at lK;simp at lK;subst lK;have mV:fb.cells.size=i.size:=(by rw[<- oJ,rY];simp);rcases aa.x8 (jo ak) with ⟨-,-,rfl,-⟩|⟨b,M,ho,lz,ah,rfl,tA,vD,ek,nw⟩
       ·exact absurd rfl h0
       ·have F0:ho=some ⟨b,0,none⟩:=by
         rcases nw with c1|c1
         ·exact absurd (show len=0 by omega) h0
         ·simpa using c1
        subst F0;obtain⟨v1,v3,v4⟩:=adk (e:=e) mV oJ kI wQ len;rw[<- fE] at v1
        obtain⟨cI,nH,bl,cm,j5,rZ,pX,-⟩:=h.putAt (p:=0) (bs:=List.replicate len z) d6 ak pd ah (fun x aa=>by rw[List.mem_replicate] at aa;rw[aa.2,oJ,fE]) (by simpa using v1) v3 (fun j x u h1 h2=>v4 j x u h1 h2 _ _ _ _)
         (by simp;omega) len (hr:=List.replicate len z)
         (by simp[hle])
        simp only[Nat.zero_mul,dG,List.take_zero,List.nil_append] at rZ pX;have nu:=run_storeCells_at P b 0 nH (Builtin.zeroCells fb.cells len).toList 0 cI w bl (by simpa using rZ) v3;simp only[Nat.add_zero,List.take_zero,List.nil_append,dG] at nu;refine⟨_,?_,pX,rfl⟩
        cases len with
        | zero=>exact absurd rfl h0
        | succ n=>simp[Builtin.clear_,run_underlying hu,zeroValue,typeInfo,ab,lJ,nu]
     ·simp at aB
  ·simp at aB
end
section
variable {g:G} {s:S} {aF:gh} {a:Act} {w:World}
def m2 (row:List a9):List a9:=row.map fun o=>if o.cN = .live then {o with cN:= .jS} else o
theorem T4 (row:List a9)(k:Nat):dZ (some (m2 row)) k=(dZ (some row) k).map fun o=>if o.cN = .live then {o with cN:= .jS} else o:=by
 simp only[dZ,m2,dJ]
 cases row[k]? with
 | none=>rfl
 | some o =>
  obtain⟨sz,es,cN⟩:=o;cases cN<;>simp
theorem c7.freeze (h:c7 g s aF a w){r:Nat}{row:List a9}(ai:s.a0 r=some row):c7 g (s.setRow r (m2 row)) aF a w:=by
 have bp : ∀q k o,(s.setRow r (m2 row)).an q k=some o-> ∃p,s.an q k=some p/\o.sz=p.sz/\o.es=p.es/\(o.cN = .live->p.cN = .live/\q≠r):=by
  intro q k o ak;by_cases e:q=r
  ·subst e;have:(s.setRow q (m2 row)).a0 q=some (m2 row):=(by simp[S.setRow]);unfold S.an at ak;rw[this,T4] at ak;rw[Option.map_eq_some_iff] at ak;obtain⟨p,ah,rfl⟩:=ak;refine⟨p,by unfold S.an;rw[ai];exact ah,?_⟩;split<;>simp_all
  ·have:(s.setRow r (m2 row)).a0 q=s.a0 q:=(by simp[S.setRow,e]);unfold S.an at ak;rw[this] at ak;exact⟨o,ak,rfl,rfl,fun aV=>⟨aV,e⟩⟩
 have km : ∀q k,s.bf q k->(s.setRow r (m2 row)).bf q k:=Hq s ai (by simp[m2])
 have mu : ∀q k,(s.setRow r (m2 row)).bk aF q k=s.bk aF q k:=by
  intro q k;by_cases e:q=r
  ·subst e
   simp only[S.bk,S.an];have:(s.setRow q (m2 row)).a0 q=some (m2 row):=(by simp[S.setRow]);rw[this,T4,ai]
   cases dZ (some row) k with
   | none=>rfl
   | some o=>simp only[Option.map_some,dB,dE,and_true];split<;>rfl
  ·have:(s.setRow r (m2 row)).a0 q=s.a0 q:=(by simp[S.setRow,e]);simp[S.bk,S.an,this]
 have c2:Step g s aF w (s.setRow r (m2 row)) aF w:=⟨km,fun q k _=> .inl (mu q k),fun b aV=>by obtain⟨q,k,o,m,h1,h2,J⟩:=aV;obtain⟨p,p1,p2,uM,GJ⟩:=bp q k o h1;exact .inl ⟨q,k,p,m,p1,(GJ h2).1,J⟩,fun _ _ _=>rfl,dD _⟩;refine {tojr:=⟨?_,?_,?_,h.hX,h.mlt,h.oG,?_,h.low⟩,env:=fun t=>c2.rel (h.env t),defers:=h.defers,kJ:=h.kJ}
 ·intro q k o ak
  obtain⟨p,p1,p2,uM,-⟩:=bp q k o ak;have ah:=c2.obj (fun b m _=>rfl) (h.obj q k p p1)
  cases mY:aF q k with
  | none=>rw[mY] at ah;simp only[j8] at ah ⊢;rw[uM];exact ah
  | some x =>
   obtain⟨b,m⟩:=x;rw[mY] at ah;obtain⟨c,fo,e1,e2,bN,c0⟩:=ah;exact⟨c,fo,e1,e2,by rw[p2,uM];exact bN,by rw[uM];exact c0⟩
 ·intro q k o iS eu ch b m aH h1 h2 J aj;obtain⟨p,p1,-⟩:=bp q k o h1;obtain⟨lq,ais,-⟩:=bp iS eu ch h2;exact h.inj q k p iS eu lq b m aH p1 ais J aj
 ·intro q k o b m h1 h2;obtain⟨p,p1,-⟩:=bp q k o h1;exact h.own q k p b m p1 h2
 ·intro j k aq;obtain⟨e1,e2⟩:=h.stay j k aq;exact⟨km j k e1,by rw[mu];exact e2⟩
end
def Ca (P:Program)(t:TypeId):Bool :=
 match P.underlying t with
 | some (.pointer _)=>true
 | _=>false
def CI (P:Program)(E:Nat->aG)(a0:Nat->Option (List a9))(a1:Nat)(o:Oper)(c4:gp):Option iR :=
 match o.op with
 | .call {callee:= .builtin b,args,argTypes}=>match b with
  | .len=>fC P E a0 a1 o c4
  | b=>pb P E a0 a1 b (args.toList.map (fy E)) argTypes.toList c4
 | .binOp op t x y _=>match c4,op,fy E x,fy E y with
  | .d4,.eql,.isl _ es,.fv=>if (rA P t).isSome then some {val:= .b false,f7:=[es≠[]]} else none
  | .d4,.neq,.isl _ es,.fv=>if (rA P t).isSome then some {val:= .b true,f7:=[es≠[]]} else none
  | .d4,.eql,.f6 _ none,.jA=>if Ca P t then some {val:= .b true} else none
  | .d4,.neq,.f6 _ none,.jA=>if Ca P t then some {val:= .b false} else none
  | .d4,.eql,.f6 _ (some _),.jA=>if Ca P t then some {val:= .b false} else none
  | .d4,.neq,.f6 _ (some _),.jA=>if Ca P t then some {val:= .b true} else none
  | .d4,_,_,_=>none
  | _,_,_,_=>fC P E a0 a1 o c4
 | .nilCheck x=>match c4,fy E x with
  | .d4,.f6 sz (some c)=>some {val:= .fg sz [c] 0 0}
  | .d4,_=>none
  | _,_=>fC P E a0 a1 o c4
 | _=>fC P E a0 a1 o c4
section
variable {P:Program} {g:G} {s:S} {aF:gh} {a:Act} {w:World} {o:Oper} {c4:gp} {a1:Nat} {bD:iR}
theorem Ib {args:Array Operand}{E:Nat->aG}{x y:aG}(h:args.toList.map (fy E)=[x,y]): ∃p q,args = #[p,q]/\fy E p=x/\fy E q=y:=by
 obtain⟨l⟩:=args
 match l,h with
 | [p,q],h=>simp at h;exact⟨p,q,rfl,h.1,h.2⟩
theorem afR {args:Array Operand}{E:Nat->aG}{x:aG}(h:args.toList.map (fy E)=[x]): ∃p,args = #[p]/\fy E p=x:=by
 obtain⟨l⟩:=args
 match l,h with
 | [p],h=>simp at h;exact⟨p,rfl,h⟩
theorem HM {t:TypeId}(h:Ca P t=true): ∃e,P.underlying t=some (.pointer e):=by
 unfold Ca at h;split at h
 ·rename_i e he;exact⟨e,he⟩
 ·simp at h
theorem adY (h:c7 g s aF a w)(fF:s.a0 a1=none)(aB:CI P s.E s.a0 a1 o c4=some bD)(cR:∀p∈bD.f7,p):Fin P g s a w o bD:=by
 unfold CI at aB;split at aB
 ·rename_i b args n3 ak
  split at aB
  ·exact HL h fF aB cR
  ·rename_i b aW
   unfold pb at aB;split at aB
   ·rename_i x y t cD m Ok hargs pE;have yF:pb P s.E s.a0 a1 .append [x,y] [t,cD] (.ay m Ok)=some bD:=aB;obtain⟨p,q,rfl,rfl,rfl⟩:=Ib hargs;obtain⟨l⟩:=n3;simp only at pE;subst pE;obtain⟨v,bT,bX,h1,h2,J⟩:=adj (fo:=o.type) h fF yF cR (h.eval p) (h.eval q);exact⟨v,bT,bX,.inl (by simp[execOp,ak,resolve,invoke,builtin,h1]),h2,J⟩
   ·rename_i x y t cD hargs pE;have yF:pb P s.E s.a0 a1 .append [x,y] [t,cD] .d4=some bD:=aB;obtain⟨p,q,rfl,rfl,rfl⟩:=Ib hargs;obtain⟨l⟩:=n3;simp only at pE;subst pE;obtain⟨v,bT,h1,h2,J⟩:=afQ (fo:=o.type) h yF cR (h.eval p) (h.eval q);exact⟨v,bT,aF,.inl (by simp[execOp,ak,resolve,invoke,builtin,h1]),h2,J⟩
   ·rename_i c4 r k len y t cD hargs pE;have yF:pb P s.E s.a0 a1 .copy [.bc r k 0 len,y] [t,cD] c4=some bD:=aB;obtain⟨p,q,rfl,ah,rfl⟩:=Ib hargs;obtain⟨l⟩:=n3;simp only at pE;subst pE;have aa:=h.eval p;rw[ah] at aa;obtain⟨n,bT,h1,h2,J⟩:=aeV (fo:=o.type) h yF cR aa (h.eval q);refine⟨goInt n,bT,aF,.inl (by simp[execOp,ak,resolve,invoke,builtin,h1]),h2,?_⟩;rw[J];exact .n _ _
   ·rename_i c4 r k len t hargs pE;have yF:pb P s.E s.a0 a1 .clear [.bc r k 0 len] [t] c4=some bD:=aB;obtain⟨p,rfl,ah⟩:=afR hargs;obtain⟨l⟩:=n3;simp only at pE;subst pE;have aa:=h.eval p;rw[ah] at aa;obtain⟨bT,h1,h2,J⟩:=adX (fo:=o.type) h yF cR aa;refine⟨.tuple #[],bT,aF,.inl (by simp[execOp,ak,resolve,invoke,builtin,h1]),h2,?_⟩;rw[J];exact .de [] rfl (fun j x u aq=>by simp at aq)
   ·rename_i k x eu y hargs
    split at aB
    ·rename_i aX;simp only[dB] at aB;subst aB;subst aX;obtain⟨p,q,rfl,ah,aZ⟩:=Ib hargs;have aa:=h.eval p;have aU:=h.eval q;rw[ah] at aa;rw[aZ] at aU;refine je (v:= .int k (if y<x then y else x)) h ?_ rfl (.n _ _);simp[execOp,ak,resolve,invoke,builtin,Builtin.min_,aa.pA,aU.pA,Builtin.min2]
    ·simp at aB
   ·simp at aB
 ·rename_i op t x y cD ak
  split at aB
  ·rename_i sz es aa aU
   split at aB
   ·rename_i he;obtain⟨e,he⟩:=Option.isSome_iff_exists.1 he;simp only[dB] at aB;subst aB;have h1:=h.eval x;have h2:=h.eval y;rw[aa] at h1;rw[aU] at h2;have c8:es≠[]:=cR _ (by simp);refine je (v:= .bool false) h ?_ rfl (.b _);simp only[execOp,ak];rw[Sem.run_bind,(Vd (w:=w) (uf he) c8 h1 h2 x y).1];rfl
   ·simp at aB
  ·rename_i sz es aa aU
   split at aB
   ·rename_i he;obtain⟨e,he⟩:=Option.isSome_iff_exists.1 he;simp only[dB] at aB;subst aB;have h1:=h.eval x;have h2:=h.eval y;rw[aa] at h1;rw[aU] at h2;have c8:es≠[]:=cR _ (by simp);refine je (v:= .bool true) h ?_ rfl (.b _);simp only[execOp,ak];rw[Sem.run_bind,(Vd (w:=w) (uf he) c8 h1 h2 x y).2];rfl
   ·simp at aB
  ·rename_i sz aa aU
   split at aB
   ·rename_i cg;obtain⟨e,he⟩:=HM cg;simp only[dB] at aB;subst aB;have h1:=h.eval x;have h2:=h.eval y;rw[aa] at h1;rw[aU] at h2;have sM:Rel w (s.ok g aF w) s.bf (s.bk aF) .jA (a.eval x):=(by rw[h1.T1];exact .jA);refine je (v:= .bool true) h ?_ rfl (.b _);simp only[execOp,ak];rw[Sem.run_bind,(BR (w:=w) (r:=true) (by simp[uy,he]) sM h2 x y).1];rfl
   ·simp at aB
  ·rename_i sz aa aU
   split at aB
   ·rename_i cg;obtain⟨e,he⟩:=HM cg;simp only[dB] at aB;subst aB;have h1:=h.eval x;have h2:=h.eval y;rw[aa] at h1;rw[aU] at h2;have sM:Rel w (s.ok g aF w) s.bf (s.bk aF) .jA (a.eval x):=(by rw[h1.T1];exact .jA);refine je (v:= .bool false) h ?_ rfl (.b _);simp only[execOp,ak];rw[Sem.run_bind,(BR (w:=w) (r:=true) (by simp[uy,he]) sM h2 x y).2];rfl
   ·simp at aB
  ·rename_i sz c aa aU
   split at aB
   ·rename_i cg;obtain⟨e,he⟩:=HM cg;simp only[dB] at aB;subst aB;have h1:=h.eval x;have h2:=h.eval y;rw[aa] at h1;rw[aU] at h2;refine je (v:= .bool false) h ?_ rfl (.b _);simp only[execOp,ak];rw[Sem.run_bind,(BR (w:=w) (r:=false) (by simp[uy,he]) h1.LP h2 x y).1];rfl
   ·simp at aB
  ·rename_i sz c aa aU
   split at aB
   ·rename_i cg;obtain⟨e,he⟩:=HM cg;simp only[dB] at aB;subst aB;have h1:=h.eval x;have h2:=h.eval y;rw[aa] at h1;rw[aU] at h2;refine je (v:= .bool true) h ?_ rfl (.b _);simp only[execOp,ak];rw[Sem.run_bind,(BR (w:=w) (r:=false) (by simp[uy,he]) h1.LP h2 x y).2];rfl
   ·simp at aB
  ·simp at aB
  ·exact HL h fF aB cR
 ·rename_i x ak
  split at aB
  ·rename_i sz c aa;simp only[dB] at aB;subst aB;have h1:=h.eval x;rw[aa] at h1;have h2:=h1.LP;obtain⟨eV,off,aW,hval,jD⟩:=h2.B0;refine je (v:=a.eval x) h ?_ rfl h2;rw[hval];simp only[execOp,ak,hval];rfl
  ·simp at aB
  ·exact HL h fF aB cR
 ·exact HL h fF aB cR
end
theorem uW {es:List (List aG)}{j:Nat}{x:aG}(h:es.flatten[j]? = some x): ∃e∈es,x∈e:=by have:=dH h;rw[List.mem_flatten] at this;obtain⟨e,he,aa⟩:=this;exact⟨e,he,aa⟩
theorem Rel.pure {w:World}{ok lZ:Nat->Prop}{bf n0:kd}{bk ns:j2}{x:aG}{v:Value}(h:Rel w ok bf bk x v)(ah:Pure x)(lk:∀b,ok b->lZ b):Rel w lZ n0 ns x v:=by
 induction h with
 | dead v=>exact .dead v
 | b x=>exact .b x
 | n k x=>exact .n k x
 | s x=>exact .s x
 | jA=>exact .jA
 | fv=>exact .fv
 | jQ a c=>exact .jQ a c
 | rq=>cases ah
 | ref=>cases ah
 | ov=>cases ah
 | oV=>cases ah
 | bc=>cases ah
 | nU=>cases ah
 | o7=>cases ah
 | li sz a c h=>exact .li sz a c h
 | isl cs aW mb aV aY hw i7 ai ih =>
  cases ah with
  | isl h=>exact .isl cs (lk _ aW) mb aV aY hw i7 fun j x aa=>ih j x aa (by obtain⟨e,he,sN⟩:=uW aa;exact h e he x sN)
 | fg cs aW mb aV hw i7 ai ih =>
  cases ah with
  | fg h=>exact .fg cs (lk _ aW) mb aV hw i7 fun j x aa=>ih j x aa (by obtain⟨e,he,sN⟩:=uW aa;exact h e he x sN)
 | qW sz=>exact .qW sz
 | qi h ih =>
  cases ah with
  | qi ah=>exact .qi (ih (.fg fun e he x aa=>by rw[List.mem_singleton] at he;subst he;exact ah x aa))
 | agg vs aV i7 ai ih =>
  cases ah with
  | agg h=>exact .agg vs aV i7 fun j x v aa bh=>ih j x v aa bh (h x (dH aa))
 | de vs aV ai ih =>
  cases ah with
  | de h=>exact .de vs aV fun j x v aa bh=>ih j x v aa bh (h x (dH aa))
 | fn vs aV ai ih =>
  cases ah with
  | fn h=>exact .fn vs aV fun j x v aa bh=>ih j x v aa bh (h x (dH aa))
abbrev hS:=Nat->Nat->Option (Nat×Nat)
structure Down (q:aG->Prop):Prop where
 agg : ∀c x,q (.agg c)->x∈c->q x
 de : ∀c x,q (.de c)->x∈c->q x
 fn : ∀f c x,q (.fn f c)->x∈c->q x
inductive iU (s:S) (a5:hS) (bM:hc->Bool) (q:aG->Prop):aG->aG->Prop
 | dead (x:aG):iU s a5 bM q x .dead
 | pure {x:aG} (h:Pure x) (aZ:q x):iU s a5 bM q x x
 | fv (sz:Nat):iU s a5 bM q .fv (.isl sz [])
 | jQ (sz:Nat):iU s a5 bM q .jQ (.isl sz [])
 | II (sz:Nat):iU s a5 bM q .jA (.f6 sz none)
 | f6 {sz:Nat} {x:aG} {c:List aG} (h:iU s a5 bM q x (.fg sz [c] 0 0)):iU s a5 bM q x (.f6 sz (some c))
 | ref {r k j ff:Nat} (i off:Nat) (h:a5 j ff=some (r,k)) (hu:s.bf r k):iU s a5 bM q (.ref r k i off) (.ref j ff i off)
 | bc {r k j ff:Nat} (b6 len:Nat) (h:a5 j ff=some (r,k)) (hu:s.bf r k):iU s a5 bM q (.bc r k b6 len) (.bc j ff b6 len)
 | nU (r c sz:Nat):iU s a5 bM q (.jR r c sz none) (.isl sz [])
 | o7 {r c sz k n:Nat} {c6:aG} (h:iU s a5 bM q (.bc r (k+c) 0 n) c6):iU s a5 bM q (.jR r c sz (some (k,n))) c6
 | jR {r fp c eF sz:Nat} (h:Option (Nat×Nat)) (hm : ∀k,a5 fp (k+eF)=some (r,k+c)):iU s a5 bM q (.jR r c sz h) (.jR fp eF sz h)
 | fg {r k:Nat} {o:a9} {hr:List (List aG)} (i off:Nat) (ak:s.an r k=some o) (bG:bM o.cN=true) (ai:(∀j i,a5 j i≠some (r,k))) (c8:o.es≠[]) (ah:jx hr) (hle : ∀e∈hr,e.length=o.sz) (aV:hr.length=o.es.length)
  (h : ∀(j:Nat) x c6,o.es.flatten[j]? = some x->hr.flatten[j]? = some c6->iU s a5 bM q x c6):iU s a5 bM q (.ref r k i off) (.fg o.sz hr i off)
 | isl {r k b6 len:Nat} {o:a9} {hr:List (List aG)} (ak:s.an r k=some o) (bG:bM o.cN=true) (ai:(∀j i,a5 j i≠some (r,k))) (ig:b6+len<=o.es.length) (ah:jx hr) (hle : ∀e∈hr,e.length=o.sz) (aV:hr.length=len)
  (h : ∀(j:Nat) x c6,((o.es.drop b6).take len).flatten[j]? = some x->hr.flatten[j]? = some c6->iU s a5 bM q x c6):iU s a5 bM q (.bc r k b6 len) (.isl o.sz hr)
 | agg {c eF:List aG} (aV:eF.length=c.length) (h : ∀(j:Nat) x c6,c[j]? = some x->eF[j]? = some c6->iU s a5 bM q x c6):iU s a5 bM q (.agg c) (.agg eF)
 | de {c eF:List aG} (aV:eF.length=c.length) (h : ∀(j:Nat) x c6,c[j]? = some x->eF[j]? = some c6->iU s a5 bM q x c6):iU s a5 bM q (.de c) (.de eF)
 | fn {f:Nat} {c eF:List aG} (aV:eF.length=c.length) (h : ∀(j:Nat) x c6,c[j]? = some x->eF[j]? = some c6->iU s a5 bM q x c6):iU s a5 bM q (.fn f c) (.fn f eF)
theorem tY {sz:Nat}: ∀(es:List (List aG)),(∀e∈es,e.length=sz)->es.flatten.length=es.length*sz
 | [],_=>by simp
 | e::es,h=>by rw[List.flatten_cons,dF,tY es fun x aa=>h x (by simp[aa]),h e (by simp),List.length_cons,Nat.add_mul];omega
theorem f5 {α:Type}{l:List α}{j:Nat}{x:α}(h:l[j]? = some x):j<l.length:=by
 rcases Nat.lt_or_ge j l.length with c1|c1
 ·exact c1
 ·rw[List.getElem?_eq_none c1] at h;simp at h
theorem iU.rel {g:G}{s:S}{aF:gh}{w:World}{a5:hS}{bM:hc->Bool}{q:aG->Prop}(ek:jr g s aF w){lZ:Nat->Prop}{n0:kd}{ns:j2}
 (H1 : ∀x v,q x->Pure x->Rel w (s.ok g aF w) s.bf (s.bk aF) x v->Rel w lZ n0 ns x v)
 (JN : ∀r k o b m,s.an r k=some o->bM o.cN=true->(∀j i,a5 j i≠some (r,k))->aF r k=some (b,m)->lZ b)
 (GK : ∀j i r k,a5 j i=some (r,k)->s.bf r k->n0 j i/\(ns j i=s.bk aF r k\/ns j i=none)) {x c6:aG} (bJ:iU s a5 bM q x c6) :
 ∀ {v:Value},Rel w (s.ok g aF w) s.bf (s.bk aF) x v->Rel w lZ n0 ns c6 v:=by
 induction bJ with
 | dead x=>intro v _;exact .dead v
 | pure ah aZ=>intro v ai;exact H1 _ v aZ ah ai
 | fv sz=>intro v ai;rw[ai.rp];exact .li sz none 0 (fun _=>rfl)
 | jQ sz=>intro v ai;obtain⟨a,c,rfl⟩:=ai.H9;exact .li sz (some a) c (fun h=>by simp at h)
 | II sz=>intro v ai;rw[ai.x7];exact .qW sz
 | f6 h ih=>intro v ai;exact .qi (ih ai)
 | @ref r k j ff i off aq hu =>
  intro v ai;obtain⟨h1,h2⟩:=GK j ff r k aq hu
  cases ai with
  | rq a pM aT =>
   refine .rq a h1 fun sz p=> ?_;rcases h2 with e|e<;>rw[e]
   ·exact aT sz p
   ·simp
  | ref pM cg =>
   rcases h2 with e|e
   ·exact .ref h1 (e.trans cg)
   ·exact .rq _ h1 fun sz p=>by rw[e];simp
 | @bc r k j ff b6 len aq hu =>
  intro v ai;obtain⟨h1,h2⟩:=GK j ff r k aq hu
  cases ai with
  | ov a l c pM aT =>
   refine .ov a l c h1 ?_;rcases h2 with e|e<;>rw[e];exact aT
  | oV pM cg =>
   rcases h2 with e|e
   ·exact .oV h1 (e.trans cg)
   ·exact .ov _ _ _ h1 e
  | bc pM cg aV aY hm =>
   rcases h2 with e|e
   ·exact .bc h1 (e.trans cg) aV aY hm
   ·exact .ov _ _ _ h1 e
 | nU r c sz =>
  intro v ai
  cases ai with
  | nU h0 =>
   rcases h0.vb with ⟨-,a,c,rfl,bG⟩|⟨eV,off,c,-,rfl,-⟩
   ·exact .li sz a c bG
   ·exact .li sz _ c (fun h=>by simp at h)
 | o7 h ih =>
  intro v ai
  cases ai with
  | o7 h0=>exact ih h0
 | @jR r fp c eF sz h hm =>
  intro v ai
  cases ai with
  | nU h0 =>
   rcases h0.vb with ⟨-,a,c,rfl,bG⟩|⟨eV,off,c,-,rfl,-⟩
   ·exact .nU (.li sz a c bG)
   ·exact .nU (.li sz _ c (fun h=>by simp at h))
  | @o7 _ _ _ k n _ h0 =>
   refine .o7 ?_
   cases h0 with
   | ov a l bl pM aT =>
    obtain⟨h1,h2⟩:=GK _ _ _ _ (hm k) pM;refine .ov a l bl h1 ?_;rcases h2 with e|e<;>rw[e];exact aT
   | oV pM cg =>
    obtain⟨h1,h2⟩:=GK _ _ _ _ (hm k) pM;rcases h2 with e|e
    ·exact .oV h1 (e.trans cg)
    ·exact .ov _ _ _ h1 e
   | bc pM cg aV aY nw =>
    obtain⟨h1,h2⟩:=GK _ _ _ _ (hm k) pM;rcases h2 with e|e
    ·exact .bc h1 (e.trans cg) aV aY nw
    ·exact .ov _ _ _ h1 e
 | @fg r k o hr i off ak bG ai c8 Nu hle aV h ih =>
  intro v bh;have fZ:=ek.obj r k o ak;rcases bh.yh (jo ak) with h0|⟨b,m,ah,hval⟩
  ·rw[h0] at fZ;exact absurd fZ c8
  ·rw[ah] at fZ;have jD:=fZ.rd;rw[hval];have kK:hr.flatten.length=o.es.flatten.length:=(by rw[tY hr hle,tY o.es jD.1,aV]);have yV:pW w lZ n0 ns b 0 o.sz hr:=(by refine⟨hle,fun j c6 et=> ?_⟩;have ep:j<o.es.flatten.length:=(by rw[<- kK];exact f5 et);have aa:o.es.flatten[j]? = some o.es.flatten[j]:=dz ep;obtain⟨u,e1,e2,bN⟩:=jD.2 j _ aa;exact⟨u,e1,e2,ih j _ c6 aa et bN⟩);have:=yV.fg (i:=i) (off:=off) ⟨JN r k o b m ak bG ai ah,Nu⟩;rw[dG] at this;exact this
 | @isl r k b6 len o hr ak bG ai ig Nu hle aV h ih =>
  intro v bh;have fZ:=ek.obj r k o ak;rcases bh.EQ (jo ak) with ⟨ah,rfl,rfl,hval⟩|⟨b,m,A,c,ah,hval,tA,vD,hm⟩
  ·have:hr=[]:=List.length_eq_zero_iff.1 aV;subst this;rw[hval];exact .li _ none 0 (fun _=>rfl)
  ·rw[ah] at fZ
   rw[hval];rcases Nat.eq_zero_or_pos len with h0|kI
   ·subst h0;have:hr=[]:=List.length_eq_zero_iff.1 aV;subst this;exact .li _ A c (fun aT=>by rcases hm with h1|⟨h1,-⟩<;>simp_all)
   ·rcases hm with hm|⟨hA,hm⟩
    ·omega
    ·subst hA;have jD:=Hr fZ.rd b6 len (by omega);rw[dG] at jD;have kK:hr.flatten.length=((o.es.drop b6).take len).flatten.length:=(by rw[tY hr hle,tY _ jD.1,aV,List.length_take,List.length_drop,Nat.min_eq_left (by omega)]);have yV:pW w lZ n0 ns b (b6*o.sz) o.sz hr:=(by refine⟨hle,fun j c6 et=> ?_⟩;have ep:j<((o.es.drop b6).take len).flatten.length:=(by rw[<- kK];exact f5 et);have aa:=dz ep;obtain⟨u,e1,e2,bN⟩:=jD.2 j _ aa;exact⟨u,e1,e2,ih j _ c6 aa et bN⟩);have:=yV.isl (c:=c) ⟨JN r k o b m ak bG ai ah,Nu⟩ (by omega);rw[aV] at this;exact this
 | @agg c eF aV h ih =>
  intro v bh;obtain⟨vs,rfl,h1,h2,J⟩:=bh.BX;refine .agg vs (by omega) h2 fun j c6 u et hu=> ?_;have ep:j<c.length:=(by have:=f5 et;omega);exact ih j _ c6 (dz ep) et (J j _ u (dz ep) hu)
 | @de c eF aV h ih =>
  intro v bh;obtain⟨vs,rfl,h1,J⟩:=bh.BZ;refine .de vs (by omega) fun j c6 u et hu=> ?_;have ep:j<c.length:=(by have:=f5 et;omega);exact ih j _ c6 (dz ep) et (J j _ u (dz ep) hu)
 | @fn f c eF aV h ih =>
  intro v bh;obtain⟨vs,rfl,h1,J⟩:=bh.Iw;refine .fn vs (by omega) fun j c6 u et hu=> ?_;have ep:j<c.length:=(by have:=f5 et;omega);exact ih j _ c6 (dz ep) et (J j _ u (dz ep) hu)
structure pN (s:S) (a5:hS) (bM:hc->Bool) (q:aG->Prop) (o ch:a9):Prop where
 sz:ch.sz=o.sz
 cN:ch.cN=o.cN\/(ch.cN = .jS/\o.cN = .live)\/ch.cN = .gone
 len:ch.es.length=o.es.length
 each : ∀e∈ch.es,e.length=o.sz
 at_ : ∀(j:Nat) x c6,o.es.flatten[j]? = some x->ch.es.flatten[j]? = some c6->iU s a5 bM q x c6
structure rN (s:S) (a5:hS) (bM:hc->Bool) (q:aG->Prop) (iF:Nat->Option (List a9)):Prop where
 inj : ∀j i ja ff p,a5 j i=some p->a5 ja ff=some p->j=ja/\i=ff
 at_ : ∀j i ch,dZ (iF j) i=some ch-> ∃r k o,a5 j i=some (r,k)/\s.an r k=some o/\pN s a5 bM q o ch
 bf : ∀j i r k,a5 j i=some (r,k)->s.bf r k->i<((iF j).getD []).length
def kL (aF:gh)(a5:hS):gh:=fun j i=>match a5 j i with
 | some (r,k)=>aF r k
 | none=>none
theorem Cb {aF:gh}{a5:hS}{j i r k:Nat}(h:a5 j i=some (r,k)):kL aF a5 j i=aF r k:=by simp[kL,h]
def m9 (_:aG):Prop:=True
theorem ahg:Down m9:=⟨fun _ _ _ _=>trivial,fun _ _ _ _=>trivial,fun _ _ _ _ _=>trivial⟩
section
variable {g:G} {s:S} {aF:gh} {w:World} {a5:hS} {bM:hc->Bool} {q:aG->Prop} {b0:S}
theorem rN.an (h:rN s a5 bM q b0.a0){j i:Nat}{ch:a9}(ak:b0.an j i=some ch): ∃r k o,a5 j i=some (r,k)/\s.an r k=some o/\pN s a5 bM q o ch:=h.at_ j i ch ak
theorem UE {o ch:a9}(h:pN s a5 bM q o ch)(aV:ch.cN = .live):o.cN = .live:=by
 rcases h.cN with e|⟨e,-⟩|e
 ·exact e.symm.trans aV
 ·rw[e] at aV;simp at aV
 ·rw[e] at aV;simp at aV
theorem rN.live (h:rN s a5 bM q b0.a0)(b:Nat)(aV:b0.m1 (kL aF a5) b): ∃r k o m,s.an r k=some o/\o.cN = .live/\aF r k=some (b,m)/\ ∃j i,a5 j i=some (r,k):=by obtain⟨j,i,ch,m,h1,h2,J⟩:=aV;obtain⟨r,k,o,e1,e2,bN⟩:=h.an h1;rw[Cb e1] at J;exact⟨r,k,o,m,e2,UE bN h2,J,j,i,e1⟩
theorem rN.Jl (h:rN s a5 bM q b0.a0){j i r k:Nat}(aq:a5 j i=some (r,k)):b0.bk (kL aF a5) j i=s.bk aF r k\/b0.bk (kL aF a5) j i=none:=by
 cases ak:b0.an j i with
 | none=>right;simp[S.bk,ak]
 | some ch =>
  obtain⟨fp,eu,o,e1,e2,bN⟩:=h.an ak;rw[aq] at e1;simp only[dB,dE] at e1;obtain⟨rfl,rfl⟩:=e1;left;rw[jo ak,jo e2,bN.sz,Cb aq]
theorem jr.Ol (ek:jr g s aF w)(h:rN s a5 bM q b0.a0){gS:G}(aX:Fu gS w)(Fa:∀j k,gS.qo j k->b0.bf j k/\(b0.bk (kL aF a5) j k=gS.tz j k\/b0.bk (kL aF a5) j k=none))(yX:∀j k,gS.qo j k->j<gS.m)
 (ahP : ∀b,gS.q9 b->b<gS.nc.heap.size) (halt : ∀b,gS.A b->b<gS.nc.heap.size)
 (M0 : ∀r k o b m,(∃j i,a5 j i=some (r,k))->s.an r k=some o->aF r k=some (b,m)->gS.nc.heap.size<=b\/gS.q9 b)
 (H1 : ∀b,s.ok g aF w b->b0.ok gS (kL aF a5) w b)
 (JN : ∀r k o b m,s.an r k=some o->bM o.cN=true->(∀j i,a5 j i≠some (r,k))->aF r k=some (b,m)->b0.ok gS (kL aF a5) w b) :
 jr gS b0 (kL aF a5) w/\ ∀ {x c6:aG} {v:Value},iU s a5 bM q x c6->Rel w (s.ok g aF w) s.bf (s.bk aF) x v->Rel w (b0.ok gS (kL aF a5) w) b0.bf (b0.bk (kL aF a5)) c6 v:=by
 have fZ : ∀ {x c6:aG} {v:Value},iU s a5 bM q x c6->Rel w (s.ok g aF w) s.bf (s.bk aF) x v->Rel w (b0.ok gS (kL aF a5) w) b0.bf (b0.bk (kL aF a5)) c6 v :=
  fun bJ ai=>bJ.rel ek (fun x v _ ah ai=>ai.pure ah H1) JN (fun j i r k aq hu=>⟨h.bf j i r k aq hu,h.Jl aq⟩) ai
 refine⟨⟨?_,?_,?_,aX,ahP,halt,Fa,yX⟩,fZ⟩
 ·intro j k ch eK
  obtain⟨r,eu,o,e1,e2,bN⟩:=h.an eK;have bp:=ek.obj r eu o e2;rw[Cb e1]
  cases ah:aF r eu with
  | none =>
   rw[ah] at bp;simp only[j8] at bp ⊢;apply List.length_eq_zero_iff.1;rw[bN.len,bp];rfl
  | some q =>
   obtain⟨b,m⟩:=q;rw[ah] at bp;obtain⟨c,fo,h1,h2,J,aj⟩:=bp;have kK:ch.es.flatten.length=o.es.flatten.length:=(by rw[tY _ bN.each,tY _ J,bN.len]);refine⟨c,fo,h1,h2,by rw[bN.sz];exact bN.each,fun i c6 et=> ?_⟩;have ep:i<o.es.flatten.length:=(by rw[<- kK];exact f5 et);have aa:=dz ep;obtain⟨u,f1,f2,f3⟩:=aj i _ aa;exact⟨u,f1,f2,fZ (bN.at_ i _ c6 aa et) f3⟩
 ·intro j k o ja eu ch b m aH h1 h2 J aj;obtain⟨r,lR,p,e1,e2,-⟩:=h.an h1;obtain⟨fp,ait,lq,n6,q5,-⟩:=h.an h2;rw[Cb e1] at J;rw[Cb n6] at aj;obtain⟨rfl,rfl⟩:=ek.inj r lR p fp ait lq b m aH e2 q5 J aj;exact h.inj _ _ _ _ _ e1 n6
 ·intro j k o b m h1 h2;obtain⟨r,lR,p,e1,e2,-⟩:=h.an h1;rw[Cb e1] at h2;exact M0 r lR p b m ⟨j,k,e1⟩ e2 h2
theorem c7.UF {a:Act}(h:c7 g s aF a w)(dg:rN s a5 (fun _=>true) q b0.a0)(eM:∀t,iU s a5 (fun _=>true) q (s.E t) (b0.E t))(FF:∀j k,g.qo j k->a5 j k=some (j,k)):c7 g b0 (kL aF a5) a w:=by
 have hg : ∀b,b0.m1 (kL aF a5) b->s.m1 aF b:=fun b aV=>by obtain⟨r,k,o,m,h1,h2,J,-⟩:=dg.live b aV;exact⟨r,k,o,m,h1,h2,J⟩
 have Fa : ∀j k,g.qo j k->b0.bf j k/\(b0.bk (kL aF a5) j k=g.tz j k\/b0.bk (kL aF a5) j k=none):=by
  intro j k aq;obtain⟨e1,e2⟩:=h.stay j k aq;refine⟨dg.bf j k j k (FF j k aq) e1,?_⟩;rcases dg.Jl (aF:=aF) (FF j k aq) with e|e
  ·rw[e];exact e2
  ·exact .inr e
 obtain⟨h1,h2⟩:=h.tojr.Ol dg h.hX Fa h.low h.mlt h.oG (fun r k o b m _ ak ah=>h.own r k o b m ak ah)
  (fun b aW=>⟨aW.1,aW.2.1,fun aV=>aW.2.2 (hg b aV)⟩)
  (fun r k o b m ak _ ai ah=>by
    have bp:=h.obj r k o ak;rw[ah] at bp;obtain⟨c,fo,e1,-⟩:=bp;refine⟨(Array.getElem?_eq_some_iff.1 e1).1,?_,fun aV=> ?_⟩
    ·rcases h.own r k o b m ak ah with e|e
     ·exact .inr (.inl e)
     ·exact .inr (.inr e)
    ·obtain⟨fp,eu,ch,aH,f1,f2,f3,⟨Om,GL,f4⟩⟩:=dg.live b aV;obtain⟨rfl,rfl⟩:=h.inj r k o fp eu ch b m aH ak f1 ah f3;exact ai Om GL f4)
 exact {tojr:=h1,env:=fun t=>h2 (eM t) (h.env t),defers:=h.defers,kJ:=h.kJ}
end
def fK (T:List (List a9)):S:={E:=fun _=> .dead,a0:=fun r=>T[r]?}
def ahh (P:Program)(f:FuncId)(args:List aG)(T:List (List a9))(r:aG)(h3:List (List a9)):Prop :=
 ∀(g:G) (aF:gh) (w:World) (vs:Array Value),g.nc=w->g.m=T.length->g.qo=(fK T).bf->g.tz=(fK T).bk aF->jr g (fK T) aF w->vs.size=args.length ->
  (∀(j:Nat) x v,args[j]? = some x->vs[j]? = some v->Rel w ((fK T).ok g aF w) (fK T).bf ((fK T).bk aF) x v) ->
  Calls P f vs w fun e bT=> ∃v bX,e = .returned v/\jr g (fK h3) bX bT/\Rel bT ((fK h3).ok g bX bT) (fK h3).bf ((fK h3).bk bX) r v
inductive bU:aG->Prop
 | dead:bU .dead
 | b (x:Bool):bU (.b x)
 | n (k:IntKind) (x:Int):bU (.n k x)
 | s (x:ByteArray):bU (.s x)
 | jA:bU .jA
 | fv:bU .fv
 | jQ:bU .jQ
 | li (sz:Nat):bU (.isl sz [])
 | ref (r k i off:Nat):bU (.ref r k i off)
 | bc (r k b6 len:Nat):bU (.bc r k b6 len)
 | jR (r c sz:Nat) (h:Option (Nat×Nat)):bU (.jR r c sz h)
 | agg {c:List aG} (h : ∀x∈c,bU x):bU (.agg c)
 | de {c:List aG} (h : ∀x∈c,bU x):bU (.de c)
theorem ahi:Down bU:=⟨fun _ _ h aa=>by cases h with|agg h=>exact h _ aa,fun _ _ h aa=>by cases h with|de h=>exact h _ aa,fun _ _ _ h=>by cases h⟩
theorem Rel.fa {w bT:World}{ok lZ:Nat->Prop}{bf n0:kd}{bk ns:j2}{x:aG}(bJ:bU x): ∀ {v:Value},Pure x->Rel w ok bf bk x v->Rel bT lZ n0 ns x v:=by
 induction bJ with
 | dead=>intro v _ h;exact .dead v
 | b x=>intro v _ h;rw[h.wB];exact .b x
 | n k x=>intro v _ h;rw[h.pA];exact .n k x
 | s x=>intro v _ h;rw[h.Cl];exact .s x
 | jA=>intro v _ h;rw[h.x7];exact .jA
 | fv=>intro v _ h;rw[h.rp];exact .fv
 | jQ=>intro v _ h;obtain⟨a,c,rfl⟩:=h.H9;exact .jQ a c
 | li sz =>
  intro v _ h;rcases h.vb with ⟨-,a,c,rfl,bG⟩|⟨eV,off,c,-,rfl,-⟩
  ·exact .li sz a c bG
  ·exact .li sz _ c (fun h=>by simp at h)
 | ref=>intro v ah;cases ah
 | bc=>intro v ah;cases ah
 | jR=>intro v ah;cases ah
 | @agg c aY ih =>
  intro v ah h;obtain⟨vs,rfl,h1,h2,J⟩:=h.BX
  cases ah with
  | agg ah=>exact .agg vs h1 h2 fun j x u aa hu=>ih x (dH aa) (ah x (dH aa)) (J j x u aa hu)
 | @de c aY ih =>
  intro v ah h;obtain⟨vs,rfl,h1,J⟩:=h.BZ
  cases ah with
  | de ah=>exact .de vs h1 fun j x u aa hu=>ih x (dH aa) (ah x (dH aa)) (J j x u aa hu)
section
variable {P:Program} {g:G} {s:S} {aF:gh} {a:Act} {w:World}
theorem EX (h:jr g s aF w){r k b m:Nat}{o:a9}(ak:s.an r k=some o)(ah:aF r k=some (b,m)):b<w.heap.size:=by have:=h.obj r k o ak;rw[ah] at this;obtain⟨c,fo,e,-⟩:=this;exact(Array.getElem?_eq_some_iff.1 e).1
theorem agw (h:jr g s aF w){r k b m:Nat}{o:a9}(ak:s.an r k=some o)(aX:o.cN = .jS)(ah:aF r k=some (b,m)):s.ok g aF w b:=by
 refine⟨EX h ak ah,?_,?_⟩
 ·rcases h.own r k o b m ak ah with e|e
  ·exact .inr (.inl e)
  ·exact .inr (.inr e)
 ·rintro⟨fp,eu,ch,aH,h1,h2,J⟩;obtain⟨rfl,rfl⟩:=h.inj r k o fp eu ch b m aH ak h1 ah J;rw[ak] at h1;simp at h1;subst h1;rw[aX] at h2;simp at h2
theorem enter (h:jr g s aF w){a5:hS}{bM:hc->Bool}{q:aG->Prop}{T:List (List a9)}(A:Nat->Prop)
 (hA : ∀b,A b->b<w.heap.size) (Nv : ∀b,s.ok g aF w b->A b)
 (Nw : ∀r k o b m,s.an r k=some o->bM o.cN=true->aF r k=some (b,m)->A b)
 (dg:rN s a5 bM q (fK T).a0) (rz : ∀r k o,(∃j i,a5 j i=some (r,k))->s.an r k=some o->o.cN = .live) :
 ∃gS:G,gS.nc=w/\gS.A=A/\gS.m=T.length/\gS.qo=(fK T).bf/\gS.tz=(fK T).bk (kL aF a5) /\
  (gS.q9=fun b=> ∃r k o m,(∃j i,a5 j i=some (r,k))/\s.an r k=some o/\aF r k=some (b,m))/\jr gS (fK T) (kL aF a5) w /\
  ∀ {x c6:aG} {v:Value},iU s a5 bM q x c6->Rel w (s.ok g aF w) s.bf (s.bk aF) x v->Rel w ((fK T).ok gS (kL aF a5) w) (fK T).bf ((fK T).bk (kL aF a5)) c6 v:=by
 let gS:G:={nc:=w,A:=A,q9:=fun b=> ∃r k o m,(∃j i,a5 j i=some (r,k))/\s.an r k=some o/\aF r k=some (b,m),N:=0,m:=T.length,qo:=(fK T).bf,tz:=(fK T).bk (kL aF a5)}
 refine⟨gS,rfl,rfl,rfl,rfl,rfl,rfl,?_⟩;have hg : ∀b,(fK T).m1 (kL aF a5) b-> ∃r k o m,s.an r k=some o/\o.cN = .live/\aF r k=some (b,m)/\ ∃j i,a5 j i=some (r,k):=fun b aV=>dg.live b aV;refine jr.Ol (b0:=fK T) (gS:=gS) h dg ⟨rfl,rfl,rfl,dD _,fun _ _ _=>rfl⟩ (fun j k aq=>⟨aq,.inl rfl⟩) ?_ ?_ hA ?_ ?_ ?_
 ·intro j k aq
  have aq:k<((T[j]?).getD []).length:=aq;rcases Nat.lt_or_ge j T.length with h1|h1
  ·exact h1
  ·rw[List.getElem?_eq_none h1] at aq;simp at aq
 ·rintro b ⟨r,k,o,m,-,ak,ah⟩;exact EX h ak ah
 ·intro r k o b m hm ak ah;exact .inr ⟨r,k,o,m,hm,ak,ah⟩
 ·intro b aW;refine⟨aW.1,.inl (Nv b aW),fun aV=> ?_⟩;obtain⟨r,k,o,m,h1,h2,J,-⟩:=hg b aV;exact aW.2.2 ⟨r,k,o,m,h1,h2,J⟩
 ·intro r k o b m ak bG ai ah;refine⟨EX h ak ah,.inl (Nw r k o b m ak bG ah),fun aV=> ?_⟩;obtain⟨fp,eu,ch,aH,h1,h2,J,⟨j,i,aq⟩⟩:=hg b aV;obtain⟨rfl,rfl⟩:=h.inj r k o fp eu ch b m aH ak h1 ah J;exact ai j i aq
theorem leave (h:c7 g s aF a w){bT:World}{a5 lS:hS}{bM:hc->Bool}{q0 q:aG->Prop}{gS:G}{T fx:List (List a9)}{l1:gh}
 (di:gS.nc=w) (hA:(∀b,gS.A b->s.ok g aF w b)\/(∀x,q x->bU x)) (y7:gS.qo=(fK T).bf) (mu:gS.tz=(fK T).bk (kL aF a5))
 (ek:gS.q9=fun b=> ∃r k o m,(∃j i,a5 j i=some (r,k))/\s.an r k=some o/\aF r k=some (b,m))
 (rz : ∀r k o,(∃j i,a5 j i=some (r,k))->s.an r k=some o->o.cN = .live)
 (dg:rN s a5 bM q0 (fK T).a0) (h1:jr gS (fK fx) l1 bT)
 (Fb : ∀j i r k,a5 j i=some (r,k)->lS r k=some (j,i)) (IW : ∀r k j i,lS r k=some (j,i)->a5 j i=some (r,k)\/ ¬s.bf r k)
 (ahQ : ∀r k fp eu p,lS r k=some p->lS fp eu=some p->r=fp/\k=eu)
 {s2:S} (eM:s2.E=s.E)
 (bp : ∀r k o,s2.an r k=some o->(∃j i p,lS r k=some (j,i)/\(fK fx).an j i=some p/\pN (fK fx) lS (fun _=>false) q p o)\/(lS r k=none/\s.an r k=some o))
 (km : ∀r k,s.bf r k->s2.bf r k) (ahR : ∀r k j i,lS r k=some (j,i)->(fK fx).bf j i->s2.bf r k)
 {x c6:aG} {v:Value} (aa:iU (fK fx) lS (fun _=>false) q x c6) (bh:Rel bT ((fK fx).ok gS l1 bT) (fK fx).bf ((fK fx).bk l1) x v) :
 ∃mF,c7 g s2 mF a bT/\Rel bT (s2.ok g mF bT) s2.bf (s2.bk mF) c6 v:=by
 let mF:gh:=fun r k=>match lS r k with|some (j,i)=>l1 j i|none=>aF r k
 have p1 : ∀r k j i,lS r k=some (j,i)->mF r k=l1 j i:=fun r k j i e=>by simp[mF,e]
 have p2 : ∀r k,lS r k=none->mF r k=aF r k:=fun r k e=>by simp[mF,e]
 have aX:=h1.hX;have fE:w.heap.size<=bT.heap.size:=by have:=aX.size;rw[di] at this;exact this
 have vt : ∀b,b<w.heap.size-> ¬gS.q9 b->bT.heap[b]? = w.heap[b]? := fun b aW la=>by have:=aX.block b (by rw[di];exact aW) la;rw[di] at this;exact this
 have Jm : ∀j k p b m,(fK fx).an j k=some p->l1 j k=some (b,m)->w.heap.size<=b\/ ∃r eu o aH,(∃j i,a5 j i=some (r,eu))/\s.an r eu=some o/\aF r eu=some (b,aH):=by
  intro j k p b m ah aW;rcases h1.own j k p b m ah aW with e|e
  ·rw[di] at e;exact .inl e
  ·rw[ek] at e;exact .inr e
 have hold : ∀q k o b m,lS q k=none->s.an q k=some o->aF q k=some (b,m)->b<w.heap.size/\ ¬gS.q9 b:=by intro q k o b m aZ ak ah;refine⟨EX h.tojr ak ah,fun la=> ?_⟩;rw[ek] at la;obtain⟨r,eu,ch,aH,⟨j,i,ai⟩,eK,mb⟩:=la;obtain⟨rfl,rfl⟩:=h.inj q k o r eu ch b m aH ak eK ah mb;rw[Fb _ _ _ _ ai] at aZ;simp at aZ
 have Vf : ∀b,s2.m1 mF b->(fK fx).m1 l1 b\/(∃q k o m,lS q k=none/\s.an q k=some o/\o.cN = .live/\aF q k=some (b,m)):=by
  rintro b ⟨q,k,o,m,ak,pd,ah⟩;rcases bp q k o ak with ⟨j,i,p,e1,e2,bN⟩|⟨e1,e2⟩
  ·rw[p1 _ _ _ _ e1] at ah;exact .inl ⟨j,i,p,m,e2,UE bN pd,ah⟩
  ·rw[p2 _ _ e1] at ah;exact .inr ⟨q,k,o,m,e1,e2,pd,ah⟩
 have lk : ∀b,s.ok g aF w b->s2.ok g mF bT b:=by
  intro b aW;refine⟨Nat.lt_of_lt_of_le aW.1 fE,aW.2.1,fun aV=> ?_⟩;rcases Vf b aV with ⟨j,k,p,m,e1,e2,bN⟩|⟨q,k,o,m,e1,e2,bN,c0⟩
  ·rcases Jm j k p b m e1 bN with e|⟨r,eu,o,aH,ai,ak,ah⟩
   ·have:=aW.1;omega
   ·exact aW.2.2 ⟨r,eu,o,aH,ak,rz r eu o ai ak,ah⟩
  ·exact aW.2.2 ⟨q,k,o,m,e2,bN,c0⟩
 have Wb : ∀r k,s.bf r k->s2.bk mF r k=s.bk aF r k\/s2.bk mF r k=none:=by
  intro r k ai
  cases ak:s2.an r k with
  | none=>right;simp[S.bk,ak]
  | some o =>
   left;rcases bp r k o ak with ⟨j,i,p,e1,e2,bN⟩|⟨e1,e2⟩
   ·rcases IW r k j i e1 with aq|aq
    ·have nu:=(h1.stay j i (by rw[y7];exact dg.bf _ _ _ _ aq ai)).2
     rw[mu,jo e2] at nu
     have nu:some (p.sz,l1 j i)=(fK T).bk (kL aF a5) j i:=by
      rcases nu with e|e
      ·exact e
      ·simp at e
     have:=dg.Jl (b0:=fK T) (aF:=aF) aq;rw[<- nu] at this;rw[jo ak,bN.sz,p1 _ _ _ _ e1];rcases this with e|e
     ·exact e
     ·simp at e
    ·exact absurd ai aq
   ·rw[jo ak,jo e2,p2 _ _ e1]
 have ahj : ∀b,s.ok g aF w b->bT.heap[b]? = w.heap[b]? := by intro b aW;refine vt b aW.1 fun la=> ?_;rw[ek] at la;obtain⟨r,eu,o,aH,ai,ak,ah⟩:=la;exact aW.2.2 ⟨r,eu,o,aH,ak,rz r eu o ai ak,ah⟩
 have fZ : ∀ {y:aG} {u:Value},Rel w (s.ok g aF w) s.bf (s.bk aF) y u->Rel bT (s2.ok g mF bT) s2.bf (s2.bk mF) y u :=
  fun ai=>ai.mono lk ahj km Wb
 have ahS:(∀b,gS.A b->s.ok g aF w b)-> ∀b,(fK fx).ok gS l1 bT b->s2.ok g mF bT b:=by
  intro hA b aW
  have M0:g.A b\/g.nc.heap.size<=b\/g.q9 b:=by
   rcases aW.2.1 with e|e|e
   ·exact(hA b e).2.1
   ·rw[di] at e;exact .inr (.inl (Nat.le_trans h.hX.size e))
   ·rw[ek] at e
    obtain⟨r,k,o,m,-,ak,ah⟩:=e;rcases h.own r k o b m ak ah with e|e
    ·exact .inr (.inl e)
    ·exact .inr (.inr e)
  refine⟨aW.1,M0,fun aV=> ?_⟩;rcases Vf b aV with e|⟨q,k,o,m,e1,e2,bN,c0⟩
  ·exact aW.2.2 e
  ·have aZ:=hold q k o b m e1 e2 c0
   rcases aW.2.1 with e|e|e
   ·exact(hA b e).2.2 ⟨q,k,o,m,e2,bN,c0⟩
   ·rw[di] at e;omega
   ·exact aZ.2 e
 have VN : ∀ {y nd:aG} {u:Value},iU (fK fx) lS (fun _=>false) q y nd->Rel bT ((fK fx).ok gS l1 bT) (fK fx).bf ((fK fx).bk l1) y u->Rel bT (s2.ok g mF bT) s2.bf (s2.bk mF) nd u:=by
  intro y nd u bJ ai;refine bJ.rel h1 (fun x v aZ ah ai=> ?_) (fun _ _ _ _ _ _ bG _ _=>by simp at bG) ?_ ai
  ·rcases hA with hA|hA
   ·exact ai.pure ah (ahS hA)
   ·exact ai.fa (hA x aZ) ah
  ·intro r k j i aZ aq
   refine⟨ahR r k j i aZ aq,?_⟩
   cases ak:s2.an r k with
   | none=>right;simp[S.bk,ak]
   | some o =>
    left;rcases bp r k o ak with ⟨ja,ff,p,e1,e2,bN⟩|⟨e1,-⟩
    ·rw[aZ] at e1;simp only[dB,dE] at e1;obtain⟨rfl,rfl⟩:=e1;rw[jo ak,jo e2,bN.sz,p1 _ _ _ _ aZ]
    ·rw[aZ] at e1;simp at e1
 refine⟨mF,{tojr:=⟨?_,?_,?_,?_,h.mlt,h.oG,?_,h.low⟩,env:=fun t=>by rw[eM];exact fZ (h.env t),defers:=h.defers,kJ:=h.kJ},VN aa bh⟩
 ·intro q k o ak
  rcases bp q k o ak with ⟨j,i,p,e1,e2,bN⟩|⟨e1,e2⟩
  ·have ah:=h1.obj j i p e2
   rw[p1 _ _ _ _ e1]
   cases lx:l1 j i with
   | none =>
    rw[lx] at ah;simp only[j8] at ah ⊢;apply List.length_eq_zero_iff.1;rw[bN.len,ah];rfl
   | some vT =>
    obtain⟨b,m⟩:=vT;rw[lx] at ah;obtain⟨c,fo,f1,f2,f3,f4⟩:=ah;have kK:o.es.flatten.length=p.es.flatten.length:=(by rw[tY _ bN.each,tY _ f3,bN.len]);refine⟨c,fo,f1,f2,by rw[bN.sz];exact bN.each,fun i c6 et=> ?_⟩;have ep:i<p.es.flatten.length:=(by rw[<- kK];exact f5 et);have jZ:=dz ep;obtain⟨u,ke,mG,ia⟩:=f4 i _ jZ;exact⟨u,ke,mG,VN (bN.at_ i _ c6 jZ et) ia⟩
  ·have ah:=h.obj q k o e2
   rw[p2 _ _ e1]
   cases lx:aF q k with
   | none=>rw[lx] at ah;exact ah
   | some vT =>
    obtain⟨b,m⟩:=vT;rw[lx] at ah;obtain⟨c,fo,f1,f2,f3,f4⟩:=ah;obtain⟨wR,Nx⟩:=hold q k o b m e1 e2 lx;refine⟨c,fo,(vt b wR Nx).trans f1,f2,f3,fun i c6 et=> ?_⟩;obtain⟨u,ke,mG,ia⟩:=f4 i c6 et;exact⟨u,ke,mG,fZ ia⟩
 ·intro q k o iS eu ch b m aH h2 J aj av
  rcases bp q k o h2 with ⟨j,i,p,e1,e2,bN⟩|⟨e1,e2⟩<;>rcases bp iS eu ch J with ⟨ja,ff,lq,n6,q5,wP⟩|⟨n6,q5⟩
  ·rw[p1 _ _ _ _ e1] at aj;rw[p1 _ _ _ _ n6] at av;obtain⟨rfl,rfl⟩:=h1.inj j i p ja ff lq b m aH e2 q5 aj av;exact ahQ _ _ _ _ _ e1 n6
  ·rw[p1 _ _ _ _ e1] at aj;rw[p2 _ _ n6] at av
   obtain⟨f1,f2⟩:=hold iS eu ch b aH n6 q5 av;rcases Jm j i p b m e2 aj with e|e
   ·omega
   ·exact absurd (by rw[ek];exact e) f2
  ·rw[p2 _ _ e1] at aj;rw[p1 _ _ _ _ n6] at av
   obtain⟨f1,f2⟩:=hold q k o b m e1 e2 aj;rcases Jm ja ff lq b aH q5 av with e|e
   ·omega
   ·exact absurd (by rw[ek];exact e) f2
  ·rw[p2 _ _ e1] at aj;rw[p2 _ _ n6] at av;exact h.inj q k o iS eu ch b m aH e2 q5 aj av
 ·intro q k o b m h2 aj
  rcases bp q k o h2 with ⟨j,i,p,e1,e2,bN⟩|⟨e1,e2⟩
  ·rw[p1 _ _ _ _ e1] at aj
   rcases Jm j i p b m e2 aj with e|⟨r,eu,ch,aH,ai,ak,ah⟩
   ·exact .inl (Nat.le_trans h.hX.size e)
   ·exact h.own r eu ch b aH ak ah
  ·rw[p2 _ _ e1] at aj;exact h.own q k o b m e2 aj
 ·have e1:=aX.os;have e2:=aX.tape;have bN:=aX.output
  rw[di] at e1 e2 bN;refine h.hX.step e1 e2 bN fE fun b aW pf=>vt b (Nat.lt_of_lt_of_le aW h.hX.size) fun la=> ?_;rw[ek] at la;obtain⟨r,k,o,m,-,ak,ah⟩:=la;rcases h.own r k o b m ak ah with e|e
  ·omega
  ·exact pf e
 ·intro j k aq
  obtain⟨e1,e2⟩:=h.stay j k aq;refine⟨km j k e1,?_⟩;rcases Wb j k e1 with e|e
  ·rw[e];exact e2
  ·exact .inr e
def lL (a b n:Nat):aG->aG
 | .ref r k i off=>if r=a then .ref b (n+k) i off else .ref r k i off
 | .bc r k b6 len=>if r=a then .bc b (n+k) b6 len else .bc r k b6 len
 | .jR r c sz h=>if r=a then .jR b (n+c) sz h else .jR r c sz h
 | .agg c=> .agg (CJ c)
 | .de c=> .de (CJ c)
 | x=>x
where CJ:List aG->List aG
 | []=>[]
 | x::l=>lL a b n x::CJ l
def nx (a b n:Nat)(o:a9):a9:={o with es:=o.es.map fun e=>e.map (lL a b n)}
def ts (o:a9):a9:=⟨0,[],.gone⟩
theorem Ix (a b n:Nat): ∀l:List aG,lL.CJ a b n l=l.map (lL a b n)
 | []=>rfl
 | x::l=>by rw[lL.CJ,Ix a b n l];rfl
theorem lv (l:List a9)(k:Nat):dZ (some l) k=(l[k]?).bind fun o=>if o.cN = .gone then none else some o:=by unfold dZ;cases h:l[k]? <;> simp[h]
theorem map_flatten {es:List (List aG)}(f:aG->aG):(es.map fun e=>e.map f).flatten=es.flatten.map f:=by
 induction es with
 | nil=>rfl
 | cons e es ih=>rw[List.map_cons,List.flatten_cons,List.flatten_cons,List.map_append,ih]
theorem c7.merge (h:c7 g s aF a w){r fp:Nat}{l hv:List a9}(ai:s.a0 r=some l)(iN:s.a0 fp=some hv)(c8:fp≠r):
 ∃bX,c7 g ((s.setRow fp (hv.map ts)).setRow r (l++hv.map (nx fp r l.length))) bX a w /\
  ∀x v,Rel w (s.ok g aF w) s.bf (s.bk aF) x v->Rel w (((s.setRow fp (hv.map ts)).setRow r (l++hv.map (nx fp r l.length))).ok g bX w)
   ((s.setRow fp (hv.map ts)).setRow r (l++hv.map (nx fp r l.length))).bf (((s.setRow fp (hv.map ts)).setRow r (l++hv.map (nx fp r l.length))).bk bX) (lL fp r l.length x) v:=by
 generalize vE:(s.setRow fp (hv.map ts)).setRow r (l++hv.map (nx fp r l.length))=s2
 let bX:gh:=fun q k=>if q=r/\l.length<=k then aF fp (k-l.length) else aF q k
 have bp : ∀q k o,s2.an q k=some o->(q=r/\l.length<=k/\ ∃p,s.an fp (k-l.length)=some p/\o=nx fp r l.length p/\bX q k=aF fp (k-l.length)) \/
  (q≠fp/\s.an q k=some o/\bX q k=aF q k/\ ¬(q=r/\l.length<=k)):=by
  intro q k o ak;subst vE;rw[mL] at ak;by_cases e:q=r
  ·subst e
   rw[dw rfl] at ak;by_cases aX:l.length<=k
   ·left
    refine⟨rfl,aX,?_⟩;rw[lv,List.getElem?_append_right aX,dJ] at ak
    cases ah:hv[k-l.length]? with
    | none=>rw[ah] at ak;simp at ak
    | some p =>
     rw[ah] at ak;simp only[Option.map_some,dx] at ak;split at ak
     ·simp at ak
     ·rename_i di;simp only[dB] at ak;refine⟨p,?_,ak.symm,by simp[bX,aX]⟩;unfold S.an;rw[iN,lv,ah,dx,dA (by simpa [nx] using di)]
   ·right;refine⟨Ne.symm c8,?_,by simp[bX,aX],fun gN=>aX gN.2⟩;unfold S.an;rw[ai,lv];rw[lv,List.getElem?_append_left (by omega)] at ak;exact ak
  ·rw[dA e,mL] at ak
   by_cases e2:q=fp
   ·subst e2
    rw[dw rfl,lv,dJ] at ak
    cases ah:hv[k]? with
    | none=>rw[ah] at ak;simp at ak
    | some p=>rw[ah] at ak;simp[ts] at ak
   ·rw[dA e2] at ak;exact .inr ⟨e2,ak,by simp[bX,e],fun gN=>e gN.1⟩
 have km : ∀q k,s.bf q k->s2.bf q k:=by
  intro q k aZ;subst vE;rw[oq];by_cases e:q=r
  ·subst e;rw[dw rfl];simp[S.bf,ai] at aZ;simp;omega
  ·rw[dA e,oq]
   by_cases e2:q=fp
   ·subst e2;rw[dw rfl];simpa [S.bf,iN] using aZ
   ·rw[dA e2];exact aZ
 have FG : ∀k,s.bf fp k->s2.bf r (l.length+k):=by intro k aZ;subst vE;rw[oq,dw rfl];simp[S.bf,iN] at aZ;simp;omega
 have FH : ∀k,s2.bk bX r (l.length+k)=s.bk aF fp k:=by
  intro k;subst vE;simp only[S.bk];rw[mL,dw rfl];unfold S.an;rw[iN,lv,lv,List.getElem?_append_right (by omega),dJ,show l.length+k-l.length=k by omega]
  cases ah:hv[k]? with
  | none=>simp
  | some p =>
   simp only[Option.map_some,dx];by_cases di:p.cN = .gone
   ·rw[dw di,dw (by simpa [nx] using di)];rfl
   ·rw[dA di,dA (by simpa [nx] using di)];simp[bX,nx]
 have mu : ∀q k,s.bf q k->s2.bk bX q k=s.bk aF q k\/s2.bk bX q k=none:=by
  intro q k aZ
  cases ak:s2.an q k with
  | none=>right;simp[S.bk,ak]
  | some o =>
   left;rcases bp q k o ak with ⟨rfl,e2,-⟩|⟨-,e2,bN,-⟩
   ·simp[S.bf,ai] at aZ;omega
   ·rw[jo ak,jo e2,bN]
 have rz : ∀b,s2.m1 bX b->s.m1 aF b:=by
  rintro b ⟨q,k,o,m,h1,h2,J⟩;rcases bp q k o h1 with ⟨-,-,p,e1,e2,bN⟩|⟨-,e1,e2,-⟩
  ·rw[bN] at J;subst e2;exact⟨fp,_,p,m,e1,h2,J⟩
  ·rw[e2] at J;exact⟨q,k,o,m,e1,h2,J⟩
 have c2:Step g s aF w s2 bX w:=⟨km,mu,fun b aV=> .inl (rz b aV),fun _ _ _=>rfl,dD _⟩
 have F1 : ∀x v,Rel w (s.ok g aF w) s.bf (s.bk aF) x v->Rel w (s2.ok g bX w) s2.bf (s2.bk bX) (lL fp r l.length x) v:=by
  intro x v mx
  induction mx with
  | dead v=>exact .dead v
  | b x=>exact .b x
  | n k x=>exact .n k x
  | s x=>exact .s x
  | jA=>exact .jA
  | fv=>exact .fv
  | jQ a c=>exact .jQ a c
  | @rq r1 k i off a hu gN =>
   unfold lL;split
   ·rename_i e;subst e;exact .rq a (FG k hu) (by rw[FH];exact gN)
   ·exact c2.rel (.rq a hu gN)
  | @ref r1 k i off sz eV m hu gN =>
   unfold lL;split
   ·rename_i e;subst e;exact .ref (FG k hu) (by rw[FH];exact gN)
   ·exact c2.rel (.ref hu gN)
  | @ov r1 k b6 len a bl cm hu gN =>
   unfold lL;split
   ·rename_i e;subst e;exact .ov a bl cm (FG k hu) (by rw[FH];exact gN)
   ·exact c2.rel (.ov a bl cm hu gN)
  | @oV r1 k sz hu gN =>
   unfold lL;split
   ·rename_i e;subst e;exact .oV (FG k hu) (by rw[FH];exact gN)
   ·exact c2.rel (.oV hu gN)
  | @bc r1 k b6 len sz eV m c a hu gN aV aY nw =>
   unfold lL;split
   ·rename_i e;subst e;exact .bc (FG k hu) (by rw[FH];exact gN) aV aY nw
   ·exact c2.rel (.bc hu gN aV aY nw)
  | @nU r1 c sz v h0 ih =>
   unfold lL;split
   ·exact .nU (c2.rel h0)
   ·exact c2.rel (.nU h0)
  | @o7 r1 c sz k n v h0 ih =>
   unfold lL;split
   ·rename_i e;subst e;unfold lL at ih;rw[dw rfl] at ih;exact .o7 (by rw[show k+(l.length+c)=l.length+(k+c) by omega];exact ih)
   ·exact c2.rel (.o7 h0)
  | li sz a c h=>exact .li sz a c h
  | isl cs aW ah aV aY hw i7 mx ih=>exact c2.rel (.isl cs aW ah aV aY hw i7 mx)
  | fg cs aW ah aV hw i7 mx ih=>exact c2.rel (.fg cs aW ah aV hw i7 mx)
  | qW sz=>exact .qW sz
  | qi h0 ih=>exact c2.rel (.qi h0)
  | agg vs aV i7 mx ih =>
   unfold lL;rw[Ix];refine .agg vs (by simpa using aV) i7 fun j x v aa bh=> ?_;rw[dJ,Option.map_eq_some_iff] at aa;obtain⟨y,aU,rfl⟩:=aa;exact ih j y v aU bh
  | de vs aV mx ih =>
   unfold lL;rw[Ix];refine .de vs (by simpa using aV) fun j x v aa bh=> ?_;rw[dJ,Option.map_eq_some_iff] at aa;obtain⟨y,aU,rfl⟩:=aa;exact ih j y v aU bh
  | fn vs aV mx ih=>exact c2.rel (.fn vs aV mx)
 refine⟨bX,{tojr:=⟨?_,?_,?_,h.hX,h.mlt,h.oG,?_,h.low⟩,env:=fun t=>by rw[show s2.E=s.E by rw[<- vE];rfl];exact c2.rel (h.env t),defers:=h.defers,kJ:=h.kJ},F1⟩
 ·intro q k o ak
  rcases bp q k o ak with ⟨-,-,p,e1,e2,bN⟩|⟨-,e1,e2,-⟩
  ·rw[bN]
   subst e2;have ah:=h.obj fp _ p e1
   cases lx:aF fp (k-l.length) with
   | none=>rw[lx] at ah;simp only[j8] at ah ⊢;simp[nx,ah]
   | some vT =>
    obtain⟨b,m⟩:=vT;rw[lx] at ah;obtain⟨c,fo,f1,f2,f3,f4⟩:=ah;refine⟨c,fo,f1,f2,?_,fun j x aa=> ?_⟩
    ·intro e he;simp only[nx,List.mem_map] at he;obtain⟨e3,m7,rfl⟩:=he;simpa [nx] using f3 e3 m7
    ·simp only[nx] at aa;rw[map_flatten,dJ,Option.map_eq_some_iff] at aa;obtain⟨y,aU,rfl⟩:=aa;obtain⟨u,ke,mG,ia⟩:=f4 j y aU;exact⟨u,ke,mG,F1 y u ia⟩
  ·rw[e2];exact c2.obj (fun b m _=>rfl) (h.obj q k o e1)
 ·intro q k o q1 lR bQ b m aH h1 h2 J aj
  rcases bp q k o h1 with ⟨rfl,f1,p,e1,e2,bN⟩|⟨f1,e1,e2,f2⟩<;>rcases bp q1 lR bQ h2 with ⟨rfl,CK,lq,n6,q5,wP⟩|⟨CK,n6,q5,alm⟩
  ·rw[bN] at J;rw[wP] at aj;obtain⟨-,e⟩:=h.inj _ _ _ _ _ _ b m aH e1 n6 J aj;exact⟨rfl,by omega⟩
  ·rw[bN] at J;rw[q5] at aj;obtain⟨e,-⟩:=h.inj _ _ _ _ _ _ b m aH e1 n6 J aj;exact absurd e.symm CK
  ·rw[e2] at J;rw[wP] at aj;obtain⟨e,-⟩:=h.inj _ _ _ _ _ _ b m aH e1 n6 J aj;exact absurd e f1
  ·rw[e2] at J;rw[q5] at aj;exact h.inj _ _ _ _ _ _ b m aH e1 n6 J aj
 ·intro q k o b m h1 h2
  rcases bp q k o h1 with ⟨-,-,p,e1,e2,bN⟩|⟨-,e1,e2,-⟩
  ·rw[bN] at h2;exact h.own fp _ p b m e1 h2
  ·rw[e2] at h2;exact h.own q k o b m e1 h2
 ·exact c2.stay h.stay
end
def aG.jy:aG->Bool
 | .dead | .b _ | .n .. | .s _ | .jA | .fv | .jQ | .isl .. | .fg .. | .f6 .. => true
 | _=>false
def aG.EY:aG->Bool
 | .agg c=>c.all aG.jy
 | .fn _ c=>c.all aG.jy
 | x=>x.jy
def aG.VO:aG->Bool
 | .de c=>c.all aG.EY
 | x=>x.EY
section
variable {w:World} {ok:Nat->Prop} {bf:kd} {bk:j2}
theorem Rel.Cm {x:aG}{v:Value}(h:Rel w ok bf bk x v)(aT:x.jy=true):Pure x:=by
 cases h with
 | dead=>exact .dead
 | b=>exact .b _
 | n=>exact .n _ _
 | s=>exact .s _
 | jA=>exact .jA
 | fv=>exact .fv
 | jQ=>exact .jQ
 | li=>exact .isl (by simp)
 | isl cs aW ah=>exact .isl ah
 | fg cs aW ah=>exact .fg ah
 | qW sz=>exact .qW sz
 | qi h=>cases h with|fg cs aW ah=>exact .qi fun x aa=>ah _ (List.mem_singleton.2 rfl) x aa
 | _=>simp[aG.jy] at aT
theorem SY {c:List aG}{vs:List Value}(aV:vs.length=c.length)(ai:∀(j:Nat) x u,c[j]? = some x->vs[j]? = some u->Rel w ok bf bk x u)
 (aT:c.all aG.jy=true) : ∀x∈c,Pure x:=by
 intro x aa;obtain⟨j,aq⟩:=List.getElem?_of_mem aa;have ep:j<vs.length:=by have:=f5 aq;omega
 exact(ai j x _ aq (dz ep)).Cm (List.all_eq_true.1 aT x aa)
theorem Rel.IJ {x:aG}{v:Value}(h:Rel w ok bf bk x v)(aT:x.EY=true):Pure x:=by
 cases h with
 | agg vs aV aY ai=>exact .agg (SY aV ai aT)
 | fn vs aV ai=>exact .fn (SY aV ai aT)
 | dead=>exact .dead
 | b=>exact .b _
 | n=>exact .n _ _
 | s=>exact .s _
 | jA=>exact .jA
 | fv=>exact .fv
 | jQ=>exact .jQ
 | li=>exact .isl (by simp)
 | isl cs aW ah=>exact .isl ah
 | fg cs aW ah=>exact .fg ah
 | qW sz=>exact .qW sz
 | qi h=>cases h with|fg cs aW ah=>exact .qi fun x aa=>ah _ (List.mem_singleton.2 rfl) x aa
 | _=>simp[aG.EY,aG.jy] at aT
theorem Rel.ahk {x:aG}{v:Value}(h:Rel w ok bf bk x v)(aT:x.VO=true):Pure x:=by
 by_cases cg : ∃c,x = .de c
 ·obtain⟨c,rfl⟩:=cg;obtain⟨vs,rfl,aV,ai⟩:=h.BZ;refine .de fun x aa=> ?_;obtain⟨j,aq⟩:=List.getElem?_of_mem aa;have ep:j<vs.length:=(by have:=f5 aq;omega);exact(ai j x _ aq (dz ep)).IJ (List.all_eq_true.1 aT x aa)
 ·refine h.IJ ?_;cases x<;>first|exact aT|exact absurd ⟨_,rfl⟩ cg
end
def ct:List Nat->Nat->Option Nat
 | [],_=>none
 | x::l,r=>if x=r then some 0 else (ct l r).map (· + 1)
theorem SZ : ∀ {l:List Nat} {r j:Nat},ct l r=some j->l[j]? = some r
 | x::l,r,j,h=>by
  unfold ct at h;split at h
  ·simp at h;subst h;simp[*]
  ·rw[Option.map_eq_some_iff] at h;obtain⟨i,ab,rfl⟩:=h;simpa using SZ ab
theorem S0 : ∀ {l:List Nat} {r j:Nat},l.Nodup->l[j]? = some r->ct l r=some j
 | x::l,r,j,aT,h=>by
  rw[List.nodup_cons] at aT;unfold ct
  cases j with
  | zero=>simp at h;simp[h]
  | succ j =>
   simp at h;have:x≠r:=(by rintro rfl;exact aT.1 (dH h));rw[dA this,S0 aT.2 h];rfl
def F2 (er:Nat)(kl:List a9)(bM:hc->Bool)(x c6:aG):Prop :=
 (c6=x/\x.jy=true)\/(∃c sz,x = .jR er c sz none/\c6 = .isl sz [])\/ ∃k b6 len o,(x = .bc er k b6 len\/ ∃c sz kf,k=kf+c/\b6=0/\x = .jR er c sz (some (kf,len)))/\dZ (some kl) k=some o/\bM o.cN=true/\b6+len<=o.es.length /\
   jx ((o.es.drop b6).take len)/\c6 = .isl o.sz ((o.es.drop b6).take len)
def GM (er:Nat)(kl:List a9)(bM:hc->Bool)(sz:Nat)(es hr:List (List aG)):Prop :=
 hr.length=es.length/\(∀e∈hr,e.length=sz)/\ ∀(j:Nat) x c6,es.flatten[j]? = some x->hr.flatten[j]? = some c6->F2 er kl bM x c6
def mN (a0:Nat->Option (List a9))(cj:Nat->Option Nat)(a5:hS)(bM:hc->Bool):tQ->aG->Option (aG×List Prop)
 | .id,x=>if x.jy then some (x,[]) else
  match x with
  | .ref r k i off=>match cj r with
   | some j=>some (.ref j k i off,[])
   | none=>none
  | .bc r k b6 len=>match cj r with
   | some j=>some (.bc j k b6 len,[])
   | none=>none
  | .jR r c sz h=>match cj r with
   | some j=>some (.jR j c sz h,[])
   | none=>none
  | _=>none
 | .fi sz,.fv=>some (.isl sz [],[])
 | .fi sz,.jQ=>some (.isl sz [],[])
 | .eR hr,.bc r k b6 len=>match dZ (a0 r) k with
  | some o=>if bM o.cN && (cj r).isNone then some (.isl o.sz hr,[hr=(o.es.drop b6).take len,b6+len<=o.es.length,jx hr]) else none
  | none=>none
 | .kq,_=>some (.dead,[])
 | .cA y,x=>if x.jy then some (y,[x=y]) else none
 | .len n,.bc r k b6 len=>match cj r with
  | some j=>some (.bc j k b6 n,[len=n])
  | none=>none
 | .ra sz,x=>match x with
  | .jA=>some (.f6 sz none,[])
  | .fg Jg [c] 0 0=>if Jg=sz then some (.f6 sz (some c),[]) else none
  | _=>none
 | .at_ j i n,.bc r k b6 len=>some (.bc j i b6 n,[a5 j i=some (r,k),len=n])
 | .at_ j i _,.ref r k x y=>some (.ref j i x y,[a5 j i=some (r,k)])
 | .view er o hr,.bc r k b6 len=>match a0 r,a0 er with
  | some row,some kl=>if (cj r).isNone && (cj er).isNone then
   some (.isl o.sz hr,[dZ (some row) k=some o,bM o.cN=true,b6+len<=o.es.length,jx hr,GM er kl bM o.sz ((o.es.drop b6).take len) hr]) else none
  | _,_=>none
 | _,_=>none
def mO {α β:Type}(f:α->β->Option (β×List Prop)):List α->List β->Option (List β×List Prop)
 | [],[]=>some ([],[])
 | a::l,b::m=>match f a b,mO f l m with
  | some (k1,bQ),some (aH,aN)=>some (k1::aH,bQ++aN)
  | _,_=>none
 | _,_=>none
def pB (a0:Nat->Option (List a9))(cj:Nat->Option Nat)(a5:hS)(bM:hc->Bool):C3->aG->Option (aG×List Prop)
 | .b3 c,x=>if x.EY then (match c with | .id=>some (x,[]) | .kq=>some (.dead,[]) | .cA y=>some (y,[x=y])|c=>mN a0 cj a5 bM c x) else mN a0 cj a5 bM c x
 | .agg l,.agg c=>match mO (mN a0 cj a5 bM) l c with
  | some (eF,an)=>some (.agg eF,an)
  | none=>none
 | .ptr l,.ref r k i off=>match dZ (a0 r) k with
  | some o=>match o.es with
   | [c]=>if bM o.cN && (cj r).isNone then
    match mO (mN a0 cj a5 bM) l c with
    | some (eF,an)=>some (.fg o.sz [eF] i off,an++[jx [eF]])
    | none=>none
    else none
   | _=>none
  | none=>none
 | .vu l,x=>match x with
  | .ref r k 0 0=>match dZ (a0 r) k with
   | some o=>match o.es with
    | [c]=>if bM o.cN && (cj r).isNone then
     match mO (mN a0 cj a5 bM) l c with
     | some (eF,an)=>some (.f6 o.sz (some eF),an++[jx [eF]])
     | none=>none
     else none
    | _=>none
   | none=>none
  | _=>none
 | _,_=>none
def oZ (a0:Nat->Option (List a9))(cj:Nat->Option Nat)(a5:hS)(bM:hc->Bool):mD->aG->Option (aG×List Prop)
 | .bl c,x=>if x.VO then (match c with | .b3 .id=>some (x,[])|c=>pB a0 cj a5 bM c x) else pB a0 cj a5 bM c x
 | .comp l,.de c=>match mO (pB a0 cj a5 bM) l c with
  | some (eF,an)=>some (.de eF,an)
  | none=>none
 | .comp l,.fn f c=>match mO (pB a0 cj a5 bM) l c with
  | some (eF,an)=>some (.fn f eF,an)
  | none=>none
 | _,_=>none
def wk (row:List a9):Prop:= ∀o∈row,jx o.es/\o.cN = .live
def o0 (row:List a9):Prop:= ∀o∈row,o.cN = .live\/o.cN = .gone
def pg (cj:Nat->Option Nat):aG->aG
 | .ref r k i off=>match cj r with|some j=> .ref j k i off|none=> .dead
 | .bc r k b6 len=>match cj r with|some j=> .bc j k b6 len|none=> .dead
 | .jR r c sz h=>match cj r with|some j=> .jR j c sz h|none=> .dead
 | x=>if x.jy then x else .dead
def kM (cj:Nat->Option Nat)(o:a9):a9:={o with es:=o.es.map fun e=>e.map (pg cj)}
def j9 (a0:Nat->Option (List a9))(cj:Nat->Option Nat)(a5:hS)(bM:hc->Bool):jv->List a9->Option (List a9×List Prop)
 | .pure,row=>some (row,[wk row])
 | .cA eS,row=>some (eS,[row=eS,wk eS])
 | .bx eS,row=>some (eS,[eS=row.map (kM cj),o0 row])
 | .box l,[o]=>match o.es with
  | [c]=>if o.cN = .live then match mO (mN a0 cj a5 bM) l c with
   | some (eF,an)=>some ([{o with es:=[eF]}],an)
   | none=>none
   else none
  | _=>none
 | _,_=>none
structure vU (q:aG->Prop) (bM:hc->Bool):Prop extends Down q where
 all : ∀k,bM k=true-> ∀x,q x
theorem wS (bM:hc->Bool):vU m9 bM:={toDown:=ahg,all:=fun _ _ _=>trivial}
theorem aiu:vU bU (fun _=>false):={toDown:=ahi,all:=fun _ h=>by simp at h}
structure nN (s:S) (a5:hS) (cj:Nat->Option Nat) (bM:hc->Bool):Prop where
 ab : ∀r j,cj r=some j-> ∀k,a5 j k=some (r,k)
 aT : ∀r,cj r=none-> ∀k o,s.an r k=some o->bM o.cN=true-> ∀j i,a5 j i≠some (r,k)
section
variable {g:G} {s:S} {aF:gh} {w:World} {a5:hS} {cj:Nat->Option Nat} {bM:hc->Bool} {q:aG->Prop}
theorem HV {α β:Type}(f:α->β->Option (β×List Prop)): ∀(l:List α) (m aH:List β) (an:List Prop),mO f l m=some (aH,an) ->
 aH.length=m.length/\l.length=m.length/\ ∀(j:Nat) b k1,m[j]? = some b->aH[j]? = some k1-> ∃x ch,l[j]? = some x/\f x b=some (k1,ch)/\ ∀p∈ch,p∈an
 | [],[],aH,an,h=>by simp[mO] at h;obtain⟨rfl,rfl⟩:=h;exact⟨rfl,rfl,fun j b k1 aW=>by simp at aW⟩
 | [],_::_,_,_,h=>by simp[mO] at h
 | _::_,[],_,_,h=>by simp[mO] at h
 | x::l,b::m,aH,an,h=>by
  simp only[mO] at h;split at h
  ·rename_i k1 bQ ik aN h1 h2
   simp only[dB,dE] at h;obtain⟨rfl,rfl⟩:=h;obtain⟨e1,e2,bN⟩:=HV f l m ik aN h2;refine⟨by simp[e1],by simp[e2],fun j c eF aY uz=> ?_⟩
   cases j with
   | zero =>
    simp at aY uz;subst aY;subst uz;exact⟨x,bQ,rfl,h1,fun p ah=>by simp[ah]⟩
   | succ j =>
    simp at aY uz;obtain⟨y,ch,f1,f2,f3⟩:=bN j c eF aY uz;exact⟨y,ch,by simpa using f1,f2,fun p ah=>by simp[f3 p ah]⟩
  ·simp at h
theorem LQ (ek:jr g s aF w)(H:nN s a5 cj bM)(bC:vU q bM){c:tQ}{x c6:aG}{an:List Prop}(h:mN s.a0 cj a5 bM c x=some (c6,an))(bp:∀p∈an,p)
 (aZ:q x) {v:Value} (ai:Rel w (s.ok g aF w) s.bf (s.bk aF) x v):iU s a5 bM q x c6:=by
 have km : ∀ {r k b6 len:Nat},x = .bc r k b6 len->s.bf r k:=by intro r k b6 len e;subst e;cases ai<;>assumption
 cases c with
 | id =>
  simp only[mN] at h;split at h
  ·rename_i aT;simp only[dB,dE] at h;obtain⟨rfl,rfl⟩:=h;exact .pure (ai.Cm aT) aZ
  ·split at h
   ·rename_i r k i off _
    split at h
    ·rename_i j aq;simp only[dB,dE] at h;obtain⟨rfl,rfl⟩:=h;exact .ref i off (H.ab r j aq k) (by cases ai<;>assumption)
    ·simp at h
   ·rename_i r k b6 len _
    split at h
    ·rename_i j aq;simp only[dB,dE] at h;obtain⟨rfl,rfl⟩:=h;exact .bc b6 len (H.ab r j aq k) (km rfl)
    ·simp at h
   ·rename_i r c sz gN _
    split at h
    ·rename_i j aq;simp only[dB,dE] at h;obtain⟨rfl,rfl⟩:=h;exact .jR gN (fun k=>H.ab r j aq _)
    ·simp at h
   ·simp at h
 | fi sz =>
  cases x<;>simp[mN] at h
  ·obtain⟨rfl,rfl⟩:=h;exact .fv sz
  ·obtain⟨rfl,rfl⟩:=h;exact .jQ sz
 | eR hr =>
  cases x<;>simp only[mN,reduceCtorEq] at h;rename_i r k b6 len;split at h
  ·rename_i o ak
   split at h
   ·rename_i aY
    simp only[dL,Option.isNone_iff_eq_none] at aY;simp only[dB,dE] at h;obtain⟨rfl,rfl⟩:=h;have h1:hr=(o.es.drop b6).take len:=bp _ (by simp);have h2:b6+len<=o.es.length:=bp _ (by simp);have J:jx hr:=bp _ (by simp);have eK:s.an r k=some o:=ak
    have hlen : ∀e∈o.es,e.length=o.sz:=by
     have gv:=ek.obj r k o eK
     cases ah:aF r k with
     | none=>rw[ah] at gv;simp only[j8] at gv;rw[gv];simp
     | some q=>rw[ah] at gv;obtain⟨_,_,_,_,e,_⟩:=gv;exact e
    refine .isl eK aY.1 (H.aT r aY.2 k o eK aY.1) h2 J ?_ ?_ ?_
    ·rw[h1];exact fun e he=>hlen e (List.mem_of_mem_drop (List.mem_of_mem_take he))
    ·rw[h1];simp;omega
    ·intro j y nd aU ph;rw[h1] at ph;rw[aU] at ph;simp at ph;subst ph;rw[h1] at J;obtain⟨e,he,F3⟩:=uW aU;exact .pure (J e he y F3) (bC.all _ aY.1 y)
   ·simp at h
  ·simp at h
 | kq =>
  simp only[mN,dB,dE] at h;obtain⟨rfl,rfl⟩:=h;exact .dead x
 | cA y =>
  simp only[mN] at h;split at h
  ·rename_i aT;simp only[dB,dE] at h;obtain⟨rfl,rfl⟩:=h;have e:x=y:=bp _ (by simp);subst e;exact .pure (ai.Cm aT) aZ
  ·simp at h
 | len n =>
  cases x<;>simp only[mN,reduceCtorEq] at h;rename_i r k b6 len;split at h
  ·rename_i j aq;simp only[dB,dE] at h;obtain⟨rfl,rfl⟩:=h;have e:len=n:=bp _ (by simp);subst e;exact .bc b6 len (H.ab r j aq k) (km rfl)
  ·simp at h
 | at_ j i n =>
  cases x<;>simp only[mN,reduceCtorEq] at h
  ·rename_i r k x y;simp only[dB,dE] at h;obtain⟨rfl,rfl⟩:=h;exact .ref x y (bp _ (List.mem_cons_self)) (by cases ai<;>assumption)
  ·rename_i r k b6 len;simp only[dB,dE] at h;obtain⟨rfl,rfl⟩:=h;have e:len=n:=bp _ (by simp);subst e;exact .bc b6 len (bp _ (List.mem_cons_self)) (km rfl)
 | view er o hr =>
  cases x<;>simp only[mN,reduceCtorEq] at h;rename_i r k b6 len;split at h
  ·rename_i row kl d6 ahl
   split at h
   ·rename_i aY
    simp only[dL,Option.isNone_iff_eq_none] at aY;simp only[dB,dE] at h;obtain⟨rfl,rfl⟩:=h;have h1:dZ (some row) k=some o:=bp _ (by simp);have h2:bM o.cN=true:=bp _ (by simp);have J:b6+len<=o.es.length:=bp _ (by simp);have aj:jx hr:=bp _ (by simp);have av:GM er kl bM o.sz ((o.es.drop b6).take len) hr:=bp _ (by simp);have eK:s.an r k=some o:=(by unfold S.an;rw[d6];exact h1);obtain⟨d1,d2,d3⟩:=av;refine .isl eK h2 (H.aT r aY.1 k o eK h2) J aj d2 (by rw[d1];simp;omega) fun j y nd aU ph=> ?_;rcases d3 j y nd aU ph with ⟨rfl,aT⟩|⟨cm,WI,rfl,rfl⟩|⟨kr,Jn,IX,p,tD,e1,e2,bN,c0,rfl⟩
    ·obtain⟨e,he,F3⟩:=uW ph;exact .pure (aj e he nd F3) (bC.all _ h2 _)
    ·exact .nU _ _ _
    ·have mb:s.an er kr=some p:=by unfold S.an;rw[ahl];exact e1
     have hlen : ∀e∈p.es,e.length=p.sz:=by
      have gv:=ek.obj er kr p mb
      cases ah:aF er kr with
      | none=>rw[ah] at gv;simp only[j8] at gv;rw[gv];simp
      | some q=>rw[ah] at gv;obtain⟨_,_,_,_,e,_⟩:=gv;exact e
     have VP:iU s a5 bM q (.bc er kr Jn IX) (.isl p.sz ((p.es.drop Jn).take IX)):=(by refine .isl mb e2 (H.aT er aY.2 kr p mb e2) bN c0 (fun e he=>hlen e (List.mem_of_mem_drop (List.mem_of_mem_take he))) (by simp;omega) fun j z al2 cC uB=> ?_;rw[cC] at uB;simp at uB;subst uB;obtain⟨e,he,aiv⟩:=uW cC;exact .pure (c0 e he z aiv) (bC.all _ e2 _));rcases tD with rfl|⟨b3,aln,kf,rfl,rfl,rfl⟩
     ·exact VP
     ·exact .o7 VP
   ·simp at h
  ·simp at h
 | ra sz =>
  simp only[mN] at h;split at h
  ·simp only[dB,dE] at h;obtain⟨rfl,rfl⟩:=h;exact .II _
  ·split at h
   ·rename_i e;subst e;simp only[dB,dE] at h;obtain⟨rfl,rfl⟩:=h;exact .f6 (.pure (ai.Cm rfl) aZ)
   ·simp at h
  ·simp at h
theorem EB (ek:jr g s aF w)(H:nN s a5 cj bM)(bC:vU q bM){l:List tQ}{c eF:List aG}{an:List Prop}(h:mO (mN s.a0 cj a5 bM) l c=some (eF,an))(bp:∀p∈an,p)
 (aZ : ∀x∈c,q x) {vs:List Value} (aV:vs.length=c.length) (ai : ∀(j:Nat) x u,c[j]? = some x->vs[j]? = some u->Rel w (s.ok g aF w) s.bf (s.bk aF) x u) :
 eF.length=c.length/\ ∀(j:Nat) x c6,c[j]? = some x->eF[j]? = some c6->iU s a5 bM q x c6:=by
 obtain⟨e1,e2,bN⟩:=HV _ l c eF an h;refine⟨e1,fun j x c6 aa et=> ?_⟩;obtain⟨y,ch,f1,f2,f3⟩:=bN j x c6 aa et;have ep:j<vs.length:=by have:=f5 aa;omega
 exact LQ ek H bC f2 (fun p ah=>bp p (f3 p ah)) (aZ x (dH aa)) (ai j x _ aa (dz ep))
theorem LR (ek:jr g s aF w)(H:nN s a5 cj bM)(bC:vU q bM){c:C3}{x c6:aG}{an:List Prop}(h:pB s.a0 cj a5 bM c x=some (c6,an))(bp:∀p∈an,p)
 (aZ:q x) {v:Value} (ai:Rel w (s.ok g aF w) s.bf (s.bk aF) x v):iU s a5 bM q x c6:=by
 cases c with
 | b3 c =>
  simp only[pB] at h;split at h
  ·rename_i aT
   split at h
   ·simp only[dB,dE] at h;obtain⟨rfl,rfl⟩:=h;exact .pure (ai.IJ aT) aZ
   ·simp only[dB,dE] at h;obtain⟨rfl,rfl⟩:=h;exact .dead _
   ·simp only[dB,dE] at h;obtain⟨rfl,rfl⟩:=h;have e:=bp _ (List.mem_singleton.2 rfl);subst e;exact .pure (ai.IJ aT) aZ
   ·exact LQ ek H bC h bp aZ ai
  ·exact LQ ek H bC h bp aZ ai
 | agg l =>
  cases x<;>simp only[pB,reduceCtorEq] at h;rename_i c;split at h
  ·rename_i eF oL aY;simp only[dB,dE] at h;obtain⟨rfl,rfl⟩:=h;obtain⟨vs,rfl,aV,-,F4⟩:=ai.BX;obtain⟨e1,e2⟩:=EB ek H bC aY bp (fun y aU=>bC.agg _ _ aZ aU) aV F4;exact .agg e1 e2
  ·simp at h
 | ptr l =>
  cases x<;>simp only[pB,reduceCtorEq] at h;rename_i r k i off;split at h
  ·rename_i o ak
   split at h
   ·rename_i c iM
    split at h
    ·rename_i aY
     simp only[dL,Option.isNone_iff_eq_none] at aY;split at h
     ·rename_i eF oL i7
      simp only[dB,dE] at h;obtain⟨rfl,rfl⟩:=h;have eK:s.an r k=some o:=ak;have gv:=ek.obj r k o eK
      cases ah:aF r k with
      | none=>rw[ah] at gv;simp only[j8] at gv;rw[iM] at gv;simp at gv
      | some q =>
       obtain⟨b,m⟩:=q;rw[ah] at gv;obtain⟨cI,fo,g1,g2,g3,g4⟩:=gv;have M1:c.length=o.sz:=g3 c (by rw[iM];simp);have kK:o.es.flatten=c:=(by rw[iM];simp);have hcs : ∀j:Nat,j<c.length-> ∃u,cI[j]? = some u/\Rel w (s.ok g aF w) s.bf (s.bk aF) c[j]! u:=(by intro j aq;obtain⟨u,ke,-,ia⟩:=g4 j c[j] (by rw[kK];exact dz aq);exact⟨u,ke,by rw[getElem!_pos c j aq];exact ia⟩);obtain⟨e1,e2⟩:=EB (vs:=(List.range c.length).map fun j=>(cI[j]?).getD undef) ek H bC i7 (fun p ah=>bp p (by simp[ah])) (fun y _=>bC.all _ aY.1 y) (by simp) (by intro j y u aU hu;have aq:=f5 aU;rw[dJ,List.getElem?_range aq] at hu;simp only[Option.map_some,dB] at hu;obtain⟨mh,ke,ia⟩:=hcs j aq;rw[ke] at hu;simp at hu;subst hu;rw[dz aq] at aU;simp at aU;subst aU;rw[getElem!_pos c j aq] at ia;exact ia);have vk:jx [eF]:=bp _ (by simp);refine .fg i off eK aY.1 (H.aT r aY.2 k o eK aY.1) (by rw[iM];simp) vk (by simp;omega) (by rw[iM];rfl) ?_
       ·intro j y nd aU ph;rw[kK] at aU;simp only[List.flatten_cons,List.flatten_nil,List.append_nil] at ph;exact e2 j y nd aU ph
     ·simp at h
    ·simp at h
   ·simp at h
  ·simp at h
 | vu l =>
  simp only[pB] at h;split at h
  ·rename_i r k
   split at h
   ·rename_i o ak
    split at h
    ·rename_i c iM
     split at h
     ·rename_i aY
      simp only[dL,Option.isNone_iff_eq_none] at aY;split at h
      ·rename_i eF oL i7
       simp only[dB,dE] at h;obtain⟨rfl,rfl⟩:=h;have eK:s.an r k=some o:=ak;have gv:=ek.obj r k o eK
       cases ah:aF r k with
       | none=>rw[ah] at gv;simp only[j8] at gv;rw[iM] at gv;simp at gv
       | some q =>
        obtain⟨b,m⟩:=q;rw[ah] at gv;obtain⟨cI,fo,g1,g2,g3,g4⟩:=gv;have M1:c.length=o.sz:=g3 c (by rw[iM];simp);have kK:o.es.flatten=c:=(by rw[iM];simp);have hcs : ∀j:Nat,j<c.length-> ∃u,cI[j]? = some u/\Rel w (s.ok g aF w) s.bf (s.bk aF) c[j]! u:=(by intro j aq;obtain⟨u,ke,-,ia⟩:=g4 j c[j] (by rw[kK];exact dz aq);exact⟨u,ke,by rw[getElem!_pos c j aq];exact ia⟩);obtain⟨e1,e2⟩:=EB (vs:=(List.range c.length).map fun j=>(cI[j]?).getD undef) ek H bC i7 (fun p ah=>bp p (by simp[ah])) (fun y _=>bC.all _ aY.1 y) (by simp) (by intro j y u aU hu;have aq:=f5 aU;rw[dJ,List.getElem?_range aq] at hu;simp only[Option.map_some,dB] at hu;obtain⟨mh,ke,ia⟩:=hcs j aq;rw[ke] at hu;simp at hu;subst hu;rw[dz aq] at aU;simp at aU;subst aU;rw[getElem!_pos c j aq] at ia;exact ia);have vk:jx [eF]:=bp _ (by simp);refine .f6 (.fg 0 0 eK aY.1 (H.aT r aY.2 k o eK aY.1) (by rw[iM];simp) vk (by simp;omega) (by rw[iM];rfl) ?_)
        ·intro j y nd aU ph;rw[kK] at aU;simp only[List.flatten_cons,List.flatten_nil,List.append_nil] at ph;exact e2 j y nd aU ph
      ·simp at h
     ·simp at h
    ·simp at h
   ·simp at h
  ·simp at h
theorem EI (ek:jr g s aF w)(H:nN s a5 cj bM)(bC:vU q bM){c:mD}{x c6:aG}{an:List Prop}(h:oZ s.a0 cj a5 bM c x=some (c6,an))(bp:∀p∈an,p)
 (aZ:q x) {v:Value} (ai:Rel w (s.ok g aF w) s.bf (s.bk aF) x v):iU s a5 bM q x c6:=by
 have key : ∀(l:List C3) (c eF:List aG) (oL:List Prop) (vs:List Value),mO (pB s.a0 cj a5 bM) l c=some (eF,oL)->(∀p∈oL,p)->(∀x∈c,q x)->vs.length=c.length ->
  (∀(j:Nat) x u,c[j]? = some x->vs[j]? = some u->Rel w (s.ok g aF w) s.bf (s.bk aF) x u)->eF.length=c.length/\ ∀(j:Nat) x c6,c[j]? = some x->eF[j]? = some c6->iU s a5 bM q x c6:=by
  intro l c eF oL vs h bp aZ aV ai;obtain⟨e1,e2,bN⟩:=HV _ l c eF oL h;refine⟨e1,fun j x c6 aa et=> ?_⟩;obtain⟨y,ch,f1,f2,f3⟩:=bN j x c6 aa et;have ep:j<vs.length:=(by have:=f5 aa;omega);exact LR ek H bC f2 (fun p ah=>bp p (f3 p ah)) (aZ x (dH aa)) (ai j x _ aa (dz ep))
 cases c with
 | bl c =>
  simp only[oZ] at h;split at h
  ·rename_i aT
   split at h
   ·simp only[dB,dE] at h;obtain⟨rfl,rfl⟩:=h;exact .pure (ai.ahk aT) aZ
   ·exact LR ek H bC h bp aZ ai
  ·exact LR ek H bC h bp aZ ai
 | comp l =>
  cases x<;>simp only[oZ,reduceCtorEq] at h
  ·rename_i c
   split at h
   ·rename_i eF oL aY;simp only[dB,dE] at h;obtain⟨rfl,rfl⟩:=h;obtain⟨vs,rfl,aV,F4⟩:=ai.BZ;obtain⟨e1,e2⟩:=key l c eF oL vs aY bp (fun y aU=>bC.de _ _ aZ aU) aV F4;exact .de e1 e2
   ·simp at h
  ·rename_i f c
   split at h
   ·rename_i eF oL aY;simp only[dB,dE] at h;obtain⟨rfl,rfl⟩:=h;obtain⟨vs,rfl,aV,F4⟩:=ai.Iw;obtain⟨e1,e2⟩:=key l c eF oL vs aY bp (fun y aU=>bC.fn _ _ _ aZ aU) aV F4;exact .fn e1 e2
   ·simp at h
theorem VQ (ek:jr g s aF w)(H:nN s a5 cj bM){r:Nat}{ld:Nat->Nat}{row:List a9}(d6:∀k o,dZ (some row) k=some o->s.an r (ld k)=some o)
 (aZ : ∀k o,dZ (some row) k=some o-> ∀e∈o.es,∀x∈e,q x) :
 ∀(k:Nat) ch,dZ (some (row.map (kM cj))) k=some ch-> ∃o,dZ (some row) k=some o/\pN s a5 bM q o ch:=by
 intro k ch eK;rw[lv,dJ] at eK
 cases aX:row[k]? with
 | none=>rw[aX] at eK;simp at eK
 | some o =>
  rw[aX] at eK;simp only[Option.map_some,dx] at eK;split at eK
  ·simp at eK
  ·rename_i di
   simp only[dB] at eK;subst eK;have ak:dZ (some row) k=some o:=(by rw[lv,aX,dx,dA (by simpa [kM] using di)]);have bJ:s.an r (ld k)=some o:=d6 k o ak;refine⟨o,ak,?_⟩;have gv:=ek.obj r (ld k) o bJ
   have hlen : ∀e∈o.es,e.length=o.sz:=by
    cases ah:aF r (ld k) with
    | none=>rw[ah] at gv;simp only[j8] at gv;rw[gv];simp
    | some q=>rw[ah] at gv;obtain⟨_,_,_,_,e,_⟩:=gv;exact e
   refine⟨rfl,.inl rfl,by simp[kM],?_,fun j x c6 aa et=> ?_⟩
   ·intro e he;simp only[kM,List.mem_map] at he;obtain⟨e3,m7,rfl⟩:=he;simpa using hlen e3 m7
   ·simp only[kM] at et
    rw[map_flatten,dJ,aa] at et;simp only[Option.map_some,dB] at et;subst et;obtain⟨e,he,sN⟩:=uW aa;have aiw:=aZ k o ak e he x sN
    cases ah:aF r (ld k) with
    | none=>rw[ah] at gv;simp only[j8] at gv;rw[gv] at aa;simp at aa
    | some vT =>
     obtain⟨b,m⟩:=vT;rw[ah] at gv;obtain⟨c,fo,f1,f2,f3,f4⟩:=gv;obtain⟨u,ke,mG,ia⟩:=f4 j x aa
     cases x with
     | ref r2 kr i2 ahT =>
      cases cg:cj r2 with
      | none=>simp only[pg,cg];exact .dead _
      | some zw=>simp only[pg,cg];exact .ref i2 ahT (H.ab _ _ cg _) (by cases ia<;>assumption)
     | bc r2 kr Jn IX =>
      cases cg:cj r2 with
      | none=>simp only[pg,cg];exact .dead _
      | some zw=>simp only[pg,cg];exact .bc Jn IX (H.ab _ _ cg _) (by cases ia<;>assumption)
     | jR r2 cm WI h2 =>
      cases cg:cj r2 with
      | none=>simp only[pg,cg];exact .dead _
      | some zw=>simp only[pg,cg];exact .jR h2 (fun k=>H.ab _ _ cg _)
     | _ =>
      simp only[pg];split
      ·rename_i aT;exact .pure (ia.Cm aT) aiw
      ·exact .dead _
theorem HW (ek:jr g s aF w)(H:nN s a5 cj bM)(bC:vU q bM){c:jv}{r:Nat}{ld:Nat->Nat}{row eS:List a9}{an:List Prop}(d6:∀k o,dZ (some row) k=some o->s.an r (ld k)=some o)
 (h:j9 s.a0 cj a5 bM c row=some (eS,an)) (bp : ∀p∈an,p) (aZ : ∀k o,dZ (some row) k=some o-> ∀e∈o.es,∀x∈e,q x) :
 eS.length=row.length/\(∀k o,dZ (some row) k=some o->o.cN = .live) /\
 ∀(k:Nat) ch,dZ (some eS) k=some ch-> ∃o,dZ (some row) k=some o/\pN s a5 bM q o ch:=by
 have hlen : ∀k o,dZ (some row) k=some o-> ∀e∈o.es,e.length=o.sz:=by
  intro k o ak;have eK:s.an r (ld k)=some o:=d6 k o ak;have gv:=ek.obj r (ld k) o eK
  cases ah:aF r (ld k) with
  | none=>rw[ah] at gv;simp only[j8] at gv;rw[gv];simp
  | some q=>rw[ah] at gv;obtain⟨_,_,_,_,e,_⟩:=gv;exact e
 have vk:wk row->(∀k o,dZ (some row) k=some o->o.cN = .live) /\
  ∀(k:Nat) ch,dZ (some row) k=some ch-> ∃o,dZ (some row) k=some o/\pN s a5 bM q o ch:=by
  intro ah
  have uw : ∀k o,dZ (some row) k=some o->o∈row:=by
   intro k o ak;unfold dZ at ak;simp only at ak;split at ak
   ·rename_i ch eK
    split at ak
    ·simp at ak
    ·simp at ak;subst ak;exact dH eK
   ·simp at ak
  refine⟨fun k o ak=>(ah o (uw k o ak)).2,fun k o ak=>⟨o,ak,rfl,.inl rfl,rfl,hlen k o ak,fun j x c6 aa et=> ?_⟩⟩;rw[aa] at et;simp at et;subst et;obtain⟨e,he,sN⟩:=uW aa;exact .pure ((ah o (uw k o ak)).1 e he x sN) (aZ k o ak e he x sN)
 cases c with
 | pure =>
  simp only[j9,dB,dE] at h;obtain⟨rfl,rfl⟩:=h;exact⟨rfl,vk (bp _ (by simp))⟩
 | cA aL =>
  simp only[j9,dB,dE] at h;obtain⟨rfl,rfl⟩:=h;have e:row=aL:=bp _ (by simp);subst e;exact⟨rfl,vk (bp _ (by simp))⟩
 | bx aL =>
  simp only[j9,dB,dE] at h;obtain⟨rfl,rfl⟩:=h;have e:aL=row.map (kM cj):=bp _ (by simp);have Ny:o0 row:=bp _ (by simp);subst e
  refine⟨by simp,fun k o ak=>by
   unfold dZ at ak;simp only at ak;split at ak
   ·rename_i ch eK
    split at ak
    ·simp at ak
    ·rename_i di;simp at ak;subst ak;exact(Ny _ (dH eK)).resolve_right di
   ·simp at ak,VQ ek H d6 aZ⟩
 | rx aL=>cases row with
  | nil=>simp[j9] at h
  | cons o l=>cases l<;>simp[j9] at h
 | drop=>cases row with
  | nil=>simp[j9] at h
  | cons o l=>cases l<;>simp[j9] at h
 | box l =>
  match row,h with
  | [o],h =>
   simp only[j9] at h;split at h
   ·rename_i c iM
    split at h
    ·rename_i pd
     split at h
     ·rename_i eF oL aY
      simp only[dB,dE] at h;obtain⟨rfl,rfl⟩:=h;have h0:dZ (some [o]) 0=some o:=(by rw[nj];simp[pd]);refine⟨rfl,fun k p ah=> ?_,fun k p ah=> ?_⟩
      ·rw[nj] at ah
       split at ah
       ·simp at ah;subst ah;exact pd
       ·simp at ah
      ·rw[nj] at ah
       split at ah
       ·rename_i vF
        obtain⟨rfl,-⟩:=vF;simp only[dB] at ah;subst ah;refine⟨o,h0,?_⟩;have eK:s.an r (ld 0)=some o:=d6 0 o h0;have gv:=ek.obj r (ld 0) o eK
        cases lx:aF r (ld 0) with
        | none=>rw[lx] at gv;simp only[j8] at gv;rw[iM] at gv;simp at gv
        | some q =>
         obtain⟨b,m⟩:=q;rw[lx] at gv;obtain⟨cI,fo,g1,g2,g3,g4⟩:=gv;have M1:c.length=o.sz:=g3 c (by rw[iM];simp);have kK:o.es.flatten=c:=(by rw[iM];simp);obtain⟨e1,e2⟩:=EB (vs:=(List.range c.length).map fun j=>(cI[j]?).getD undef) ek H bC aY bp (fun y aU=>aZ 0 o h0 c (by rw[iM];simp) y aU) (by simp) (by intro j y u aU hu;have aq:=f5 aU;rw[dJ,List.getElem?_range aq] at hu;simp only[Option.map_some,dB] at hu;obtain⟨mh,ke,-,ia⟩:=g4 j y (by rw[kK];exact aU);rw[ke] at hu;simp at hu;subst hu;exact ia);refine⟨rfl,.inl rfl,by simp[iM],by simp;omega,fun j x c6 aa et=> ?_⟩;rw[kK] at aa;simp only[List.flatten_cons,List.flatten_nil,List.append_nil] at et;exact e2 j x c6 aa et
       ·simp at ah
     ·simp at h
    ·simp at h
   ·simp at h
  | [],h=>simp[j9] at h
  | _::_::_,h=>simp[j9] at h
end
def HX (P:Program)(f:FuncId):Prop:= ∃fn,P.funcs[f]? = some fn/\(fn.name == "runtime.NumGoroutine")=false/\fn.body.isSome=true
def Con (P:Program)(f:FuncId)(args:List aG)(T:List (List a9))(r:aG)(h3:List (List a9)):Prop:=HX P f/\ahh P f args T r h3
def vl (k:hc):Bool:=k = .jS
def lG (_:hc):Bool:=true
def lX (_:hc):Bool:=false
def Src.r:Src->Nat
 | .row r=>r
 | .an r _ _=>r
def Src.has:Src->Nat->Nat->Prop
 | .row r,q,_=>q=r
 | .an r k _,q,eu=>q=r/\eu=k
def Src.lr:Src->Nat->Nat
 | .row _,k=>k
 | .an ..,_=>0
def lM (l:List Src):hS:=fun j i=>match l[j]? with
 | some (.row r)=>some (r,i)
 | some (.an r k _)=>if i=0 then some (r,k) else none
 | none=>none
def qj (n:Nat):List Src->Nat->Option Nat
 | [],_=>none
 | .row r::l,q=>if r=q then some n else qj (n+1) l q
 | .an .. :: l,q=>qj (n+1) l q
def kn (n:Nat):List Src->hS
 | [],_,_=>none
 | .row r::l,q,k=>if q=r then some (n,k) else kn (n+1) l q k
 | .an r eu _::l,q,k=>if q=r/\k=eu then some (n,0) else kn (n+1) l q k
def vm (l:List Src):Nat->Option Nat:=fun j=>match l[j]? with
 | some (.row r)=>some r
 | _=>none
def apart:Src->Src->Option (List Prop)
 | .an r k _,.an fp eu _=>if r=fp then some [k≠eu] else some []
 | a,b=>if a.r=b.r then none else some []
def Iy (a:Src):List Src->Option (List Prop)
 | []=>some []
 | b::l=>match apart a b,Iy a l with
  | some x,some y=>some (x++y)
  | _,_=>none
def IK:List Src->Option (List Prop)
 | []=>some []
 | a::l=>match Iy a l,IK l with
  | some x,some y=>some (x++y)
  | _,_=>none
def FI (l:List Src):Prop:=l.Pairwise fun a b=> ∀r k,¬(a.has r k/\b.has r k)
theorem aeW {a b:Src}{an:List Prop}(h:apart a b=some an)(bp:∀p∈an,p): ∀r k,¬(a.has r k/\b.has r k):=by
 rintro r k ⟨h1,h2⟩
 have ai : ∀c:Src,c.has r k->c.r=r:=fun c aY=>by
  cases c with
  | row r0=>exact Eq.symm aY
  | an r0 kf mH=>exact Eq.symm aY.1
 have e:=(ai a h1).trans (ai b h2).symm
 cases a with
 | row r0=>simp only[apart] at h;rw[dw e] at h;simp at h
 | an r0 kf mH =>
  cases b with
  | row r1=>simp only[apart] at h;rw[dw e] at h;simp at h
  | an r1 lR bQ =>
   simp only[apart] at h;rw[dw (show r0=r1 from e)] at h;simp only[dB] at h;subst h;exact bp _ (List.mem_singleton.2 rfl) (h1.2.symm.trans h2.2)
theorem Tu {a:Src}: ∀ {l:List Src} {an:List Prop},Iy a l=some an->(∀p∈an,p)-> ∀b∈l,∀r k,¬(a.has r k/\b.has r k)
 | [],_,_,_,_,aW=>by simp at aW
 | b::l,an,h,bp,c,aY=>by
  simp only[Iy] at h;split at h
  ·rename_i x y h1 h2
   simp only[dB] at h;subst h;rcases List.mem_cons.1 aY with rfl|aY
   ·exact aeW h1 fun p ah=>bp p (by simp[ah])
   ·exact Tu h2 (fun p ah=>bp p (by simp[ah])) c aY
  ·simp at h
theorem T5 : ∀ {l:List Src} {an:List Prop},IK l=some an->(∀p∈an,p)->FI l
 | [],_,_,_=>List.Pairwise.nil
 | a::l,an,h,bp=>by
  simp only[IK] at h;split at h
  ·rename_i x y h1 h2;simp only[dB] at h;subst h;exact List.pairwise_cons.2 ⟨Tu h1 fun p ah=>bp p (by simp[ah]),T5 h2 fun p ah=>bp p (by simp[ah])⟩
  ·simp at h
theorem wo {l:List Src}{j i r k:Nat}:lM l j i=some (r,k)↔ ∃a,l[j]? = some a/\a.has r k/\i=a.lr k:=by
 unfold lM
 cases h:l[j]? with
 | none=>simp
 | some a =>
  cases a with
  | row r0 =>
   simp only[dB,dE,exists_eq_left',Src.has,Src.lr];constructor<;>rintro⟨a,b⟩<;>exact⟨a.symm,b⟩
  | an r0 kf o =>
   simp only[dB,exists_eq_left',Src.has,Src.lr];by_cases e:i=0
   ·rw[dw e];simp only[dB,dE,e,and_true];constructor<;>rintro⟨a,b⟩<;>exact⟨a.symm,b.symm⟩
   ·rw[dA e];simp[e]
theorem x9 : ∀ {l:List Src} {n r k j i:Nat},kn n l r k=some (j,i)-> ∃a,n<=j/\l[j-n]? = some a/\a.has r k/\i=a.lr k
 | [],_,_,_,_,_,h=>by simp[kn] at h
 | .row r0::l,n,r,k,j,i,h=>by
  simp only[kn] at h;split at h
  ·rename_i e;simp only[dB,dE] at h;obtain⟨rfl,rfl⟩:=h;exact⟨.row r0,dD _,by simp,e,rfl⟩
  ·obtain⟨a,h1,h2,J,aj⟩:=x9 h;exact⟨a,by omega,by rw[show j-n=(j-(n+1))+1 by omega,List.getElem?_cons_succ];exact h2,J,aj⟩
 | .an r0 kf o::l,n,r,k,j,i,h=>by
  simp only[kn] at h;split at h
  ·rename_i e;simp only[dB,dE] at h;obtain⟨rfl,rfl⟩:=h;exact⟨.an r0 kf o,dD _,by simp,e,rfl⟩
  ·obtain⟨a,h1,h2,J,aj⟩:=x9 h;exact⟨a,by omega,by rw[show j-n=(j-(n+1))+1 by omega,List.getElem?_cons_succ];exact h2,J,aj⟩
theorem ug (n:Nat)(a:Src)(l:List Src)(r k:Nat)(h:¬a.has r k):kn n (a::l) r k=kn (n+1) l r k:=by cases a<;>simp only[kn,Src.has] at h ⊢ <;> rw[dA h]
theorem aeX (n:Nat)(a:Src)(l:List Src)(r k:Nat)(h:a.has r k):kn n (a::l) r k=some (n,a.lr k):=by cases a<;>simp only[kn,Src.has,Src.lr] at h ⊢ <;> rw[dw h]
theorem EZ : ∀ {l:List Src} {n r k j:Nat} {a:Src},FI l->l[j]? = some a->a.has r k->kn n l r k=some (n+j,a.lr k)
 | b::l,n,r,k,0,a,_,h,bG=>by simp at h;subst h;exact aeX n b l r k bG
 | b::l,n,r,k,j+1,a,bC,h,bG=>by simp at h;have bC:=List.pairwise_cons.1 bC;rw[ug n b l r k fun aW=>bC.1 a (dH h) r k ⟨aW,bG⟩,EZ (j:=j) bC.2 h bG];congr 2;omega
theorem agy {a:Src}{r k fp eu:Nat}(h:a.has r k)(c1:a.has fp eu)(e:a.lr k=a.lr eu):r=fp/\k=eu:=by cases a<;>simp only[Src.has,Src.lr] at h c1 e<;>omega
theorem afS {l:List Src}{n r k fp eu:Nat}{p:Nat×Nat}(h:kn n l r k=some p)(c1:kn n l fp eu=some p):r=fp/\k=eu:=by obtain⟨j,i⟩:=p;obtain⟨a,h1,h2,J,aj⟩:=x9 h;obtain⟨ej,sM,F5,Nz,alo⟩:=x9 c1;rw[h2] at F5;simp at F5;subst F5;exact agy J Nz (by omega)
theorem LA : ∀ {l:List Src} {n r j:Nat},qj n l r=some j->n<=j/\l[j-n]? = some (.row r)
 | [],_,_,_,h=>by simp[qj] at h
 | .row r0::l,n,r,j,h=>by
  simp only[qj] at h;split at h
  ·rename_i e;simp at h;subst h;subst e;exact⟨dD _,by simp⟩
  ·obtain⟨h1,h2⟩:=LA h;exact⟨by omega,by rw[show j-n=(j-(n+1))+1 by omega,List.getElem?_cons_succ];exact h2⟩
 | .an r0 kf o::l,n,r,j,h=>by simp only[qj] at h;obtain⟨h1,h2⟩:=LA h;exact⟨by omega,by rw[show j-n=(j-(n+1))+1 by omega,List.getElem?_cons_succ];exact h2⟩
def nk (a0:Nat->Option (List a9))(cj:Nat->Option Nat)(a5:hS):List Src->List jv->Option (List (List a9)×List Prop)
 | [],[]=>some ([],[])
 | .row r::l,c::dr=>match a0 r with
  | some row=>match j9 a0 cj a5 vl c row,nk a0 cj a5 l dr with
   | some (eS,bQ),some (T,aN)=>some (eS::T,bQ++aN)
   | _,_=>none
  | none=>none
 | .an r k o::l,c::dr=>match a0 r with
  | some row=>match j9 a0 cj a5 vl c [o],nk a0 cj a5 l dr with
   | some (eS,bQ),some (T,aN)=>some (eS::T,(dZ (some row) k=some o)::(bQ++aN))
   | _,_=>none
  | none=>none
 | _,_=>none
def l5 (zx:Nat->Option (List a9))(cj:Nat->Option Nat)(lS:hS):(Nat->Option (List a9))->List Src->List jv->List (List a9)->Option (List (Nat×List a9)×List Prop)
 | _,[],[],[]=>some ([],[])
 | a0,.row q::l,c::dr,row::T=>match j9 zx cj lS lX c row with
  | some (eS,bQ)=>match l5 zx cj lS (fun x=>if x=q then some eS else a0 x) l dr T with
   | some (u,aN)=>some ((q,eS)::u,bQ++aN)
   | none=>none
  | none=>none
 | a0,.an q k _::l,c::dr,row::T=>match a0 q with
  | some mU=>match j9 zx cj lS lX c row with
   | some ([ch],bQ)=>match l5 zx cj lS (fun x=>if x=q then some (mU.set k ch) else a0 x) l dr T with
    | some (u,aN)=>some ((q,mU.set k ch)::u,bQ++aN)
    | none=>none
   | _=>none
  | none=>none
 | _,_,_,_=>none
def n7 (T:List (List a9)):Prop:= ∀row∈T,∀o∈row,∀e∈o.es,∀x∈e,bU x
def Cn (P:Program)(a0:Nat->Option (List a9))(a1:Nat)(f:FuncId)(args:List aG)(cI:GH):Option iR :=
 let l:=if cI.fx.length=cI.a5.length then cI.a5 else cI.a5++[.row a1]
 match IK cI.a5 with
 | none=>none
 | some mH =>
  if cI.a5.any (fun a=>decide (a.r=a1)) then none else
  if cI.fa then
   match cI.a5 with
   | [] =>
    match mO (oZ a0 (fun _=>none) (lM []) lG) cI.ac args,oZ (fun j=>cI.fx[j]?) (vm l) (kn 0 l) lX cI.ht cI.r,
     l5 (fun j=>cI.fx[j]?) (vm l) (kn 0 l) a0 l cI.iL cI.fx with
    | some (sD,bQ),some (fp,eN),some (u,eo)=>some {val:=fp,gI:=u,f7:=bQ++eN++eo++[Con P f sD [] cI.r cI.fx,bU cI.r]++(if cI.fx.isEmpty then [] else [n7 cI.fx])}
    | _,_,_=>none
   | _=>none
  else
   match mO (oZ a0 (qj 0 cI.a5) (lM cI.a5) vl) cI.ac args,nk a0 (qj 0 cI.a5) (lM cI.a5) cI.a5 cI.dr,
    oZ (fun j=>cI.fx[j]?) (vm l) (kn 0 l) lX cI.ht cI.r,l5 (fun j=>cI.fx[j]?) (vm l) (kn 0 l) a0 l cI.iL cI.fx with
   | some (sD,bQ),some (T,aN),some (fp,eN),some (u,eo) =>
    some {val:=fp,gI:=u,f7:=mH++bQ++aN++eN++eo++[Con P f sD T cI.r cI.fx]}
   | _,_,_,_=>none
theorem S1 {a0:Nat->Option (List a9)}{cj:Nat->Option Nat}{a5:hS}{bM:hc->Bool}{c:jv}{row eS:List a9}{an:List Prop}(h:j9 a0 cj a5 bM c row=some (eS,an))(bp:∀p∈an,p):
 ∀k o,dZ (some row) k=some o->o.cN = .live:=by
 have uw : ∀k o,dZ (some row) k=some o->o∈row/\o.cN≠ .gone:=by
  intro k o ak;rw[lv] at ak
  cases aX:row[k]? with
  | none=>rw[aX] at ak;simp at ak
  | some p =>
   rw[aX,dx] at ak;split at ak
   ·simp at ak
   ·rename_i e;simp at ak;subst ak;exact⟨dH aX,e⟩
 intro k o ak;obtain⟨h1,h2⟩:=uw k o ak
 cases c with
 | pure =>
  simp only[j9,dB,dE] at h;obtain⟨rfl,rfl⟩:=h;exact((bp _ (List.mem_singleton.2 rfl):wk row) o h1).2
 | cA aL =>
  simp only[j9,dB,dE] at h;obtain⟨rfl,rfl⟩:=h;have e:row=aL:=bp _ (by simp);have ah:wk aL:=bp _ (by simp);exact(ah o (e▸h1)).2
 | bx aL =>
  simp only[j9,dB,dE] at h;obtain⟨rfl,rfl⟩:=h;have ah:o0 row:=bp _ (by simp);exact(ah o h1).resolve_right h2
 | rx aL=>cases row with
  | nil=>simp[j9] at h
  | cons o l=>cases l<;>simp[j9] at h
 | drop=>cases row with
  | nil=>simp[j9] at h
  | cons o l=>cases l<;>simp[j9] at h
 | box l =>
  match row,h,h1 with
  | [p],h,h1 =>
   simp only[j9] at h;rw[List.mem_singleton] at h1;subst h1;split at h
   ·split at h
    ·rename_i e;exact e
    ·simp at h
   ·simp at h
  | [],h,_=>simp[j9] at h
  | _::_::_,h,_=>simp[j9] at h
section
variable {P:Program} {g:G} {s:S} {aF:gh} {a:Act} {w:World}
theorem LB (ek:jr g s aF w){a5:hS}{cj:Nat->Option Nat}(H:nN s a5 cj vl): ∀(l:List Src) (dr:List jv) (T:List (List a9)) (an:List Prop),
 nk s.a0 cj a5 l dr=some (T,an)->(∀p∈an,p)->T.length=l.length/\ ∀(j:Nat) eS b,T[j]? = some eS->l[j]? = some b ->
  (∀r k o,b.has r k->s.an r k=some o->o.cN = .live)/\(∀r k,b.has r k->s.bf r k->b.lr k<eS.length) /\
  (∀r k o,b = .an r k o->s.an r k=some o) /\
  ∀(i:Nat) ch,dZ (some eS) i=some ch-> ∃r k o,b.has r k/\i=b.lr k/\s.an r k=some o/\pN s a5 vl m9 o ch
 | [],[],T,an,h,_=>by simp[nk] at h;obtain⟨rfl,rfl⟩:=h;exact⟨rfl,fun j eS r aq=>by simp at aq⟩
 | .row r::l,c::dr,T,an,h,bp=>by
  simp only[nk] at h;split at h
  ·rename_i row d6
   split at h
   ·rename_i aC bQ oh aN h1 h2
    simp only[dB,dE] at h;obtain⟨rfl,rfl⟩:=h;obtain⟨e1,e2⟩:=LB ek H l dr oh aN h2 (fun p ah=>bp p (by simp[ah]));have ky : ∀k,s.an r k=dZ (some row) k:=fun k=>(by unfold S.an;rw[d6]);obtain⟨f0,f1,f2⟩:=HW (q:=m9) (ld:=id) ek H (wS _) (fun k o ak=>(ky k).trans ak) h1 (fun p ah=>bp p (by simp[ah])) (fun _ _ _ _ _ _ _=>trivial);refine⟨by simp[e1],fun j eS b aq aW=> ?_⟩
    cases j with
    | zero =>
     simp at aq aW;subst aq;subst aW;refine⟨fun q k o aZ ak=> ?_,fun q k aZ hu=> ?_,fun _ _ _ e=>by simp at e,fun i ch eK=> ?_⟩
     ·have aZ:q=r:=aZ;subst aZ;rw[ky] at ak;exact f1 k o ak
     ·have aZ:q=r:=aZ;subst aZ;rw[f0];simpa [S.bf,d6,Src.lr] using hu
     ·obtain⟨o,g1,g2⟩:=f2 i ch eK;exact⟨r,i,o,rfl,rfl,(ky i).trans g1,g2⟩
    | succ j=>simp at aq aW;exact e2 j eS b aq aW
   ·simp at h
  ·simp at h
 | .an r kf mH::l,c::dr,T,an,h,bp=>by
  simp only[nk] at h;split at h
  ·rename_i row d6
   split at h
   ·rename_i aC bQ oh aN h1 h2
    simp only[dB,dE] at h;obtain⟨rfl,rfl⟩:=h;obtain⟨e1,e2⟩:=LB ek H l dr oh aN h2 (fun p ah=>bp p (by simp[ah]));have ak:s.an r kf=some mH:=by unfold S.an;rw[d6];exact bp _ (by simp)
    have m5 : ∀k o,dZ (some [mH]) k=some o->k=0/\o=mH:=fun k o aX=>by
     rw[nj] at aX;split at aX
     ·rename_i e;simp at aX;exact⟨e.1,aX.symm⟩
     ·simp at aX
    have NA:mH.cN≠ .gone:=by
     unfold S.an at ak;rw[d6,lv] at ak
     cases aX:row[kf]? with
     | none=>rw[aX] at ak;simp at ak
     | some p =>
      rw[aX,dx] at ak;split at ak
      ·simp at ak
      ·rename_i e;simp at ak;subst ak;exact e
    obtain⟨f0,f1,f2⟩:=HW (q:=m9) (ld:=fun _=>kf) (r:=r) ek H (wS _) (fun k o aX=>by rw[(m5 k o aX).2];exact ak) h1 (fun p ah=>bp p (by simp[ah])) (fun _ _ _ _ _ _ _=>trivial);refine⟨by simp[e1],fun j eS b aq aW=> ?_⟩
    cases j with
    | zero =>
     simp at aq aW;subst aq;subst aW;refine⟨fun q k o aZ pe=> ?_,fun q k aZ hu=> ?_,fun fp eu ch e=> ?_,fun i ch eK=> ?_⟩
     ·obtain⟨rfl,rfl⟩:q=r/\k=kf:=aZ;rw[ak] at pe;simp at pe;subst pe;exact f1 0 mH (by rw[nj];simp[NA])
     ·rw[f0];simp[Src.lr]
     ·cases e;exact ak
     ·obtain⟨o,g1,g2⟩:=f2 i ch eK;obtain⟨rfl,rfl⟩:=m5 i o g1;exact⟨r,kf,o,⟨rfl,rfl⟩,rfl,ak,g2⟩
    | succ j=>simp at aq aW;exact e2 j eS b aq aW
   ·simp at h
  ·simp at h
 | [],_::_,_,_,h,_=>by simp[nk] at h
 | .row _::_,[],_,_,h,_=>by simp[nk] at h
 | .an .. :: _,[],_,_,h,_=>by simp[nk] at h
theorem Lp {gS:G}{s1:S}{l1:gh}{bT:World}(ek:jr gS s1 l1 bT){lS:hS}{q:aG->Prop}{cj:Nat->Option Nat}(H:nN s1 lS cj lX)(bC:vU q lX)
 (aZ : ∀j i o,s1.an j i=some o-> ∀e∈o.es,∀x∈e,q x) :
 ∀(l:List Src) (dr:List jv) (T:List (List a9)) (u:List (Nat×List a9)) (an:List Prop) (n:Nat) (s:S),FI l->(∀j row,T[j]? = some row->s1.a0 (n+j)=some row) ->
 (∀r k j i,kn n l r k=some (j,i)->s.bf r k->s1.bf j i)->(∀r k o,Src.an r k o∈l->s.bf r k) ->
 l5 s1.a0 cj lS s.a0 l dr T=some (u,an)->(∀p∈an,p)->T.length=l.length/\(s.jg u).E=s.E /\
  (∀r k o,(s.jg u).an r k=some o->(∃j i p,kn n l r k=some (j,i)/\s1.an j i=some p/\pN s1 lS lX q p o)\/(kn n l r k=none/\s.an r k=some o)) /\
  (∀r k,s.bf r k->(s.jg u).bf r k)/\(∀r k j i,kn n l r k=some (j,i)->s1.bf j i->(s.jg u).bf r k)
 | [],[],[],u,an,n,s,_,_,_,_,h,_=>by simp[l5] at h;obtain⟨rfl,rfl⟩:=h;exact⟨rfl,rfl,fun r k o ak=> .inr ⟨rfl,ak⟩,fun r k h=>h,fun r k j i h=>by simp[kn] at h⟩
 | .row q0::l,c::dr,row::T,u,an,n,s,sZ,hZ,hu,tC,h,bp=>by
  simp only[l5] at h;split at h
  ·rename_i eS bQ h1
   split at h
   ·rename_i mG aN h2
    simp only[dB,dE] at h;obtain⟨rfl,rfl⟩:=h;have F6:=List.pairwise_cons.1 sZ;have ji:s1.a0 n=some row:=hZ 0 row rfl;have yY : ∀k,s1.an n k=dZ (some row) k:=fun k=>(by unfold S.an;rw[ji]);obtain⟨f0,f1,f2⟩:=HW (q:=q) (ld:=id) (r:=n) ek H bC (fun k o ak=>(yY k).trans ak) h1 (fun p ah=>bp p (by simp[ah])) (fun k o ak=>aZ n k o ((yY k).trans ak));have hg : ∀k j i,kn (n+1) l q0 k≠some (j,i):=fun k j i hm=>by obtain⟨b,jl,ik,r3,On⟩:=x9 hm;exact F6.1 b (dH ik) q0 k ⟨rfl,r3⟩
    have Cw : ∀r k,s.bf r k->(s.setRow q0 eS).bf r k:=fun r k aX=>by
     rw[oq];by_cases e:r=q0
     ·subst e;rw[dw rfl,f0];have:=hu r k n k (by simp[kn]) aX;simpa [S.bf,ji] using this
     ·rw[dA e];exact aX
    obtain⟨e1,e2,bN,c0,dk⟩:=Lp ek H bC aZ l dr T mG aN (n+1) (s.setRow q0 eS) F6.2 (fun j row aq=>by rw[Nat.add_assoc,Nat.add_comm 1 j];exact hZ (j+1) row (by simpa using aq))
     (fun r k j i hm aX=>by have c8:r≠q0:=(by rintro rfl;exact hg _ _ _ hm);refine hu r k j i ?_ (by rw[oq,dA c8] at aX;exact aX);rw[ug n (.row q0) l r k c8];exact hm)
     (fun r k o hm=>Cw r k (tC r k o (by simp[hm]))) h2 (fun p ah=>bp p (by simp[ah]))
    refine⟨by simp[e1],e2,fun r k o ak=> ?_,fun r k aX=>c0 r k (Cw r k aX),fun r k j i hm aX=> ?_⟩
    ·rcases bN r k o ak with ⟨j,i,p,jl,ik,r3⟩|⟨jl,ik⟩
     ·have c8:r≠q0:=(by rintro rfl;exact hg _ _ _ jl);exact .inl ⟨j,i,p,by rw[ug n (.row q0) l r k c8];exact jl,ik,r3⟩
     ·rw[mL] at ik
      by_cases e:r=q0
      ·subst e;rw[dw rfl] at ik;obtain⟨p,g1,g2⟩:=f2 k o ik;exact .inl ⟨n,k,p,by simp[kn],(yY k).trans g1,g2⟩
      ·rw[dA e] at ik;exact .inr ⟨by rw[ug n (.row q0) l r k e];exact jl,ik⟩
    ·by_cases e:r=q0
     ·subst e;simp only[kn,if_true] at hm;simp only[dB,dE] at hm;obtain⟨rfl,rfl⟩:=hm;refine c0 r k ?_;rw[oq,dw rfl,f0];simpa [S.bf,ji] using aX
     ·rw[ug n (.row q0) l r k e] at hm;exact dk r k j i hm aX
   ·simp at h
  ·simp at h
 | .an q0 kf mH::l,c::dr,row::T,u,an,n,s,sZ,hZ,hu,tC,h,bp=>by
  simp only[l5] at h;split at h
  ·rename_i mU IY
   split at h
   ·rename_i ch bQ h1
    split at h
    ·rename_i mG aN h2
     simp only[dB,dE] at h;obtain⟨rfl,rfl⟩:=h;have F6:=List.pairwise_cons.1 sZ;have ji:s1.a0 n=some row:=hZ 0 row rfl;have yY : ∀k,s1.an n k=dZ (some row) k:=fun k=>(by unfold S.an;rw[ji]);obtain⟨f0,f1,f2⟩:=HW (q:=q) (ld:=id) (r:=n) ek H bC (fun k o ak=>(yY k).trans ak) h1 (fun p ah=>bp p (by simp[ah])) (fun k o ak=>aZ n k o ((yY k).trans ak));have hg : ∀j i,kn (n+1) l q0 kf≠some (j,i):=fun j i hm=>(by obtain⟨b,jl,ik,r3,On⟩:=x9 hm;exact F6.1 b (dH ik) q0 kf ⟨⟨rfl,rfl⟩,r3⟩);have Cw : ∀r k,s.bf r k->(s.setRow q0 (mU.set kf ch)).bf r k:=Hq s IY (by simp);have vF:kf<mU.length:=by have:=tC q0 kf mH (by simp);simpa [S.bf,IY] using this
     obtain⟨e1,e2,bN,c0,dk⟩:=Lp ek H bC aZ l dr T mG aN (n+1) (s.setRow q0 (mU.set kf ch)) F6.2 (fun j row aq=>by rw[Nat.add_assoc,Nat.add_comm 1 j];exact hZ (j+1) row (by simpa using aq))
      (fun r k j i hm aX=>by
        have c8 : ¬(Src.an q0 kf mH).has r k:=(by rintro⟨rfl,rfl⟩;exact hg _ _ hm);refine hu r k j i (by rw[ug n _ l r k c8];exact hm) ?_;rw[oq] at aX;split at aX
        ·rename_i e;subst e;simpa [S.bf,IY] using aX
        ·exact aX)
      (fun r k o hm=>Cw r k (tC r k o (by simp[hm]))) h2 (fun p ah=>bp p (by simp[ah]))
     refine⟨by simp[e1],e2,fun r k o ak=> ?_,fun r k aX=>c0 r k (Cw r k aX),fun r k j i hm aX=> ?_⟩
     ·rcases bN r k o ak with ⟨j,i,p,jl,ik,r3⟩|⟨jl,ik⟩
      ·have c8 : ¬(Src.an q0 kf mH).has r k:=(by rintro⟨rfl,rfl⟩;exact hg _ _ jl);exact .inl ⟨j,i,p,by rw[ug n _ l r k c8];exact jl,ik,r3⟩
      ·rw[mL] at ik
       by_cases e:r=q0
       ·subst e
        rw[dw rfl,lv,List.getElem?_set] at ik;by_cases e2:kf=k
        ·subst e2;rw[dw rfl,dw vF,dx] at ik;have r3:dZ (some [ch]) 0=some o:=(by rw[lv];exact ik);obtain⟨p,g1,g2⟩:=f2 0 o r3;exact .inl ⟨n,0,p,by simp[kn],(yY 0).trans g1,g2⟩
        ·rw[dA e2] at ik;have c8 : ¬(Src.an r kf mH).has r k:=(by rintro⟨-,rfl⟩;exact e2 rfl);exact .inr ⟨by rw[ug n _ l r k c8];exact jl,by unfold S.an;rw[IY,lv];exact ik⟩
       ·rw[dA e] at ik;have c8 : ¬(Src.an q0 kf mH).has r k:=(by rintro⟨rfl,-⟩;exact e rfl);exact .inr ⟨by rw[ug n _ l r k c8];exact jl,ik⟩
     ·by_cases e:(Src.an q0 kf mH).has r k
      ·obtain⟨rfl,rfl⟩:=e;exact c0 r k (Cw r k (tC r k mH (by simp)))
      ·rw[ug n _ l r k e] at hm;exact dk r k j i hm aX
    ·simp at h
   ·simp at h
  ·simp at h
 | [],[],_::_,_,_,_,_,_,_,_,_,h,_=>by simp[l5] at h
 | [],_::_,_,_,_,_,_,_,_,_,_,h,_=>by simp[l5] at h
 | .row _::_,[],_,_,_,_,_,_,_,_,_,h,_=>by simp[l5] at h
 | .an .. :: _,[],_,_,_,_,_,_,_,_,_,h,_=>by simp[l5] at h
 | .row _::_,_::_,[],_,_,_,_,_,_,_,_,h,_=>by simp[l5] at h
 | .an .. :: _,_::_,[],_,_,_,_,_,_,_,_,h,_=>by simp[l5] at h
theorem T6 (h:c7 g s aF a w){a1:Nat}(fF:s.a0 a1=none){f:FuncId}{args:List aG}{cI:GH}{l:List Src}(oK:l=if cI.fx.length=cI.a5.length then cI.a5 else cI.a5++[.row a1])
 (sZ:FI cI.a5) (y8 : ∀a∈cI.a5,a.r≠a1) {bM:hc->Bool} {A:Nat->Prop} {q:aG->Prop} {T:List (List a9)} {cj:Nat->Option Nat}
 (hA : ∀b,A b->b<w.heap.size) (Nv : ∀b,s.ok g aF w b->A b) (Nw : ∀r k o b m,s.an r k=some o->bM o.cN=true->aF r k=some (b,m)->A b)
 (aix:(∀b,A b->s.ok g aF w b)\/(∀x,q x->bU x)) (bC:vU q lX) (JO:nN s (lM cI.a5) cj bM)
 (dg:rN s (lM cI.a5) bM m9 (fK T).a0) (rz : ∀r k o,(∃j i,lM cI.a5 j i=some (r,k))->s.an r k=some o->o.cN = .live) (hex : ∀r k o,Src.an r k o∈cI.a5->s.bf r k)
 {sD:List aG} {bQ:List Prop} (n4:mO (oZ s.a0 cj (lM cI.a5) bM) cI.ac args=some (sD,bQ)) (tE : ∀p∈bQ,p)
 {fp:aG} {eN:List Prop} (CF:oZ (fun j=>cI.fx[j]?) (vm l) (kn 0 l) lX cI.ht cI.r=some (fp,eN)) (NB : ∀p∈eN,p)
 {u:List (Nat×List a9)} {eo:List Prop} (F7:l5 (fun j=>cI.fx[j]?) (vm l) (kn 0 l) s.a0 l cI.iL cI.fx=some (u,eo)) (aiy : ∀p∈eo,p)
 (Cx:Con P f sD T cI.r cI.fx) (aiz:q cI.r) (aiA : ∀j i o,(fK cI.fx).an j i=some o-> ∀e∈o.es,∀x∈e,q x)
 {vs:List Value} (aV:vs.length=args.length) (hargs : ∀(j:Nat) x v,args[j]? = some x->vs[j]? = some v->Rel w (s.ok g aF w) s.bf (s.bk aF) x v) :
 HX P f/\Calls P f vs.toArray w fun e bT=> ∃v bX,e = .returned v/\c7 g (s.jg u) bX a bT/\Rel bT ((s.jg u).ok g bX bT) (s.jg u).bf ((s.jg u).bk bX) fp v:=by
 have NC:FI l:=by
  subst oK;split
  ·exact sZ
  ·refine List.pairwise_append.2 ⟨sZ,List.pairwise_singleton _ _,fun b aW c aY r k gN=> ?_⟩
   rw[List.mem_singleton] at aY;subst aY;have h1:r=a1:=gN.2;subst h1
   cases b with
   | row r0=>exact y8 _ aW (Eq.symm gN.1)
   | an r0 kf mH=>exact y8 _ aW (Eq.symm gN.1.1)
 have WJ : ∀(j:Nat) b,cI.a5[j]? = some b->l[j]? = some b:=by
  intro j b aq;subst oK;split
  ·exact aq
  ·rw[List.getElem?_append_left (f5 aq)];exact aq
 have y9 : ∀(j:Nat) b,l[j]? = some b->cI.a5[j]? = some b\/b = .row a1:=by
  intro j b aq;subst oK;split at aq
  ·exact .inl aq
  ·rw[List.getElem?_append] at aq
   split at aq
   ·exact .inl aq
   ·right;have:=f5 aq;simp at this;rw[show j-cI.a5.length=0 by omega] at aq;simpa using aq.symm
 refine⟨Cx.1,?_⟩;obtain⟨gS,q1,q2,bP,Oo,cw,dY,ex,gD⟩:=enter h.tojr A hA Nv Nw dg rz;obtain⟨e1,e2,bN⟩:=HV _ _ _ _ _ n4;have:=Cx.2 gS (kL aF (lM cI.a5)) w vs.toArray q1 bP Oo cw ex (by simp[aV,e1]) (by intro j c6 v et bh;have aq:j<args.length:=(by have:=f5 et;omega);have aa:=dz aq;obtain⟨c,ch,f1,f2,f3⟩:=bN j _ c6 aa et;have FU:vs[j]? = some v:=(by simpa using bh);exact gD (EI h.tojr JO (wS _) f2 (fun p ah=>tE p (f3 p ah)) trivial (hargs j _ v aa FU)) (hargs j _ v aa FU));refine this.mono fun e bT FR=> ?_;obtain⟨v,l1,rfl,CL,bh⟩:=FR
 have XJ:nN (fK cI.fx) (kn 0 l) (vm l) lX:=by
  refine⟨fun j r aq k=> ?_,fun _ _ _ _ _ bG=>by simp[lX] at bG⟩;unfold vm at aq;split at aq
  ·rename_i r0 mx;simp at aq;subst aq;have:=EZ (n:=0) (r:=r0) (k:=k) NC mx rfl;simpa [Src.lr] using this
  ·simp at aq
 have Fb : ∀j i r k,lM cI.a5 j i=some (r,k)->kn 0 l r k=some (j,i):=fun j i r k hm=>by obtain⟨b,jl,ik,rfl⟩:=wo.1 hm;have:=EZ (n:=0) NC (WJ j b jl) ik;simpa using this
 have IW : ∀r k j i,kn 0 l r k=some (j,i)->lM cI.a5 j i=some (r,k)\/ ¬s.bf r k:=fun r k j i hm=>by
  obtain⟨b,-,ik,r3,On⟩:=x9 hm;rcases y9 j b (by simpa using ik) with e|e
  ·exact .inl (wo.2 ⟨b,e,r3,On⟩)
  ·subst e;have:r=a1:=r3;subst this;exact .inr (Bl fF k)
 obtain⟨ke,mG,ia,ajM,ajN⟩:=Lp (s1:=fK cI.fx) CL XJ bC aiA l cI.iL cI.fx u eo 0 s NC (fun j row aq=>by simpa [fK] using aq)
  (fun r k j i hm aX=>by
    rcases IW r k j i hm with e|e
    ·exact(CL.stay j i (by rw[Oo];exact dg.bf _ _ _ _ e aX)).1
    ·exact absurd aX e)
  (fun r k o hm=>by
    obtain⟨j,aq⟩:=List.getElem?_of_mem hm;rcases y9 j _ aq with e|e
    ·exact hex r k o (dH e)
    ·cases e) F7 aiy
 obtain⟨mF,f1,f2⟩:=leave (q0:=m9) (q:=q) h q1 (by rw[q2];exact aix) Oo cw dY rz dg CL Fb IW (fun r k fp eu p=>afS) (s2:=s.jg u) mG ia ajM ajN
  (EI CL XJ bC CF NB aiz bh) bh
 exact⟨v,mF,rfl,f1,f2⟩
theorem acQ (h:c7 g s aF a w){a1:Nat}(fF:s.a0 a1=none){f:FuncId}{args:List aG}{cI:GH}{bD:iR}(aB:Cn P s.a0 a1 f args cI=some bD)(cR:∀p∈bD.f7,p)
 {vs:List Value} (aV:vs.length=args.length) (hargs : ∀(j:Nat) x v,args[j]? = some x->vs[j]? = some v->Rel w (s.ok g aF w) s.bf (s.bk aF) x v) :
 HX P f/\Calls P f vs.toArray w fun e bT=> ∃v bX,e = .returned v/\c7 g (s.jg bD.gI) bX a bT/\Rel bT ((s.jg bD.gI).ok g bX bT) (s.jg bD.gI).bf ((s.jg bD.gI).bk bX) bD.val v:=by
 unfold Cn at aB;simp only at aB;generalize oK:(if cI.fx.length=cI.a5.length then cI.a5 else cI.a5++[.row a1])=l at aB;split at aB
 ·simp at aB
 ·rename_i mH sO
  split at aB
  ·simp at aB
  ·rename_i ahU
   have y8 : ∀a∈cI.a5,a.r≠a1:=fun b aW e=>ahU (List.any_eq_true.2 ⟨b,aW,by simpa using e⟩);split at aB
   ·
    split at aB
    ·rename_i wT
     split at aB
     ·rename_i sD bQ fp eN u eo n4 CF F7
      simp only[dB] at aB;subst aB;have Cx:Con P f sD [] cI.r cI.fx:=cR _ (by simp);have F8:bU cI.r:=cR _ (by simp)
      have ahV:n7 cI.fx:=by
       by_cases e:cI.fx=[]
       ·rw[e];intro row d6;simp at d6
       ·exact cR _ (by have:cI.fx.isEmpty=false:=(by simpa [List.isEmpty_iff] using e);simp[this])
      refine T6 (bM:=lG) (A:=fun b=>b<w.heap.size) (q:=bU) (T:=[]) (cj:=fun _=>none) h fF oK.symm (by rw[wT];exact List.Pairwise.nil) y8 (fun _ aW=>aW) (fun b aW=>aW.1)
       (fun r k o b m ak _ ah=>EX h.tojr ak ah) (.inr fun _ aa=>aa) aiu ?_ ?_ ?_ ?_ (by rw[wT];exact n4) (fun p ah=>cR p (by simp[ah])) CF (fun p ah=>cR p (by simp[ah])) F7 (fun p ah=>cR p (by simp[ah])) Cx F8 ?_ aV hargs
      ·refine⟨fun _ _ e=>by simp at e,fun r _ k o _ _ j i e=> ?_⟩;rw[wT] at e;simp[lM] at e
      ·refine⟨fun j i ja ff p e=> ?_,fun j i ch e=> ?_,fun j i r k e=> ?_⟩
       ·rw[wT] at e;simp[lM] at e
       ·simp[fK,dZ] at e
       ·rw[wT] at e;simp[lM] at e
      ·rintro r k o ⟨j,i,e⟩;rw[wT] at e;simp[lM] at e
      ·rintro r k o e;rw[wT] at e;simp at e
      ·intro j i o ak e he x aa
       have ak:dZ (cI.fx[j]?) i=some o:=ak
       cases ai:cI.fx[j]? with
       | none=>rw[ai] at ak;simp[dZ] at ak
       | some row =>
        rw[ai,lv] at ak
        cases aX:row[i]? with
        | none=>rw[aX] at ak;simp at ak
        | some p =>
         rw[aX,dx] at ak;split at ak
         ·simp at ak
         ·simp at ak;subst ak;exact ahV row (dH ai) p (dH aX) e he x aa
     ·simp at aB
    ·simp at aB
   ·split at aB
    ·rename_i sD bQ T aN fp eN u eo n4 CE CF F7
     simp only[dB] at aB;subst aB;have sZ:=T5 sO fun p ah=>cR p (by simp[ah]);have Cx:Con P f sD T cI.r cI.fx:=cR _ (by simp);have ab : ∀r j,qj 0 cI.a5 r=some j-> ∀k,lM cI.a5 j k=some (r,k):=fun r j aq k=>by obtain⟨-,h2⟩:=LA aq;simp only[lM,show cI.a5[j]? = some (.row r) by simpa using h2]
     have Ny : ∀(l:List Src) (dr:List jv) (T:List (List a9)) (an:List Prop),nk s.a0 (qj 0 cI.a5) (lM cI.a5) l dr=some (T,an)->(∀p∈an,p) ->
      ∀b∈l,∀r k o,b.has r k->s.an r k=some o->o.cN≠ .jS:=by
      intro l
      induction l with
      | nil=>intro _ _ _ _ _ b aW;simp at aW
      | cons b l ih =>
       intro dr T an h0 bp c aY r k o gN ak
       cases dr with
       | nil=>cases b<;>simp[nk] at h0
       | cons b3 dr =>
        cases b with
        | row r0 =>
         simp only[nk] at h0;split at h0
         ·rename_i row d6
          split at h0
          ·rename_i aC p1 oh p2 h1 h2
           simp only[dB,dE] at h0;obtain⟨rfl,rfl⟩:=h0;rcases List.mem_cons.1 aY with rfl|aY
           ·have e:r=r0:=gN;subst e;have eK:dZ (some row) k=some o:=(by unfold S.an at ak;rw[d6] at ak;exact ak);have:=S1 h1 (fun p ah=>bp p (by simp[ah])) k o eK;rw[this];simp
           ·exact ih dr oh p2 h2 (fun p ah=>bp p (by simp[ah])) c aY r k o gN ak
          ·simp at h0
         ·simp at h0
        | an r0 kf mH =>
         simp only[nk] at h0;split at h0
         ·rename_i row d6
          split at h0
          ·rename_i aC p1 oh p2 h1 h2
           simp only[dB,dE] at h0;obtain⟨rfl,rfl⟩:=h0;rcases List.mem_cons.1 aY with rfl|aY
           ·obtain⟨rfl,rfl⟩:=gN
            have tE:dZ (some row) k=some mH:=bp _ (by simp);have eK:dZ (some row) k=some o:=(by unfold S.an at ak;rw[d6] at ak;exact ak);rw[tE] at eK;simp at eK;subst eK
            have NA:mH.cN≠ .gone:=by
             rw[lv] at tE
             cases aX:row[k]? with
             | none=>rw[aX] at tE;simp at tE
             | some p =>
              rw[aX,dx] at tE;split at tE
              ·simp at tE
              ·rename_i e;simp at tE;subst tE;exact e
            have:=S1 h1 (fun p ah=>bp p (by simp[ah])) 0 mH (by rw[nj];simp[NA]);rw[this];simp
           ·exact ih dr oh p2 h2 (fun p ah=>bp p (by simp[ah])) c aY r k o gN ak
          ·simp at h0
         ·simp at h0
     have JO:nN s (lM cI.a5) (qj 0 cI.a5) vl:=(by refine⟨ab,fun r ai k o ak bG j i hm=> ?_⟩;obtain⟨b,jl,ik,-⟩:=wo.1 hm;exact Ny cI.a5 cI.dr T aN CE (fun p ah=>cR p (by simp[ah])) b (dH jl) r k o ik ak (by simpa [vl] using bG));obtain⟨t1,t2⟩:=LB h.tojr JO cI.a5 cI.dr T aN CE (fun p ah=>cR p (by simp[ah]));have m8 : ∀j b,cI.a5[j]? = some b-> ∃eS,T[j]? = some eS:=fun j b aq=>by have:j<T.length:=(by have:=f5 aq;omega);exact⟨_,dz this⟩
     refine T6 (bM:=vl) (A:=s.ok g aF w) (q:=m9) (T:=T) h fF oK.symm sZ y8 (fun b aW=>aW.1) (fun b aW=>aW)
      (fun r k o b m ak aX ah=>agw h.tojr ak (by simpa [vl] using aX) ah) (.inl fun _ aW=>aW) (wS _) JO ?_ ?_ ?_ n4 (fun p ah=>cR p (by simp[ah])) CF (fun p ah=>cR p (by simp[ah])) F7
      (fun p ah=>cR p (by simp[ah])) Cx trivial (fun _ _ _ _ _ _ _ _=>trivial) aV hargs
     ·refine⟨fun j i ja ff p e e3=> ?_,fun j i ch eK=> ?_,fun j i r k e hu=> ?_⟩
      ·obtain⟨r,k⟩:=p;obtain⟨b,jl,ik,rfl⟩:=wo.1 e;obtain⟨k1,aiB,aiC,rfl⟩:=wo.1 e3;have e1:=EZ (n:=0) sZ jl ik;have e2:=EZ (n:=0) sZ aiB aiC;rw[e1] at e2;simpa using e2
      ·have aq:j<T.length:=by
        rcases Nat.lt_or_ge j T.length with e|e
        ·exact e
        ·have:(fK T).a0 j=none:=List.getElem?_eq_none e;rw[this] at eK;simp[dZ] at eK
       have WK:T[j]? = some T[j]:=dz aq;have WL:cI.a5[j]? = some (cI.a5[j]'(by omega)):=dz (by omega);have pe:dZ (some T[j]) i=some ch:=(by have:(fK T).a0 j=some T[j]:=WK;rw[this] at eK;exact eK);obtain⟨r,k,o,n1,n2,ajO,ajP⟩:=(t2 j _ _ WK WL).2.2.2 i ch pe;exact⟨r,k,o,wo.2 ⟨_,WL,n1,n2⟩,ajO,ajP⟩
      ·obtain⟨b,jl,ik,rfl⟩:=wo.1 e;obtain⟨eS,uq⟩:=m8 j b jl;have:=(t2 j eS b uq jl).2.1 r k ik hu;show b.lr k<((T[j]?).getD []).length;rw[uq];exact this
     ·rintro r k o ⟨j,i,e⟩ ak;obtain⟨b,jl,ik,-⟩:=wo.1 e;obtain⟨eS,uq⟩:=m8 j b jl;exact(t2 j eS b uq jl).1 r k o ik ak
     ·intro r k o hm;obtain⟨j,aq⟩:=List.getElem?_of_mem hm;obtain⟨eS,uq⟩:=m8 j _ aq;exact HU ((t2 j eS _ uq aq).2.2.1 r k o rfl)
    ·simp at aB
end
end Go.VL
