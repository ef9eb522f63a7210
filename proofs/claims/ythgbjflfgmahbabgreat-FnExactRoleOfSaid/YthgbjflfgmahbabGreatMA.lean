/- Lemmas, plain functions of the program, and what they answer. No condition. -/
import Derived.Below
import Derived.Eval
import Derived.KernelRfl
import Derived.Laws.Append
import Derived.Laws.AppendOwn
import Derived.Laws.BytesString
import Derived.Laws.Cells
import Derived.Laws.CopyRow
import Derived.Laws.Entries
import Derived.Laws.MakeOwn
import Derived.Laws.OwnMore
import Derived.Laws.Rows
import Derived.Laws.Slices
import Derived.Laws.Tables
import Derived.Orders
namespace Go.VL
set_option linter.unusedVariables false
set_option linter.unusedSimpArgs false
open Go
abbrev ar:=List Int
theorem dw{c:Prop}{h:Decidable c}(i:c){α:Sort _}{t e:α}:ite c t e=t:=if_pos i
theorem dx(n:Nat):(n:Int).toNat=n:=rfl
theorem dy{α:Type _}{l:List α}{i:Nat}(h:i<l.length):l[i]? = some l[i]:=List.getElem?_eq_getElem h
theorem dz{c:Prop}{h:Decidable c}(i:¬c){α:Sort _}{t e:α}:ite c t e=e:=if_neg i
theorem dA{α β:Type _}(a:α)(f:α->Option β):(some a).bind f=f a:=rfl
theorem dB{α:Type _}(a b:α):(some a=some b)=(a=b):=Option.some.injEq a b
theorem dC{α β:Type _}:bind=@Option.bind α β:=rfl
theorem dD{α β:Type _}(a:α)(b:β)(c:α)(d:β):((a,b)=(c,d))=(a=c/\b=d):=Prod.mk.injEq a b c d
theorem dE(n:Nat):n<=n:=Nat.le_refl n
theorem dF{α:Type _}{a b:List α}:(a++b).length=a.length+b.length:=List.length_append
theorem dG(n:Nat):0+n=n:=Nat.zero_add n
theorem dH{α:Type _}{l:List α}{i:Nat}{a:α}(e:l[i]? = some a):a∈l:=List.mem_of_getElem? e
theorem dI{α:Type _}{a b:α}(h:some a=some b):a=b:=Option.some.inj h
theorem dJ{α β:Type _}{f:α->β}{l:List α}{i:Nat}:(l.map f)[i]? =l[i]?.map f:=List.getElem?_map
theorem dK{a b c:Int}(h:a<=b)(i:0<=c):c*a<=c*b:=Int.mul_le_mul_of_nonneg_left h i
theorem dL{n m:Nat}(k:Nat)(h:n<=m):n*k<=m*k:=Nat.mul_le_mul_right k h
theorem dM(a b:Bool):((a&&b)=true)=(a=true/\b=true):=Bool.and_eq_true a b
theorem dN(a b:Int):((a*b:Int):Rat)=a*b:=Rat.intCast_mul a b
theorem dO{a b:Rat}(h:0<=a)(i:0<=b):0<=a*b:=Rat.mul_nonneg h i
inductive aG where
 | dead
 | b (x:Bool)
 | n (k:IntKind) (x:Int)
 | s (x:ByteArray)
 | jo
 | fy
 | jy
 | ref (r k i off:Nat)
 | bf (r k bW len:Nat)
 | jP (r c sz:Nat) (h:Option (Nat×Nat))
 | isl (sz:Nat) (es:List (List aG))
 | fB (sz:Nat) (es:List (List aG)) (i off:Nat)
 | gr (sz:Nat) (c:Option (List aG))
 | agg (c:List aG)
 | dY (vs:List aG)
 | fn (f:Nat) (cap:List aG)
 deriving Inhabited
inductive hi where
 | live|jX|gone
 deriving DecidableEq,Inhabited
structure a1 where
 sz:Nat
 es:List (List aG)
 cO:hi
 deriving Inhabited
structure S where
 E:Nat->aG
 a0:Nat->Option (List a1)
abbrev li (v:Value):Bool:=v.oneCell'
abbrev gb:=Nat->Nat->Option (Nat×Nat)
abbrev j3:=Nat->Nat->Option (Nat×Option (Nat×Nat))
abbrev ki:=Nat->Nat->Prop
inductive Pure:aG->Prop
 | dead:Pure .dead
 | b (x:Bool):Pure (.b x)
 | n (k:IntKind) (x:Int):Pure (.n k x)
 | s (x:ByteArray):Pure (.s x)
 | jo:Pure .jo
 | fy:Pure .fy
 | jy:Pure .jy
 | isl {sz:Nat} {es:List (List aG)} (h : ∀e∈es,∀x∈e,Pure x):Pure (.isl sz es)
 | fB {sz i off:Nat} {es:List (List aG)} (h : ∀e∈es,∀x∈e,Pure x):Pure (.fB sz es i off)
 | rn (sz:Nat):Pure (.gr sz none)
 | qF {sz:Nat} {c:List aG} (h : ∀x∈c,Pure x):Pure (.gr sz (some c))
 | agg {c:List aG} (h : ∀x∈c,Pure x):Pure (.agg c)
 | dY {c:List aG} (h : ∀x∈c,Pure x):Pure (.dY c)
 | fn {f:Nat} {c:List aG} (h : ∀x∈c,Pure x):Pure (.fn f c)
def jk (es:List (List aG)):Prop:= ∀e∈es,∀x∈e,Pure x
inductive Rel (w:World) (ok:Nat->Prop) (bd:ki) (bk:j3):aG->Value->Prop
 | dead (v:Value):Rel w ok bd bk .dead v
 | b (x:Bool):Rel w ok bd bk (.b x) (.bool x)
 | n (k:IntKind) (x:Int):Rel w ok bd bk (.n k x) (.int k x)
 | s (x:ByteArray):Rel w ok bd bk (.s x) (.string x)
 | jo:Rel w ok bd bk .jo (.pointer none)
 | fy:Rel w ok bd bk .fy (.slice none 0 0)
 | jy (a:Addr) (c:Nat):Rel w ok bd bk .jy (.slice (some a) 0 c)
 | rN {r k i off:Nat} (a:Option Addr) (hu:bd r k) (h : ∀sz p,bk r k≠some (sz,some p)):Rel w ok bd bk (.ref r k i off) (.pointer a)
 | ref {r k i off sz eT m:Nat} (hu:bd r k) (h:bk r k=some (sz,some (eT,m))):Rel w ok bd bk (.ref r k i off) (.pointer (some ⟨eT,i*sz+off,none⟩))
 | oS {r k bW len:Nat} (a:Option Addr) (l c:Nat) (hu:bd r k) (h:bk r k=none):Rel w ok bd bk (.bf r k bW len) (.slice a l c)
 | pd {r k sz:Nat} (hu:bd r k) (h:bk r k=some (sz,none)):Rel w ok bd bk (.bf r k 0 0) (.slice none 0 0)
 | bf {r k bW len sz eT m c:Nat} {a:Option Addr} (hu:bd r k) (h:bk r k=some (sz,some (eT,m))) (aS:len<=c) (a2:c<9223372036854775808)
  (hm:(bW+c)*sz=m/\(c=0\/a=some ⟨eT,bW*sz,none⟩)):Rel w ok bd bk (.bf r k bW len) (.slice a len c)
 | oi {r c sz:Nat} {v:Value} (h:Rel w ok bd bk (.isl sz []) v):Rel w ok bd bk (.jP r c sz none) v
 | ps {r c sz k n:Nat} {v:Value} (h:Rel w ok bd bk (.bf r (k+c) 0 n) v):Rel w ok bd bk (.jP r c sz (some (k,n))) v
 | la (sz:Nat) (a:Option Addr) (c:Nat) (h:a=none->c=0):Rel w ok bd bk (.isl sz []) (.slice a 0 c)
 | isl {sz:Nat} {es:List (List aG)} {eT off c:Nat} (cs:Nat->Value) (aU:ok eT) (ag:jk es) (aS : ∀e∈es,e.length=sz) (a2:es.length<=c)
  (hw : ∀(j:Nat) x,es.flatten[j]? = some x->w.cell? ⟨eT,off+j,none⟩=some (cs j)) (k8 : ∀(j:Nat) x,es.flatten[j]? = some x->li (cs j)=true)
  (ai : ∀(j:Nat) x,es.flatten[j]? = some x->Rel w ok bd bk x (cs j)):Rel w ok bd bk (.isl sz es) (.slice (some ⟨eT,off,none⟩) es.length c)
 | fB {sz:Nat} {es:List (List aG)} {eT o i off:Nat} (cs:Nat->Value) (aU:ok eT) (ag:jk es) (aS : ∀e∈es,e.length=sz)
  (hw : ∀(j:Nat) x,es.flatten[j]? = some x->w.cell? ⟨eT,o+j,none⟩=some (cs j)) (k8 : ∀(j:Nat) x,es.flatten[j]? = some x->li (cs j)=true)
  (ai : ∀(j:Nat) x,es.flatten[j]? = some x->Rel w ok bd bk x (cs j)):Rel w ok bd bk (.fB sz es i off) (.pointer (some ⟨eT,o+(i*sz+off),none⟩))
 | rn (sz:Nat):Rel w ok bd bk (.gr sz none) (.pointer none)
 | qF {sz:Nat} {c:List aG} {v:Value} (h:Rel w ok bd bk (.fB sz [c] 0 0) v):Rel w ok bd bk (.gr sz (some c)) v
 | agg {c:List aG} (vs:List Value) (aS:vs.length=c.length) (k8 : ∀(j:Nat) v,vs[j]? = some v->li v=true)
  (ai : ∀(j:Nat) x v,c[j]? = some x->vs[j]? = some v->Rel w ok bd bk x v):Rel w ok bd bk (.agg c) (.agg vs.toArray)
 | dY {c:List aG} (vs:List Value) (aS:vs.length=c.length)
  (ai : ∀(j:Nat) x v,c[j]? = some x->vs[j]? = some v->Rel w ok bd bk x v):Rel w ok bd bk (.dY c) (.tuple vs.toArray)
 | fn {f:Nat} {c:List aG} (vs:List Value) (aS:vs.length=c.length)
  (ai : ∀(j:Nat) x v,c[j]? = some x->vs[j]? = some v->Rel w ok bd bk x v):Rel w ok bd bk (.fn f c) (.func (.func f) #[] vs.toArray)
theorem Rel.mono {w bT:World}{ok l6:Nat->Prop}{bd ot:ki}{bk nE:j3}{a:aG}{v:Value}(h:Rel w ok bd bk a v)
 (ou : ∀b,ok b->l6 b) (hw : ∀b,ok b->bT.heap[b]? = w.heap[b]?)
 (ko : ∀r k,bd r k->ot r k) (mE : ∀r k,bd r k->nE r k=bk r k\/nE r k=none):Rel bT l6 ot nE a v:=by
 have k8 : ∀b o,ok b->bT.cell? ⟨b,o,none⟩=w.cell? ⟨b,o,none⟩:=fun b o aU=>World.cell?_of_block (hw b aU)
 induction h with
 | dead v=>exact .dead v
 | b x=>exact .b x
 | n k x=>exact .n k x
 | s x=>exact .s x
 | jo=>exact .jo
 | fy=>exact .fy
 | jy a c=>exact .jy a c
 | @rN r k i off a hu h =>
  refine .rN a (ko r k hu) fun sz p=> ?_;rcases mE r k hu with e|e<;>rw[e]
  ·exact h sz p
  ·simp
 | @ref r k i off sz eT m hu h =>
  rcases mE r k hu with e|e
  ·exact .ref (ko r k hu) (e.trans h)
  ·exact .rN _ (ko r k hu) fun sz p=>by rw[e];simp
 | @oS r k bW len a l c hu h=>exact .oS a l c (ko r k hu) (by rcases mE r k hu with e|e<;>rw[e];exact h)
 | @pd r k sz hu h =>
  rcases mE r k hu with e|e
  ·exact .pd (ko r k hu) (e.trans h)
  ·exact .oS _ _ _ (ko r k hu) e
 | @bf r k bW len sz eT m c a hu h aS a2 hm =>
  rcases mE r k hu with e|e
  ·exact .bf (ko r k hu) (e.trans h) aS a2 hm
  ·exact .oS _ _ _ (ko r k hu) e
 | oi h ih=>exact .oi ih
 | ps h ih=>exact .ps ih
 | la sz a c h=>exact .la sz a c h
 | isl cs aU ag aS a2 FG jD ai ih=>exact .isl cs (ou _ aU) ag aS a2 (fun j x ab=>(k8 _ _ aU).trans (FG j x ab)) jD ih
 | fB cs aU ag aS FG jD ai ih=>exact .fB cs (ou _ aU) ag aS (fun j x ab=>(k8 _ _ aU).trans (FG j x ab)) jD ih
 | rn sz=>exact .rn sz
 | qF h ih=>exact .qF ih
 | agg vs aS jD ai ih=>exact .agg vs aS jD ih
 | dY vs aS ai ih=>exact .dY vs aS ih
 | fn vs aS ai ih=>exact .fn vs aS ih
structure G where
 n6:World
 A:Nat->Prop
 rC:Nat->Prop
 N:Nat
 m:Nat
 qL:ki
 tE:j3
def S.bd (s:S)(r k:Nat):Prop:=k<((s.a0 r).getD []).length
def eb (row:Option (List a1))(k:Nat):Option a1 :=
 match row with
 | some l=>match l[k]? with
  | some o=>if o.cO = .gone then none else some o
  | none=>none
 | none=>none
def S.ak (s:S)(r k:Nat):Option a1:=eb (s.a0 r) k
def S.bk (s:S)(aF:gb):j3:=fun r k=>(s.ak r k).map fun o=>(o.sz,aF r k)
def S.nc (s:S)(aF:gb)(b:Nat):Prop:= ∃r k o m,s.ak r k=some o/\o.cO = .live/\aF r k=some (b,m)
def S.ok (s:S)(g:G)(aF:gb)(w:World)(b:Nat):Prop :=
 b<w.heap.size/\(g.A b\/g.n6.heap.size<=b\/g.rC b)/\ ¬s.nc aF b
def ka (w:World)(ok:Nat->Prop)(bd:ki)(bk:j3)(o:a1):Option (Nat×Nat)->Prop
 | none=>o.es=[]
 | some (eT,m)=> ∃c fu,w.heap[eT]? = some (.cells c fu (0,0))/\c.size=m/\(∀e∈o.es,e.length=o.sz) /\
  ∀(j:Nat) x,o.es.flatten[j]? = some x-> ∃v,c[j]? = some v/\li v=true/\Rel w ok bd bk x v
structure Ff (g:G) (w:World):Prop where
 os:w.os=g.n6.os
 tape:w.tape=g.n6.tape
 output:w.output=g.n6.output
 size:g.n6.heap.size<=w.heap.size
 block : ∀b,b<g.n6.heap.size-> ¬g.rC b->w.heap[b]? = g.n6.heap[b]?
structure jq (g:G) (s:S) (aF:gb) (w:World):Prop where
 obj : ∀r k o,s.ak r k=some o->ka w (s.ok g aF w) s.bd (s.bk aF) o (aF r k)
 inj : ∀r k o fv ey cn b m aI,s.ak r k=some o->s.ak fv ey=some cn->aF r k=some (b,m)->aF fv ey=some (b,aI)->r=fv/\k=ey
 own : ∀r k o b m,s.ak r k=some o->aF r k=some (b,m)->g.n6.heap.size<=b\/g.rC b
 hY:Ff g w
 mlt : ∀b,g.rC b->b<g.n6.heap.size
 o0 : ∀b,g.A b->b<g.n6.heap.size
 stay : ∀j k,g.qL j k->s.bd j k/\(s.bk aF j k=g.tE j k\/s.bk aF j k=none)
 low : ∀j k,g.qL j k->j<g.m
structure c8 (g:G) (s:S) (aF:gb) (a:Act) (w:World):Prop extends jq g s aF w where
 env : ∀t,Rel w (s.ok g aF w) s.bd (s.bk aF) (s.E t) (a.tmps.getD t undef)
 defers:a.defers=[]
 kO:g.N<=a.tmps.size
def ofValue:Value->aG
 | .bool x=> .b x
 | .int k x=> .n k x
 | .string x=> .s x
 | .pointer none=> .jo
 | .slice none 0 0=> .fy
 | _=> .dead
theorem Sa {w:World}{ok:Nat->Prop}{bd:ki}{bk:j3}(v:Value):Rel w ok bd bk (ofValue v) v:=by unfold ofValue;split<;>constructor
def fx (E:Nat->aG):Operand->aG
 | .tmp t=>E t
 | .const v=>ofValue v
 | .global _=> .dead
 | .func f=> .fn f []
theorem c8.eval {g:G}{s:S}{aF:gb}{a:Act}{w:World}(h:c8 g s aF a w)(x:Operand):
 Rel w (s.ok g aF w) s.bd (s.bk aF) (fx s.E x) (a.eval x):=by
 cases x with
 | tmp t=>exact h.env t
 | const v=>exact Sa v
 | global g=>exact .dead _
 | func f=>exact .fn [] rfl (fun j x v ab=>by simp at ab)
def aG.cells:aG->List aG
 | .agg c=>c
 | x=>[x]
def aG.one:aG->Bool
 | .dead | .agg _ | .dY _=>false
 | _=>true
def aG.BH:aG->Bool
 | .dead | .dY _=>false
 | _=>true
theorem aG.Sb {v:aG}(h:v.BH=true):v.one=true\/ ∃c,v = .agg c:=by cases v<;>first|exact .inl rfl|exact .inr ⟨_,rfl⟩|simp[aG.BH] at h
theorem Rel.li {w:World}{ok:Nat->Prop}{bd:ki}{bk:j3}{a:aG}{v:Value}(h:Rel w ok bd bk a v)(bG:a.one=true):li v=true:=by
 cases h with
 | qF h=>cases h;rfl
 | oi h=>cases h<;>rfl
 | ps h=>cases h<;>rfl
 | _=>first|rfl|simp[aG.one] at bG
theorem Rel.cellsOf {w:World}{ok:Nat->Prop}{bd:ki}{bk:j3}{a:aG}{v:Value}(h:Rel w ok bd bk a v)(bG:a.one=true\/ ∃c,a = .agg c):
 ∃vs:List Value,v.cells=vs.toArray/\vs.length=a.cells.length/\(∀(j:Nat) x,vs[j]? = some x->VL.li x=true) /\
  ∀(j:Nat) x u,a.cells[j]? = some x->vs[j]? = some u->Rel w ok bd bk x u:=by
 rcases bG with bG|⟨c,rfl⟩
 ·have a2:=h.li bG
  refine⟨[v],?_,?_,?_,?_⟩
  ·cases v<;>first|rfl|simp[VL.li,Value.oneCell'] at a2
  ·cases a<;>first|rfl|simp[aG.one] at bG
  ·intro j x ab
   cases j with
   | zero=>simp at ab;subst ab;exact a2
   | succ j=>simp at ab
  ·intro j x u ab hu
   have e:a.cells=[a]:=by cases a<;>first|rfl|simp[aG.one] at bG
   rw[e] at ab
   cases j with
   | zero=>simp at ab hu;subst ab;subst hu;exact h
   | succ j=>simp at ab
 ·cases h with
  | agg vs aS k8 ai=>exact⟨vs,rfl,aS,k8,ai⟩
def S.put (s:S)(dst:Option Tmp)(v:aG):S :=
 match dst with
 | some t=>{s with E:=fun u=>if u=t then v else s.E u}
 | none=>s
def S.setRow (s:S)(r:Nat)(row:List a1):S:={s with a0:=fun q=>if q=r then some row else s.a0 q}
@[simp] theorem S.wE (s:S) (dst:Option Tmp) (v:aG):(s.put dst v).a0=s.a0:=by cases dst<;>rfl
@[simp] theorem S.ajY (s:S) (r:Nat) (row:List a1):(s.setRow r row).E=s.E:=rfl
theorem Em {s b4:S}(h:b4.a0=s.a0):b4.ak=s.ak:=by funext r k;simp[S.ak,h]
theorem BI {s b4:S}(h:b4.a0=s.a0):b4.bd=s.bd:=by funext r k;simp[S.bd,h]
theorem BJ {s b4:S}(h:b4.a0=s.a0)(aF:gb):b4.bk aF=s.bk aF:=by unfold S.bk;rw[Em h]
theorem abK {s b4:S}(h:b4.a0=s.a0)(aF:gb):b4.nc aF=s.nc aF:=by unfold S.nc;rw[Em h]
theorem En {s b4:S}(h:b4.a0=s.a0)(g:G)(aF:gb)(w:World):b4.ok g aF w=s.ok g aF w:=by funext b;unfold S.ok;rw[abK h]
theorem jq.congr {g:G}{s b4:S}{aF:gb}{w:World}(h:jq g s aF w)(e:b4.a0=s.a0):jq g b4 aF w where
 obj:=by rw[Em e,BI e,BJ e,En e];exact h.obj
 inj:=by rw[Em e];exact h.inj
 own:=by rw[Em e];exact h.own
 hY:=h.hY
 mlt:=h.mlt
 o0:=h.o0
 stay:=by rw[BI e,BJ e];exact h.stay
 low:=h.low
theorem ad4 (a:Act)(dst:Option Tmp)(v:Value)(t:Nat)(fE:∀d,dst=some d->d<a.tmps.size):
 (a.put dst v).tmps.getD t undef=if dst=some t then v else a.tmps.getD t undef:=by
 cases dst with
 | none=>simp[Act.put]
 | some d =>
  have:=fE d rfl;simp only[Act.put,Array.getD_eq_getD_getElem?,Array.getElem?_setIfInBounds,dB];by_cases e:d=t
  ·subst e;simp[this]
  ·simp[e]
theorem c8.put {g:G}{s:S}{aF:gb}{a:Act}{w:World}(h:c8 g s aF a w)(dst:Option Tmp){x:aG}{v:Value}
 (bF : ∀d,dst=some d->d<g.N) (ai:Rel w (s.ok g aF w) s.bd (s.bk aF) x v):c8 g (s.put dst x) aF (a.put dst v) w where
 tojq:=h.tojq.congr (S.wE s dst x)
 env:=by
  have e:=S.wE s dst x;rw[En e,BI e,BJ e];intro t;rw[ad4 a dst v t fun d r8=>Nat.lt_of_lt_of_le (bF d r8) h.kO]
  cases dst with
  | none=>simpa [S.put] using h.env t
  | some d =>
   simp only[S.put,dB];by_cases e:t=d
   ·subst e;simpa using ai
   ·rw[dz e,dz (Ne.symm e)];exact h.env t
 defers:=by cases dst<;>exact h.defers
 kO:=by cases dst<;>simpa [Act.put] using h.kO
structure Step (g:G) (s:S) (aF:gb) (w:World) (b4:S) (bX:gb) (bT:World):Prop where
 bd : ∀r k,s.bd r k->b4.bd r k
 bk : ∀r k,s.bd r k->b4.bk bX r k=s.bk aF r k\/b4.bk bX r k=none
 live : ∀b,b4.nc bX b->s.nc aF b\/w.heap.size<=b
 heap : ∀b,b<w.heap.size-> ¬s.nc aF b->bT.heap[b]? = w.heap[b]?
 size:w.heap.size<=bT.heap.size
theorem Step.ok {g:G}{s b4:S}{aF bX:gb}{w bT:World}(h:Step g s aF w b4 bX bT)(b:Nat)(aU:s.ok g aF w b):b4.ok g bX bT b :=
 ⟨Nat.lt_of_lt_of_le aU.1 h.size,aU.2.1,fun aS=>by
  rcases h.live b aS with h1|h1
  ·exact aU.2.2 h1
  ·exact absurd aU.1 (by omega)⟩
theorem Step.rel {g:G}{s b4:S}{aF bX:gb}{w bT:World}(h:Step g s aF w b4 bX bT){x:aG}{v:Value}
 (ai:Rel w (s.ok g aF w) s.bd (s.bk aF) x v):Rel bT (b4.ok g bX bT) b4.bd (b4.bk bX) x v :=
 ai.mono h.ok (fun b aU=>h.heap b aU.1 aU.2.2) h.bd h.bk
theorem Step.obj {g:G}{s b4:S}{aF bX:gb}{w bT:World}(h:Step g s aF w b4 bX bT){o:a1}{p:Option (Nat×Nat)}
 (ag : ∀b m,p=some (b,m)->bT.heap[b]? = w.heap[b]?) (an:ka w (s.ok g aF w) s.bd (s.bk aF) o p) :
 ka bT (b4.ok g bX bT) b4.bd (b4.bk bX) o p:=by
 cases p with
 | none=>exact an
 | some q =>
  obtain⟨b,m⟩:=q;obtain⟨c,fu,h1,h2,R,ah⟩:=an;refine⟨c,fu,(ag b m rfl).trans h1,h2,R,fun j x ab=> ?_⟩;obtain⟨v,e1,e2,bM⟩:=ah j x ab;exact⟨v,e1,e2,h.rel bM⟩
theorem Step.stay {g:G}{s b4:S}{aF bX:gb}{w bT:World}(h:Step g s aF w b4 bX bT)
 (bJ : ∀j k,g.qL j k->s.bd j k/\(s.bk aF j k=g.tE j k\/s.bk aF j k=none)) : ∀j k,g.qL j k->b4.bd j k/\(b4.bk bX j k=g.tE j k\/b4.bk bX j k=none):=by
 intro j k au;obtain⟨h1,h2⟩:=bJ j k au;refine⟨h.bd j k h1,?_⟩;rcases h.bk j k h1 with e|e
 ·rw[e];exact h2
 ·exact .inr e
theorem Ff.step {g:G}{w bT:World}(h:Ff g w)(h1:bT.os=w.os)(h2:bT.tape=w.tape)(R:bT.output=w.output)(ah:w.heap.size<=bT.heap.size)
 (ax : ∀b,b<g.n6.heap.size-> ¬g.rC b->bT.heap[b]? = w.heap[b]?):Ff g bT :=
 ⟨h1.trans h.os,h2.trans h.tape,R.trans h.output,Nat.le_trans h.size ah,fun b aU hm=>(ax b aU hm).trans (h.block b aU hm)⟩
theorem mT (s:S)(r:Nat)(row:List a1)(q k:Nat):(s.setRow r row).ak q k=if q=r then eb (some row) k else s.ak q k:=by unfold S.ak S.setRow;by_cases e:q=r<;>simp[e]
theorem oP (s:S)(r:Nat)(row:List a1)(q k:Nat):(s.setRow r row).bd q k↔(if q=r then k<row.length else s.bd q k):=by unfold S.bd S.setRow;by_cases e:q=r<;>simp[e]
theorem HL {s:S}{r k:Nat}{o:a1}(h:s.ak r k=some o):s.bd r k:=by
 unfold S.ak eb at h;unfold S.bd
 cases ai:s.a0 r with
 | none=>rw[ai] at h;simp at h
 | some l =>
  rw[ai] at h;simp only at h;rcases Nat.lt_or_ge k l.length with h1|h1
  ·simpa using h1
  ·rw[List.getElem?_eq_none h1] at h;simp at h
theorem Bc {s:S}{r:Nat}(h:s.a0 r=none)(k:Nat): ¬s.bd r k:=by simp[S.bd,h]
theorem Hg (s:S){r:Nat}{l row:List a1}(ai:s.a0 r=some l)(aS:l.length<=row.length)(q k:Nat)(h:s.bd q k):(s.setRow r row).bd q k:=by
 rw[oP];by_cases e:q=r
 ·subst e;rw[dw rfl];simp[S.bd,ai] at h;omega
 ·rw[dz e];exact h
theorem ajA {s:S}{r:Nat}(h:s.a0 r=none)(k:Nat):s.ak r k=none:=by simp[S.ak,h,eb]
def gb.set (aF:gb)(r k:Nat)(p:Option (Nat×Nat)):gb:=fun q j=>if q=r/\j=k then p else aF q j
theorem nx (o:a1)(k:Nat):eb (some [o]) k=if k=0/\o.cO≠ .gone then some o else none:=by
 unfold eb
 cases k with
 | zero=>by_cases h:o.cO = .gone<;>simp[h]
 | succ k=>simp
theorem Rel.drew {w:World}{ok:Nat->Prop}{bd:ki}{bk:j3}{x:aG}{v:Value}(h:Rel w ok bd bk x v):Rel w.drew ok bd bk x v :=
 h.mono (fun _ h=>h) (fun _ _=>rfl) (fun _ _ h=>h) (fun _ _ _=> .inl rfl)
theorem ka.drew {w:World}{ok:Nat->Prop}{bd:ki}{bk:j3}{o:a1}{p:Option (Nat×Nat)}(h:ka w ok bd bk o p):ka w.drew ok bd bk o p:=by
 cases p with
 | none=>exact h
 | some q =>
  obtain⟨c,fu,h1,h2,R,ah⟩:=h;exact⟨c,fu,h1,h2,R,fun j x ab=>let ⟨v,a,b,c⟩:=ah j x ab;⟨v,a,b,c.drew⟩⟩
theorem jq.drew {g:G}{s:S}{aF:gb}{w:World}(h:jq g s aF w):jq g s aF w.drew :=
 {obj:=fun r k o an=>(h.obj r k o an).drew,inj:=h.inj,own:=h.own,hY:=⟨h.hY.os,h.hY.tape,h.hY.output,h.hY.size,h.hY.block⟩,mlt:=h.mlt,o0:=h.o0,stay:=h.stay,low:=h.low}
theorem c8.drew {g:G}{s:S}{aF:gb}{a:Act}{w:World}(h:c8 g s aF a w):c8 g s aF a w.drew where
 tojq:=h.tojq.drew
 env:=fun t=>(h.env t).drew
 defers:=h.defers
 kO:=h.kO
theorem c8.alloc {g:G}{s:S}{aF:gb}{a:Act}{w:World}(h:c8 g s aF a w){r:Nat}(ai:s.a0 r=none)(o:a1)(aX:o.cO = .live)
 (c:Array Value) (fu:TypeId) (hlen : ∀e∈o.es,e.length=o.sz)
 (a2 : ∀(j:Nat) x,o.es.flatten[j]? = some x-> ∃v,c[j]? = some v/\li v=true/\Rel w (s.ok g aF w) s.bd (s.bk aF) x v) :
 ∃bX,bX r 0=some (w.heap.size,c.size)/\c8 g (s.setRow r [o]) bX a (w.alloc (.cells c fu)) /\
  ∀x v,Rel w (s.ok g aF w) s.bd (s.bk aF) x v->Rel (w.alloc (.cells c fu)) ((s.setRow r [o]).ok g bX (w.alloc (.cells c fu))) (s.setRow r [o]).bd ((s.setRow r [o]).bk bX) x v:=by
 have m9 : ∀q k,q≠r->(aF.set r 0 (some (w.heap.size,c.size))) q k=aF q k:=fun q k a4=>by simp[gb.set,a4]
 have bs : ∀q k,q≠r->(s.setRow r [o]).ak q k=s.ak q k:=fun q k a4=>by rw[mT,dz a4]
 have Cl : ∀k,(s.setRow r [o]).ak r k=if k=0 then some o else none:=fun k=>by rw[mT,dw rfl,nx];simp[aX]
 have vz : ∀q k p b m,s.ak q k=some p->aF q k=some (b,m)->b<w.heap.size:=fun q k p b m ag a4=>by have:=h.obj q k p ag;rw[a4] at this;obtain⟨eG,nV,gL,_⟩:=this;exact(Array.getElem?_eq_some_iff.1 gL).1
 have cZ:Step g s aF w (s.setRow r [o]) (aF.set r 0 (some (w.heap.size,c.size))) (w.alloc (.cells c fu)):=by
  refine⟨fun q k a4=>(oP _ _ _ _ _).2 (by rw[dz (by rintro rfl;exact Bc ai k a4)];exact a4),fun q k a4=> ?_,fun b aU=> ?_,fun b aU _=>heap_alloc_old w _ b aU,by simp⟩
  ·have c9:q≠r:=(by rintro rfl;exact Bc ai k a4);left;simp only[S.bk,bs q k c9,m9 q k c9]
  ·obtain⟨q,k,p,m,h1,h2,R⟩:=aU
   by_cases e:q=r
   ·subst e
    rw[Cl] at h1;by_cases e0:k=0
    ·subst e0;simp[gb.set] at R;right;omega
    ·simp[e0] at h1
   ·rw[bs q k e] at h1;rw[m9 q k e] at R;exact .inl ⟨q,k,p,m,h1,h2,R⟩
 refine⟨aF.set r 0 (some (w.heap.size,c.size)),by simp[gb.set],?_,fun x v=>cZ.rel⟩;refine {tojq:=⟨?_,?_,?_,?_,h.mlt,h.o0,cZ.stay h.stay,h.low⟩,env:=fun t=>cZ.rel (h.env t),defers:=h.defers,kO:=h.kO}
 ·intro q k p ag
  by_cases e:q=r
  ·subst e
   rw[Cl] at ag;by_cases e0:k=0
   ·subst e0;simp at ag;subst ag;simp only[gb.set,and_self,if_true];exact⟨c,fu,heap_alloc_new w _,rfl,hlen,fun j x ab=>let ⟨v,e1,e2,bM⟩:=a2 j x ab;⟨v,e1,e2,cZ.rel bM⟩⟩
   ·simp[e0] at ag
  ·rw[bs q k e] at ag;rw[m9 q k e];exact cZ.obj (fun b m hm=>heap_alloc_old w _ b (vz q k p b m ag hm)) (h.obj q k p ag)
 ·intro q k p iO ey lp b m aI h1 h2 R ah
  by_cases e:q=r<;>by_cases e5:iO=r
  ·subst e;subst e5;rw[Cl] at h1 h2;by_cases e0:k=0<;>by_cases e1:ey=0<;>simp[e0,e1] at h1 h2;exact⟨rfl,by omega⟩
  ·subst e;rw[Cl] at h1;rw[bs _ _ e5] at h2;rw[m9 _ _ e5] at ah;by_cases e0:k=0<;>simp[e0] at h1;subst e0;simp[gb.set] at R;have:=vz iO ey lp b aI h2 ah;omega
  ·subst e5;rw[bs _ _ e] at h1;rw[Cl] at h2;rw[m9 _ _ e] at R;by_cases e0:ey=0<;>simp[e0] at h2;subst e0;simp[gb.set] at ah;have:=vz q k p b m h1 R;omega
  ·rw[bs _ _ e] at h1;rw[bs _ _ e5] at h2;rw[m9 _ _ e] at R;rw[m9 _ _ e5] at ah;exact h.inj q k p iO ey lp b m aI h1 h2 R ah
 ·intro q k p b m h1 h2
  by_cases e:q=r
  ·subst e;rw[Cl] at h1;by_cases e0:k=0<;>simp[e0] at h1;subst e0;simp[gb.set] at h2;left;have:=h.hY.size;omega
  ·rw[bs _ _ e] at h1;rw[m9 _ _ e] at h2;exact h.own q k p b m h1 h2
 ·exact h.hY.step rfl rfl rfl (by simp) fun b aU _=>heap_alloc_old w _ b (Nat.lt_of_lt_of_le aU h.hY.size)
theorem Ty (l:List a1)(k:Nat)(o cn:a1)(h:eb (some l) k=some o)(aX:cn.cO≠ .gone)(j:Nat):
 eb (some (l.set k cn)) j=if j=k then some cn else eb (some l) j:=by
 unfold eb at *
 have eA:k<l.length:=by
  rcases Nat.lt_or_ge k l.length with h1|h1
  ·exact h1
  ·simp[List.getElem?_eq_none h1] at h
 by_cases e:j=k
 ·subst e;simp[eA,aX]
 ·simp only[List.getElem?_set,dz (Ne.symm e),dz e]
theorem c8.write {g:G}{s:S}{aF:gb}{a:Act}{w bT:World}(h:c8 g s aF a w){r k b m:Nat}{l:List a1}{o:a1}(ai:s.a0 r=some l)(an:s.ak r k=some o)
 (aX:o.cO = .live) (ag:aF r k=some (b,m)) (es:List (List aG)) (c:Array Value) (fu:TypeId)
 (hw:bT.heap[b]? = some (.cells c fu (0,0))) (fE:bT.heap.size=w.heap.size) (yo : ∀q,q≠b->bT.heap[q]? = w.heap[q]?)
 (sZ:bT.os=w.os) (Nd:bT.tape=w.tape) (MR:bT.output=w.output) (hm:c.size=m)
 (hlen : ∀e∈es,e.length=o.sz)
 (a2 : ∀(j:Nat) x,es.flatten[j]? = some x-> ∃v,c[j]? = some v/\li v=true/\Rel w (s.ok g aF w) s.bd (s.bk aF) x v) :
 c8 g (s.setRow r (l.set k {o with es})) aF a bT /\
  ∀x v,Rel w (s.ok g aF w) s.bd (s.bk aF) x v->Rel bT ((s.setRow r (l.set k {o with es})).ok g aF bT) (s.setRow r (l.set k {o with es})).bd ((s.setRow r (l.set k {o with es})).bk aF) x v:=by
 have hq:({o with es}:a1).cO≠ .gone:=by rw[aX];simp
 have bs : ∀q j,(s.setRow r (l.set k {o with es})).ak q j=if q=r/\j=k then some {o with es} else s.ak q j:=by
  intro q j;rw[mT];by_cases e:q=r
  ·subst e;have eH:eb (some l) k=some o:=(by rw[<- ai];exact an);rw[dw rfl,Ty l k o _ eH hq];by_cases e2:j=k<;>simp[e2,S.ak,ai]
  ·simp[e]
 have rU:s.nc aF b:=⟨r,k,o,m,an,aX,ag⟩
 have cZ:Step g s aF w (s.setRow r (l.set k {o with es})) aF bT:=by
  refine⟨Hg s ai (by simp),fun q j a4=> .inl ?_,fun q a4=> ?_,fun q a4 aS=>yo q fun e=>aS (e▸rU),Nat.le_of_eq fE.symm⟩
  ·simp only[S.bk,bs]
   by_cases e:q=r/\j=k
   ·obtain⟨rfl,rfl⟩:=e;simp[an]
   ·rw[dz e]
  ·obtain⟨iO,j,p,aI,h1,h2,R⟩:=a4
   rw[bs] at h1;by_cases e:iO=r/\j=k
   ·obtain⟨rfl,rfl⟩:=e;exact .inl ⟨iO,j,o,aI,an,aX,R⟩
   ·rw[dz e] at h1;exact .inl ⟨iO,j,p,aI,h1,h2,R⟩
 refine⟨{tojq:=⟨?_,?_,?_,?_,h.mlt,h.o0,cZ.stay h.stay,h.low⟩,env:=fun t=>cZ.rel (h.env t),defers:=h.defers,kO:=h.kO},fun x v=>cZ.rel⟩
 ·intro q j p ly
  rw[bs] at ly;by_cases e:q=r/\j=k
  ·obtain⟨rfl,rfl⟩:=e;simp at ly;subst ly;rw[ag];exact⟨c,fu,hw,hm,hlen,fun j x ab=>let ⟨v,e1,e2,bM⟩:=a2 j x ab;⟨v,e1,e2,cZ.rel bM⟩⟩
  ·rw[dz e] at ly;refine cZ.obj (fun k3 aI lc=>yo k3 ?_) (h.obj q j p ly);rintro rfl;exact e (h.inj q j p r k o k3 aI m ly an lc ag)
 ·intro q j p iO i9 lp k3 ji ig h1 h2 R ah
  have key : ∀q j p,(s.setRow r (l.set k {o with es})).ak q j=some p-> ∃lp,s.ak q j=some lp:=by
   intro q j p a4;rw[bs] at a4;by_cases e:q=r/\j=k
   ·obtain⟨rfl,rfl⟩:=e;exact⟨o,an⟩
   ·rw[dz e] at a4;exact⟨p,a4⟩
  obtain⟨p1,V6⟩:=key q j p h1;obtain⟨p2,FH⟩:=key iO i9 lp h2;exact h.inj q j p1 iO i9 p2 k3 ji ig V6 FH R ah
 ·intro q j p k3 aI h1 h2
  rw[bs] at h1;by_cases e:q=r/\j=k
  ·obtain⟨rfl,rfl⟩:=e;exact h.own q j o k3 aI an h2
  ·rw[dz e] at h1;exact h.own q j p k3 aI h1 h2
 ·refine h.hY.step sZ Nd MR (Nat.le_of_eq fE.symm) fun k3 m5 lc=>yo k3 ?_
  rintro rfl;rcases h.own r k o k3 m an ag with h1|h1
  ·omega
  ·exact lc h1
inductive tS where
 | id
 | eU (es:List (List aG))
 | fR (sz:Nat)
 | kt
 | cK (x:aG)
 | len (n:Nat)
 | n7 (sz:Nat)
 | at_ (j i n:Nat)
 | view (ew:Nat) (o:a1) (es:List (List aG))
 deriving Inhabited
inductive CV where
 | cM (c:tS)
 | ptr (l:List tS)
 | vA (l:List tS)
 | agg (l:List tS)
 deriving Inhabited
inductive mL where
 | bl (c:CV)
 | comp (l:List CV)
 deriving Inhabited
inductive ju where
 | pure
 | box (l:List tS)
 | cK (row:List a1)
 | bn (row:List a1)
 | rx (row:List a1)
 | drop
 deriving Inhabited
structure nF where
 bF:List (Nat×Nat):=[]
 j4:Option (Nat×Nat):=none
 deriving DecidableEq
inductive Src where
 | row (r:Nat)
 | ak (r k:Nat) (o:a1)
 deriving Inhabited
structure Gz where
 a6:List Src:=[]
 dq:List ju:=[]
 ac:List mL
 r:aG
 fe:List (List a1):=[]
 gW:mL:= .bl (.cM .id)
 hZ:List ju:=[]
 fg:List Nat:=[]
 fb:Bool:=true
inductive gl where
 | none
 | J (t:Bool)
 | b2 (c:List aG)
 | gq (o:a1) (c:List aG)
 | ev
 | call (c:Gz)
 | ay (m:Nat) (o:Option a1:=Option.none)
 | fX (t:Nat) (v:aG) (a:gl)
 | vU (r:Nat) (a:gl)
 | w7 (r n:Nat) (a:gl)
structure iN where
 val:aG
 gI:List (Nat×List a1):=[]
 f5:List Prop:=[]
def EH (P:Program)(t:TypeId):Bool :=
 match P.underlying t with
 | some (.struct _)|some (.array _ _)=>true
 | _=>false
def Cm (o9:ar):ByteArray:=o9.foldl (fun r n=>r.push (UInt8.ofNat n.toNat)) ByteArray.empty
def bytesOf:List (List aG)->Option ar
 | []=>some []
 | [.n .u8 n]::es=>(bytesOf es).map (n :: ·)
 | _=>none
def elemAt (es:List (List aG))(i:Nat):gl->Option (List aG×List Prop)
 | .b2 c=>some (c,[es[i]? = some c])
 | .gq _ c=>some (c,[es[i]? = some c])
 | _=>match es[i]? with
  | some c=>some (c,[])
  | none=>none
def pY (row:Option (List a1))(k:Nat):gl->Option (a1×List Prop)
 | .gq o _=>match row with
  | some row=>some (o,[eb (some row) k=some o])
  | none=>none
 | _=>match eb row k with
  | some o=>some (o,[])
  | none=>none
def sP (P:Program)(t:TypeId)(c:List aG)(off:Nat):Option aG :=
 if !((P.underlying t).isSome && (P.info? t).isSome) then none else
 if EH P t then (if off+P.cellsOf t<=c.length then some (.agg ((c.drop off).take (P.cellsOf t))) else none)
 else match c[off]? with
  | some x=>if x.one then some x else none
  | none=>none
def MS (op:BinOp)(x y:aG):Option (aG×List Prop) :=
 match x,y with
 | .n k a,.n ey b =>
  match op with
  | .shl=>some (.n k (k.wrap (a*2 ^ (min b.toNat k.bits))),[0<=b])
  | .shr=>some (.n k (a.fdiv (2 ^ (min b.toNat k.bits))),[0<=b])
  | _=>if k≠ey then none else
   match op with
   | .add=>some (.n k (k.wrap (a+b)),[])
   | .sub=>some (.n k (k.wrap (a-b)),[])
   | .mul=>some (.n k (k.wrap (a*b)),[])
   | .quo=>some (.n k (k.wrap (a.tdiv b)),[b≠0])
   | .rem=>some (.n k (a.tmod b),[b≠0])
   | .and=>some (.n k (k.wrap ((BitVec.ofInt k.bits a &&& BitVec.ofInt k.bits b).toNat)),[])
   | .or=>some (.n k (k.wrap ((BitVec.ofInt k.bits a ||| BitVec.ofInt k.bits b).toNat)),[])
   | .xor=>some (.n k (k.wrap ((BitVec.ofInt k.bits a ^^^ BitVec.ofInt k.bits b).toNat)),[])
   | .eql=>some (.b (a == b),[])
   | .neq=>some (.b (a != b),[])
   | .lss=>some (.b (decide (a<b)),[])
   | .leq=>some (.b (decide (a<=b)),[])
   | .gtr=>some (.b (decide (b<a)),[])
   | .geq=>some (.b (decide (b<=a)),[])
   | _=>none
 | .s a,.s b =>
  match op with
  | .add=>some (.s (a++b),[a.size+b.size<9223372036854775808])
  | .eql=>some (.b (a.toList == b.toList),[])
  | .neq=>some (.b (!(a.toList == b.toList)),[])
  | _=>none
 | _,_=>none
def uD (P:Program)(t:TypeId)(x y:aG):Option Bool :=
 match P.underlying t,x,y with
 | some .bool,.b a,.b c=>some (a == c)
 | some (.pointer _),.jo,.jo=>some true
 | some (.pointer _),.fB ..,.jo=>some false
 | some (.pointer _),.jo,.fB .. => some false
 | some (.slice _),.fy,.fy=>some true
 | some (.slice _),.jy,.fy=>some false
 | _,_,_=>none
def Nf (op:UnOp)(x:aG):Option aG :=
 match op,x with
 | .neg,.n k a=>some (.n k (k.wrap (0-a)))
 | .not,.b a=>some (.b (!a))
 | _,_=>none
def fieldsOf (P:Program)(t:TypeId):Option (Array Field) :=
 match P.underlying t with
 | some (.struct lR)=>some lR
 | _=>none
def rV (P:Program)(t:TypeId):Option TypeId :=
 match P.underlying t with
 | some (.slice e)=>some e
 | _=>none
def sy (P:Program)(t:TypeId):Option (List aG) :=
 match P.info? t with
 | some i=>match i.zero with
  | some v=>if v.cells.toList.all (·.oneCell') then some (v.cells.toList.map ofValue) else none
  | none=>none
 | none=>none
def Fg (P:Program)(t:TypeId):Option (Nat×TypeId) :=
 match P.underlying t with
 | some (.array n e)=>if (P.info? e).isSome/\P.cellsOf e≠0/\1<n then some (n,e) else none
 | _=>none
def r3 (j:Int):List aG->List aG->Option (List aG)
 | [],[]=>some []
 | .n k x::a,.n ey y::b=>if k=ey then (r3 j a b).map (.n k (if j=0 then x else y) :: ·) else none
 | _,_=>none
def Mj (P:Program)(t:TypeId)(x lq:aG):Option iN :=
 match Fg P t,x,lq with
 | some (2,e),.agg cs,.n _ j=>match sP P e cs (0*P.cellsOf e),sP P e cs (1*P.cellsOf e) with
  | some (.agg a),some (.agg b)=>(r3 j a b).map fun c=>{val:= .agg c,f5:=[0<=j,j<2]}
  | _,_=>none
 | _,_,_=>none
def Cb (P:Program)(a0:Nat->Option (List a1))(t:TypeId)(x lq:aG)(c2:gl):Option iN :=
 match Fg P t,x,lq with
 | some (n,e),.ref r k i off,.n _ j=>match pY (a0 r) k c2 with
  | some (ak,bO)=>match elemAt ak.es i c2 with
   | some (_,aN)=>some {val:= .ref r k i (off+j.toNat*P.cellsOf e),f5:=bO++aN++[0<=j,j<n]}
   | none=>none
  | none=>none
 | _,_,_=>none
def EI:aG->aG->aG
 | .fy,.isl sz []=> .isl sz []
 | .jo,.gr sz none=> .gr sz none
 | .fy,.jP r c sz none=> .jP r c sz none
 | x,_=>x
def tu:List aG->List aG->List aG
 | x::z,y::c=>EI x y::tu z c
 | z,_=>z
def vp (z:List aG):gl->List aG
 | .b2 c=>tu z c
 | _=>z
def setCells (c:List aG)(off:Nat)(vs:List aG):List aG:=c.take off++vs++c.drop (off+vs.length)
def ux:List aG->List (Nat×Nat×aG)->Option (List aG)
 | c,[]=>some c
 | c,(off,size,x)::rest =>
  if x.BH && x.cells.length=size && decide (off+size<=c.length) then ux (setCells c off x.cells) rest else none
def Cc (sz:Nat):List (List aG)->List (Nat×aG)->Option (List (List aG))
 | es,[]=>some es
 | es,(i,x)::rest=>if x.BH && x.cells.length=sz && decide (i<es.length) then Cc sz (es.set i x.cells) rest else none
def af:Option aG->Nat->Option (Nat×List Prop)
 | none,d=>some (d,[])
 | some (.n _ x),_=>some (x.toNat,[0<=x])
 | _,_=>none
def LL (P:Program)(t:TypeId)(parts:List (Nat×aG)):Option iN :=
 match Fg P t,sy P t with
 | some (_,e),some z=>(ux z (parts.map fun p=>(p.1*P.cellsOf e,P.cellsOf e,p.2))).map fun c=>{val:= .agg c}
 | _,_=>none
def fC (P:Program)(E:Nat->aG)(a0:Nat->Option (List a1))(a3:Nat)(o:Oper)(c2:gl):Option iN :=
 let iP:=fx E
 match o.op with
 | .move x | .assign x=>some {val:=iP x}
 | .pick c a b =>
  match iP c,c2 with
  | .b x,.J t=>some {val:=if t then iP a else iP b,f5:=[x=t]}
  | .b true,_=>some {val:=iP a}
  | .b false,_=>some {val:=iP b}
  | _,_=>none
 | .alloc t =>
  match sy P t with
  | some c=>some {val:= .ref a3 0 0 0,gI:=[(a3,[⟨c.length,[c],.live⟩])]}
  | none=>none
 | .box _ x =>
  match iP x with
  | .agg c=>some {val:= .ref a3 0 0 0,gI:=[(a3,[⟨c.length,[c],.live⟩])]}
  | v=>if v.one then some {val:= .ref a3 0 0 0,gI:=[(a3,[⟨1,[[v]],.live⟩])]} else none
 | .load t x =>
  match iP x with
  | .ref r k i off =>
   match pY (a0 r) k c2 with
   | some (ak,bO)=>match elemAt ak.es i c2 with
    | some (c,aN)=>match sP P t c off with
     | some v=>some {val:=v,f5:=bO++aN}
     | none=>none
    | none=>none
   | none=>none
  | .fB _ es i off =>
   match elemAt es i c2 with
   | some (c,aN)=>match sP P t c off with
    | some v=>some {val:=v,f5:=aN}
    | none=>none
   | none=>none
  | _=>none
 | .store t x y =>
  match iP x with
  | .ref r k i off =>
   match a0 r with
   | none=>none
   | some row =>
   match pY (some row) k c2 with
   | some (ak,bO) =>
    if ak.cO≠ .live then none else
    let v:=iP y
    if v.BH=false then none else
    if v.cells.length≠P.cellsOf t\/(P.info? t).isSome=false then none else
    match c2 with
    | .ev=>if off=0 then some {val:= .dead,gI:=[(r,row.set k {ak with es:=ak.es.set i v.cells})],f5:=bO++[i<ak.es.length,v.cells.length=ak.sz]} else none
    | _=>match elemAt ak.es i c2 with
     | some (c,aN)=>if off+v.cells.length<=c.length then some {val:= .dead,gI:=[(r,row.set k {ak with es:=ak.es.set i (setCells c off v.cells)})],f5:=bO++aN} else none
     | none=>none
   | none=>none
  | _=>none
 | .nilCheck x =>
  match iP x with
  | .ref r k i off=>match pY (a0 r) k c2 with
   | some (ak,bO)=>match elemAt ak.es i c2 with
    | some (_,aN)=>some {val:= .ref r k i off,f5:=bO++aN}
    | none=>none
   | none=>none
  | .fB sz es i off=>some {val:= .fB sz es i off}
  | .fn f c=>some {val:= .fn f c}
  | _=>none
 | .binOp op t x y _ =>
  match MS op (iP x) (iP y) with
  | some (v,ak)=>some {val:=v,f5:=ak}
  | none=>match op with
   | .eql=>(uD P t (iP x) (iP y)).map fun r=>{val:= .b r}
   | .neq=>(uD P t (iP x) (iP y)).map fun r=>{val:= .b (!r)}
   | _=>none
 | .unOp op _ x=>(Nf op (iP x)).map fun v=>{val:=v}
 | .convert src dst x =>
  match P.underlying dst,iP x with
  | some (.int k),.n _ a=>if (P.underlying src).isSome then some {val:= .n k (k.wrap a)} else none
  | some .string,.bf r k bW len =>
   match (rV P src).bind P.underlying,eb (a0 r) k with
   | some (.int .u8),some ak=>match bytesOf ((ak.es.drop bW).take len) with
    | some o9=>if bW+len<=ak.es.length/\ak.sz=1 then some {val:= .s (Cm o9)} else none
    | none=>none
   | _,_=>none
  | _,_=>none
 | .makeFunc (.func f) first captured =>
  if first.size=0 then some {val:= .fn f (captured.toList.map iP)} else none
 | .makeSlice t l c =>
  match rV P t,iP l,iP c with
  | some e,.n _ l,.n _ c =>
   match P.info? e,sy P e with
   | some i,some z=>if z.length=i.size then some {val:= .bf a3 0 0 l.toNat,gI:=[(a3,[⟨z.length,List.replicate l.toNat (vp z c2),.live⟩])],f5:=[0<=l,l<=c,(i.bytes:Int)*c<=281474976710656,c<9223372036854775808]} else none
   | _,_=>none
  | _,_,_=>none
 | .fieldAddr t x f =>
  match fieldsOf P t with
  | some lR=>match lR[f]? with
   | some fd=>if P.cellsOf fd.type=0 then none else
    match iP x with
    | .ref r k i off=>match pY (a0 r) k c2 with
     | some (ak,bO)=>match elemAt ak.es i c2 with
      | some (_,aN)=>some {val:= .ref r k i (off+fd.offset),f5:=bO++aN}
      | none=>none
     | none=>none
    | .fB sz es i off=>some {val:= .fB sz es i (off+fd.offset)}
    | _=>none
   | none=>none
  | none=>none
 | .field t x f =>
  match fieldsOf P t with
  | some lR=>match lR[f]?,iP x with
   | some fd,.agg c=>(sP P fd.type c fd.offset).map fun v=>{val:=v}
   | _,_=>none
  | none=>none
 | .indexAddr t x lq =>
  match rV P t,iP lq with
  | some e,.n _ j =>
   match iP x with
   | .isl sz es=>if sz=P.cellsOf e/\sz≠0 then some {val:= .fB sz es j.toNat 0,f5:=[0<=j,j<es.length]} else none
   | .bf r k bW len=>match a0 r with
    | some row=>match pY (some row) k c2 with
     | some (ak,bO)=>if ak.sz=P.cellsOf e/\ak.sz≠0 then some {val:= .ref r k (bW+j.toNat) 0,f5:=bO++[0<=j,j<len]} else none
     | none=>none
    | none=>none
   | _=>none
  | _,_=>Cb P a0 t (iP x) (iP lq) c2
 | .index t x lq =>
  match P.underlying t,iP x,iP lq with
  | some .string,.s s,.n _ j=>some {val:= .n .u8 (s.data.toList.getD j.toNat 0).toNat,f5:=[0<=j,j<s.size]}
  | _,_,_=>Mj P t (iP x) (iP lq)
 | .extract x i =>
  match iP x with
  | .dY vs=>(vs[i]?).map fun v=>{val:=v}
  | _=>none
 | .slice t x bW ad none =>
  match P.underlying t,iP x with
  | some (.slice e),.isl sz es =>
   match af (bW.map iP) 0,af (ad.map iP) es.length with
   | some (l,bO),some (h,aN)=>if sz=P.cellsOf e/\sz≠0 then some {val:= .isl sz ((es.drop l).take (h-l)),f5:=bO++aN++[l<=h,h<=es.length]} else none
   | _,_=>none
  | some (.slice e),.bf r k Xd len =>
   match a0 r with
   | none=>none
   | some row=>match pY (some row) k c2 with
    | none=>none
    | some (ak,Xe) =>
     match af (bW.map iP) 0,af (ad.map iP) len with
     | some (l,bO),some (h,aN)=>if ak.sz=P.cellsOf e/\ak.sz≠0 then some {val:= .bf r k (Xd+l) (h-l),f5:=Xe++bO++aN++[l<=h,h<=len]} else none
     | _,_=>none
  | some .string,.s s =>
   match af (bW.map iP) 0,af (ad.map iP) s.size with
   | some (l,bO),some (h,aN)=>some {val:= .s (s.extract l h),f5:=bO++aN++[l<=h,h<=s.size]}
   | _,_=>none
  | _,_=>none
 | .build t parts =>
  match fieldsOf P t,sy P t with
  | some lR,some z =>
   if lR.toList.all (fun f=>(P.info? f.type).isSome)=false then none else
   match parts.toList.mapM fun (p:Nat×Operand)=>(lR[p.1]?).map fun fd=>(fd.offset,P.cellsOf fd.type,iP p.2) with
   | some l=>(ux z l).map fun c=>{val:= .agg c}
   | none=>none
  | _,_=>LL P t (parts.toList.map fun p=>(p.1,iP p.2))
 | .buildSlice t len parts =>
  match rV P t with
  | some e=>match sy P e with
   | some z =>
    if len*z.length>16777216\/z.length≠P.cellsOf e\/z.length=0 then none else
    match Cc z.length (List.replicate len z) (parts.toList.map fun p=>(p.1,iP p.2)) with
    | some es=>some {val:= .bf a3 0 0 len,gI:=[(a3,[⟨z.length,es,.live⟩])]}
    | none=>none
   | none=>none
  | none=>none
 | .call {callee:= .builtin .len,args,argTypes} =>
  match args.toList.map iP,P.underlying (argTypes.getD 0 0),decide (argTypes.size=1) with
  | [.isl _ es],some (.slice _),true=>some {val:= .n .i64 es.length}
  | [.bf r k _ len],some (.slice _),true=>match a0 r with
   | some row=>match pY (some row) k c2 with
    | some (_,bO)=>some {val:= .n .i64 len,f5:=bO}
    | none=>none
   | none=>none
  | [.fy],some (.slice _),true=>some {val:= .n .i64 0}
  | [.s x],some .string,true=>some {val:= .n .i64 x.size}
  | _,_,_=>none
 | _=>none
theorem q5 {α:Type}{sz:Nat}(bJ:0<sz): ∀(es:List (List α)) (_ : ∀e∈es,e.length=sz) (j:Nat),
 es.flatten[j]? = (es[j / sz]?).bind (·[j % sz]?)
 | [],_,j=>by simp
 | e::es,h,j=>by
  have he:e.length=sz:=h e (by simp);rw[List.flatten_cons,List.getElem?_append];by_cases au:j<sz
  ·rw[dw (by omega),Nat.div_eq_of_lt au,Nat.mod_eq_of_lt au];simp
  ·rw[dz (by omega),he,q5 bJ es (fun e5 nj=>h e5 (by simp[nj])) (j-sz)];have h1:j / sz=(j-sz) / sz+1:=Nat.div_eq_sub_div bJ (by omega);have h2:j % sz=(j-sz) % sz:=Nat.mod_eq_sub_mod (by omega);rw[h1,h2];simp
theorem Ee {α:Type}{sz:Nat}{es:List (List α)}(aS:∀e∈es,e.length=sz){i:Nat}{c:List α}(he:es[i]? = some c){j:Nat}(au:j<sz):
 es.flatten[i*sz+j]? = c[j]? := by
 have bJ:0<sz:=by omega
 rw[q5 bJ es aS];have h1:(i*sz+j) / sz=i:=by rw[Nat.mul_comm,Nat.mul_add_div bJ,Nat.div_eq_of_lt au];omega
 have h2:(i*sz+j) % sz=j:=by rw[Nat.mul_comm,Nat.mul_add_mod,Nat.mod_eq_of_lt au]
 rw[h1,h2,he];rfl
theorem Sc {α:Type}{sz:Nat}{es:List (List α)}(aS:∀e∈es,e.length=sz){i:Nat}{c eG:List α}(he:es[i]? = some c)(a2:eG.length=sz)(j:Nat):
 (es.set i eG).flatten[j]? = if i*sz<=j/\j<i*sz+sz then eG[j-i*sz]? else es.flatten[j]? := by
 rcases Nat.eq_zero_or_pos sz with h0|bJ
 ·subst h0
  have e1 : ∀(l:List (List α)),(∀e∈l,e.length=0)->l.flatten=[]:=by
   intro l aS;induction l with
   | nil=>rfl
   | cons a l ih=>rw[List.flatten_cons,ih fun e he=>aS e (by simp[he])];have:=aS a (by simp);simp_all
  rw[e1 _ aS,e1 (es.set i eG) (by
   intro e hm;rcases List.mem_or_eq_of_mem_set hm with h|h
   ·exact aS e h
   ·exact h▸a2)]
  simp
 ·have Ng : ∀e∈es.set i eG,e.length=sz:=by
   intro e hm;rcases List.mem_or_eq_of_mem_set hm with h|h
   ·exact aS e h
   ·exact h▸a2
  have ad:i<es.length:=by
   rcases Nat.lt_or_ge i es.length with h|h
   ·exact h
   ·rw[List.getElem?_eq_none h] at he;simp at he
  rw[q5 bJ _ Ng,q5 bJ _ aS];by_cases a4:j / sz=i
  ·have h1:i*sz<=j/\j<i*sz+sz:=by
    subst a4;constructor
    ·exact Nat.div_mul_le_self j sz
    ·have:=Nat.lt_div_mul_add (a:=j) bJ;omega
   rw[dw h1,a4,List.getElem?_set_self ad];have:j % sz=j-i*sz:=(by subst a4;have:=Nat.div_add_mod j sz;rw[Nat.mul_comm] at this;omega);simp[this]
  ·have h1 : ¬(i*sz<=j/\j<i*sz+sz):=by
    rintro⟨a,b⟩;apply a4;obtain⟨d,rfl⟩ : ∃d,j=i*sz+d:=⟨j-i*sz,by omega⟩;rw[Nat.mul_comm i sz,Nat.mul_add_div bJ,Nat.div_eq_of_lt (by omega)];omega
   rw[dz h1,List.getElem?_set_ne (Ne.symm a4)]
def qk (w:World)(ok:Nat->Prop)(bd:ki)(bk:j3)(eT o sz:Nat)(es:List (List aG)):Prop :=
 (∀e∈es,e.length=sz)/\ ∀(j:Nat) x,es.flatten[j]? = some x-> ∃v,w.cell? ⟨eT,o+j,none⟩=some v/\li v=true/\Rel w ok bd bk x v
theorem ka.rd {w:World}{ok:Nat->Prop}{bd:ki}{bk:j3}{o:a1}{eT m:Nat}(h:ka w ok bd bk o (some (eT,m))):qk w ok bd bk eT 0 o.sz o.es:=by obtain⟨c,fu,h1,h2,R,ah⟩:=h;refine⟨R,fun j x ab=> ?_⟩;obtain⟨v,e1,e2,bM⟩:=ah j x ab;exact⟨v,by rw[cell_of_row w eT (0+j) c fu (0,0) h1,dG];exact e1,e2,bM⟩
theorem ajO {w:World}{ok:Nat->Prop}{bd:ki}{bk:j3}{x:aG}{v:Value}(h:Rel w ok bd bk x v)(an:x.one=true):v.oneCell'=true:=h.li an
theorem SY {P:Program}{t:TypeId}(h:(P.underlying t).isSome=true)(w:World):(isAgg t).run P w = .ok (EH P t) w:=by
 cases bF:P.underlying t with
 | none=>simp[bF] at h
 | some d=>cases d<;>simp[isAgg,EH,run_underlying bF,bF]
theorem u7 {P:Program}{t:TypeId}(h:(P.info? t).isSome=true)(w:World):(sizeOf t).run P w = .ok (P.cellsOf t) w:=by
 cases ad:P.info? t with
 | none=>simp[ad] at h
 | some i=>simp[sizeOf,typeInfo,ad,Program.cellsOf]
theorem tp (b o n:Nat):(⟨b,o,none⟩:Addr).add n=⟨b,o+n,none⟩:=by unfold Addr.add;split<;>simp_all
theorem Ln {P:Program}{w:World}{ok:Nat->Prop}{bd:ki}{bk:j3}{eT o sz i off:Nat}{es:List (List aG)}{c:List aG}{t:TypeId}{x:aG}
 (jz:qk w ok bd bk eT o sz es) (he:es[i]? = some c) (cj:sP P t c off=some x) :
 ∃v,(Instr.loadAt t (.pointer (some ⟨eT,o+(i*sz+off),none⟩))).run P w = .ok v w/\Rel w ok bd bk x v:=by
 have hlen:c.length=sz:=jz.1 c (dH he);unfold sP at cj;split at cj
 ·simp at cj
 ·rename_i ad
  simp only[Bool.not_eq_true',Bool.not_eq_false,dM] at ad;have k8 : ∀j,j<sz-> ∃y v,c[j]? = some y/\w.cell? ⟨eT,o+(i*sz+j),none⟩=some v/\li v=true/\Rel w ok bd bk y v:=(by intro j au;have aZ:c[j]? = some c[j]:=dy (by omega);obtain⟨v,e1,e2,bM⟩:=jz.2 (i*sz+j) c[j] (by rw[Ee jz.1 he au,aZ]);exact⟨_,v,aZ,e1,e2,bM⟩);simp only[Instr.loadAt,Instr.sureAddr,loadVar,Sem.run_bind,Sem.run_pure,Result.andThen,SY ad.1,u7 ad.2];split at cj
  ·rename_i tC
   rw[tC];split at cj
   ·rename_i hle
    simp at cj;subst cj;have aS:=run_loadCells (P:=P) w ⟨eT,o+(i*sz+off),none⟩ (P.cellsOf t) (fun j=>(w.cell? ⟨eT,o+(i*sz+(off+j)),none⟩).getD undef) (by intro j au;obtain⟨y,v,-,e1,-,-⟩:=k8 (off+j) (by omega);rw[tp,show o+(i*sz+off)+j=o+(i*sz+(off+j)) by omega,e1];rfl);refine⟨.agg (List.map (fun j=>(w.cell? ⟨eT,o+(i*sz+(off+j)),none⟩).getD undef) (List.range (P.cellsOf t))).toArray,by simp[aS,Result.andThen,u7 ad.2],?_⟩;refine .agg _ (by simp;omega) ?_ ?_
    ·intro j v bc;rw[dJ,Option.map_eq_some_iff] at bc;obtain⟨q,nk,rfl⟩:=bc;obtain⟨p8,Ct⟩:=List.getElem?_eq_some_iff.1 nk;have a4:j<P.cellsOf t:=(by simpa using p8);obtain rfl:j=q:=(by simpa using Ct);obtain⟨y,v,-,e1,e2,-⟩:=k8 (off+j) (by omega);rw[e1];exact e2
    ·intro j y v aZ bc;rw[dJ,Option.map_eq_some_iff] at bc;obtain⟨q,nk,rfl⟩:=bc;obtain⟨p8,Ct⟩:=List.getElem?_eq_some_iff.1 nk;have a4:j<P.cellsOf t:=(by simpa using p8);obtain rfl:j=q:=(by simpa using Ct);rw[List.getElem?_take,dw a4,List.getElem?_drop] at aZ;obtain⟨nu,v,h0,e1,e2,bM⟩:=k8 (off+j) (by omega);rw[h0] at aZ;simp at aZ;subst aZ;rw[e1];exact bM
   ·simp at cj
  ·rename_i tC
   have tC:EH P t=false:=(by simpa using tC);rw[tC];split at cj
   ·rename_i y aZ
    split at cj
    ·simp at cj;subst cj
     have Cn:off<sz:=by
      rcases Nat.lt_or_ge off c.length with h|h
      ·omega
      ·rw[List.getElem?_eq_none h] at aZ;simp at aZ
     obtain⟨nu,v,h0,e1,e2,bM⟩:=k8 off Cn;rw[h0] at aZ;simp at aZ;subst aZ;exact⟨v,by simp[e1],bM⟩
    ·simp at cj
   ·simp at cj
theorem Q8 {c:List aG}{off:Nat}{vs:List aG}(h:off+vs.length<=c.length):(setCells c off vs).length=c.length:=by simp[setCells];omega
theorem Lb {c:List aG}{off:Nat}{vs:List aG}(h:off+vs.length<=c.length)(j:Nat):
 (setCells c off vs)[j]? = if off<=j/\j<off+vs.length then vs[j-off]? else c[j]? := by
 unfold setCells;rw[List.append_assoc,List.getElem?_append];have h1:(c.take off).length=off:=by simp;omega
 rw[h1];by_cases a:j<off
 ·rw[dw a,dz (by omega),List.getElem?_take,dw a]
 ·rw[dz a,List.getElem?_append]
  by_cases b:j<off+vs.length
  ·rw[dw (by omega),dw ⟨by omega,b⟩]
  ·rw[dz (by omega),dz (by omega),List.getElem?_drop];congr 1;omega
theorem afF {c:Array Value}{p:Nat}{vs:List Value}(h:p+vs.length<=c.size)(j:Nat):
 (c.toList.take p++vs++c.toList.drop (p+vs.length)).toArray[j]? = if p<=j/\j<p+vs.length then vs[j-p]? else c[j]? := by
 rw[List.getElem?_toArray,List.append_assoc,List.getElem?_append];have h1:(c.toList.take p).length=p:=by simp;omega
 rw[h1];by_cases a:j<p
 ·rw[dw a,dz (by omega),List.getElem?_take,dw a,Array.getElem?_toList]
 ·rw[dz a,List.getElem?_append]
  by_cases b:j<p+vs.length
  ·rw[dw (by omega),dw ⟨by omega,b⟩]
  ·rw[dz (by omega),dz (by omega),List.getElem?_drop,Array.getElem?_toList];congr 1;omega
theorem ab4 {P:Program}{g:G}{s:S}{aF:gb}{a:Act}{w:World}(h:c8 g s aF a w){r k b m i off:Nat}{l:List a1}{o:a1}{c:List aG}
 (ai:s.a0 r=some l) (an:s.ak r k=some o) (aX:o.cO = .live) (ag:aF r k=some (b,m)) (he:o.es[i]? = some c)
 {t:TypeId} (Nh:(P.info? t).isSome=true) {x:aG} {v:Value} (ab:Rel w (s.ok g aF w) s.bd (s.bk aF) x v) (nh:x.one=true\/ ∃c,x = .agg c)
 (fE:x.cells.length=P.cellsOf t) (i6:off+x.cells.length<=c.length) :
 ∃bT,(Instr.storeAt t (.pointer (some ⟨b,i*o.sz+off,none⟩)) v).run P w = .ok () bT /\
  c8 g (s.setRow r (l.set k {o with es:=o.es.set i (setCells c off x.cells)})) aF a bT:=by
 obtain⟨vs,bc,r9,k8,fZ⟩:=ab.cellsOf nh;have bs:=h.obj r k o an;rw[ag] at bs;obtain⟨cI,fu,h1,h2,R,ah⟩:=bs;have hlen:c.length=o.sz:=R c (dH he)
 have Co:i*o.sz+off+vs.length<=cI.size:=by
  rcases Nat.eq_zero_or_pos o.sz with cD|cD
  ·have:off=0:=(by omega);have:vs.length=0:=(by omega);rw[cD];omega
  ·have aS:o.es.flatten[i*o.sz+(o.sz-1)]? = some (c[o.sz-1]'(by omega)):=by
    rw[Ee R he (by omega)];exact dy (by omega)
   obtain⟨Xf,e1,-,-⟩:=ah _ _ aS;have:=(Array.getElem?_eq_some_iff.1 e1).1;omega
 have nG:=run_storeCells_at P b (i*o.sz+off) fu vs 0 cI w h1 (by simpa using Co) (fun Xf FI=>by obtain⟨q,a4⟩:=List.getElem?_of_mem FI;exact k8 q Xf a4);simp only[Nat.add_zero] at nG
 have jW:(Instr.storeAt t (.pointer (some ⟨b,i*o.sz+off,none⟩)) v).run P w =
  .ok () (w.setRow b (cI.toList.take (i*o.sz+off)++vs++cI.toList.drop (i*o.sz+off+vs.length)).toArray):=by
  have bJ:v.cells.size=P.cellsOf t:=(by rw[bc];simpa using r9.trans fE);simp only[Instr.storeAt,Instr.sureAddr,storeVar,Sem.run_bind,Sem.run_pure,Result.andThen,u7 Nh,bJ,ne_eq,not_true_eq_false,if_false];rw[bc];simpa using nG
 refine⟨_,jW,?_⟩;have agO:(w.setRow b (cI.toList.take (i*o.sz+off)++vs++cI.toList.drop (i*o.sz+off+vs.length)).toArray).heap.size=w.heap.size:=size_setRow _ _ _;have uE:(setCells c off x.cells).length=o.sz:=by rw[Q8 i6];exact hlen
 refine(h.write ai an aX ag _ _ fu (setRow_heap w b cI _ fu _ h1) agO (fun q a4=>setRow_other w b q _ a4) rfl rfl rfl ?_ ?_ ?_).1
 ·simp;omega
 ·intro e hm
  rcases List.mem_or_eq_of_mem_set hm with cX|cX
  ·exact R e cX
  ·exact cX▸uE
 ·intro j y aZ
  rw[afF Co];rw[Sc R he uE] at aZ;by_cases nl:i*o.sz<=j/\j<i*o.sz+o.sz
  ·rw[dw nl,Lb i6] at aZ
   by_cases VE:off<=j-i*o.sz/\j-i*o.sz<off+x.cells.length
   ·rw[dw VE] at aZ;rw[dw ⟨by omega,by omega⟩];have a4:j-(i*o.sz+off)<vs.length:=(by omega);refine⟨vs[j-(i*o.sz+off)],dy a4,k8 _ _ (dy a4),fZ (j-i*o.sz-off) y _ aZ ?_⟩;rw[show j-i*o.sz-off=j-(i*o.sz+off) by omega];exact dy a4
   ·rw[dz VE] at aZ;rw[dz (by omega)];refine ah j y ?_;rw[show j=i*o.sz+(j-i*o.sz) by omega,Ee R he (by omega)];exact aZ
  ·rw[dz nl] at aZ;rw[dz (by rw[r9];omega)];exact ah j y aZ
def S.je (s:S)(u:List (Nat×List a1)):S:=u.foldl (fun s p=>s.setRow p.1 p.2) s
@[simp] theorem S.ajZ (s:S):s.je []=s:=rfl
@[simp] theorem S.aj0 (s:S) (p:Nat×List a1):s.je [p]=s.setRow p.1 p.2:=rfl
section
variable {w:World} {ok:Nat->Prop} {bd:ki} {bk:j3} {v:Value}
theorem Rel.wF {x:Bool}(h:Rel w ok bd bk (.b x) v):v = .bool x:=by cases h;rfl
theorem Rel.pW {k:IntKind}{x:Int}(h:Rel w ok bd bk (.n k x) v):v = .int k x:=by cases h;rfl
theorem Rel.Cd {x:ByteArray}(h:Rel w ok bd bk (.s x) v):v = .string x:=by cases h;rfl
theorem Rel.x7 (h:Rel w ok bd bk .jo v):v = .pointer none:=by cases h;rfl
theorem Rel.rM (h:Rel w ok bd bk .fy v):v = .slice none 0 0:=by cases h;rfl
theorem Rel.HZ (h:Rel w ok bd bk .jy v): ∃a c,v = .slice (some a) 0 c:=by cases h;exact⟨_,_,rfl⟩
theorem Rel.Tz {sz:Nat}(h:Rel w ok bd bk (.gr sz none) v):v = .pointer none:=by cases h;rfl
theorem Rel.LM {sz:Nat}{c:List aG}(h:Rel w ok bd bk (.gr sz (some c)) v):Rel w ok bd bk (.fB sz [c] 0 0) v:=by cases h;assumption
theorem Rel.Ik {f:Nat}{c:List aG}(h:Rel w ok bd bk (.fn f c) v): ∃vs:List Value,v = .func (.func f) #[] vs.toArray/\vs.length=c.length /\
 ∀(j:Nat) x u,c[j]? = some x->vs[j]? = some u->Rel w ok bd bk x u:=by
 cases h with|fn vs aS ai=>exact⟨vs,rfl,aS,ai⟩
theorem Rel.BP {c:List aG}(h:Rel w ok bd bk (.agg c) v): ∃vs:List Value,v = .agg vs.toArray/\vs.length=c.length/\(∀(j:Nat) u,vs[j]? = some u->VL.li u=true) /\
 ∀(j:Nat) x u,c[j]? = some x->vs[j]? = some u->Rel w ok bd bk x u:=by
 cases h with|agg vs aS a2 ai=>exact⟨vs,rfl,aS,a2,ai⟩
theorem Rel.BQ {c:List aG}(h:Rel w ok bd bk (.dY c) v): ∃vs:List Value,v = .tuple vs.toArray/\vs.length=c.length /\
 ∀(j:Nat) x u,c[j]? = some x->vs[j]? = some u->Rel w ok bd bk x u:=by
 cases h with|dY vs aS ai=>exact⟨vs,rfl,aS,ai⟩
theorem Rel.yh {r k i off sz:Nat}{p:Option (Nat×Nat)}(h:Rel w ok bd bk (.ref r k i off) v)(cj:bk r k=some (sz,p)):
 p=none\/ ∃b m,p=some (b,m)/\v = .pointer (some ⟨b,i*sz+off,none⟩):=by
 cases h with
 | rN a hu aV =>
  cases p with
  | none=>exact .inl rfl
  | some q=>exact absurd cj (aV _ _)
 | ref hu h =>
  rw[cj] at h;simp only[dB,dD] at h;obtain⟨rfl,rfl⟩:=h;exact .inr ⟨_,_,rfl,rfl⟩
theorem Rel.aj6 {r k i off:Nat}(h:Rel w ok bd bk (.ref r k i off) v): ∃a,v = .pointer a:=by
 cases h with
 | rN a=>exact⟨a,rfl⟩
 | ref=>exact⟨_,rfl⟩
theorem Rel.SZ {r k i off sz b m:Nat}(h:Rel w ok bd bk (.ref r k i off) v)(cj:bk r k=some (sz,some (b,m)))(VF:Nat):
 Rel w ok bd bk (.ref r k i VF) (.pointer (some ⟨b,i*sz+VF,none⟩)):=by
 cases h with
 | rN a hu aV=>exact absurd cj (aV _ _)
 | ref hu h=>exact .ref hu cj
theorem Rel.BR {sz i off:Nat}{es:List (List aG)}(h:Rel w ok bd bk (.fB sz es i off) v): ∃eT o,(ok eT/\jk es)/\v = .pointer (some ⟨eT,o+(i*sz+off),none⟩)/\qk w ok bd bk eT o sz es:=by
 cases h with
 | fB cs aU ag aS hw a2 ai=>exact⟨_,_,⟨aU,ag⟩,rfl,aS,fun j x ab=>⟨cs j,hw j x ab,a2 j x ab,ai j x ab⟩⟩
theorem Rel.Ex {r k bW len sz:Nat}{p:Option (Nat×Nat)}(h:Rel w ok bd bk (.bf r k bW len) v)(cj:bk r k=some (sz,p)):
 (p=none/\bW=0/\len=0/\v = .slice none 0 0)\/ ∃b m a c,p=some (b,m)/\v = .slice a len c/\len<=c/\c<9223372036854775808/\(c=0\/(a=some ⟨b,bW*sz,none⟩/\(bW+c)*sz=m)):=by
 cases h with
 | oS a l c hu aV=>rw[cj] at aV;simp at aV
 | pd hu h =>
  rw[cj] at h;simp only[dB,dD] at h;exact .inl ⟨h.2,rfl,rfl,rfl⟩
 | bf hu h aS a2 hm =>
  rw[cj] at h;simp only[dB,dD] at h;obtain⟨rfl,rfl⟩:=h;exact .inr ⟨_,_,_,_,rfl,rfl,aS,a2,hm.2.imp id fun e=>⟨e,hm.1⟩⟩
theorem Rel.x8 {r k bW len sz:Nat}{p:Option (Nat×Nat)}(h:Rel w ok bd bk (.bf r k bW len) v)(cj:bk r k=some (sz,p)):
 (p=none/\bW=0/\len=0/\v = .slice none 0 0)\/ ∃b m a c,p=some (b,m)/\v = .slice a len c/\len<=c/\c<9223372036854775808/\(bW+c)*sz=m/\(c=0\/a=some ⟨b,bW*sz,none⟩):=by
 cases h with
 | oS a l c hu aV=>rw[cj] at aV;simp at aV
 | pd hu h =>
  rw[cj] at h;simp only[dB,dD] at h;exact .inl ⟨h.2,rfl,rfl,rfl⟩
 | bf hu h aS a2 hm =>
  rw[cj] at h;simp only[dB,dD] at h;obtain⟨rfl,rfl⟩:=h;exact .inr ⟨_,_,_,_,rfl,rfl,aS,a2,hm⟩
theorem Rel.ajP {r k bW len:Nat}(h:Rel w ok bd bk (.bf r k bW len) v): ∃a l c,v = .slice a l c:=by cases h<;>exact⟨_,_,_,rfl⟩
theorem Rel.vj {sz:Nat}{es:List (List aG)}(h:Rel w ok bd bk (.isl sz es) v):
 (es=[]/\ ∃a c,v = .slice a 0 c/\(a=none->c=0))\/ ∃eT off c,(ok eT/\jk es)/\v = .slice (some ⟨eT,off,none⟩) es.length c/\es.length<=c/\qk w ok bd bk eT off sz es:=by
 cases h with
 | la sz a c h=>exact .inl ⟨rfl,a,c,rfl,h⟩
 | isl cs aU ag aS a2 hw jD ai=>exact .inr ⟨_,_,_,⟨aU,ag⟩,rfl,a2,aS,fun j x ab=>⟨cs j,hw j x ab,jD j x ab,ai j x ab⟩⟩
theorem qk.isl {eT off c sz:Nat}{es:List (List aG)}(h:qk w ok bd bk eT off sz es)(aU:ok eT/\jk es)(a2:es.length<=c):Rel w ok bd bk (.isl sz es) (.slice (some ⟨eT,off,none⟩) es.length c):=by
 have ab : ∀j:Nat,∃v,∀x,es.flatten[j]? = some x->w.cell? ⟨eT,off+j,none⟩=some v/\VL.li v=true/\Rel w ok bd bk x v:=by
  intro j
  cases au:es.flatten[j]? with
  | none=>exact⟨undef,fun x ab=>by simp at ab⟩
  | some y =>
   obtain⟨v,h1⟩:=h.2 j y au;exact⟨v,fun x ab=>by simp at ab;subst ab;exact h1⟩
 exact .isl (fun j=>(ab j).choose) aU.1 aU.2 h.1 a2 (fun j x au=>((ab j).choose_spec x au).1) (fun j x au=>((ab j).choose_spec x au).2.1) (fun j x au=>((ab j).choose_spec x au).2.2)
theorem qk.fB {eT o i off sz:Nat}{es:List (List aG)}(h:qk w ok bd bk eT o sz es)(aU:ok eT/\jk es):Rel w ok bd bk (.fB sz es i off) (.pointer (some ⟨eT,o+(i*sz+off),none⟩)):=by
 have ab : ∀j:Nat,∃v,∀x,es.flatten[j]? = some x->w.cell? ⟨eT,o+j,none⟩=some v/\VL.li v=true/\Rel w ok bd bk x v:=by
  intro j
  cases au:es.flatten[j]? with
  | none=>exact⟨undef,fun x ab=>by simp at ab⟩
  | some y =>
   obtain⟨v,h1⟩:=h.2 j y au;exact⟨v,fun x ab=>by simp at ab;subst ab;exact h1⟩
 exact .fB (fun j=>(ab j).choose) aU.1 aU.2 h.1 (fun j x au=>((ab j).choose_spec x au).1) (fun j x au=>((ab j).choose_spec x au).2.1) (fun j x au=>((ab j).choose_spec x au).2.2)
end
def Fin (P:Program)(g:G)(s:S)(a:Act)(w:World)(o:Oper)(bE:iN):Prop :=
 ∃v bT bX,((execOp a.eval o).run P w = .ok (.value v) bT\/((execOp a.eval o).run P w = .ok .skip bT/\v=undef)) /\
  c8 g (s.je bE.gI) bX a bT/\Rel bT ((s.je bE.gI).ok g bX bT) (s.je bE.gI).bd ((s.je bE.gI).bk bX) bE.val v
section
variable {P:Program} {g:G} {s:S} {aF:gb} {a:Act} {w:World} {o:Oper} {c2:gl} {a3:Nat} {bE:iN}
theorem jc (h:c8 g s aF a w){v:Value}(jW:(execOp a.eval o).run P w = .ok (.value v) w)(hu:bE.gI=[])
 (ai:Rel w (s.ok g aF w) s.bd (s.bk aF) bE.val v):Fin P g s a w o bE :=
 ⟨v,w,aF,.inl jW,by rw[hu];exact h,by rw[hu];exact ai⟩
theorem Ub {x:Operand}(h:c8 g s aF a w)(an:o.op = .move x\/o.op = .assign x)(aA:fC P s.E s.a0 a3 o c2=some bE):Fin P g s a w o bE:=by
 have:bE={val:=fx s.E x}:=by rcases an with an|an<;>simp[fC,an] at aA<;>exact aA.symm
 subst this;refine jc (v:=a.eval x) h ?_ rfl (h.eval x);rcases an with an|an<;>simp[execOp,an]
theorem ae6 {c x y:Operand}(h:c8 g s aF a w)(an:o.op = .pick c x y)(aA:fC P s.E s.a0 a3 o c2=some bE)(cQ:∀p∈bE.f5,p):Fin P g s a w o bE:=by
 have a2:=h.eval c;simp only[fC,an] at aA
 have key : ∀t:Bool,fx s.E c = .b t->bE.gI=[]->bE.val=(if t then fx s.E x else fx s.E y)->Fin P g s a w o bE:=by
  intro t cj hu bc;rw[cj] at a2;have e:a.eval c = .bool t:=a2.wF;refine jc (v:=if t then a.eval x else a.eval y) h (by simp[execOp,an,e,asBool]) hu ?_;rw[bc];cases t
  ·exact h.eval y
  ·exact h.eval x
 split at aA
 ·rename_i z t cD;simp at aA;subst aA;have e:z=t:=cQ _ (by simp);subst e;exact key z cD rfl rfl
 ·rename_i cD _;simp at aA;subst aA;exact key true cD rfl rfl
 ·rename_i cD _;simp at aA;subst aA;exact key false cD rfl rfl
 ·simp at aA
theorem H0 (h:c8 g s aF a w)(fF:s.a0 a3=none){v:Value}{ak:a1}{c:Array Value}{fu:TypeId}(aX:ak.cO = .live)
 (jW:(execOp a.eval o).run P w = .ok (.value v) (w.alloc (.cells c fu))) (hu:bE.gI=[(a3,[ak])]) (hlen : ∀e∈ak.es,e.length=ak.sz)
 (a2 : ∀(j:Nat) x,ak.es.flatten[j]? = some x-> ∃v,c[j]? = some v/\li v=true/\Rel w (s.ok g aF w) s.bd (s.bk aF) x v)
 (hval : ∀(bT:World) (l6:Nat->Prop) (ot:ki) (nE:j3),ot a3 0->nE a3 0=some (ak.sz,some (w.heap.size,c.size))->Rel bT l6 ot nE bE.val v):Fin P g s a w o bE:=by
 obtain⟨bX,ag,bJ,-⟩:=h.alloc fF ak aX c fu hlen a2;have h1:(s.setRow a3 [ak]).bd a3 0:=by rw[oP];simp
 have h2:(s.setRow a3 [ak]).bk bX a3 0=some (ak.sz,some (w.heap.size,c.size)):=by simp[S.bk,mT,nx,aX,ag]
 exact⟨v,_,bX,.inl jW,by rw[hu];exact bJ,by rw[hu];exact hval _ _ _ _ h1 h2⟩
theorem Ef {t:TypeId}{z:List aG}(cD:sy P t=some z): ∃i fh,P.info? t=some i/\i.zero=some fh/\z=fh.cells.toList.map ofValue /\
 ∀(j:Nat) x,z[j]? = some x-> ∃v,fh.cells[j]? = some v/\li v=true/\ ∀(w:World) (ok:Nat->Prop) (bd:ki) (bk:j3),Rel w ok bd bk x v:=by
 unfold sy at cD
 cases ad:P.info? t with
 | none=>simp[ad] at cD
 | some i =>
  cases lN:i.zero with
  | none=>simp[ad,lN] at cD
  | some fh =>
   simp only[ad,lN] at cD;split at cD
   ·rename_i pt;simp only[dB] at cD;refine⟨i,fh,rfl,lN,cD.symm,fun j x ab=> ?_⟩;subst cD;rw[dJ,Option.map_eq_some_iff] at ab;obtain⟨v,bc,rfl⟩:=ab;refine⟨v,by rw[<- Array.getElem?_toList];exact bc,?_,fun w ok bd bk=>Sa v⟩;exact List.all_eq_true.1 pt v (dH bc)
   ·simp at cD
theorem ad5 {t:TypeId}(h:c8 g s aF a w)(fF:s.a0 a3=none)(an:o.op = .alloc t)(aA:fC P s.E s.a0 a3 o c2=some bE):Fin P g s a w o bE:=by
 simp only[fC,an] at aA;split at aA
 ·rename_i z cD
  obtain⟨i,fh,ad,lN,e,k8⟩:=Ef cD;simp only[dB] at aA;subst aA;refine H0 (v:= .pointer (some ⟨w.heap.size,0,none⟩)) (c:=fh.cells) (fu:=t) (ak:=⟨z.length,[z],.live⟩) h fF rfl ?_ rfl (by simp) ?_ ?_
  ·simp[execOp,an,Instr.alloc,zeroValue,typeInfo,ad,lN,newVar,newRow]
  ·intro j x ab;simp only[List.flatten_cons,List.flatten_nil,List.append_nil] at ab;obtain⟨v,h1,h2,R⟩:=k8 j x ab;exact⟨v,h1,h2,R _ _ _ _⟩
  ·intro bT l6 ot nE hu cj;have:=Rel.ref (w:=bT) (ok:=l6) (i:=0) (off:=0) hu cj;simpa using this
 ·simp at aA
theorem afG {t:TypeId}{x:Operand}(h:c8 g s aF a w)(fF:s.a0 a3=none)(an:o.op = .box t x)(aA:fC P s.E s.a0 a3 o c2=some bE):Fin P g s a w o bE:=by
 simp only[fC,an] at aA;have ab:=h.eval x
 have key : ∀ak:a1,ak.cO = .live->ak.es=[(fx s.E x).cells]->ak.sz=(fx s.E x).cells.length->((fx s.E x).one=true\/ ∃c,fx s.E x = .agg c) ->
  bE.gI=[(a3,[ak])]->bE.val = .ref a3 0 0 0->Fin P g s a w o bE:=by
  intro ak aX iH fE nh hu bc;obtain⟨vs,e1,e2,bM,db⟩:=ab.cellsOf nh;refine H0 (v:= .pointer (some ⟨w.heap.size,0,none⟩)) (c:=(a.eval x).cells) (fu:=t) h fF aX ?_ hu ?_ ?_ ?_
  ·simp[execOp,an,Instr.box,newVar,newRow]
  ·intro e he;rw[iH] at he;simp at he;rw[he,fE]
  ·intro j y aZ
   rw[iH] at aZ;simp only[List.flatten_cons,List.flatten_nil,List.append_nil] at aZ
   have au:j<vs.length:=by
    rcases Nat.lt_or_ge j (fx s.E x).cells.length with cX|cX
    ·omega
    ·rw[List.getElem?_eq_none cX] at aZ;simp at aZ
   refine⟨vs[j],by rw[e1];simp[au],bM j _ (dy au),db j y _ aZ (dy au)⟩
  ·intro bT l6 ot nE p9 cj;have:=Rel.ref (w:=bT) (ok:=l6) (i:=0) (off:=0) p9 cj;rw[bc];simpa using this
 split at aA
 ·rename_i c a2;simp only[dB] at aA;subst aA;exact key _ rfl (by rw[a2];rfl) (by rw[a2];rfl) (.inr ⟨c,a2⟩) rfl rfl
 ·split at aA
  ·rename_i nh
   simp only[dB] at aA;subst aA;have e:(fx s.E x).cells=[fx s.E x]:=by generalize fx s.E x=y at nh;cases y<;>first|rfl|simp[aG.one] at nh
   exact key _ rfl (by rw[e]) (by rw[e];rfl) (.inl nh) rfl rfl
  ·simp at aA
theorem jm {s:S}{aF:gb}{r k:Nat}{ak:a1}(h:s.ak r k=some ak):s.bk aF r k=some (ak.sz,aF r k):=by simp[S.bk,h]
theorem vk {row:Option (List a1)}{k:Nat}{ak:a1}{bO:List Prop}(h:pY row k c2=some (ak,bO))(cQ:∀p∈bO,p):eb row k=some ak:=by
 unfold pY at h;split at h
 ·split at h
  ·simp at h;obtain⟨rfl,rfl⟩:=h;exact cQ _ (by simp)
  ·simp at h
 ·split at h
  ·rename_i cX;simp at h;obtain⟨rfl,rfl⟩:=h;exact cX
  ·simp at h
theorem BC {es:List (List aG)}{i:Nat}{c:List aG}{bO:List Prop}(h:elemAt es i c2=some (c,bO))(cQ:∀p∈bO,p):es[i]? = some c:=by
 unfold elemAt at h;split at h
 ·simp at h;obtain⟨rfl,rfl⟩:=h;exact cQ _ (by simp)
 ·simp at h;obtain⟨rfl,rfl⟩:=h;exact cQ _ (by simp)
 ·split at h
  ·rename_i cX;simp at h;obtain⟨rfl,rfl⟩:=h;exact cX
  ·simp at h
theorem ae7 {t:TypeId}{x:Operand}(h:c8 g s aF a w)(an:o.op = .load t x)(aA:fC P s.E s.a0 a3 o c2=some bE)(cQ:∀p∈bE.f5,p):Fin P g s a w o bE:=by
 simp only[fC,an] at aA;have ab:=h.eval x;split at aA
 ·rename_i r k i off h8
  rw[h8] at ab;split at aA
  ·rename_i ak bO bs
   split at aA
   ·rename_i c aN nW
    split at aA
    ·rename_i v bc
     simp only[dB] at aA;subst aA;have kD:s.ak r k=some ak:=vk bs fun p ag=>cQ p (by simp[ag]);have rp:=BC nW fun p ag=>cQ p (by simp[ag]);have fZ:=h.obj r k ak kD;rcases ab.yh (jm kD) with h0|⟨b,m,ag,hval⟩
     ·rw[h0] at fZ;simp only[ka] at fZ;rw[fZ] at rp;simp at rp
     ·rw[ag] at fZ;obtain⟨u,h1,h2⟩:=Ln (P:=P) fZ.rd rp bc;refine jc (v:=u) h ?_ rfl h2;rw[dG] at h1;simp[execOp,an,hval,h1]
    ·simp at aA
   ·simp at aA
  ·simp at aA
 ·rename_i sz es i off h8
  rw[h8] at ab;split at aA
  ·rename_i c aN nW
   split at aA
   ·rename_i v bc;simp only[dB] at aA;subst aA;have rp:=BC nW fun p ag=>cQ p (by simp[ag]);obtain⟨eT,cn,aU,hval,jz⟩:=ab.BR;obtain⟨u,h1,h2⟩:=Ln (P:=P) jz rp bc;refine jc (v:=u) h ?_ rfl h2;simp[execOp,an,hval,h1]
   ·simp at aA
  ·simp at aA
 ·simp at aA
end
section
variable {P:Program} {g:G} {s:S} {aF:gb} {a:Act} {w:World} {o:Oper} {c2:gl} {a3:Nat} {bE:iN}
theorem S0 (h:c8 g s aF a w){r k i off:Nat}{row:List a1}{ak:a1}{c:List aG}{t:TypeId}{x y:Operand}(an:o.op = .store t x y)
 (h8:fx s.E x = .ref r k i off) (el:s.a0 r=some row) (bs:s.ak r k=some ak) (aX:ak.cO = .live) (nW:ak.es[i]? = some c)
 (nh:(fx s.E y).one=true\/ ∃c,fx s.E y = .agg c) (fE:(fx s.E y).cells.length=P.cellsOf t) (Nh:(P.info? t).isSome=true)
 (i6:off+(fx s.E y).cells.length<=c.length) (aA:bE.val = .dead) (hu:bE.gI=[(r,row.set k {ak with es:=ak.es.set i (setCells c off (fx s.E y).cells)})]):Fin P g s a w o bE:=by
 have ab:=h.eval x;rw[h8] at ab;have fZ:=h.obj r k ak bs;rcases ab.yh (jm bs) with h0|⟨b,m,ag,hval⟩
 ·rw[h0] at fZ;simp only[ka] at fZ;rw[fZ] at nW;simp at nW
 ·obtain⟨bT,h1,h2⟩:=ab4 (P:=P) h el bs aX ag nW Nh (h.eval y) nh fE i6;refine⟨undef,bT,aF,.inr ⟨?_,rfl⟩,by rw[hu];exact h2,by rw[aA];exact .dead _⟩;simp[execOp,an,hval,h1]
theorem ad6 {t:TypeId}{x y:Operand}(h:c8 g s aF a w)(an:o.op = .store t x y)(aA:fC P s.E s.a0 a3 o c2=some bE)(cQ:∀p∈bE.f5,p):Fin P g s a w o bE:=by
 simp only[fC,an] at aA;split at aA
 ·rename_i r k i off h8
  split at aA
  ·simp at aA
  ·rename_i row el
   split at aA
   ·rename_i ak bO agP
    split at aA
    ·simp at aA
    ·rename_i aX
     have aX:ak.cO = .live:=(by simpa using aX);split at aA
     ·simp at aA
     ·rename_i nh
      have nh:=aG.Sb (by simpa using nh);split at aA
      ·simp at aA
      ·rename_i fE
       simp only[not_or,Decidable.not_not,Bool.not_eq_false] at fE;have kD:(∀p∈bO,p)->s.ak r k=some ak:=fun bG=>(by have:=vk agP bG;unfold S.ak;rw[el];exact this);split at aA
       ·split at aA
        ·rename_i Cn
         simp only[dB] at aA;subst aA;subst Cn;have eA:i<ak.es.length:=cQ _ (by simp);have jD:(fx s.E y).cells.length=ak.sz:=cQ _ (by simp);have Fh:=kD fun p ag=>cQ p (by simp[ag])
         have hlen:(ak.es[i]).length=ak.sz:=by
          have fZ:=h.obj r k ak Fh
          cases ag:aF r k with
          | none=>rw[ag] at fZ;simp only[ka] at fZ;rw[fZ] at eA;simp at eA
          | some q =>
           rw[ag] at fZ;obtain⟨_,_,_,_,R,_⟩:=fZ;exact R _ (List.getElem_mem eA)
         refine S0 h an h8 el Fh aX (c:=ak.es[i]) (dy eA) nh fE.1 fE.2 (by omega) rfl ?_;have e:setCells ak.es[i] 0 (fx s.E y).cells=(fx s.E y).cells:=(by simp[setCells,hlen,jD]);rw[e]
        ·simp at aA
       ·split at aA
        ·rename_i c aN nW
         split at aA
         ·rename_i i6;simp only[dB] at aA;subst aA;exact S0 h an h8 el (kD fun p ag=>cQ p (by simp[ag])) aX (BC nW fun p ag=>cQ p (by simp[ag])) nh fE.1 fE.2 i6 rfl rfl
         ·simp at aA
        ·simp at aA
   ·simp at aA
 ·simp at aA
theorem ab5 {x:Operand}(h:c8 g s aF a w)(an:o.op = .nilCheck x)(aA:fC P s.E s.a0 a3 o c2=some bE)(cQ:∀p∈bE.f5,p):Fin P g s a w o bE:=by
 simp only[fC,an] at aA;have ab:=h.eval x;split at aA
 ·rename_i r k i off h8
  rw[h8] at ab;split at aA
  ·rename_i ak bO bs
   split at aA
   ·rename_i c aN nW
    simp only[dB] at aA;subst aA;have kD:s.ak r k=some ak:=vk bs fun p ag=>cQ p (by simp[ag]);have rp:=BC nW fun p ag=>cQ p (by simp[ag]);have fZ:=h.obj r k ak kD;rcases ab.yh (jm kD) with h0|⟨b,m,ag,hval⟩
    ·rw[h0] at fZ;simp only[ka] at fZ;rw[fZ] at rp;simp at rp
    ·refine jc (v:=a.eval x) h ?_ rfl ab;simp[execOp,an,hval]
   ·simp at aA
  ·simp at aA
 ·rename_i sz es i off h8;rw[h8] at ab;simp only[dB] at aA;subst aA;obtain⟨eT,cn,aU,hval,jz⟩:=ab.BR;refine jc (v:=a.eval x) h ?_ rfl ab;simp[execOp,an,hval]
 ·rename_i f c h8;rw[h8] at ab;simp only[dB] at aA;subst aA;obtain⟨vs,hval,-⟩:=ab.Ik;refine jc (v:=a.eval x) h ?_ rfl ab;simp[execOp,an,hval]
 ·simp at aA
theorem adh {op:BinOp}{t:TypeId}{x y z:aG}{ak:List Prop}(aA:MS op x y=some (z,ak))(cQ:∀p∈ak,p)
 {ok:Nat->Prop} {bd:ki} {bk:j3} {mr ms:Value} (ab:Rel w ok bd bk x mr) (aZ:Rel w ok bd bk y ms) (p q:Operand) :
 ∃v,((do eqGuard op t p q mr ms;binOp op t mr ms):Sem Value).run P w = .ok v w/\Rel w ok bd bk z v:=by
 unfold MS at aA;split at aA
 ·rename_i k n ey oI
  have ja:=ab.pW;have j5:=aZ.pW;subst ja;subst j5;have dt : ∀op,eqGuard op t p q (.int k n) (.int ey oI)=pure ():=fun op=>eqGuard_at_int ..;simp only[Sem.run_bind,dt,Sem.run_pure,Result.andThen_ok];split at aA
  ·simp only[dB,dD] at aA;obtain⟨rfl,rfl⟩:=aA;have h0:0<=oI:=cQ _ (by simp);exact⟨_,by simp[binOp,Op.shift,show ¬oI<0 by omega],.n _ _⟩
  ·simp only[dB,dD] at aA;obtain⟨rfl,rfl⟩:=aA;have h0:0<=oI:=cQ _ (by simp);exact⟨_,by simp[binOp,Op.shift,show ¬oI<0 by omega],.n _ _⟩
  ·split at aA
   ·simp at aA
   ·rename_i aX
    have aX:k=ey:=(by simpa using aX);subst aX;split at aA<;>simp only[dB,dD,reduceCtorEq] at aA
    all_goals (obtain⟨rfl,rfl⟩:=aA)
    case h_4|h_5 =>
     have h0:oI≠0:=cQ _ (by simp);exact⟨_,by simp[binOp,Op.intDiv,h0],.n _ _⟩
    all_goals first
     | (refine⟨_,?_,.n _ _⟩;rw[binOp_add];rfl)
     | (refine⟨_,?_,.n _ _⟩;rw[binOp_sub];rfl)
     | (refine⟨_,?_,.n _ _⟩;rw[binOp_mul];rfl)
     | (refine⟨_,?_,.n _ _⟩;rw[binOp_and];rfl)
     | (refine⟨_,?_,.n _ _⟩;rw[binOp_or];rfl)
     | (refine⟨_,?_,.n _ _⟩;rw[binOp_xor];rfl)
     | (refine⟨_,?_,.b _⟩;simp[binOp,Op.intCmp];done)
 ·rename_i c7 nu
  have ja:=ab.Cd;have j5:=aZ.Cd;subst ja;subst j5;have dt : ∀op,eqGuard op t p q (.string c7) (.string nu)=pure ():=fun op=>eqGuard_at_string ..;simp only[Sem.run_bind,dt,Sem.run_pure,Result.andThen_ok];split at aA<;>simp only[dB,dD,reduceCtorEq] at aA
  all_goals (obtain⟨rfl,rfl⟩:=aA)
  ·have h0:c7.size+nu.size<9223372036854775808:=cQ _ (by simp);refine⟨_,?_,.s _⟩;have h1 : ¬((c7.size+nu.size:Nat):Int)>IntKind.i64.max:=(by rw[IntKind.max_i64];omega);rw[IntKind.max_i64] at h1;simp[binOp,Op.stringOp];omega
  ·exact⟨_,by simp[binOp,Op.stringOp],.b _⟩
  ·exact⟨_,by simp[binOp,Op.stringOp],.b _⟩
 ·simp at aA
theorem xV (t:TypeId)(x y:Value):Op.equal t x y=Op.equalIn (9999+1) t x y:=rfl
theorem DU {t:TypeId}{a b:Bool}(d:Nat)(bF:P.underlying t=some .bool):(Op.equalIn (d+1) t (.bool a) (.bool b)).run P w = .ok (a == b) w:=by unfold Op.equalIn;simp[run_underlying bF]
theorem Eg {t e:TypeId}(d:Nat)(bF:P.underlying t=some (.pointer e)):(Op.equalIn (d+1) t (.pointer none) (.pointer none)).run P w = .ok true w:=by unfold Op.equalIn;simp[run_underlying bF]
theorem Eh {t e:TypeId}{a:Addr}(d:Nat)(bF:P.underlying t=some (.pointer e)):(Op.equalIn (d+1) t (.pointer (some a)) (.pointer none)).run P w = .ok false w:=by unfold Op.equalIn;simp[run_underlying bF]
theorem Ei {t e:TypeId}{a:Addr}(d:Nat)(bF:P.underlying t=some (.pointer e)):(Op.equalIn (d+1) t (.pointer none) (.pointer (some a))).run P w = .ok false w:=by unfold Op.equalIn;simp[run_underlying bF]
theorem Ej {t e:TypeId}(d:Nat)(bF:P.underlying t=some (.slice e)):(Op.equalIn (d+1) t (.slice none 0 0) (.slice none 0 0)).run P w = .ok true w:=by unfold Op.equalIn;simp[run_underlying bF]
theorem Ss {t e:TypeId}{a:Addr}{c:Nat}(d:Nat)(bF:P.underlying t=some (.slice e))(n:Nat):(Op.equalIn (d+1) t (.slice (some a) n c) (.slice none 0 0)).run P w = .ok false w:=by unfold Op.equalIn;simp[run_underlying bF]
theorem BK {t:TypeId}{x y:aG}{r:Bool}(aA:uD P t x y=some r)
 {ok:Nat->Prop} {bd:ki} {bk:j3} {mr ms:Value} (ab:Rel w ok bd bk x mr) (aZ:Rel w ok bd bk y ms) (p q:Operand) :
 ((do eqGuard .eql t p q mr ms;binOp .eql t mr ms):Sem Value).run P w = .ok (.bool r) w /\
 ((do eqGuard .neq t p q mr ms;binOp .neq t mr ms):Sem Value).run P w = .ok (.bool !r) w:=by
 have key : ∀b:Bool,(∀op,eqGuard op t p q mr ms=pure ())->binOp .eql t mr ms=(do pure (.bool (<- Op.equal t mr ms)))->binOp .neq t mr ms=(do pure (.bool (!(<- Op.equal t mr ms)))) ->
  (Op.equal t mr ms).run P w = .ok b w->((do eqGuard .eql t p q mr ms;binOp .eql t mr ms):Sem Value).run P w = .ok (.bool b) w /\
  ((do eqGuard .neq t p q mr ms;binOp .neq t mr ms):Sem Value).run P w = .ok (.bool !b) w:=by
  intro b dt h1 h2 R;constructor
  ·rw[dt,h1];simp[R]
  ·rw[dt,h2];simp[R]
 unfold uD at aA;split at aA
 ·rename_i c7 nu bF;simp only[dB] at aA;subst aA;have ja:=ab.wF;have j5:=aZ.wF;subst ja;subst j5;exact key _ (fun op=>eqGuard_at_bool ..) rfl rfl (by rw[xV];first|exact DU _ bF|exact Eg _ bF|exact Eh _ bF|exact Ei _ bF|exact Ej _ bF)
 ·rename_i e bF;simp only[dB] at aA;subst aA;have ja:=ab.x7;have j5:=aZ.x7;subst ja;subst j5;exact key _ (fun op=>eqGuard_at_pointer ..) rfl rfl (by rw[xV];first|exact DU _ bF|exact Eg _ bF|exact Eh _ bF|exact Ei _ bF|exact Ej _ bF)
 ·rename_i e sz es i off bF;simp only[dB] at aA;subst aA;obtain⟨eT,cn,-,ja,-⟩:=ab.BR;have j5:=aZ.x7;subst ja;subst j5;exact key _ (fun op=>eqGuard_at_pointer ..) rfl rfl (by rw[xV];first|exact DU _ bF|exact Eg _ bF|exact Eh _ bF|exact Ei _ bF|exact Ej _ bF)
 ·rename_i e sz es i off bF;simp only[dB] at aA;subst aA;obtain⟨eT,cn,-,j5,-⟩:=aZ.BR;have ja:=ab.x7;subst ja;subst j5;exact key _ (fun op=>eqGuard_at_pointer ..) rfl rfl (by rw[xV];first|exact DU _ bF|exact Eg _ bF|exact Eh _ bF|exact Ei _ bF|exact Ej _ bF)
 ·rename_i e bF;simp only[dB] at aA;subst aA;have ja:=ab.rM;have j5:=aZ.rM;subst ja;subst j5;exact key _ (fun op=>eqGuard_at_slice ..) rfl rfl (by rw[xV];first|exact DU _ bF|exact Eg _ bF|exact Eh _ bF|exact Ei _ bF|exact Ej _ bF)
 ·rename_i e bF;simp only[dB] at aA;subst aA;obtain⟨zp,c,ja⟩:=ab.HZ;have j5:=aZ.rM;subst ja;subst j5;exact key _ (fun op=>eqGuard_at_slice ..) rfl rfl (by rw[xV];exact Ss _ bF 0)
 ·simp at aA
theorem UO {t e:TypeId}(bF:P.underlying t=some (.slice e)){sz:Nat}{es:List (List aG)}(c9:es≠[])
 {ok:Nat->Prop} {bd:ki} {bk:j3} {mr ms:Value} (ab:Rel w ok bd bk (.isl sz es) mr) (aZ:Rel w ok bd bk .fy ms) (p q:Operand) :
 ((do eqGuard .eql t p q mr ms;binOp .eql t mr ms):Sem Value).run P w = .ok (.bool false) w /\
 ((do eqGuard .neq t p q mr ms;binOp .neq t mr ms):Sem Value).run P w = .ok (.bool true) w:=by
 rcases ab.vj with ⟨h0,-⟩|⟨eT,off,c,-,ja,-⟩
 ·exact absurd h0 c9
 ·have j5:=aZ.rM
  subst ja;subst j5;have R:(Op.equal t (.slice (some ⟨eT,off,none⟩) es.length c) (.slice none 0 0)).run P w = .ok false w:=(by rw[xV];exact Ss _ bF _);have dt : ∀op,eqGuard op t p q (.slice (some ⟨eT,off,none⟩) es.length c) (.slice none 0 0)=pure ():=fun op=>eqGuard_at_slice ..;have h1:binOp .eql t (.slice (some ⟨eT,off,none⟩) es.length c) (.slice none 0 0)=(do pure (.bool (<- Op.equal t (.slice (some ⟨eT,off,none⟩) es.length c) (.slice none 0 0)))):=rfl;have h2:binOp .neq t (.slice (some ⟨eT,off,none⟩) es.length c) (.slice none 0 0)=(do pure (.bool (!(<- Op.equal t (.slice (some ⟨eT,off,none⟩) es.length c) (.slice none 0 0))))):=rfl;constructor
  ·rw[dt,h1];simp[R]
  ·rw[dt,h2];simp[R]
theorem ad7 {op:BinOp}{t cF:TypeId}{x y:Operand}(h:c8 g s aF a w)(an:o.op = .binOp op t x y cF)(aA:fC P s.E s.a0 a3 o c2=some bE)(cQ:∀p∈bE.f5,p):Fin P g s a w o bE:=by
 simp only[fC,an] at aA;have ab:=h.eval x;have aZ:=h.eval y;split at aA
 ·rename_i v ak aU;simp only[dB] at aA;subst aA;obtain⟨u,h1,h2⟩:=adh (P:=P) (t:=t) aU cQ ab aZ x y;refine jc (v:=u) h ?_ rfl h2;simp only[execOp,an];rw[Sem.run_bind,h1];rfl
 ·split at aA
  ·cases he:uD P t (fx s.E x) (fx s.E y) with
   | none=>simp[he] at aA
   | some r =>
    simp[he] at aA;subst aA;refine jc (v:= .bool r) h ?_ rfl (.b r);simp only[execOp,an];rw[Sem.run_bind,(BK (w:=w) he ab aZ x y).1];rfl
  ·cases he:uD P t (fx s.E x) (fx s.E y) with
   | none=>simp[he] at aA
   | some r =>
    simp[he] at aA;subst aA;refine jc (v:= .bool !r) h ?_ rfl (.b _);simp only[execOp,an];rw[Sem.run_bind,(BK (w:=w) he ab aZ x y).2];rfl
  ·simp at aA
theorem ae8 {op:UnOp}{t:TypeId}{x:Operand}(h:c8 g s aF a w)(an:o.op = .unOp op t x)(aA:fC P s.E s.a0 a3 o c2=some bE):Fin P g s a w o bE:=by
 simp only[fC,an] at aA;have ab:=h.eval x
 cases he:Nf op (fx s.E x) with
 | none=>simp[he] at aA
 | some v =>
  simp[he] at aA;subst aA;unfold Nf at he;split at he
  ·rename_i k n h8;rw[h8] at ab;simp only[dB] at he;subst he;refine jc (v:= .int k (k.wrap (0-n))) h ?_ rfl (.n _ _);simp[execOp,an,ab.pW,Op.unary,Op.intArith]
  ·rename_i b h8;rw[h8] at ab;simp only[dB] at he;subst he;refine jc (v:= .bool !b) h ?_ rfl (.b _);simp[execOp,an,ab.wF,Op.unary]
  ·simp at he
theorem acz {t cF:TypeId}{x:Operand}(h:c8 g s aF a w)(an:o.op = .convert t cF x)(aA:fC P s.E s.a0 a3 o c2=some bE):Fin P g s a w o bE:=by
 simp only[fC,an] at aA;have ab:=h.eval x;split at aA
 ·rename_i k ey n bF h8
  rw[h8] at ab;split at aA
  case isFalse=>simp at aA
  rename_i bJ;simp only[dB] at aA;subst aA;refine jc (v:= .int k (k.wrap n)) h ?_ rfl (.n _ _)
  cases V7:P.underlying t with
  | none=>simp[V7] at bJ
  | some d=>simp[execOp,an,ab.pW,convert,run_underlying bF,run_underlying V7,Conv.intToInt]
 ·rename_i r k bW len bF h8
  rw[h8] at ab;split at aA
  ·rename_i ak IH bs
   split at aA
   ·rename_i o9 FJ
    split at aA
    ·rename_i a2
     simp only[dB] at aA;subst aA
     obtain⟨e,bJ,he⟩ : ∃e,P.underlying t=some (.slice e)/\P.underlying e=some (.int .u8):=by
      unfold rV at IH;split at IH
      ·rename_i e bJ;exact⟨e,bJ,IH⟩
      ·simp at IH
     have eH:s.ak r k=some ak:=bs;have fZ:=h.obj r k ak eH
     have hzero : ∀(lS:Option Addr) (c:Nat),len=0->(convert t cF (.slice lS 0 c)).run P w = .ok (.string (Cm o9)) w:=by
      intro lS c h0;subst h0;have:o9=[]:=(by simpa [bytesOf] using FJ);subst this
      cases lS with
      | none=>rw[run_convert_bytes_string w t cF e none 0 c bJ he bF];simp[Conv.bytesToString,Cm]
      | some lS =>
       rw[run_convert_bytes_string w t cF e (some lS) 0 c bJ he bF,run_bytesToString w lS 0 c [] (by have:=run_loadCells_list (P:=P) w lS [] (fun j v au=>by simp at au);simpa using this)];rfl
     rcases ab.Ex (jm eH) with ⟨ag,rfl,rfl,hval⟩|⟨b,m,A,c,ag,hval,tF,vH,hm⟩
     ·refine jc (v:= .string (Cm o9)) h ?_ rfl (.s _);simp[execOp,an,hval,hzero none 0 rfl]
     ·refine jc (v:= .string (Cm o9)) h ?_ rfl (.s _)
      by_cases h0:len=0
      ·subst h0;simp[execOp,an,hval,hzero A c rfl]
      ·rcases hm with hm|⟨hA,hm⟩
       ·omega
       ·subst hA
        rw[ag] at fZ;have jz:=fZ.rd
        have Cu : ∀(es:List (List aG)) (o9:ar),bytesOf es=some o9->es.length=o9.length/\ ∀(i:Nat) n,o9[i]? = some n->es[i]? = some [.n .u8 n]:=by
         intro es
         induction es with
         | nil=>intro o9 h;simp[bytesOf] at h;subst h;exact⟨rfl,fun i n ad=>by simp at ad⟩
         | cons x es ih =>
          intro o9 h;unfold bytesOf at h;split at h
          ·simp at *
          ·rename_i mM akE Cv
           simp only[List.cons.injEq] at Cv;obtain⟨rfl,rfl⟩:=Cv;rw[Option.map_eq_some_iff] at h;obtain⟨eX,I1,rfl⟩:=h;obtain⟨e1,e2⟩:=ih eX I1;refine⟨by simp[e1],fun i n ad=> ?_⟩
           cases i with
           | zero=>simp at ad;subst ad;rfl
           | succ i=>simpa using e2 i n (by simpa using ad)
          ·simp at h
        obtain⟨e1,e2⟩:=Cu _ _ FJ;have hlen:o9.length=len:=(by rw[<- e1];simp;omega);have ago:(loadCells ⟨b,bW*ak.sz,none⟩ len).run P w = .ok (o9.map (Value.int .u8)).toArray w:=(by have:=run_loadCells_list (P:=P) w ⟨b,bW*ak.sz,none⟩ (o9.map (Value.int .u8)) (fun j v au=>by rw[dJ,Option.map_eq_some_iff] at au;obtain⟨n,aV,rfl⟩:=au;have nl:=e2 j n aV;have yY:j<len:=(by rw[<- hlen];exact(List.getElem?_eq_some_iff.1 aV).1);rw[List.getElem?_take_of_lt yY,List.getElem?_drop] at nl;obtain⟨v,v1,v2,v3⟩:=jz.2 ((bW+j)*ak.sz+0) (.n .u8 n) (by rw[Ee jz.1 nl (by omega)];rfl);have bc:=v3.pW;subst bc;rw[tp,<- v1,a2.2];congr 2;omega);rw[List.length_map,hlen] at this;exact this);have h2:=run_bytesToString w ⟨b,bW*ak.sz,none⟩ len c o9 ago;rw[<- run_convert_bytes_string w t cF e _ len c bJ he bF] at h2;simp[execOp,an,hval,h2,Cm]
    ·simp at aA
   ·simp at aA
  ·simp at aA
 ·simp at aA
theorem ab6 {f:Fn}{GA cI:Array Operand}(h:c8 g s aF a w)(an:o.op = .makeFunc f GA cI)(aA:fC P s.E s.a0 a3 o c2=some bE):Fin P g s a w o bE:=by
 cases f with
 | func n =>
  simp only[fC,an] at aA;split at aA
  ·rename_i ahw
   simp only[dB] at aA;subst aA;refine jc (v:= .func (.func n) #[] (cI.map a.eval)) h ?_ rfl ?_
   ·have:GA = #[]:=(by simpa using ahw);subst this;simp[execOp,an,Instr.makeFunc]
   ·have:=Rel.fn (f:=n) (c:=cI.toList.map (fx s.E)) (w:=w) (ok:=s.ok g aF w) (bd:=s.bd) (bk:=s.bk aF) (cI.toList.map a.eval) (by simp) (by
     intro j x v ab bc;rw[dJ,Option.map_eq_some_iff] at ab bc;obtain⟨p,ag,rfl⟩:=ab;obtain⟨q,a4,rfl⟩:=bc;rw[ag] at a4;simp at a4;subst a4;exact h.eval p)
    have e:(cI.toList.map a.eval).toArray=cI.map a.eval:=(by apply Array.ext';rw[Array.toList_map]);rw[e] at this;exact this
  ·simp at aA
 | _=>simp[fC,an] at aA
theorem acA {i:Nat}{x:Operand}(h:c8 g s aF a w)(an:o.op = .extract x i)(aA:fC P s.E s.a0 a3 o c2=some bE):Fin P g s a w o bE:=by
 simp only[fC,an] at aA;have ab:=h.eval x;split at aA
 ·rename_i vs h8
  rw[h8] at ab
  cases ad:vs[i]? with
  | none=>simp[ad] at aA
  | some v =>
   simp[ad] at aA;subst aA;obtain⟨bd,hval,aS,ai⟩:=ab.BQ
   have eA:i<bd.length:=by
    rcases Nat.lt_or_ge i vs.length with cX|cX
    ·omega
    ·rw[List.getElem?_eq_none cX] at ad;simp at ad
   have hu:bd[i]? = some bd[i]:=dy eA;refine jc (v:=bd[i]) h ?_ rfl (ai i v _ ad hu);simp[execOp,an,hval,Instr.extract,hu]
 ·simp at aA
end
section
variable {P:Program} {g:G} {s:S} {aF:gb} {a:Act} {w:World} {o:Oper} {c2:gl} {a3:Nat} {bE:iN}
theorem uj {t e:TypeId}(h:rV P t=some e):P.underlying t=some (.slice e):=by
 unfold rV at h;split at h
 ·rename_i e5 he;simp at h;subst h;exact he
 ·simp at h
theorem Lc {t:TypeId}{lR:Array Field}(h:fieldsOf P t=some lR):P.underlying t=some (.struct lR):=by
 unfold fieldsOf at h;split at h
 ·rename_i e5 he;simp at h;subst h;exact he
 ·simp at h
theorem RP : ∀(z c:List aG),(tu z c).length=z.length
 | x::z,y::c=>by simp[tu,RP z c]
 | [],_=>by simp[tu]
 | _::_,[]=>by simp[tu]
theorem abL (z:List aG)(c2:gl):(vp z c2).length=z.length:=by
 unfold vp;split
 ·exact RP z _
 ·rfl
theorem acB (x y:aG){w:World}{ok:Nat->Prop}{bd:ki}{bk:j3}{v:Value}(h:Rel w ok bd bk x v):Rel w ok bd bk (EI x y) v:=by
 unfold EI;split
 ·rw[h.rM];exact .la _ _ _ (fun _=>rfl)
 ·rw[h.x7];exact .rn _
 ·rw[h.rM];exact .oi (.la _ _ _ (fun _=>rfl))
 ·exact h
theorem S1 : ∀(z c:List aG) (j:Nat) q,(tu z c)[j]? = some q-> ∃x,z[j]? = some x/\(q=x\/ ∃y,q=EI x y)
 | x::z,y::c,0,q,h=>by simp[tu] at h;exact⟨x,rfl,.inr ⟨y,h.symm⟩⟩
 | x::z,y::c,j+1,q,h=>by simp only[tu,List.getElem?_cons_succ] at h;simpa using S1 z c j q h
 | [],c,j,q,h=>by simp[tu] at h
 | x::z,[],j,q,h=>⟨q,by simpa [tu] using h,.inl rfl⟩
theorem ad8 (z:List aG)(c2:gl)(j:Nat)(q:aG)(h:(vp z c2)[j]? = some q): ∃x,z[j]? = some x/\(q=x\/ ∃y,q=EI x y):=by
 unfold vp at h;split at h
 ·exact S1 z _ j q h
 ·exact⟨q,h,.inl rfl⟩
theorem abM {t:TypeId}{x y:Operand}(h:c8 g s aF a w)(fF:s.a0 a3=none)(an:o.op = .makeSlice t x y)(aA:fC P s.E s.a0 a3 o c2=some bE)(cQ:∀p∈bE.f5,p):Fin P g s a w o bE:=by
 simp only[fC,an] at aA;have ab:=h.eval x;have aZ:=h.eval y;split at aA
 ·rename_i e lT l k4 c he agQ agR
  rw[agQ] at ab;rw[agR] at aZ;split at aA
  ·rename_i i z ad cD
   obtain⟨fo,fh,lO,lN,sl,UP⟩:=Ef cD;rw[ad] at lO;simp at lO;subst lO;simp only[Option.ite_none_right_eq_some,dB] at aA;obtain⟨fE,aA⟩:=aA;subst aA;have nW:=abL z c2
   have k8 : ∀(j:Nat) q,(vp z c2)[j]? = some q-> ∃v,fh.cells[j]? = some v/\VL.li v=true/\ ∀w ok bd bk,Rel w ok bd bk q v:=by
    intro j q a4;obtain⟨x,ex,o1⟩:=ad8 z c2 j q a4;obtain⟨v,v1,v2,v3⟩:=UP j x ex;refine⟨v,v1,v2,fun w ok bd bk=> ?_⟩;rcases o1 with rfl|⟨y,rfl⟩
    ·exact v3 w ok bd bk
    ·exact acB x y (v3 w ok bd bk)
   clear UP;have h0:0<=l:=cQ _ (by simp);have h1:l<=c:=cQ _ (by simp);have h2:(i.bytes:Int)*c<=281474976710656:=cQ _ (by simp);have R:c<9223372036854775808:=cQ _ (by simp);have o2:z.length=fh.cells.size:=(by rw[sl];simp);have jW:=run_make (P:=P) w t e i fh (uj he) ad lN lT k4 l c h0 h1 h2 (by omega);refine H0 (v:= .slice (some ⟨w.heap.size,0,none⟩) l.toNat c.toNat) (ak:=⟨z.length,List.replicate l.toNat (vp z c2),.live⟩) (c:=madeCells fh.cells (c.toNat*i.size)) (fu:=e) h fF rfl ?_ rfl ?_ ?_ ?_
   ·simp[execOp,an,ab.pW,aZ.pW,jW]
   ·intro e5 nj;rw[List.eq_of_mem_replicate nj];exact nW
   ·intro j q a4
    have aS : ∀e5∈List.replicate l.toNat (vp z c2),e5.length=z.length:=fun e5 nj=>(by rw[List.eq_of_mem_replicate nj];exact nW);rcases Nat.eq_zero_or_pos z.length with tG|I2
    ·have:vp z c2=[]:=List.length_eq_zero_iff.1 (by omega);rw[this] at a4;simp at a4
    ·rw[q5 I2 _ aS,List.getElem?_replicate] at a4
     by_cases au:j / z.length<l.toNat
     ·rw[dw au] at a4;simp only[dA] at a4;obtain⟨v,e1,e2,bM⟩:=k8 _ _ a4;refine⟨v,?_,e2,bM _ _ _ _⟩;have eA:j<c.toNat*i.size:=(by rw[<- fE];have:j<l.toNat*z.length:=(Nat.div_lt_iff_lt_mul I2).1 au;exact Nat.lt_of_lt_of_le this (dL _ (by omega)));simp only[madeCells];rw[Array.getElem?_map,Array.getElem?_range];simp only[eA,if_true,Option.map_some];rw[o2] at e1;have hm:j % fh.cells.size<fh.cells.size:=Nat.mod_lt _ (by omega);rw[Array.getElem?_eq_getElem hm] at e1;rw[getElem!_pos fh.cells _ hm];exact e1
     ·rw[dz au] at a4;simp at a4
   ·intro bT l6 ot nE hu cj;refine Rel.bf hu cj (by omega) (by omega) ⟨?_,.inr (by simp)⟩;rw[size_madeCells];simp only[dG,fE]
  ·simp at aA
 ·simp at aA
theorem abN {t:TypeId}{x:Operand}{f:Nat}(h:c8 g s aF a w)(an:o.op = .fieldAddr t x f)(aA:fC P s.E s.a0 a3 o c2=some bE)(cQ:∀p∈bE.f5,p):Fin P g s a w o bE:=by
 simp only[fC,an] at aA;have ab:=h.eval x;split at aA
 ·rename_i lR FK
  split at aA
  ·rename_i fd wR
   split at aA
   ·simp at aA
   ·rename_i V8
    have ad:(P.info? fd.type).isSome=true:=by
     cases ad:P.info? fd.type with
     | none=>simp[Program.cellsOf,ad] at V8
     | some i=>rfl
    have jW : ∀A:Addr,A.spot=none->(Instr.fieldAt t (.pointer (some A)) f).run P w = .ok (.pointer (some ⟨A.block,A.off+fd.offset,none⟩)) w:=(by intro A hA;have e:A.add fd.offset=⟨A.block,A.off+fd.offset,none⟩:=(by obtain⟨b,o,sp⟩:=A;simp only at hA;subst hA;exact tp b o _);simp[Instr.fieldAt,run_underlying (Lc FK),wR,Instr.sureAddr,fieldPlace,u7 ad,V8,e]);split at aA
    ·rename_i r k i off h8
     rw[h8] at ab;split at aA
     ·rename_i ak bO bs
      split at aA
      ·rename_i c aN nW
       simp only[dB] at aA;subst aA;have kD:s.ak r k=some ak:=vk bs fun p ag=>cQ p (by simp[ag]);have rp:=BC nW fun p ag=>cQ p (by simp[ag]);have fZ:=h.obj r k ak kD;rcases ab.yh (jm kD) with h0|⟨b,m,ag,hval⟩
       ·rw[h0] at fZ;simp only[ka] at fZ;rw[fZ] at rp;simp at rp
       ·refine jc (v:= .pointer (some ⟨b,i*ak.sz+(off+fd.offset),none⟩)) h ?_ rfl ?_
        ·simp[execOp,an,hval,jW,Nat.add_assoc]
        ·exact ab.SZ ((jm kD).trans (by rw[ag])) _
      ·simp at aA
     ·simp at aA
    ·rename_i sz es i off h8;rw[h8] at ab;simp only[dB] at aA;subst aA;obtain⟨eT,cn,aU,hval,jz⟩:=ab.BR;refine jc (v:= .pointer (some ⟨eT,cn+(i*sz+(off+fd.offset)),none⟩)) h ?_ rfl (jz.fB aU);simp[execOp,an,hval,jW,Nat.add_assoc]
    ·simp at aA
  ·simp at aA
 ·simp at aA
theorem L8 {t e:TypeId}{n:Nat}(h:Fg P t=some (n,e)):P.underlying t=some (.array n e)/\(P.info? e).isSome=true/\P.cellsOf e≠0/\1<n:=by
 unfold Fg at h;split at h
 ·rename_i oI e5 hu
  split at h
  ·rename_i a2;simp only[dB,dD] at h;obtain⟨rfl,rfl⟩:=h;exact⟨hu,a2⟩
  ·simp at h
 ·simp at h
theorem ad9 {t:TypeId}{x y:Operand}(h:c8 g s aF a w)(an:o.op = .indexAddr t x y)(aA:Cb P s.a0 t (fx s.E x) (fx s.E y) c2=some bE)(cQ:∀p∈bE.f5,p):Fin P g s a w o bE:=by
 unfold Cb at aA;have ab:=h.eval x;have aZ:=h.eval y;split at aA
 ·rename_i n e r k i off cO j h3 vB Fi
  rw[vB] at ab;rw[Fi] at aZ;obtain⟨hu,ad,a2,aV⟩:=L8 h3;split at aA
  ·rename_i ak bO bs
   split at aA
   ·rename_i c aN nW
    simp only[dB] at aA;subst aA;have kD:s.ak r k=some ak:=vk bs fun p ag=>cQ p (by simp[ag]);have rp:=BC nW fun p ag=>cQ p (by simp[ag]);have h0:0<=j:=cQ _ (by simp);have h1:j<n:=cQ _ (by simp);have fZ:=h.obj r k ak kD;rcases ab.yh (jm kD) with cD|⟨b,m,ag,hval⟩
    ·rw[cD] at fZ;simp only[ka] at fZ;rw[fZ] at rp;simp at rp
    ·refine jc (v:= .pointer (some ⟨b,i*ak.sz+(off+j.toNat*P.cellsOf e),none⟩)) h ?_ rfl ?_
     ·simp[execOp,an,hval,aZ.pW,Instr.indexAt,asIntOf,run_underlying hu,Instr.sureAddr,h0,h1,u7 ad,tp,Nat.add_assoc]
     ·exact ab.SZ ((jm kD).trans (by rw[ag])) _
   ·simp at aA
  ·simp at aA
 ·simp at aA
theorem abO {t:TypeId}{x y:Operand}(h:c8 g s aF a w)(an:o.op = .indexAddr t x y)(aA:fC P s.E s.a0 a3 o c2=some bE)(cQ:∀p∈bE.f5,p):Fin P g s a w o bE:=by
 simp only[fC,an] at aA;have ab:=h.eval x;have aZ:=h.eval y;split at aA
 ·rename_i e k j he h8
  rw[h8] at aZ;have hu:=uj he
  have jW : ∀(b o len cap:Nat),0<=j->j<len->(P.info? e).isSome=true ->
   (Instr.indexAt t (.slice (some ⟨b,o,none⟩) len cap) (.int k j)).run P w = .ok (.pointer (some ⟨b,o+j.toNat*P.cellsOf e,none⟩)) w:=by
   intro b o len cap h0 h1 ad;have e5:=tp b o (j.toNat*P.cellsOf e);simp[Instr.indexAt,asIntOf,run_underlying hu,h0,h1,u7 ad,e5]
  have yD : ∀sz,sz=P.cellsOf e->sz≠0->(P.info? e).isSome=true:=by
   intro sz bJ cD
   cases ad:P.info? e with
   | none=>simp[Program.cellsOf,ad] at bJ;exact absurd bJ cD
   | some i=>rfl
  split at aA
  ·rename_i sz es vB
   rw[vB] at ab;simp only[Option.ite_none_right_eq_some,dB] at aA;obtain⟨⟨bJ,cD⟩,aA⟩:=aA;subst aA;have h0:0<=j:=cQ _ (by simp);have h1:j<es.length:=cQ _ (by simp);rcases ab.vj with ⟨FL,-⟩|⟨eT,off,c,aU,hval,a2,jz⟩
   ·subst FL;simp at h1;omega
   ·refine jc (v:= .pointer (some ⟨eT,off+(j.toNat*sz+0),none⟩)) h ?_ rfl (jz.fB aU);simp[execOp,an,hval,aZ.pW,jW _ _ _ _ h0 h1 (yD sz bJ cD),bJ]
  ·rename_i r q bW len vB
   rw[vB] at ab;split at aA
   ·rename_i row el
    split at aA
    ·rename_i ak bO bs
     simp only[Option.ite_none_right_eq_some,dB] at aA;obtain⟨⟨bJ,cD⟩,aA⟩:=aA;subst aA;have kD:s.ak r q=some ak:=(by unfold S.ak;rw[el];exact vk bs fun p ag=>cQ p (by simp[ag]));have h0:0<=j:=cQ _ (by simp);have h1:j<len:=cQ _ (by simp);rcases ab.Ex (jm kD) with ⟨-,-,h2,-⟩|⟨b,m,A,c,ag,hval,aS,-,hm⟩
     ·subst h2;simp at h1;omega
     ·rcases hm with hm|⟨hA,hm⟩
      ·omega
      ·subst hA;have ko:=HL kD;refine jc (v:= .pointer (some ⟨b,(bW+j.toNat)*ak.sz+0,none⟩)) h ?_ rfl (.ref ko ((jm kD).trans (by rw[ag])));simp[execOp,an,hval,aZ.pW,jW _ _ _ _ h0 h1 (yD _ bJ cD),bJ,Nat.add_mul]
    ·simp at aA
   ·simp at aA
  ·simp at aA
 ·exact ad9 h an aA cQ
theorem afH {c:Call}(h:c8 g s aF a w)(an:o.op = .call c)(a2:c.callee = .builtin .len)(aA:fC P s.E s.a0 a3 o c2=some bE)(cQ:∀p∈bE.f5,p):Fin P g s a w o bE:=by
 obtain⟨I3,args,ov⟩:=c;simp only at a2;subst a2;simp only[fC,an] at aA
 have key : ∀(x:Operand) (n:Nat) (t:TypeId) (v:Value),args.toList=[x]->ov = #[t]->bE.val = .n .i64 n->bE.gI=[]->a.eval x=v ->
  (Builtin.len_ #[t] o.type #[v]).run P w = .ok (goInt n) w->Fin P g s a w o bE:=by
  intro x n t v hargs nm ai iI bc jW;subst nm;refine jc (v:=goInt n) h ?_ iI (by rw[ai];exact .n _ _);have bG:args = #[x]:=(by apply Array.ext';simpa using hargs);subst bG;simp[execOp,an,resolve,invoke,builtin,bc,jW]
 have hargs : ∀y,args.toList.map (fx s.E)=[y]-> ∃x,args.toList=[x]/\fx s.E x=y:=by
  intro y aZ
  match aS:args.toList,aZ with
  | [x],aZ=>simp at aZ;exact⟨x,rfl,aZ⟩
 have pZ:decide (ov.size=1)=true-> ∃t,ov = #[t]/\ov.getD 0 0=t:=by
  intro fE;have fE:ov.size=1:=(by simpa using fE);obtain⟨l⟩:=ov
  match l,fE with
  | [t],_=>exact⟨t,rfl,rfl⟩
 split at aA
 ·rename_i sz es e hm hu fE
  obtain⟨x,ab,h8⟩:=hargs _ hm;obtain⟨t,cj,nH⟩:=pZ fE;rw[nH] at hu;simp only[dB] at aA;have ai:=h.eval x;rw[h8] at ai;rcases ai.vj with ⟨FL,A,c,hval,hA⟩|⟨eT,off,c,aU,hval,-⟩
  ·exact key x es.length t _ ab cj (by rw[<- aA]) (by rw[<- aA]) hval (by subst FL;simp[Builtin.len_,run_underlying hu])
  ·exact key x es.length t _ ab cj (by rw[<- aA]) (by rw[<- aA]) hval (by simp[Builtin.len_,run_underlying hu])
 ·rename_i r k bW len e hm hu fE
  obtain⟨x,ab,h8⟩:=hargs _ hm;obtain⟨t,cj,nH⟩:=pZ fE;rw[nH] at hu;split at aA
  ·rename_i row el
   split at aA
   ·rename_i ak bO bs
    simp only[dB] at aA;have ai:=h.eval x;rw[h8] at ai;have kD:s.ak r k=some ak:=(by unfold S.ak;rw[el];exact vk bs fun p ag=>cQ p (by rw[<- aA];exact ag));rcases ai.Ex (jm kD) with ⟨-,-,h2,hval⟩|⟨b,m,A,c,ag,hval,-⟩
    ·exact key x len t _ ab cj (by rw[<- aA]) (by rw[<- aA]) hval (by subst h2;simp[Builtin.len_,run_underlying hu])
    ·exact key x len t _ ab cj (by rw[<- aA]) (by rw[<- aA]) hval (by simp[Builtin.len_,run_underlying hu])
   ·simp at aA
  ·simp at aA
 ·rename_i e hm hu fE;obtain⟨x,ab,h8⟩:=hargs _ hm;obtain⟨t,cj,nH⟩:=pZ fE;rw[nH] at hu;simp only[dB] at aA;have ai:=h.eval x;rw[h8] at ai;exact key x 0 t _ ab cj (by rw[<- aA];rfl) (by rw[<- aA]) ai.rM (by simp[Builtin.len_,run_underlying hu])
 ·rename_i b hm hu fE;obtain⟨x,ab,h8⟩:=hargs _ hm;obtain⟨t,cj,nH⟩:=pZ fE;rw[nH] at hu;simp only[dB] at aA;have ai:=h.eval x;rw[h8] at ai;exact key x b.size t _ ab cj (by rw[<- aA]) (by rw[<- aA]) ai.Cd (by simp[Builtin.len_,run_underlying hu])
 ·simp at aA
theorem Hh {ok:Nat->Prop}{bd:ki}{bk:j3}{eT off sz:Nat}{es:List (List aG)}(h:qk w ok bd bk eT off sz es)(l n:Nat)(aS:l<=es.length):
 qk w ok bd bk eT (off+l*sz) sz ((es.drop l).take n):=by
 have sW : ∀e∈(es.drop l).take n,e.length=sz:=fun e he=>h.1 e (List.mem_of_mem_drop (List.mem_of_mem_take he));refine⟨sW,fun j x ab=> ?_⟩;rcases Nat.eq_zero_or_pos sz with h0|bJ
 ·have e1 : ∀(l:List (List aG)),(∀e∈l,e.length=0)->l.flatten=[]:=by
   intro l aS;induction l with
   | nil=>rfl
   | cons a l ih=>rw[List.flatten_cons,ih fun e he=>aS e (by simp[he])];have:=aS a (by simp);simp_all
  rw[e1 _ (fun e he=>(sW e he).trans h0)] at ab;simp at ab
 ·rw[q5 bJ _ sW] at ab
  have au:j / sz<n:=by
   rcases Nat.lt_or_ge (j / sz) n with cX|cX
   ·exact cX
   ·rw[List.getElem?_eq_none (by simp;omega)] at ab;simp at ab
  rw[List.getElem?_take,dw au,List.getElem?_drop] at ab;obtain⟨v,e1,e2,bM⟩:=h.2 (l*sz+j) x (by rw[q5 bJ es h.1];have gM:(l*sz+j) / sz=l+j / sz:=(by rw[Nat.mul_comm,Nat.mul_add_div bJ]);have gX:(l*sz+j) % sz=j % sz:=(by rw[Nat.mul_comm,Nat.mul_add_mod]);rw[gM,gX];exact ab);exact⟨v,by rw[Nat.add_assoc];exact e1,e2,bM⟩
theorem Ha {t e:TypeId}(hu:P.underlying t=some (.slice e))(ad:(P.info? e).isSome=true)(A:Option Addr)(len cap:Nat)(bW lO:Option Value)(l h:Nat)
 (V9:(bW=none/\l=0)\/ ∃k,bW=some (.int k l)) (Wa:(lO=none/\h=len)\/ ∃k,lO=some (.int k h)) (h1:l<=h) (h2:h<=len) (R:len<=cap) :
 (Instr.sliceAt t (.slice A len cap) bW lO none).run P w = .ok (.slice (if cap=l then A else A.map (·.add (l*P.cellsOf e))) (h-l) (cap-l)) w:=by
 have aU : ∀(k:IntKind) (n y:Nat) (code:BoundsCode),n<=y->(Instr.sliceBound (.int k n) y code).run P w = .ok n w:=by intro k n y code aV;simp[Instr.sliceBound,asIntOf,aV]
 rcases V9 with ⟨rfl,rfl⟩|⟨lT,rfl⟩<;>rcases Wa with ⟨rfl,rfl⟩|⟨k4,rfl⟩ <;>
  simp[Instr.sliceAt,Instr.slice,run_underlying hu,Instr.sliceBounds,u7 ad,aU,h1,h2,R,Nat.le_trans h2 R]
theorem B0 {x:Option Operand}(h:c8 g s aF a w){d n:Nat}{ak:List Prop}(aU:af (x.map (fx s.E)) d=some (n,ak))(cQ:∀p∈ak,p):
 (x.map a.eval=none/\n=d)\/ ∃k,x.map a.eval=some (.int k n):=by
 cases x with
 | none=>simp[af] at aU;exact .inl ⟨rfl,aU.1.symm⟩
 | some x =>
  have ab:=h.eval x;simp only[Option.map_some] at aU ⊢;unfold af at aU;split at aU
  ·rename_i he;simp at he
  ·rename_i _ k y he;simp only[dB] at he;rw[he] at ab;simp only[dB,dD] at aU;obtain⟨rfl,rfl⟩:=aU;have h0:0<=y:=cQ _ (by simp);refine .inr ⟨k,?_⟩;rw[ab.pW,Int.toNat_of_nonneg h0]
  ·simp at aU
theorem aea {t:TypeId}{x:Operand}{bW ad:Option Operand}(h:c8 g s aF a w)(an:o.op = .slice t x bW ad none)(aA:fC P s.E s.a0 a3 o c2=some bE)(cQ:∀p∈bE.f5,p):Fin P g s a w o bE:=by
 simp only[fC,an] at aA;have ab:=h.eval x
 have yD : ∀sz e,sz=P.cellsOf e->sz≠0->(P.info? e).isSome=true:=by
  intro sz e bJ cD
  cases ad:P.info? e with
  | none=>simp[Program.cellsOf,ad] at bJ;exact absurd bJ cD
  | some i=>rfl
 split at aA
 ·rename_i e sz es hu h8
  rw[h8] at ab;split at aA
  ·rename_i l bO n aN aS aV
   simp only[Option.ite_none_right_eq_some,dB] at aA;obtain⟨⟨bJ,cD⟩,aA⟩:=aA;subst aA;have iX:=B0 h aS fun p ag=>cQ p (by simp[ag]);have j6:=B0 h aV fun p ag=>cQ p (by simp[ag]);have h1:l<=n:=cQ _ (by simp);have h2:n<=es.length:=cQ _ (by simp);rcases ab.vj with ⟨FL,A,c,hval,hA⟩|⟨eT,off,c,aU,hval,a2,jz⟩
   ·subst FL
    have FM:n=0:=(by simpa using h2);subst FM;have o3:l=0:=(by omega);subst o3;refine jc (v:= .slice (if c=0 then A else A.map (·.add (0*P.cellsOf e))) (0-0) (c-0)) h ?_ rfl ?_
    ·have:=Ha (w:=w) hu (yD sz e bJ cD) A 0 c (bW.map a.eval) (ad.map a.eval) 0 0 iX j6 (dE _) (dE _) (Nat.zero_le _);simp only[execOp,an,hval];simp only[Option.map_none,Sem.run_bind,this];rfl
    ·refine .la sz _ _ fun aV=> ?_
     split at aV
     ·rename_i nX;omega
     ·have:=hA (by simpa using aV);omega
   ·have hlen:((es.drop l).take (n-l)).length=n-l:=by simp;omega
    refine jc (v:= .slice (if c=l then some ⟨eT,off,none⟩ else (some (⟨eT,off,none⟩:Addr)).map (·.add (l*P.cellsOf e))) (n-l) (c-l)) h ?_ rfl ?_
    ·have:=Ha (w:=w) hu (yD sz e bJ cD) (some ⟨eT,off,none⟩) es.length c (bW.map a.eval) (ad.map a.eval) l n iX j6 h1 h2 a2;simp only[execOp,an,hval];simp only[Option.map_none,Sem.run_bind,this];rfl
    ·by_cases jD:c=l
     ·have:n-l=0:=(by omega);rw[this];show Rel _ _ _ _ (.isl sz ((es.drop l).take 0)) _;rw[List.take_zero];exact .la sz _ _ (fun _=>by omega)
     ·rw[dz jD];simp only[Option.map_some,tp,<- bJ];have ai:=(Hh jz l (n-l) (by omega)).isl (c:=c-l) ⟨aU.1,fun e he=>aU.2 e (List.mem_of_mem_drop (List.mem_of_mem_take he))⟩ (by rw[hlen];omega);rw[hlen] at ai;exact ai
  ·simp at aA
 ·rename_i e r k Xd len hu h8
  rw[h8] at ab;split at aA
  ·simp at aA
  ·rename_i row el
   split at aA
   ·simp at aA
   ·rename_i ak Xe bs
    split at aA
    ·rename_i l bO n aN aS aV
     simp only[Option.ite_none_right_eq_some,dB] at aA;obtain⟨⟨bJ,cD⟩,aA⟩:=aA;subst aA;have kD:s.ak r k=some ak:=(by unfold S.ak;rw[el];exact vk bs fun p ag=>cQ p (by simp[ag]));have iX:=B0 h aS fun p ag=>cQ p (by simp[ag]);have j6:=B0 h aV fun p ag=>cQ p (by simp[ag]);have h1:l<=n:=cQ _ (by simp);have h2:n<=len:=cQ _ (by simp);have ko:=HL kD;rcases ab.x8 (jm kD) with ⟨ag,rfl,rfl,hval⟩|⟨b,m,A,c,ag,hval,tF,vH,nI,hm⟩
     ·have FM:n=0:=(by omega);subst FM;have o3:l=0:=(by omega);subst o3;refine jc (v:= .slice none 0 0) h ?_ rfl (.pd ko ((jm kD).trans (by rw[ag])));have:=Ha (w:=w) hu (yD _ e bJ cD) none 0 0 (bW.map a.eval) (ad.map a.eval) 0 0 iX j6 (dE _) (dE _) (dE _);simp only[execOp,an,hval];simp only[Option.map_none,Sem.run_bind,this];rfl
     ·refine jc (v:= .slice (if c=l then A else A.map (·.add (l*P.cellsOf e))) (n-l) (c-l)) h ?_ rfl ?_
      ·have:=Ha (w:=w) hu (yD _ e bJ cD) A len c (bW.map a.eval) (ad.map a.eval) l n iX j6 h1 h2 tF;simp only[execOp,an,hval];simp only[Option.map_none,Sem.run_bind,this];rfl
      ·refine Rel.bf ko ((jm kD).trans (by rw[ag])) (by omega) (by omega) ?_
       refine⟨by rw[<- nI];congr 1;omega,?_⟩;by_cases jD:c=l
       ·exact .inl (by omega)
       ·rcases hm with hm|hA
        ·exact .inl (by omega)
        ·refine .inr ?_;rw[dz jD,hA];simp only[Option.map_some,tp,<- bJ,Nat.add_mul]
    ·simp at aA
 ·rename_i b hu h8
  rw[h8] at ab;split at aA
  ·rename_i l bO n aN aS aV
   simp only[dB] at aA;subst aA;have iX:=B0 h aS fun p ag=>cQ p (by simp[ag]);have j6:=B0 h aV fun p ag=>cQ p (by simp[ag]);have h1:l<=n:=cQ _ (by simp);have h2:n<=b.size:=cQ _ (by simp);refine jc (v:= .string (b.extract l n)) h ?_ rfl (.s _);have aU : ∀(k:IntKind) (n y:Nat) (code:BoundsCode),n<=y->(Instr.sliceBound (.int k n) y code).run P w = .ok n w:=(by intro k n y code aV;simp[Instr.sliceBound,asIntOf,aV]);simp only[execOp,an,ab.Cd,Option.map_none]
   rcases iX with ⟨e1,rfl⟩|⟨lT,e1⟩<;>rcases j6 with ⟨e2,rfl⟩|⟨k4,e2⟩<;>rw[e1,e2] <;>
    simp[Instr.sliceAt,Instr.slice,run_underlying hu,Instr.sliceBounds,aU,h1,h2]
  ·simp at aA
 ·simp at aA
end
section
variable {P:Program} {g:G} {s:S} {aF:gb} {a:Act} {w:World} {o:Oper} {c2:gl} {a3:Nat} {bE:iN}
theorem St {ok:Nat->Prop}{bd:ki}{bk:j3}{t:TypeId}{c:List aG}{off:Nat}{x:aG}{vs:List Value}(aS:vs.length=c.length)
 (k8 : ∀(j:Nat) u,vs[j]? = some u->li u=true) (ai : ∀(j:Nat) x u,c[j]? = some x->vs[j]? = some u->Rel w ok bd bk x u)
 (cj:sP P t c off=some x) : ∃v,(part t vs.toArray off).run P w = .ok v w/\Rel w ok bd bk x v:=by
 unfold sP at cj;split at cj
 ·simp at cj
 ·rename_i ad
  simp only[Bool.not_eq_true',Bool.not_eq_false,dM] at ad;simp only[part,Sem.run_bind,SY ad.1,Result.andThen];split at cj
  ·rename_i tC
   rw[tC];split at cj
   ·rename_i hle
    simp at cj;subst cj;have e:(vs.toArray.extract off (off+P.cellsOf t))=((vs.drop off).take (P.cellsOf t)).toArray:=(by apply Array.ext';simp[List.extract_eq_take_drop]);refine⟨.agg ((vs.drop off).take (P.cellsOf t)).toArray,by simp[u7 ad.2],?_⟩;refine .agg _ (by simp;omega) ?_ ?_
    ·intro j v bc
     rw[List.getElem?_take] at bc;split at bc
     ·rw[List.getElem?_drop] at bc;exact k8 _ _ bc
     ·simp at bc
    ·intro j y v aZ bc
     rw[List.getElem?_take] at bc aZ;split at bc
     ·rename_i au;rw[dw au] at aZ;rw[List.getElem?_drop] at bc aZ;exact ai _ _ _ aZ bc
     ·simp at bc
   ·simp at cj
  ·rename_i tC
   have tC:EH P t=false:=(by simpa using tC);rw[tC];split at cj
   ·rename_i y aZ
    split at cj
    ·simp at cj;subst cj
     have Cn:off<vs.length:=by
      rcases Nat.lt_or_ge off c.length with h|h
      ·omega
      ·rw[List.getElem?_eq_none h] at aZ;simp at aZ
     exact⟨vs[off],by simp[Cn],ai off y _ aZ (dy Cn)⟩
    ·simp at cj
   ·simp at cj
theorem aeb {t:TypeId}{x:Operand}{f:Nat}(h:c8 g s aF a w)(an:o.op = .field t x f)(aA:fC P s.E s.a0 a3 o c2=some bE):Fin P g s a w o bE:=by
 simp only[fC,an] at aA;have ab:=h.eval x;split at aA
 ·rename_i lR FK
  split at aA
  ·rename_i fd c wR h8
   rw[h8] at ab
   cases cj:sP P fd.type c fd.offset with
   | none=>simp[cj] at aA
   | some v =>
    simp[cj] at aA;subst aA;obtain⟨vs,hval,aS,a2,ai⟩:=ab.BP;obtain⟨u,h1,h2⟩:=St aS a2 ai cj;refine jc (v:=u) h ?_ rfl h2;simp[execOp,an,hval,Instr.field,run_underlying (Lc FK),wR,asAgg,h1]
  ·simp at aA
 ·simp at aA
theorem S2 : ∀ {a b c:List aG},r3 0 a b=some c->c=a
 | [],[],c,h=>by simp[r3] at h;exact h
 | .n k x::a,.n ey y::b,c,h=>by
  unfold r3 at h;split at h
  ·cases hm:r3 0 a b with
   | none=>simp[hm] at h
   | some d=>simp[hm] at h;rw[<- h,S2 hm]
  ·simp at h
 | [],_::_,_,h=>by simp[r3] at h
theorem TA {j:Int}(au:j≠0): ∀ {a b c:List aG},r3 j a b=some c->c=b
 | [],[],c,h=>by simp[r3] at h;exact h
 | .n k x::a,.n ey y::b,c,h=>by
  unfold r3 at h;split at h
  ·rename_i aX
   subst aX
   cases hm:r3 j a b with
   | none=>simp[hm] at h
   | some d=>simp[hm,au] at h;rw[<- h,TA au hm]
  ·simp at h
 | [],_::_,_,h=>by simp[r3] at h
theorem adi {t:TypeId}{x y:Operand}(h:c8 g s aF a w)(an:o.op = .index t x y)(aA:Mj P t (fx s.E x) (fx s.E y)=some bE)(cQ:∀p∈bE.f5,p):Fin P g s a w o bE:=by
 unfold Mj at aA;have ab:=h.eval x;have aZ:=h.eval y;split at aA
 ·rename_i e cs cO j h3 vB Fi
  rw[vB] at ab;rw[Fi] at aZ;obtain⟨hu,ad,-,-⟩:=L8 h3;split at aA
  ·rename_i ej k3 bG aU
   cases hm:r3 j ej k3 with
   | none=>simp[hm] at aA
   | some c =>
    simp only[hm,Option.map_some,dB] at aA;subst aA;have h0:0<=j:=cQ _ (by simp);have h1:j<2:=cQ _ (by simp);obtain⟨vs,hval,aS,a2,ai⟩:=ab.BP
    have key:sP P e cs (j.toNat*P.cellsOf e)=some (.agg c):=by
     have:j=0\/j=1:=(by omega);rcases this with rfl|rfl
     ·rw[S2 hm];exact bG
     ·rw[TA (by decide) hm];exact aU
    obtain⟨u,lT,k4⟩:=St aS a2 ai key;refine jc (v:=u) h ?_ rfl k4;simp[execOp,an,hval,aZ.pW,Instr.index,asIntOf,run_underlying hu,h0,h1,u7 ad,lT]
  ·simp at aA
 ·simp at aA
theorem aec {t:TypeId}{x y:Operand}(h:c8 g s aF a w)(an:o.op = .index t x y)(aA:fC P s.E s.a0 a3 o c2=some bE)(cQ:∀p∈bE.f5,p):Fin P g s a w o bE:=by
 simp only[fC,an] at aA;have ab:=h.eval x;have aZ:=h.eval y;split at aA
 ·rename_i b k j hu vB Fi
  rw[vB] at ab;rw[Fi] at aZ;simp only[dB] at aA;subst aA;have h0:0<=j:=cQ _ (by simp);have h1:j<b.size:=cQ _ (by simp);have h2:j.toNat<b.size:=(by omega);refine jc (v:= .int .u8 (b[j.toNat]).toNat) h ?_ rfl ?_
  ·simp[execOp,an,ab.Cd,aZ.pW,Instr.index,asIntOf,run_underlying hu,h0,h2]
  ·have e:b.data.toList.getD j.toNat 0=b[j.toNat]:=by
    rw[List.getD_eq_getElem?_getD,Array.getElem?_toList,Array.getElem?_eq_getElem (by simpa using h2)];rfl
   show Rel _ _ _ _ (.n .u8 _) _;rw[e];exact .n _ _
 ·exact adi h an aA cQ
theorem adj (off:Nat): ∀(vs:List Value) (n:Nat) (cs:Array Value) (j:Nat),off+n+vs.length<=cs.size ->
 ((vs.zipIdx n).foldl (fun cs (x:Value×Nat)=>cs.setIfInBounds (off+x.2) x.1) cs)[j]? = if off+n<=j/\j<off+n+vs.length then vs[j-(off+n)]? else cs[j]? := by
 intro vs
 induction vs with
 | nil=>intro n cs j h;simp;intro h1 h2;omega
 | cons v vs ih =>
  intro n cs j h;simp only[List.length_cons] at h;simp only[List.zipIdx_cons,List.foldl_cons];rw[ih (n+1) _ j (by simp;omega)];simp only[List.length_cons,Array.getElem?_setIfInBounds];by_cases h1:j=off+n
  ·subst h1;rw[dz (by omega),dw rfl,dw (by omega),dw (by omega)];simp
  ·by_cases h2:off+(n+1)<=j/\j<off+(n+1)+vs.length
   ·rw[dw h2,dw (by omega)];rw[show j-(off+n)=(j-(off+(n+1)))+1 by omega];rfl
   ·rw[dz h2,dz (fun e=>h1 e.symm),dz (by omega)]
theorem aa4 (off:Nat): ∀(vs:List (Value×Nat)) (cs:Array Value),(vs.foldl (fun cs (x:Value×Nat)=>cs.setIfInBounds (off+x.2) x.1) cs).size=cs.size:=by
 intro vs
 induction vs with
 | nil=>intro cs;rfl
 | cons v vs ih=>intro cs;simp only[List.foldl_cons];rw[ih];simp
def CW (w:World)(ok:Nat->Prop)(bd:ki)(bk:j3)(c:List aG)(cs:Array Value):Prop :=
 cs.size=c.length/\(∀(j:Nat) u,cs[j]? = some u->li u=true)/\ ∀(j:Nat) x u,c[j]? = some x->cs[j]? = some u->Rel w ok bd bk x u
theorem aed {ok:Nat->Prop}{bd:ki}{bk:j3}{c:List aG}{cs:Array Value}(h:CW w ok bd bk c cs){x:aG}{v:Value}{off:Nat}(ab:Rel w ok bd bk x v)(a2:x.BH=true)
 (i6:off+x.cells.length<=c.length):v.cells.size=x.cells.length /\
   CW w ok bd bk (setCells c off x.cells) (v.cells.zipIdx.foldl (fun cs (y:Value×Nat)=>cs.setIfInBounds (off+y.2) y.1) cs):=by
 obtain⟨vs,bc,aS,k8,ai⟩:=ab.cellsOf (aG.Sb a2);have nm : ∀j,(v.cells.zipIdx.foldl (fun cs (y:Value×Nat)=>cs.setIfInBounds (off+y.2) y.1) cs)[j]? = if off<=j/\j<off+vs.length then vs[j-off]? else cs[j]? := by intro j;rw[bc];have:=adj off vs 0 cs j (by rw[h.1];omega);simp only[Nat.add_zero] at this;rw[<- this,<- Array.foldl_toList,Array.toList_zipIdx]
 refine⟨by rw[bc];simpa using aS,?_,?_,?_⟩
 ·rw[Q8 i6,<- h.1,<- Array.foldl_toList,aa4]
 ·intro j u hu
  rw[nm] at hu;split at hu
  ·exact k8 _ _ hu
  ·exact h.2.1 _ _ hu
 ·intro j y u aZ hu
  rw[nm] at hu;rw[Lb i6] at aZ;by_cases nl:off<=j/\j<off+x.cells.length
  ·rw[dw nl] at aZ;rw[dw (by rw[aS];exact nl)] at hu;exact ai _ _ _ aZ hu
  ·rw[dz nl] at aZ;rw[dz (by rw[aS];exact nl)] at hu;exact h.2.2 _ _ _ aZ hu
theorem Lo {ok:Nat->Prop}{bd:ki}{bk:j3}(place:Nat->Option (Nat×Nat)): ∀(l:List (Nat×Nat×aG)) (kt:List (Nat×Value)) (c:List aG) (cs:Array Value) (eG:List aG),
 CW w ok bd bk c cs->l.length=kt.length ->
 (∀(j:Nat) off size x i v,l[j]? = some (off,size,x)->kt[j]? = some (i,v)->place i=some (off,size)/\Rel w ok bd bk x v) ->
 ux c l=some eG-> ∃mF,Instr.fill place cs kt=some mF/\CW w ok bd bk eG mF:=by
 intro l
 induction l with
 | nil =>
  intro kt c cs eG h aS _ cp;have:kt=[]:=List.length_eq_zero_iff.1 (by simpa using aS.symm);subst this;simp[ux] at cp;subst cp;exact⟨cs,rfl,h⟩
 | cons q l ih =>
  intro kt c cs eG h aS ag cp;obtain⟨off,size,x⟩:=q
  match kt,aS with
  | (i,v)::kt,aS =>
   obtain⟨Ni,ab⟩:=ag 0 off size x i v rfl rfl;simp only[ux] at cp;split at cp
   ·rename_i a2;simp only[dM,decide_eq_true_eq] at a2;obtain⟨⟨h1,h2⟩,R⟩:=a2;obtain⟨e1,e2⟩:=aed h ab h1 (off:=off) (by omega);obtain⟨mF,f1,f2⟩:=ih kt _ _ eG e2 (by simpa using aS) (fun j off size x i v a b=>ag (j+1) off size x i v a b) cp;refine⟨mF,?_,f2⟩;rw[Instr.fill];simp only[Ni];have hq : ¬(decide (v.cells.size≠size) || decide (off+v.cells.size>cs.size))=true:=(by simp;rw[e1,h.1];omega);rw[dz hq];exact f1
   ·simp at cp
theorem mapM_some {α β:Type}(f:α->β)(p:α->Option β): ∀(l:List α),(∀x∈l,p x=some (f x))->l.mapM p=some (l.map f)
 | [],_=>rfl
 | x::l,h=>by rw[List.mapM_cons,h x (by simp),mapM_some f p l fun y aZ=>h y (by simp[aZ])];rfl
theorem Uc {α β:Type}(p:α->Option β): ∀(l:List α) (hD:List β),l.mapM p=some hD->hD.length=l.length/\ ∀(j:Nat) x y,l[j]? = some x->hD[j]? = some y->p x=some y
 | [],hD,h=>by simp at h;subst h;exact⟨rfl,fun j x y ab=>by simp at ab⟩
 | a::l,hD,h=>by
  rw[List.mapM_cons] at h
  cases bG:p a with
  | none=>simp[bG] at h
  | some b =>
   cases aS:l.mapM p with
   | none=>simp[bG,aS] at h
   | some r =>
    simp[bG,aS] at h;subst h;obtain⟨h1,h2⟩:=Uc p l r aS;refine⟨by simp[h1],fun j x y ab aZ=> ?_⟩
    cases j with
    | zero=>simp at ab aZ;subst ab;subst aZ;exact bG
    | succ j=>simp at ab aZ;exact h2 j x y ab aZ
theorem L9 {t:TypeId}{z:List aG}(cD:sy P t=some z): ∃i fh,P.info? t=some i/\i.zero=some fh/\fh.cells.size=z.length/\CW w (s.ok g aF w) s.bd (s.bk aF) z fh.cells:=by
 obtain⟨i,fh,ad,lN,sl,k8⟩:=Ef cD;have bJ:fh.cells.size=z.length:=by rw[sl];simp
 refine⟨i,fh,ad,lN,bJ,bJ,fun j u hu=> ?_,fun j x u ab hu=> ?_⟩
 ·have au:j<z.length:=by
   have:=(Array.getElem?_eq_some_iff.1 hu).1;omega
  obtain⟨v,e1,e2,-⟩:=k8 j z[j] (dy au);rw[hu] at e1;simp at e1;subst e1;exact e2
 ·obtain⟨v,e1,-,bM⟩:=k8 j x ab;rw[hu] at e1;simp at e1;subst e1;exact bM _ _ _ _
theorem ab7 {t:TypeId}{parts:Array (Nat×Operand)}(h:c8 g s aF a w)(an:o.op = .build t parts)(aA:LL P t (parts.toList.map fun p=>(p.1,fx s.E p.2))=some bE):Fin P g s a w o bE:=by
 unfold LL at aA;split at aA
 ·rename_i n e z h3 cD
  obtain⟨hu,ad,-,-⟩:=L8 h3;rw[List.map_map] at aA
  cases cp:ux z (parts.toList.map ((fun p:Nat×aG=>(p.1*P.cellsOf e,P.cellsOf e,p.2))∘fun p=>(p.1,fx s.E p.2))) with
  | none=>rw[cp] at aA;simp at aA
  | some c =>
   rw[cp] at aA;simp only[Option.map_some,dB] at aA;subst aA;obtain⟨it,fh,yZ,lN,fE,hcs⟩:=L9 (w:=w) (s:=s) (g:=g) (aF:=aF) cD;obtain⟨Oa,Cw⟩:=Option.isSome_iff_exists.1 ad;have agp:P.cellsOf e=Oa.size:=(by simp[Program.cellsOf,Cw]);obtain⟨mF,f1,f2⟩:=Lo (w:=w) (ok:=s.ok g aF w) (bd:=s.bd) (bk:=s.bk aF) (fun i=>some (i*Oa.size,Oa.size)) _ (parts.map fun (i,x)=>(i,a.eval x)).toList z fh.cells c hcs (by simp) (by intro j off size x i v au bc;simp only[dJ,Option.map_eq_some_iff,Function.comp,dD] at au;simp only[Array.toList_map,dJ,Option.map_eq_some_iff] at bc;obtain⟨p,ag,e1,e2,bM⟩:=au;obtain⟨⟨fo,c7⟩,ml,bc⟩:=bc;simp only[dD] at bc;obtain⟨rfl,rfl⟩:=bc;rw[ag] at ml;have:=dI ml;subst this;refine⟨by rw[<- e1,<- e2,agp],?_⟩;rw[<- bM];exact h.eval _) cp;have aU:P.built t (parts.map fun (i,x)=>(i,a.eval x)).toList=some mF:=(by unfold Program.built;simp only[yZ,hu,lN,Cw];exact f1);refine jc (v:= .agg mF) h ?_ rfl ?_
   ·have:=run_build w t _ mF aU;simp[execOp,an,this]
   ·have:=Rel.agg (w:=w) (ok:=s.ok g aF w) (bd:=s.bd) (bk:=s.bk aF) (c:=c) mF.toList (by simpa using f2.1) (fun j u hu=>f2.2.1 j u (by simpa using hu)) (fun j x u ab hu=>f2.2.2 j x u ab (by simpa using hu));simpa using this
 ·simp at aA
theorem aee {t:TypeId}{parts:Array (Nat×Operand)}(h:c8 g s aF a w)(an:o.op = .build t parts)(aA:fC P s.E s.a0 a3 o c2=some bE):Fin P g s a w o bE:=by
 simp only[fC,an] at aA;split at aA
 ·rename_i lR z FK cD
  split at aA
  ·simp at aA
  ·rename_i pt
   have pt : ∀f∈lR.toList,(P.info? f.type).isSome=true:=(by rw[Bool.not_eq_false] at pt;exact List.all_eq_true.1 pt);split at aA
   ·rename_i l aS
    cases cp:ux z l with
    | none=>simp[cp] at aA
    | some c =>
     simp[cp] at aA;subst aA;obtain⟨it,fh,yZ,lN,fE,hcs⟩:=L9 (w:=w) (s:=s) (g:=g) (aF:=aF) cD;obtain⟨kR,kS⟩:=Uc _ _ _ aS
     have agS:lR.toList.mapM (fun f=>(P.info? f.type).map fun i=>(f.offset,i.size))=some (lR.toList.map fun f=>(f.offset,P.cellsOf f.type)):=by
      refine mapM_some (fun f:Field=>(f.offset,P.cellsOf f.type)) _ _ fun f cp=> ?_;have:=pt f cp
      cases ad:P.info? f.type with
      | none=>simp[ad] at this
      | some i=>simp[Program.cellsOf,ad]
     obtain⟨mF,f1,f2⟩:=Lo (w:=w) (ok:=s.ok g aF w) (bd:=s.bd) (bk:=s.bk aF) ((lR.toList.map fun f=>(f.offset,P.cellsOf f.type)).toArray[·]?) l (parts.map fun (i,x)=>(i,a.eval x)).toList z fh.cells c hcs (by simpa using kR) (by intro j off size x i v au bc;simp only[Array.toList_map,dJ,Option.map_eq_some_iff] at bc;obtain⟨⟨fo,c7⟩,ag,bc⟩:=bc;simp only[dD] at bc;obtain⟨rfl,rfl⟩:=bc;have:=kS j _ _ ag au;simp only[Option.map_eq_some_iff,dD] at this;obtain⟨fd,h1,h2,R,ah⟩:=this;subst h2;subst R;subst ah;refine⟨?_,h.eval c7⟩;rw[List.getElem?_toArray,dJ,Array.getElem?_toList,h1];rfl) cp;have aU:P.built t (parts.map fun (i,x)=>(i,a.eval x)).toList=some mF:=(by unfold Program.built;simp only[yZ,Lc FK,lN,agS];exact f1);refine jc (v:= .agg mF) h ?_ rfl ?_
     ·have:=run_build w t _ mF aU;simp[execOp,an,this]
     ·have:=Rel.agg (w:=w) (ok:=s.ok g aF w) (bd:=s.bd) (bk:=s.bk aF) (c:=c) mF.toList (by simpa using f2.1) (fun j u hu=>f2.2.1 j u (by simpa using hu)) (fun j x u ab hu=>f2.2.2 j x u ab (by simpa using hu));simpa using this
   ·simp at aA
 ·exact ab7 h an aA
theorem aab {sz:Nat}{es:List (List aG)}(aS:∀e∈es,e.length=sz){i:Nat}(ad:i<es.length){c:List aG}(a2:c.length=sz):
 setCells es.flatten (i*sz) c=(es.set i c).flatten:=by
 have hlen : ∀(es:List (List aG)),(∀e∈es,e.length=sz)->es.flatten.length=es.length*sz:=by
  intro es
  induction es with
  | nil=>simp
  | cons e es ih =>
   intro h;rw[List.flatten_cons,dF,ih fun x ab=>h x (by simp[ab]),h e (by simp),List.length_cons,Nat.add_mul];omega
 have i6:i*sz+c.length<=es.flatten.length:=by rw[hlen es aS,a2];have:=dL sz (show i+1<=es.length by omega);rw[Nat.add_mul] at this;omega
 apply List.ext_getElem?;intro j;rw[Lb i6,Sc aS (dy ad) a2,a2]
theorem Su {sz:Nat}: ∀(l:List (Nat×aG)) (es hB:List (List aG)),(∀e∈es,e.length=sz)->Cc sz es l=some hB ->
 ux es.flatten (l.map fun p=>(p.1*sz,sz,p.2))=some hB.flatten/\(∀e∈hB,e.length=sz)/\hB.length=es.length
 | [],es,hB,aS,h=>by simp[Cc] at h;subst h;exact⟨rfl,aS,rfl⟩
 | (i,x)::l,es,hB,aS,h=>by
  simp only[Cc] at h;split at h
  ·rename_i a2
   simp only[dM,decide_eq_true_eq] at a2;obtain⟨⟨h1,h2⟩,R⟩:=a2
   have Ng : ∀e∈es.set i x.cells,e.length=sz:=by
    intro e hm;rcases List.mem_or_eq_of_mem_set hm with cX|cX
    ·exact aS e cX
    ·exact cX▸h2
   obtain⟨gM,gX,bB⟩:=Su l (es.set i x.cells) hB Ng h;have e:=aab aS R h2
   have i6:i*sz+sz<=es.flatten.length:=by
    have:(setCells es.flatten (i*sz) x.cells).length=(es.set i x.cells).flatten.length:=by rw[e]
    have a4 : ∀(es:List (List aG)),(∀e∈es,e.length=sz)->es.flatten.length=es.length*sz:=by
     intro es
     induction es with
     | nil=>simp
     | cons e es ih =>
      intro h;rw[List.flatten_cons,dF,ih fun x ab=>h x (by simp[ab]),h e (by simp),List.length_cons,Nat.add_mul];omega
    rw[a4 es aS];have:=dL sz (show i+1<=es.length by omega);rw[Nat.add_mul] at this;omega
   refine⟨?_,gX,by simpa using bB⟩;simp only[List.map_cons,ux,h1,h2,i6,decide_true,Bool.and_self,if_true];rw[e];exact gM
  ·simp at h
theorem abt {t:TypeId}{len:Nat}{parts:Array (Nat×Operand)}(h:c8 g s aF a w)(fF:s.a0 a3=none)(an:o.op = .buildSlice t len parts)(aA:fC P s.E s.a0 a3 o c2=some bE):Fin P g s a w o bE:=by
 simp only[fC,an] at aA;split at aA
 ·rename_i e he
  split at aA
  ·rename_i z cD
   split at aA
   ·simp at aA
   ·rename_i a2
    simp only[not_or,Nat.not_lt,Decidable.not_not] at a2;obtain⟨ow,Cx,Cy⟩:=a2;split at aA
    ·rename_i es iH
     simp only[dB] at aA;subst aA;obtain⟨it,fh,yZ,lN,fE,hcs⟩:=L9 (w:=w) (s:=s) (g:=g) (aF:=aF) cD;have k8:P.cellsOf e=it.size:=(by simp[Program.cellsOf,yZ]);have VG : ∀x∈List.replicate len z,x.length=z.length:=fun x ab=>(by rw[List.eq_of_mem_replicate ab]);obtain⟨f1,f2,f3⟩:=Su _ _ _ VG iH
     have tG:CW w (s.ok g aF w) s.bd (s.bk aF) (List.replicate len z).flatten ((Array.range (len*it.size)).map (fh.cells[· % fh.cells.size]!)):=by
      have I2:0<z.length:=(by omega);have nm : ∀j,j<len*it.size->((Array.range (len*it.size)).map (fh.cells[· % fh.cells.size]!))[j]? = fh.cells[j % z.length]? := (by intro j au;rw[Array.getElem?_map,Array.getElem?_range];simp only[au,if_true,Option.map_some];have hm:j % fh.cells.size<fh.cells.size:=Nat.mod_lt _ (by omega);rw[getElem!_pos fh.cells _ hm,<- fE,Array.getElem?_eq_getElem hm]);have eA : ∀(j:Nat) u,((Array.range (len*it.size)).map (fh.cells[· % fh.cells.size]!))[j]? = some u->j<len*it.size:=(by intro j u hu;have:=(Array.getElem?_eq_some_iff.1 hu).1;simpa using this);refine⟨by simp[<- k8,<- Cx],fun j u hu=> ?_,fun j x u ab hu=> ?_⟩
      ·have au:=eA j u hu;rw[nm j au] at hu;exact hcs.2.1 _ _ hu
      ·have au:=eA j u hu
       rw[nm j au] at hu;rw[q5 I2 _ VG,List.getElem?_replicate] at ab;split at ab
       ·exact hcs.2.2 _ _ _ ab hu
       ·simp at ab
     obtain⟨mF,g1,g2⟩:=Lo (w:=w) (ok:=s.ok g aF w) (bd:=s.bd) (bk:=s.bk aF) (fun i=>some (i*it.size,it.size)) ((parts.toList.map fun p=>(p.1,fx s.E p.2)).map fun p=>(p.1*z.length,z.length,p.2)) (parts.map fun (i,x)=>(i,a.eval x)).toList _ _ es.flatten tG (by simp) (by intro j off size x i v au bc;simp only[Array.toList_map,dJ,Option.map_eq_some_iff,List.map_map] at bc au;obtain⟨⟨fo,c7⟩,ag,bc⟩:=bc;obtain⟨⟨i2,x2⟩,FH,au⟩:=au;rw[ag] at FH;simp only[dB,dD] at FH bc;obtain⟨rfl,rfl⟩:=FH;obtain⟨rfl,rfl⟩:=bc;simp only[Function.comp,dD] at au;obtain⟨rfl,rfl,rfl⟩:=au;exact⟨by rw[<- k8,<- Cx],h.eval c7⟩) f1
     have jW:(Instr.buildSlice t len (parts.map fun (i,x)=>(i,a.eval x))).run P w = .ok (.slice (some ⟨w.heap.size,0,none⟩) len len) (w.alloc (.cells mF e)):=by
      have h1 : ¬len*it.size>2 ^ 24:=(by rw[<- k8,<- Cx];omega);by_cases h0:len*it.size=0
      ·have o3:len=0:=by
        rcases Nat.eq_zero_or_pos len with cX|cX
        ·exact cX
        ·have:0<len*it.size:=Nat.mul_pos cX (by omega);omega
       subst o3;have e0:((Array.range (0*it.size)).map (fh.cells[· % fh.cells.size]!)) = #[]:=(by simp);rw[e0] at g1
       have ag:parts = #[]:=by
        obtain⟨l⟩:=parts
        match l,iH with
        | [],_=>rfl
        | p::l,iH=>simp[Cc] at iH
       subst ag;have agT:mF = #[]:=(by simpa [Instr.fill] using g1.symm);subst agT;simp[Instr.buildSlice,run_underlying (uj he),sizeOf,typeInfo,yZ,newRow,Instr.fill];rw[Array.range_zero',Array.map_empty]
      ·simp only[Instr.buildSlice,run_underlying (uj he),sizeOf,typeInfo,yZ,newRow,zeroValue,lN,Sem.run_bind,Result.andThen_ok,run_program,Sem.run_pure,Sem.run_ite,h1,h0,if_false];rw[g1];rfl
     refine H0 (v:= .slice (some ⟨w.heap.size,0,none⟩) len len) (ak:=⟨z.length,es,.live⟩) (c:=mF) (fu:=e) h fF rfl ?_ rfl f2 ?_ ?_
     ·simp[execOp,an,jW]
     ·intro j x ab
      have au:j<mF.size:=by
       rw[g2.1];rcases Nat.lt_or_ge j es.flatten.length with cX|cX
       ·exact cX
       ·rw[List.getElem?_eq_none cX] at ab;simp at ab
      have hu:mF[j]? = some mF[j]:=Array.getElem?_eq_getElem au;exact⟨_,hu,g2.2.1 _ _ hu,g2.2.2 _ _ _ ab hu⟩
     ·intro bT l6 ot nE hu cj
      refine Rel.bf hu cj (dE _) ?_ ⟨?_,.inr (by simp)⟩
      ·have:len<=len*z.length:=Nat.le_mul_of_pos_right _ (by omega);omega
      ·rw[g2.1]
       have a4 : ∀(es:List (List aG)),(∀e∈es,e.length=z.length)->es.flatten.length=es.length*z.length:=by
        intro es
        induction es with
        | nil=>simp
        | cons e es ih =>
         intro h;rw[List.flatten_cons,dF,ih fun x ab=>h x (by simp[ab]),h e (by simp),List.length_cons,Nat.add_mul];omega
       rw[a4 es f2,f3];simp
    ·simp at aA
  ·simp at aA
 ·simp at aA
theorem HA (h:c8 g s aF a w)(fF:s.a0 a3=none)(aA:fC P s.E s.a0 a3 o c2=some bE)(cQ:∀p∈bE.f5,p):Fin P g s a w o bE:=by
 cases an:o.op with
 | move x=>exact Ub h (.inl an) aA
 | assign x=>exact Ub h (.inr an) aA
 | pick c x y=>exact ae6 h an aA cQ
 | alloc t=>exact ad5 h fF an aA
 | box t x=>exact afG h fF an aA
 | load t x=>exact ae7 h an aA cQ
 | store t x y=>exact ad6 h an aA cQ
 | nilCheck x=>exact ab5 h an aA cQ
 | binOp op t x y cF=>exact ad7 h an aA cQ
 | unOp op t x=>exact ae8 h an aA
 | convert t cF x=>exact acz h an aA
 | makeFunc f GA cI=>exact ab6 h an aA
 | makeSlice t x y=>exact abM h fF an aA cQ
 | fieldAddr t x f=>exact abN h an aA cQ
 | field t x f=>exact aeb h an aA
 | indexAddr t x y=>exact abO h an aA cQ
 | index t x y=>exact aec h an aA cQ
 | extract x i=>exact acA h an aA
 | slice t x bW ad Ob =>
  cases Ob with
  | none=>exact aea h an aA cQ
  | some m=>simp[fC,an] at aA
 | build t kt=>exact aee h an aA
 | buildSlice t n kt=>exact abt h fF an aA
 | call c =>
  obtain⟨I3,args,ov⟩:=c
  cases I3 with
  | builtin b=>cases b<;>first|exact afH h an rfl aA cQ|simp[fC,an] at aA
  | value f=>simp[fC,an] at aA
  | invoke r m=>simp[fC,an] at aA
 | _=>simp[fC,an] at aA
end
def afI:Option a1->gl
 | some o=> .gq o []
 | none=> .none
def tx (sz:Nat)(a0:Nat->Option (List a1))(a:gl):aG->Option (List (List aG)×List Prop)
 | .isl I4 es=>if I4=sz then some (es,[]) else none
 | .bf r k bW len=>match pY (a0 r) k a with
  | some (ak,bO)=>if ak.sz=sz then some ((ak.es.drop bW).take len,bO++[bW+len<=ak.es.length]) else none
  | none=>none
 | .fy=>some ([],[])
 | .jy=>some ([],[])
 | _=>none
def yp (P:Program)(sz:Nat)(z:List aG)(a0:Nat->Option (List a1))(a:gl)(t cF:TypeId)(y:aG):Option (List (List aG)×List Prop) :=
 if t=cF then tx sz a0 a y else
 match P.underlying cF,y with
 | some (.int _),.n .i64 n=>some (List.replicate n.toNat z,[0<=n,n<9223372036854775808])
 | _,_=>none
def px (P:Program)(E:Nat->aG)(a0:Nat->Option (List a1))(a3:Nat)(b:Builtin)(args:List aG)(ov:List TypeId)(c2:gl):Option iN :=
 match b,args,ov,c2 with
 | .append,[x,y],[t,cF],.ay m o =>
  match rV P t with
  | none=>none
  | some e=>match P.info? e,sy P e with
   | some i,some z =>
    if z.length≠i.size\/i.size=0\/i.bytes=0 then none else
    match yp P i.size z a0 (afI o) t cF y with
    | none=>none
    | some (bK,bO)=>match x with
     | .fy=>some {val:= .bf a3 0 0 m,gI:=[(a3,[⟨i.size,bK,.live⟩])],f5:=bO++[m=bK.length,m*i.bytes<=140737488355328]}
     | .bf r k 0 len=>match a0 r with
      | none=>none
      | some row=>match eb (some row) k with
       | none=>none
       | some ak=>if ak.cO = .live/\ak.sz=i.size/\a3≠r then
        some {val:= .bf a3 0 0 m,gI:=[(a3,[⟨i.size,ak.es.take len++bK,.live⟩]),(r,row.set k {ak with cO:= .gone})],f5:=bO++[len<=ak.es.length,m=len+bK.length,m*i.bytes<=140737488355328]} else none
     | _=>none
   | _,_=>none
 | .append,[x,y],[t,cF],.ev =>
  match rV P t with
  | none=>none
  | some e=>match P.info? e,sy P e with
   | some i,some z =>
    if z.length≠i.size\/i.size=0\/i.bytes=0 then none else
    match yp P i.size z a0 .none t cF y with
    | none=>none
    | some (bK,bO)=>match x with
     | .bf r k 0 len=>match a0 r with
      | none=>none
      | some row=>match eb (some row) k with
       | none=>none
       | some ak=>if ak.cO = .live/\ak.sz=i.size then
        some {val:= .bf r k 0 (len+bK.length),gI:=[(r,row.set k {ak with es:=ak.es.take len++bK})],f5:=bO++[len+bK.length<=ak.es.length,bK.length*i.bytes<=140737488355328]} else none
     | _=>none
   | _,_=>none
 | .copy,[.bf r k 0 len,y],[t,_],_ =>
  match rV P t with
  | none=>none
  | some e=>match P.info? e with
   | none=>none
   | some i=>match tx i.size a0 .none y with
    | none=>none
    | some (bK,bO)=>match a0 r with
     | none=>none
     | some row=>match eb (some row) k with
      | none=>none
      | some ak=>if ak.cO = .live/\ak.sz=i.size/\i.size≠0 then
       some {val:= .n .i64 bK.length,gI:=[(r,row.set k {ak with es:=bK++ak.es.drop bK.length})],f5:=bO++[bK.length<=len,len<=ak.es.length]} else none
 | .clear,[.bf r k 0 len],[t],_ =>
  match rV P t with
  | none=>none
  | some e=>match P.info? e,sy P e with
   | some i,some z=>match a0 r with
    | none=>none
    | some row=>match eb (some row) k with
     | none=>none
     | some ak=>if ak.cO = .live/\ak.sz=i.size/\z.length=i.size/\i.size≠0 then
      some {val:= .dY [],gI:=[(r,row.set k {ak with es:=List.replicate len z})],f5:=[ak.es.length=len]} else none
   | _,_=>none
 | .min,[.n k x,.n ey y],_,_=>if k=ey then some {val:= .n k (if y<x then y else x)} else none
 | _,_,_,_=>none
section
variable {g:G} {s:S} {aF:gb} {a:Act} {w bT:World}
theorem c8.gone (h:c8 g s aF a w){r k:Nat}{l:List a1}{o:a1}(ai:s.a0 r=some l)(an:s.ak r k=some o):
 c8 g (s.setRow r (l.set k {o with cO:= .gone})) aF a w /\
  ∀x v,Rel w (s.ok g aF w) s.bd (s.bk aF) x v->Rel w ((s.setRow r (l.set k {o with cO:= .gone})).ok g aF w) (s.setRow r (l.set k {o with cO:= .gone})).bd ((s.setRow r (l.set k {o with cO:= .gone})).bk aF) x v:=by
 have bs : ∀q j p,(s.setRow r (l.set k {o with cO:= .gone})).ak q j=some p->s.ak q j=some p/\ ¬(q=r/\j=k):=by
  intro q j p ag;rw[mT] at ag;by_cases e:q=r
  ·subst e
   rw[dw rfl] at ag;unfold eb at ag;simp only[List.getElem?_set] at ag;by_cases e2:k=j
   ·subst e2
    by_cases aX:k<l.length
    ·simp[aX] at ag
    ·simp[aX] at ag
   ·rw[dz e2] at ag;refine⟨?_,fun gL=>e2 gL.2.symm⟩;unfold S.ak;rw[ai];exact ag
  ·rw[dz e] at ag;exact⟨ag,fun gL=>e gL.1⟩
 have cZ:Step g s aF w (s.setRow r (l.set k {o with cO:= .gone})) aF w:=by
  refine⟨Hg s ai (by simp),fun q j a4=> ?_,fun b aS=> ?_,fun _ _ _=>rfl,dE _⟩
  ·cases ag:(s.setRow r (l.set k {o with cO:= .gone})).ak q j with
   | none=>right;simp[S.bk,ag]
   | some p=>left;simp[S.bk,ag,(bs q j p ag).1]
  ·obtain⟨q,j,p,m,h1,h2,R⟩:=aS;exact .inl ⟨q,j,p,m,(bs q j p h1).1,h2,R⟩
 refine⟨{tojq:=⟨?_,?_,?_,h.hY,h.mlt,h.o0,cZ.stay h.stay,h.low⟩,env:=fun t=>cZ.rel (h.env t),defers:=h.defers,kO:=h.kO},fun x v=>cZ.rel⟩
 ·intro q j p ag;exact cZ.obj (fun b m _=>rfl) (h.obj q j p (bs q j p ag).1)
 ·intro q j p iO i9 lp b m aI h1 h2 R ah;exact h.inj q j p iO i9 lp b m aI (bs q j p h1).1 (bs iO i9 lp h2).1 R ah
 ·intro q j p b m h1 h2;exact h.own q j p b m (bs q j p h1).1 h2
theorem c8.Ud (h:c8 g s aF a w){a3 sz:Nat}(fF:s.a0 a3=none):
 ∃bX,bX a3 0=none/\c8 g (s.setRow a3 [⟨sz,[],.live⟩]) bX a w:=by
 have bs : ∀q k,q≠a3->(s.setRow a3 [⟨sz,[],.live⟩]).ak q k=s.ak q k:=fun q k a4=>by rw[mT,dz a4]
 let bX:gb:=fun q k=>if q=a3 then none else aF q k
 have c9 : ∀q k,s.bd q k->q≠a3:=by rintro q k a4 rfl;exact Bc fF k a4
 have MT : ∀k o,(s.setRow a3 [⟨sz,[],.live⟩]).ak a3 k=some o->o=⟨sz,[],.live⟩:=by
  intro k o an;rw[mT,dw rfl,nx] at an;split at an
  ·simp at an;exact an.symm
  ·simp at an
 have cZ:Step g s aF w (s.setRow a3 [⟨sz,[],.live⟩]) bX w:=by
  refine⟨fun q k a4=>(oP _ _ _ _ _).2 (by rw[dz (c9 q k a4)];exact a4),fun q k a4=> .inl ?_,fun b aS=> ?_,fun _ _ _=>rfl,dE _⟩
  ·simp[S.bk,bs q k (c9 q k a4),bX,c9 q k a4]
  ·obtain⟨q,k,o,m,h1,h2,R⟩:=aS
   by_cases e:q=a3
   ·subst e;simp[bX] at R
   ·rw[bs q k e] at h1;simp only[bX,dz e] at R;exact .inl ⟨q,k,o,m,h1,h2,R⟩
 refine⟨bX,by simp[bX],{tojq:=⟨?_,?_,?_,h.hY,h.mlt,h.o0,cZ.stay h.stay,h.low⟩,env:=fun t=>cZ.rel (h.env t),defers:=h.defers,kO:=h.kO}⟩
 ·intro q k o an
  by_cases e:q=a3
  ·subst e;rw[MT k o an];simp[bX,ka]
  ·rw[bs q k e] at an;have:=cZ.obj (fun b m _=>rfl) (h.obj q k o an);simpa [bX,e] using this
 ·intro q k o iO ey cn b m aI h1 h2 R ah;have e:q≠a3:=(by rintro rfl;simp[bX] at R);have e5:iO≠a3:=(by rintro rfl;simp[bX] at ah);rw[bs q k e] at h1;rw[bs iO ey e5] at h2;simp only[bX,dz e] at R;simp only[bX,dz e5] at ah;exact h.inj q k o iO ey cn b m aI h1 h2 R ah
 ·intro q k o b m h1 h2;have e:q≠a3:=(by rintro rfl;simp[bX] at h2);rw[bs q k e] at h1;simp only[bX,dz e] at h2;exact h.own q k o b m h1 h2
theorem c8.turn (h:c8 g s aF a w){r k b m a3:Nat}{l:List a1}{o:a1}(ai:s.a0 r=some l)(an:s.ak r k=some o)(aX:o.cO = .live)(ag:aF r k=some (b,m))
 (fF:s.a0 a3=none) (cn:a1) (ox:cn.cO = .live) (c:Array Value) (fu:TypeId)
 (hw:bT.heap[b]? = some (.cells c fu (0,0))) (fE:bT.heap.size=w.heap.size) (yo : ∀q,q≠b->bT.heap[q]? = w.heap[q]?)
 (sZ:bT.os=w.os) (Nd:bT.tape=w.tape) (MR:bT.output=w.output) (hm:c.size=m) (hlen : ∀e∈cn.es,e.length=cn.sz)
 (a2 : ∀(j:Nat) x,cn.es.flatten[j]? = some x-> ∃v,c[j]? = some v/\li v=true/\Rel w (s.ok g aF w) s.bd (s.bk aF) x v) :
 ∃bX,bX a3 0=some (b,m)/\c8 g ((s.setRow a3 [cn]).setRow r (l.set k {o with cO:= .gone})) bX a bT:=by
 have c9:r≠a3:=by rintro rfl;rw[fF] at ai;simp at ai
 have VH : ∀k,¬s.bd a3 k:=Bc fF
 let b4:=(s.setRow a3 [cn]).setRow r (l.set k {o with cO:= .gone})
 let bX:gb:=aF.set a3 0 (some (b,m))
 have bs : ∀q j p,b4.ak q j=some p->(q=a3/\j=0/\p=cn)\/(q≠a3/\s.ak q j=some p/\ ¬(q=r/\j=k)):=by
  intro q j p a4;rw[mT] at a4;by_cases e:q=r
  ·subst e
   rw[dw rfl] at a4;unfold eb at a4;simp only[List.getElem?_set] at a4;by_cases e2:k=j
   ·subst e2;by_cases aX:k<l.length<;>simp[aX] at a4
   ·rw[dz e2] at a4;refine .inr ⟨c9,?_,fun gL=>e2 gL.2.symm⟩;unfold S.ak;rw[ai];exact a4
  ·rw[dz e,mT] at a4
   by_cases e2:q=a3
   ·subst e2
    rw[dw rfl,nx] at a4;split at a4
    ·rename_i h0;simp at a4;exact .inl ⟨rfl,h0.1,a4.symm⟩
    ·simp at a4
   ·rw[dz e2] at a4;exact .inr ⟨e2,a4,fun gL=>e gL.1⟩
 have m9 : ∀q j,q≠a3->bX q j=aF q j:=fun q j a4=>by simp[bX,gb.set,a4]
 have Cz:bX a3 0=some (b,m):=by simp[bX,gb.set]
 have rU:s.nc aF b:=⟨r,k,o,m,an,aX,ag⟩
 have ko : ∀q j,s.bd q j->b4.bd q j:=fun q j a4=>by
  have e:q≠a3:=fun e=>VH j (e▸a4);rw[oP,oP,dz e];by_cases e2:q=r
  ·subst e2;rw[dw rfl];simpa [S.bd,ai] using a4
  ·rw[dz e2];exact a4
 have cZ:Step g s aF w b4 bX bT:=by
  refine⟨ko,fun q j a4=> ?_,fun q aS=> ?_,fun q a4 aS=>yo q fun e=>aS (e▸rU),Nat.le_of_eq fE.symm⟩
  ·have o1:q≠a3:=fun e=>VH j (e▸a4)
   cases ly:b4.ak q j with
   | none=>right;simp[S.bk,ly]
   | some p =>
    left;rcases bs q j p ly with ⟨e,-⟩|⟨-,e2,-⟩
    ·exact absurd e o1
    ·simp[S.bk,ly,e2,m9 q j o1]
  ·obtain⟨iO,j,p,aI,h1,h2,R⟩:=aS
   rcases bs iO j p h1 with ⟨rfl,rfl,rfl⟩|⟨e1,e2,-⟩
   ·rw[Cz] at R;simp at R;exact .inl (R.1▸rU)
   ·rw[m9 iO j e1] at R;exact .inl ⟨iO,j,p,aI,e2,h2,R⟩
 refine⟨bX,Cz,{tojq:=⟨?_,?_,?_,?_,h.mlt,h.o0,cZ.stay h.stay,h.low⟩,env:=fun t=>cZ.rel (h.env t),defers:=h.defers,kO:=h.kO}⟩
 ·intro q j p ly
  rcases bs q j p ly with ⟨rfl,rfl,rfl⟩|⟨e1,e2,bM⟩
  ·rw[Cz];exact⟨c,fu,hw,hm,hlen,fun i x ab=>let ⟨v,f1,f2,f3⟩:=a2 i x ab;⟨v,f1,f2,cZ.rel f3⟩⟩
  ·rw[m9 q j e1];refine cZ.obj (fun k3 aI lc=>yo k3 ?_) (h.obj q j p e2);rintro rfl;exact bM (h.inj q j p r k o k3 aI m e2 an lc ag)
 ·intro q j p iO i9 lp k3 ji ig h1 h2 R ah
  rcases bs q j p h1 with ⟨rfl,rfl,rfl⟩|⟨e1,e2,bM⟩<;>rcases bs iO i9 lp h2 with ⟨rfl,rfl,rfl⟩|⟨oy,ru,wS⟩
  ·exact⟨rfl,rfl⟩
  ·rw[Cz] at R;simp at R;rw[m9 iO i9 oy] at ah;obtain⟨rfl,rfl⟩:=R;exact absurd (h.inj iO i9 lp r k o b ig m ru an ah ag) wS
  ·rw[Cz] at ah;simp at ah;rw[m9 q j e1] at R;obtain⟨rfl,rfl⟩:=ah;exact absurd (h.inj q j p r k o b ji m e2 an R ag) bM
  ·rw[m9 q j e1] at R;rw[m9 iO i9 oy] at ah;exact h.inj q j p iO i9 lp k3 ji ig e2 ru R ah
 ·intro q j p k3 aI h1 h2
  rcases bs q j p h1 with ⟨rfl,rfl,rfl⟩|⟨e1,e2,-⟩
  ·rw[Cz] at h2;simp at h2;rw[<- h2.1];exact h.own r k o b m an ag
  ·rw[m9 q j e1] at h2;exact h.own q j p k3 aI e2 h2
 ·refine h.hY.step sZ Nd MR (Nat.le_of_eq fE.symm) fun k3 m5 lc=>yo k3 ?_
  rintro rfl;rcases h.own r k o k3 m an ag with h1|h1
  ·omega
  ·exact lc h1
theorem qk.pu {ok:Nat->Prop}{bd:ki}{bk:j3}{eT o sz:Nat}{es:List (List aG)}(h:qk w ok bd bk eT o sz es):
 ∃vs:List Value,vs.length=es.length*sz/\(∀(j:Nat) u,vs[j]? = some u->w.cell? ((⟨eT,o,none⟩:Addr).add j)=some u)/\(∀u∈vs,u.oneCell'=true) /\
  ∀(j:Nat) x u,es.flatten[j]? = some x->vs[j]? = some u->Rel w ok bd bk x u:=by
 have kP:es.flatten.length=es.length*sz:=by
  have : ∀(es:List (List aG)),(∀e∈es,e.length=sz)->es.flatten.length=es.length*sz:=by
   intro es
   induction es with
   | nil=>intro _;simp
   | cons e es ih =>
    intro gL;rw[List.flatten_cons,dF,ih fun x ab=>gL x (by simp[ab]),gL e (by simp),List.length_cons,Nat.add_mul];omega
  exact this es h.1
 have ab : ∀i,i<es.length*sz-> ∃v,∀x,es.flatten[i]? = some x->w.cell? ⟨eT,o+i,none⟩=some v/\li v=true/\Rel w ok bd bk x v:=by intro i ad;have au:=dy (l:=es.flatten) (i:=i) (by omega);obtain⟨v,h1⟩:=h.2 i _ au;exact⟨v,fun x ab=>by rw[au] at ab;simp at ab;subst ab;exact h1⟩
 let vs:List Value:=(List.range (es.length*sz)).map fun i=>if ad:i<es.length*sz then (ab i ad).choose else undef
 have r9:vs.length=es.length*sz:=by simp[vs]
 have nm : ∀(i:Nat) u x,vs[i]? = some u->es.flatten[i]? = some x->w.cell? ⟨eT,o+i,none⟩=some u/\li u=true/\Rel w ok bd bk x u:=by
  intro i u x hu FN
  have ad:i<es.length*sz:=by
   rcases Nat.lt_or_ge i vs.length with cX|cX
   ·omega
   ·rw[List.getElem?_eq_none cX] at hu;simp at hu
  simp only[vs,dJ,List.getElem?_range ad,Option.map_some,dif_pos ad,dB] at hu;subst hu;exact(ab i ad).choose_spec x FN
 have hex : ∀(i:Nat) u,vs[i]? = some u-> ∃x,es.flatten[i]? = some x:=by
  intro i u hu
  have ad:i<es.flatten.length:=by
   rcases Nat.lt_or_ge i vs.length with cX|cX
   ·omega
   ·rw[List.getElem?_eq_none cX] at hu;simp at hu
  exact⟨_,dy ad⟩
 refine⟨vs,r9,fun j u hu=> ?_,fun u hu=> ?_,fun j x u ex hu=>(nm j u x hu ex).2.2⟩
 ·obtain⟨x,FN⟩:=hex j u hu;rw[tp];exact(nm j u x hu FN).1
 ·obtain⟨j,au⟩:=List.getElem?_of_mem hu;obtain⟨x,FN⟩:=hex j u au;exact(nm j u x au FN).2.1
theorem aa5 {es bK:List (List aG)}{sz:Nat}{xs news:List Value}(ab:xs.length=es.length*sz)(he:∀e∈es,e.length=sz){j:Nat}{x:aG}(h:(es++bK).flatten[j]? = some x)
 {ok:Nat->Prop} {bd:ki} {bk:j3} (h1 : ∀(j:Nat) x u,es.flatten[j]? = some x->xs[j]? = some u->Rel w ok bd bk x u) (h2 : ∀(j:Nat) x u,bK.flatten[j]? = some x->news[j]? = some u->Rel w ok bd bk x u)
 {u:Value} (hu:(xs++news)[j]? = some u):Rel w ok bd bk x u:=by
 have kP:es.flatten.length=es.length*sz:=by
  have : ∀(es:List (List aG)),(∀e∈es,e.length=sz)->es.flatten.length=es.length*sz:=by
   intro es
   induction es with
   | nil=>intro _;simp
   | cons e es ih =>
    intro gL;rw[List.flatten_cons,dF,ih fun x ab=>gL x (by simp[ab]),gL e (by simp),List.length_cons,Nat.add_mul];omega
  exact this es he
 rw[List.flatten_append,List.getElem?_append] at h;rw[List.getElem?_append] at hu;by_cases au:j<es.flatten.length
 ·rw[dw au] at h;rw[dw (by omega)] at hu;exact h1 j x u h hu
 ·rw[dz au] at h;rw[dz (by omega)] at hu;rw[kP] at h;rw[ab] at hu;exact h2 _ x u h hu
variable {P:Program}
theorem TB (h:c8 g s aF a w){sz:Nat}{x:aG}{gh:gl}{bK:List (List aG)}{ak:List Prop}(he:tx sz s.a0 gh x=some (bK,ak))(bs:∀p∈ak,p){v:Value}(bc:Rel w (s.ok g aF w) s.bd (s.bk aF) x v):
 ∃A c,v = .slice A bK.length c/\(∀e∈bK,e.length=sz)/\(bK.length=0\/ ∃eT off,A=some ⟨eT,off,none⟩/\qk w (s.ok g aF w) s.bd (s.bk aF) eT off sz bK):=by
 cases x with
 | isl I4 es =>
  simp only[tx] at he;split at he
  ·rename_i bJ
   subst bJ;simp only[dB,dD] at he;obtain⟨rfl,rfl⟩:=he;rcases bc.vj with ⟨rfl,A,c,rfl,-⟩|⟨eT,off,c,-,rfl,-,jz⟩
   ·exact⟨A,c,rfl,by simp,.inl rfl⟩
   ·exact⟨_,c,rfl,jz.1,.inr ⟨eT,off,rfl,jz⟩⟩
  ·simp at he
 | bf r k bW len =>
  simp only[tx] at he;split at he
  ·rename_i o4 bO kD
   split at he
   ·rename_i bJ
    simp only[dB,dD] at he;obtain⟨rfl,rfl⟩:=he;have i6:bW+len<=o4.es.length:=bs _ (by simp);have an:s.ak r k=some o4:=vk kD (fun p ag=>bs p (by simp[ag]));have fZ:=h.obj r k o4 an;have aS:((o4.es.drop bW).take len).length=len:=(by simp;omega);rcases bc.Ex (jm an) with ⟨-,rfl,rfl,rfl⟩|⟨b,m,A,c,ag,rfl,tF,-,hm⟩
    ·exact⟨none,0,by simp,by simp,.inl (by simp)⟩
    ·rw[ag] at fZ
     have jz:=fZ.rd;subst bJ;have yT:=Hh jz bW len (by omega);refine⟨A,c,by rw[aS],yT.1,?_⟩;rcases hm with rfl|⟨rfl,-⟩
     ·left;rw[aS];omega
     ·right;rw[dG] at yT;exact⟨b,_,rfl,yT⟩
   ·simp at he
  ·simp at he
 | fy =>
  simp only[tx,dB,dD] at he;obtain⟨rfl,rfl⟩:=he;rw[bc.rM];exact⟨none,0,rfl,by simp,.inl rfl⟩
 | jy =>
  simp only[tx,dB,dD] at he;obtain⟨rfl,rfl⟩:=he;obtain⟨A,c,rfl⟩:=bc.HZ;exact⟨some A,c,rfl,by simp,.inl rfl⟩
 | _=>simp[tx] at he
structure MU (P:Program) (w:World) (t cF fu e:TypeId) (i:TypeInfo) (fh pa:Value) (n:Nat) (vs:List Value):Prop where
 zero:n=0-> ∀(B:Option Addr) (len cap:Nat),len<=cap->(Builtin.append_ #[t,cF] fu #[.slice B len cap,pa]).run P w = .ok (.slice B len cap) w
 nil:0<n->(n:Int)<=9223372036854775807->n*i.bytes<=140737488355328 ->
  (Builtin.append_ #[t,cF] fu #[.slice none 0 0,pa]).run P w = .ok (.slice (some ⟨w.heap.size,0,none⟩) n (grownCap w n 0 e)) (w.drew.alloc (.cells (vs.toArray++Builtin.zeroCells fh.cells (grownCap w n 0 e-n)) e))
 room:0<n-> ∀(g jO ni:Nat) (m6:Array Value) (e5:TypeId),w.heap[g]? = some (.cells m6 e5 (0,0))->jO+n<=ni->jO*i.size+vs.length<=m6.size->n*i.bytes<=140737488355328 ->
  (Builtin.append_ #[t,cF] fu #[.slice (some ⟨g,0,none⟩) jO ni,pa]).run P w = .ok (.slice (some ⟨g,0,none⟩) (jO+n) ni) (w.setRow g (m6.toList.take (jO*i.size)++vs++m6.toList.drop (jO*i.size+vs.length)).toArray)
 grow:0<n-> ∀(b:Addr) (jO ni:Nat) (yU:List Value),yU.length=jO*i.size->(∀(j:Nat) v,yU[j]? = some v->w.cell? (b.add j)=some v)->ni<jO+n->((jO+n:Nat):Int)<=9223372036854775807->Builtin.nextslicecap (jO+n) ni*i.bytes<=281474976710656->n*i.bytes<=140737488355328 ->
  (Builtin.append_ #[t,cF] fu #[.slice (some b) jO ni,pa]).run P w = .ok (.slice (some ⟨w.heap.size,0,none⟩) (jO+n) (grownCap w (jO+n) ni e))
    (w.drew.alloc (.cells (yU.toArray++vs.toArray++Builtin.zeroCells fh.cells (grownCap w (jO+n) ni e-(jO+n))) e))
theorem aac (t fu e:TypeId)(i:TypeInfo)(cj:P.underlying t=some (.slice e))(ad:P.info? e=some i)
 (g jO ni:Nat) (m6:Array Value) (e5:TypeId) (dt:w.heap[g]? = some (.cells m6 e5 (0,0)))
 (a:Addr) (m c:Nat) (news:List Value) (aS:news.length=m*i.size) (agq : ∀j u,news[j]? = some u->w.cell? (a.add j)=some u) (h1 : ∀u∈news,u.oneCell'=true)
 (vq:jO+m<=ni) (i6:jO*i.size+news.length<=m6.size) :
 (Builtin.append_ #[t,t] fu #[.slice (some ⟨g,0,none⟩) jO ni,.slice (some a) m c]).run P w =
   .ok (.slice (some ⟨g,0,none⟩) (jO+m) ni) (w.setRow g (m6.toList.take (jO*i.size)++news++m6.toList.drop (jO*i.size+news.length)).toArray):=by
 have cp:=run_firstCells_some (P:=P) w i.size m a m c news aS agq;have nG:=run_storeCells_at P g (jO*i.size) e5 news 0 m6 w dt (by simpa using i6) h1;simp only[Nat.add_zero] at nG;simp[Builtin.append_,run_underlying cj,sizeOf,typeInfo,ad,Builtin.lenOf,vq,cp,Addr.add_lit,nG]
theorem Sv {t fu e:TypeId}{i:TypeInfo}{fh:Value}(cj:P.underlying t=some (.slice e))(ad:P.info? e=some i)(cD:i.zero=some fh){A:Option Addr}{n c:Nat}{vs:List Value}(aS:vs.length=n*i.size)
 (hA:n=0\/ ∃a,A=some a/\ ∀(j:Nat) u,vs[j]? = some u->w.cell? (a.add j)=some u) (h1 : ∀u∈vs,u.oneCell'=true):MU P w t t fu e i fh (.slice A n c) n vs where
 zero:=fun h0 B len cap Fj=>by subst h0;cases A<;>cases B<;>simp[Builtin.append_,run_underlying cj,sizeOf,typeInfo,ad,Builtin.lenOf,Fj,Builtin.firstCells,loadCells,loadCellsFrom,storeCells]
 nil:=fun h0 y0 CA=>by obtain⟨a,rfl,bG⟩:=hA.resolve_left (by omega);exact run_append_nil (P:=P) w t fu e i fh cj ad cD a n c vs aS bG h0 y0 (by omega)
 room:=fun aV g jO ni m6 e5 dt vq i6 _=>by obtain⟨a,rfl,bG⟩:=hA.resolve_left (by omega);exact aac t fu e i cj ad g jO ni m6 e5 dt a n c vs aS bG h1 vq i6
 grow:=fun aV b jO ni yU an hold dt y0 i6 _=>by obtain⟨a,rfl,bG⟩:=hA.resolve_left (by omega);exact run_append_grow (P:=P) w t fu e i fh cj ad cD b jO ni yU an hold a n c vs aS bG dt y0 i6
theorem acC {t cF fu e:TypeId}{i:TypeInfo}{fh:Value}{k:IntKind}(cj:P.underlying t=some (.slice e))(nH:P.underlying cF=some (.int k))(ad:P.info? e=some i)(cD:i.zero=some fh)(m7:fh.cells.size=i.size){m:Nat}(akv:(m:Int)<9223372036854775808)
 (h1 : ∀u∈(Builtin.zeroCells fh.cells m).toList,u.oneCell'=true):MU P w t cF fu e i fh (.int .i64 m) m (Builtin.zeroCells fh.cells m).toList:=by
 have hw:IntKind.i64.wrap (m:Int)=m:=by simp[IntKind.wrap,IntKind.bits,IntKind.signed];omega
 have oX : ¬((m:Int)<0):=by omega
 have tG : ∀aI,aI*i.size=0->Builtin.zeroCells fh.cells aI = #[]:=fun aI hm=>by apply Array.eq_empty_of_size_eq_zero;rw[size_zeroCells,m7,hm]
 have I5 : ∀bT:World,(if m*i.size=0 then (pure #[]:Sem (Array Value)) else do pure (Builtin.zeroCells (<- zeroValue e).cells m)).run P bT = .ok (Builtin.zeroCells fh.cells m) bT:=fun bT=>by
  split
  ·rename_i hm;rw[tG _ hm];rfl
  ·simp[zeroValue,typeInfo,ad,cD]
 have MV : ∀b:Nat,m*b<=140737488355328-> ¬(281474976710656<(m:Int)*(b:Int)):=fun b aU=>by have:((m*b:Nat):Int)<=140737488355328:=(by omega);rw[Int.natCast_mul] at this;omega
 refine⟨fun aV B len cap Fj=> ?_,fun aV y0 CA=> ?_,fun aV g jO ni m6 e5 dt vq i6 CA=> ?_,fun aV b jO ni yU an hold dt y0 i6 CA=> ?_⟩
 ·subst aV;have Nj:IntKind.i64.wrap 0=0:=(by simpa using hw);cases B<;>simp[Builtin.append_,run_underlying cj,run_underlying nH,sizeOf,typeInfo,ad,Fj,asInt,asIntOf,Nj,storeCells]
 ·have I6 : ¬m=0:=by omega
  have Fk : ¬(9223372036854775807<(m:Int)):=(by omega);have wJ:=MV _ CA;have Fl : ¬(281474976710656<Builtin.nextslicecap m 0*i.bytes):=(by rw[nextslicecap_zero aV];omega);have h2:=I5 w.drew;by_cases hm:m*i.size=0
  ·simp[Builtin.append_,run_underlying cj,run_underlying nH,sizeOf,typeInfo,zeroValue,ad,cD,asInt,asIntOf,hw,oX,wJ,I6,Fk,Fl,Question.forced,run_firstCells_none,newRow,grownCap,hm,tG _ hm]
  ·simp[Builtin.append_,run_underlying cj,run_underlying nH,sizeOf,typeInfo,zeroValue,ad,cD,asInt,asIntOf,hw,oX,wJ,I6,Fk,Fl,Question.forced,run_firstCells_none,newRow,grownCap,hm]
 ·have wJ:=MV _ CA
  have nG:=run_storeCells_at P g (jO*i.size) e5 (Builtin.zeroCells fh.cells m).toList 0 m6 w dt (by simpa using i6) h1;simp only[Nat.add_zero] at nG;by_cases hm:m*i.size=0
  ·rw[tG _ hm] at nG;have agU:(storeCells ⟨g,jO*i.size,none⟩ []).run P w = .ok () (w.setRow g m6):=(by simpa using nG);simp[Builtin.append_,run_underlying cj,run_underlying nH,sizeOf,typeInfo,zeroValue,ad,cD,asInt,asIntOf,hw,oX,wJ,vq,hm,tG _ hm,Addr.add_lit,agU]
  ·simp[Builtin.append_,run_underlying cj,run_underlying nH,sizeOf,typeInfo,zeroValue,ad,cD,asInt,asIntOf,hw,oX,wJ,vq,hm,Addr.add_lit,nG]
 ·have wJ:=MV _ CA
  have Wb : ¬(jO+m<=ni):=(by omega);have Fk : ¬(9223372036854775807<((jO:Int)+(m:Int))):=(by omega);have Fl : ¬(281474976710656<Builtin.nextslicecap (jO+m) ni*i.bytes):=(by omega);have Wc:=run_firstCells_some (P:=P) w.drew i.size jO b jO ni yU an (by simpa using hold);by_cases hm:m*i.size=0
  ·simp[Builtin.append_,run_underlying cj,run_underlying nH,sizeOf,typeInfo,zeroValue,ad,cD,asInt,asIntOf,hw,oX,wJ,Wb,Fk,Fl,Question.forced,Wc,newRow,grownCap,hm,tG _ hm]
  ·simp[Builtin.append_,run_underlying cj,run_underlying nH,sizeOf,typeInfo,zeroValue,ad,cD,asInt,asIntOf,hw,oX,wJ,Wb,Fk,Fl,Question.forced,Wc,newRow,grownCap,hm]
theorem KQ {a3:Nat}{e:TypeId}{v:Value}{i:TypeInfo}{m:Nat}(h:c8 g s aF a w)(fF:s.a0 a3=none){es:List (List aG)}(hlen:∀x∈es,x.length=i.size)(hm:m=es.length)
 {pu:List Value} {vV:Array Value} {cap:Nat} (r9:pu.length=es.length*i.size) (nh : ∀u∈pu,u.oneCell'=true) (ahx:vV.size=(cap-m)*i.size) (Fj:m<=cap) (agV:cap<9223372036854775808)
 (fZ : ∀(j:Nat) x u,es.flatten[j]? = some x->pu[j]? = some u->Rel w (s.ok g aF w) s.bd (s.bk aF) x u)
 (bc:v = .slice (some ⟨w.heap.size,0,none⟩) m cap) :
 ∃bX,c8 g (s.setRow a3 [⟨i.size,es,.live⟩]) bX a (w.drew.alloc (.cells (pu.toArray++vV) e)) /\
  Rel (w.drew.alloc (.cells (pu.toArray++vV) e)) ((s.setRow a3 [⟨i.size,es,.live⟩]).ok g bX (w.drew.alloc (.cells (pu.toArray++vV) e))) (s.setRow a3 [⟨i.size,es,.live⟩]).bd ((s.setRow a3 [⟨i.size,es,.live⟩]).bk bX) (.bf a3 0 0 m) v:=by
 have bF:=h.drew
 have kP:es.flatten.length=es.length*i.size:=by
  have : ∀(es:List (List aG)),(∀e∈es,e.length=i.size)->es.flatten.length=es.length*i.size:=by
   intro es
   induction es with
   | nil=>intro _;simp
   | cons e es ih =>
    intro gL;rw[List.flatten_cons,dF,ih fun x ab=>gL x (by simp[ab]),gL e (by simp),List.length_cons,Nat.add_mul];omega
  exact this es hlen
 obtain⟨bX,p1,p2,-⟩:=bF.alloc fF ⟨i.size,es,.live⟩ rfl (pu.toArray++vV) e hlen (fun j x ab=>by
  have au:j<pu.length:=by
   rcases Nat.lt_or_ge j es.flatten.length with cX|cX
   ·omega
   ·rw[List.getElem?_eq_none cX] at ab;simp at ab
  refine⟨pu[j],?_,nh _ (List.getElem_mem au),?_⟩
  ·rw[Array.getElem?_append_left (by simpa using au)];simp[au]
  ·exact(fZ j x _ ab (dy au)).drew)
 refine⟨bX,p2,?_⟩;subst bc;have an:(s.setRow a3 [⟨i.size,es,.live⟩]).ak a3 0=some ⟨i.size,es,.live⟩:=by rw[mT,dw rfl,nx];simp
 refine Rel.bf (sz:=i.size) (eT:=w.heap.size) (m:=(pu.toArray++vV).size) ((oP _ _ _ _ _).2 (by simp)) ?_ Fj agV ⟨?_,.inr (by simp)⟩
 ·rw[jm an,p1];rfl
 ·simp only[Array.size_append,List.size_toArray,ahx,r9,dG];rw[<- hm,<- Nat.add_mul];congr 1;omega
section
variable {o:Oper} {c2:gl} {a3:Nat} {bE:iN}
theorem S3 (h:c8 g s aF a w){t cF fu e:TypeId}{i:TypeInfo}{z:List aG}(hu:P.underlying t=some (.slice e))(ad:P.info? e=some i)(cD:sy P e=some z)(o2:z.length=i.size)(kN:i.size≠0)
 {y:aG} {gh:gl} {bK:List (List aG)} {ak:List Prop} (he:yp P i.size z s.a0 gh t cF y=some (bK,ak)) (bs : ∀p∈ak,p) {pa:Value} (aZ:Rel w (s.ok g aF w) s.bd (s.bk aF) y pa) :
 ∃fh vs,i.zero=some fh/\fh.cells.size=i.size/\MU P w t cF fu e i fh pa bK.length vs/\(∀x∈bK,x.length=i.size)/\vs.length=bK.length*i.size/\(∀u∈vs,u.oneCell'=true) /\
  ∀(j:Nat) x u,bK.flatten[j]? = some x->vs[j]? = some u->Rel w (s.ok g aF w) s.bd (s.bk aF) x u:=by
 obtain⟨fo,fh,lO,lN,sl,wT⟩:=Ef cD;rw[ad] at lO;simp at lO;subst lO;have m7:fh.cells.size=i.size:=by rw[<- o2,sl];simp
 unfold yp at he;split at he
 ·rename_i ahy
  subst ahy;obtain⟨A,c,rfl,hlen,Nk⟩:=TB h he bs aZ;rcases Nk with h0|⟨eT,off,rfl,jz⟩
  ·have:bK=[]:=List.length_eq_zero_iff.1 h0;subst this;exact⟨fh,[],lN,m7,Sv hu ad lN (by simp) (.inl rfl) (by simp),hlen,by simp,by simp,by simp⟩
  ·obtain⟨vs,v1,v2,v3,v4⟩:=jz.pu;exact⟨fh,vs,lN,m7,Sv hu ad lN v1 (.inr ⟨_,rfl,v2⟩) v3,hlen,v1,v3,v4⟩
 ·split at he
  ·rename_i k n aX
   simp only[dB,dD] at he;obtain⟨rfl,rfl⟩:=he;have h0:0<=n:=bs _ (by simp);have y0:n<9223372036854775808:=bs _ (by simp);obtain⟨m,rfl⟩:=Int.eq_ofNat_of_zero_le h0;have ahz:pa = .int .i64 m:=(by cases aZ;rfl);subst ahz;have nm : ∀(j:Nat) u,(Builtin.zeroCells fh.cells m).toList[j]? = some u->fh.cells[j % i.size]? = some u:=(by intro j u py;have au:=(List.getElem?_eq_some_iff.1 py).1;rw[Array.length_toList,size_zeroCells,m7] at au;have eA:j % i.size<fh.cells.size:=(by rw[m7];exact Nat.mod_lt _ (by omega));rw[Array.getElem?_toList,Builtin.zeroCells,Array.getElem?_map,m7,Array.getElem?_range] at py;rw[dw au] at py;simp only[Option.map_some,dB] at py;rw[<- py,Array.getElem?_eq_getElem eA,getElem!_pos fh.cells _ eA]);refine⟨fh,(Builtin.zeroCells fh.cells m).toList,lN,m7,?_,?_,?_,?_,?_⟩
   ·simp only[List.length_replicate,dx];refine acC hu aX ad lN m7 (by omega) fun u tH=> ?_;obtain⟨j,au⟩:=List.getElem?_of_mem tH;have h1:=nm j u au;have eA:j % i.size<z.length:=(by rw[o2];exact Nat.mod_lt _ (by omega));obtain⟨v,v1,v2,-⟩:=wT _ _ (dy eA);rw[h1] at v1;obtain rfl:=dI v1;exact v2
   ·intro x ab;rw[List.mem_replicate] at ab;rw[ab.2,o2]
   ·rw[Array.length_toList,size_zeroCells,m7];simp
   ·intro u tH;obtain⟨j,au⟩:=List.getElem?_of_mem tH;have h1:=nm j u au;have eA:j % i.size<z.length:=(by rw[o2];exact Nat.mod_lt _ (by omega));obtain⟨v,v1,v2,-⟩:=wT _ _ (dy eA);rw[h1] at v1;obtain rfl:=dI v1;exact v2
   ·intro j x u ab py
    rw[q5 (sz:=i.size) (by omega) _ (fun e5 nj=>by rw[List.mem_replicate] at nj;rw[nj.2,o2])] at ab;have h1:=nm j u py
    cases a4:(List.replicate (Int.toNat (m:Int)) z)[j / i.size]? with
    | none=>rw[a4] at ab;simp at ab
    | some e5 =>
     have:=dH a4;rw[List.mem_replicate] at this;rw[a4,this.2] at ab;simp only[dA] at ab;obtain⟨v,v1,-,v3⟩:=wT _ _ ab;rw[h1] at v1;obtain rfl:=dI v1;exact v3 _ _ _ _
  ·simp at he
theorem acD (h:c8 g s aF a w)(fF:s.a0 a3=none){x y:aG}{tT pa:Value}{t cF:TypeId}{m:Nat}{Oc:Option a1}{fu:TypeId}(aA:px P s.E s.a0 a3 .append [x,y] [t,cF] (.ay m Oc)=some bE)(cQ:∀p∈bE.f5,p)
 (ab:Rel w (s.ok g aF w) s.bd (s.bk aF) x tT) (aZ:Rel w (s.ok g aF w) s.bd (s.bk aF) y pa) :
 ∃v bT bX,(Builtin.append_ #[t,cF] fu #[tT,pa]).run P w = .ok v bT/\c8 g (s.je bE.gI) bX a bT/\Rel bT ((s.je bE.gI).ok g bX bT) (s.je bE.gI).bd ((s.je bE.gI).bk bX) bE.val v:=by
 simp only[px] at aA;split at aA
 ·simp at aA
 ·rename_i e he
  have hu:=uj he;split at aA
  ·rename_i i z ad cD
   split at aA
   ·simp at aA
   ·rename_i a2
    simp only[not_or,Decidable.not_not] at a2;obtain⟨o2,kN,Cu⟩:=a2;split at aA
    ·simp at aA
    ·rename_i bK bO tD
     have I7:=fun ag=>S3 (fu:=fu) h hu ad cD o2 kN tD ag aZ;by_cases afJ:True
     ·
      split at aA
      ·
       simp only[dB] at aA;subst aA;have hm:m=bK.length:=cQ _ (by simp);have FO:m*i.bytes<=140737488355328:=cQ _ (by simp);obtain⟨fh,vs,lN,m7,hA,hlen,v1,v3,v4⟩:=I7 (fun p ag=>cQ p (by simp[ag]));clear I7;rw[ab.rM];by_cases h0:bK.length=0
       ·have:bK=[]:=List.length_eq_zero_iff.1 h0;subst this;obtain⟨bX,p1,p2⟩:=h.Ud (sz:=i.size) fF;refine⟨_,w,bX,hA.zero h0 none 0 0 (dE _),p2,?_⟩;subst hm;have an:(s.setRow a3 [⟨i.size,[],.live⟩]).ak a3 0=some ⟨i.size,[],.live⟩:=(by rw[mT,dw rfl,nx];simp);exact .pd (sz:=i.size) ((oP _ _ _ _ _).2 (by simp)) (by show (s.setRow a3 [⟨i.size,[],.live⟩]).bk bX a3 0=_;rw[jm an,p1])
       ··have wU:bK.length*1<=bK.length*i.bytes:=Nat.mul_le_mul_left _ (by omega)
         rw[hm] at FO;have jW:=hA.nil (by omega) (by omega) (by omega);have Wd:=grownCap_ge w bK.length 0 e;have hle:=grownCap_le_maxLen w bK.length 0 e (by simp only[maxLen];omega);simp only[maxLen] at hle
         obtain⟨bX,q1,q2⟩:=KQ (e:=e) (i:=i) (m:=m) (pu:=vs) (vV:=Builtin.zeroCells fh.cells (grownCap w bK.length 0 e-bK.length)) (cap:=grownCap w bK.length 0 e) h fF hlen hm v1 v3
          (by rw[size_zeroCells,m7,hm]) (by omega) (by omega) v4 rfl
         refine⟨.slice (some ⟨w.heap.size,0,none⟩) m (grownCap w bK.length 0 e),_,bX,?_,q1,q2⟩;rw[hm];exact jW
      ·
       rename_i r k len;split at aA
       ·simp at aA
       ·rename_i row el
        split at aA
        ·simp at aA
        ·rename_i ak bs
         split at aA
         ·rename_i y1
          obtain⟨pz,fE,c9⟩:=y1;simp only[dB] at aA;subst aA;have an:s.ak r k=some ak:=(by unfold S.ak;rw[el];exact bs);have i6:len<=ak.es.length:=cQ _ (by simp);have hm:m=len+bK.length:=cQ _ (by simp);have FO:m*i.bytes<=140737488355328:=cQ _ (by simp);have wU:m*1<=m*i.bytes:=Nat.mul_le_mul_left _ (Nat.one_le_iff_ne_zero.2 Cu);obtain⟨fh,vs,lN,m7,hA,hlen,v1,v3,v4⟩:=I7 (fun p ag=>cQ p (by simp[ag]));clear I7;have akF:bK.length*i.bytes<=m*i.bytes:=dL _ (by omega);have fZ:=h.obj r k ak an;have Nl:(ak.es.take len).length=len:=(by simp;omega);have uy:(s.setRow a3 [⟨i.size,ak.es.take len++bK,.live⟩]).a0 r=some row:=(by simp[S.setRow,Ne.symm c9,el]);have sa : ∀bX:gb,((s.setRow a3 [⟨i.size,ak.es.take len++bK,.live⟩]).setRow r (row.set k {ak with cO:= .gone})).ak a3 0=some ⟨i.size,ak.es.take len++bK,.live⟩:=(by intro _;rw[mT,dz c9,mT,dw rfl,nx];simp);have Fm:((s.setRow a3 [⟨i.size,ak.es.take len++bK,.live⟩]).setRow r (row.set k {ak with cO:= .gone})).bd a3 0:=(by rw[oP,dz c9,oP,dw rfl];simp);show ∃v bT bX,_/\c8 g ((s.setRow a3 [⟨i.size,ak.es.take len++bK,.live⟩]).setRow r (row.set k {ak with cO:= .gone})) bX a bT/\_;rcases ab.x8 (jm an) with ⟨ag,-,rfl,rfl⟩|⟨b,M,hx,lB,ag,rfl,tF,vH,eu,nI⟩
          ·
           rw[ag] at fZ;simp only[ka] at fZ;have iH:ak.es.take 0++bK=bK:=(by simp);by_cases h0:bK.length=0
           ·have:bK=[]:=List.length_eq_zero_iff.1 h0;subst this;obtain⟨bX,p1,p2⟩:=h.Ud (sz:=i.size) fF;have sb:(s.setRow a3 [⟨i.size,[],.live⟩]).ak r k=some ak:=(by rw[mT,dz (Ne.symm c9)];exact an);have agr:(s.setRow a3 [⟨i.size,[],.live⟩]).a0 r=some row:=(by simp[S.setRow,Ne.symm c9,el]);obtain⟨uM,-⟩:=p2.gone agr sb;have Fo:ak.es.take 0++([]:List (List aG))=[]:=(by simp);rw[Fo];rw[Fo] at Fm sa;refine⟨_,w,bX,hA.zero h0 none 0 0 (dE _),uM,?_⟩;subst hm;exact .pd (sz:=i.size) Fm ((jm (sa bX)).trans (by rw[p1]))
           ··have lc:m=bK.length:=by omega
             have jW:=hA.nil (by omega) (by omega) (by omega);have Wd:=grownCap_ge w bK.length 0 e;have hle:=grownCap_le_maxLen w bK.length 0 e (by simp only[maxLen];omega);simp only[maxLen] at hle
             obtain⟨bX,q1,q2⟩:=KQ (e:=e) (i:=i) (m:=m) (pu:=vs) (vV:=Builtin.zeroCells fh.cells (grownCap w bK.length 0 e-bK.length)) (cap:=grownCap w bK.length 0 e) h fF hlen lc v1 v3
              (by rw[size_zeroCells,m7,lc]) (by omega) (by omega) v4 rfl
             rw[iH];rw[iH] at uy;have sb:(s.setRow a3 [⟨i.size,bK,.live⟩]).ak r k=some ak:=(by rw[mT,dz (Ne.symm c9)];exact an);obtain⟨uM,GB⟩:=q1.gone uy sb;refine⟨.slice (some ⟨w.heap.size,0,none⟩) m (grownCap w bK.length 0 e),_,bX,?_,uM,GB _ _ q2⟩;rw[lc];exact jW
          ·
           rw[ag] at fZ;have ags:=fZ;obtain⟨cI,nV,g1,g2,g3,g4⟩:=fZ
           have Fp : ∀e∈ak.es.take len++bK,e.length=i.size:=by
            intro e5 nj;rw[List.mem_append] at nj;rcases nj with cX|cX
            ·rw[g3 e5 (List.mem_of_mem_take cX),fE]
            ·exact hlen e5 cX
           have kP : ∀(es:List (List aG)),(∀e∈es,e.length=i.size)->es.flatten.length=es.length*i.size:=by
            intro es
            induction es with
            | nil=>intro _;simp
            | cons e es ih =>
             intro gL;rw[List.flatten_cons,dF,ih fun x ab=>gL x (by simp[ab]),gL e (by simp),List.length_cons,Nat.add_mul];omega
           by_cases h0:bK.length=0
           ·
            have:bK=[]:=List.length_eq_zero_iff.1 h0;subst this;have Fo:ak.es.take len++([]:List (List aG))=ak.es.take len:=(by simp);rw[Fo];rw[Fo] at Fm sa Fp
            obtain⟨bX,p1,p2⟩:=h.turn el an pz ag fF ⟨i.size,ak.es.take len,.live⟩ rfl cI nV g1 rfl (fun _ _=>rfl) rfl rfl rfl g2 Fp (fun j q a4=>by
             refine g4 j q ?_
             have au:j<(ak.es.take len).flatten.length:=by
              rcases Nat.lt_or_ge j (ak.es.take len).flatten.length with cX|cX
              ·exact cX
              ·rw[List.getElem?_eq_none cX] at a4;simp at a4
             have We:ak.es.flatten=(ak.es.take len).flatten++(ak.es.drop len).flatten:=(by rw[<- List.flatten_append,List.take_append_drop]);rw[We,List.getElem?_append_left au];exact a4)
            refine⟨_,w,bX,hA.zero h0 hx len lB tF,p2,?_⟩;have lc:m=len:=(by simpa using hm);subst lc;refine .bf (sz:=i.size) (eT:=b) (m:=M) Fm ((jm (sa bX)).trans (by rw[p1])) tF vH ?_;rw[<- fE];exact⟨eu,nI⟩
           ··
             have hold : ∃xs:List Value,xs.length=len*i.size/\(∀(j:Nat) u,xs[j]? = some u->w.cell? ((⟨b,0,none⟩:Addr).add j)=some u)/\(∀u∈xs,u.oneCell'=true) /\
              ∀(j:Nat) x u,(ak.es.take len).flatten[j]? = some x->xs[j]? = some u->Rel w (s.ok g aF w) s.bd (s.bk aF) x u:=by
              have VI:=Hh ags.rd 0 len (by omega);simp only[List.drop_zero,Nat.zero_mul,Nat.add_zero] at VI;obtain⟨xs,x1,x2,az,gi⟩:=VI.pu;exact⟨xs,by rw[x1,Nl,fE],x2,az,gi⟩
             obtain⟨xs,x1,x2,az,gi⟩:=hold;have ahA:xs.length=(ak.es.take len).length*i.size:=by rw[Nl];exact x1
             have Ue : ∀(j:Nat) x u,(ak.es.take len++bK).flatten[j]? = some x->(xs++vs)[j]? = some u->Rel w (s.ok g aF w) s.bd (s.bk aF) x u :=
              fun j x u ahB py=>aa5 ahA (fun e5 nj=>by rw[g3 e5 (List.mem_of_mem_take nj),fE]) ahB gi v4 py
             have Fq:(ak.es.take len++bK).length=m:=(by rw[dF,Nl];exact hm.symm);by_cases vq:len+bK.length<=lB
             ·
              rcases nI with rfl|rfl
              ·omega
              ·rw[Nat.zero_mul] at *
               rw[dG] at eu;have afK:len*i.size+vs.length<=cI.size:=(by rw[v1,g2,<- eu,fE,<- Nat.add_mul];exact dL _ vq);have jW:=hA.room (by omega) b len lB cI nV g1 vq afK (by omega);have agW:(w.setRow b (cI.toList.take (len*i.size)++vs++cI.toList.drop (len*i.size+vs.length)).toArray).heap.size=w.heap.size:=size_setRow _ _ _
               have Wf:xs=cI.toList.take (len*i.size):=by
                apply List.ext_getElem?;intro j;rw[List.getElem?_take];by_cases au:j<len*i.size
                ·rw[dw au];have uF:j<xs.length:=(by omega);have:=x2 j _ (dy uF);rw[tp,cell_of_row w b (0+j) cI nV (0,0) g1,dG] at this;rw[dy uF,<- this,Array.getElem?_toList]
                ·rw[dz au,List.getElem?_eq_none (by omega)]
               obtain⟨bX,p1,p2⟩:=h.turn el an pz ag fF ⟨i.size,ak.es.take len++bK,.live⟩ rfl _ nV (setRow_heap w b cI _ nV _ g1) agW (fun q a4=>setRow_other w b q _ a4) rfl rfl rfl
                (by rw[<- g2];simp;omega) Fp (fun j q a4=>by
                  have au:j<(xs++vs).length:=by
                   have:j<(ak.es.take len++bK).flatten.length:=by
                    rcases Nat.lt_or_ge j (ak.es.take len++bK).flatten.length with cX|cX
                    ·exact cX
                    ·rw[List.getElem?_eq_none cX] at a4;simp at a4
                   rw[kP _ Fp,Fq] at this;rw[dF,x1,v1,<- Nat.add_mul,<- hm];exact this
                  refine⟨(xs++vs)[j],?_,?_,Ue j q _ a4 (dy au)⟩
                  ·rw[List.getElem?_toArray,List.getElem?_append_left (by rw[<- Wf];exact au),<- Wf];exact dy au
                  ·have:=List.getElem_mem au
                   rw[List.mem_append] at this;rcases this with cX|cX
                   ·exact az _ cX
                   ·exact v3 _ cX)
               refine⟨_,_,bX,jW,p2,?_⟩;rw[<- hm];refine .bf (sz:=i.size) (eT:=b) (m:=M) Fm ((jm (sa bX)).trans (by rw[p1])) (by omega) vH ⟨?_,.inr (by simp)⟩;rw[dG,<- fE];exact eu
             ·
              have hA : ∃zp:Addr,(hx=some zp/\ ∀(j:Nat) u,xs[j]? = some u->w.cell? (zp.add j)=some u)\/(hx=none/\len=0/\lB=0):=by
               cases hx with
               | none =>
                refine⟨⟨0,0,none⟩,.inr ⟨rfl,?_⟩⟩;rcases nI with cX|cX
                ·omega
                ·simp at cX
               | some zp =>
                refine⟨zp,.inl ⟨rfl,?_⟩⟩;rcases nI with cX|cX
                ·have:len=0:=(by omega);have:xs=[]:=List.length_eq_zero_iff.1 (by rw[x1,this];simp);intro j u au;rw[this] at au;simp at au
                ·simp at cX;subst cX;exact x2
              have Wd:=grownCap_ge w (len+bK.length) lB e;have hle:=grownCap_le_maxLen w (len+bK.length) lB e (by simp only[maxLen];omega);simp only[maxLen] at hle
              have jW:(Builtin.append_ #[t,cF] fu #[.slice hx len lB,pa]).run P w = .ok (.slice (some ⟨w.heap.size,0,none⟩) (len+bK.length) (grownCap w (len+bK.length) lB e))
               (w.drew.alloc (.cells ((xs++vs).toArray++Builtin.zeroCells fh.cells (grownCap w (len+bK.length) lB e-(len+bK.length))) e)):=by
               have agX:(xs++vs).toArray=xs.toArray++vs.toArray:=(by apply Array.ext';simp);rw[agX];obtain⟨zp,⟨rfl,ahC⟩|⟨rfl,o3,nX⟩⟩:=hA
               ·exact hA.grow (by omega) zp len lB xs x1 ahC (by omega) (by omega) (growslice_fits (by omega) (by rw[<- hm];exact FO)) (by omega)
               ·subst o3;subst nX;have ahD:xs=[]:=List.length_eq_zero_iff.1 (by rw[x1];simp);subst ahD;have:=hA.nil (by omega) (by omega) (by omega);simpa using this
              obtain⟨bX,q1,q2⟩:=KQ (e:=e) (i:=i) (m:=m) (pu:=xs++vs) (vV:=Builtin.zeroCells fh.cells (grownCap w (len+bK.length) lB e-(len+bK.length))) (cap:=grownCap w (len+bK.length) lB e) h fF Fp Fq.symm
               (by rw[dF,x1,v1,Fq,hm,Nat.add_mul]) (fun u hu=>by
                 rw[List.mem_append] at hu;rcases hu with cX|cX
                 ·exact az _ cX
                 ·exact v3 _ cX) (by rw[size_zeroCells,m7,hm]) (by omega) (by omega) Ue rfl
              have sb:(s.setRow a3 [⟨i.size,ak.es.take len++bK,.live⟩]).ak r k=some ak:=(by rw[mT,dz (Ne.symm c9)];exact an);obtain⟨uM,GB⟩:=q1.gone uy sb;refine⟨.slice (some ⟨w.heap.size,0,none⟩) m (grownCap w (len+bK.length) lB e),_,bX,?_,uM,GB _ _ q2⟩;rw[hm];exact jW
         ·simp at aA
      ·simp at aA
     ·exact absurd trivial afJ
  ·simp at aA
end
end
section
variable {P:Program} {g:G} {s:S} {aF:gb} {a:Act} {w:World}
theorem Eo {sz:Nat}: ∀ {es:List (List aG)},(∀e∈es,e.length=sz)->es.flatten.length=es.length*sz
 | [],_=>by simp
 | e::es,h=>by rw[List.flatten_cons,dF,Eo fun x ab=>h x (by simp[ab]),h e (by simp),List.length_cons,Nat.add_mul];omega
theorem c8.putAt (h:c8 g s aF a w){r k p b M:Nat}{row:List a1}{ak:a1}(ai:s.a0 r=some row)(an:s.ak r k=some ak)(aX:ak.cO = .live)(m9:aF r k=some (b,M)){bK hB:List (List aG)}{vs:List Value}
 (hlen : ∀x∈bK,x.length=ak.sz) (v1:vs.length=bK.length*ak.sz) (v3 : ∀u∈vs,u.oneCell'=true) (v4 : ∀(j:Nat) x u,bK.flatten[j]? = some x->vs[j]? = some u->Rel w (s.ok g aF w) s.bd (s.bk aF) x u)
 (ag:p+bK.length<=ak.es.length) (q:Nat) (iH:hB=(ak.es.take p++bK++ak.es.drop (p+bK.length)).take q) :
 ∃cI nV,w.heap[b]? = some (.cells cI nV (0,0))/\cI.size=M/\ak.es.length*ak.sz<=M/\p*ak.sz+vs.length<=cI.size /\
  c8 g (s.setRow r (row.set k {ak with es:=hB})) aF a (w.setRow b (cI.toList.take (p*ak.sz)++vs++cI.toList.drop (p*ak.sz+vs.length)).toArray) /\
  ∀x v,Rel w (s.ok g aF w) s.bd (s.bk aF) x v->Rel (w.setRow b (cI.toList.take (p*ak.sz)++vs++cI.toList.drop (p*ak.sz+vs.length)).toArray) ((s.setRow r (row.set k {ak with es:=hB})).ok g aF (w.setRow b (cI.toList.take (p*ak.sz)++vs++cI.toList.drop (p*ak.sz+vs.length)).toArray)) (s.setRow r (row.set k {ak with es:=hB})).bd ((s.setRow r (row.set k {ak with es:=hB})).bk aF) x v:=by
 have fZ:=h.obj r k ak an;rw[m9] at fZ;obtain⟨cI,nV,g1,g2,g3,g4⟩:=fZ;have kP:=Eo g3
 have eu:ak.es.length*ak.sz<=M:=by
  rcases Nat.eq_zero_or_pos ak.es.flatten.length with h0|kN
  ·omega
  ·obtain⟨v,e1,-⟩:=g4 (ak.es.flatten.length-1) _ (dy (by omega));have:=(Array.getElem?_eq_some_iff.1 e1).1;omega
 have hmul:p*ak.sz+bK.length*ak.sz<=ak.es.length*ak.sz:=by rw[<- Nat.add_mul];exact dL _ ag
 have i6:p*ak.sz+vs.length<=cI.size:=by omega
 refine⟨cI,nV,g1,g2,eu,i6,?_⟩
 have agY : ∀e∈ak.es.take p++bK++ak.es.drop (p+bK.length),e.length=ak.sz:=by
  intro e he;simp only[List.mem_append] at he;rcases he with (he|he)|he
  ·exact g3 e (List.mem_of_mem_take he)
  ·exact hlen e he
  ·exact g3 e (List.mem_of_mem_drop he)
 have hA:(ak.es.take p).flatten.length=p*ak.sz:=by rw[Eo fun e he=>g3 e (List.mem_of_mem_take he),List.length_take];congr 1;omega
 have f6:(ak.es.take (p+bK.length)).flatten.length=p*ak.sz+bK.length*ak.sz:=by rw[Eo fun e he=>g3 e (List.mem_of_mem_take he),List.length_take,<- Nat.add_mul];congr 1;omega
 have aiZ:bK.flatten.length=bK.length*ak.sz:=Eo hlen
 have h1 : ∀j,j<p*ak.sz->(ak.es.take p).flatten[j]? = ak.es.flatten[j]? := fun j au=>by
  conv=>rhs;rw[<- List.take_append_drop p ak.es,List.flatten_append,List.getElem?_append_left (by omega)]
 have h2 : ∀j,(ak.es.drop (p+bK.length)).flatten[j]? = ak.es.flatten[p*ak.sz+bK.length*ak.sz+j]? := fun j=>by
  conv=>rhs;rw[<- List.take_append_drop (p+bK.length) ak.es,List.flatten_append,List.getElem?_append_right (by omega),f6]
  congr 1;omega
 refine h.write ai an aX m9 hB _ nV (setRow_heap w b cI _ nV _ g1) (size_setRow _ _ _) (fun q a4=>setRow_other w b q _ a4) rfl rfl rfl (by rw[<- g2];simp;omega) ?_ ?_
 ·intro e he;rw[iH] at he;exact agY e (List.mem_of_mem_take he)
 ·intro j x ab
  have ex:(ak.es.take p++bK++ak.es.drop (p+bK.length)).flatten[j]? = some x:=by
   rw[iH] at ab;have au:=(List.getElem?_eq_some_iff.1 ab).1
   conv=>lhs;rw[<- List.take_append_drop q (ak.es.take p++bK++ak.es.drop (p+bK.length)),List.flatten_append,List.getElem?_append_left au]
   exact ab
  rw[List.flatten_append,List.flatten_append] at ex;simp only[List.getElem?_toArray];have jD:(cI.toList.take (p*ak.sz)).length=p*ak.sz:=(by rw[List.length_take,Array.length_toList];omega);by_cases bl:j<p*ak.sz
  ·rw[List.append_assoc,List.getElem?_append_left (by omega),h1 j bl] at ex;obtain⟨v,e1,e2,bM⟩:=g4 j x ex;refine⟨v,?_,e2,bM⟩;rw[List.append_assoc,List.getElem?_append_left (by omega),List.getElem?_take,dw bl,Array.getElem?_toList];exact e1
  ·by_cases cr:j<p*ak.sz+vs.length
   ·rw[List.append_assoc,List.getElem?_append_right (by omega),hA,List.getElem?_append_left (by omega)] at ex;have bc:j-p*ak.sz<vs.length:=(by omega);refine⟨vs[j-p*ak.sz],?_,v3 _ (List.getElem_mem bc),v4 _ _ _ ex (dy bc)⟩;rw[List.append_assoc,List.getElem?_append_right (by omega),jD,List.getElem?_append_left (by omega)];exact dy bc
   ·rw[List.getElem?_append_right (by rw[dF];omega),dF,hA,aiZ,h2] at ex;rw[show p*ak.sz+bK.length*ak.sz+(j-(p*ak.sz+bK.length*ak.sz))=j by omega] at ex;obtain⟨v,e1,e2,bM⟩:=g4 j x ex;refine⟨v,?_,e2,bM⟩;rw[List.getElem?_append_right (by rw[dF];omega),dF,jD,List.getElem?_drop,Array.getElem?_toList];rw[show p*ak.sz+vs.length+(j-(p*ak.sz+vs.length))=j by omega];exact e1
end
section
variable {P:Program} {g:G} {s:S} {aF:gb} {a:Act} {w:World} {a3:Nat} {bE:iN}
theorem ae9 (h:c8 g s aF a w){x y:aG}{tT pa:Value}{t cF fu:TypeId}(aA:px P s.E s.a0 a3 .append [x,y] [t,cF] .ev=some bE)(cQ:∀p∈bE.f5,p)
 (ab:Rel w (s.ok g aF w) s.bd (s.bk aF) x tT) (aZ:Rel w (s.ok g aF w) s.bd (s.bk aF) y pa) :
 ∃v bT,(Builtin.append_ #[t,cF] fu #[tT,pa]).run P w = .ok v bT/\c8 g (s.je bE.gI) aF a bT/\Rel bT ((s.je bE.gI).ok g aF bT) (s.je bE.gI).bd ((s.je bE.gI).bk aF) bE.val v:=by
 simp only[px] at aA;split at aA
 ·simp at aA
 ·rename_i e he
  have hu:=uj he;split at aA
  ·rename_i i z ad cD
   split at aA
   ·simp at aA
   ·rename_i a2
    simp only[not_or,Decidable.not_not] at a2;obtain⟨o2,kN,Cu⟩:=a2;split at aA
    ·simp at aA
    ·rename_i bK bO tD
     split at aA
     ·rename_i r k len
      split at aA
      ·simp at aA
      ·rename_i row el
       split at aA
       ·simp at aA
       ·rename_i ak bs
        split at aA
        ·rename_i y1
         obtain⟨pz,fE⟩:=y1;simp only[dB] at aA;subst aA;have an:s.ak r k=some ak:=(by unfold S.ak;rw[el];exact bs);have i6:len+bK.length<=ak.es.length:=cQ _ (by simp);have FO:bK.length*i.bytes<=140737488355328:=cQ _ (by simp);obtain⟨fh,vs,lN,m7,hA,hlen,v1,v3,v4⟩:=S3 (fu:=fu) h hu ad cD o2 kN tD (fun p ag=>cQ p (by simp[ag])) aZ;rw[<- fE] at v1;have Vj : ∀x∈bK,x.length=ak.sz:=fun x ab=>by rw[hlen x ab,fE]
         have iH:ak.es.take len++bK=(ak.es.take len++bK++ak.es.drop (len+bK.length)).take (len+bK.length) :=
          (List.take_left' (by rw[dF,List.length_take];omega)).symm
         rcases ab.x8 (jm an) with ⟨ag,-,rfl,rfl⟩|⟨b,M,hx,lB,ag,rfl,tF,vH,eu,nI⟩
         ·have fZ:=h.obj r k ak an
          rw[ag] at fZ;simp only[ka] at fZ;rw[fZ] at i6;have h0:bK.length=0:=(by simp at i6;exact List.length_eq_zero_iff.2 i6);have y2:bK=[]:=List.length_eq_zero_iff.1 h0;subst y2
          have mC:row.set k {ak with es:=ak.es.take 0++[]}=row:=by
           have h1:({ak with es:=ak.es.take 0++[]}:a1)=ak:=(by cases ak;simp only[] at fZ;subst fZ;rfl);rw[h1]
           have h2:row[k]? = some ak:=by
            unfold eb at bs;simp only at bs;split at bs
            ·rename_i cn eH
             split at bs
             ·simp at bs
             ·simp at bs;rw[<- bs];exact eH
            ·simp at bs
           exact List.ext_getElem? fun j=>by
            rw[List.getElem?_set];split
            ·rename_i e;subst e;have:=(List.getElem?_eq_some_iff.1 h2).1;rw[dw this,h2]
            ·rfl
          refine⟨_,w,hA.zero h0 none 0 0 (dE _),?_⟩
          have eJ:s.setRow r row=s:=by
           have:(fun q=>if q=r then some row else s.a0 q)=s.a0:=by
            funext q;split
            ·rename_i e;rw[e,el]
            ·rfl
           show ({s with a0:=_}:S)=s;rw[this]
          show c8 g (s.setRow r (row.set k {ak with es:=ak.es.take 0++[]})) aF a w/\Rel w ((s.setRow r (row.set k {ak with es:=ak.es.take 0++[]})).ok g aF w) (s.setRow r (row.set k {ak with es:=ak.es.take 0++[]})).bd ((s.setRow r (row.set k {ak with es:=ak.es.take 0++[]})).bk aF) (.bf r k 0 0) (.slice none 0 0);rw[mC,eJ];exact⟨h,ab⟩
         ·obtain⟨cI,nV,bl,cr,ku,sm,ql,vW⟩:=h.putAt el an pz ag Vj v1 v3 v4 i6 (len+bK.length) iH
          have hle:ak.es.length<=lB:=(by rw[dG] at eu;rw[<- eu] at ku;exact Nat.le_of_mul_le_mul_right ku (by omega));by_cases nX:lB=0
          ·have h0:bK.length=0:=(by omega);have o3:len=0:=(by omega);subst o3;have y2:bK=[]:=List.length_eq_zero_iff.1 h0;subst y2;have Nm:vs=[]:=List.length_eq_zero_iff.1 (by simpa using v1);subst Nm;have hw:w.setRow b (cI.toList.take (0*ak.sz)++[]++cI.toList.drop (0*ak.sz+0)).toArray=w:=(by simp only[Nat.zero_mul,List.take_zero,List.nil_append,dG,List.drop_zero,Array.toArray_toList];exact setRow_self w b cI nV (0,0) bl);simp only[List.length_nil] at ql vW;rw[hw] at ql vW;exact⟨_,w,hA.zero h0 hx 0 lB (Nat.zero_le _),ql,vW _ _ ab⟩
          ·have FP:hx=some ⟨b,0,none⟩:=by
            rcases nI with cX|cX
            ·exact absurd cX nX
            ·simpa using cX
           subst FP;by_cases h0:bK.length=0
           ·have y2:bK=[]:=List.length_eq_zero_iff.1 h0;subst y2;have Nm:vs=[]:=List.length_eq_zero_iff.1 (by simpa using v1);subst Nm;have hw:w.setRow b (cI.toList.take (len*ak.sz)++[]++cI.toList.drop (len*ak.sz+0)).toArray=w:=(by simp only[List.append_nil,Nat.add_zero,List.take_append_drop,Array.toArray_toList];exact setRow_self w b cI nV (0,0) bl);simp only[List.length_nil] at ql vW;rw[hw] at ql vW;exact⟨_,w,hA.zero h0 _ len lB tF,ql,vW _ _ ab⟩
           ·have jW:=hA.room (by omega) b len lB cI nV bl (by omega) (by rw[<- fE];exact sm) FO;rw[<- fE] at jW;refine⟨_,_,jW,ql,?_⟩;have Fh:(s.setRow r (row.set k {ak with es:=ak.es.take len++bK})).ak r k=some {ak with es:=ak.es.take len++bK}:=(by rw[mT,dw rfl,Ty row k ak _ bs (by simp[pz]),dw rfl]);show Rel _ ((s.setRow r (row.set k {ak with es:=ak.es.take len++bK})).ok g aF _) (s.setRow r (row.set k {ak with es:=ak.es.take len++bK})).bd ((s.setRow r (row.set k {ak with es:=ak.es.take len++bK})).bk aF) (.bf r k 0 (len+bK.length)) _;refine .bf (sz:=ak.sz) (eT:=b) (m:=M) (HL Fh) ((jm Fh).trans (by rw[ag])) (by omega) vH ⟨eu,.inr (by simp)⟩
        ·simp at aA
     ·simp at aA
  ·simp at aA
end
section
variable {P:Program} {g:G} {s:S} {aF:gb} {a:Act} {w:World} {a3:Nat} {bE:iN}
theorem Sd {s:S}{r k:Nat}{row:List a1}{ak:a1}(ai:s.a0 r=some row)(an:eb (some row) k=some ak):s.setRow r (row.set k ak)=s:=by
 have h2:row[k]? = some ak:=by
  unfold eb at an;simp only at an;split at an
  ·rename_i cn eH
   split at an
   ·simp at an
   ·simp at an;rw[<- an];exact eH
  ·simp at an
 have R:row.set k ak=row:=List.ext_getElem? fun j=>by
  rw[List.getElem?_set];split
  ·rename_i e;subst e;have:=(List.getElem?_eq_some_iff.1 h2).1;rw[dw this,h2]
  ·rfl
 rw[R]
 have:(fun q=>if q=r then some row else s.a0 q)=s.a0:=by
  funext q;split
  ·rename_i e;rw[e,ai]
  ·rfl
 show ({s with a0:=_}:S)=s;rw[this]
theorem acE {e:TypeId}{i:TypeInfo}{z:List aG}{fh:Value}(m7:fh.cells.size=i.size)(o2:z.length=i.size)(kN:i.size≠0)
 (wT : ∀(j:Nat) x,z[j]? = some x-> ∃v,fh.cells[j]? = some v/\li v=true/\ ∀(w:World) (ok:Nat->Prop) (bd:ki) (bk:j3),Rel w ok bd bk x v) (m:Nat) :
 (Builtin.zeroCells fh.cells m).toList.length=m*i.size/\(∀u∈(Builtin.zeroCells fh.cells m).toList,u.oneCell'=true) /\
   ∀(j:Nat) x u,(List.replicate m z).flatten[j]? = some x->(Builtin.zeroCells fh.cells m).toList[j]? = some u-> ∀(w:World) (ok:Nat->Prop) (bd:ki) (bk:j3),Rel w ok bd bk x u:=by
 have nm : ∀(j:Nat) u,(Builtin.zeroCells fh.cells m).toList[j]? = some u->fh.cells[j % i.size]? = some u:=by intro j u py;have au:=(List.getElem?_eq_some_iff.1 py).1;rw[Array.length_toList,size_zeroCells,m7] at au;have eA:j % i.size<fh.cells.size:=(by rw[m7];exact Nat.mod_lt _ (by omega));rw[Array.getElem?_toList,Builtin.zeroCells,Array.getElem?_map,m7,Array.getElem?_range] at py;rw[dw au] at py;simp only[Option.map_some,dB] at py;rw[<- py,Array.getElem?_eq_getElem eA,getElem!_pos fh.cells _ eA]
 refine⟨?_,?_,?_⟩
 ·rw[Array.length_toList,size_zeroCells,m7]
 ·intro u tH;obtain⟨j,au⟩:=List.getElem?_of_mem tH;have h1:=nm j u au;have eA:j % i.size<z.length:=(by rw[o2];exact Nat.mod_lt _ (by omega));obtain⟨v,v1,v2,-⟩:=wT _ _ (dy eA);rw[h1] at v1;obtain rfl:=dI v1;exact v2
 ·intro j x u ab py
  rw[q5 (sz:=i.size) (by omega) _ (fun e5 nj=>by rw[List.mem_replicate] at nj;rw[nj.2,o2])] at ab;have h1:=nm j u py
  cases a4:(List.replicate m z)[j / i.size]? with
  | none=>rw[a4] at ab;simp at ab
  | some e5 =>
   have:=dH a4;rw[List.mem_replicate] at this;rw[a4,this.2] at ab;simp only[dA] at ab;obtain⟨v,v1,-,v3⟩:=wT _ _ ab;rw[h1] at v1;obtain rfl:=dI v1;exact v3
theorem aef (h:c8 g s aF a w){r k len:Nat}{y:aG}{tT pa:Value}{t cF fu:TypeId}{c2:gl}(aA:px P s.E s.a0 a3 .copy [.bf r k 0 len,y] [t,cF] c2=some bE)(cQ:∀p∈bE.f5,p)
 (ab:Rel w (s.ok g aF w) s.bd (s.bk aF) (.bf r k 0 len) tT) (aZ:Rel w (s.ok g aF w) s.bd (s.bk aF) y pa) :
 ∃n bT,(Builtin.copy_ #[t,cF] fu #[tT,pa]).run P w = .ok (goInt n) bT/\c8 g (s.je bE.gI) aF a bT/\bE.val = .n .i64 n:=by
 simp only[px] at aA;split at aA
 ·simp at aA
 ·rename_i e he
  have hu:=uj he;split at aA
  ·simp at aA
  ·rename_i i ad
   split at aA
   ·simp at aA
   ·rename_i bK bO tD
    split at aA
    ·simp at aA
    ·rename_i row el
     split at aA
     ·simp at aA
     ·rename_i ak bs
      split at aA
      ·rename_i y1
       obtain⟨pz,fE,kN⟩:=y1;simp only[dB] at aA;subst aA;have an:s.ak r k=some ak:=(by unfold S.ak;rw[el];exact bs);have i6:bK.length<=len:=cQ _ (by simp);have hle:len<=ak.es.length:=cQ _ (by simp);obtain⟨A,c,rfl,hlen,Nk⟩:=TB h tD (fun p ag=>cQ p (by simp[ag])) aZ;show ∃n bT,_/\c8 g (s.setRow r (row.set k {ak with es:=bK++ak.es.drop bK.length})) aF a bT/\_;by_cases h0:bK.length=0
       ·have y2:bK=[]:=List.length_eq_zero_iff.1 h0
        subst y2;refine⟨0,w,?_,?_,rfl⟩
        ·rcases ab.x8 (jm an) with ⟨-,-,rfl,rfl⟩|⟨b,M,hx,lB,-,rfl,-,-,-,-⟩
         ·cases A<;>simp[Builtin.copy_,run_underlying hu,sizeOf,typeInfo,ad,Builtin.lenOf,Builtin.firstCells,loadCells,loadCellsFrom]
         ·cases A<;>cases hx<;>simp[Builtin.copy_,run_underlying hu,sizeOf,typeInfo,ad,Builtin.lenOf,Builtin.firstCells,loadCells,loadCellsFrom,storeCells]
        ·rw[show ({ak with es:=[]++ak.es.drop ([]:List (List aG)).length}:a1)=ak from rfl,Sd el bs];exact h
       ·obtain⟨eT,off,rfl,jz⟩:=Nk.resolve_left h0
        obtain⟨vs,v1,v2,v3,v4⟩:=jz.pu;rw[<- fE] at v1;rcases ab.x8 (jm an) with ⟨-,-,rfl,-⟩|⟨b,M,hx,lB,ag,rfl,tF,vH,eu,nI⟩
        ·exact absurd (Nat.le_zero.1 i6) h0
        ·have FP:hx=some ⟨b,0,none⟩:=by
          rcases nI with cX|cX
          ·exact absurd (show bK.length=0 by omega) h0
          ·simpa using cX
         subst FP
         obtain⟨cI,nV,bl,cr,ku,sm,ql,-⟩:=h.putAt (p:=0) el an pz ag (fun x ab=>by rw[hlen x ab,fE]) v1 v3 v4 (by omega) ak.es.length (hB:=bK++ak.es.drop bK.length)
          (by rw[List.take_zero,List.nil_append,dG];exact(List.take_of_length_le (by simp;omega)).symm)
         simp only[Nat.zero_mul,dG,List.take_zero,List.nil_append] at sm ql;have aS:=run_firstCells_some (P:=P) w i.size bK.length ⟨eT,off,none⟩ bK.length c vs (by rw[v1,fE]) v2;have nG:=run_storeCells_at P b 0 nV vs 0 cI w bl (by simpa using sm) v3;simp only[Nat.add_zero,List.take_zero,List.nil_append,dG] at nG;refine⟨bK.length,_,?_,ql,rfl⟩;simp[Builtin.copy_,run_underlying hu,sizeOf,typeInfo,ad,Builtin.lenOf,Nat.min_eq_left i6,aS,nG]
      ·simp at aA
theorem adk (h:c8 g s aF a w){r k len:Nat}{tT:Value}{t fu:TypeId}{c2:gl}(aA:px P s.E s.a0 a3 .clear [.bf r k 0 len] [t] c2=some bE)(cQ:∀p∈bE.f5,p)
 (ab:Rel w (s.ok g aF w) s.bd (s.bk aF) (.bf r k 0 len) tT) :
 ∃bT,(Builtin.clear_ #[t] fu #[tT]).run P w = .ok (.tuple #[]) bT/\c8 g (s.je bE.gI) aF a bT/\bE.val = .dY []:=by
 simp only[px] at aA;split at aA
 ·simp at aA
 ·rename_i e he
  have hu:=uj he;split at aA
  ·rename_i i z ad cD
   split at aA
   ·simp at aA
   ·rename_i row el
    split at aA
    ·simp at aA
    ·rename_i ak bs
     split at aA
     ·rename_i y1
      obtain⟨pz,fE,o2,kN⟩:=y1;simp only[dB] at aA;subst aA;have an:s.ak r k=some ak:=(by unfold S.ak;rw[el];exact bs);have hle:ak.es.length=len:=cQ _ (by simp);show ∃bT,_/\c8 g (s.setRow r (row.set k {ak with es:=List.replicate len z})) aF a bT/\_;by_cases h0:len=0
      ·subst h0
       refine⟨w,?_,?_,rfl⟩
       ·rcases ab.x8 (jm an) with ⟨-,-,-,rfl⟩|⟨b,M,hx,lB,-,rfl,-,-,-,-⟩
        ·simp[Builtin.clear_,run_underlying hu]
        ·cases hx<;>simp[Builtin.clear_,run_underlying hu]
       ·rw[show ({ak with es:=List.replicate 0 z}:a1)=ak by rw[List.replicate_zero,<- List.length_eq_zero_iff.1 hle],Sd el bs];exact h
      ·obtain⟨fo,fh,lO,lN,sl,wT⟩:=Ef cD
       rw[ad] at lO;simp at lO;subst lO;have m7:fh.cells.size=i.size:=(by rw[<- o2,sl];simp);rcases ab.x8 (jm an) with ⟨-,-,rfl,-⟩|⟨b,M,hx,lB,ag,rfl,tF,vH,eu,nI⟩
       ·exact absurd rfl h0
       ·have FP:hx=some ⟨b,0,none⟩:=by
         rcases nI with cX|cX
         ·exact absurd (show len=0 by omega) h0
         ·simpa using cX
        subst FP;obtain⟨v1,v3,v4⟩:=acE (e:=e) m7 o2 kN wT len;rw[<- fE] at v1
        obtain⟨cI,nV,bl,cr,ku,sm,ql,-⟩:=h.putAt (p:=0) (bK:=List.replicate len z) el an pz ag (fun x ab=>by rw[List.mem_replicate] at ab;rw[ab.2,o2,fE]) (by simpa using v1) v3 (fun j x u h1 h2=>v4 j x u h1 h2 _ _ _ _)
         (by simp;omega) len (hB:=List.replicate len z)
         (by simp[hle])
        simp only[Nat.zero_mul,dG,List.take_zero,List.nil_append] at sm ql;have nG:=run_storeCells_at P b 0 nV (Builtin.zeroCells fh.cells len).toList 0 cI w bl (by simpa using sm) v3;simp only[Nat.add_zero,List.take_zero,List.nil_append,dG] at nG;refine⟨_,?_,ql,rfl⟩
        cases len with
        | zero=>exact absurd rfl h0
        | succ n=>simp[Builtin.clear_,run_underlying hu,zeroValue,typeInfo,ad,lN,nG]
     ·simp at aA
  ·simp at aA
end
section
variable {g:G} {s:S} {aF:gb} {a:Act} {w:World}
def nd (row:List a1):List a1:=row.map fun o=>if o.cO = .live then {o with cO:= .jX} else o
theorem TC (row:List a1)(k:Nat):eb (some (nd row)) k=(eb (some row) k).map fun o=>if o.cO = .live then {o with cO:= .jX} else o:=by
 simp only[eb,nd,dJ]
 cases row[k]? with
 | none=>rfl
 | some o =>
  obtain⟨sz,es,cO⟩:=o;cases cO<;>simp
theorem c8.freeze (h:c8 g s aF a w){r:Nat}{row:List a1}(ai:s.a0 r=some row):c8 g (s.setRow r (nd row)) aF a w:=by
 have bs : ∀q k o,(s.setRow r (nd row)).ak q k=some o-> ∃p,s.ak q k=some p/\o.sz=p.sz/\o.es=p.es/\(o.cO = .live->p.cO = .live/\q≠r):=by
  intro q k o an;by_cases e:q=r
  ·subst e;have:(s.setRow q (nd row)).a0 q=some (nd row):=(by simp[S.setRow]);unfold S.ak at an;rw[this,TC] at an;rw[Option.map_eq_some_iff] at an;obtain⟨p,ag,rfl⟩:=an;refine⟨p,by unfold S.ak;rw[ai];exact ag,?_⟩;split<;>simp_all
  ·have:(s.setRow r (nd row)).a0 q=s.a0 q:=(by simp[S.setRow,e]);unfold S.ak at an;rw[this] at an;exact⟨o,an,rfl,rfl,fun aS=>⟨aS,e⟩⟩
 have ko : ∀q k,s.bd q k->(s.setRow r (nd row)).bd q k:=Hg s ai (by simp[nd])
 have mE : ∀q k,(s.setRow r (nd row)).bk aF q k=s.bk aF q k:=by
  intro q k;by_cases e:q=r
  ·subst e
   simp only[S.bk,S.ak];have:(s.setRow q (nd row)).a0 q=some (nd row):=(by simp[S.setRow]);rw[this,TC,ai]
   cases eb (some row) k with
   | none=>rfl
   | some o=>simp only[Option.map_some,dB,dD,and_true];split<;>rfl
  ·have:(s.setRow r (nd row)).a0 q=s.a0 q:=(by simp[S.setRow,e]);simp[S.bk,S.ak,this]
 have cZ:Step g s aF w (s.setRow r (nd row)) aF w:=⟨ko,fun q k _=> .inl (mE q k),fun b aS=>by obtain⟨q,k,o,m,h1,h2,R⟩:=aS;obtain⟨p,p1,p2,uM,GB⟩:=bs q k o h1;exact .inl ⟨q,k,p,m,p1,(GB h2).1,R⟩,fun _ _ _=>rfl,dE _⟩;refine {tojq:=⟨?_,?_,?_,h.hY,h.mlt,h.o0,?_,h.low⟩,env:=fun t=>cZ.rel (h.env t),defers:=h.defers,kO:=h.kO}
 ·intro q k o an
  obtain⟨p,p1,p2,uM,-⟩:=bs q k o an;have ag:=cZ.obj (fun b m _=>rfl) (h.obj q k p p1)
  cases m9:aF q k with
  | none=>rw[m9] at ag;simp only[ka] at ag ⊢;rw[uM];exact ag
  | some x =>
   obtain⟨b,m⟩:=x;rw[m9] at ag;obtain⟨c,fu,e1,e2,bM,db⟩:=ag;exact⟨c,fu,e1,e2,by rw[p2,uM];exact bM,by rw[uM];exact db⟩
 ·intro q k o iO ey cn b m aI h1 h2 R ah;obtain⟨p,p1,-⟩:=bs q k o h1;obtain⟨lp,ahE,-⟩:=bs iO ey cn h2;exact h.inj q k p iO ey lp b m aI p1 ahE R ah
 ·intro q k o b m h1 h2;obtain⟨p,p1,-⟩:=bs q k o h1;exact h.own q k p b m p1 h2
 ·intro j k au;obtain⟨e1,e2⟩:=h.stay j k au;exact⟨ko j k e1,by rw[mE];exact e2⟩
end
def B1 (P:Program)(t:TypeId):Bool :=
 match P.underlying t with
 | some (.pointer _)=>true
 | _=>false
def CB (P:Program)(E:Nat->aG)(a0:Nat->Option (List a1))(a3:Nat)(o:Oper)(c2:gl):Option iN :=
 match o.op with
 | .call {callee:= .builtin b,args,argTypes}=>match b with
  | .len=>fC P E a0 a3 o c2
  | b=>px P E a0 a3 b (args.toList.map (fx E)) argTypes.toList c2
 | .binOp op t x y _=>match c2,op,fx E x,fx E y with
  | .ev,.eql,.isl _ es,.fy=>if (rV P t).isSome then some {val:= .b false,f5:=[es≠[]]} else none
  | .ev,.neq,.isl _ es,.fy=>if (rV P t).isSome then some {val:= .b true,f5:=[es≠[]]} else none
  | .ev,.eql,.gr _ none,.jo=>if B1 P t then some {val:= .b true} else none
  | .ev,.neq,.gr _ none,.jo=>if B1 P t then some {val:= .b false} else none
  | .ev,.eql,.gr _ (some _),.jo=>if B1 P t then some {val:= .b false} else none
  | .ev,.neq,.gr _ (some _),.jo=>if B1 P t then some {val:= .b true} else none
  | .ev,_,_,_=>none
  | _,_,_,_=>fC P E a0 a3 o c2
 | .nilCheck x=>match c2,fx E x with
  | .ev,.gr sz (some c)=>some {val:= .fB sz [c] 0 0}
  | .ev,_=>none
  | _,_=>fC P E a0 a3 o c2
 | _=>fC P E a0 a3 o c2
section
variable {P:Program} {g:G} {s:S} {aF:gb} {a:Act} {w:World} {o:Oper} {c2:gl} {a3:Nat} {bE:iN}
theorem H2 {args:Array Operand}{E:Nat->aG}{x y:aG}(h:args.toList.map (fx E)=[x,y]): ∃p q,args = #[p,q]/\fx E p=x/\fx E q=y:=by
 obtain⟨l⟩:=args
 match l,h with
 | [p,q],h=>simp at h;exact⟨p,q,rfl,h.1,h.2⟩
theorem afa {args:Array Operand}{E:Nat->aG}{x:aG}(h:args.toList.map (fx E)=[x]): ∃p,args = #[p]/\fx E p=x:=by
 obtain⟨l⟩:=args
 match l,h with
 | [p],h=>simp at h;exact⟨p,rfl,h⟩
theorem HB {t:TypeId}(h:B1 P t=true): ∃e,P.underlying t=some (.pointer e):=by
 unfold B1 at h;split at h
 ·rename_i e he;exact⟨e,he⟩
 ·simp at h
theorem adl (h:c8 g s aF a w)(fF:s.a0 a3=none)(aA:CB P s.E s.a0 a3 o c2=some bE)(cQ:∀p∈bE.f5,p):Fin P g s a w o bE:=by
 unfold CB at aA;split at aA
 ·rename_i b args ov an
  split at aA
  ·exact HA h fF aA cQ
  ·rename_i b aU
   unfold px at aA;split at aA
   ·rename_i x y t cF m Oc hargs pZ;have yE:px P s.E s.a0 a3 .append [x,y] [t,cF] (.ay m Oc)=some bE:=aA;obtain⟨p,q,rfl,rfl,rfl⟩:=H2 hargs;obtain⟨l⟩:=ov;simp only at pZ;subst pZ;obtain⟨v,bT,bX,h1,h2,R⟩:=acD (fu:=o.type) h fF yE cQ (h.eval p) (h.eval q);exact⟨v,bT,bX,.inl (by simp[execOp,an,resolve,invoke,builtin,h1]),h2,R⟩
   ·rename_i x y t cF hargs pZ;have yE:px P s.E s.a0 a3 .append [x,y] [t,cF] .ev=some bE:=aA;obtain⟨p,q,rfl,rfl,rfl⟩:=H2 hargs;obtain⟨l⟩:=ov;simp only at pZ;subst pZ;obtain⟨v,bT,h1,h2,R⟩:=ae9 (fu:=o.type) h yE cQ (h.eval p) (h.eval q);exact⟨v,bT,aF,.inl (by simp[execOp,an,resolve,invoke,builtin,h1]),h2,R⟩
   ·rename_i c2 r k len y t cF hargs pZ;have yE:px P s.E s.a0 a3 .copy [.bf r k 0 len,y] [t,cF] c2=some bE:=aA;obtain⟨p,q,rfl,ag,rfl⟩:=H2 hargs;obtain⟨l⟩:=ov;simp only at pZ;subst pZ;have ab:=h.eval p;rw[ag] at ab;obtain⟨n,bT,h1,h2,R⟩:=aef (fu:=o.type) h yE cQ ab (h.eval q);refine⟨goInt n,bT,aF,.inl (by simp[execOp,an,resolve,invoke,builtin,h1]),h2,?_⟩;rw[R];exact .n _ _
   ·rename_i c2 r k len t hargs pZ;have yE:px P s.E s.a0 a3 .clear [.bf r k 0 len] [t] c2=some bE:=aA;obtain⟨p,rfl,ag⟩:=afa hargs;obtain⟨l⟩:=ov;simp only at pZ;subst pZ;have ab:=h.eval p;rw[ag] at ab;obtain⟨bT,h1,h2,R⟩:=adk (fu:=o.type) h yE cQ ab;refine⟨.tuple #[],bT,aF,.inl (by simp[execOp,an,resolve,invoke,builtin,h1]),h2,?_⟩;rw[R];exact .dY [] rfl (fun j x u au=>by simp at au)
   ·rename_i k x ey y hargs
    split at aA
    ·rename_i aX;simp only[dB] at aA;subst aA;subst aX;obtain⟨p,q,rfl,ag,a4⟩:=H2 hargs;have ab:=h.eval p;have aZ:=h.eval q;rw[ag] at ab;rw[a4] at aZ;refine jc (v:= .int k (if y<x then y else x)) h ?_ rfl (.n _ _);simp[execOp,an,resolve,invoke,builtin,Builtin.min_,ab.pW,aZ.pW,Builtin.min2]
    ·simp at aA
   ·simp at aA
 ·rename_i op t x y cF an
  split at aA
  ·rename_i sz es ab aZ
   split at aA
   ·rename_i he;obtain⟨e,he⟩:=Option.isSome_iff_exists.1 he;simp only[dB] at aA;subst aA;have h1:=h.eval x;have h2:=h.eval y;rw[ab] at h1;rw[aZ] at h2;have c9:es≠[]:=cQ _ (by simp);refine jc (v:= .bool false) h ?_ rfl (.b _);simp only[execOp,an];rw[Sem.run_bind,(UO (w:=w) (uj he) c9 h1 h2 x y).1];rfl
   ·simp at aA
  ·rename_i sz es ab aZ
   split at aA
   ·rename_i he;obtain⟨e,he⟩:=Option.isSome_iff_exists.1 he;simp only[dB] at aA;subst aA;have h1:=h.eval x;have h2:=h.eval y;rw[ab] at h1;rw[aZ] at h2;have c9:es≠[]:=cQ _ (by simp);refine jc (v:= .bool true) h ?_ rfl (.b _);simp only[execOp,an];rw[Sem.run_bind,(UO (w:=w) (uj he) c9 h1 h2 x y).2];rfl
   ·simp at aA
  ·rename_i sz ab aZ
   split at aA
   ·rename_i cj;obtain⟨e,he⟩:=HB cj;simp only[dB] at aA;subst aA;have h1:=h.eval x;have h2:=h.eval y;rw[ab] at h1;rw[aZ] at h2;have s0:Rel w (s.ok g aF w) s.bd (s.bk aF) .jo (a.eval x):=(by rw[h1.Tz];exact .jo);refine jc (v:= .bool true) h ?_ rfl (.b _);simp only[execOp,an];rw[Sem.run_bind,(BK (w:=w) (r:=true) (by simp[uD,he]) s0 h2 x y).1];rfl
   ·simp at aA
  ·rename_i sz ab aZ
   split at aA
   ·rename_i cj;obtain⟨e,he⟩:=HB cj;simp only[dB] at aA;subst aA;have h1:=h.eval x;have h2:=h.eval y;rw[ab] at h1;rw[aZ] at h2;have s0:Rel w (s.ok g aF w) s.bd (s.bk aF) .jo (a.eval x):=(by rw[h1.Tz];exact .jo);refine jc (v:= .bool false) h ?_ rfl (.b _);simp only[execOp,an];rw[Sem.run_bind,(BK (w:=w) (r:=true) (by simp[uD,he]) s0 h2 x y).2];rfl
   ·simp at aA
  ·rename_i sz c ab aZ
   split at aA
   ·rename_i cj;obtain⟨e,he⟩:=HB cj;simp only[dB] at aA;subst aA;have h1:=h.eval x;have h2:=h.eval y;rw[ab] at h1;rw[aZ] at h2;refine jc (v:= .bool false) h ?_ rfl (.b _);simp only[execOp,an];rw[Sem.run_bind,(BK (w:=w) (r:=false) (by simp[uD,he]) h1.LM h2 x y).1];rfl
   ·simp at aA
  ·rename_i sz c ab aZ
   split at aA
   ·rename_i cj;obtain⟨e,he⟩:=HB cj;simp only[dB] at aA;subst aA;have h1:=h.eval x;have h2:=h.eval y;rw[ab] at h1;rw[aZ] at h2;refine jc (v:= .bool true) h ?_ rfl (.b _);simp only[execOp,an];rw[Sem.run_bind,(BK (w:=w) (r:=false) (by simp[uD,he]) h1.LM h2 x y).2];rfl
   ·simp at aA
  ·simp at aA
  ·exact HA h fF aA cQ
 ·rename_i x an
  split at aA
  ·rename_i sz c ab;simp only[dB] at aA;subst aA;have h1:=h.eval x;rw[ab] at h1;have h2:=h1.LM;obtain⟨eT,off,aU,hval,jz⟩:=h2.BR;refine jc (v:=a.eval x) h ?_ rfl h2;rw[hval];simp only[execOp,an,hval];rfl
  ·simp at aA
  ·exact HA h fF aA cQ
 ·exact HA h fF aA cQ
end
theorem u2 {es:List (List aG)}{j:Nat}{x:aG}(h:es.flatten[j]? = some x): ∃e∈es,x∈e:=by have:=dH h;rw[List.mem_flatten] at this;obtain⟨e,he,ab⟩:=this;exact⟨e,he,ab⟩
theorem Rel.pure {w:World}{ok l6:Nat->Prop}{bd ot:ki}{bk nE:j3}{x:aG}{v:Value}(h:Rel w ok bd bk x v)(ag:Pure x)(ou:∀b,ok b->l6 b):Rel w l6 ot nE x v:=by
 induction h with
 | dead v=>exact .dead v
 | b x=>exact .b x
 | n k x=>exact .n k x
 | s x=>exact .s x
 | jo=>exact .jo
 | fy=>exact .fy
 | jy a c=>exact .jy a c
 | rN=>cases ag
 | ref=>cases ag
 | oS=>cases ag
 | pd=>cases ag
 | bf=>cases ag
 | oi=>cases ag
 | ps=>cases ag
 | la sz a c h=>exact .la sz a c h
 | isl cs aU ml aS a2 hw jD ai ih =>
  cases ag with
  | isl h=>exact .isl cs (ou _ aU) ml aS a2 hw jD fun j x ab=>ih j x ab (by obtain⟨e,he,s3⟩:=u2 ab;exact h e he x s3)
 | fB cs aU ml aS hw jD ai ih =>
  cases ag with
  | fB h=>exact .fB cs (ou _ aU) ml aS hw jD fun j x ab=>ih j x ab (by obtain⟨e,he,s3⟩:=u2 ab;exact h e he x s3)
 | rn sz=>exact .rn sz
 | qF h ih =>
  cases ag with
  | qF ag=>exact .qF (ih (.fB fun e he x ab=>by rw[List.mem_singleton] at he;subst he;exact ag x ab))
 | agg vs aS jD ai ih =>
  cases ag with
  | agg h=>exact .agg vs aS jD fun j x v ab bc=>ih j x v ab bc (h x (dH ab))
 | dY vs aS ai ih =>
  cases ag with
  | dY h=>exact .dY vs aS fun j x v ab bc=>ih j x v ab bc (h x (dH ab))
 | fn vs aS ai ih =>
  cases ag with
  | fn h=>exact .fn vs aS fun j x v ab bc=>ih j x v ab bc (h x (dH ab))
abbrev hR:=Nat->Nat->Option (Nat×Nat)
structure Down (q:aG->Prop):Prop where
 agg : ∀c x,q (.agg c)->x∈c->q x
 dY : ∀c x,q (.dY c)->x∈c->q x
 fn : ∀f c x,q (.fn f c)->x∈c->q x
inductive iQ (s:S) (a6:hR) (bL:hi->Bool) (q:aG->Prop):aG->aG->Prop
 | dead (x:aG):iQ s a6 bL q x .dead
 | pure {x:aG} (h:Pure x) (a4:q x):iQ s a6 bL q x x
 | fy (sz:Nat):iQ s a6 bL q .fy (.isl sz [])
 | jy (sz:Nat):iQ s a6 bL q .jy (.isl sz [])
 | Iw (sz:Nat):iQ s a6 bL q .jo (.gr sz none)
 | gr {sz:Nat} {x:aG} {c:List aG} (h:iQ s a6 bL q x (.fB sz [c] 0 0)):iQ s a6 bL q x (.gr sz (some c))
 | ref {r k j fo:Nat} (i off:Nat) (h:a6 j fo=some (r,k)) (hu:s.bd r k):iQ s a6 bL q (.ref r k i off) (.ref j fo i off)
 | bf {r k j fo:Nat} (bW len:Nat) (h:a6 j fo=some (r,k)) (hu:s.bd r k):iQ s a6 bL q (.bf r k bW len) (.bf j fo bW len)
 | oi (r c sz:Nat):iQ s a6 bL q (.jP r c sz none) (.isl sz [])
 | ps {r c sz k n:Nat} {c7:aG} (h:iQ s a6 bL q (.bf r (k+c) 0 n) c7):iQ s a6 bL q (.jP r c sz (some (k,n))) c7
 | jP {r fv c eG sz:Nat} (h:Option (Nat×Nat)) (hm : ∀k,a6 fv (k+eG)=some (r,k+c)):iQ s a6 bL q (.jP r c sz h) (.jP fv eG sz h)
 | fB {r k:Nat} {o:a1} {hB:List (List aG)} (i off:Nat) (an:s.ak r k=some o) (bG:bL o.cO=true) (ai:(∀j i,a6 j i≠some (r,k))) (c9:o.es≠[]) (ag:jk hB) (hle : ∀e∈hB,e.length=o.sz) (aS:hB.length=o.es.length)
  (h : ∀(j:Nat) x c7,o.es.flatten[j]? = some x->hB.flatten[j]? = some c7->iQ s a6 bL q x c7):iQ s a6 bL q (.ref r k i off) (.fB o.sz hB i off)
 | isl {r k bW len:Nat} {o:a1} {hB:List (List aG)} (an:s.ak r k=some o) (bG:bL o.cO=true) (ai:(∀j i,a6 j i≠some (r,k))) (i6:bW+len<=o.es.length) (ag:jk hB) (hle : ∀e∈hB,e.length=o.sz) (aS:hB.length=len)
  (h : ∀(j:Nat) x c7,((o.es.drop bW).take len).flatten[j]? = some x->hB.flatten[j]? = some c7->iQ s a6 bL q x c7):iQ s a6 bL q (.bf r k bW len) (.isl o.sz hB)
 | agg {c eG:List aG} (aS:eG.length=c.length) (h : ∀(j:Nat) x c7,c[j]? = some x->eG[j]? = some c7->iQ s a6 bL q x c7):iQ s a6 bL q (.agg c) (.agg eG)
 | dY {c eG:List aG} (aS:eG.length=c.length) (h : ∀(j:Nat) x c7,c[j]? = some x->eG[j]? = some c7->iQ s a6 bL q x c7):iQ s a6 bL q (.dY c) (.dY eG)
 | fn {f:Nat} {c eG:List aG} (aS:eG.length=c.length) (h : ∀(j:Nat) x c7,c[j]? = some x->eG[j]? = some c7->iQ s a6 bL q x c7):iQ s a6 bL q (.fn f c) (.fn f eG)
theorem t8 {sz:Nat}: ∀(es:List (List aG)),(∀e∈es,e.length=sz)->es.flatten.length=es.length*sz
 | [],_=>by simp
 | e::es,h=>by rw[List.flatten_cons,dF,t8 es fun x ab=>h x (by simp[ab]),h e (by simp),List.length_cons,Nat.add_mul];omega
theorem gF {α:Type}{l:List α}{j:Nat}{x:α}(h:l[j]? = some x):j<l.length:=by
 rcases Nat.lt_or_ge j l.length with cX|cX
 ·exact cX
 ·rw[List.getElem?_eq_none cX] at h;simp at h
theorem iQ.rel {g:G}{s:S}{aF:gb}{w:World}{a6:hR}{bL:hi->Bool}{q:aG->Prop}(eu:jq g s aF w){l6:Nat->Prop}{ot:ki}{nE:j3}
 (H1 : ∀x v,q x->Pure x->Rel w (s.ok g aF w) s.bd (s.bk aF) x v->Rel w l6 ot nE x v)
 (JA : ∀r k o b m,s.ak r k=some o->bL o.cO=true->(∀j i,a6 j i≠some (r,k))->aF r k=some (b,m)->l6 b)
 (GC : ∀j i r k,a6 j i=some (r,k)->s.bd r k->ot j i/\(nE j i=s.bk aF r k\/nE j i=none)) {x c7:aG} (bJ:iQ s a6 bL q x c7) :
 ∀ {v:Value},Rel w (s.ok g aF w) s.bd (s.bk aF) x v->Rel w l6 ot nE c7 v:=by
 induction bJ with
 | dead x=>intro v _;exact .dead v
 | pure ag a4=>intro v ai;exact H1 _ v a4 ag ai
 | fy sz=>intro v ai;rw[ai.rM];exact .la sz none 0 (fun _=>rfl)
 | jy sz=>intro v ai;obtain⟨a,c,rfl⟩:=ai.HZ;exact .la sz (some a) c (fun h=>by simp at h)
 | Iw sz=>intro v ai;rw[ai.x7];exact .rn sz
 | gr h ih=>intro v ai;exact .qF (ih ai)
 | @ref r k j fo i off au hu =>
  intro v ai;obtain⟨h1,h2⟩:=GC j fo r k au hu
  cases ai with
  | rN a p9 aV =>
   refine .rN a h1 fun sz p=> ?_;rcases h2 with e|e<;>rw[e]
   ·exact aV sz p
   ·simp
  | ref p9 cj =>
   rcases h2 with e|e
   ·exact .ref h1 (e.trans cj)
   ·exact .rN _ h1 fun sz p=>by rw[e];simp
 | @bf r k j fo bW len au hu =>
  intro v ai;obtain⟨h1,h2⟩:=GC j fo r k au hu
  cases ai with
  | oS a l c p9 aV =>
   refine .oS a l c h1 ?_;rcases h2 with e|e<;>rw[e];exact aV
  | pd p9 cj =>
   rcases h2 with e|e
   ·exact .pd h1 (e.trans cj)
   ·exact .oS _ _ _ h1 e
  | bf p9 cj aS a2 hm =>
   rcases h2 with e|e
   ·exact .bf h1 (e.trans cj) aS a2 hm
   ·exact .oS _ _ _ h1 e
 | oi r c sz =>
  intro v ai
  cases ai with
  | oi h0 =>
   rcases h0.vj with ⟨-,a,c,rfl,bG⟩|⟨eT,off,c,-,rfl,-⟩
   ·exact .la sz a c bG
   ·exact .la sz _ c (fun h=>by simp at h)
 | ps h ih =>
  intro v ai
  cases ai with
  | ps h0=>exact ih h0
 | @jP r fv c eG sz h hm =>
  intro v ai
  cases ai with
  | oi h0 =>
   rcases h0.vj with ⟨-,a,c,rfl,bG⟩|⟨eT,off,c,-,rfl,-⟩
   ·exact .oi (.la sz a c bG)
   ·exact .oi (.la sz _ c (fun h=>by simp at h))
  | @ps _ _ _ k n _ h0 =>
   refine .ps ?_
   cases h0 with
   | oS a l bl p9 aV =>
    obtain⟨h1,h2⟩:=GC _ _ _ _ (hm k) p9;refine .oS a l bl h1 ?_;rcases h2 with e|e<;>rw[e];exact aV
   | pd p9 cj =>
    obtain⟨h1,h2⟩:=GC _ _ _ _ (hm k) p9;rcases h2 with e|e
    ·exact .pd h1 (e.trans cj)
    ·exact .oS _ _ _ h1 e
   | bf p9 cj aS a2 nI =>
    obtain⟨h1,h2⟩:=GC _ _ _ _ (hm k) p9;rcases h2 with e|e
    ·exact .bf h1 (e.trans cj) aS a2 nI
    ·exact .oS _ _ _ h1 e
 | @fB r k o hB i off an bG ai c9 Nn hle aS h ih =>
  intro v bc;have fZ:=eu.obj r k o an;rcases bc.yh (jm an) with h0|⟨b,m,ag,hval⟩
  ·rw[h0] at fZ;exact absurd fZ c9
  ·rw[ag] at fZ;have jz:=fZ.rd;rw[hval];have kP:hB.flatten.length=o.es.flatten.length:=(by rw[t8 hB hle,t8 o.es jz.1,aS]);have yT:qk w l6 ot nE b 0 o.sz hB:=(by refine⟨hle,fun j c7 ex=> ?_⟩;have eA:j<o.es.flatten.length:=(by rw[<- kP];exact gF ex);have ab:o.es.flatten[j]? = some o.es.flatten[j]:=dy eA;obtain⟨u,e1,e2,bM⟩:=jz.2 j _ ab;exact⟨u,e1,e2,ih j _ c7 ab ex bM⟩);have:=yT.fB (i:=i) (off:=off) ⟨JA r k o b m an bG ai ag,Nn⟩;rw[dG] at this;exact this
 | @isl r k bW len o hB an bG ai i6 Nn hle aS h ih =>
  intro v bc;have fZ:=eu.obj r k o an;rcases bc.Ex (jm an) with ⟨ag,rfl,rfl,hval⟩|⟨b,m,A,c,ag,hval,tF,vH,hm⟩
  ·have:hB=[]:=List.length_eq_zero_iff.1 aS;subst this;rw[hval];exact .la _ none 0 (fun _=>rfl)
  ·rw[ag] at fZ
   rw[hval];rcases Nat.eq_zero_or_pos len with h0|kN
   ·subst h0;have:hB=[]:=List.length_eq_zero_iff.1 aS;subst this;exact .la _ A c (fun aV=>by rcases hm with h1|⟨h1,-⟩<;>simp_all)
   ·rcases hm with hm|⟨hA,hm⟩
    ·omega
    ·subst hA;have jz:=Hh fZ.rd bW len (by omega);rw[dG] at jz;have kP:hB.flatten.length=((o.es.drop bW).take len).flatten.length:=(by rw[t8 hB hle,t8 _ jz.1,aS,List.length_take,List.length_drop,Nat.min_eq_left (by omega)]);have yT:qk w l6 ot nE b (bW*o.sz) o.sz hB:=(by refine⟨hle,fun j c7 ex=> ?_⟩;have eA:j<((o.es.drop bW).take len).flatten.length:=(by rw[<- kP];exact gF ex);have ab:=dy eA;obtain⟨u,e1,e2,bM⟩:=jz.2 j _ ab;exact⟨u,e1,e2,ih j _ c7 ab ex bM⟩);have:=yT.isl (c:=c) ⟨JA r k o b m an bG ai ag,Nn⟩ (by omega);rw[aS] at this;exact this
 | @agg c eG aS h ih =>
  intro v bc;obtain⟨vs,rfl,h1,h2,R⟩:=bc.BP;refine .agg vs (by omega) h2 fun j c7 u ex hu=> ?_;have eA:j<c.length:=(by have:=gF ex;omega);exact ih j _ c7 (dy eA) ex (R j _ u (dy eA) hu)
 | @dY c eG aS h ih =>
  intro v bc;obtain⟨vs,rfl,h1,R⟩:=bc.BQ;refine .dY vs (by omega) fun j c7 u ex hu=> ?_;have eA:j<c.length:=(by have:=gF ex;omega);exact ih j _ c7 (dy eA) ex (R j _ u (dy eA) hu)
 | @fn f c eG aS h ih =>
  intro v bc;obtain⟨vs,rfl,h1,R⟩:=bc.Ik;refine .fn vs (by omega) fun j c7 u ex hu=> ?_;have eA:j<c.length:=(by have:=gF ex;omega);exact ih j _ c7 (dy eA) ex (R j _ u (dy eA) hu)
structure qa (s:S) (a6:hR) (bL:hi->Bool) (q:aG->Prop) (o cn:a1):Prop where
 sz:cn.sz=o.sz
 cO:cn.cO=o.cO\/(cn.cO = .jX/\o.cO = .live)\/cn.cO = .gone
 len:cn.es.length=o.es.length
 each : ∀e∈cn.es,e.length=o.sz
 at_ : ∀(j:Nat) x c7,o.es.flatten[j]? = some x->cn.es.flatten[j]? = some c7->iQ s a6 bL q x c7
structure sc (s:S) (a6:hR) (bL:hi->Bool) (q:aG->Prop) (iC:Nat->Option (List a1)):Prop where
 inj : ∀j i i9 fo p,a6 j i=some p->a6 i9 fo=some p->j=i9/\i=fo
 at_ : ∀j i cn,eb (iC j) i=some cn-> ∃r k o,a6 j i=some (r,k)/\s.ak r k=some o/\qa s a6 bL q o cn
 bd : ∀j i r k,a6 j i=some (r,k)->s.bd r k->i<((iC j).getD []).length
def kQ (aF:gb)(a6:hR):gb:=fun j i=>match a6 j i with
 | some (r,k)=>aF r k
 | none=>none
theorem B2 {aF:gb}{a6:hR}{j i r k:Nat}(h:a6 j i=some (r,k)):kQ aF a6 j i=aF r k:=by simp[kQ,h]
def nn (_:aG):Prop:=True
theorem agt:Down nn:=⟨fun _ _ _ _=>trivial,fun _ _ _ _=>trivial,fun _ _ _ _ _=>trivial⟩
section
variable {g:G} {s:S} {aF:gb} {w:World} {a6:hR} {bL:hi->Bool} {q:aG->Prop} {b4:S}
theorem sc.ak (h:sc s a6 bL q b4.a0){j i:Nat}{cn:a1}(an:b4.ak j i=some cn): ∃r k o,a6 j i=some (r,k)/\s.ak r k=some o/\qa s a6 bL q o cn:=h.at_ j i cn an
theorem Uf {o cn:a1}(h:qa s a6 bL q o cn)(aS:cn.cO = .live):o.cO = .live:=by
 rcases h.cO with e|⟨e,-⟩|e
 ·exact e.symm.trans aS
 ·rw[e] at aS;simp at aS
 ·rw[e] at aS;simp at aS
theorem sc.live (h:sc s a6 bL q b4.a0)(b:Nat)(aS:b4.nc (kQ aF a6) b): ∃r k o m,s.ak r k=some o/\o.cO = .live/\aF r k=some (b,m)/\ ∃j i,a6 j i=some (r,k):=by obtain⟨j,i,cn,m,h1,h2,R⟩:=aS;obtain⟨r,k,o,e1,e2,bM⟩:=h.ak h1;rw[B2 e1] at R;exact⟨r,k,o,m,e2,Uf bM h2,R,j,i,e1⟩
theorem sc.I8 (h:sc s a6 bL q b4.a0){j i r k:Nat}(au:a6 j i=some (r,k)):b4.bk (kQ aF a6) j i=s.bk aF r k\/b4.bk (kQ aF a6) j i=none:=by
 cases an:b4.ak j i with
 | none=>right;simp[S.bk,an]
 | some cn =>
  obtain⟨fv,ey,o,e1,e2,bM⟩:=h.ak an;rw[au] at e1;simp only[dB,dD] at e1;obtain⟨rfl,rfl⟩:=e1;left;rw[jm an,jm e2,bM.sz,B2 au]
theorem jq.Od (eu:jq g s aF w)(h:sc s a6 bL q b4.a0){gY:G}(aX:Ff gY w)(EW:∀j k,gY.qL j k->b4.bd j k/\(b4.bk (kQ aF a6) j k=gY.tE j k\/b4.bk (kQ aF a6) j k=none))(yV:∀j k,gY.qL j k->j<gY.m)
 (agZ : ∀b,gY.rC b->b<gY.n6.heap.size) (halt : ∀b,gY.A b->b<gY.n6.heap.size)
 (MW : ∀r k o b m,(∃j i,a6 j i=some (r,k))->s.ak r k=some o->aF r k=some (b,m)->gY.n6.heap.size<=b\/gY.rC b)
 (H1 : ∀b,s.ok g aF w b->b4.ok gY (kQ aF a6) w b)
 (JA : ∀r k o b m,s.ak r k=some o->bL o.cO=true->(∀j i,a6 j i≠some (r,k))->aF r k=some (b,m)->b4.ok gY (kQ aF a6) w b) :
 jq gY b4 (kQ aF a6) w/\ ∀ {x c7:aG} {v:Value},iQ s a6 bL q x c7->Rel w (s.ok g aF w) s.bd (s.bk aF) x v->Rel w (b4.ok gY (kQ aF a6) w) b4.bd (b4.bk (kQ aF a6)) c7 v:=by
 have fZ : ∀ {x c7:aG} {v:Value},iQ s a6 bL q x c7->Rel w (s.ok g aF w) s.bd (s.bk aF) x v->Rel w (b4.ok gY (kQ aF a6) w) b4.bd (b4.bk (kQ aF a6)) c7 v :=
  fun bJ ai=>bJ.rel eu (fun x v _ ag ai=>ai.pure ag H1) JA (fun j i r k au hu=>⟨h.bd j i r k au hu,h.I8 au⟩) ai
 refine⟨⟨?_,?_,?_,aX,agZ,halt,EW,yV⟩,fZ⟩
 ·intro j k cn eH
  obtain⟨r,ey,o,e1,e2,bM⟩:=h.ak eH;have bs:=eu.obj r ey o e2;rw[B2 e1]
  cases ag:aF r ey with
  | none =>
   rw[ag] at bs;simp only[ka] at bs ⊢;apply List.length_eq_zero_iff.1;rw[bM.len,bs];rfl
  | some q =>
   obtain⟨b,m⟩:=q;rw[ag] at bs;obtain⟨c,fu,h1,h2,R,ah⟩:=bs;have kP:cn.es.flatten.length=o.es.flatten.length:=(by rw[t8 _ bM.each,t8 _ R,bM.len]);refine⟨c,fu,h1,h2,by rw[bM.sz];exact bM.each,fun i c7 ex=> ?_⟩;have eA:i<o.es.flatten.length:=(by rw[<- kP];exact gF ex);have ab:=dy eA;obtain⟨u,f1,f2,f3⟩:=ah i _ ab;exact⟨u,f1,f2,fZ (bM.at_ i _ c7 ab ex) f3⟩
 ·intro j k o i9 ey cn b m aI h1 h2 R ah;obtain⟨r,lT,p,e1,e2,-⟩:=h.ak h1;obtain⟨fv,ahF,lp,oy,ru,-⟩:=h.ak h2;rw[B2 e1] at R;rw[B2 oy] at ah;obtain⟨rfl,rfl⟩:=eu.inj r lT p fv ahF lp b m aI e2 ru R ah;exact h.inj _ _ _ _ _ e1 oy
 ·intro j k o b m h1 h2;obtain⟨r,lT,p,e1,e2,-⟩:=h.ak h1;rw[B2 e1] at h2;exact MW r lT p b m ⟨j,k,e1⟩ e2 h2
theorem c8.Ug {a:Act}(h:c8 g s aF a w)(dk:sc s a6 (fun _=>true) q b4.a0)(eJ:∀t,iQ s a6 (fun _=>true) q (s.E t) (b4.E t))(Fs:∀j k,g.qL j k->a6 j k=some (j,k)):c8 g b4 (kQ aF a6) a w:=by
 have hq : ∀b,b4.nc (kQ aF a6) b->s.nc aF b:=fun b aS=>by obtain⟨r,k,o,m,h1,h2,R,-⟩:=dk.live b aS;exact⟨r,k,o,m,h1,h2,R⟩
 have EW : ∀j k,g.qL j k->b4.bd j k/\(b4.bk (kQ aF a6) j k=g.tE j k\/b4.bk (kQ aF a6) j k=none):=by
  intro j k au;obtain⟨e1,e2⟩:=h.stay j k au;refine⟨dk.bd j k j k (Fs j k au) e1,?_⟩;rcases dk.I8 (aF:=aF) (Fs j k au) with e|e
  ·rw[e];exact e2
  ·exact .inr e
 obtain⟨h1,h2⟩:=h.tojq.Od dk h.hY EW h.low h.mlt h.o0 (fun r k o b m _ an ag=>h.own r k o b m an ag)
  (fun b aU=>⟨aU.1,aU.2.1,fun aS=>aU.2.2 (hq b aS)⟩)
  (fun r k o b m an _ ai ag=>by
    have bs:=h.obj r k o an;rw[ag] at bs;obtain⟨c,fu,e1,-⟩:=bs;refine⟨(Array.getElem?_eq_some_iff.1 e1).1,?_,fun aS=> ?_⟩
    ·rcases h.own r k o b m an ag with e|e
     ·exact .inr (.inl e)
     ·exact .inr (.inr e)
    ·obtain⟨fv,ey,cn,aI,f1,f2,f3,⟨Oe,GD,f4⟩⟩:=dk.live b aS;obtain⟨rfl,rfl⟩:=h.inj r k o fv ey cn b m aI an f1 ag f3;exact ai Oe GD f4)
 exact {tojq:=h1,env:=fun t=>h2 (eJ t) (h.env t),defers:=h.defers,kO:=h.kO}
end
def fK (T:List (List a1)):S:={E:=fun _=> .dead,a0:=fun r=>T[r]?}
def agu (P:Program)(f:FuncId)(args:List aG)(T:List (List a1))(r:aG)(h4:List (List a1)):Prop :=
 ∀(g:G) (aF:gb) (w:World) (vs:Array Value),g.n6=w->g.m=T.length->g.qL=(fK T).bd->g.tE=(fK T).bk aF->jq g (fK T) aF w->vs.size=args.length ->
  (∀(j:Nat) x v,args[j]? = some x->vs[j]? = some v->Rel w ((fK T).ok g aF w) (fK T).bd ((fK T).bk aF) x v) ->
  Calls P f vs w fun e bT=> ∃v bX,e = .returned v/\jq g (fK h4) bX bT/\Rel bT ((fK h4).ok g bX bT) (fK h4).bd ((fK h4).bk bX) r v
inductive bP:aG->Prop
 | dead:bP .dead
 | b (x:Bool):bP (.b x)
 | n (k:IntKind) (x:Int):bP (.n k x)
 | s (x:ByteArray):bP (.s x)
 | jo:bP .jo
 | fy:bP .fy
 | jy:bP .jy
 | la (sz:Nat):bP (.isl sz [])
 | ref (r k i off:Nat):bP (.ref r k i off)
 | bf (r k bW len:Nat):bP (.bf r k bW len)
 | jP (r c sz:Nat) (h:Option (Nat×Nat)):bP (.jP r c sz h)
 | agg {c:List aG} (h : ∀x∈c,bP x):bP (.agg c)
 | dY {c:List aG} (h : ∀x∈c,bP x):bP (.dY c)
theorem agv:Down bP:=⟨fun _ _ h ab=>by cases h with|agg h=>exact h _ ab,fun _ _ h ab=>by cases h with|dY h=>exact h _ ab,fun _ _ _ h=>by cases h⟩
theorem Rel.fb {w bT:World}{ok l6:Nat->Prop}{bd ot:ki}{bk nE:j3}{x:aG}(bJ:bP x): ∀ {v:Value},Pure x->Rel w ok bd bk x v->Rel bT l6 ot nE x v:=by
 induction bJ with
 | dead=>intro v _ h;exact .dead v
 | b x=>intro v _ h;rw[h.wF];exact .b x
 | n k x=>intro v _ h;rw[h.pW];exact .n k x
 | s x=>intro v _ h;rw[h.Cd];exact .s x
 | jo=>intro v _ h;rw[h.x7];exact .jo
 | fy=>intro v _ h;rw[h.rM];exact .fy
 | jy=>intro v _ h;obtain⟨a,c,rfl⟩:=h.HZ;exact .jy a c
 | la sz =>
  intro v _ h;rcases h.vj with ⟨-,a,c,rfl,bG⟩|⟨eT,off,c,-,rfl,-⟩
  ·exact .la sz a c bG
  ·exact .la sz _ c (fun h=>by simp at h)
 | ref=>intro v ag;cases ag
 | bf=>intro v ag;cases ag
 | jP=>intro v ag;cases ag
 | @agg c a2 ih =>
  intro v ag h;obtain⟨vs,rfl,h1,h2,R⟩:=h.BP
  cases ag with
  | agg ag=>exact .agg vs h1 h2 fun j x u ab hu=>ih x (dH ab) (ag x (dH ab)) (R j x u ab hu)
 | @dY c a2 ih =>
  intro v ag h;obtain⟨vs,rfl,h1,R⟩:=h.BQ
  cases ag with
  | dY ag=>exact .dY vs h1 fun j x u ab hu=>ih x (dH ab) (ag x (dH ab)) (R j x u ab hu)
section
variable {P:Program} {g:G} {s:S} {aF:gb} {a:Act} {w:World}
theorem EJ (h:jq g s aF w){r k b m:Nat}{o:a1}(an:s.ak r k=some o)(ag:aF r k=some (b,m)):b<w.heap.size:=by have:=h.obj r k o an;rw[ag] at this;obtain⟨c,fu,e,-⟩:=this;exact(Array.getElem?_eq_some_iff.1 e).1
theorem afL (h:jq g s aF w){r k b m:Nat}{o:a1}(an:s.ak r k=some o)(aX:o.cO = .jX)(ag:aF r k=some (b,m)):s.ok g aF w b:=by
 refine⟨EJ h an ag,?_,?_⟩
 ·rcases h.own r k o b m an ag with e|e
  ·exact .inr (.inl e)
  ·exact .inr (.inr e)
 ·rintro⟨fv,ey,cn,aI,h1,h2,R⟩;obtain⟨rfl,rfl⟩:=h.inj r k o fv ey cn b m aI an h1 ag R;rw[an] at h1;simp at h1;subst h1;rw[aX] at h2;simp at h2
theorem enter (h:jq g s aF w){a6:hR}{bL:hi->Bool}{q:aG->Prop}{T:List (List a1)}(A:Nat->Prop)
 (hA : ∀b,A b->b<w.heap.size) (Np : ∀b,s.ok g aF w b->A b)
 (Nq : ∀r k o b m,s.ak r k=some o->bL o.cO=true->aF r k=some (b,m)->A b)
 (dk:sc s a6 bL q (fK T).a0) (rU : ∀r k o,(∃j i,a6 j i=some (r,k))->s.ak r k=some o->o.cO = .live) :
 ∃gY:G,gY.n6=w/\gY.A=A/\gY.m=T.length/\gY.qL=(fK T).bd/\gY.tE=(fK T).bk (kQ aF a6) /\
  (gY.rC=fun b=> ∃r k o m,(∃j i,a6 j i=some (r,k))/\s.ak r k=some o/\aF r k=some (b,m))/\jq gY (fK T) (kQ aF a6) w /\
  ∀ {x c7:aG} {v:Value},iQ s a6 bL q x c7->Rel w (s.ok g aF w) s.bd (s.bk aF) x v->Rel w ((fK T).ok gY (kQ aF a6) w) (fK T).bd ((fK T).bk (kQ aF a6)) c7 v:=by
 let gY:G:={n6:=w,A:=A,rC:=fun b=> ∃r k o m,(∃j i,a6 j i=some (r,k))/\s.ak r k=some o/\aF r k=some (b,m),N:=0,m:=T.length,qL:=(fK T).bd,tE:=(fK T).bk (kQ aF a6)}
 refine⟨gY,rfl,rfl,rfl,rfl,rfl,rfl,?_⟩;have hq : ∀b,(fK T).nc (kQ aF a6) b-> ∃r k o m,s.ak r k=some o/\o.cO = .live/\aF r k=some (b,m)/\ ∃j i,a6 j i=some (r,k):=fun b aS=>dk.live b aS;refine jq.Od (b4:=fK T) (gY:=gY) h dk ⟨rfl,rfl,rfl,dE _,fun _ _ _=>rfl⟩ (fun j k au=>⟨au,.inl rfl⟩) ?_ ?_ hA ?_ ?_ ?_
 ·intro j k au
  have au:k<((T[j]?).getD []).length:=au;rcases Nat.lt_or_ge j T.length with h1|h1
  ·exact h1
  ·rw[List.getElem?_eq_none h1] at au;simp at au
 ·rintro b ⟨r,k,o,m,-,an,ag⟩;exact EJ h an ag
 ·intro r k o b m hm an ag;exact .inr ⟨r,k,o,m,hm,an,ag⟩
 ·intro b aU;refine⟨aU.1,.inl (Np b aU),fun aS=> ?_⟩;obtain⟨r,k,o,m,h1,h2,R,-⟩:=hq b aS;exact aU.2.2 ⟨r,k,o,m,h1,h2,R⟩
 ·intro r k o b m an bG ai ag;refine⟨EJ h an ag,.inl (Nq r k o b m an bG ag),fun aS=> ?_⟩;obtain⟨fv,ey,cn,aI,h1,h2,R,⟨j,i,au⟩⟩:=hq b aS;obtain⟨rfl,rfl⟩:=h.inj r k o fv ey cn b m aI an h1 ag R;exact ai j i au
theorem leave (h:c8 g s aF a w){bT:World}{a6 lU:hR}{bL:hi->Bool}{q0 q:aG->Prop}{gY:G}{T fe:List (List a1)}{ma:gb}
 (dt:gY.n6=w) (hA:(∀b,gY.A b->s.ok g aF w b)\/(∀x,q x->bP x)) (y3:gY.qL=(fK T).bd) (mE:gY.tE=(fK T).bk (kQ aF a6))
 (eu:gY.rC=fun b=> ∃r k o m,(∃j i,a6 j i=some (r,k))/\s.ak r k=some o/\aF r k=some (b,m))
 (rU : ∀r k o,(∃j i,a6 j i=some (r,k))->s.ak r k=some o->o.cO = .live)
 (dk:sc s a6 bL q0 (fK T).a0) (h1:jq gY (fK fe) ma bT)
 (EX : ∀j i r k,a6 j i=some (r,k)->lU r k=some (j,i)) (II : ∀r k j i,lU r k=some (j,i)->a6 j i=some (r,k)\/ ¬s.bd r k)
 (ag0 : ∀r k fv ey p,lU r k=some p->lU fv ey=some p->r=fv/\k=ey)
 {s2:S} (eJ:s2.E=s.E)
 (bs : ∀r k o,s2.ak r k=some o->(∃j i p,lU r k=some (j,i)/\(fK fe).ak j i=some p/\qa (fK fe) lU (fun _=>false) q p o)\/(lU r k=none/\s.ak r k=some o))
 (ko : ∀r k,s.bd r k->s2.bd r k) (ag1 : ∀r k j i,lU r k=some (j,i)->(fK fe).bd j i->s2.bd r k)
 {x c7:aG} {v:Value} (ab:iQ (fK fe) lU (fun _=>false) q x c7) (bc:Rel bT ((fK fe).ok gY ma bT) (fK fe).bd ((fK fe).bk ma) x v) :
 ∃mN,c8 g s2 mN a bT/\Rel bT (s2.ok g mN bT) s2.bd (s2.bk mN) c7 v:=by
 let mN:gb:=fun r k=>match lU r k with|some (j,i)=>ma j i|none=>aF r k
 have p1 : ∀r k j i,lU r k=some (j,i)->mN r k=ma j i:=fun r k j i e=>by simp[mN,e]
 have p2 : ∀r k,lU r k=none->mN r k=aF r k:=fun r k e=>by simp[mN,e]
 have aX:=h1.hY;have fE:w.heap.size<=bT.heap.size:=by have:=aX.size;rw[dt] at this;exact this
 have vz : ∀b,b<w.heap.size-> ¬gY.rC b->bT.heap[b]? = w.heap[b]? := fun b aU lc=>by have:=aX.block b (by rw[dt];exact aU) lc;rw[dt] at this;exact this
 have I9 : ∀j k p b m,(fK fe).ak j k=some p->ma j k=some (b,m)->w.heap.size<=b\/ ∃r ey o aI,(∃j i,a6 j i=some (r,ey))/\s.ak r ey=some o/\aF r ey=some (b,aI):=by
  intro j k p b m ag aU;rcases h1.own j k p b m ag aU with e|e
  ·rw[dt] at e;exact .inl e
  ·rw[eu] at e;exact .inr e
 have hold : ∀q k o b m,lU q k=none->s.ak q k=some o->aF q k=some (b,m)->b<w.heap.size/\ ¬gY.rC b:=by intro q k o b m a4 an ag;refine⟨EJ h.tojq an ag,fun lc=> ?_⟩;rw[eu] at lc;obtain⟨r,ey,cn,aI,⟨j,i,ai⟩,eH,ml⟩:=lc;obtain⟨rfl,rfl⟩:=h.inj q k o r ey cn b m aI an eH ag ml;rw[EX _ _ _ _ ai] at a4;simp at a4
 have UQ : ∀b,s2.nc mN b->(fK fe).nc ma b\/(∃q k o m,lU q k=none/\s.ak q k=some o/\o.cO = .live/\aF q k=some (b,m)):=by
  rintro b ⟨q,k,o,m,an,pz,ag⟩;rcases bs q k o an with ⟨j,i,p,e1,e2,bM⟩|⟨e1,e2⟩
  ·rw[p1 _ _ _ _ e1] at ag;exact .inl ⟨j,i,p,m,e2,Uf bM pz,ag⟩
  ·rw[p2 _ _ e1] at ag;exact .inr ⟨q,k,o,m,e1,e2,pz,ag⟩
 have ou : ∀b,s.ok g aF w b->s2.ok g mN bT b:=by
  intro b aU;refine⟨Nat.lt_of_lt_of_le aU.1 fE,aU.2.1,fun aS=> ?_⟩;rcases UQ b aS with ⟨j,k,p,m,e1,e2,bM⟩|⟨q,k,o,m,e1,e2,bM,db⟩
  ·rcases I9 j k p b m e1 bM with e|⟨r,ey,o,aI,ai,an,ag⟩
   ·have:=aU.1;omega
   ·exact aU.2.2 ⟨r,ey,o,aI,an,rU r ey o ai an,ag⟩
  ·exact aU.2.2 ⟨q,k,o,m,e2,bM,db⟩
 have VJ : ∀r k,s.bd r k->s2.bk mN r k=s.bk aF r k\/s2.bk mN r k=none:=by
  intro r k ai
  cases an:s2.ak r k with
  | none=>right;simp[S.bk,an]
  | some o =>
   left;rcases bs r k o an with ⟨j,i,p,e1,e2,bM⟩|⟨e1,e2⟩
   ·rcases II r k j i e1 with au|au
    ·have nG:=(h1.stay j i (by rw[y3];exact dk.bd _ _ _ _ au ai)).2
     rw[mE,jm e2] at nG
     have nG:some (p.sz,ma j i)=(fK T).bk (kQ aF a6) j i:=by
      rcases nG with e|e
      ·exact e
      ·simp at e
     have:=dk.I8 (b4:=fK T) (aF:=aF) au;rw[<- nG] at this;rw[jm an,bM.sz,p1 _ _ _ _ e1];rcases this with e|e
     ·exact e
     ·simp at e
    ·exact absurd ai au
   ·rw[jm an,jm e2,p2 _ _ e1]
 have agw : ∀b,s.ok g aF w b->bT.heap[b]? = w.heap[b]? := by intro b aU;refine vz b aU.1 fun lc=> ?_;rw[eu] at lc;obtain⟨r,ey,o,aI,ai,an,ag⟩:=lc;exact aU.2.2 ⟨r,ey,o,aI,an,rU r ey o ai an,ag⟩
 have fZ : ∀ {y:aG} {u:Value},Rel w (s.ok g aF w) s.bd (s.bk aF) y u->Rel bT (s2.ok g mN bT) s2.bd (s2.bk mN) y u :=
  fun ai=>ai.mono ou agw ko VJ
 have ag2:(∀b,gY.A b->s.ok g aF w b)-> ∀b,(fK fe).ok gY ma bT b->s2.ok g mN bT b:=by
  intro hA b aU
  have MW:g.A b\/g.n6.heap.size<=b\/g.rC b:=by
   rcases aU.2.1 with e|e|e
   ·exact(hA b e).2.1
   ·rw[dt] at e;exact .inr (.inl (Nat.le_trans h.hY.size e))
   ·rw[eu] at e
    obtain⟨r,k,o,m,-,an,ag⟩:=e;rcases h.own r k o b m an ag with e|e
    ·exact .inr (.inl e)
    ·exact .inr (.inr e)
  refine⟨aU.1,MW,fun aS=> ?_⟩;rcases UQ b aS with e|⟨q,k,o,m,e1,e2,bM,db⟩
  ·exact aU.2.2 e
  ·have a4:=hold q k o b m e1 e2 db
   rcases aU.2.1 with e|e|e
   ·exact(hA b e).2.2 ⟨q,k,o,m,e2,bM,db⟩
   ·rw[dt] at e;omega
   ·exact a4.2 e
 have Vk : ∀ {y nu:aG} {u:Value},iQ (fK fe) lU (fun _=>false) q y nu->Rel bT ((fK fe).ok gY ma bT) (fK fe).bd ((fK fe).bk ma) y u->Rel bT (s2.ok g mN bT) s2.bd (s2.bk mN) nu u:=by
  intro y nu u bJ ai;refine bJ.rel h1 (fun x v a4 ag ai=> ?_) (fun _ _ _ _ _ _ bG _ _=>by simp at bG) ?_ ai
  ·rcases hA with hA|hA
   ·exact ai.pure ag (ag2 hA)
   ·exact ai.fb (hA x a4) ag
  ·intro r k j i a4 au
   refine⟨ag1 r k j i a4 au,?_⟩
   cases an:s2.ak r k with
   | none=>right;simp[S.bk,an]
   | some o =>
    left;rcases bs r k o an with ⟨i9,fo,p,e1,e2,bM⟩|⟨e1,-⟩
    ·rw[a4] at e1;simp only[dB,dD] at e1;obtain⟨rfl,rfl⟩:=e1;rw[jm an,jm e2,bM.sz,p1 _ _ _ _ a4]
    ·rw[a4] at e1;simp at e1
 refine⟨mN,{tojq:=⟨?_,?_,?_,?_,h.mlt,h.o0,?_,h.low⟩,env:=fun t=>by rw[eJ];exact fZ (h.env t),defers:=h.defers,kO:=h.kO},Vk ab bc⟩
 ·intro q k o an
  rcases bs q k o an with ⟨j,i,p,e1,e2,bM⟩|⟨e1,e2⟩
  ·have ag:=h1.obj j i p e2
   rw[p1 _ _ _ _ e1]
   cases ly:ma j i with
   | none =>
    rw[ly] at ag;simp only[ka] at ag ⊢;apply List.length_eq_zero_iff.1;rw[bM.len,ag];rfl
   | some vX =>
    obtain⟨b,m⟩:=vX;rw[ly] at ag;obtain⟨c,fu,f1,f2,f3,f4⟩:=ag;have kP:o.es.flatten.length=p.es.flatten.length:=(by rw[t8 _ bM.each,t8 _ f3,bM.len]);refine⟨c,fu,f1,f2,by rw[bM.sz];exact bM.each,fun i c7 ex=> ?_⟩;have eA:i<p.es.flatten.length:=(by rw[<- kP];exact gF ex);have jY:=dy eA;obtain⟨u,jR,mb,h9⟩:=f4 i _ jY;exact⟨u,jR,mb,Vk (bM.at_ i _ c7 jY ex) h9⟩
  ·have ag:=h.obj q k o e2
   rw[p2 _ _ e1]
   cases ly:aF q k with
   | none=>rw[ly] at ag;exact ag
   | some vX =>
    obtain⟨b,m⟩:=vX;rw[ly] at ag;obtain⟨c,fu,f1,f2,f3,f4⟩:=ag;obtain⟨wU,Nr⟩:=hold q k o b m e1 e2 ly;refine⟨c,fu,(vz b wU Nr).trans f1,f2,f3,fun i c7 ex=> ?_⟩;obtain⟨u,jR,mb,h9⟩:=f4 i c7 ex;exact⟨u,jR,mb,fZ h9⟩
 ·intro q k o iO ey cn b m aI h2 R ah ax
  rcases bs q k o h2 with ⟨j,i,p,e1,e2,bM⟩|⟨e1,e2⟩<;>rcases bs iO ey cn R with ⟨i9,fo,lp,oy,ru,wS⟩|⟨oy,ru⟩
  ·rw[p1 _ _ _ _ e1] at ah;rw[p1 _ _ _ _ oy] at ax;obtain⟨rfl,rfl⟩:=h1.inj j i p i9 fo lp b m aI e2 ru ah ax;exact ag0 _ _ _ _ _ e1 oy
  ·rw[p1 _ _ _ _ e1] at ah;rw[p2 _ _ oy] at ax
   obtain⟨f1,f2⟩:=hold iO ey cn b aI oy ru ax;rcases I9 j i p b m e2 ah with e|e
   ·omega
   ·exact absurd (by rw[eu];exact e) f2
  ·rw[p2 _ _ e1] at ah;rw[p1 _ _ _ _ oy] at ax
   obtain⟨f1,f2⟩:=hold q k o b m e1 e2 ah;rcases I9 i9 fo lp b aI ru ax with e|e
   ·omega
   ·exact absurd (by rw[eu];exact e) f2
  ·rw[p2 _ _ e1] at ah;rw[p2 _ _ oy] at ax;exact h.inj q k o iO ey cn b m aI e2 ru ah ax
 ·intro q k o b m h2 ah
  rcases bs q k o h2 with ⟨j,i,p,e1,e2,bM⟩|⟨e1,e2⟩
  ·rw[p1 _ _ _ _ e1] at ah
   rcases I9 j i p b m e2 ah with e|⟨r,ey,cn,aI,ai,an,ag⟩
   ·exact .inl (Nat.le_trans h.hY.size e)
   ·exact h.own r ey cn b aI an ag
  ·rw[p2 _ _ e1] at ah;exact h.own q k o b m e2 ah
 ·have e1:=aX.os;have e2:=aX.tape;have bM:=aX.output
  rw[dt] at e1 e2 bM;refine h.hY.step e1 e2 bM fE fun b aU pA=>vz b (Nat.lt_of_lt_of_le aU h.hY.size) fun lc=> ?_;rw[eu] at lc;obtain⟨r,k,o,m,-,an,ag⟩:=lc;rcases h.own r k o b m an ag with e|e
  ·omega
  ·exact pA e
 ·intro j k au
  obtain⟨e1,e2⟩:=h.stay j k au;refine⟨ko j k e1,?_⟩;rcases VJ j k e1 with e|e
  ·rw[e];exact e2
  ·exact .inr e
def lP (a b n:Nat):aG->aG
 | .ref r k i off=>if r=a then .ref b (n+k) i off else .ref r k i off
 | .bf r k bW len=>if r=a then .bf b (n+k) bW len else .bf r k bW len
 | .jP r c sz h=>if r=a then .jP b (n+c) sz h else .jP r c sz h
 | .agg c=> .agg (CC c)
 | .dY c=> .dY (CC c)
 | x=>x
where CC:List aG->List aG
 | []=>[]
 | x::l=>lP a b n x::CC l
def nJ (a b n:Nat)(o:a1):a1:={o with es:=o.es.map fun e=>e.map (lP a b n)}
def ty (o:a1):a1:=⟨0,[],.gone⟩
theorem Il (a b n:Nat): ∀l:List aG,lP.CC a b n l=l.map (lP a b n)
 | []=>rfl
 | x::l=>by rw[lP.CC,Il a b n l];rfl
theorem lv (l:List a1)(k:Nat):eb (some l) k=(l[k]?).bind fun o=>if o.cO = .gone then none else some o:=by unfold eb;cases h:l[k]? <;> simp[h]
theorem map_flatten {es:List (List aG)}(f:aG->aG):(es.map fun e=>e.map f).flatten=es.flatten.map f:=by
 induction es with
 | nil=>rfl
 | cons e es ih=>rw[List.map_cons,List.flatten_cons,List.flatten_cons,List.map_append,ih]
theorem c8.merge (h:c8 g s aF a w){r fv:Nat}{l hD:List a1}(ai:s.a0 r=some l)(iI:s.a0 fv=some hD)(c9:fv≠r):
 ∃bX,c8 g ((s.setRow fv (hD.map ty)).setRow r (l++hD.map (nJ fv r l.length))) bX a w /\
  ∀x v,Rel w (s.ok g aF w) s.bd (s.bk aF) x v->Rel w (((s.setRow fv (hD.map ty)).setRow r (l++hD.map (nJ fv r l.length))).ok g bX w)
   ((s.setRow fv (hD.map ty)).setRow r (l++hD.map (nJ fv r l.length))).bd (((s.setRow fv (hD.map ty)).setRow r (l++hD.map (nJ fv r l.length))).bk bX) (lP fv r l.length x) v:=by
 generalize vI:(s.setRow fv (hD.map ty)).setRow r (l++hD.map (nJ fv r l.length))=s2
 let bX:gb:=fun q k=>if q=r/\l.length<=k then aF fv (k-l.length) else aF q k
 have bs : ∀q k o,s2.ak q k=some o->(q=r/\l.length<=k/\ ∃p,s.ak fv (k-l.length)=some p/\o=nJ fv r l.length p/\bX q k=aF fv (k-l.length)) \/
  (q≠fv/\s.ak q k=some o/\bX q k=aF q k/\ ¬(q=r/\l.length<=k)):=by
  intro q k o an;subst vI;rw[mT] at an;by_cases e:q=r
  ·subst e
   rw[dw rfl] at an;by_cases aX:l.length<=k
   ·left
    refine⟨rfl,aX,?_⟩;rw[lv,List.getElem?_append_right aX,dJ] at an
    cases ag:hD[k-l.length]? with
    | none=>rw[ag] at an;simp at an
    | some p =>
     rw[ag] at an;simp only[Option.map_some,dA] at an;split at an
     ·simp at an
     ·rename_i dt;simp only[dB] at an;refine⟨p,?_,an.symm,by simp[bX,aX]⟩;unfold S.ak;rw[iI,lv,ag,dA,dz (by simpa [nJ] using dt)]
   ·right;refine⟨Ne.symm c9,?_,by simp[bX,aX],fun gL=>aX gL.2⟩;unfold S.ak;rw[ai,lv];rw[lv,List.getElem?_append_left (by omega)] at an;exact an
  ·rw[dz e,mT] at an
   by_cases e2:q=fv
   ·subst e2
    rw[dw rfl,lv,dJ] at an
    cases ag:hD[k]? with
    | none=>rw[ag] at an;simp at an
    | some p=>rw[ag] at an;simp[ty] at an
   ·rw[dz e2] at an;exact .inr ⟨e2,an,by simp[bX,e],fun gL=>e gL.1⟩
 have ko : ∀q k,s.bd q k->s2.bd q k:=by
  intro q k a4;subst vI;rw[oP];by_cases e:q=r
  ·subst e;rw[dw rfl];simp[S.bd,ai] at a4;simp;omega
  ·rw[dz e,oP]
   by_cases e2:q=fv
   ·subst e2;rw[dw rfl];simpa [S.bd,iI] using a4
   ·rw[dz e2];exact a4
 have Ft : ∀k,s.bd fv k->s2.bd r (l.length+k):=by intro k a4;subst vI;rw[oP,dw rfl];simp[S.bd,iI] at a4;simp;omega
 have Fu : ∀k,s2.bk bX r (l.length+k)=s.bk aF fv k:=by
  intro k;subst vI;simp only[S.bk];rw[mT,dw rfl];unfold S.ak;rw[iI,lv,lv,List.getElem?_append_right (by omega),dJ,show l.length+k-l.length=k by omega]
  cases ag:hD[k]? with
  | none=>simp
  | some p =>
   simp only[Option.map_some,dA];by_cases dt:p.cO = .gone
   ·rw[dw dt,dw (by simpa [nJ] using dt)];rfl
   ·rw[dz dt,dz (by simpa [nJ] using dt)];simp[bX,nJ]
 have mE : ∀q k,s.bd q k->s2.bk bX q k=s.bk aF q k\/s2.bk bX q k=none:=by
  intro q k a4
  cases an:s2.ak q k with
  | none=>right;simp[S.bk,an]
  | some o =>
   left;rcases bs q k o an with ⟨rfl,e2,-⟩|⟨-,e2,bM,-⟩
   ·simp[S.bd,ai] at a4;omega
   ·rw[jm an,jm e2,bM]
 have rU : ∀b,s2.nc bX b->s.nc aF b:=by
  rintro b ⟨q,k,o,m,h1,h2,R⟩;rcases bs q k o h1 with ⟨-,-,p,e1,e2,bM⟩|⟨-,e1,e2,-⟩
  ·rw[bM] at R;subst e2;exact⟨fv,_,p,m,e1,h2,R⟩
  ·rw[e2] at R;exact⟨q,k,o,m,e1,h2,R⟩
 have cZ:Step g s aF w s2 bX w:=⟨ko,mE,fun b aS=> .inl (rU b aS),fun _ _ _=>rfl,dE _⟩
 have FQ : ∀x v,Rel w (s.ok g aF w) s.bd (s.bk aF) x v->Rel w (s2.ok g bX w) s2.bd (s2.bk bX) (lP fv r l.length x) v:=by
  intro x v mG
  induction mG with
  | dead v=>exact .dead v
  | b x=>exact .b x
  | n k x=>exact .n k x
  | s x=>exact .s x
  | jo=>exact .jo
  | fy=>exact .fy
  | jy a c=>exact .jy a c
  | @rN r1 k i off a hu gL =>
   unfold lP;split
   ·rename_i e;subst e;exact .rN a (Ft k hu) (by rw[Fu];exact gL)
   ·exact cZ.rel (.rN a hu gL)
  | @ref r1 k i off sz eT m hu gL =>
   unfold lP;split
   ·rename_i e;subst e;exact .ref (Ft k hu) (by rw[Fu];exact gL)
   ·exact cZ.rel (.ref hu gL)
  | @oS r1 k bW len a bl cr hu gL =>
   unfold lP;split
   ·rename_i e;subst e;exact .oS a bl cr (Ft k hu) (by rw[Fu];exact gL)
   ·exact cZ.rel (.oS a bl cr hu gL)
  | @pd r1 k sz hu gL =>
   unfold lP;split
   ·rename_i e;subst e;exact .pd (Ft k hu) (by rw[Fu];exact gL)
   ·exact cZ.rel (.pd hu gL)
  | @bf r1 k bW len sz eT m c a hu gL aS a2 nI =>
   unfold lP;split
   ·rename_i e;subst e;exact .bf (Ft k hu) (by rw[Fu];exact gL) aS a2 nI
   ·exact cZ.rel (.bf hu gL aS a2 nI)
  | @oi r1 c sz v h0 ih =>
   unfold lP;split
   ·exact .oi (cZ.rel h0)
   ·exact cZ.rel (.oi h0)
  | @ps r1 c sz k n v h0 ih =>
   unfold lP;split
   ·rename_i e;subst e;unfold lP at ih;rw[dw rfl] at ih;exact .ps (by rw[show k+(l.length+c)=l.length+(k+c) by omega];exact ih)
   ·exact cZ.rel (.ps h0)
  | la sz a c h=>exact .la sz a c h
  | isl cs aU ag aS a2 hw jD mG ih=>exact cZ.rel (.isl cs aU ag aS a2 hw jD mG)
  | fB cs aU ag aS hw jD mG ih=>exact cZ.rel (.fB cs aU ag aS hw jD mG)
  | rn sz=>exact .rn sz
  | qF h0 ih=>exact cZ.rel (.qF h0)
  | agg vs aS jD mG ih =>
   unfold lP;rw[Il];refine .agg vs (by simpa using aS) jD fun j x v ab bc=> ?_;rw[dJ,Option.map_eq_some_iff] at ab;obtain⟨y,aZ,rfl⟩:=ab;exact ih j y v aZ bc
  | dY vs aS mG ih =>
   unfold lP;rw[Il];refine .dY vs (by simpa using aS) fun j x v ab bc=> ?_;rw[dJ,Option.map_eq_some_iff] at ab;obtain⟨y,aZ,rfl⟩:=ab;exact ih j y v aZ bc
  | fn vs aS mG ih=>exact cZ.rel (.fn vs aS mG)
 refine⟨bX,{tojq:=⟨?_,?_,?_,h.hY,h.mlt,h.o0,?_,h.low⟩,env:=fun t=>by rw[show s2.E=s.E by rw[<- vI];rfl];exact cZ.rel (h.env t),defers:=h.defers,kO:=h.kO},FQ⟩
 ·intro q k o an
  rcases bs q k o an with ⟨-,-,p,e1,e2,bM⟩|⟨-,e1,e2,-⟩
  ·rw[bM]
   subst e2;have ag:=h.obj fv _ p e1
   cases ly:aF fv (k-l.length) with
   | none=>rw[ly] at ag;simp only[ka] at ag ⊢;simp[nJ,ag]
   | some vX =>
    obtain⟨b,m⟩:=vX;rw[ly] at ag;obtain⟨c,fu,f1,f2,f3,f4⟩:=ag;refine⟨c,fu,f1,f2,?_,fun j x ab=> ?_⟩
    ·intro e he;simp only[nJ,List.mem_map] at he;obtain⟨e5,nj,rfl⟩:=he;simpa [nJ] using f3 e5 nj
    ·simp only[nJ] at ab;rw[map_flatten,dJ,Option.map_eq_some_iff] at ab;obtain⟨y,aZ,rfl⟩:=ab;obtain⟨u,jR,mb,h9⟩:=f4 j y aZ;exact⟨u,jR,mb,FQ y u h9⟩
  ·rw[e2];exact cZ.obj (fun b m _=>rfl) (h.obj q k o e1)
 ·intro q k o q1 lT bO b m aI h1 h2 R ah
  rcases bs q k o h1 with ⟨rfl,f1,p,e1,e2,bM⟩|⟨f1,e1,e2,f2⟩<;>rcases bs q1 lT bO h2 with ⟨rfl,CD,lp,oy,ru,wS⟩|⟨CD,oy,ru,akG⟩
  ·rw[bM] at R;rw[wS] at ah;obtain⟨-,e⟩:=h.inj _ _ _ _ _ _ b m aI e1 oy R ah;exact⟨rfl,by omega⟩
  ·rw[bM] at R;rw[ru] at ah;obtain⟨e,-⟩:=h.inj _ _ _ _ _ _ b m aI e1 oy R ah;exact absurd e.symm CD
  ·rw[e2] at R;rw[wS] at ah;obtain⟨e,-⟩:=h.inj _ _ _ _ _ _ b m aI e1 oy R ah;exact absurd e f1
  ·rw[e2] at R;rw[ru] at ah;exact h.inj _ _ _ _ _ _ b m aI e1 oy R ah
 ·intro q k o b m h1 h2
  rcases bs q k o h1 with ⟨-,-,p,e1,e2,bM⟩|⟨-,e1,e2,-⟩
  ·rw[bM] at h2;exact h.own fv _ p b m e1 h2
  ·rw[e2] at h2;exact h.own q k o b m e1 h2
 ·exact cZ.stay h.stay
end
def aG.jl:aG->Bool
 | .dead | .b _ | .n .. | .s _ | .jo | .fy | .jy | .isl .. | .fB .. | .gr .. => true
 | _=>false
def aG.EK:aG->Bool
 | .agg c=>c.all aG.jl
 | .fn _ c=>c.all aG.jl
 | x=>x.jl
def aG.Vl:aG->Bool
 | .dY c=>c.all aG.EK
 | x=>x.EK
section
variable {w:World} {ok:Nat->Prop} {bd:ki} {bk:j3}
theorem Rel.Ce {x:aG}{v:Value}(h:Rel w ok bd bk x v)(aV:x.jl=true):Pure x:=by
 cases h with
 | dead=>exact .dead
 | b=>exact .b _
 | n=>exact .n _ _
 | s=>exact .s _
 | jo=>exact .jo
 | fy=>exact .fy
 | jy=>exact .jy
 | la=>exact .isl (by simp)
 | isl cs aU ag=>exact .isl ag
 | fB cs aU ag=>exact .fB ag
 | rn sz=>exact .rn sz
 | qF h=>cases h with|fB cs aU ag=>exact .qF fun x ab=>ag _ (List.mem_singleton.2 rfl) x ab
 | _=>simp[aG.jl] at aV
theorem Sw {c:List aG}{vs:List Value}(aS:vs.length=c.length)(ai:∀(j:Nat) x u,c[j]? = some x->vs[j]? = some u->Rel w ok bd bk x u)
 (aV:c.all aG.jl=true) : ∀x∈c,Pure x:=by
 intro x ab;obtain⟨j,au⟩:=List.getElem?_of_mem ab;have eA:j<vs.length:=by have:=gF au;omega
 exact(ai j x _ au (dy eA)).Ce (List.all_eq_true.1 aV x ab)
theorem Rel.Ix {x:aG}{v:Value}(h:Rel w ok bd bk x v)(aV:x.EK=true):Pure x:=by
 cases h with
 | agg vs aS a2 ai=>exact .agg (Sw aS ai aV)
 | fn vs aS ai=>exact .fn (Sw aS ai aV)
 | dead=>exact .dead
 | b=>exact .b _
 | n=>exact .n _ _
 | s=>exact .s _
 | jo=>exact .jo
 | fy=>exact .fy
 | jy=>exact .jy
 | la=>exact .isl (by simp)
 | isl cs aU ag=>exact .isl ag
 | fB cs aU ag=>exact .fB ag
 | rn sz=>exact .rn sz
 | qF h=>cases h with|fB cs aU ag=>exact .qF fun x ab=>ag _ (List.mem_singleton.2 rfl) x ab
 | _=>simp[aG.EK,aG.jl] at aV
theorem Rel.agx {x:aG}{v:Value}(h:Rel w ok bd bk x v)(aV:x.Vl=true):Pure x:=by
 by_cases cj : ∃c,x = .dY c
 ·obtain⟨c,rfl⟩:=cj;obtain⟨vs,rfl,aS,ai⟩:=h.BQ;refine .dY fun x ab=> ?_;obtain⟨j,au⟩:=List.getElem?_of_mem ab;have eA:j<vs.length:=(by have:=gF au;omega);exact(ai j x _ au (dy eA)).Ix (List.all_eq_true.1 aV x ab)
 ·refine h.Ix ?_;cases x<;>first|exact aV|exact absurd ⟨_,rfl⟩ cj
end
def cg:List Nat->Nat->Option Nat
 | [],_=>none
 | x::l,r=>if x=r then some 0 else (cg l r).map (· + 1)
theorem Sx : ∀ {l:List Nat} {r j:Nat},cg l r=some j->l[j]? = some r
 | x::l,r,j,h=>by
  unfold cg at h;split at h
  ·simp at h;subst h;simp[*]
  ·rw[Option.map_eq_some_iff] at h;obtain⟨i,ad,rfl⟩:=h;simpa using Sx ad
theorem Sy : ∀ {l:List Nat} {r j:Nat},l.Nodup->l[j]? = some r->cg l r=some j
 | x::l,r,j,aV,h=>by
  rw[List.nodup_cons] at aV;unfold cg
  cases j with
  | zero=>simp at h;simp[h]
  | succ j =>
   simp at h;have:x≠r:=(by rintro rfl;exact aV.1 (dH h));rw[dz this,Sy aV.2 h];rfl
def FR (ew:Nat)(kn:List a1)(bL:hi->Bool)(x c7:aG):Prop :=
 (c7=x/\x.jl=true)\/(∃c sz,x = .jP ew c sz none/\c7 = .isl sz [])\/ ∃k bW len o,(x = .bf ew k bW len\/ ∃c sz kj,k=kj+c/\bW=0/\x = .jP ew c sz (some (kj,len)))/\eb (some kn) k=some o/\bL o.cO=true/\bW+len<=o.es.length /\
   jk ((o.es.drop bW).take len)/\c7 = .isl o.sz ((o.es.drop bW).take len)
def GF (ew:Nat)(kn:List a1)(bL:hi->Bool)(sz:Nat)(es hB:List (List aG)):Prop :=
 hB.length=es.length/\(∀e∈hB,e.length=sz)/\ ∀(j:Nat) x c7,es.flatten[j]? = some x->hB.flatten[j]? = some c7->FR ew kn bL x c7
def mX (a0:Nat->Option (List a1))(cc:Nat->Option Nat)(a6:hR)(bL:hi->Bool):tS->aG->Option (aG×List Prop)
 | .id,x=>if x.jl then some (x,[]) else
  match x with
  | .ref r k i off=>match cc r with
   | some j=>some (.ref j k i off,[])
   | none=>none
  | .bf r k bW len=>match cc r with
   | some j=>some (.bf j k bW len,[])
   | none=>none
  | .jP r c sz h=>match cc r with
   | some j=>some (.jP j c sz h,[])
   | none=>none
  | _=>none
 | .fR sz,.fy=>some (.isl sz [],[])
 | .fR sz,.jy=>some (.isl sz [],[])
 | .eU hB,.bf r k bW len=>match eb (a0 r) k with
  | some o=>if bL o.cO && (cc r).isNone then some (.isl o.sz hB,[hB=(o.es.drop bW).take len,bW+len<=o.es.length,jk hB]) else none
  | none=>none
 | .kt,_=>some (.dead,[])
 | .cK y,x=>if x.jl then some (y,[x=y]) else none
 | .len n,.bf r k bW len=>match cc r with
  | some j=>some (.bf j k bW n,[len=n])
  | none=>none
 | .n7 sz,x=>match x with
  | .jo=>some (.gr sz none,[])
  | .fB I4 [c] 0 0=>if I4=sz then some (.gr sz (some c),[]) else none
  | _=>none
 | .at_ j i n,.bf r k bW len=>some (.bf j i bW n,[a6 j i=some (r,k),len=n])
 | .at_ j i _,.ref r k x y=>some (.ref j i x y,[a6 j i=some (r,k)])
 | .view ew o hB,.bf r k bW len=>match a0 r,a0 ew with
  | some row,some kn=>if (cc r).isNone && (cc ew).isNone then
   some (.isl o.sz hB,[eb (some row) k=some o,bL o.cO=true,bW+len<=o.es.length,jk hB,GF ew kn bL o.sz ((o.es.drop bW).take len) hB]) else none
  | _,_=>none
 | _,_=>none
def mY {α β:Type}(f:α->β->Option (β×List Prop)):List α->List β->Option (List β×List Prop)
 | [],[]=>some ([],[])
 | a::l,b::m=>match f a b,mY f l m with
  | some (k3,bO),some (aI,aN)=>some (k3::aI,bO++aN)
  | _,_=>none
 | _,_=>none
def pX (a0:Nat->Option (List a1))(cc:Nat->Option Nat)(a6:hR)(bL:hi->Bool):CV->aG->Option (aG×List Prop)
 | .cM c,x=>if x.EK then (match c with | .id=>some (x,[]) | .kt=>some (.dead,[]) | .cK y=>some (y,[x=y])|c=>mX a0 cc a6 bL c x) else mX a0 cc a6 bL c x
 | .agg l,.agg c=>match mY (mX a0 cc a6 bL) l c with
  | some (eG,ak)=>some (.agg eG,ak)
  | none=>none
 | .ptr l,.ref r k i off=>match eb (a0 r) k with
  | some o=>match o.es with
   | [c]=>if bL o.cO && (cc r).isNone then
    match mY (mX a0 cc a6 bL) l c with
    | some (eG,ak)=>some (.fB o.sz [eG] i off,ak++[jk [eG]])
    | none=>none
    else none
   | _=>none
  | none=>none
 | .vA l,x=>match x with
  | .ref r k 0 0=>match eb (a0 r) k with
   | some o=>match o.es with
    | [c]=>if bL o.cO && (cc r).isNone then
     match mY (mX a0 cc a6 bL) l c with
     | some (eG,ak)=>some (.gr o.sz (some eG),ak++[jk [eG]])
     | none=>none
     else none
    | _=>none
   | none=>none
  | _=>none
 | _,_=>none
def pj (a0:Nat->Option (List a1))(cc:Nat->Option Nat)(a6:hR)(bL:hi->Bool):mL->aG->Option (aG×List Prop)
 | .bl c,x=>if x.Vl then (match c with | .cM .id=>some (x,[])|c=>pX a0 cc a6 bL c x) else pX a0 cc a6 bL c x
 | .comp l,.dY c=>match mY (pX a0 cc a6 bL) l c with
  | some (eG,ak)=>some (.dY eG,ak)
  | none=>none
 | .comp l,.fn f c=>match mY (pX a0 cc a6 bL) l c with
  | some (eG,ak)=>some (.fn f eG,ak)
  | none=>none
 | _,_=>none
def wm (row:List a1):Prop:= ∀o∈row,jk o.es/\o.cO = .live
def nT (row:List a1):Prop:= ∀o∈row,o.cO = .live\/o.cO = .gone
def pB (cc:Nat->Option Nat):aG->aG
 | .ref r k i off=>match cc r with|some j=> .ref j k i off|none=> .dead
 | .bf r k bW len=>match cc r with|some j=> .bf j k bW len|none=> .dead
 | .jP r c sz h=>match cc r with|some j=> .jP j c sz h|none=> .dead
 | x=>if x.jl then x else .dead
def kE (cc:Nat->Option Nat)(o:a1):a1:={o with es:=o.es.map fun e=>e.map (pB cc)}
def kb (a0:Nat->Option (List a1))(cc:Nat->Option Nat)(a6:hR)(bL:hi->Bool):ju->List a1->Option (List a1×List Prop)
 | .pure,row=>some (row,[wm row])
 | .cK eL,row=>some (eL,[row=eL,wm eL])
 | .bn eL,row=>some (eL,[eL=row.map (kE cc),nT row])
 | .box l,[o]=>match o.es with
  | [c]=>if o.cO = .live then match mY (mX a0 cc a6 bL) l c with
   | some (eG,ak)=>some ([{o with es:=[eG]}],ak)
   | none=>none
   else none
  | _=>none
 | _,_=>none
structure vY (q:aG->Prop) (bL:hi->Bool):Prop extends Down q where
 all : ∀k,bL k=true-> ∀x,q x
theorem wV (bL:hi->Bool):vY nn bL:={toDown:=agt,all:=fun _ _ _=>trivial}
theorem ahG:vY bP (fun _=>false):={toDown:=agv,all:=fun _ h=>by simp at h}
structure n8 (s:S) (a6:hR) (cc:Nat->Option Nat) (bL:hi->Bool):Prop where
 ad : ∀r j,cc r=some j-> ∀k,a6 j k=some (r,k)
 aV : ∀r,cc r=none-> ∀k o,s.ak r k=some o->bL o.cO=true-> ∀j i,a6 j i≠some (r,k)
section
variable {g:G} {s:S} {aF:gb} {w:World} {a6:hR} {cc:Nat->Option Nat} {bL:hi->Bool} {q:aG->Prop}
theorem HM {α β:Type}(f:α->β->Option (β×List Prop)): ∀(l:List α) (m aI:List β) (ak:List Prop),mY f l m=some (aI,ak) ->
 aI.length=m.length/\l.length=m.length/\ ∀(j:Nat) b k3,m[j]? = some b->aI[j]? = some k3-> ∃x cn,l[j]? = some x/\f x b=some (k3,cn)/\ ∀p∈cn,p∈ak
 | [],[],aI,ak,h=>by simp[mY] at h;obtain⟨rfl,rfl⟩:=h;exact⟨rfl,rfl,fun j b k3 aU=>by simp at aU⟩
 | [],_::_,_,_,h=>by simp[mY] at h
 | _::_,[],_,_,h=>by simp[mY] at h
 | x::l,b::m,aI,ak,h=>by
  simp only[mY] at h;split at h
  ·rename_i k3 bO ig aN h1 h2
   simp only[dB,dD] at h;obtain⟨rfl,rfl⟩:=h;obtain⟨e1,e2,bM⟩:=HM f l m ig aN h2;refine⟨by simp[e1],by simp[e2],fun j c eG a2 uE=> ?_⟩
   cases j with
   | zero =>
    simp at a2 uE;subst a2;subst uE;exact⟨x,bO,rfl,h1,fun p ag=>by simp[ag]⟩
   | succ j =>
    simp at a2 uE;obtain⟨y,cn,f1,f2,f3⟩:=bM j c eG a2 uE;exact⟨y,cn,by simpa using f1,f2,fun p ag=>by simp[f3 p ag]⟩
  ·simp at h
theorem LN (eu:jq g s aF w)(H:n8 s a6 cc bL)(bF:vY q bL){c:tS}{x c7:aG}{ak:List Prop}(h:mX s.a0 cc a6 bL c x=some (c7,ak))(bs:∀p∈ak,p)
 (a4:q x) {v:Value} (ai:Rel w (s.ok g aF w) s.bd (s.bk aF) x v):iQ s a6 bL q x c7:=by
 have ko : ∀ {r k bW len:Nat},x = .bf r k bW len->s.bd r k:=by intro r k bW len e;subst e;cases ai<;>assumption
 cases c with
 | id =>
  simp only[mX] at h;split at h
  ·rename_i aV;simp only[dB,dD] at h;obtain⟨rfl,rfl⟩:=h;exact .pure (ai.Ce aV) a4
  ·split at h
   ·rename_i r k i off _
    split at h
    ·rename_i j au;simp only[dB,dD] at h;obtain⟨rfl,rfl⟩:=h;exact .ref i off (H.ad r j au k) (by cases ai<;>assumption)
    ·simp at h
   ·rename_i r k bW len _
    split at h
    ·rename_i j au;simp only[dB,dD] at h;obtain⟨rfl,rfl⟩:=h;exact .bf bW len (H.ad r j au k) (ko rfl)
    ·simp at h
   ·rename_i r c sz gL _
    split at h
    ·rename_i j au;simp only[dB,dD] at h;obtain⟨rfl,rfl⟩:=h;exact .jP gL (fun k=>H.ad r j au _)
    ·simp at h
   ·simp at h
 | fR sz =>
  cases x<;>simp[mX] at h
  ·obtain⟨rfl,rfl⟩:=h;exact .fy sz
  ·obtain⟨rfl,rfl⟩:=h;exact .jy sz
 | eU hB =>
  cases x<;>simp only[mX,reduceCtorEq] at h;rename_i r k bW len;split at h
  ·rename_i o an
   split at h
   ·rename_i a2
    simp only[dM,Option.isNone_iff_eq_none] at a2;simp only[dB,dD] at h;obtain⟨rfl,rfl⟩:=h;have h1:hB=(o.es.drop bW).take len:=bs _ (by simp);have h2:bW+len<=o.es.length:=bs _ (by simp);have R:jk hB:=bs _ (by simp);have eH:s.ak r k=some o:=an
    have hlen : ∀e∈o.es,e.length=o.sz:=by
     have gv:=eu.obj r k o eH
     cases ag:aF r k with
     | none=>rw[ag] at gv;simp only[ka] at gv;rw[gv];simp
     | some q=>rw[ag] at gv;obtain⟨_,_,_,_,e,_⟩:=gv;exact e
    refine .isl eH a2.1 (H.aV r a2.2 k o eH a2.1) h2 R ?_ ?_ ?_
    ·rw[h1];exact fun e he=>hlen e (List.mem_of_mem_drop (List.mem_of_mem_take he))
    ·rw[h1];simp;omega
    ·intro j y nu aZ pC;rw[h1] at pC;rw[aZ] at pC;simp at pC;subst pC;rw[h1] at R;obtain⟨e,he,FT⟩:=u2 aZ;exact .pure (R e he y FT) (bF.all _ a2.1 y)
   ·simp at h
  ·simp at h
 | kt =>
  simp only[mX,dB,dD] at h;obtain⟨rfl,rfl⟩:=h;exact .dead x
 | cK y =>
  simp only[mX] at h;split at h
  ·rename_i aV;simp only[dB,dD] at h;obtain⟨rfl,rfl⟩:=h;have e:x=y:=bs _ (by simp);subst e;exact .pure (ai.Ce aV) a4
  ·simp at h
 | len n =>
  cases x<;>simp only[mX,reduceCtorEq] at h;rename_i r k bW len;split at h
  ·rename_i j au;simp only[dB,dD] at h;obtain⟨rfl,rfl⟩:=h;have e:len=n:=bs _ (by simp);subst e;exact .bf bW len (H.ad r j au k) (ko rfl)
  ·simp at h
 | at_ j i n =>
  cases x<;>simp only[mX,reduceCtorEq] at h
  ·rename_i r k x y;simp only[dB,dD] at h;obtain⟨rfl,rfl⟩:=h;exact .ref x y (bs _ (List.mem_cons_self)) (by cases ai<;>assumption)
  ·rename_i r k bW len;simp only[dB,dD] at h;obtain⟨rfl,rfl⟩:=h;have e:len=n:=bs _ (by simp);subst e;exact .bf bW len (bs _ (List.mem_cons_self)) (ko rfl)
 | view ew o hB =>
  cases x<;>simp only[mX,reduceCtorEq] at h;rename_i r k bW len;split at h
  ·rename_i row kn el agy
   split at h
   ·rename_i a2
    simp only[dM,Option.isNone_iff_eq_none] at a2;simp only[dB,dD] at h;obtain⟨rfl,rfl⟩:=h;have h1:eb (some row) k=some o:=bs _ (by simp);have h2:bL o.cO=true:=bs _ (by simp);have R:bW+len<=o.es.length:=bs _ (by simp);have ah:jk hB:=bs _ (by simp);have ax:GF ew kn bL o.sz ((o.es.drop bW).take len) hB:=bs _ (by simp);have eH:s.ak r k=some o:=(by unfold S.ak;rw[el];exact h1);obtain⟨d1,d2,d3⟩:=ax;refine .isl eH h2 (H.aV r a2.1 k o eH h2) R ah d2 (by rw[d1];simp;omega) fun j y nu aZ pC=> ?_;rcases d3 j y nu aZ pC with ⟨rfl,aV⟩|⟨cr,Wg,rfl,rfl⟩|⟨k4,Ja,IJ,p,FU,e1,e2,bM,db,rfl⟩
    ·obtain⟨e,he,FT⟩:=u2 pC;exact .pure (ah e he nu FT) (bF.all _ h2 _)
    ·exact .oi _ _ _
    ·have ml:s.ak ew k4=some p:=by unfold S.ak;rw[agy];exact e1
     have hlen : ∀e∈p.es,e.length=p.sz:=by
      have gv:=eu.obj ew k4 p ml
      cases ag:aF ew k4 with
      | none=>rw[ag] at gv;simp only[ka] at gv;rw[gv];simp
      | some q=>rw[ag] at gv;obtain⟨_,_,_,_,e,_⟩:=gv;exact e
     have Vm:iQ s a6 bL q (.bf ew k4 Ja IJ) (.isl p.sz ((p.es.drop Ja).take IJ)):=(by refine .isl ml e2 (H.aV ew a2.2 k4 p ml e2) bM db (fun e he=>hlen e (List.mem_of_mem_drop (List.mem_of_mem_take he))) (by simp;omega) fun j z alm cD uG=> ?_;rw[cD] at uG;simp at uG;subst uG;obtain⟨e,he,ahH⟩:=u2 cD;exact .pure (db e he z ahH) (bF.all _ e2 _));rcases FU with rfl|⟨cM,akH,kj,rfl,rfl,rfl⟩
     ·exact Vm
     ·exact .ps Vm
   ·simp at h
  ·simp at h
 | n7 sz =>
  simp only[mX] at h;split at h
  ·simp only[dB,dD] at h;obtain⟨rfl,rfl⟩:=h;exact .Iw _
  ·split at h
   ·rename_i e;subst e;simp only[dB,dD] at h;obtain⟨rfl,rfl⟩:=h;exact .gr (.pure (ai.Ce rfl) a4)
   ·simp at h
  ·simp at h
theorem Ek (eu:jq g s aF w)(H:n8 s a6 cc bL)(bF:vY q bL){l:List tS}{c eG:List aG}{ak:List Prop}(h:mY (mX s.a0 cc a6 bL) l c=some (eG,ak))(bs:∀p∈ak,p)
 (a4 : ∀x∈c,q x) {vs:List Value} (aS:vs.length=c.length) (ai : ∀(j:Nat) x u,c[j]? = some x->vs[j]? = some u->Rel w (s.ok g aF w) s.bd (s.bk aF) x u) :
 eG.length=c.length/\ ∀(j:Nat) x c7,c[j]? = some x->eG[j]? = some c7->iQ s a6 bL q x c7:=by
 obtain⟨e1,e2,bM⟩:=HM _ l c eG ak h;refine⟨e1,fun j x c7 ab ex=> ?_⟩;obtain⟨y,cn,f1,f2,f3⟩:=bM j x c7 ab ex;have eA:j<vs.length:=by have:=gF ab;omega
 exact LN eu H bF f2 (fun p ag=>bs p (f3 p ag)) (a4 x (dH ab)) (ai j x _ ab (dy eA))
theorem LO (eu:jq g s aF w)(H:n8 s a6 cc bL)(bF:vY q bL){c:CV}{x c7:aG}{ak:List Prop}(h:pX s.a0 cc a6 bL c x=some (c7,ak))(bs:∀p∈ak,p)
 (a4:q x) {v:Value} (ai:Rel w (s.ok g aF w) s.bd (s.bk aF) x v):iQ s a6 bL q x c7:=by
 cases c with
 | cM c =>
  simp only[pX] at h;split at h
  ·rename_i aV
   split at h
   ·simp only[dB,dD] at h;obtain⟨rfl,rfl⟩:=h;exact .pure (ai.Ix aV) a4
   ·simp only[dB,dD] at h;obtain⟨rfl,rfl⟩:=h;exact .dead _
   ·simp only[dB,dD] at h;obtain⟨rfl,rfl⟩:=h;have e:=bs _ (List.mem_singleton.2 rfl);subst e;exact .pure (ai.Ix aV) a4
   ·exact LN eu H bF h bs a4 ai
  ·exact LN eu H bF h bs a4 ai
 | agg l =>
  cases x<;>simp only[pX,reduceCtorEq] at h;rename_i c;split at h
  ·rename_i eG o4 a2;simp only[dB,dD] at h;obtain⟨rfl,rfl⟩:=h;obtain⟨vs,rfl,aS,-,FV⟩:=ai.BP;obtain⟨e1,e2⟩:=Ek eu H bF a2 bs (fun y aZ=>bF.agg _ _ a4 aZ) aS FV;exact .agg e1 e2
  ·simp at h
 | ptr l =>
  cases x<;>simp only[pX,reduceCtorEq] at h;rename_i r k i off;split at h
  ·rename_i o an
   split at h
   ·rename_i c iH
    split at h
    ·rename_i a2
     simp only[dM,Option.isNone_iff_eq_none] at a2;split at h
     ·rename_i eG o4 jD
      simp only[dB,dD] at h;obtain⟨rfl,rfl⟩:=h;have eH:s.ak r k=some o:=an;have gv:=eu.obj r k o eH
      cases ag:aF r k with
      | none=>rw[ag] at gv;simp only[ka] at gv;rw[iH] at gv;simp at gv
      | some q =>
       obtain⟨b,m⟩:=q;rw[ag] at gv;obtain⟨cI,fu,g1,g2,g3,g4⟩:=gv;have MX:c.length=o.sz:=g3 c (by rw[iH];simp);have kP:o.es.flatten=c:=(by rw[iH];simp);have hcs : ∀j:Nat,j<c.length-> ∃u,cI[j]? = some u/\Rel w (s.ok g aF w) s.bd (s.bk aF) c[j]! u:=(by intro j au;obtain⟨u,jR,-,h9⟩:=g4 j c[j] (by rw[kP];exact dy au);exact⟨u,jR,by rw[getElem!_pos c j au];exact h9⟩);obtain⟨e1,e2⟩:=Ek (vs:=(List.range c.length).map fun j=>(cI[j]?).getD undef) eu H bF jD (fun p ag=>bs p (by simp[ag])) (fun y _=>bF.all _ a2.1 y) (by simp) (by intro j y u aZ hu;have au:=gF aZ;rw[dJ,List.getElem?_range au] at hu;simp only[Option.map_some,dB] at hu;obtain⟨mu,jR,h9⟩:=hcs j au;rw[jR] at hu;simp at hu;subst hu;rw[dy au] at aZ;simp at aZ;subst aZ;rw[getElem!_pos c j au] at h9;exact h9);have vr:jk [eG]:=bs _ (by simp);refine .fB i off eH a2.1 (H.aV r a2.2 k o eH a2.1) (by rw[iH];simp) vr (by simp;omega) (by rw[iH];rfl) ?_
       ·intro j y nu aZ pC;rw[kP] at aZ;simp only[List.flatten_cons,List.flatten_nil,List.append_nil] at pC;exact e2 j y nu aZ pC
     ·simp at h
    ·simp at h
   ·simp at h
  ·simp at h
 | vA l =>
  simp only[pX] at h;split at h
  ·rename_i r k
   split at h
   ·rename_i o an
    split at h
    ·rename_i c iH
     split at h
     ·rename_i a2
      simp only[dM,Option.isNone_iff_eq_none] at a2;split at h
      ·rename_i eG o4 jD
       simp only[dB,dD] at h;obtain⟨rfl,rfl⟩:=h;have eH:s.ak r k=some o:=an;have gv:=eu.obj r k o eH
       cases ag:aF r k with
       | none=>rw[ag] at gv;simp only[ka] at gv;rw[iH] at gv;simp at gv
       | some q =>
        obtain⟨b,m⟩:=q;rw[ag] at gv;obtain⟨cI,fu,g1,g2,g3,g4⟩:=gv;have MX:c.length=o.sz:=g3 c (by rw[iH];simp);have kP:o.es.flatten=c:=(by rw[iH];simp);have hcs : ∀j:Nat,j<c.length-> ∃u,cI[j]? = some u/\Rel w (s.ok g aF w) s.bd (s.bk aF) c[j]! u:=(by intro j au;obtain⟨u,jR,-,h9⟩:=g4 j c[j] (by rw[kP];exact dy au);exact⟨u,jR,by rw[getElem!_pos c j au];exact h9⟩);obtain⟨e1,e2⟩:=Ek (vs:=(List.range c.length).map fun j=>(cI[j]?).getD undef) eu H bF jD (fun p ag=>bs p (by simp[ag])) (fun y _=>bF.all _ a2.1 y) (by simp) (by intro j y u aZ hu;have au:=gF aZ;rw[dJ,List.getElem?_range au] at hu;simp only[Option.map_some,dB] at hu;obtain⟨mu,jR,h9⟩:=hcs j au;rw[jR] at hu;simp at hu;subst hu;rw[dy au] at aZ;simp at aZ;subst aZ;rw[getElem!_pos c j au] at h9;exact h9);have vr:jk [eG]:=bs _ (by simp);refine .gr (.fB 0 0 eH a2.1 (H.aV r a2.2 k o eH a2.1) (by rw[iH];simp) vr (by simp;omega) (by rw[iH];rfl) ?_)
        ·intro j y nu aZ pC;rw[kP] at aZ;simp only[List.flatten_cons,List.flatten_nil,List.append_nil] at pC;exact e2 j y nu aZ pC
      ·simp at h
     ·simp at h
    ·simp at h
   ·simp at h
  ·simp at h
theorem Ep (eu:jq g s aF w)(H:n8 s a6 cc bL)(bF:vY q bL){c:mL}{x c7:aG}{ak:List Prop}(h:pj s.a0 cc a6 bL c x=some (c7,ak))(bs:∀p∈ak,p)
 (a4:q x) {v:Value} (ai:Rel w (s.ok g aF w) s.bd (s.bk aF) x v):iQ s a6 bL q x c7:=by
 have key : ∀(l:List CV) (c eG:List aG) (o4:List Prop) (vs:List Value),mY (pX s.a0 cc a6 bL) l c=some (eG,o4)->(∀p∈o4,p)->(∀x∈c,q x)->vs.length=c.length ->
  (∀(j:Nat) x u,c[j]? = some x->vs[j]? = some u->Rel w (s.ok g aF w) s.bd (s.bk aF) x u)->eG.length=c.length/\ ∀(j:Nat) x c7,c[j]? = some x->eG[j]? = some c7->iQ s a6 bL q x c7:=by
  intro l c eG o4 vs h bs a4 aS ai;obtain⟨e1,e2,bM⟩:=HM _ l c eG o4 h;refine⟨e1,fun j x c7 ab ex=> ?_⟩;obtain⟨y,cn,f1,f2,f3⟩:=bM j x c7 ab ex;have eA:j<vs.length:=(by have:=gF ab;omega);exact LO eu H bF f2 (fun p ag=>bs p (f3 p ag)) (a4 x (dH ab)) (ai j x _ ab (dy eA))
 cases c with
 | bl c =>
  simp only[pj] at h;split at h
  ·rename_i aV
   split at h
   ·simp only[dB,dD] at h;obtain⟨rfl,rfl⟩:=h;exact .pure (ai.agx aV) a4
   ·exact LO eu H bF h bs a4 ai
  ·exact LO eu H bF h bs a4 ai
 | comp l =>
  cases x<;>simp only[pj,reduceCtorEq] at h
  ·rename_i c
   split at h
   ·rename_i eG o4 a2;simp only[dB,dD] at h;obtain⟨rfl,rfl⟩:=h;obtain⟨vs,rfl,aS,FV⟩:=ai.BQ;obtain⟨e1,e2⟩:=key l c eG o4 vs a2 bs (fun y aZ=>bF.dY _ _ a4 aZ) aS FV;exact .dY e1 e2
   ·simp at h
  ·rename_i f c
   split at h
   ·rename_i eG o4 a2;simp only[dB,dD] at h;obtain⟨rfl,rfl⟩:=h;obtain⟨vs,rfl,aS,FV⟩:=ai.Ik;obtain⟨e1,e2⟩:=key l c eG o4 vs a2 bs (fun y aZ=>bF.fn _ _ _ a4 aZ) aS FV;exact .fn e1 e2
   ·simp at h
theorem Vn (eu:jq g s aF w)(H:n8 s a6 cc bL){r:Nat}{lg:Nat->Nat}{row:List a1}(el:∀k o,eb (some row) k=some o->s.ak r (lg k)=some o)
 (a4 : ∀k o,eb (some row) k=some o-> ∀e∈o.es,∀x∈e,q x) :
 ∀(k:Nat) cn,eb (some (row.map (kE cc))) k=some cn-> ∃o,eb (some row) k=some o/\qa s a6 bL q o cn:=by
 intro k cn eH;rw[lv,dJ] at eH
 cases aX:row[k]? with
 | none=>rw[aX] at eH;simp at eH
 | some o =>
  rw[aX] at eH;simp only[Option.map_some,dA] at eH;split at eH
  ·simp at eH
  ·rename_i dt
   simp only[dB] at eH;subst eH;have an:eb (some row) k=some o:=(by rw[lv,aX,dA,dz (by simpa [kE] using dt)]);have bJ:s.ak r (lg k)=some o:=el k o an;refine⟨o,an,?_⟩;have gv:=eu.obj r (lg k) o bJ
   have hlen : ∀e∈o.es,e.length=o.sz:=by
    cases ag:aF r (lg k) with
    | none=>rw[ag] at gv;simp only[ka] at gv;rw[gv];simp
    | some q=>rw[ag] at gv;obtain⟨_,_,_,_,e,_⟩:=gv;exact e
   refine⟨rfl,.inl rfl,by simp[kE],?_,fun j x c7 ab ex=> ?_⟩
   ·intro e he;simp only[kE,List.mem_map] at he;obtain⟨e5,nj,rfl⟩:=he;simpa using hlen e5 nj
   ·simp only[kE] at ex
    rw[map_flatten,dJ,ab] at ex;simp only[Option.map_some,dB] at ex;subst ex;obtain⟨e,he,s3⟩:=u2 ab;have ahI:=a4 k o an e he x s3
    cases ag:aF r (lg k) with
    | none=>rw[ag] at gv;simp only[ka] at gv;rw[gv] at ab;simp at ab
    | some vX =>
     obtain⟨b,m⟩:=vX;rw[ag] at gv;obtain⟨c,fu,f1,f2,f3,f4⟩:=gv;obtain⟨u,jR,mb,h9⟩:=f4 j x ab
     cases x with
     | ref r2 k4 i2 ag3 =>
      cases cj:cc r2 with
      | none=>simp only[pB,cj];exact .dead _
      | some zq=>simp only[pB,cj];exact .ref i2 ag3 (H.ad _ _ cj _) (by cases h9<;>assumption)
     | bf r2 k4 Ja IJ =>
      cases cj:cc r2 with
      | none=>simp only[pB,cj];exact .dead _
      | some zq=>simp only[pB,cj];exact .bf Ja IJ (H.ad _ _ cj _) (by cases h9<;>assumption)
     | jP r2 cr Wg h2 =>
      cases cj:cc r2 with
      | none=>simp only[pB,cj];exact .dead _
      | some zq=>simp only[pB,cj];exact .jP h2 (fun k=>H.ad _ _ cj _)
     | _ =>
      simp only[pB];split
      ·rename_i aV;exact .pure (h9.Ce aV) ahI
      ·exact .dead _
theorem HN (eu:jq g s aF w)(H:n8 s a6 cc bL)(bF:vY q bL){c:ju}{r:Nat}{lg:Nat->Nat}{row eL:List a1}{ak:List Prop}(el:∀k o,eb (some row) k=some o->s.ak r (lg k)=some o)
 (h:kb s.a0 cc a6 bL c row=some (eL,ak)) (bs : ∀p∈ak,p) (a4 : ∀k o,eb (some row) k=some o-> ∀e∈o.es,∀x∈e,q x) :
 eL.length=row.length/\(∀k o,eb (some row) k=some o->o.cO = .live) /\
 ∀(k:Nat) cn,eb (some eL) k=some cn-> ∃o,eb (some row) k=some o/\qa s a6 bL q o cn:=by
 have hlen : ∀k o,eb (some row) k=some o-> ∀e∈o.es,e.length=o.sz:=by
  intro k o an;have eH:s.ak r (lg k)=some o:=el k o an;have gv:=eu.obj r (lg k) o eH
  cases ag:aF r (lg k) with
  | none=>rw[ag] at gv;simp only[ka] at gv;rw[gv];simp
  | some q=>rw[ag] at gv;obtain⟨_,_,_,_,e,_⟩:=gv;exact e
 have vr:wm row->(∀k o,eb (some row) k=some o->o.cO = .live) /\
  ∀(k:Nat) cn,eb (some row) k=some cn-> ∃o,eb (some row) k=some o/\qa s a6 bL q o cn:=by
  intro ag
  have sW : ∀k o,eb (some row) k=some o->o∈row:=by
   intro k o an;unfold eb at an;simp only at an;split at an
   ·rename_i cn eH
    split at an
    ·simp at an
    ·simp at an;subst an;exact dH eH
   ·simp at an
  refine⟨fun k o an=>(ag o (sW k o an)).2,fun k o an=>⟨o,an,rfl,.inl rfl,rfl,hlen k o an,fun j x c7 ab ex=> ?_⟩⟩;rw[ab] at ex;simp at ex;subst ex;obtain⟨e,he,s3⟩:=u2 ab;exact .pure ((ag o (sW k o an)).1 e he x s3) (a4 k o an e he x s3)
 cases c with
 | pure =>
  simp only[kb,dB,dD] at h;obtain⟨rfl,rfl⟩:=h;exact⟨rfl,vr (bs _ (by simp))⟩
 | cK aD =>
  simp only[kb,dB,dD] at h;obtain⟨rfl,rfl⟩:=h;have e:row=aD:=bs _ (by simp);subst e;exact⟨rfl,vr (bs _ (by simp))⟩
 | bn aD =>
  simp only[kb,dB,dD] at h;obtain⟨rfl,rfl⟩:=h;have e:aD=row.map (kE cc):=bs _ (by simp);have Ns:nT row:=bs _ (by simp);subst e
  refine⟨by simp,fun k o an=>by
   unfold eb at an;simp only at an;split at an
   ·rename_i cn eH
    split at an
    ·simp at an
    ·rename_i dt;simp at an;subst an;exact(Ns _ (dH eH)).resolve_right dt
   ·simp at an,Vn eu H el a4⟩
 | rx aD=>cases row with
  | nil=>simp[kb] at h
  | cons o l=>cases l<;>simp[kb] at h
 | drop=>cases row with
  | nil=>simp[kb] at h
  | cons o l=>cases l<;>simp[kb] at h
 | box l =>
  match row,h with
  | [o],h =>
   simp only[kb] at h;split at h
   ·rename_i c iH
    split at h
    ·rename_i pz
     split at h
     ·rename_i eG o4 a2
      simp only[dB,dD] at h;obtain⟨rfl,rfl⟩:=h;have h0:eb (some [o]) 0=some o:=(by rw[nx];simp[pz]);refine⟨rfl,fun k p ag=> ?_,fun k p ag=> ?_⟩
      ·rw[nx] at ag
       split at ag
       ·simp at ag;subst ag;exact pz
       ·simp at ag
      ·rw[nx] at ag
       split at ag
       ·rename_i vJ
        obtain⟨rfl,-⟩:=vJ;simp only[dB] at ag;subst ag;refine⟨o,h0,?_⟩;have eH:s.ak r (lg 0)=some o:=el 0 o h0;have gv:=eu.obj r (lg 0) o eH
        cases ly:aF r (lg 0) with
        | none=>rw[ly] at gv;simp only[ka] at gv;rw[iH] at gv;simp at gv
        | some q =>
         obtain⟨b,m⟩:=q;rw[ly] at gv;obtain⟨cI,fu,g1,g2,g3,g4⟩:=gv;have MX:c.length=o.sz:=g3 c (by rw[iH];simp);have kP:o.es.flatten=c:=(by rw[iH];simp);obtain⟨e1,e2⟩:=Ek (vs:=(List.range c.length).map fun j=>(cI[j]?).getD undef) eu H bF a2 bs (fun y aZ=>a4 0 o h0 c (by rw[iH];simp) y aZ) (by simp) (by intro j y u aZ hu;have au:=gF aZ;rw[dJ,List.getElem?_range au] at hu;simp only[Option.map_some,dB] at hu;obtain⟨mu,jR,-,h9⟩:=g4 j y (by rw[kP];exact aZ);rw[jR] at hu;simp at hu;subst hu;exact h9);refine⟨rfl,.inl rfl,by simp[iH],by simp;omega,fun j x c7 ab ex=> ?_⟩;rw[kP] at ab;simp only[List.flatten_cons,List.flatten_nil,List.append_nil] at ex;exact e2 j x c7 ab ex
       ·simp at ag
     ·simp at h
    ·simp at h
   ·simp at h
  | [],h=>simp[kb] at h
  | _::_::_,h=>simp[kb] at h
end
def HO (P:Program)(f:FuncId):Prop:= ∃fn,P.funcs[f]? = some fn/\(fn.name == "runtime.NumGoroutine")=false/\fn.body.isSome=true
def Con (P:Program)(f:FuncId)(args:List aG)(T:List (List a1))(r:aG)(h4:List (List a1)):Prop:=HO P f/\agu P f args T r h4
def vt (k:hi):Bool:=k = .jX
def lK (_:hi):Bool:=true
def l4 (_:hi):Bool:=false
def Src.r:Src->Nat
 | .row r=>r
 | .ak r _ _=>r
def Src.has:Src->Nat->Nat->Prop
 | .row r,q,_=>q=r
 | .ak r k _,q,ey=>q=r/\ey=k
def Src.lq:Src->Nat->Nat
 | .row _,k=>k
 | .ak ..,_=>0
def lQ (l:List Src):hR:=fun j i=>match l[j]? with
 | some (.row r)=>some (r,i)
 | some (.ak r k _)=>if i=0 then some (r,k) else none
 | none=>none
def qG (n:Nat):List Src->Nat->Option Nat
 | [],_=>none
 | .row r::l,q=>if r=q then some n else qG (n+1) l q
 | .ak .. :: l,q=>qG (n+1) l q
def kp (n:Nat):List Src->hR
 | [],_,_=>none
 | .row r::l,q,k=>if q=r then some (n,k) else kp (n+1) l q k
 | .ak r ey _::l,q,k=>if q=r/\k=ey then some (n,0) else kp (n+1) l q k
def vu (l:List Src):Nat->Option Nat:=fun j=>match l[j]? with
 | some (.row r)=>some r
 | _=>none
def apart:Src->Src->Option (List Prop)
 | .ak r k _,.ak fv ey _=>if r=fv then some [k≠ey] else some []
 | a,b=>if a.r=b.r then none else some []
def Im (a:Src):List Src->Option (List Prop)
 | []=>some []
 | b::l=>match apart a b,Im a l with
  | some x,some y=>some (x++y)
  | _,_=>none
def Iy:List Src->Option (List Prop)
 | []=>some []
 | a::l=>match Im a l,Iy l with
  | some x,some y=>some (x++y)
  | _,_=>none
def Fv (l:List Src):Prop:=l.Pairwise fun a b=> ∀r k,¬(a.has r k/\b.has r k)
theorem aeg {a b:Src}{ak:List Prop}(h:apart a b=some ak)(bs:∀p∈ak,p): ∀r k,¬(a.has r k/\b.has r k):=by
 rintro r k ⟨h1,h2⟩
 have ai : ∀c:Src,c.has r k->c.r=r:=fun c a2=>by
  cases c with
  | row r0=>exact Eq.symm a2
  | ak r0 kj mO=>exact Eq.symm a2.1
 have e:=(ai a h1).trans (ai b h2).symm
 cases a with
 | row r0=>simp only[apart] at h;rw[dw e] at h;simp at h
 | ak r0 kj mO =>
  cases b with
  | row r1=>simp only[apart] at h;rw[dw e] at h;simp at h
  | ak r1 lT bO =>
   simp only[apart] at h;rw[dw (show r0=r1 from e)] at h;simp only[dB] at h;subst h;exact bs _ (List.mem_singleton.2 rfl) (h1.2.symm.trans h2.2)
theorem S4 {a:Src}: ∀ {l:List Src} {ak:List Prop},Im a l=some ak->(∀p∈ak,p)-> ∀b∈l,∀r k,¬(a.has r k/\b.has r k)
 | [],_,_,_,_,aU=>by simp at aU
 | b::l,ak,h,bs,c,a2=>by
  simp only[Im] at h;split at h
  ·rename_i x y h1 h2
   simp only[dB] at h;subst h;rcases List.mem_cons.1 a2 with rfl|a2
   ·exact aeg h1 fun p ag=>bs p (by simp[ag])
   ·exact S4 h2 (fun p ag=>bs p (by simp[ag])) c a2
  ·simp at h
theorem TD : ∀ {l:List Src} {ak:List Prop},Iy l=some ak->(∀p∈ak,p)->Fv l
 | [],_,_,_=>List.Pairwise.nil
 | a::l,ak,h,bs=>by
  simp only[Iy] at h;split at h
  ·rename_i x y h1 h2;simp only[dB] at h;subst h;exact List.pairwise_cons.2 ⟨S4 h1 fun p ag=>bs p (by simp[ag]),TD h2 fun p ag=>bs p (by simp[ag])⟩
  ·simp at h
theorem wt {l:List Src}{j i r k:Nat}:lQ l j i=some (r,k)↔ ∃a,l[j]? = some a/\a.has r k/\i=a.lq k:=by
 unfold lQ
 cases h:l[j]? with
 | none=>simp
 | some a =>
  cases a with
  | row r0 =>
   simp only[dB,dD,exists_eq_left',Src.has,Src.lq];constructor<;>rintro⟨a,b⟩<;>exact⟨a.symm,b⟩
  | ak r0 kj o =>
   simp only[dB,exists_eq_left',Src.has,Src.lq];by_cases e:i=0
   ·rw[dw e];simp only[dB,dD,e,and_true];constructor<;>rintro⟨a,b⟩<;>exact⟨a.symm,b.symm⟩
   ·rw[dz e];simp[e]
theorem x9 : ∀ {l:List Src} {n r k j i:Nat},kp n l r k=some (j,i)-> ∃a,n<=j/\l[j-n]? = some a/\a.has r k/\i=a.lq k
 | [],_,_,_,_,_,h=>by simp[kp] at h
 | .row r0::l,n,r,k,j,i,h=>by
  simp only[kp] at h;split at h
  ·rename_i e;simp only[dB,dD] at h;obtain⟨rfl,rfl⟩:=h;exact⟨.row r0,dE _,by simp,e,rfl⟩
  ·obtain⟨a,h1,h2,R,ah⟩:=x9 h;exact⟨a,by omega,by rw[show j-n=(j-(n+1))+1 by omega,List.getElem?_cons_succ];exact h2,R,ah⟩
 | .ak r0 kj o::l,n,r,k,j,i,h=>by
  simp only[kp] at h;split at h
  ·rename_i e;simp only[dB,dD] at h;obtain⟨rfl,rfl⟩:=h;exact⟨.ak r0 kj o,dE _,by simp,e,rfl⟩
  ·obtain⟨a,h1,h2,R,ah⟩:=x9 h;exact⟨a,by omega,by rw[show j-n=(j-(n+1))+1 by omega,List.getElem?_cons_succ];exact h2,R,ah⟩
theorem uk (n:Nat)(a:Src)(l:List Src)(r k:Nat)(h:¬a.has r k):kp n (a::l) r k=kp (n+1) l r k:=by cases a<;>simp only[kp,Src.has] at h ⊢ <;> rw[dz h]
theorem aeh (n:Nat)(a:Src)(l:List Src)(r k:Nat)(h:a.has r k):kp n (a::l) r k=some (n,a.lq k):=by cases a<;>simp only[kp,Src.has,Src.lq] at h ⊢ <;> rw[dw h]
theorem EL : ∀ {l:List Src} {n r k j:Nat} {a:Src},Fv l->l[j]? = some a->a.has r k->kp n l r k=some (n+j,a.lq k)
 | b::l,n,r,k,0,a,_,h,bG=>by simp at h;subst h;exact aeh n b l r k bG
 | b::l,n,r,k,j+1,a,bF,h,bG=>by simp at h;have bF:=List.pairwise_cons.1 bF;rw[uk n b l r k fun aU=>bF.1 a (dH h) r k ⟨aU,bG⟩,EL (j:=j) bF.2 h bG];congr 2;omega
theorem afN {a:Src}{r k fv ey:Nat}(h:a.has r k)(cX:a.has fv ey)(e:a.lq k=a.lq ey):r=fv/\k=ey:=by cases a<;>simp only[Src.has,Src.lq] at h cX e<;>omega
theorem afb {l:List Src}{n r k fv ey:Nat}{p:Nat×Nat}(h:kp n l r k=some p)(cX:kp n l fv ey=some p):r=fv/\k=ey:=by obtain⟨j,i⟩:=p;obtain⟨a,h1,h2,R,ah⟩:=x9 h;obtain⟨ej,s0,Nt,ahJ,akI⟩:=x9 cX;rw[h2] at Nt;simp at Nt;subst Nt;exact afN R ahJ (by omega)
theorem Lz : ∀ {l:List Src} {n r j:Nat},qG n l r=some j->n<=j/\l[j-n]? = some (.row r)
 | [],_,_,_,h=>by simp[qG] at h
 | .row r0::l,n,r,j,h=>by
  simp only[qG] at h;split at h
  ·rename_i e;simp at h;subst h;subst e;exact⟨dE _,by simp⟩
  ·obtain⟨h1,h2⟩:=Lz h;exact⟨by omega,by rw[show j-n=(j-(n+1))+1 by omega,List.getElem?_cons_succ];exact h2⟩
 | .ak r0 kj o::l,n,r,j,h=>by simp only[qG] at h;obtain⟨h1,h2⟩:=Lz h;exact⟨by omega,by rw[show j-n=(j-(n+1))+1 by omega,List.getElem?_cons_succ];exact h2⟩
theorem S5 : ∀ {l:List Src} {n r:Nat},qG n l r=none->Src.row r ∉ l
 | [],_,_,_=>by simp
 | .row r0::l,n,r,h=>by
  simp only[qG] at h;split at h
  ·simp at h
  ·rename_i e;simp only[List.mem_cons,Src.row.injEq,not_or];exact⟨fun h=>e h.symm,S5 h⟩
 | .ak r0 kj o::l,n,r,h=>by simp only[qG] at h;simp only[List.mem_cons,reduceCtorEq,false_or];exact S5 h
def ny (a0:Nat->Option (List a1))(cc:Nat->Option Nat)(a6:hR):List Src->List ju->Option (List (List a1)×List Prop)
 | [],[]=>some ([],[])
 | .row r::l,c::dq=>match a0 r with
  | some row=>match kb a0 cc a6 vt c row,ny a0 cc a6 l dq with
   | some (eL,bO),some (T,aN)=>some (eL::T,bO++aN)
   | _,_=>none
  | none=>none
 | .ak r k o::l,c::dq=>match a0 r with
  | some row=>match kb a0 cc a6 vt c [o],ny a0 cc a6 l dq with
   | some (eL,bO),some (T,aN)=>some (eL::T,(eb (some row) k=some o)::(bO++aN))
   | _,_=>none
  | none=>none
 | _,_=>none
def mh (zr:Nat->Option (List a1))(cc:Nat->Option Nat)(lU:hR):(Nat->Option (List a1))->List Src->List ju->List (List a1)->Option (List (Nat×List a1)×List Prop)
 | _,[],[],[]=>some ([],[])
 | a0,.row q::l,c::dq,row::T=>match kb zr cc lU l4 c row with
  | some (eL,bO)=>match mh zr cc lU (fun x=>if x=q then some eL else a0 x) l dq T with
   | some (u,aN)=>some ((q,eL)::u,bO++aN)
   | none=>none
  | none=>none
 | a0,.ak q k _::l,c::dq,row::T=>match a0 q with
  | some m6=>match kb zr cc lU l4 c row with
   | some ([cn],bO)=>match mh zr cc lU (fun x=>if x=q then some (m6.set k cn) else a0 x) l dq T with
    | some (u,aN)=>some ((q,m6.set k cn)::u,bO++aN)
    | none=>none
   | _=>none
  | none=>none
 | _,_,_,_=>none
def oz (T:List (List a1)):Prop:= ∀row∈T,∀o∈row,∀e∈o.es,∀x∈e,bP x
def Cf (P:Program)(a0:Nat->Option (List a1))(a3:Nat)(f:FuncId)(args:List aG)(cI:Gz):Option iN :=
 let l:=if cI.fe.length=cI.a6.length then cI.a6 else cI.a6++[.row a3]
 match Iy cI.a6 with
 | none=>none
 | some mO =>
  if cI.a6.any (fun a=>decide (a.r=a3)) then none else
  if cI.fb then
   match cI.a6 with
   | [] =>
    match mY (pj a0 (fun _=>none) (lQ []) lK) cI.ac args,pj (fun j=>cI.fe[j]?) (vu l) (kp 0 l) l4 cI.gW cI.r,
     mh (fun j=>cI.fe[j]?) (vu l) (kp 0 l) a0 l cI.hZ cI.fe with
    | some (sQ,bO),some (fv,fw),some (u,eV)=>some {val:=fv,gI:=u,f5:=bO++fw++eV++[Con P f sQ [] cI.r cI.fe,bP cI.r]++(if cI.fe.isEmpty then [] else [oz cI.fe])}
    | _,_,_=>none
   | _=>none
  else
   match mY (pj a0 (qG 0 cI.a6) (lQ cI.a6) vt) cI.ac args,ny a0 (qG 0 cI.a6) (lQ cI.a6) cI.a6 cI.dq,
    pj (fun j=>cI.fe[j]?) (vu l) (kp 0 l) l4 cI.gW cI.r,mh (fun j=>cI.fe[j]?) (vu l) (kp 0 l) a0 l cI.hZ cI.fe with
   | some (sQ,bO),some (T,aN),some (fv,fw),some (u,eV) =>
    some {val:=fv,gI:=u,f5:=mO++bO++aN++fw++eV++[Con P f sQ T cI.r cI.fe]}
   | _,_,_,_=>none
theorem Sz {a0:Nat->Option (List a1)}{cc:Nat->Option Nat}{a6:hR}{bL:hi->Bool}{c:ju}{row eL:List a1}{ak:List Prop}(h:kb a0 cc a6 bL c row=some (eL,ak))(bs:∀p∈ak,p):
 ∀k o,eb (some row) k=some o->o.cO = .live:=by
 have sW : ∀k o,eb (some row) k=some o->o∈row/\o.cO≠ .gone:=by
  intro k o an;rw[lv] at an
  cases aX:row[k]? with
  | none=>rw[aX] at an;simp at an
  | some p =>
   rw[aX,dA] at an;split at an
   ·simp at an
   ·rename_i e;simp at an;subst an;exact⟨dH aX,e⟩
 intro k o an;obtain⟨h1,h2⟩:=sW k o an
 cases c with
 | pure =>
  simp only[kb,dB,dD] at h;obtain⟨rfl,rfl⟩:=h;exact((bs _ (List.mem_singleton.2 rfl):wm row) o h1).2
 | cK aD =>
  simp only[kb,dB,dD] at h;obtain⟨rfl,rfl⟩:=h;have e:row=aD:=bs _ (by simp);have ag:wm aD:=bs _ (by simp);exact(ag o (e▸h1)).2
 | bn aD =>
  simp only[kb,dB,dD] at h;obtain⟨rfl,rfl⟩:=h;have ag:nT row:=bs _ (by simp);exact(ag o h1).resolve_right h2
 | rx aD=>cases row with
  | nil=>simp[kb] at h
  | cons o l=>cases l<;>simp[kb] at h
 | drop=>cases row with
  | nil=>simp[kb] at h
  | cons o l=>cases l<;>simp[kb] at h
 | box l =>
  match row,h,h1 with
  | [p],h,h1 =>
   simp only[kb] at h;rw[List.mem_singleton] at h1;subst h1;split at h
   ·split at h
    ·rename_i e;exact e
    ·simp at h
   ·simp at h
  | [],h,_=>simp[kb] at h
  | _::_::_,h,_=>simp[kb] at h
section
variable {P:Program} {g:G} {s:S} {aF:gb} {a:Act} {w:World}
theorem LA (eu:jq g s aF w){a6:hR}{cc:Nat->Option Nat}(H:n8 s a6 cc vt): ∀(l:List Src) (dq:List ju) (T:List (List a1)) (ak:List Prop),
 ny s.a0 cc a6 l dq=some (T,ak)->(∀p∈ak,p)->T.length=l.length/\ ∀(j:Nat) eL b,T[j]? = some eL->l[j]? = some b ->
  (∀r k o,b.has r k->s.ak r k=some o->o.cO = .live)/\(∀r k,b.has r k->s.bd r k->b.lq k<eL.length) /\
  (∀r k o,b = .ak r k o->s.ak r k=some o) /\
  ∀(i:Nat) cn,eb (some eL) i=some cn-> ∃r k o,b.has r k/\i=b.lq k/\s.ak r k=some o/\qa s a6 vt nn o cn
 | [],[],T,ak,h,_=>by simp[ny] at h;obtain⟨rfl,rfl⟩:=h;exact⟨rfl,fun j eL r au=>by simp at au⟩
 | .row r::l,c::dq,T,ak,h,bs=>by
  simp only[ny] at h;split at h
  ·rename_i row el
   split at h
   ·rename_i aB bO oJ aN h1 h2
    simp only[dB,dD] at h;obtain⟨rfl,rfl⟩:=h;obtain⟨e1,e2⟩:=LA eu H l dq oJ aN h2 (fun p ag=>bs p (by simp[ag]));have kD : ∀k,s.ak r k=eb (some row) k:=fun k=>(by unfold S.ak;rw[el]);obtain⟨f0,f1,f2⟩:=HN (q:=nn) (lg:=id) eu H (wV _) (fun k o an=>(kD k).trans an) h1 (fun p ag=>bs p (by simp[ag])) (fun _ _ _ _ _ _ _=>trivial);refine⟨by simp[e1],fun j eL b au aU=> ?_⟩
    cases j with
    | zero =>
     simp at au aU;subst au;subst aU;refine⟨fun q k o a4 an=> ?_,fun q k a4 hu=> ?_,fun _ _ _ e=>by simp at e,fun i cn eH=> ?_⟩
     ·have a4:q=r:=a4;subst a4;rw[kD] at an;exact f1 k o an
     ·have a4:q=r:=a4;subst a4;rw[f0];simpa [S.bd,el,Src.lq] using hu
     ·obtain⟨o,g1,g2⟩:=f2 i cn eH;exact⟨r,i,o,rfl,rfl,(kD i).trans g1,g2⟩
    | succ j=>simp at au aU;exact e2 j eL b au aU
   ·simp at h
  ·simp at h
 | .ak r kj mO::l,c::dq,T,ak,h,bs=>by
  simp only[ny] at h;split at h
  ·rename_i row el
   split at h
   ·rename_i aB bO oJ aN h1 h2
    simp only[dB,dD] at h;obtain⟨rfl,rfl⟩:=h;obtain⟨e1,e2⟩:=LA eu H l dq oJ aN h2 (fun p ag=>bs p (by simp[ag]));have an:s.ak r kj=some mO:=by unfold S.ak;rw[el];exact bs _ (by simp)
    have nh : ∀k o,eb (some [mO]) k=some o->k=0/\o=mO:=fun k o aX=>by
     rw[nx] at aX;split at aX
     ·rename_i e;simp at aX;exact⟨e.1,aX.symm⟩
     ·simp at aX
    have Nu:mO.cO≠ .gone:=by
     unfold S.ak at an;rw[el,lv] at an
     cases aX:row[kj]? with
     | none=>rw[aX] at an;simp at an
     | some p =>
      rw[aX,dA] at an;split at an
      ·simp at an
      ·rename_i e;simp at an;subst an;exact e
    obtain⟨f0,f1,f2⟩:=HN (q:=nn) (lg:=fun _=>kj) (r:=r) eu H (wV _) (fun k o aX=>by rw[(nh k o aX).2];exact an) h1 (fun p ag=>bs p (by simp[ag])) (fun _ _ _ _ _ _ _=>trivial);refine⟨by simp[e1],fun j eL b au aU=> ?_⟩
    cases j with
    | zero =>
     simp at au aU;subst au;subst aU;refine⟨fun q k o a4 sb=> ?_,fun q k a4 hu=> ?_,fun fv ey cn e=> ?_,fun i cn eH=> ?_⟩
     ·obtain⟨rfl,rfl⟩:q=r/\k=kj:=a4;rw[an] at sb;simp at sb;subst sb;exact f1 0 mO (by rw[nx];simp[Nu])
     ·rw[f0];simp[Src.lq]
     ·cases e;exact an
     ·obtain⟨o,g1,g2⟩:=f2 i cn eH;obtain⟨rfl,rfl⟩:=nh i o g1;exact⟨r,kj,o,⟨rfl,rfl⟩,rfl,an,g2⟩
    | succ j=>simp at au aU;exact e2 j eL b au aU
   ·simp at h
  ·simp at h
 | [],_::_,_,_,h,_=>by simp[ny] at h
 | .row _::_,[],_,_,h,_=>by simp[ny] at h
 | .ak .. :: _,[],_,_,h,_=>by simp[ny] at h
theorem Lp {gY:G}{s1:S}{ma:gb}{bT:World}(eu:jq gY s1 ma bT){lU:hR}{q:aG->Prop}{cc:Nat->Option Nat}(H:n8 s1 lU cc l4)(bF:vY q l4)
 (a4 : ∀j i o,s1.ak j i=some o-> ∀e∈o.es,∀x∈e,q x) :
 ∀(l:List Src) (dq:List ju) (T:List (List a1)) (u:List (Nat×List a1)) (ak:List Prop) (n:Nat) (s:S),Fv l->(∀j row,T[j]? = some row->s1.a0 (n+j)=some row) ->
 (∀r k j i,kp n l r k=some (j,i)->s.bd r k->s1.bd j i)->(∀r k o,Src.ak r k o∈l->s.bd r k) ->
 mh s1.a0 cc lU s.a0 l dq T=some (u,ak)->(∀p∈ak,p)->T.length=l.length/\(s.je u).E=s.E /\
  (∀r k o,(s.je u).ak r k=some o->(∃j i p,kp n l r k=some (j,i)/\s1.ak j i=some p/\qa s1 lU l4 q p o)\/(kp n l r k=none/\s.ak r k=some o)) /\
  (∀r k,s.bd r k->(s.je u).bd r k)/\(∀r k j i,kp n l r k=some (j,i)->s1.bd j i->(s.je u).bd r k)
 | [],[],[],u,ak,n,s,_,_,_,_,h,_=>by simp[mh] at h;obtain⟨rfl,rfl⟩:=h;exact⟨rfl,rfl,fun r k o an=> .inr ⟨rfl,an⟩,fun r k h=>h,fun r k j i h=>by simp[kp] at h⟩
 | .row q0::l,c::dq,row::T,u,ak,n,s,tc,h3,hu,tH,h,bs=>by
  simp only[mh] at h;split at h
  ·rename_i eL bO h1
   split at h
   ·rename_i mb aN h2
    simp only[dB,dD] at h;obtain⟨rfl,rfl⟩:=h;have FW:=List.pairwise_cons.1 tc;have jf:s1.a0 n=some row:=h3 0 row rfl;have yW : ∀k,s1.ak n k=eb (some row) k:=fun k=>(by unfold S.ak;rw[jf]);obtain⟨f0,f1,f2⟩:=HN (q:=q) (lg:=id) (r:=n) eu H bF (fun k o an=>(yW k).trans an) h1 (fun p ag=>bs p (by simp[ag])) (fun k o an=>a4 n k o ((yW k).trans an));have hq : ∀k j i,kp (n+1) l q0 k≠some (j,i):=fun k j i hm=>by obtain⟨b,ji,ig,sn,Of⟩:=x9 hm;exact FW.1 b (dH ig) q0 k ⟨rfl,sn⟩
    have Cp : ∀r k,s.bd r k->(s.setRow q0 eL).bd r k:=fun r k aX=>by
     rw[oP];by_cases e:r=q0
     ·subst e;rw[dw rfl,f0];have:=hu r k n k (by simp[kp]) aX;simpa [S.bd,jf] using this
     ·rw[dz e];exact aX
    obtain⟨e1,e2,bM,db,dW⟩:=Lp eu H bF a4 l dq T mb aN (n+1) (s.setRow q0 eL) FW.2 (fun j row au=>by rw[Nat.add_assoc,Nat.add_comm 1 j];exact h3 (j+1) row (by simpa using au))
     (fun r k j i hm aX=>by have c9:r≠q0:=(by rintro rfl;exact hq _ _ _ hm);refine hu r k j i ?_ (by rw[oP,dz c9] at aX;exact aX);rw[uk n (.row q0) l r k c9];exact hm)
     (fun r k o hm=>Cp r k (tH r k o (by simp[hm]))) h2 (fun p ag=>bs p (by simp[ag]))
    refine⟨by simp[e1],e2,fun r k o an=> ?_,fun r k aX=>db r k (Cp r k aX),fun r k j i hm aX=> ?_⟩
    ·rcases bM r k o an with ⟨j,i,p,ji,ig,sn⟩|⟨ji,ig⟩
     ·have c9:r≠q0:=(by rintro rfl;exact hq _ _ _ ji);exact .inl ⟨j,i,p,by rw[uk n (.row q0) l r k c9];exact ji,ig,sn⟩
     ·rw[mT] at ig
      by_cases e:r=q0
      ·subst e;rw[dw rfl] at ig;obtain⟨p,g1,g2⟩:=f2 k o ig;exact .inl ⟨n,k,p,by simp[kp],(yW k).trans g1,g2⟩
      ·rw[dz e] at ig;exact .inr ⟨by rw[uk n (.row q0) l r k e];exact ji,ig⟩
    ·by_cases e:r=q0
     ·subst e;simp only[kp,if_true] at hm;simp only[dB,dD] at hm;obtain⟨rfl,rfl⟩:=hm;refine db r k ?_;rw[oP,dw rfl,f0];simpa [S.bd,jf] using aX
     ·rw[uk n (.row q0) l r k e] at hm;exact dW r k j i hm aX
   ·simp at h
  ·simp at h
 | .ak q0 kj mO::l,c::dq,row::T,u,ak,n,s,tc,h3,hu,tH,h,bs=>by
  simp only[mh] at h;split at h
  ·rename_i m6 IK
   split at h
   ·rename_i cn bO h1
    split at h
    ·rename_i mb aN h2
     simp only[dB,dD] at h;obtain⟨rfl,rfl⟩:=h;have FW:=List.pairwise_cons.1 tc;have jf:s1.a0 n=some row:=h3 0 row rfl;have yW : ∀k,s1.ak n k=eb (some row) k:=fun k=>(by unfold S.ak;rw[jf]);obtain⟨f0,f1,f2⟩:=HN (q:=q) (lg:=id) (r:=n) eu H bF (fun k o an=>(yW k).trans an) h1 (fun p ag=>bs p (by simp[ag])) (fun k o an=>a4 n k o ((yW k).trans an));have hq : ∀j i,kp (n+1) l q0 kj≠some (j,i):=fun j i hm=>(by obtain⟨b,ji,ig,sn,Of⟩:=x9 hm;exact FW.1 b (dH ig) q0 kj ⟨⟨rfl,rfl⟩,sn⟩);have Cp : ∀r k,s.bd r k->(s.setRow q0 (m6.set kj cn)).bd r k:=Hg s IK (by simp);have vJ:kj<m6.length:=by have:=tH q0 kj mO (by simp);simpa [S.bd,IK] using this
     obtain⟨e1,e2,bM,db,dW⟩:=Lp eu H bF a4 l dq T mb aN (n+1) (s.setRow q0 (m6.set kj cn)) FW.2 (fun j row au=>by rw[Nat.add_assoc,Nat.add_comm 1 j];exact h3 (j+1) row (by simpa using au))
      (fun r k j i hm aX=>by
        have c9 : ¬(Src.ak q0 kj mO).has r k:=(by rintro⟨rfl,rfl⟩;exact hq _ _ hm);refine hu r k j i (by rw[uk n _ l r k c9];exact hm) ?_;rw[oP] at aX;split at aX
        ·rename_i e;subst e;simpa [S.bd,IK] using aX
        ·exact aX)
      (fun r k o hm=>Cp r k (tH r k o (by simp[hm]))) h2 (fun p ag=>bs p (by simp[ag]))
     refine⟨by simp[e1],e2,fun r k o an=> ?_,fun r k aX=>db r k (Cp r k aX),fun r k j i hm aX=> ?_⟩
     ·rcases bM r k o an with ⟨j,i,p,ji,ig,sn⟩|⟨ji,ig⟩
      ·have c9 : ¬(Src.ak q0 kj mO).has r k:=(by rintro⟨rfl,rfl⟩;exact hq _ _ ji);exact .inl ⟨j,i,p,by rw[uk n _ l r k c9];exact ji,ig,sn⟩
      ·rw[mT] at ig
       by_cases e:r=q0
       ·subst e
        rw[dw rfl,lv,List.getElem?_set] at ig;by_cases e2:kj=k
        ·subst e2;rw[dw rfl,dw vJ,dA] at ig;have sn:eb (some [cn]) 0=some o:=(by rw[lv];exact ig);obtain⟨p,g1,g2⟩:=f2 0 o sn;exact .inl ⟨n,0,p,by simp[kp],(yW 0).trans g1,g2⟩
        ·rw[dz e2] at ig;have c9 : ¬(Src.ak r kj mO).has r k:=(by rintro⟨-,rfl⟩;exact e2 rfl);exact .inr ⟨by rw[uk n _ l r k c9];exact ji,by unfold S.ak;rw[IK,lv];exact ig⟩
       ·rw[dz e] at ig;have c9 : ¬(Src.ak q0 kj mO).has r k:=(by rintro⟨rfl,-⟩;exact e rfl);exact .inr ⟨by rw[uk n _ l r k c9];exact ji,ig⟩
     ·by_cases e:(Src.ak q0 kj mO).has r k
      ·obtain⟨rfl,rfl⟩:=e;exact db r k (Cp r k (tH r k mO (by simp)))
      ·rw[uk n _ l r k e] at hm;exact dW r k j i hm aX
    ·simp at h
   ·simp at h
  ·simp at h
 | [],[],_::_,_,_,_,_,_,_,_,_,h,_=>by simp[mh] at h
 | [],_::_,_,_,_,_,_,_,_,_,_,h,_=>by simp[mh] at h
 | .row _::_,[],_,_,_,_,_,_,_,_,_,h,_=>by simp[mh] at h
 | .ak .. :: _,[],_,_,_,_,_,_,_,_,_,h,_=>by simp[mh] at h
 | .row _::_,_::_,[],_,_,_,_,_,_,_,_,h,_=>by simp[mh] at h
 | .ak .. :: _,_::_,[],_,_,_,_,_,_,_,_,h,_=>by simp[mh] at h
theorem TE (h:c8 g s aF a w){a3:Nat}(fF:s.a0 a3=none){f:FuncId}{args:List aG}{cI:Gz}{l:List Src}(o3:l=if cI.fe.length=cI.a6.length then cI.a6 else cI.a6++[.row a3])
 (tc:Fv cI.a6) (y4 : ∀a∈cI.a6,a.r≠a3) {bL:hi->Bool} {A:Nat->Prop} {q:aG->Prop} {T:List (List a1)} {cc:Nat->Option Nat}
 (hA : ∀b,A b->b<w.heap.size) (Np : ∀b,s.ok g aF w b->A b) (Nq : ∀r k o b m,s.ak r k=some o->bL o.cO=true->aF r k=some (b,m)->A b)
 (ahK:(∀b,A b->s.ok g aF w b)\/(∀x,q x->bP x)) (bF:vY q l4) (JB:n8 s (lQ cI.a6) cc bL)
 (dk:sc s (lQ cI.a6) bL nn (fK T).a0) (rU : ∀r k o,(∃j i,lQ cI.a6 j i=some (r,k))->s.ak r k=some o->o.cO = .live) (hex : ∀r k o,Src.ak r k o∈cI.a6->s.bd r k)
 {sQ:List aG} {bO:List Prop} (ow:mY (pj s.a0 cc (lQ cI.a6) bL) cI.ac args=some (sQ,bO)) (tI : ∀p∈bO,p)
 {fv:aG} {fw:List Prop} (Cy:pj (fun j=>cI.fe[j]?) (vu l) (kp 0 l) l4 cI.gW cI.r=some (fv,fw)) (Nv : ∀p∈fw,p)
 {u:List (Nat×List a1)} {eV:List Prop} (FX:mh (fun j=>cI.fe[j]?) (vu l) (kp 0 l) s.a0 l cI.hZ cI.fe=some (u,eV)) (ahL : ∀p∈eV,p)
 (Cq:Con P f sQ T cI.r cI.fe) (ahM:q cI.r) (ahN : ∀j i o,(fK cI.fe).ak j i=some o-> ∀e∈o.es,∀x∈e,q x)
 {vs:List Value} (aS:vs.length=args.length) (hargs : ∀(j:Nat) x v,args[j]? = some x->vs[j]? = some v->Rel w (s.ok g aF w) s.bd (s.bk aF) x v) :
 HO P f/\Calls P f vs.toArray w fun e bT=> ∃v bX,e = .returned v/\c8 g (s.je u) bX a bT/\Rel bT ((s.je u).ok g bX bT) (s.je u).bd ((s.je u).bk bX) fv v:=by
 have Nw:Fv l:=by
  subst o3;split
  ·exact tc
  ·refine List.pairwise_append.2 ⟨tc,List.pairwise_singleton _ _,fun b aU c a2 r k gL=> ?_⟩
   rw[List.mem_singleton] at a2;subst a2;have h1:r=a3:=gL.2;subst h1
   cases b with
   | row r0=>exact y4 _ aU (Eq.symm gL.1)
   | ak r0 kj mO=>exact y4 _ aU (Eq.symm gL.1.1)
 have Wh : ∀(j:Nat) b,cI.a6[j]? = some b->l[j]? = some b:=by
  intro j b au;subst o3;split
  ·exact au
  ·rw[List.getElem?_append_left (gF au)];exact au
 have FY : ∀(j:Nat) b,l[j]? = some b->cI.a6[j]? = some b\/b = .row a3:=by
  intro j b au;subst o3;split at au
  ·exact .inl au
  ·rw[List.getElem?_append] at au
   split at au
   ·exact .inl au
   ·right;have:=gF au;simp at this;rw[show j-cI.a6.length=0 by omega] at au;simpa using au.symm
 refine⟨Cq.1,?_⟩;obtain⟨gY,q1,q2,bN,Og,cu,dU,eh,gd⟩:=enter h.tojq A hA Np Nq dk rU;obtain⟨e1,e2,bM⟩:=HM _ _ _ _ _ ow;have:=Cq.2 gY (kQ aF (lQ cI.a6)) w vs.toArray q1 bN Og cu eh (by simp[aS,e1]) (by intro j c7 v ex bc;have au:j<args.length:=(by have:=gF ex;omega);have ab:=dy au;obtain⟨c,cn,f1,f2,f3⟩:=bM j _ c7 ab ex;have FI:vs[j]? = some v:=(by simpa using bc);exact gd (Ep h.tojq JB (wV _) f2 (fun p ag=>tI p (f3 p ag)) trivial (hargs j _ v ab FI)) (hargs j _ v ab FI));refine this.mono fun e bT FG=> ?_;obtain⟨v,ma,rfl,CE,bc⟩:=FG
 have Xg:n8 (fK cI.fe) (kp 0 l) (vu l) l4:=by
  refine⟨fun j r au k=> ?_,fun _ _ _ _ _ bG=>by simp[l4] at bG⟩;unfold vu at au;split at au
  ·rename_i r0 mG;simp at au;subst au;have:=EL (n:=0) (r:=r0) (k:=k) Nw mG rfl;simpa [Src.lq] using this
  ·simp at au
 have EX : ∀j i r k,lQ cI.a6 j i=some (r,k)->kp 0 l r k=some (j,i):=fun j i r k hm=>by obtain⟨b,ji,ig,rfl⟩:=wt.1 hm;have:=EL (n:=0) Nw (Wh j b ji) ig;simpa using this
 have II : ∀r k j i,kp 0 l r k=some (j,i)->lQ cI.a6 j i=some (r,k)\/ ¬s.bd r k:=fun r k j i hm=>by
  obtain⟨b,-,ig,sn,Of⟩:=x9 hm;rcases FY j b (by simpa using ig) with e|e
  ·exact .inl (wt.2 ⟨b,e,sn,Of⟩)
  ·subst e;have:r=a3:=sn;subst this;exact .inr (Bc fF k)
 obtain⟨jR,mb,h9,ai0,ai1⟩:=Lp (s1:=fK cI.fe) CE Xg bF ahN l cI.hZ cI.fe u eV 0 s Nw (fun j row au=>by simpa [fK] using au)
  (fun r k j i hm aX=>by
    rcases II r k j i hm with e|e
    ·exact(CE.stay j i (by rw[Og];exact dk.bd _ _ _ _ e aX)).1
    ·exact absurd aX e)
  (fun r k o hm=>by
    obtain⟨j,au⟩:=List.getElem?_of_mem hm;rcases FY j _ au with e|e
    ·exact hex r k o (dH e)
    ·cases e) FX ahL
 obtain⟨mN,f1,f2⟩:=leave (q0:=nn) (q:=q) h q1 (by rw[q2];exact ahK) Og cu dU rU dk CE EX II (fun r k fv ey p=>afb) (s2:=s.je u) mb h9 ai0 ai1
  (Ep CE Xg bF Cy Nv ahM bc) bc
 exact⟨v,mN,rfl,f1,f2⟩
theorem ab8 (h:c8 g s aF a w){a3:Nat}(fF:s.a0 a3=none){f:FuncId}{args:List aG}{cI:Gz}{bE:iN}(aA:Cf P s.a0 a3 f args cI=some bE)(cQ:∀p∈bE.f5,p)
 {vs:List Value} (aS:vs.length=args.length) (hargs : ∀(j:Nat) x v,args[j]? = some x->vs[j]? = some v->Rel w (s.ok g aF w) s.bd (s.bk aF) x v) :
 HO P f/\Calls P f vs.toArray w fun e bT=> ∃v bX,e = .returned v/\c8 g (s.je bE.gI) bX a bT/\Rel bT ((s.je bE.gI).ok g bX bT) (s.je bE.gI).bd ((s.je bE.gI).bk bX) bE.val v:=by
 unfold Cf at aA;simp only at aA;generalize o3:(if cI.fe.length=cI.a6.length then cI.a6 else cI.a6++[.row a3])=l at aA;split at aA
 ·simp at aA
 ·rename_i mO s4
  split at aA
  ·simp at aA
  ·rename_i ag4
   have y4 : ∀a∈cI.a6,a.r≠a3:=fun b aU e=>ag4 (List.any_eq_true.2 ⟨b,aU,by simpa using e⟩);split at aA
   ·
    split at aA
    ·rename_i wW
     split at aA
     ·rename_i sQ bO fv fw u eV ow Cy FX
      simp only[dB] at aA;subst aA;have Cq:Con P f sQ [] cI.r cI.fe:=cQ _ (by simp);have FZ:bP cI.r:=cQ _ (by simp)
      have ag5:oz cI.fe:=by
       by_cases e:cI.fe=[]
       ·rw[e];intro row el;simp at el
       ·exact cQ _ (by have:cI.fe.isEmpty=false:=(by simpa [List.isEmpty_iff] using e);simp[this])
      refine TE (bL:=lK) (A:=fun b=>b<w.heap.size) (q:=bP) (T:=[]) (cc:=fun _=>none) h fF o3.symm (by rw[wW];exact List.Pairwise.nil) y4 (fun _ aU=>aU) (fun b aU=>aU.1)
       (fun r k o b m an _ ag=>EJ h.tojq an ag) (.inr fun _ ab=>ab) ahG ?_ ?_ ?_ ?_ (by rw[wW];exact ow) (fun p ag=>cQ p (by simp[ag])) Cy (fun p ag=>cQ p (by simp[ag])) FX (fun p ag=>cQ p (by simp[ag])) Cq FZ ?_ aS hargs
      ·refine⟨fun _ _ e=>by simp at e,fun r _ k o _ _ j i e=> ?_⟩;rw[wW] at e;simp[lQ] at e
      ·refine⟨fun j i i9 fo p e=> ?_,fun j i cn e=> ?_,fun j i r k e=> ?_⟩
       ·rw[wW] at e;simp[lQ] at e
       ·simp[fK,eb] at e
       ·rw[wW] at e;simp[lQ] at e
      ·rintro r k o ⟨j,i,e⟩;rw[wW] at e;simp[lQ] at e
      ·rintro r k o e;rw[wW] at e;simp at e
      ·intro j i o an e he x ab
       have an:eb (cI.fe[j]?) i=some o:=an
       cases ai:cI.fe[j]? with
       | none=>rw[ai] at an;simp[eb] at an
       | some row =>
        rw[ai,lv] at an
        cases aX:row[i]? with
        | none=>rw[aX] at an;simp at an
        | some p =>
         rw[aX,dA] at an;split at an
         ·simp at an
         ·simp at an;subst an;exact ag5 row (dH ai) p (dH aX) e he x ab
     ·simp at aA
    ·simp at aA
   ·split at aA
    ·rename_i sQ bO T aN fv fw u eV ow Cx Cy FX
     simp only[dB] at aA;subst aA;have tc:=TD s4 fun p ag=>cQ p (by simp[ag]);have Cq:Con P f sQ T cI.r cI.fe:=cQ _ (by simp);have ad : ∀r j,qG 0 cI.a6 r=some j-> ∀k,lQ cI.a6 j k=some (r,k):=fun r j au k=>by obtain⟨-,h2⟩:=Lz au;simp only[lQ,show cI.a6[j]? = some (.row r) by simpa using h2]
     have Ns : ∀(l:List Src) (dq:List ju) (T:List (List a1)) (ak:List Prop),ny s.a0 (qG 0 cI.a6) (lQ cI.a6) l dq=some (T,ak)->(∀p∈ak,p) ->
      ∀b∈l,∀r k o,b.has r k->s.ak r k=some o->o.cO≠ .jX:=by
      intro l
      induction l with
      | nil=>intro _ _ _ _ _ b aU;simp at aU
      | cons b l ih =>
       intro dq T ak h0 bs c a2 r k o gL an
       cases dq with
       | nil=>cases b<;>simp[ny] at h0
       | cons cM dq =>
        cases b with
        | row r0 =>
         simp only[ny] at h0;split at h0
         ·rename_i row el
          split at h0
          ·rename_i aB p1 oJ p2 h1 h2
           simp only[dB,dD] at h0;obtain⟨rfl,rfl⟩:=h0;rcases List.mem_cons.1 a2 with rfl|a2
           ·have e:r=r0:=gL;subst e;have eH:eb (some row) k=some o:=(by unfold S.ak at an;rw[el] at an;exact an);have:=Sz h1 (fun p ag=>bs p (by simp[ag])) k o eH;rw[this];simp
           ·exact ih dq oJ p2 h2 (fun p ag=>bs p (by simp[ag])) c a2 r k o gL an
          ·simp at h0
         ·simp at h0
        | ak r0 kj mO =>
         simp only[ny] at h0;split at h0
         ·rename_i row el
          split at h0
          ·rename_i aB p1 oJ p2 h1 h2
           simp only[dB,dD] at h0;obtain⟨rfl,rfl⟩:=h0;rcases List.mem_cons.1 a2 with rfl|a2
           ·obtain⟨rfl,rfl⟩:=gL
            have tI:eb (some row) k=some mO:=bs _ (by simp);have eH:eb (some row) k=some o:=(by unfold S.ak at an;rw[el] at an;exact an);rw[tI] at eH;simp at eH;subst eH
            have Nu:mO.cO≠ .gone:=by
             rw[lv] at tI
             cases aX:row[k]? with
             | none=>rw[aX] at tI;simp at tI
             | some p =>
              rw[aX,dA] at tI;split at tI
              ·simp at tI
              ·rename_i e;simp at tI;subst tI;exact e
            have:=Sz h1 (fun p ag=>bs p (by simp[ag])) 0 mO (by rw[nx];simp[Nu]);rw[this];simp
           ·exact ih dq oJ p2 h2 (fun p ag=>bs p (by simp[ag])) c a2 r k o gL an
          ·simp at h0
         ·simp at h0
     have JB:n8 s (lQ cI.a6) (qG 0 cI.a6) vt:=(by refine⟨ad,fun r ai k o an bG j i hm=> ?_⟩;obtain⟨b,ji,ig,-⟩:=wt.1 hm;exact Ns cI.a6 cI.dq T aN Cx (fun p ag=>cQ p (by simp[ag])) b (dH ji) r k o ig an (by simpa [vt] using bG));obtain⟨t1,t2⟩:=LA h.tojq JB cI.a6 cI.dq T aN Cx (fun p ag=>cQ p (by simp[ag]));have nm : ∀j b,cI.a6[j]? = some b-> ∃eL,T[j]? = some eL:=fun j b au=>by have:j<T.length:=(by have:=gF au;omega);exact⟨_,dy this⟩
     refine TE (bL:=vt) (A:=s.ok g aF w) (q:=nn) (T:=T) h fF o3.symm tc y4 (fun b aU=>aU.1) (fun b aU=>aU)
      (fun r k o b m an aX ag=>afL h.tojq an (by simpa [vt] using aX) ag) (.inl fun _ aU=>aU) (wV _) JB ?_ ?_ ?_ ow (fun p ag=>cQ p (by simp[ag])) Cy (fun p ag=>cQ p (by simp[ag])) FX
      (fun p ag=>cQ p (by simp[ag])) Cq trivial (fun _ _ _ _ _ _ _ _=>trivial) aS hargs
     ·refine⟨fun j i i9 fo p e e5=> ?_,fun j i cn eH=> ?_,fun j i r k e hu=> ?_⟩
      ·obtain⟨r,k⟩:=p;obtain⟨b,ji,ig,rfl⟩:=wt.1 e;obtain⟨k3,ahO,ahP,rfl⟩:=wt.1 e5;have e1:=EL (n:=0) tc ji ig;have e2:=EL (n:=0) tc ahO ahP;rw[e1] at e2;simpa using e2
      ·have au:j<T.length:=by
        rcases Nat.lt_or_ge j T.length with e|e
        ·exact e
        ·have:(fK T).a0 j=none:=List.getElem?_eq_none e;rw[this] at eH;simp[eb] at eH
       have Wi:T[j]? = some T[j]:=dy au;have Wj:cI.a6[j]? = some (cI.a6[j]'(by omega)):=dy (by omega);have sb:eb (some T[j]) i=some cn:=(by have:(fK T).a0 j=some T[j]:=Wi;rw[this] at eH;exact eH);obtain⟨r,k,o,n1,n2,ai2,ai3⟩:=(t2 j _ _ Wi Wj).2.2.2 i cn sb;exact⟨r,k,o,wt.2 ⟨_,Wj,n1,n2⟩,ai2,ai3⟩
      ·obtain⟨b,ji,ig,rfl⟩:=wt.1 e;obtain⟨eL,uy⟩:=nm j b ji;have:=(t2 j eL b uy ji).2.1 r k ig hu;show b.lq k<((T[j]?).getD []).length;rw[uy];exact this
     ·rintro r k o ⟨j,i,e⟩ an;obtain⟨b,ji,ig,-⟩:=wt.1 e;obtain⟨eL,uy⟩:=nm j b ji;exact(t2 j eL b uy ji).1 r k o ig an
     ·intro r k o hm;obtain⟨j,au⟩:=List.getElem?_of_mem hm;obtain⟨eL,uy⟩:=nm j _ au;exact HL ((t2 j eL _ uy au).2.2.1 r k o rfl)
    ·simp at aA
end
end Go.VL
