/- Lemmas, plain functions of the program, and what they answer. No condition. -/
import Derived.Below
import Derived.Eval
import Derived.KernelRfl
import Derived.Laws.Append
import Derived.Laws.AppendOwn
import Derived.Laws.BytesString
import Derived.Laws.Cells
import Derived.Laws.CopyRow
import Derived.Laws.Entries
import Derived.Laws.MakeOwn
import Derived.Laws.OwnMore
import Derived.Laws.Rows
import Derived.Laws.Slices
import Derived.Laws.Tables
import Derived.Orders
namespace Go.VL
set_option linter.unusedVariables false
set_option linter.unusedSimpArgs false
open Go
abbrev ar:=List Int
theorem dw{c:Prop}{h:Decidable c}(i:c){α:Sort _}{t e:α}:ite c t e=t:=if_pos i
theorem dx{α:Type _}{l:List α}{i:Nat}(h:i<l.length):l[i]? = some l[i]:=List.getElem?_eq_getElem h
theorem dy(n:Nat):(n:Int).toNat=n:=rfl
theorem dz{α:Type _}(a b:α):(some a=some b)=(a=b):=Option.some.injEq a b
theorem dA{c:Prop}{h:Decidable c}(i:¬c){α:Sort _}{t e:α}:ite c t e=e:=if_neg i
theorem dB{α β:Type _}(a:α)(f:α->Option β):(some a).bind f=f a:=rfl
theorem dC{α β:Type _}:bind=@Option.bind α β:=rfl
theorem dD{α β:Type _}(a:α)(b:β)(c:α)(d:β):((a,b)=(c,d))=(a=c/\b=d):=Prod.mk.injEq a b c d
theorem dE{α:Type _}{a b:List α}:(a++b).length=a.length+b.length:=List.length_append
theorem dF(n:Nat):0+n=n:=Nat.zero_add n
theorem dG(n:Nat):n<=n:=Nat.le_refl n
theorem dH{α:Type _}{l:List α}{i:Nat}{a:α}(e:l[i]? = some a):a∈l:=List.mem_of_getElem? e
theorem dI{α:Type _}{a:α}{l:List α}:(a::l).length=l.length+1:=rfl
theorem dJ{α:Type _}{a b:α}(h:some a=some b):a=b:=Option.some.inj h
theorem dK{α β:Type _}{f:α->β}{l:List α}{i:Nat}:(l.map f)[i]? =l[i]?.map f:=List.getElem?_map
theorem dL{α:Type _}{l:List α}:l.length=0↔l=[]:=List.length_eq_zero_iff
theorem dM{α:Type _}:([]:List α).length=0:=rfl
theorem dN{a b c:Int}(h:a<=b)(i:0<=c):c*a<=c*b:=Int.mul_le_mul_of_nonneg_left h i
theorem dO{α β:Type _}{b:α}{x:Option β}{f:β->α}:Option.map f x=some b↔∃a,x=some a/\f a=b:=Option.map_eq_some_iff
theorem dP{α:Type _}{l:List α}{i:Nat}(h:l.length<=i):l[i]? =none:=List.getElem?_eq_none h
theorem dQ{α:Type _}{i:Nat}{l:List α}(h:l.length<=i):l.take i=l:=List.take_of_length_le h
theorem dR{α β:Type _}(a:α)(f:α->β):Option.map f (some a)=some (f a):=rfl
theorem dS{α:Type _}{l:Array α}{i:Nat}(h:i<l.size):l[i]? =some l[i]:=Array.getElem?_eq_getElem h
theorem dT{α:Type _}{b:α}{l:List α}{a:α}:a∈b::l↔a=b\/a∈l:=List.mem_cons
theorem ahU(a b:Bool):((a&&b)=true)=(a=true/\b=true):=Bool.and_eq_true a b
theorem ahV{α:Type _}{i:Nat}{a:α}{l:List α}:l[i]? =some a↔∃h:i<l.length,l[i]=a:=List.getElem?_eq_some_iff
theorem ahW{α:Type _}{l:List α}{m:List (List α)}:(l::m).flatten=l++m.flatten:=rfl
theorem ahX{α:Type _}{l:List α}{i:Nat}{a:α}:l.getD i a=l[i]?.getD a:=List.getD_eq_getElem?_getD
theorem ahY{n m:Nat}(k:Nat)(h:n<=m):n*k<=m*k:=Nat.mul_le_mul_right k h
theorem ahZ{α:Type _}{l:List α}{i j:Nat}:(l.take i)[j]? =if j<i then l[j]? else none:=List.getElem?_take
theorem ah0{α:Type _}{l:Array α}{i:Nat}{d:α}:l.getD i d=l[i]?.getD d:=Array.getD_eq_getD_getElem?
theorem ah1{α:Type _}{l:List α}{i j:Nat}{a:α}:(l.set i a)[j]? =if i=j then if i<l.length then some a else none else l[j]?:=List.getElem?_set
theorem ah2 :(false=true)=False:=Bool.false_eq_true
theorem ah3{α:Type _}{i:Nat}{b:α}{l:Array α}:l[i]? =some b↔∃h:i<l.size,l[i]=b:=Array.getElem?_eq_some_iff
theorem ah4{α:Type _}{l m:List α}{i:Nat}(h:i<l.length):(l++m)[i]? =l[i]?:=List.getElem?_append_left h
theorem ah5{α:Type _}{l:List α}{i j:Nat}:(l.drop i)[j]? =l[i+j]?:=List.getElem?_drop
theorem ah6{α:Type _}{a:α}:¬a∈([]:List α):=List.not_mem_nil
theorem ah7{α:Type _}{l m:List α}(h:∀(i:Nat),l[i]? =m[i]?):l=m:=List.ext_getElem? h
theorem ah8{α β:Type _}{l:List α}(f:α->β):(l.map f).length=l.length:=List.length_map f
theorem ah9{α β:Type _}{l:List α}{f g:α->β}(h:∀a,a∈l->f a=g a):l.map f=l.map g:=List.map_congr_left h
theorem aia{α:Type _}{a:α}{l:List α}(h:a∈l):∃i:Nat,l[i]? =some a:=List.getElem?_of_mem h
theorem aib{α:Type _}{l m:List α}{i:Nat}(h:l.length<=i):(l++m)[i]? =m[i-l.length]?:=List.getElem?_append_right h
theorem aic{α:Type _}{l:List α}:0<l.length↔l≠[]:=List.length_pos_iff
theorem aid(a b:Int):((a*b:Int):Rat)=a*b:=Rat.intCast_mul a b
theorem aie{a b:Rat}(h:0<=a)(i:0<=b):0<=a*b:=Rat.mul_nonneg h i
inductive ay where
 | dead
 | b (x:Bool)
 | n (k:IntKind) (x:Int)
 | s (x:ByteArray)
 | iR
 | fs
 | iV
 | ref (r k i off:Nat)
 | bu (r k bE len:Nat)
 | jj (r c sz:Nat) (h:Option (Nat×Nat))
 | isl (sz:Nat) (es:List (List ay))
 | fi (sz:Nat) (es:List (List ay)) (i off:Nat)
 | kr (sz:Nat) (c:Option (List ay))
 | agg (c:List ay)
 | d9 (vs:List ay)
 | fn (f:Nat) (cap:List ay)
 deriving Inhabited
inductive gB where
 | live|jF|gone
 deriving DecidableEq,Inhabited
structure aU where
 sz:Nat
 es:List (List ay)
 cl:gB
 deriving Inhabited
structure S where
 E:Nat->ay
 aM:Nat->Option (List aU)
abbrev ky (v:Value):Bool:=v.oneCell'
abbrev fz:=Nat->Nat->Option (Nat×Nat)
abbrev jx:=Nat->Nat->Option (Nat×Option (Nat×Nat))
abbrev jH:=Nat->Nat->Prop
inductive Pure:ay->Prop
 | dead:Pure .dead
 | b (x:Bool):Pure (.b x)
 | n (k:IntKind) (x:Int):Pure (.n k x)
 | s (x:ByteArray):Pure (.s x)
 | iR:Pure .iR
 | fs:Pure .fs
 | iV:Pure .iV
 | isl {sz:Nat} {es:List (List ay)} (h : ∀e∈es,∀x∈e,Pure x):Pure (.isl sz es)
 | fi {sz i off:Nat} {es:List (List ay)} (h : ∀e∈es,∀x∈e,Pure x):Pure (.fi sz es i off)
 | qd (sz:Nat):Pure (.kr sz none)
 | pD {sz:Nat} {c:List ay} (h : ∀x∈c,Pure x):Pure (.kr sz (some c))
 | agg {c:List ay} (h : ∀x∈c,Pure x):Pure (.agg c)
 | d9 {c:List ay} (h : ∀x∈c,Pure x):Pure (.d9 c)
 | fn {f:Nat} {c:List ay} (h : ∀x∈c,Pure x):Pure (.fn f c)
def jA (es:List (List ay)):Prop:= ∀e∈es,∀x∈e,Pure x
inductive Rel (w:World) (ok:Nat->Prop) (a3:jH) (bd:jx):ay->Value->Prop
 | dead (v:Value):Rel w ok a3 bd .dead v
 | b (x:Bool):Rel w ok a3 bd (.b x) (.bool x)
 | n (k:IntKind) (x:Int):Rel w ok a3 bd (.n k x) (.int k x)
 | s (x:ByteArray):Rel w ok a3 bd (.s x) (.string x)
 | iR:Rel w ok a3 bd .iR (.pointer none)
 | fs:Rel w ok a3 bd .fs (.slice none 0 0)
 | iV (a:Addr) (c:Nat):Rel w ok a3 bd .iV (.slice (some a) 0 c)
 | qz {r k i off:Nat} (a:Option Addr) (hu:a3 r k) (h : ∀sz p,bd r k≠some (sz,some p)):Rel w ok a3 bd (.ref r k i off) (.pointer a)
 | ref {r k i off sz ek m:Nat} (hu:a3 r k) (h:bd r k=some (sz,some (ek,m))):Rel w ok a3 bd (.ref r k i off) (.pointer (some ⟨ek,i*sz+off,none⟩))
 | n5 {r k bE len:Nat} (a:Option Addr) (l c:Nat) (hu:a3 r k) (h:bd r k=none):Rel w ok a3 bd (.bu r k bE len) (.slice a l c)
 | ox {r k sz:Nat} (hu:a3 r k) (h:bd r k=some (sz,none)):Rel w ok a3 bd (.bu r k 0 0) (.slice none 0 0)
 | bu {r k bE len sz ek m c:Nat} {a:Option Addr} (hu:a3 r k) (h:bd r k=some (sz,some (ek,m))) (aO:len<=c) (a8:c<9223372036854775808)
  (hm:(bE+c)*sz=m/\(c=0\/a=some ⟨ek,bE*sz,none⟩)):Rel w ok a3 bd (.bu r k bE len) (.slice a len c)
 | nC {r c sz:Nat} {v:Value} (h:Rel w ok a3 bd (.isl sz []) v):Rel w ok a3 bd (.jj r c sz none) v
 | oF {r c sz k n:Nat} {v:Value} (h:Rel w ok a3 bd (.bu r (k+c) 0 n) v):Rel w ok a3 bd (.jj r c sz (some (k,n))) v
 | kp (sz:Nat) (a:Option Addr) (c:Nat) (h:a=none->c=0):Rel w ok a3 bd (.isl sz []) (.slice a 0 c)
 | isl {sz:Nat} {es:List (List ay)} {ek off c:Nat} (cs:Nat->Value) (aL:ok ek) (ae:jA es) (aO : ∀e∈es,e.length=sz) (a8:es.length<=c)
  (hw : ∀(j:Nat) x,es.flatten[j]? = some x->w.cell? ⟨ek,off+j,none⟩=some (cs j)) (kn : ∀(j:Nat) x,es.flatten[j]? = some x->ky (cs j)=true)
  (ai : ∀(j:Nat) x,es.flatten[j]? = some x->Rel w ok a3 bd x (cs j)):Rel w ok a3 bd (.isl sz es) (.slice (some ⟨ek,off,none⟩) es.length c)
 | fi {sz:Nat} {es:List (List ay)} {ek I i off:Nat} (cs:Nat->Value) (aL:ok ek) (ae:jA es) (aO : ∀e∈es,e.length=sz)
  (hw : ∀(j:Nat) x,es.flatten[j]? = some x->w.cell? ⟨ek,I+j,none⟩=some (cs j)) (kn : ∀(j:Nat) x,es.flatten[j]? = some x->ky (cs j)=true)
  (ai : ∀(j:Nat) x,es.flatten[j]? = some x->Rel w ok a3 bd x (cs j)):Rel w ok a3 bd (.fi sz es i off) (.pointer (some ⟨ek,I+(i*sz+off),none⟩))
 | qd (sz:Nat):Rel w ok a3 bd (.kr sz none) (.pointer none)
 | pD {sz:Nat} {c:List ay} {v:Value} (h:Rel w ok a3 bd (.fi sz [c] 0 0) v):Rel w ok a3 bd (.kr sz (some c)) v
 | agg {c:List ay} (vs:List Value) (aO:vs.length=c.length) (kn : ∀(j:Nat) v,vs[j]? = some v->ky v=true)
  (ai : ∀(j:Nat) x v,c[j]? = some x->vs[j]? = some v->Rel w ok a3 bd x v):Rel w ok a3 bd (.agg c) (.agg vs.toArray)
 | d9 {c:List ay} (vs:List Value) (aO:vs.length=c.length)
  (ai : ∀(j:Nat) x v,c[j]? = some x->vs[j]? = some v->Rel w ok a3 bd x v):Rel w ok a3 bd (.d9 c) (.tuple vs.toArray)
 | fn {f:Nat} {c:List ay} (vs:List Value) (aO:vs.length=c.length)
  (ai : ∀(j:Nat) x v,c[j]? = some x->vs[j]? = some v->Rel w ok a3 bd x v):Rel w ok a3 bd (.fn f c) (.func (.func f) #[] vs.toArray)
theorem Rel.mono {w bJ:World}{ok ln:Nat->Prop}{a3 nI:jH}{bd m5:jx}{a:ay}{v:Value}(h:Rel w ok a3 bd a v)
 (nJ : ∀b,ok b->ln b) (hw : ∀b,ok b->bJ.heap[b]? = w.heap[b]?)
 (jP : ∀r k,a3 r k->nI r k) (lV : ∀r k,a3 r k->m5 r k=bd r k\/m5 r k=none):Rel bJ ln nI m5 a v:=by
 have kn : ∀b I,ok b->bJ.cell? ⟨b,I,none⟩=w.cell? ⟨b,I,none⟩:=fun b I aL=>World.cell?_of_block (hw b aL)
 induction h with
 | dead v=>exact .dead v
 | b x=>exact .b x
 | n k x=>exact .n k x
 | s x=>exact .s x
 | iR=>exact .iR
 | fs=>exact .fs
 | iV a c=>exact .iV a c
 | @qz r k i off a hu h =>
  refine .qz a (jP r k hu) fun sz p=> ?_;rcases lV r k hu with e|e<;>rw[e]
  ·exact h sz p
  simp
 | @ref r k i off sz ek m hu h =>
  rcases lV r k hu with e|e
  ·exact .ref (jP r k hu) (e.trans h)
  exact .qz _ (jP r k hu) fun sz p=>by rw[e];simp
 | @n5 r k bE len a l c hu h=>exact .n5 a l c (jP r k hu) (by rcases lV r k hu with e|e<;>rw[e];exact h)
 | @ox r k sz hu h =>
  rcases lV r k hu with e|e
  ·exact .ox (jP r k hu) (e.trans h)
  exact .n5 _ _ _ (jP r k hu) e
 | @bu r k bE len sz ek m c a hu h aO a8 hm =>
  rcases lV r k hu with e|e
  ·exact .bu (jP r k hu) (e.trans h) aO a8 hm
  exact .n5 _ _ _ (jP r k hu) e
 | nC h ih=>exact .nC ih
 | oF h ih=>exact .oF ih
 | kp sz a c h=>exact .kp sz a c h
 | isl cs aL ae aO a8 DZ i6 ai ih=>exact .isl cs (nJ _ aL) ae aO a8 (fun j x U=>(kn _ _ aL).trans (DZ j x U)) i6 ih
 | fi cs aL ae aO DZ i6 ai ih=>exact .fi cs (nJ _ aL) ae aO (fun j x U=>(kn _ _ aL).trans (DZ j x U)) i6 ih
 | qd sz=>exact .qd sz
 | pD h ih=>exact .pD ih
 | agg vs aO i6 ai ih=>exact .agg vs aO i6 ih
 | d9 vs aO ai ih=>exact .d9 vs aO ih
 | fn vs aO ai ih=>exact .fn vs aO ih
structure G where
 nr:World
 A:Nat->Prop
 qn:Nat->Prop
 N:Nat
 m:Nat
 pJ:jH
 si:jx
def S.a3 (s:S)(r k:Nat):Prop:=k<((s.aM r).getD []).length
def df (row:Option (List aU))(k:Nat):Option aU :=
 match row with
 | some l=>match l[k]? with
  | some I=>if I.cl = .gone then none else some I
  | none=>none
 | none=>none
def S.af (s:S)(r k:Nat):Option aU:=df (s.aM r) k
def S.bd (s:S)(ax:fz):jx:=fun r k=>(s.af r k).map fun I=>(I.sz,ax r k)
def S.mx (s:S)(ax:fz)(b:Nat):Prop:= ∃r k I m,s.af r k=some I/\I.cl = .live/\ax r k=some (b,m)
def S.ok (s:S)(g:G)(ax:fz)(w:World)(b:Nat):Prop :=
 b<w.heap.size/\(g.A b\/g.nr.heap.size<=b\/g.qn b)/\ ¬s.mx ax b
def jr (w:World)(ok:Nat->Prop)(a3:jH)(bd:jx)(I:aU):Option (Nat×Nat)->Prop
 | none=>I.es=[]
 | some (ek,m)=> ∃c eB,w.heap[ek]? = some (.cells c eB (0,0))/\c.size=m/\(∀e∈I.es,e.length=I.sz) /\
  ∀(j:Nat) x,I.es.flatten[j]? = some x-> ∃v,c[j]? = some v/\ky v=true/\Rel w ok a3 bd x v
structure Dz (g:G) (w:World):Prop where
 os:w.os=g.nr.os
 tape:w.tape=g.nr.tape
 output:w.output=g.nr.output
 size:g.nr.heap.size<=w.heap.size
 block : ∀b,b<g.nr.heap.size-> ¬g.qn b->w.heap[b]? = g.nr.heap[b]?
structure iK (g:G) (s:S) (ax:fz) (w:World):Prop where
 obj : ∀r k I,s.af r k=some I->jr w (s.ok g ax w) s.a3 (s.bd ax) I (ax r k)
 inj : ∀r k I eQ dc b3 b m bi,s.af r k=some I->s.af eQ dc=some b3->ax r k=some (b,m)->ax eQ dc=some (b,bi)->r=eQ/\k=dc
 own : ∀r k I b m,s.af r k=some I->ax r k=some (b,m)->g.nr.heap.size<=b\/g.qn b
 gW:Dz g w
 mlt : ∀b,g.qn b->b<g.nr.heap.size
 oe : ∀b,g.A b->b<g.nr.heap.size
 stay : ∀j k,g.pJ j k->s.a3 j k/\(s.bd ax j k=g.si j k\/s.bd ax j k=none)
 low : ∀j k,g.pJ j k->j<g.m
structure cB (g:G) (s:S) (ax:fz) (a:Act) (w:World):Prop extends iK g s ax w where
 env : ∀t,Rel w (s.ok g ax w) s.a3 (s.bd ax) (s.E t) (a.tmps.getD t undef)
 defers:a.defers=[]
 j9:g.N<=a.tmps.size
def ofValue:Value->ay
 | .bool x=> .b x
 | .int k x=> .n k x
 | .string x=> .s x
 | .pointer none=> .iR
 | .slice none 0 0=> .fs
 | _=> .dead
theorem Pv {w:World}{ok:Nat->Prop}{a3:jH}{bd:jx}(v:Value):Rel w ok a3 bd (ofValue v) v:=by unfold ofValue;split<;>constructor
def eD (E:Nat->ay):Operand->ay
 | .tmp t=>E t
 | .const v=>ofValue v
 | .global _=> .dead
 | .func f=> .fn f []
theorem cB.eval {g:G}{s:S}{ax:fz}{a:Act}{w:World}(h:cB g s ax a w)(x:Operand):
 Rel w (s.ok g ax w) s.a3 (s.bd ax) (eD s.E x) (a.eval x):=by
 cases x with
 | tmp t=>exact h.env t
 | const v=>exact Pv v
 | global g=>exact .dead _
 | func f=>exact .fn [] rfl (fun j x v U=>by simp at U)
def ay.cells:ay->List ay
 | .agg c=>c
 | x=>[x]
def ay.one:ay->Bool
 | .dead | .agg _ | .d9 _=>false
 | _=>true
def ay.Am:ay->Bool
 | .dead | .d9 _=>false
 | _=>true
theorem ay.Pw {v:ay}(h:v.Am=true):v.one=true\/ ∃c,v = .agg c:=by cases v<;>first|exact .inl rfl|exact .inr ⟨_,rfl⟩|simp[ay.Am] at h
theorem Rel.ky {w:World}{ok:Nat->Prop}{a3:jH}{bd:jx}{a:ay}{v:Value}(h:Rel w ok a3 bd a v)(bC:a.one=true):ky v=true:=by
 cases h with
 | pD h=>cases h;rfl
 | nC h=>cases h<;>rfl
 | oF h=>cases h<;>rfl
 | _=>first|rfl|simp[ay.one] at bC
theorem Rel.cellsOf {w:World}{ok:Nat->Prop}{a3:jH}{bd:jx}{a:ay}{v:Value}(h:Rel w ok a3 bd a v)(bC:a.one=true\/ ∃c,a = .agg c):
 ∃vs:List Value,v.cells=vs.toArray/\vs.length=a.cells.length/\(∀(j:Nat) x,vs[j]? = some x->VL.ky x=true) /\
  ∀(j:Nat) x u,a.cells[j]? = some x->vs[j]? = some u->Rel w ok a3 bd x u:=by
 rcases bC with bC|⟨c,rfl⟩
 ·have a8:=h.ky bC
  refine⟨[v],?_,?_,?_,?_⟩
  ·cases v<;>first|rfl|simp[VL.ky,Value.oneCell'] at a8
  ·cases a<;>first|rfl|simp[ay.one] at bC
  ·intro j x U
   cases j with
   | zero=>simp at U;subst U;exact a8
   | succ j=>simp at U
  intro j x u U hu;have e:a.cells=[a]:=by cases a<;>first|rfl|simp[ay.one] at bC
  rw[e] at U
  cases j with
  | zero=>simp at U hu;subst U;subst hu;exact h
  | succ j=>simp at U
 cases h with
 | agg vs aO kn ai=>exact⟨vs,rfl,aO,kn,ai⟩
def S.put (s:S)(dst:Option Tmp)(v:ay):S :=
 match dst with
 | some t=>{s with E:=fun u=>if u=t then v else s.E u}
 | none=>s
def S.setRow (s:S)(r:Nat)(row:List aU):S:={s with aM:=fun q=>if q=r then some row else s.aM q}
@[simp] theorem S.vl (s:S) (dst:Option Tmp) (v:ay):(s.put dst v).aM=s.aM:=by cases dst<;>rfl
@[simp] theorem S.agc (s:S) (r:Nat) (row:List aU):(s.setRow r row).E=s.E:=rfl
theorem CQ {s bS:S}(h:bS.aM=s.aM):bS.af=s.af:=by funext r k;simp[S.af,h]
theorem An {s bS:S}(h:bS.aM=s.aM):bS.a3=s.a3:=by funext r k;simp[S.a3,h]
theorem Ao {s bS:S}(h:bS.aM=s.aM)(ax:fz):bS.bd ax=s.bd ax:=by unfold S.bd;rw[CQ h]
theorem Yv {s bS:S}(h:bS.aM=s.aM)(ax:fz):bS.mx ax=s.mx ax:=by unfold S.mx;rw[CQ h]
theorem CR {s bS:S}(h:bS.aM=s.aM)(g:G)(ax:fz)(w:World):bS.ok g ax w=s.ok g ax w:=by funext b;unfold S.ok;rw[Yv h]
theorem iK.congr {g:G}{s bS:S}{ax:fz}{w:World}(h:iK g s ax w)(e:bS.aM=s.aM):iK g bS ax w where
 obj:=by rw[CQ e,An e,Ao e,CR e];exact h.obj
 inj:=by rw[CQ e];exact h.inj
 own:=by rw[CQ e];exact h.own
 gW:=h.gW
 mlt:=h.mlt
 oe:=h.oe
 stay:=by rw[An e,Ao e];exact h.stay
 low:=h.low
theorem aaP (a:Act)(dst:Option Tmp)(v:Value)(t:Nat)(e3:∀d,dst=some d->d<a.tmps.size):
 (a.put dst v).tmps.getD t undef=if dst=some t then v else a.tmps.getD t undef:=by
 cases dst with
 | none=>simp[Act.put]
 | some d =>
  have:=e3 d rfl;simp only[Act.put,ah0,Array.getElem?_setIfInBounds,dz];by_cases e:d=t
  ·subst e;simp[this]
  simp[e]
theorem cB.put {g:G}{s:S}{ax:fz}{a:Act}{w:World}(h:cB g s ax a w)(dst:Option Tmp){x:ay}{v:Value}
 (bF : ∀d,dst=some d->d<g.N) (ai:Rel w (s.ok g ax w) s.a3 (s.bd ax) x v):cB g (s.put dst x) ax (a.put dst v) w where
 toiK:=h.toiK.congr (S.vl s dst x)
 env:=by
  have e:=S.vl s dst x;rw[CR e,An e,Ao e];intro t;rw[aaP a dst v t fun d rz=>Nat.lt_of_lt_of_le (bF d rz) h.j9]
  cases dst with
  | none=>simpa [S.put] using h.env t
  | some d =>
   simp only[S.put,dz];by_cases e:t=d
   ·subst e;simpa using ai
   rw[dA e,dA (Ne.symm e)];exact h.env t
 defers:=by cases dst<;>exact h.defers
 j9:=by cases dst<;>simpa [Act.put] using h.j9
structure Step (g:G) (s:S) (ax:fz) (w:World) (bS:S) (bL:fz) (bJ:World):Prop where
 a3 : ∀r k,s.a3 r k->bS.a3 r k
 bd : ∀r k,s.a3 r k->bS.bd bL r k=s.bd ax r k\/bS.bd bL r k=none
 live : ∀b,bS.mx bL b->s.mx ax b\/w.heap.size<=b
 heap : ∀b,b<w.heap.size-> ¬s.mx ax b->bJ.heap[b]? = w.heap[b]?
 size:w.heap.size<=bJ.heap.size
theorem Step.ok {g:G}{s bS:S}{ax bL:fz}{w bJ:World}(h:Step g s ax w bS bL bJ)(b:Nat)(aL:s.ok g ax w b):bS.ok g bL bJ b :=
 ⟨Nat.lt_of_lt_of_le aL.1 h.size,aL.2.1,fun aO=>by
  rcases h.live b aO with h1|h1
  ·exact aL.2.2 h1
  exact absurd aL.1 (by omega)⟩
theorem Step.rel {g:G}{s bS:S}{ax bL:fz}{w bJ:World}(h:Step g s ax w bS bL bJ){x:ay}{v:Value}
 (ai:Rel w (s.ok g ax w) s.a3 (s.bd ax) x v):Rel bJ (bS.ok g bL bJ) bS.a3 (bS.bd bL) x v :=
 ai.mono h.ok (fun b aL=>h.heap b aL.1 aL.2.2) h.a3 h.bd
theorem Step.obj {g:G}{s bS:S}{ax bL:fz}{w bJ:World}(h:Step g s ax w bS bL bJ){I:aU}{p:Option (Nat×Nat)}
 (ae : ∀b m,p=some (b,m)->bJ.heap[b]? = w.heap[b]?) (ah:jr w (s.ok g ax w) s.a3 (s.bd ax) I p) :
 jr bJ (bS.ok g bL bJ) bS.a3 (bS.bd bL) I p:=by
 cases p with
 | none=>exact ah
 | some q =>
  obtain⟨b,m⟩:=q;obtain⟨c,eB,h1,o,aa,ao⟩:=ah;refine⟨c,eB,(ae b m rfl).trans h1,o,aa,fun j x U=> ?_⟩;obtain⟨v,e1,aD,bH⟩:=ao j x U;exact⟨v,e1,aD,h.rel bH⟩
theorem Step.stay {g:G}{s bS:S}{ax bL:fz}{w bJ:World}(h:Step g s ax w bS bL bJ)
 (bX : ∀j k,g.pJ j k->s.a3 j k/\(s.bd ax j k=g.si j k\/s.bd ax j k=none)) : ∀j k,g.pJ j k->bS.a3 j k/\(bS.bd bL j k=g.si j k\/bS.bd bL j k=none):=by
 intro j k au;obtain⟨h1,o⟩:=bX j k au;refine⟨h.a3 j k h1,?_⟩;rcases h.bd j k h1 with e|e
 ·rw[e];exact o
 exact .inr e
theorem Dz.step {g:G}{w bJ:World}(h:Dz g w)(h1:bJ.os=w.os)(o:bJ.tape=w.tape)(aa:bJ.output=w.output)(ao:w.heap.size<=bJ.heap.size)
 (aC : ∀b,b<g.nr.heap.size-> ¬g.qn b->bJ.heap[b]? = w.heap[b]?):Dz g bJ :=
 ⟨h1.trans h.os,o.trans h.tape,aa.trans h.output,Nat.le_trans h.size ao,fun b aL hm=>(aC b aL hm).trans (h.block b aL hm)⟩
theorem l9 (s:S)(r:Nat)(row:List aU)(q k:Nat):(s.setRow r row).af q k=if q=r then df (some row) k else s.af q k:=by unfold S.af S.setRow;by_cases e:q=r<;>simp[e]
theorem n2 (s:S)(r:Nat)(row:List aU)(q k:Nat):(s.setRow r row).a3 q k↔(if q=r then k<row.length else s.a3 q k):=by unfold S.a3 S.setRow;by_cases e:q=r<;>simp[e]
theorem FM {s:S}{r k:Nat}{I:aU}(h:s.af r k=some I):s.a3 r k:=by
 unfold S.af df at h;unfold S.a3
 cases ai:s.aM r with
 | none=>rw[ai] at h;simp at h
 | some l =>
  rw[ai] at h;simp only at h;rcases Nat.lt_or_ge k l.length with h1|h1
  ·simpa using h1
  rw[dP h1] at h;simp at h
theorem zW {s:S}{r:Nat}(h:s.aM r=none)(k:Nat): ¬s.a3 r k:=by simp[S.a3,h]
theorem Fq (s:S){r:Nat}{l row:List aU}(ai:s.aM r=some l)(aO:l.length<=row.length)(q k:Nat)(h:s.a3 q k):(s.setRow r row).a3 q k:=by
 rw[n2];by_cases e:q=r
 ·subst e;rw[dw rfl];simp[S.a3,ai] at h;omega
 rw[dA e];exact h
theorem afT {s:S}{r:Nat}(h:s.aM r=none)(k:Nat):s.af r k=none:=by simp[S.af,h,df]
def fz.set (ax:fz)(r k:Nat)(p:Option (Nat×Nat)):fz:=fun q j=>if q=r/\j=k then p else ax q j
theorem mR (I:aU)(k:Nat):df (some [I]) k=if k=0/\I.cl≠ .gone then some I else none:=by
 unfold df
 cases k with
 | zero=>by_cases h:I.cl = .gone<;>simp[h]
 | succ k=>simp
theorem Rel.drew {w:World}{ok:Nat->Prop}{a3:jH}{bd:jx}{x:ay}{v:Value}(h:Rel w ok a3 bd x v):Rel w.drew ok a3 bd x v :=
 h.mono (fun _ h=>h) (fun _ _=>rfl) (fun _ _ h=>h) (fun _ _ _=> .inl rfl)
theorem jr.drew {w:World}{ok:Nat->Prop}{a3:jH}{bd:jx}{I:aU}{p:Option (Nat×Nat)}(h:jr w ok a3 bd I p):jr w.drew ok a3 bd I p:=by
 cases p with
 | none=>exact h
 | some q =>
  obtain⟨c,eB,h1,o,aa,ao⟩:=h;exact⟨c,eB,h1,o,aa,fun j x U=>let ⟨v,a,b,c⟩:=ao j x U;⟨v,a,b,c.drew⟩⟩
theorem iK.drew {g:G}{s:S}{ax:fz}{w:World}(h:iK g s ax w):iK g s ax w.drew :=
 {obj:=fun r k I ah=>(h.obj r k I ah).drew,inj:=h.inj,own:=h.own,gW:=⟨h.gW.os,h.gW.tape,h.gW.output,h.gW.size,h.gW.block⟩,mlt:=h.mlt,oe:=h.oe,stay:=h.stay,low:=h.low}
theorem cB.drew {g:G}{s:S}{ax:fz}{a:Act}{w:World}(h:cB g s ax a w):cB g s ax a w.drew where
 toiK:=h.toiK.drew
 env:=fun t=>(h.env t).drew
 defers:=h.defers
 j9:=h.j9
theorem cB.alloc {g:G}{s:S}{ax:fz}{a:Act}{w:World}(h:cB g s ax a w){r:Nat}(ai:s.aM r=none)(I:aU)(aZ:I.cl = .live)
 (c:Array Value) (eB:TypeId) (hlen : ∀e∈I.es,e.length=I.sz)
 (a8 : ∀(j:Nat) x,I.es.flatten[j]? = some x-> ∃v,c[j]? = some v/\ky v=true/\Rel w (s.ok g ax w) s.a3 (s.bd ax) x v) :
 ∃bL,bL r 0=some (w.heap.size,c.size)/\cB g (s.setRow r [I]) bL a (w.alloc (.cells c eB)) /\
  ∀x v,Rel w (s.ok g ax w) s.a3 (s.bd ax) x v->Rel (w.alloc (.cells c eB)) ((s.setRow r [I]).ok g bL (w.alloc (.cells c eB))) (s.setRow r [I]).a3 ((s.setRow r [I]).bd bL) x v:=by
 have lH : ∀q k,q≠r->(ax.set r 0 (some (w.heap.size,c.size))) q k=ax q k:=fun q k a1=>by simp[fz.set,a1]
 have bm : ∀q k,q≠r->(s.setRow r [I]).af q k=s.af q k:=fun q k a1=>by rw[l9,dA a1]
 have AV : ∀k,(s.setRow r [I]).af r k=if k=0 then some I else none:=fun k=>by rw[l9,dw rfl,mR];simp[aZ]
 have uh : ∀q k p b m,s.af q k=some p->ax q k=some (b,m)->b<w.heap.size:=fun q k p b m ae a1=>by have:=h.obj q k p ae;rw[a1] at this;obtain⟨d6,mj,gf,_⟩:=this;exact(ah3.1 gf).1
 have c3:Step g s ax w (s.setRow r [I]) (ax.set r 0 (some (w.heap.size,c.size))) (w.alloc (.cells c eB)):=by
  refine⟨fun q k a1=>(n2 _ _ _ _ _).2 (by rw[dA (by rintro rfl;exact zW ai k a1)];exact a1),fun q k a1=> ?_,fun b aL=> ?_,fun b aL _=>heap_alloc_old w _ b aL,by simp⟩
  ·have cU:q≠r:=(by rintro rfl;exact zW ai k a1);left;simp only[S.bd,bm q k cU,lH q k cU]
  obtain⟨q,k,p,m,h1,o,aa⟩:=aL;by_cases e:q=r
  ·subst e
   rw[AV] at h1;by_cases e0:k=0
   ·subst e0;simp[fz.set] at aa;right;omega
   simp[e0] at h1
  rw[bm q k e] at h1;rw[lH q k e] at aa;exact .inl ⟨q,k,p,m,h1,o,aa⟩
 refine⟨ax.set r 0 (some (w.heap.size,c.size)),by simp[fz.set],?_,fun x v=>c3.rel⟩;refine {toiK:=⟨?_,?_,?_,?_,h.mlt,h.oe,c3.stay h.stay,h.low⟩,env:=fun t=>c3.rel (h.env t),defers:=h.defers,j9:=h.j9}
 ·intro q k p ae
  by_cases e:q=r
  ·subst e
   rw[AV] at ae;by_cases e0:k=0
   ·subst e0;simp at ae;subst ae;simp only[fz.set,and_self,if_true];exact⟨c,eB,heap_alloc_new w _,rfl,hlen,fun j x U=>let ⟨v,e1,aD,bH⟩:=a8 j x U;⟨v,e1,aD,c3.rel bH⟩⟩
   simp[e0] at ae
  rw[bm q k e] at ae;rw[lH q k e];exact c3.obj (fun b m hm=>heap_alloc_old w _ b (uh q k p b m ae hm)) (h.obj q k p ae)
 ·intro q k p il dc kI b m bi h1 o aa ao
  by_cases e:q=r<;>by_cases ez:il=r
  ·subst e;subst ez;rw[AV] at h1 o;by_cases e0:k=0<;>by_cases e1:dc=0<;>simp[e0,e1] at h1 o;exact⟨rfl,by omega⟩
  ·subst e;rw[AV] at h1;rw[bm _ _ ez] at o;rw[lH _ _ ez] at ao;by_cases e0:k=0<;>simp[e0] at h1;subst e0;simp[fz.set] at aa;have:=uh il dc kI b bi o ao;omega
  ·subst ez;rw[bm _ _ e] at h1;rw[AV] at o;rw[lH _ _ e] at aa;by_cases e0:dc=0<;>simp[e0] at o;subst e0;simp[fz.set] at ao;have:=uh q k p b m h1 aa;omega
  rw[bm _ _ e] at h1;rw[bm _ _ ez] at o;rw[lH _ _ e] at aa;rw[lH _ _ ez] at ao;exact h.inj q k p il dc kI b m bi h1 o aa ao
 ·intro q k p b m h1 o
  by_cases e:q=r
  ·subst e;rw[AV] at h1;by_cases e0:k=0<;>simp[e0] at h1;subst e0;simp[fz.set] at o;left;have:=h.gW.size;omega
  rw[bm _ _ e] at h1;rw[lH _ _ e] at o;exact h.own q k p b m h1 o
 exact h.gW.step rfl rfl rfl (by simp) fun b aL _=>heap_alloc_old w _ b (Nat.lt_of_lt_of_le aL h.gW.size)
theorem QF (l:List aU)(k:Nat)(I b3:aU)(h:df (some l) k=some I)(aZ:b3.cl≠ .gone)(j:Nat):
 df (some (l.set k b3)) j=if j=k then some b3 else df (some l) j:=by
 unfold df at *
 have dZ:k<l.length:=by
  rcases Nat.lt_or_ge k l.length with h1|h1
  ·exact h1
  simp[dP h1] at h
 by_cases e:j=k
 ·subst e;simp[dZ,aZ]
 simp only[ah1,dA (Ne.symm e),dA e]
theorem cB.write {g:G}{s:S}{ax:fz}{a:Act}{w bJ:World}(h:cB g s ax a w){r k b m:Nat}{l:List aU}{I:aU}(ai:s.aM r=some l)(ah:s.af r k=some I)
 (aZ:I.cl = .live) (ae:ax r k=some (b,m)) (es:List (List ay)) (c:Array Value) (eB:TypeId)
 (hw:bJ.heap[b]? = some (.cells c eB (0,0))) (e3:bJ.heap.size=w.heap.size) (xg : ∀q,q≠b->bJ.heap[q]? = w.heap[q]?)
 (rA:bJ.os=w.os) (KH:bJ.tape=w.tape) (Kk:bJ.output=w.output) (hm:c.size=m)
 (hlen : ∀e∈es,e.length=I.sz)
 (a8 : ∀(j:Nat) x,es.flatten[j]? = some x-> ∃v,c[j]? = some v/\ky v=true/\Rel w (s.ok g ax w) s.a3 (s.bd ax) x v) :
 cB g (s.setRow r (l.set k {I with es})) ax a bJ /\
  ∀x v,Rel w (s.ok g ax w) s.a3 (s.bd ax) x v->Rel bJ ((s.setRow r (l.set k {I with es})).ok g ax bJ) (s.setRow r (l.set k {I with es})).a3 ((s.setRow r (l.set k {I with es})).bd ax) x v:=by
 have h4:({I with es}:aU).cl≠ .gone:=by rw[aZ];simp
 have bm : ∀q j,(s.setRow r (l.set k {I with es})).af q j=if q=r/\j=k then some {I with es} else s.af q j:=by
  intro q j;rw[l9];by_cases e:q=r
  ·subst e;have ea:df (some l) k=some I:=(by rw[<- ai];exact ah);rw[dw rfl,QF l k I _ ea h4];by_cases aD:j=k<;>simp[aD,S.af,ai]
  simp[e]
 have qD:s.mx ax b:=⟨r,k,I,m,ah,aZ,ae⟩
 have c3:Step g s ax w (s.setRow r (l.set k {I with es})) ax bJ:=by
  refine⟨Fq s ai (by simp),fun q j a1=> .inl ?_,fun q a1=> ?_,fun q a1 aO=>xg q fun e=>aO (e▸qD),Nat.le_of_eq e3.symm⟩
  ·simp only[S.bd,bm]
   by_cases e:q=r/\j=k
   ·obtain⟨rfl,rfl⟩:=e;simp[ah]
   rw[dA e]
  obtain⟨il,j,p,bi,h1,o,aa⟩:=a1;rw[bm] at h1;by_cases e:il=r/\j=k
  ·obtain⟨rfl,rfl⟩:=e;exact .inl ⟨il,j,I,bi,ah,aZ,aa⟩
  rw[dA e] at h1;exact .inl ⟨il,j,p,bi,h1,o,aa⟩
 refine⟨{toiK:=⟨?_,?_,?_,?_,h.mlt,h.oe,c3.stay h.stay,h.low⟩,env:=fun t=>c3.rel (h.env t),defers:=h.defers,j9:=h.j9},fun x v=>c3.rel⟩
 ·intro q j p kS
  rw[bm] at kS;by_cases e:q=r/\j=k
  ·obtain⟨rfl,rfl⟩:=e;simp at kS;subst kS;rw[ae];exact⟨c,eB,hw,hm,hlen,fun j x U=>let ⟨v,e1,aD,bH⟩:=a8 j x U;⟨v,e1,aD,c3.rel bH⟩⟩
  rw[dA e] at kS;refine c3.obj (fun kk bi lD=>xg kk ?_) (h.obj q j p kS);rintro rfl;exact e (h.inj q j p r k I kk bi m kS ah lD ae)
 ·intro q j p il iC kI kk iN hG h1 o aa ao
  have key : ∀q j p,(s.setRow r (l.set k {I with es})).af q j=some p-> ∃kI,s.af q j=some kI:=by
   intro q j p a1;rw[bm] at a1;by_cases e:q=r/\j=k
   ·obtain⟨rfl,rfl⟩:=e;exact⟨I,ah⟩
   rw[dA e] at a1;exact⟨p,a1⟩
  obtain⟨p1,S0⟩:=key q j p h1;obtain⟨hX,D0⟩:=key il iC kI o;exact h.inj q j p1 il iC hX kk iN hG S0 D0 aa ao
 ·intro q j p kk bi h1 o
  rw[bm] at h1;by_cases e:q=r/\j=k
  ·obtain⟨rfl,rfl⟩:=e;exact h.own q j I kk bi ah o
  rw[dA e] at h1;exact h.own q j p kk bi h1 o
 refine h.gW.step rA KH Kk (Nat.le_of_eq e3.symm) fun kk qi lD=>xg kk ?_;rintro rfl;rcases h.own r k I kk m ah ae with h1|h1
 ·omega
 exact lD h1
inductive sx where
 | id
 | dv (es:List (List ay))
 | i3 (sz:Nat)
 | jS
 | cw (x:ay)
 | len (n:Nat)
 | LI (sz:Nat)
 | at_ (j i n:Nat)
 | view (eb:Nat) (I:aU) (es:List (List ay))
 deriving Inhabited
inductive Bu where
 | cW (c:sx)
 | ptr (l:List sx)
 | Kl (l:List sx)
 | agg (l:List sx)
 deriving Inhabited
inductive lI where
 | bl (c:Bu)
 | comp (l:List Bu)
 deriving Inhabited
inductive iO where
 | pure
 | box (l:List sx)
 | cw (row:List aU)
 | b0 (row:List aU)
 | rx (row:List aU)
 | drop
 deriving Inhabited
structure m6 where
 bF:List (Nat×Nat):=[]
 kl:Option (Nat×Nat):=none
 deriving DecidableEq
inductive Src where
 | row (r:Nat)
 | af (r k:Nat) (I:aU)
 deriving Inhabited
structure yb where
 aW:List Src:=[]
 dd:List iO:=[]
 ac:List lI
 r:ay
 fm:List (List aU):=[]
 ho:lI:= .bl (.cW .id)
 iW:List iO:=[]
 eM:List Nat:=[]
 eu:Bool:=true
inductive fc where
 | none
 | ad (t:Bool)
 | cJ (c:List ay)
 | gJ (I:aU) (c:List ay)
 | gp
 | EL
 | call (c:yb)
 | aH (m:Nat) (I:Option aU:=Option.none)
 | kJ (t:Nat) (v:ay) (a:fc)
 | uH (r:Nat) (a:fc)
 | yc (r n:Nat) (a:fc)
structure hk where
 val:ay
 fU:List (Nat×List aU):=[]
 fu:List Prop:=[]
def C6 (P:Program)(t:TypeId):Bool :=
 match P.underlying t with
 | some (.struct _)|some (.array _ _)=>true
 | _=>false
def s7 (oo:ar):ByteArray:=oo.foldl (fun r n=>r.push (UInt8.ofNat n.toNat)) ByteArray.empty
def bytesOf:List (List ay)->Option ar
 | []=>some []
 | [.n .u8 n]::es=>(bytesOf es).map (n :: ·)
 | _=>none
def elemAt (es:List (List ay))(i:Nat):fc->Option (List ay×List Prop)
 | .cJ c=>some (c,[es[i]? = some c])
 | .gJ _ c=>some (c,[es[i]? = some c])
 | _=>match es[i]? with
  | some c=>some (c,[])
  | none=>none
def oG (row:Option (List aU))(k:Nat):fc->Option (aU×List Prop)
 | .gJ I _=>match row with
  | some row=>some (I,[df (some row) k=some I])
  | none=>none
 | _=>match df row k with
  | some I=>some (I,[])
  | none=>none
def KI (a:fc)(l h len uI n:Nat):List Prop:=match a with
 | .EL=>[l<=h,uI+h<=n]
 | _=>[l<=h,h<=len]
def rn (P:Program)(t:TypeId)(c:List ay)(off:Nat):Option ay :=
 if !((P.underlying t).isSome && (P.info? t).isSome) then none else
 if C6 P t then (if off+P.cellsOf t<=c.length then some (.agg ((c.drop off).take (P.cellsOf t))) else none)
 else match c[off]? with
  | some x=>if x.one then some x else none
  | none=>none
def Km (op:BinOp)(x y:ay):Option (ay×List Prop) :=
 match x,y with
 | .n k a,.n dc b =>
  match op with
  | .shl=>some (.n k (k.wrap (a*2 ^ (min b.toNat k.bits))),[0<=b])
  | .shr=>some (.n k (a.fdiv (2 ^ (min b.toNat k.bits))),[0<=b])
  | _=>if k≠dc then none else
   match op with
   | .add=>some (.n k (k.wrap (a+b)),[])
   | .sub=>some (.n k (k.wrap (a-b)),[])
   | .mul=>some (.n k (k.wrap (a*b)),[])
   | .quo=>some (.n k (k.wrap (a.tdiv b)),[b≠0])
   | .rem=>some (.n k (a.tmod b),[b≠0])
   | .and=>some (.n k (k.wrap ((BitVec.ofInt k.bits a &&& BitVec.ofInt k.bits b).toNat)),[])
   | .or=>some (.n k (k.wrap ((BitVec.ofInt k.bits a ||| BitVec.ofInt k.bits b).toNat)),[])
   | .xor=>some (.n k (k.wrap ((BitVec.ofInt k.bits a ^^^ BitVec.ofInt k.bits b).toNat)),[])
   | .eql=>some (.b (a == b),[])
   | .neq=>some (.b (a != b),[])
   | .lss=>some (.b (decide (a<b)),[])
   | .leq=>some (.b (decide (a<=b)),[])
   | .gtr=>some (.b (decide (b<a)),[])
   | .geq=>some (.b (decide (b<=a)),[])
   | _=>none
 | .s a,.s b =>
  match op with
  | .add=>some (.s (a++b),[a.size+b.size<9223372036854775808])
  | .eql=>some (.b (a.toList == b.toList),[])
  | .neq=>some (.b (!(a.toList == b.toList)),[])
  | _=>none
 | _,_=>none
def s9 (P:Program)(t:TypeId)(x y:ay):Option Bool :=
 match P.underlying t,x,y with
 | some .bool,.b a,.b c=>some (a == c)
 | some (.pointer _),.iR,.iR=>some true
 | some (.pointer _),.fi ..,.iR=>some false
 | some (.pointer _),.iR,.fi .. => some false
 | some (.slice _),.fs,.fs=>some true
 | some (.slice _),.iV,.fs=>some false
 | _,_,_=>none
def KJ (op:UnOp)(x:ay):Option ay :=
 match op,x with
 | .neg,.n k a=>some (.n k (k.wrap (0-a)))
 | .not,.b a=>some (.b (!a))
 | _,_=>none
def fieldsOf (P:Program)(t:TypeId):Option (Array Field) :=
 match P.underlying t with
 | some (.struct lf)=>some lf
 | _=>none
def p9 (P:Program)(t:TypeId):Option TypeId :=
 match P.underlying t with
 | some (.slice e)=>some e
 | _=>none
def qv (P:Program)(t:TypeId):Option (List ay) :=
 match P.info? t with
 | some i=>match i.zero with
  | some v=>if v.cells.toList.all (·.oneCell') then some (v.cells.toList.map ofValue) else none
  | none=>none
 | none=>none
def DA (P:Program)(t:TypeId):Option (Nat×TypeId) :=
 match P.underlying t with
 | some (.array n e)=>if (P.info? e).isSome/\P.cellsOf e≠0/\1<n then some (n,e) else none
 | _=>none
def qH (j:Int):List ay->List ay->Option (List ay)
 | [],[]=>some []
 | .n k x::a,.n dc y::b=>if k=dc then (qH j a b).map (.n k (if j=0 then x else y) :: ·) else none
 | _,_=>none
def JQ (P:Program)(t:TypeId)(x kK:ay):Option hk :=
 match DA P t,x,kK with
 | some (2,e),.agg cs,.n _ j=>match rn P e cs (0*P.cellsOf e),rn P e cs (1*P.cellsOf e) with
  | some (.agg a),some (.agg b)=>(qH j a b).map fun c=>{val:= .agg c,fu:=[0<=j,j<2]}
  | _,_=>none
 | _,_,_=>none
def AN (P:Program)(aM:Nat->Option (List aU))(t:TypeId)(x kK:ay)(cE:fc):Option hk :=
 match DA P t,x,kK with
 | some (n,e),.ref r k i off,.n _ j=>match oG (aM r) k cE with
  | some (af,bY)=>match elemAt af.es i cE with
   | some (_,aN)=>some {val:= .ref r k i (off+j.toNat*P.cellsOf e),fu:=bY++aN++[0<=j,j<n]}
   | none=>none
  | none=>none
 | _,_,_=>none
def C7:ay->ay->ay
 | .fs,.isl sz []=> .isl sz []
 | .iR,.kr sz none=> .kr sz none
 | .fs,.jj r c sz none=> .jj r c sz none
 | x,_=>x
def r5:List ay->List ay->List ay
 | x::z,y::c=>C7 x y::r5 z c
 | z,_=>z
def tZ (z:List ay):fc->List ay
 | .cJ c=>r5 z c
 | _=>z
def setCells (c:List ay)(off:Nat)(vs:List ay):List ay:=c.take off++vs++c.drop (off+vs.length)
def s3:List ay->List (Nat×Nat×ay)->Option (List ay)
 | c,[]=>some c
 | c,(off,size,x)::rest =>
  if x.Am && x.cells.length=size && decide (off+size<=c.length) then s3 (setCells c off x.cells) rest else none
def AO (sz:Nat):List (List ay)->List (Nat×ay)->Option (List (List ay))
 | es,[]=>some es
 | es,(i,x)::rest=>if x.Am && x.cells.length=sz && decide (i<es.length) then AO sz (es.set i x.cells) rest else none
def al:Option ay->Nat->Option (Nat×List Prop)
 | none,d=>some (d,[])
 | some (.n _ x),_=>some (x.toNat,[0<=x])
 | _,_=>none
def Jm (P:Program)(t:TypeId)(parts:List (Nat×ay)):Option hk :=
 match DA P t,qv P t with
 | some (_,e),some z=>(s3 z (parts.map fun p=>(p.1*P.cellsOf e,P.cellsOf e,p.2))).map fun c=>{val:= .agg c}
 | _,_=>none
def eU (P:Program)(E:Nat->ay)(aM:Nat->Option (List aU))(aT:Nat)(I:Oper)(cE:fc):Option hk :=
 let hH:=eD E
 match I.op with
 | .move x | .assign x=>some {val:=hH x}
 | .pick c a b =>
  match hH c,cE with
  | .b x,.ad t=>some {val:=if t then hH a else hH b,fu:=[x=t]}
  | .b true,_=>some {val:=hH a}
  | .b false,_=>some {val:=hH b}
  | _,_=>none
 | .alloc t =>
  match qv P t with
  | some c=>some {val:= .ref aT 0 0 0,fU:=[(aT,[⟨c.length,[c],.live⟩])]}
  | none=>none
 | .box _ x =>
  match hH x with
  | .agg c=>some {val:= .ref aT 0 0 0,fU:=[(aT,[⟨c.length,[c],.live⟩])]}
  | v=>if v.one then some {val:= .ref aT 0 0 0,fU:=[(aT,[⟨1,[[v]],.live⟩])]} else none
 | .load t x =>
  match hH x with
  | .ref r k i off =>
   match oG (aM r) k cE with
   | some (af,bY)=>match elemAt af.es i cE with
    | some (c,aN)=>match rn P t c off with
     | some v=>some {val:=v,fu:=bY++aN}
     | none=>none
    | none=>none
   | none=>none
  | .fi _ es i off =>
   match elemAt es i cE with
   | some (c,aN)=>match rn P t c off with
    | some v=>some {val:=v,fu:=aN}
    | none=>none
   | none=>none
  | _=>none
 | .store t x y =>
  match hH x with
  | .ref r k i off =>
   match aM r with
   | none=>none
   | some row =>
   match oG (some row) k cE with
   | some (af,bY) =>
    if af.cl≠ .live then none else
    let v:=hH y
    if v.Am=false then none else
    if v.cells.length≠P.cellsOf t\/(P.info? t).isSome=false then none else
    match cE with
    | .gp=>if off=0 then some {val:= .dead,fU:=[(r,row.set k {af with es:=af.es.set i v.cells})],fu:=bY++[i<af.es.length,v.cells.length=af.sz]} else none
    | _=>match elemAt af.es i cE with
     | some (c,aN)=>if off+v.cells.length<=c.length then some {val:= .dead,fU:=[(r,row.set k {af with es:=af.es.set i (setCells c off v.cells)})],fu:=bY++aN} else none
     | none=>none
   | none=>none
  | _=>none
 | .nilCheck x =>
  match hH x with
  | .ref r k i off=>match oG (aM r) k cE with
   | some (af,bY)=>match elemAt af.es i cE with
    | some (_,aN)=>some {val:= .ref r k i off,fu:=bY++aN}
    | none=>none
   | none=>none
  | .fi sz es i off=>some {val:= .fi sz es i off}
  | .fn f c=>some {val:= .fn f c}
  | _=>none
 | .binOp op t x y _ =>
  match Km op (hH x) (hH y) with
  | some (v,af)=>some {val:=v,fu:=af}
  | none=>match op with
   | .eql=>(s9 P t (hH x) (hH y)).map fun r=>{val:= .b r}
   | .neq=>(s9 P t (hH x) (hH y)).map fun r=>{val:= .b (!r)}
   | _=>none
 | .unOp op _ x=>(KJ op (hH x)).map fun v=>{val:=v}
 | .convert src dst x =>
  match P.underlying dst,hH x with
  | some (.int k),.n _ a=>if (P.underlying src).isSome then some {val:= .n k (k.wrap a)} else none
  | some .string,.bu r k bE len =>
   match (p9 P src).bind P.underlying,df (aM r) k with
   | some (.int .u8),some af=>match bytesOf ((af.es.drop bE).take len) with
    | some oo=>if bE+len<=af.es.length/\af.sz=1 then some {val:= .s (s7 oo)} else none
    | none=>none
   | _,_=>none
  | _,_=>none
 | .makeFunc (.func f) first captured =>
  if first.size=0 then some {val:= .fn f (captured.toList.map hH)} else none
 | .makeSlice t l c =>
  match p9 P t,hH l,hH c with
  | some e,.n _ l,.n _ c =>
   match P.info? e,qv P e with
   | some i,some z=>if z.length=i.size then some {val:= .bu aT 0 0 l.toNat,fU:=[(aT,[⟨z.length,List.replicate l.toNat (tZ z cE),.live⟩])],fu:=[0<=l,l<=c,(i.bytes:Int)*c<=281474976710656,c<9223372036854775808]} else none
   | _,_=>none
  | _,_,_=>none
 | .fieldAddr t x f =>
  match fieldsOf P t with
  | some lf=>match lf[f]? with
   | some fd=>if P.cellsOf fd.type=0 then none else
    match hH x with
    | .ref r k i off=>match oG (aM r) k cE with
     | some (af,bY)=>match elemAt af.es i cE with
      | some (_,aN)=>some {val:= .ref r k i (off+fd.offset),fu:=bY++aN}
      | none=>none
     | none=>none
    | .fi sz es i off=>some {val:= .fi sz es i (off+fd.offset)}
    | _=>none
   | none=>none
  | none=>none
 | .field t x f =>
  match fieldsOf P t with
  | some lf=>match lf[f]?,hH x with
   | some fd,.agg c=>(rn P fd.type c fd.offset).map fun v=>{val:=v}
   | _,_=>none
  | none=>none
 | .indexAddr t x kK =>
  match p9 P t,hH kK with
  | some e,.n _ j =>
   match hH x with
   | .isl sz es=>if sz=P.cellsOf e/\sz≠0 then some {val:= .fi sz es j.toNat 0,fu:=[0<=j,j<es.length]} else none
   | .bu r k bE len=>match aM r with
    | some row=>match oG (some row) k cE with
     | some (af,bY)=>if af.sz=P.cellsOf e/\af.sz≠0 then some {val:= .ref r k (bE+j.toNat) 0,fu:=bY++[0<=j,j<len]} else none
     | none=>none
    | none=>none
   | _=>none
  | _,_=>AN P aM t (hH x) (hH kK) cE
 | .index t x kK =>
  match P.underlying t,hH x,hH kK with
  | some .string,.s s,.n _ j=>some {val:= .n .u8 (s.data.toList.getD j.toNat 0).toNat,fu:=[0<=j,j<s.size]}
  | _,_,_=>JQ P t (hH x) (hH kK)
 | .extract x i =>
  match hH x with
  | .d9 vs=>(vs[i]?).map fun v=>{val:=v}
  | _=>none
 | .slice t x bE ab none =>
  match P.underlying t,hH x with
  | some (.slice e),.isl sz es =>
   match al (bE.map hH) 0,al (ab.map hH) es.length with
   | some (l,bY),some (h,aN)=>if sz=P.cellsOf e/\sz≠0 then some {val:= .isl sz ((es.drop l).take (h-l)),fu:=bY++aN++[l<=h,h<=es.length]} else none
   | _,_=>none
  | some (.slice e),.bu r k uI len =>
   match aM r with
   | none=>none
   | some row=>match oG (some row) k cE with
    | none=>none
    | some (af,EM) =>
     match al (bE.map hH) 0,al (ab.map hH) len with
     | some (l,bY),some (h,aN)=>if af.sz=P.cellsOf e/\af.sz≠0 then some {val:= .bu r k (uI+l) (h-l),fu:=EM++bY++aN++KI cE l h len uI af.es.length} else none
     | _,_=>none
  | some .string,.s s =>
   match al (bE.map hH) 0,al (ab.map hH) s.size with
   | some (l,bY),some (h,aN)=>some {val:= .s (s.extract l h),fu:=bY++aN++[l<=h,h<=s.size]}
   | _,_=>none
  | _,_=>none
 | .slice t x bE (some ab) (some uJ) =>
  match P.underlying t,hH x with
  | some (.slice e),.bu r k uI len =>
   match aM r with
   | none=>none
   | some row=>match oG (some row) k cE with
    | none=>none
    | some (af,EM) =>
     match al (bE.map hH) 0,al ((some ab).map hH) len,al ((some uJ).map hH) len with
     | some (l,bY),some (h,aN),some (m,fA)=>if af.sz=P.cellsOf e/\af.sz≠0 then some {val:= .dead,fu:=EM++bY++aN++fA++[l<=h,h<=m,m<=len]} else none
     | _,_,_=>none
  | _,_=>none
 | .build t parts =>
  match fieldsOf P t,qv P t with
  | some lf,some z =>
   if lf.toList.all (fun f=>(P.info? f.type).isSome)=false then none else
   match parts.toList.mapM fun (p:Nat×Operand)=>(lf[p.1]?).map fun fd=>(fd.offset,P.cellsOf fd.type,hH p.2) with
   | some l=>(s3 z l).map fun c=>{val:= .agg c}
   | none=>none
  | _,_=>Jm P t (parts.toList.map fun p=>(p.1,hH p.2))
 | .buildSlice t len parts =>
  match p9 P t with
  | some e=>match qv P e with
   | some z =>
    if len*z.length>16777216\/z.length≠P.cellsOf e\/z.length=0 then none else
    match AO z.length (List.replicate len z) (parts.toList.map fun p=>(p.1,hH p.2)) with
    | some es=>some {val:= .bu aT 0 0 len,fU:=[(aT,[⟨z.length,es,.live⟩])]}
    | none=>none
   | none=>none
  | none=>none
 | .call {callee:= .builtin .len,args,argTypes} =>
  match args.toList.map hH,P.underlying (argTypes.getD 0 0),decide (argTypes.size=1) with
  | [.isl _ es],some (.slice _),true=>some {val:= .n .i64 es.length}
  | [.bu r k _ len],some (.slice _),true=>match aM r with
   | some row=>match oG (some row) k cE with
    | some (_,bY)=>some {val:= .n .i64 len,fu:=bY}
    | none=>none
   | none=>none
  | [.fs],some (.slice _),true=>some {val:= .n .i64 0}
  | [.s x],some .string,true=>some {val:= .n .i64 x.size}
  | _,_,_=>none
 | _=>none
theorem p2 {α:Type}{sz:Nat}(bX:0<sz): ∀(es:List (List α)) (_ : ∀e∈es,e.length=sz) (j:Nat),
 es.flatten[j]? = (es[j / sz]?).bind (·[j % sz]?)
 | [],_,j=>by simp
 | e::es,h,j=>by
  have he:e.length=sz:=h e (by simp);rw[ahW,List.getElem?_append];by_cases au:j<sz
  ·rw[dw (by omega),Nat.div_eq_of_lt au,Nat.mod_eq_of_lt au];simp
  rw[dA (by omega),he,p2 bX es (fun ez mE=>h ez (by simp[mE])) (j-sz)];have h1:j / sz=(j-sz) / sz+1:=Nat.div_eq_sub_div bX (by omega);have o:j % sz=(j-sz) % sz:=Nat.mod_eq_sub_mod (by omega);rw[h1,o];simp
theorem CI {α:Type}{sz:Nat}{es:List (List α)}(aO:∀e∈es,e.length=sz){i:Nat}{c:List α}(he:es[i]? = some c){j:Nat}(au:j<sz):
 es.flatten[i*sz+j]? = c[j]? := by
 have bX:0<sz:=by omega
 rw[p2 bX es aO];have h1:(i*sz+j) / sz=i:=by rw[Nat.mul_comm,Nat.mul_add_div bX,Nat.div_eq_of_lt au];omega
 have o:(i*sz+j) % sz=j:=by rw[Nat.mul_comm,Nat.mul_add_mod,Nat.mod_eq_of_lt au]
 rw[h1,o,he];rfl
theorem Px {α:Type}{sz:Nat}{es:List (List α)}(aO:∀e∈es,e.length=sz){i:Nat}{c d6:List α}(he:es[i]? = some c)(a8:d6.length=sz)(j:Nat):
 (es.set i d6).flatten[j]? = if i*sz<=j/\j<i*sz+sz then d6[j-i*sz]? else es.flatten[j]? := by
 rcases Nat.eq_zero_or_pos sz with h0|bX
 ·subst h0
  have e1 : ∀(l:List (List α)),(∀e∈l,e.length=0)->l.flatten=[]:=by
   intro l aO;induction l with
   | nil=>rfl
   | cons a l ih=>rw[ahW,ih fun e he=>aO e (by simp[he])];have:=aO a (by simp);simp_all
  rw[e1 _ aO,e1 (es.set i d6) (by
   intro e hm;rcases List.mem_or_eq_of_mem_set hm with h|h
   ·exact aO e h
   exact h▸a8)]
  simp
 have KK : ∀e∈es.set i d6,e.length=sz:=by
  intro e hm;rcases List.mem_or_eq_of_mem_set hm with h|h
  ·exact aO e h
  exact h▸a8
 have ab:i<es.length:=by
  rcases Nat.lt_or_ge i es.length with h|h
  ·exact h
  rw[dP h] at he;simp at he
 rw[p2 bX _ KK,p2 bX _ aO];by_cases a1:j / sz=i
 ·have h1:i*sz<=j/\j<i*sz+sz:=by
   subst a1;constructor
   ·exact Nat.div_mul_le_self j sz
   ·have:=Nat.lt_div_mul_add (a:=j) bX;omega
  rw[dw h1,a1,List.getElem?_set_self ab];have:j % sz=j-i*sz:=(by subst a1;have:=Nat.div_add_mod j sz;rw[Nat.mul_comm] at this;omega);simp[this]
 have h1 : ¬(i*sz<=j/\j<i*sz+sz):=by rintro⟨a,b⟩;apply a1;obtain⟨d,rfl⟩ : ∃d,j=i*sz+d:=⟨j-i*sz,by omega⟩;rw[Nat.mul_comm i sz,Nat.mul_add_div bX,Nat.div_eq_of_lt (by omega)];omega
 rw[dA h1,List.getElem?_set_ne (Ne.symm a1)]
def pi (w:World)(ok:Nat->Prop)(a3:jH)(bd:jx)(ek I sz:Nat)(es:List (List ay)):Prop :=
 (∀e∈es,e.length=sz)/\ ∀(j:Nat) x,es.flatten[j]? = some x-> ∃v,w.cell? ⟨ek,I+j,none⟩=some v/\ky v=true/\Rel w ok a3 bd x v
theorem jr.rd {w:World}{ok:Nat->Prop}{a3:jH}{bd:jx}{I:aU}{ek m:Nat}(h:jr w ok a3 bd I (some (ek,m))):pi w ok a3 bd ek 0 I.sz I.es:=by obtain⟨c,eB,h1,o,aa,ao⟩:=h;refine⟨aa,fun j x U=> ?_⟩;obtain⟨v,e1,aD,bH⟩:=ao j x U;exact⟨v,by rw[cell_of_row w ek (0+j) c eB (0,0) h1,dF];exact e1,aD,bH⟩
theorem af3 {w:World}{ok:Nat->Prop}{a3:jH}{bd:jx}{x:ay}{v:Value}(h:Rel w ok a3 bd x v)(ah:x.one=true):v.oneCell'=true:=h.ky ah
theorem Qc {P:Program}{t:TypeId}(h:(P.underlying t).isSome=true)(w:World):(isAgg t).run P w = .ok (C6 P t) w:=by
 cases bF:P.underlying t with
 | none=>simp[bF] at h
 | some d=>cases d<;>simp[isAgg,C6,run_underlying bF,bF]
theorem sK {P:Program}{t:TypeId}(h:(P.info? t).isSome=true)(w:World):(sizeOf t).run P w = .ok (P.cellsOf t) w:=by
 cases ab:P.info? t with
 | none=>simp[ab] at h
 | some i=>simp[sizeOf,typeInfo,ab,Program.cellsOf]
theorem rV (b I n:Nat):(⟨b,I,none⟩:Addr).add n=⟨b,I+n,none⟩:=by unfold Addr.add;split<;>simp_all
theorem IZ {P:Program}{w:World}{ok:Nat->Prop}{a3:jH}{bd:jx}{ek I sz i off:Nat}{es:List (List ay)}{c:List ay}{t:TypeId}{x:ay}
 (iX:pi w ok a3 bd ek I sz es) (he:es[i]? = some c) (cb:rn P t c off=some x) :
 ∃v,(Instr.loadAt t (.pointer (some ⟨ek,I+(i*sz+off),none⟩))).run P w = .ok v w/\Rel w ok a3 bd x v:=by
 have hlen:c.length=sz:=iX.1 c (dH he);unfold rn at cb;split at cb
 ·simp at cb
 rename_i ab;simp only[Bool.not_eq_true',Bool.not_eq_false,ahU] at ab;have kn : ∀j,j<sz-> ∃y v,c[j]? = some y/\w.cell? ⟨ek,I+(i*sz+j),none⟩=some v/\ky v=true/\Rel w ok a3 bd y v:=by intro j au;have aR:c[j]? = some c[j]:=dx (by omega);obtain⟨v,e1,aD,bH⟩:=iX.2 (i*sz+j) c[j] (by rw[CI iX.1 he au,aR]);exact⟨_,v,aR,e1,aD,bH⟩
 simp only[Instr.loadAt,Instr.sureAddr,loadVar,Sem.run_bind,Sem.run_pure,Result.andThen,Qc ab.1,sK ab.2];split at cb;rotate_left
 ·rename_i sf
  have sf:C6 P t=false:=(by simpa using sf);rw[sf];split at cb
  ·rename_i y aR
   split at cb
   ·simp at cb;subst cb
    have AW:off<sz:=by
     rcases Nat.lt_or_ge off c.length with h|h
     ·omega
     rw[dP h] at aR;simp at aR
    obtain⟨mM,v,h0,e1,aD,bH⟩:=kn off AW;rw[h0] at aR;simp at aR;subst aR;exact⟨v,by simp[e1],bH⟩
   simp at cb
  simp at cb
 rename_i sf;rw[sf];split at cb;rotate_left
 ·simp at cb
 rename_i hle;simp at cb;subst cb;have aO:=run_loadCells (P:=P) w ⟨ek,I+(i*sz+off),none⟩ (P.cellsOf t) (fun j=>(w.cell? ⟨ek,I+(i*sz+(off+j)),none⟩).getD undef) (by intro j au;obtain⟨y,v,-,e1,-,-⟩:=kn (off+j) (by omega);rw[rV,show I+(i*sz+off)+j=I+(i*sz+(off+j)) by omega,e1];rfl);refine⟨.agg (List.map (fun j=>(w.cell? ⟨ek,I+(i*sz+(off+j)),none⟩).getD undef) (List.range (P.cellsOf t))).toArray,by simp[aO,Result.andThen,sK ab.2],?_⟩;refine .agg _ (by simp;omega) ?_ ?_
 ·intro j v bb;rw[dK,dO] at bb;obtain⟨q,mF,rfl⟩:=bb;obtain⟨o9,A1⟩:=ahV.1 mF;have a1:j<P.cellsOf t:=(by simpa using o9);obtain rfl:j=q:=(by simpa using A1);obtain⟨y,v,-,e1,aD,-⟩:=kn (off+j) (by omega);rw[e1];exact aD
 intro j y v aR bb;rw[dK,dO] at bb;obtain⟨q,mF,rfl⟩:=bb;obtain⟨o9,A1⟩:=ahV.1 mF;have a1:j<P.cellsOf t:=by simpa using o9
 obtain rfl:j=q:=by simpa using A1
 rw[ahZ,dw a1,ah5] at aR;obtain⟨mM,v,h0,e1,aD,bH⟩:=kn (off+j) (by omega);rw[h0] at aR;simp at aR;subst aR;rw[e1];exact bH
theorem Ou {c:List ay}{off:Nat}{vs:List ay}(h:off+vs.length<=c.length):(setCells c off vs).length=c.length:=by simp[setCells];omega
theorem IM {c:List ay}{off:Nat}{vs:List ay}(h:off+vs.length<=c.length)(j:Nat):
 (setCells c off vs)[j]? = if off<=j/\j<off+vs.length then vs[j-off]? else c[j]? := by
 unfold setCells;rw[List.append_assoc,List.getElem?_append];have h1:(c.take off).length=off:=by simp;omega
 rw[h1];by_cases a:j<off
 ·rw[dw a,dA (by omega),ahZ,dw a]
 rw[dA a,List.getElem?_append];by_cases b:j<off+vs.length
 ·rw[dw (by omega),dw ⟨by omega,b⟩]
 rw[dA (by omega),dA (by omega),ah5];congr 1;omega
theorem acp {c:Array Value}{p:Nat}{vs:List Value}(h:p+vs.length<=c.size)(j:Nat):
 (c.toList.take p++vs++c.toList.drop (p+vs.length)).toArray[j]? = if p<=j/\j<p+vs.length then vs[j-p]? else c[j]? := by
 rw[List.getElem?_toArray,List.append_assoc,List.getElem?_append];have h1:(c.toList.take p).length=p:=by simp;omega
 rw[h1];by_cases a:j<p
 ·rw[dw a,dA (by omega),ahZ,dw a,Array.getElem?_toList]
 rw[dA a,List.getElem?_append];by_cases b:j<p+vs.length
 ·rw[dw (by omega),dw ⟨by omega,b⟩]
 rw[dA (by omega),dA (by omega),ah5,Array.getElem?_toList];congr 1;omega
theorem YU {P:Program}{g:G}{s:S}{ax:fz}{a:Act}{w:World}(h:cB g s ax a w){r k b m i off:Nat}{l:List aU}{I:aU}{c:List ay}
 (ai:s.aM r=some l) (ah:s.af r k=some I) (aZ:I.cl = .live) (ae:ax r k=some (b,m)) (he:I.es[i]? = some c)
 {t:TypeId} (KL:(P.info? t).isSome=true) {x:ay} {v:Value} (U:Rel w (s.ok g ax w) s.a3 (s.bd ax) x v) (mB:x.one=true\/ ∃c,x = .agg c)
 (e3:x.cells.length=P.cellsOf t) (iS:off+x.cells.length<=c.length) :
 ∃bJ,(Instr.storeAt t (.pointer (some ⟨b,i*I.sz+off,none⟩)) v).run P w = .ok () bJ /\
  cB g (s.setRow r (l.set k {I with es:=I.es.set i (setCells c off x.cells)})) ax a bJ:=by
 obtain⟨vs,bb,qL,kn,e9⟩:=U.cellsOf mB;have bm:=h.obj r k I ah;rw[ae] at bm;obtain⟨cf,eB,h1,o,aa,ao⟩:=bm;have hlen:c.length=I.sz:=aa c (dH he)
 have AX:i*I.sz+off+vs.length<=cf.size:=by
  rcases Nat.eq_zero_or_pos I.sz with cj|cj
  ·have:off=0:=(by omega);have:vs.length=0:=(by omega);rw[cj];omega
  have aO:I.es.flatten[i*I.sz+(I.sz-1)]? = some (c[I.sz-1]'(by omega)):=(by rw[CI aa he (by omega)];exact dx (by omega));obtain⟨T9,e1,-,-⟩:=ao _ _ aO;have:=(ah3.1 e1).1;omega
 have lW:=run_storeCells_at P b (i*I.sz+off) eB vs 0 cf w h1 (by simpa using AX) (fun T9 D1=>by obtain⟨q,a1⟩:=aia D1;exact kn q T9 a1);simp only[Nat.add_zero] at lW
 have ju:(Instr.storeAt t (.pointer (some ⟨b,i*I.sz+off,none⟩)) v).run P w =
  .ok () (w.setRow b (cf.toList.take (i*I.sz+off)++vs++cf.toList.drop (i*I.sz+off+vs.length)).toArray):=by
  have bX:v.cells.size=P.cellsOf t:=(by rw[bb];simpa using qL.trans e3);simp only[Instr.storeAt,Instr.sureAddr,storeVar,Sem.run_bind,Sem.run_pure,Result.andThen,sK KL,bX,ne_eq,not_true_eq_false,if_false];rw[bb];simpa using lW
 refine⟨_,ju,?_⟩;have ado:(w.setRow b (cf.toList.take (i*I.sz+off)++vs++cf.toList.drop (i*I.sz+off+vs.length)).toArray).heap.size=w.heap.size:=size_setRow _ _ _;have ta:(setCells c off x.cells).length=I.sz:=by rw[Ou iS];exact hlen
 refine(h.write ai ah aZ ae _ _ eB (setRow_heap w b cf _ eB _ h1) ado (fun q a1=>setRow_other w b q _ a1) rfl rfl rfl ?_ ?_ ?_).1
 ·simp;omega
 ·intro e hm
  rcases List.mem_or_eq_of_mem_set hm with cF|cF
  ·exact aa e cF
  exact cF▸ta
 intro j y aR;rw[acp AX];rw[Px aa he ta] at aR;by_cases mG:i*I.sz<=j/\j<i*I.sz+I.sz
 ·rw[dw mG,IM iS] at aR
  by_cases SB:off<=j-i*I.sz/\j-i*I.sz<off+x.cells.length
  ·rw[dw SB] at aR;rw[dw ⟨by omega,by omega⟩];have a1:j-(i*I.sz+off)<vs.length:=(by omega);refine⟨vs[j-(i*I.sz+off)],dx a1,kn _ _ (dx a1),e9 (j-i*I.sz-off) y _ aR ?_⟩;rw[show j-i*I.sz-off=j-(i*I.sz+off) by omega];exact dx a1
  rw[dA SB] at aR;rw[dA (by omega)];refine ao j y ?_;rw[show j=i*I.sz+(j-i*I.sz) by omega,CI aa he (by omega)];exact aR
 rw[dA mG] at aR;rw[dA (by rw[qL];omega)];exact ao j y aR
def S.iA (s:S)(u:List (Nat×List aU)):S:=u.foldl (fun s p=>s.setRow p.1 p.2) s
@[simp] theorem S.agd (s:S):s.iA []=s:=rfl
@[simp] theorem S.age (s:S) (p:Nat×List aU):s.iA [p]=s.setRow p.1 p.2:=rfl
section
variable {w:World} {ok:Nat->Prop} {a3:jH} {bd:jx} {v:Value}
theorem Rel.vm {x:Bool}(h:Rel w ok a3 bd (.b x) v):v = .bool x:=by cases h;rfl
theorem Rel.o4 {k:IntKind}{x:Int}(h:Rel w ok a3 bd (.n k x) v):v = .int k x:=by cases h;rfl
theorem Rel.AP {x:ByteArray}(h:Rel w ok a3 bd (.s x) v):v = .string x:=by cases h;rfl
theorem Rel.w5 (h:Rel w ok a3 bd .iR v):v = .pointer none:=by cases h;rfl
theorem Rel.qx (h:Rel w ok a3 bd .fs v):v = .slice none 0 0:=by cases h;rfl
theorem Rel.FX (h:Rel w ok a3 bd .iV v): ∃a c,v = .slice (some a) 0 c:=by cases h;exact⟨_,_,rfl⟩
theorem Rel.QG {sz:Nat}(h:Rel w ok a3 bd (.kr sz none) v):v = .pointer none:=by cases h;rfl
theorem Rel.Jn {sz:Nat}{c:List ay}(h:Rel w ok a3 bd (.kr sz (some c)) v):Rel w ok a3 bd (.fi sz [c] 0 0) v:=by cases h;assumption
theorem Rel.F7 {f:Nat}{c:List ay}(h:Rel w ok a3 bd (.fn f c) v): ∃vs:List Value,v = .func (.func f) #[] vs.toArray/\vs.length=c.length /\
 ∀(j:Nat) x u,c[j]? = some x->vs[j]? = some u->Rel w ok a3 bd x u:=by
 cases h with|fn vs aO ai=>exact⟨vs,rfl,aO,ai⟩
theorem Rel.Au {c:List ay}(h:Rel w ok a3 bd (.agg c) v): ∃vs:List Value,v = .agg vs.toArray/\vs.length=c.length/\(∀(j:Nat) u,vs[j]? = some u->VL.ky u=true) /\
 ∀(j:Nat) x u,c[j]? = some x->vs[j]? = some u->Rel w ok a3 bd x u:=by
 cases h with|agg vs aO a8 ai=>exact⟨vs,rfl,aO,a8,ai⟩
theorem Rel.Av {c:List ay}(h:Rel w ok a3 bd (.d9 c) v): ∃vs:List Value,v = .tuple vs.toArray/\vs.length=c.length /\
 ∀(j:Nat) x u,c[j]? = some x->vs[j]? = some u->Rel w ok a3 bd x u:=by
 cases h with|d9 vs aO ai=>exact⟨vs,rfl,aO,ai⟩
theorem Rel.xa {r k i off sz:Nat}{p:Option (Nat×Nat)}(h:Rel w ok a3 bd (.ref r k i off) v)(cb:bd r k=some (sz,p)):
 p=none\/ ∃b m,p=some (b,m)/\v = .pointer (some ⟨b,i*sz+off,none⟩):=by
 cases h with
 | qz a hu aX =>
  cases p with
  | none=>exact .inl rfl
  | some q=>exact absurd cb (aX _ _)
 | ref hu h =>
  rw[cb] at h;simp only[dz,dD] at h;obtain⟨rfl,rfl⟩:=h;exact .inr ⟨_,_,rfl,rfl⟩
theorem Rel.agl {r k i off:Nat}(h:Rel w ok a3 bd (.ref r k i off) v): ∃a,v = .pointer a:=by
 cases h with
 | qz a=>exact⟨a,rfl⟩
 | ref=>exact⟨_,rfl⟩
theorem Rel.Qd {r k i off sz b m:Nat}(h:Rel w ok a3 bd (.ref r k i off) v)(cb:bd r k=some (sz,some (b,m)))(SC:Nat):
 Rel w ok a3 bd (.ref r k i SC) (.pointer (some ⟨b,i*sz+SC,none⟩)):=by
 cases h with
 | qz a hu aX=>exact absurd cb (aX _ _)
 | ref hu h=>exact .ref hu cb
theorem Rel.Aw {sz i off:Nat}{es:List (List ay)}(h:Rel w ok a3 bd (.fi sz es i off) v): ∃ek I,(ok ek/\jA es)/\v = .pointer (some ⟨ek,I+(i*sz+off),none⟩)/\pi w ok a3 bd ek I sz es:=by
 cases h with
 | fi cs aL ae aO hw a8 ai=>exact⟨_,_,⟨aL,ae⟩,rfl,aO,fun j x U=>⟨cs j,hw j x U,a8 j x U,ai j x U⟩⟩
theorem Rel.CX {r k bE len sz:Nat}{p:Option (Nat×Nat)}(h:Rel w ok a3 bd (.bu r k bE len) v)(cb:bd r k=some (sz,p)):
 (p=none/\bE=0/\len=0/\v = .slice none 0 0)\/ ∃b m a c,p=some (b,m)/\v = .slice a len c/\len<=c/\c<9223372036854775808/\(c=0\/(a=some ⟨b,bE*sz,none⟩/\(bE+c)*sz=m)):=by
 cases h with
 | n5 a l c hu aX=>rw[cb] at aX;simp at aX
 | ox hu h =>
  rw[cb] at h;simp only[dz,dD] at h;exact .inl ⟨h.2,rfl,rfl,rfl⟩
 | bu hu h aO a8 hm =>
  rw[cb] at h;simp only[dz,dD] at h;obtain⟨rfl,rfl⟩:=h;exact .inr ⟨_,_,_,_,rfl,rfl,aO,a8,hm.2.imp id fun e=>⟨e,hm.1⟩⟩
theorem Rel.sR {r k bE len sz:Nat}{p:Option (Nat×Nat)}(h:Rel w ok a3 bd (.bu r k bE len) v)(cb:bd r k=some (sz,p)):
 (p=none/\bE=0/\len=0/\v = .slice none 0 0)\/ ∃b m a c,p=some (b,m)/\v = .slice a len c/\len<=c/\c<9223372036854775808/\(bE+c)*sz=m/\(c=0\/a=some ⟨b,bE*sz,none⟩):=by
 cases h with
 | n5 a l c hu aX=>rw[cb] at aX;simp at aX
 | ox hu h =>
  rw[cb] at h;simp only[dz,dD] at h;exact .inl ⟨h.2,rfl,rfl,rfl⟩
 | bu hu h aO a8 hm =>
  rw[cb] at h;simp only[dz,dD] at h;obtain⟨rfl,rfl⟩:=h;exact .inr ⟨_,_,_,_,rfl,rfl,aO,a8,hm⟩
theorem Rel.af4 {r k bE len:Nat}(h:Rel w ok a3 bd (.bu r k bE len) v): ∃a l c,v = .slice a l c:=by cases h<;>exact⟨_,_,_,rfl⟩
theorem Rel.tS {sz:Nat}{es:List (List ay)}(h:Rel w ok a3 bd (.isl sz es) v):
 (es=[]/\ ∃a c,v = .slice a 0 c/\(a=none->c=0))\/ ∃ek off c,(ok ek/\jA es)/\v = .slice (some ⟨ek,off,none⟩) es.length c/\es.length<=c/\pi w ok a3 bd ek off sz es:=by
 cases h with
 | kp sz a c h=>exact .inl ⟨rfl,a,c,rfl,h⟩
 | isl cs aL ae aO a8 hw i6 ai=>exact .inr ⟨_,_,_,⟨aL,ae⟩,rfl,a8,aO,fun j x U=>⟨cs j,hw j x U,i6 j x U,ai j x U⟩⟩
theorem pi.isl {ek off c sz:Nat}{es:List (List ay)}(h:pi w ok a3 bd ek off sz es)(aL:ok ek/\jA es)(a8:es.length<=c):Rel w ok a3 bd (.isl sz es) (.slice (some ⟨ek,off,none⟩) es.length c):=by
 have U : ∀j:Nat,∃v,∀x,es.flatten[j]? = some x->w.cell? ⟨ek,off+j,none⟩=some v/\VL.ky v=true/\Rel w ok a3 bd x v:=by
  intro j
  cases au:es.flatten[j]? with
  | none=>exact⟨undef,fun x U=>by simp at U⟩
  | some y =>
   obtain⟨v,h1⟩:=h.2 j y au;exact⟨v,fun x U=>by simp at U;subst U;exact h1⟩
 exact .isl (fun j=>(U j).choose) aL.1 aL.2 h.1 a8 (fun j x au=>((U j).choose_spec x au).1) (fun j x au=>((U j).choose_spec x au).2.1) (fun j x au=>((U j).choose_spec x au).2.2)
theorem pi.fi {ek I i off sz:Nat}{es:List (List ay)}(h:pi w ok a3 bd ek I sz es)(aL:ok ek/\jA es):Rel w ok a3 bd (.fi sz es i off) (.pointer (some ⟨ek,I+(i*sz+off),none⟩)):=by
 have U : ∀j:Nat,∃v,∀x,es.flatten[j]? = some x->w.cell? ⟨ek,I+j,none⟩=some v/\VL.ky v=true/\Rel w ok a3 bd x v:=by
  intro j
  cases au:es.flatten[j]? with
  | none=>exact⟨undef,fun x U=>by simp at U⟩
  | some y =>
   obtain⟨v,h1⟩:=h.2 j y au;exact⟨v,fun x U=>by simp at U;subst U;exact h1⟩
 exact .fi (fun j=>(U j).choose) aL.1 aL.2 h.1 (fun j x au=>((U j).choose_spec x au).1) (fun j x au=>((U j).choose_spec x au).2.1) (fun j x au=>((U j).choose_spec x au).2.2)
end
def Fin (P:Program)(g:G)(s:S)(a:Act)(w:World)(I:Oper)(bq:hk):Prop :=
 ∃v bJ bL,((execOp a.eval I).run P w = .ok (.value v) bJ\/((execOp a.eval I).run P w = .ok .skip bJ/\v=undef)) /\
  cB g (s.iA bq.fU) bL a bJ/\Rel bJ ((s.iA bq.fU).ok g bL bJ) (s.iA bq.fU).a3 ((s.iA bq.fU).bd bL) bq.val v
section
variable {P:Program} {g:G} {s:S} {ax:fz} {a:Act} {w:World} {I:Oper} {cE:fc} {aT:Nat} {bq:hk}
theorem iw (h:cB g s ax a w){v:Value}(ju:(execOp a.eval I).run P w = .ok (.value v) w)(hu:bq.fU=[])
 (ai:Rel w (s.ok g ax w) s.a3 (s.bd ax) bq.val v):Fin P g s a w I bq :=
 ⟨v,w,ax,.inl ju,by rw[hu];exact h,by rw[hu];exact ai⟩
theorem Re {x:Operand}(h:cB g s ax a w)(ah:I.op = .move x\/I.op = .assign x)(ap:eU P s.E s.aM aT I cE=some bq):Fin P g s a w I bq:=by
 have:bq={val:=eD s.E x}:=by rcases ah with ah|ah<;>simp[eU,ah] at ap<;>exact ap.symm
 subst this;refine iw (v:=a.eval x) h ?_ rfl (h.eval x);rcases ah with ah|ah<;>simp[execOp,ah]
theorem abQ {c x y:Operand}(h:cB g s ax a w)(ah:I.op = .pick c x y)(ap:eU P s.E s.aM aT I cE=some bq)(cd:∀p∈bq.fu,p):Fin P g s a w I bq:=by
 have a8:=h.eval c;simp only[eU,ah] at ap
 have key : ∀t:Bool,eD s.E c = .b t->bq.fU=[]->bq.val=(if t then eD s.E x else eD s.E y)->Fin P g s a w I bq:=by
  intro t cb hu bb;rw[cb] at a8;have e:a.eval c = .bool t:=a8.vm;refine iw (v:=if t then a.eval x else a.eval y) h (by simp[execOp,ah,e,asBool]) hu ?_;rw[bb];cases t
  ·exact h.eval y
  exact h.eval x
 split at ap
 ·rename_i z t cj;simp at ap;subst ap;have e:z=t:=cd _ (by simp);subst e;exact key z cj rfl rfl
 ·rename_i cj _;simp at ap;subst ap;exact key true cj rfl rfl
 ·rename_i cj _;simp at ap;subst ap;exact key false cj rfl rfl
 simp at ap
theorem FY (h:cB g s ax a w)(e4:s.aM aT=none){v:Value}{af:aU}{c:Array Value}{eB:TypeId}(aZ:af.cl = .live)
 (ju:(execOp a.eval I).run P w = .ok (.value v) (w.alloc (.cells c eB))) (hu:bq.fU=[(aT,[af])]) (hlen : ∀e∈af.es,e.length=af.sz)
 (a8 : ∀(j:Nat) x,af.es.flatten[j]? = some x-> ∃v,c[j]? = some v/\ky v=true/\Rel w (s.ok g ax w) s.a3 (s.bd ax) x v)
 (hval : ∀(bJ:World) (ln:Nat->Prop) (nI:jH) (m5:jx),nI aT 0->m5 aT 0=some (af.sz,some (w.heap.size,c.size))->Rel bJ ln nI m5 bq.val v):Fin P g s a w I bq:=by
 obtain⟨bL,ae,bX,-⟩:=h.alloc e4 af aZ c eB hlen a8;have h1:(s.setRow aT [af]).a3 aT 0:=by rw[n2];simp
 have o:(s.setRow aT [af]).bd bL aT 0=some (af.sz,some (w.heap.size,c.size)):=by simp[S.bd,l9,mR,aZ,ae]
 exact⟨v,_,bL,.inl ju,by rw[hu];exact bX,by rw[hu];exact hval _ _ _ _ h1 o⟩
theorem Ab {t:TypeId}{z:List ay}(cj:qv P t=some z): ∃i eA,P.info? t=some i/\i.zero=some eA/\z=eA.cells.toList.map ofValue /\
 ∀(j:Nat) x,z[j]? = some x-> ∃v,eA.cells[j]? = some v/\ky v=true/\ ∀(w:World) (ok:Nat->Prop) (a3:jH) (bd:jx),Rel w ok a3 bd x v:=by
 unfold qv at cj
 cases ab:P.info? t with
 | none=>simp[ab] at cj
 | some i =>
  cases kC:i.zero with
  | none=>simp[ab,kC] at cj
  | some eA =>
   simp only[ab,kC] at cj;split at cj
   ·rename_i oH;simp only[dz] at cj;refine⟨i,eA,rfl,kC,cj.symm,fun j x U=> ?_⟩;subst cj;rw[dK,dO] at U;obtain⟨v,bb,rfl⟩:=U;refine⟨v,by rw[<- Array.getElem?_toList];exact bb,?_,fun w ok a3 bd=>Pv v⟩;exact List.all_eq_true.1 oH v (dH bb)
   simp at cj
theorem aaQ {t:TypeId}(h:cB g s ax a w)(e4:s.aM aT=none)(ah:I.op = .alloc t)(ap:eU P s.E s.aM aT I cE=some bq):Fin P g s a w I bq:=by
 simp only[eU,ah] at ap;split at ap
 ·rename_i z cj
  obtain⟨i,eA,ab,kC,e,kn⟩:=Ab cj;simp only[dz] at ap;subst ap;refine FY (v:= .pointer (some ⟨w.heap.size,0,none⟩)) (c:=eA.cells) (eB:=t) (af:=⟨z.length,[z],.live⟩) h e4 rfl ?_ rfl (by simp) ?_ ?_
  ·simp[execOp,ah,Instr.alloc,zeroValue,typeInfo,ab,kC,newVar,newRow]
  ·intro j x U;simp only[ahW,List.flatten_nil,List.append_nil] at U;obtain⟨v,h1,o,aa⟩:=kn j x U;exact⟨v,h1,o,aa _ _ _ _⟩
  intro bJ ln nI m5 hu cb;have:=Rel.ref (w:=bJ) (ok:=ln) (i:=0) (off:=0) hu cb;simpa using this
 simp at ap
theorem acq {t:TypeId}{x:Operand}(h:cB g s ax a w)(e4:s.aM aT=none)(ah:I.op = .box t x)(ap:eU P s.E s.aM aT I cE=some bq):Fin P g s a w I bq:=by
 simp only[eU,ah] at ap;have U:=h.eval x
 have key : ∀af:aU,af.cl = .live->af.es=[(eD s.E x).cells]->af.sz=(eD s.E x).cells.length->((eD s.E x).one=true\/ ∃c,eD s.E x = .agg c) ->
  bq.fU=[(aT,[af])]->bq.val = .ref aT 0 0 0->Fin P g s a w I bq:=by
  intro af aZ h5 e3 mB hu bb;obtain⟨vs,e1,aD,bH,cX⟩:=U.cellsOf mB;refine FY (v:= .pointer (some ⟨w.heap.size,0,none⟩)) (c:=(a.eval x).cells) (eB:=t) h e4 aZ ?_ hu ?_ ?_ ?_
  ·simp[execOp,ah,Instr.box,newVar,newRow]
  ·intro e he;rw[h5] at he;simp at he;rw[he,e3]
  ·intro j y aR
   rw[h5] at aR;simp only[ahW,List.flatten_nil,List.append_nil] at aR
   have au:j<vs.length:=by
    rcases Nat.lt_or_ge j (eD s.E x).cells.length with cF|cF
    ·omega
    rw[dP cF] at aR;simp at aR
   refine⟨vs[j],by rw[e1];simp[au],bH j _ (dx au),cX j y _ aR (dx au)⟩
  intro bJ ln nI m5 pa cb;have:=Rel.ref (w:=bJ) (ok:=ln) (i:=0) (off:=0) pa cb;rw[bb];simpa using this
 split at ap
 ·rename_i c a8;simp only[dz] at ap;subst ap;exact key _ rfl (by rw[a8];rfl) (by rw[a8];rfl) (.inr ⟨c,a8⟩) rfl rfl
 split at ap
 ·rename_i mB
  simp only[dz] at ap;subst ap;have e:(eD s.E x).cells=[eD s.E x]:=by generalize eD s.E x=y at mB;cases y<;>first|rfl|simp[ay.one] at mB
  exact key _ rfl (by rw[e]) (by rw[e];rfl) (.inl mB) rfl rfl
 simp at ap
theorem ir {s:S}{ax:fz}{r k:Nat}{af:aU}(h:s.af r k=some af):s.bd ax r k=some (af.sz,ax r k):=by simp[S.bd,h]
theorem sW {row:Option (List aU)}{k:Nat}{af:aU}{bY:List Prop}(h:oG row k cE=some (af,bY))(cd:∀p∈bY,p):df row k=some af:=by
 unfold oG at h;split at h
 ·split at h
  ·simp at h;obtain⟨rfl,rfl⟩:=h;exact cd _ (by simp)
  simp at h
 split at h
 ·rename_i cF;simp at h;obtain⟨rfl,rfl⟩:=h;exact cF
 simp at h
theorem Af {es:List (List ay)}{i:Nat}{c:List ay}{bY:List Prop}(h:elemAt es i cE=some (c,bY))(cd:∀p∈bY,p):es[i]? = some c:=by
 unfold elemAt at h;split at h
 ·simp at h;obtain⟨rfl,rfl⟩:=h;exact cd _ (by simp)
 ·simp at h;obtain⟨rfl,rfl⟩:=h;exact cd _ (by simp)
 split at h
 ·rename_i cF;simp at h;obtain⟨rfl,rfl⟩:=h;exact cF
 simp at h
theorem abR {t:TypeId}{x:Operand}(h:cB g s ax a w)(ah:I.op = .load t x)(ap:eU P s.E s.aM aT I cE=some bq)(cd:∀p∈bq.fu,p):Fin P g s a w I bq:=by
 simp only[eU,ah] at ap;have U:=h.eval x;split at ap
 ·rename_i r k i off gX
  rw[gX] at U;split at ap;rotate_left
  ·simp at ap
  rename_i af bY bm;split at ap;rotate_left
  ·simp at ap
  rename_i c aN nl;split at ap;rotate_left
  ·simp at ap
  rename_i v bb;simp only[dz] at ap;subst ap;have jh:s.af r k=some af:=sW bm fun p ae=>cd p (by simp[ae]);have qe:=Af nl fun p ae=>cd p (by simp[ae]);have e9:=h.obj r k af jh;rcases U.xa (ir jh) with h0|⟨b,m,ae,hval⟩
  ·rw[h0] at e9;simp only[jr] at e9;rw[e9] at qe;simp at qe
  rw[ae] at e9;obtain⟨u,h1,o⟩:=IZ (P:=P) e9.rd qe bb;refine iw (v:=u) h ?_ rfl o;rw[dF] at h1;simp[execOp,ah,hval,h1]
 ·rename_i sz es i off gX
  rw[gX] at U;split at ap
  ·rename_i c aN nl
   split at ap
   ·rename_i v bb;simp only[dz] at ap;subst ap;have qe:=Af nl fun p ae=>cd p (by simp[ae]);obtain⟨ek,b3,aL,hval,iX⟩:=U.Aw;obtain⟨u,h1,o⟩:=IZ (P:=P) iX qe bb;refine iw (v:=u) h ?_ rfl o;simp[execOp,ah,hval,h1]
   simp at ap
  simp at ap
 simp at ap
end
section
variable {P:Program} {g:G} {s:S} {ax:fz} {a:Act} {w:World} {I:Oper} {cE:fc} {aT:Nat} {bq:hk}
theorem Qe (h:cB g s ax a w){r k i off:Nat}{row:List aU}{af:aU}{c:List ay}{t:TypeId}{x y:Operand}(ah:I.op = .store t x y)
 (gX:eD s.E x = .ref r k i off) (dh:s.aM r=some row) (bm:s.af r k=some af) (aZ:af.cl = .live) (nl:af.es[i]? = some c)
 (mB:(eD s.E y).one=true\/ ∃c,eD s.E y = .agg c) (e3:(eD s.E y).cells.length=P.cellsOf t) (KL:(P.info? t).isSome=true)
 (iS:off+(eD s.E y).cells.length<=c.length) (ap:bq.val = .dead) (hu:bq.fU=[(r,row.set k {af with es:=af.es.set i (setCells c off (eD s.E y).cells)})]):Fin P g s a w I bq:=by
 have U:=h.eval x;rw[gX] at U;have e9:=h.obj r k af bm;rcases U.xa (ir bm) with h0|⟨b,m,ae,hval⟩
 ·rw[h0] at e9;simp only[jr] at e9;rw[e9] at nl;simp at nl
 obtain⟨bJ,h1,o⟩:=YU (P:=P) h dh bm aZ ae nl KL (h.eval y) mB e3 iS;refine⟨undef,bJ,ax,.inr ⟨?_,rfl⟩,by rw[hu];exact o,by rw[ap];exact .dead _⟩;simp[execOp,ah,hval,h1]
theorem aaR {t:TypeId}{x y:Operand}(h:cB g s ax a w)(ah:I.op = .store t x y)(ap:eU P s.E s.aM aT I cE=some bq)(cd:∀p∈bq.fu,p):Fin P g s a w I bq:=by
 simp only[eU,ah] at ap;split at ap;rotate_left
 ·simp at ap
 rename_i r k i off gX;split at ap
 ·simp at ap
 rename_i row dh;split at ap;rotate_left
 ·simp at ap
 rename_i af bY adp;split at ap
 ·simp at ap
 rename_i aZ;have aZ:af.cl = .live:=by simpa using aZ
 split at ap
 ·simp at ap
 rename_i mB;have mB:=ay.Pw (by simpa using mB);split at ap
 ·simp at ap
 rename_i e3;simp only[not_or,Decidable.not_not,Bool.not_eq_false] at e3;have jh:(∀p∈bY,p)->s.af r k=some af:=fun bC=>by have:=sW adp bC;unfold S.af;rw[dh];exact this
 split at ap
 ·split at ap
  ·rename_i AW
   simp only[dz] at ap;subst ap;subst AW;have dZ:i<af.es.length:=cd _ (by simp);have i6:(eD s.E y).cells.length=af.sz:=cd _ (by simp);have DB:=jh fun p ae=>cd p (by simp[ae])
   have hlen:(af.es[i]).length=af.sz:=by
    have e9:=h.obj r k af DB
    cases ae:ax r k with
    | none=>rw[ae] at e9;simp only[jr] at e9;rw[e9] at dZ;simp at dZ
    | some q =>
     rw[ae] at e9;obtain⟨_,_,_,_,aa,_⟩:=e9;exact aa _ (List.getElem_mem dZ)
   refine Qe h ah gX dh DB aZ (c:=af.es[i]) (dx dZ) mB e3.1 e3.2 (by omega) rfl ?_;have e:setCells af.es[i] 0 (eD s.E y).cells=(eD s.E y).cells:=(by simp[setCells,hlen,i6]);rw[e]
  simp at ap
 split at ap
 ·rename_i c aN nl
  split at ap
  ·rename_i iS;simp only[dz] at ap;subst ap;exact Qe h ah gX dh (jh fun p ae=>cd p (by simp[ae])) aZ (Af nl fun p ae=>cd p (by simp[ae])) mB e3.1 e3.2 iS rfl rfl
  simp at ap
 simp at ap
theorem YV {x:Operand}(h:cB g s ax a w)(ah:I.op = .nilCheck x)(ap:eU P s.E s.aM aT I cE=some bq)(cd:∀p∈bq.fu,p):Fin P g s a w I bq:=by
 simp only[eU,ah] at ap;have U:=h.eval x;split at ap
 ·rename_i r k i off gX
  rw[gX] at U;split at ap
  ·rename_i af bY bm
   split at ap
   ·rename_i c aN nl
    simp only[dz] at ap;subst ap;have jh:s.af r k=some af:=sW bm fun p ae=>cd p (by simp[ae]);have qe:=Af nl fun p ae=>cd p (by simp[ae]);have e9:=h.obj r k af jh;rcases U.xa (ir jh) with h0|⟨b,m,ae,hval⟩
    ·rw[h0] at e9;simp only[jr] at e9;rw[e9] at qe;simp at qe
    refine iw (v:=a.eval x) h ?_ rfl U;simp[execOp,ah,hval]
   simp at ap
  simp at ap
 ·rename_i sz es i off gX;rw[gX] at U;simp only[dz] at ap;subst ap;obtain⟨ek,b3,aL,hval,iX⟩:=U.Aw;refine iw (v:=a.eval x) h ?_ rfl U;simp[execOp,ah,hval]
 ·rename_i f c gX;rw[gX] at U;simp only[dz] at ap;subst ap;obtain⟨vs,hval,-⟩:=U.F7;refine iw (v:=a.eval x) h ?_ rfl U;simp[execOp,ah,hval]
 simp at ap
theorem Z1 {op:BinOp}{t:TypeId}{x y z:ay}{af:List Prop}(ap:Km op x y=some (z,af))(cd:∀p∈af,p)
 {ok:Nat->Prop} {a3:jH} {bd:jx} {lJ lK:Value} (U:Rel w ok a3 bd x lJ) (aR:Rel w ok a3 bd y lK) (p q:Operand) :
 ∃v,((do eqGuard op t p q lJ lK;binOp op t lJ lK):Sem Value).run P w = .ok v w/\Rel w ok a3 bd z v:=by
 unfold Km at ap;split at ap
 ·rename_i k n dc nT
  have hY:=U.o4;have ja:=aR.o4;subst hY;subst ja;have dj : ∀op,eqGuard op t p q (.int k n) (.int dc nT)=pure ():=fun op=>eqGuard_at_int ..;simp only[Sem.run_bind,dj,Sem.run_pure,Result.andThen_ok];split at ap
  ·simp only[dz,dD] at ap;obtain⟨rfl,rfl⟩:=ap;have h0:0<=nT:=cd _ (by simp);exact⟨_,by simp[binOp,Op.shift,show ¬nT<0 by omega],.n _ _⟩
  ·simp only[dz,dD] at ap;obtain⟨rfl,rfl⟩:=ap;have h0:0<=nT:=cd _ (by simp);exact⟨_,by simp[binOp,Op.shift,show ¬nT<0 by omega],.n _ _⟩
  split at ap
  ·simp at ap
  rename_i aZ;have aZ:k=dc:=(by simpa using aZ);subst aZ;split at ap<;>simp only[dz,dD,reduceCtorEq] at ap
  all_goals (obtain⟨rfl,rfl⟩:=ap)
  case h_4|h_5 =>
   have h0:nT≠0:=cd _ (by simp);exact⟨_,by simp[binOp,Op.intDiv,h0],.n _ _⟩
  all_goals first
   | (refine⟨_,?_,.n _ _⟩;rw[binOp_add];rfl)
   | (refine⟨_,?_,.n _ _⟩;rw[binOp_sub];rfl)
   | (refine⟨_,?_,.n _ _⟩;rw[binOp_mul];rfl)
   | (refine⟨_,?_,.n _ _⟩;rw[binOp_and];rfl)
   | (refine⟨_,?_,.n _ _⟩;rw[binOp_or];rfl)
   | (refine⟨_,?_,.n _ _⟩;rw[binOp_xor];rfl)
   | (refine⟨_,?_,.b _⟩;simp[binOp,Op.intCmp];done)
 ·rename_i cN mM
  have hY:=U.AP;have ja:=aR.AP;subst hY;subst ja;have dj : ∀op,eqGuard op t p q (.string cN) (.string mM)=pure ():=fun op=>eqGuard_at_string ..;simp only[Sem.run_bind,dj,Sem.run_pure,Result.andThen_ok];split at ap<;>simp only[dz,dD,reduceCtorEq] at ap
  all_goals (obtain⟨rfl,rfl⟩:=ap)
  ·have h0:cN.size+mM.size<9223372036854775808:=cd _ (by simp);refine⟨_,?_,.s _⟩;have h1 : ¬((cN.size+mM.size:Nat):Int)>IntKind.i64.max:=(by rw[IntKind.max_i64];omega);rw[IntKind.max_i64] at h1;simp[binOp,Op.stringOp];omega
  ·exact⟨_,by simp[binOp,Op.stringOp],.b _⟩
  exact⟨_,by simp[binOp,Op.stringOp],.b _⟩
 simp at ap
theorem wY (t:TypeId)(x y:Value):Op.equal t x y=Op.equalIn (9999+1) t x y:=rfl
theorem Ct {t:TypeId}{a b:Bool}(d:Nat)(bF:P.underlying t=some .bool):(Op.equalIn (d+1) t (.bool a) (.bool b)).run P w = .ok (a == b) w:=by unfold Op.equalIn;simp[run_underlying bF]
theorem CJ {t e:TypeId}(d:Nat)(bF:P.underlying t=some (.pointer e)):(Op.equalIn (d+1) t (.pointer none) (.pointer none)).run P w = .ok true w:=by unfold Op.equalIn;simp[run_underlying bF]
theorem CK {t e:TypeId}{a:Addr}(d:Nat)(bF:P.underlying t=some (.pointer e)):(Op.equalIn (d+1) t (.pointer (some a)) (.pointer none)).run P w = .ok false w:=by unfold Op.equalIn;simp[run_underlying bF]
theorem CL {t e:TypeId}{a:Addr}(d:Nat)(bF:P.underlying t=some (.pointer e)):(Op.equalIn (d+1) t (.pointer none) (.pointer (some a))).run P w = .ok false w:=by unfold Op.equalIn;simp[run_underlying bF]
theorem CM {t e:TypeId}(d:Nat)(bF:P.underlying t=some (.slice e)):(Op.equalIn (d+1) t (.slice none 0 0) (.slice none 0 0)).run P w = .ok true w:=by unfold Op.equalIn;simp[run_underlying bF]
theorem PK {t e:TypeId}{a:Addr}{c:Nat}(d:Nat)(bF:P.underlying t=some (.slice e))(n:Nat):(Op.equalIn (d+1) t (.slice (some a) n c) (.slice none 0 0)).run P w = .ok false w:=by unfold Op.equalIn;simp[run_underlying bF]
theorem Ap {t:TypeId}{x y:ay}{r:Bool}(ap:s9 P t x y=some r)
 {ok:Nat->Prop} {a3:jH} {bd:jx} {lJ lK:Value} (U:Rel w ok a3 bd x lJ) (aR:Rel w ok a3 bd y lK) (p q:Operand) :
 ((do eqGuard .eql t p q lJ lK;binOp .eql t lJ lK):Sem Value).run P w = .ok (.bool r) w /\
 ((do eqGuard .neq t p q lJ lK;binOp .neq t lJ lK):Sem Value).run P w = .ok (.bool !r) w:=by
 have key : ∀b:Bool,(∀op,eqGuard op t p q lJ lK=pure ())->binOp .eql t lJ lK=(do pure (.bool (<- Op.equal t lJ lK)))->binOp .neq t lJ lK=(do pure (.bool (!(<- Op.equal t lJ lK)))) ->
  (Op.equal t lJ lK).run P w = .ok b w->((do eqGuard .eql t p q lJ lK;binOp .eql t lJ lK):Sem Value).run P w = .ok (.bool b) w /\
  ((do eqGuard .neq t p q lJ lK;binOp .neq t lJ lK):Sem Value).run P w = .ok (.bool !b) w:=by
  intro b dj h1 o aa;constructor
  ·rw[dj,h1];simp[aa]
  rw[dj,o];simp[aa]
 unfold s9 at ap;split at ap
 ·rename_i cN mM bF;simp only[dz] at ap;subst ap;have hY:=U.vm;have ja:=aR.vm;subst hY;subst ja;exact key _ (fun op=>eqGuard_at_bool ..) rfl rfl (by rw[wY];first|exact Ct _ bF|exact CJ _ bF|exact CK _ bF|exact CL _ bF|exact CM _ bF)
 ·rename_i e bF;simp only[dz] at ap;subst ap;have hY:=U.w5;have ja:=aR.w5;subst hY;subst ja;exact key _ (fun op=>eqGuard_at_pointer ..) rfl rfl (by rw[wY];first|exact Ct _ bF|exact CJ _ bF|exact CK _ bF|exact CL _ bF|exact CM _ bF)
 ·rename_i e sz es i off bF;simp only[dz] at ap;subst ap;obtain⟨ek,b3,-,hY,-⟩:=U.Aw;have ja:=aR.w5;subst hY;subst ja;exact key _ (fun op=>eqGuard_at_pointer ..) rfl rfl (by rw[wY];first|exact Ct _ bF|exact CJ _ bF|exact CK _ bF|exact CL _ bF|exact CM _ bF)
 ·rename_i e sz es i off bF;simp only[dz] at ap;subst ap;obtain⟨ek,b3,-,ja,-⟩:=aR.Aw;have hY:=U.w5;subst hY;subst ja;exact key _ (fun op=>eqGuard_at_pointer ..) rfl rfl (by rw[wY];first|exact Ct _ bF|exact CJ _ bF|exact CK _ bF|exact CL _ bF|exact CM _ bF)
 ·rename_i e bF;simp only[dz] at ap;subst ap;have hY:=U.qx;have ja:=aR.qx;subst hY;subst ja;exact key _ (fun op=>eqGuard_at_slice ..) rfl rfl (by rw[wY];first|exact Ct _ bF|exact CJ _ bF|exact CK _ bF|exact CL _ bF|exact CM _ bF)
 ·rename_i e bF;simp only[dz] at ap;subst ap;obtain⟨yd,c,hY⟩:=U.FX;have ja:=aR.qx;subst hY;subst ja;exact key _ (fun op=>eqGuard_at_slice ..) rfl rfl (by rw[wY];exact PK _ bF 0)
 simp at ap
theorem RL {t e:TypeId}(bF:P.underlying t=some (.slice e)){sz:Nat}{es:List (List ay)}(cU:es≠[])
 {ok:Nat->Prop} {a3:jH} {bd:jx} {lJ lK:Value} (U:Rel w ok a3 bd (.isl sz es) lJ) (aR:Rel w ok a3 bd .fs lK) (p q:Operand) :
 ((do eqGuard .eql t p q lJ lK;binOp .eql t lJ lK):Sem Value).run P w = .ok (.bool false) w /\
 ((do eqGuard .neq t p q lJ lK;binOp .neq t lJ lK):Sem Value).run P w = .ok (.bool true) w:=by
 rcases U.tS with ⟨h0,-⟩|⟨ek,off,c,-,hY,-⟩
 ·exact absurd h0 cU
 have ja:=aR.qx;subst hY;subst ja;have aa:(Op.equal t (.slice (some ⟨ek,off,none⟩) es.length c) (.slice none 0 0)).run P w = .ok false w:=by rw[wY];exact PK _ bF _
 have dj : ∀op,eqGuard op t p q (.slice (some ⟨ek,off,none⟩) es.length c) (.slice none 0 0)=pure ():=fun op=>eqGuard_at_slice ..;have h1:binOp .eql t (.slice (some ⟨ek,off,none⟩) es.length c) (.slice none 0 0)=(do pure (.bool (<- Op.equal t (.slice (some ⟨ek,off,none⟩) es.length c) (.slice none 0 0)))):=rfl;have o:binOp .neq t (.slice (some ⟨ek,off,none⟩) es.length c) (.slice none 0 0)=(do pure (.bool (!(<- Op.equal t (.slice (some ⟨ek,off,none⟩) es.length c) (.slice none 0 0))))):=rfl;constructor
 ·rw[dj,h1];simp[aa]
 rw[dj,o];simp[aa]
theorem aaS {op:BinOp}{t c2:TypeId}{x y:Operand}(h:cB g s ax a w)(ah:I.op = .binOp op t x y c2)(ap:eU P s.E s.aM aT I cE=some bq)(cd:∀p∈bq.fu,p):Fin P g s a w I bq:=by
 simp only[eU,ah] at ap;have U:=h.eval x;have aR:=h.eval y;split at ap
 ·rename_i v af aL;simp only[dz] at ap;subst ap;obtain⟨u,h1,o⟩:=Z1 (P:=P) (t:=t) aL cd U aR x y;refine iw (v:=u) h ?_ rfl o;simp only[execOp,ah];rw[Sem.run_bind,h1];rfl
 split at ap
 ·cases he:s9 P t (eD s.E x) (eD s.E y) with
  | none=>simp[he] at ap
  | some r =>
   simp[he] at ap;subst ap;refine iw (v:= .bool r) h ?_ rfl (.b r);simp only[execOp,ah];rw[Sem.run_bind,(Ap (w:=w) he U aR x y).1];rfl
 ·cases he:s9 P t (eD s.E x) (eD s.E y) with
  | none=>simp[he] at ap
  | some r =>
   simp[he] at ap;subst ap;refine iw (v:= .bool !r) h ?_ rfl (.b _);simp only[execOp,ah];rw[Sem.run_bind,(Ap (w:=w) he U aR x y).2];rfl
 simp at ap
theorem abS {op:UnOp}{t:TypeId}{x:Operand}(h:cB g s ax a w)(ah:I.op = .unOp op t x)(ap:eU P s.E s.aM aT I cE=some bq):Fin P g s a w I bq:=by
 simp only[eU,ah] at ap;have U:=h.eval x
 cases he:KJ op (eD s.E x) with
 | none=>simp[he] at ap
 | some v =>
  simp[he] at ap;subst ap;unfold KJ at he;split at he
  ·rename_i k n gX;rw[gX] at U;simp only[dz] at he;subst he;refine iw (v:= .int k (k.wrap (0-n))) h ?_ rfl (.n _ _);simp[execOp,ah,U.o4,Op.unary,Op.intArith]
  ·rename_i b gX;rw[gX] at U;simp only[dz] at he;subst he;refine iw (v:= .bool !b) h ?_ rfl (.b _);simp[execOp,ah,U.vm,Op.unary]
  simp at he
theorem Zm {t c2:TypeId}{x:Operand}(h:cB g s ax a w)(ah:I.op = .convert t c2 x)(ap:eU P s.E s.aM aT I cE=some bq):Fin P g s a w I bq:=by
 simp only[eU,ah] at ap;have U:=h.eval x;split at ap
 ·rename_i k dc n bF gX
  rw[gX] at U;split at ap
  case isFalse=>simp at ap
  rename_i bX;simp only[dz] at ap;subst ap;refine iw (v:= .int k (k.wrap n)) h ?_ rfl (.n _ _)
  cases S1:P.underlying t with
  | none=>simp[S1] at bX
  | some d=>simp[execOp,ah,U.o4,convert,run_underlying bF,run_underlying S1,Conv.intToInt]
 ·rename_i r k bE len bF gX
  rw[gX] at U;split at ap;rotate_left
  ·simp at ap
  rename_i af Gt bm;split at ap;rotate_left
  ·simp at ap
  rename_i oo D2;split at ap;rotate_left
  ·simp at ap
  rename_i a8;simp only[dz] at ap;subst ap
  obtain⟨e,bX,he⟩ : ∃e,P.underlying t=some (.slice e)/\P.underlying e=some (.int .u8):=by
   unfold p9 at Gt;split at Gt
   ·rename_i e bX;exact⟨e,bX,Gt⟩
   simp at Gt
  have ea:s.af r k=some af:=bm;have e9:=h.obj r k af ea
  have hzero : ∀(lL:Option Addr) (c:Nat),len=0->(convert t c2 (.slice lL 0 c)).run P w = .ok (.string (s7 oo)) w:=by
   intro lL c h0;subst h0;have:oo=[]:=(by simpa [bytesOf] using D2);subst this
   cases lL with
   | none=>rw[run_convert_bytes_string w t c2 e none 0 c bX he bF];simp[Conv.bytesToString,s7]
   | some lL =>
    rw[run_convert_bytes_string w t c2 e (some lL) 0 c bX he bF,run_bytesToString w lL 0 c [] (by have:=run_loadCells_list (P:=P) w lL [] (fun j v au=>by simp at au);simpa using this)];rfl
  rcases U.CX (ir ea) with ⟨ae,rfl,rfl,hval⟩|⟨b,m,A,c,ae,hval,qM,tb,hm⟩
  ·refine iw (v:= .string (s7 oo)) h ?_ rfl (.s _);simp[execOp,ah,hval,hzero none 0 rfl]
  refine iw (v:= .string (s7 oo)) h ?_ rfl (.s _);by_cases h0:len=0
  ·subst h0;simp[execOp,ah,hval,hzero A c rfl]
  rcases hm with hm|⟨hA,hm⟩
  ·omega
  subst hA;rw[ae] at e9;have iX:=e9.rd
  have A2 : ∀(es:List (List ay)) (oo:ar),bytesOf es=some oo->es.length=oo.length/\ ∀(i:Nat) n,oo[i]? = some n->es[i]? = some [.n .u8 n]:=by
   intro es
   induction es with
   | nil=>intro oo h;simp[bytesOf] at h;subst h;exact⟨rfl,fun i n ab=>by simp at ab⟩
   | cons x es ih =>
    intro oo h;unfold bytesOf at h;split at h
    ·simp at *
    ·rename_i l3 agZ A3
     simp only[List.cons.injEq] at A3;obtain⟨rfl,rfl⟩:=A3;rw[dO] at h;obtain⟨ee,GK,rfl⟩:=h;obtain⟨e1,aD⟩:=ih ee GK;refine⟨by simp[e1],fun i n ab=> ?_⟩
     cases i with
     | zero=>simp at ab;subst ab;rfl
     | succ i=>simpa using aD i n (by simpa using ab)
    simp at h
  obtain⟨e1,aD⟩:=A2 _ _ D2;have hlen:oo.length=len:=(by rw[<- e1];simp;omega);have acZ:(loadCells ⟨b,bE*af.sz,none⟩ len).run P w = .ok (oo.map (Value.int .u8)).toArray w:=(by have:=run_loadCells_list (P:=P) w ⟨b,bE*af.sz,none⟩ (oo.map (Value.int .u8)) (fun j v au=>by rw[dK,dO] at au;obtain⟨n,aX,rfl⟩:=au;have mG:=aD j n aX;have xH:j<len:=(by rw[<- hlen];exact(ahV.1 aX).1);rw[List.getElem?_take_of_lt xH,ah5] at mG;obtain⟨v,v1,v2,v3⟩:=iX.2 ((bE+j)*af.sz+0) (.n .u8 n) (by rw[CI iX.1 mG (by omega)];rfl);have bb:=v3.o4;subst bb;rw[rV,<- v1,a8.2];congr 2;omega);rw[ah8,hlen] at this;exact this);have o:=run_bytesToString w ⟨b,bE*af.sz,none⟩ len c oo acZ;rw[<- run_convert_bytes_string w t c2 e _ len c bX he bF] at o;simp[execOp,ah,hval,o,s7]
 simp at ap
theorem YW {f:Fn}{EN cf:Array Operand}(h:cB g s ax a w)(ah:I.op = .makeFunc f EN cf)(ap:eU P s.E s.aM aT I cE=some bq):Fin P g s a w I bq:=by
 cases f with
 | func n =>
  simp only[eU,ah] at ap;split at ap;rotate_left
  ·simp at ap
  rename_i ad1;simp only[dz] at ap;subst ap;refine iw (v:= .func (.func n) #[] (cf.map a.eval)) h ?_ rfl ?_
  ·have:EN = #[]:=(by simpa using ad1);subst this;simp[execOp,ah,Instr.makeFunc]
  have:=Rel.fn (f:=n) (c:=cf.toList.map (eD s.E)) (w:=w) (ok:=s.ok g ax w) (a3:=s.a3) (bd:=s.bd ax) (cf.toList.map a.eval) (by simp) (by intro j x v U bb;rw[dK,dO] at U bb;obtain⟨p,ae,rfl⟩:=U;obtain⟨q,a1,rfl⟩:=bb;rw[ae] at a1;simp at a1;subst a1;exact h.eval p);have e:(cf.toList.map a.eval).toArray=cf.map a.eval:=(by apply Array.ext';rw[Array.toList_map]);rw[e] at this;exact this
 | _=>simp[eU,ah] at ap
theorem Zn {i:Nat}{x:Operand}(h:cB g s ax a w)(ah:I.op = .extract x i)(ap:eU P s.E s.aM aT I cE=some bq):Fin P g s a w I bq:=by
 simp only[eU,ah] at ap;have U:=h.eval x;split at ap;rotate_left
 ·simp at ap
 rename_i vs gX;rw[gX] at U
 cases ab:vs[i]? with
 | none=>simp[ab] at ap
 | some v =>
  simp[ab] at ap;subst ap;obtain⟨a3,hval,aO,ai⟩:=U.Av
  have dZ:i<a3.length:=by
   rcases Nat.lt_or_ge i vs.length with cF|cF
   ·omega
   rw[dP cF] at ab;simp at ab
  have hu:a3[i]? = some a3[i]:=dx dZ;refine iw (v:=a3[i]) h ?_ rfl (ai i v _ ab hu);simp[execOp,ah,hval,Instr.extract,hu]
end
section
variable {P:Program} {g:G} {s:S} {ax:fz} {a:Act} {w:World} {I:Oper} {cE:fc} {aT:Nat} {bq:hk}
theorem rW {t e:TypeId}(h:p9 P t=some e):P.underlying t=some (.slice e):=by
 unfold p9 at h;split at h
 ·rename_i ez he;simp at h;subst h;exact he
 simp at h
theorem IP {t:TypeId}{lf:Array Field}(h:fieldsOf P t=some lf):P.underlying t=some (.struct lf):=by
 unfold fieldsOf at h;split at h
 ·rename_i ez he;simp at h;subst h;exact he
 simp at h
theorem Pc : ∀(z c:List ay),(r5 z c).length=z.length
 | x::z,y::c=>by simp[r5,Pc z c]
 | [],_=>by simp[r5]
 | _::_,[]=>by simp[r5]
theorem Yw (z:List ay)(cE:fc):(tZ z cE).length=z.length:=by
 unfold tZ;split
 ·exact Pc z _
 rfl
theorem Zo (x y:ay){w:World}{ok:Nat->Prop}{a3:jH}{bd:jx}{v:Value}(h:Rel w ok a3 bd x v):Rel w ok a3 bd (C7 x y) v:=by
 unfold C7;split
 ·rw[h.qx];exact .kp _ _ _ (fun _=>rfl)
 ·rw[h.w5];exact .qd _
 ·rw[h.qx];exact .nC (.kp _ _ _ (fun _=>rfl))
 exact h
theorem Qf : ∀(z c:List ay) (j:Nat) q,(r5 z c)[j]? = some q-> ∃x,z[j]? = some x/\(q=x\/ ∃y,q=C7 x y)
 | x::z,y::c,0,q,h=>by simp[r5] at h;exact⟨x,rfl,.inr ⟨y,h.symm⟩⟩
 | x::z,y::c,j+1,q,h=>by simp only[r5,List.getElem?_cons_succ] at h;simpa using Qf z c j q h
 | [],c,j,q,h=>by simp[r5] at h
 | x::z,[],j,q,h=>⟨q,by simpa [r5] using h,.inl rfl⟩
theorem aaT (z:List ay)(cE:fc)(j:Nat)(q:ay)(h:(tZ z cE)[j]? = some q): ∃x,z[j]? = some x/\(q=x\/ ∃y,q=C7 x y):=by
 unfold tZ at h;split at h
 ·exact Qf z _ j q h
 exact⟨q,h,.inl rfl⟩
theorem Yx {t:TypeId}{x y:Operand}(h:cB g s ax a w)(e4:s.aM aT=none)(ah:I.op = .makeSlice t x y)(ap:eU P s.E s.aM aT I cE=some bq)(cd:∀p∈bq.fu,p):Fin P g s a w I bq:=by
 simp only[eU,ah] at ap;have U:=h.eval x;have aR:=h.eval y;split at ap;rotate_left
 ·simp at ap
 rename_i e kX l i4 c he adq adr;rw[adq] at U;rw[adr] at aR;split at ap;rotate_left
 ·simp at ap
 rename_i i z ab cj;obtain⟨eG,eA,jk,kC,pT,RM⟩:=Ab cj;rw[ab] at jk;simp at jk;subst jk;simp only[Option.ite_none_right_eq_some,dz] at ap;obtain⟨e3,ap⟩:=ap;subst ap;have nl:=Yw z cE
 have kn : ∀(j:Nat) q,(tZ z cE)[j]? = some q-> ∃v,eA.cells[j]? = some v/\VL.ky v=true/\ ∀w ok a3 bd,Rel w ok a3 bd q v:=by
  intro j q a1;obtain⟨x,dY,og⟩:=aaT z cE j q a1;obtain⟨v,v1,v2,v3⟩:=RM j x dY;refine⟨v,v1,v2,fun w ok a3 bd=> ?_⟩;rcases og with rfl|⟨y,rfl⟩
  ·exact v3 w ok a3 bd
  exact Zo x y (v3 w ok a3 bd)
 clear RM;have h0:0<=l:=cd _ (by simp);have h1:l<=c:=cd _ (by simp);have o:(i.bytes:Int)*c<=281474976710656:=cd _ (by simp);have aa:c<9223372036854775808:=cd _ (by simp);have mH:z.length=eA.cells.size:=by rw[pT];simp
 have ju:=run_make (P:=P) w t e i eA (rW he) ab kC kX i4 l c h0 h1 o (by omega);refine FY (v:= .slice (some ⟨w.heap.size,0,none⟩) l.toNat c.toNat) (af:=⟨z.length,List.replicate l.toNat (tZ z cE),.live⟩) (c:=madeCells eA.cells (c.toNat*i.size)) (eB:=e) h e4 rfl ?_ rfl ?_ ?_ ?_
 ·simp[execOp,ah,U.o4,aR.o4,ju]
 ·intro ez mE;rw[List.eq_of_mem_replicate mE];exact nl
 ·intro j q a1
  have aO : ∀ez∈List.replicate l.toNat (tZ z cE),ez.length=z.length:=fun ez mE=>(by rw[List.eq_of_mem_replicate mE];exact nl);rcases Nat.eq_zero_or_pos z.length with sj|GL
  ·have:tZ z cE=[]:=dL.1 (by omega);rw[this] at a1;simp at a1
  rw[p2 GL _ aO,List.getElem?_replicate] at a1;by_cases au:j / z.length<l.toNat;rotate_left
  ·rw[dA au] at a1;simp at a1
  rw[dw au] at a1;simp only[dB] at a1;obtain⟨v,e1,aD,bH⟩:=kn _ _ a1;refine⟨v,?_,aD,bH _ _ _ _⟩;have dZ:j<c.toNat*i.size:=(by rw[<- e3];have:j<l.toNat*z.length:=(Nat.div_lt_iff_lt_mul GL).1 au;exact Nat.lt_of_lt_of_le this (ahY _ (by omega)));simp only[madeCells];rw[Array.getElem?_map,Array.getElem?_range];simp only[dZ,if_true,dR];rw[mH] at e1;have hm:j % eA.cells.size<eA.cells.size:=Nat.mod_lt _ (by omega);rw[dS hm] at e1;rw[getElem!_pos eA.cells _ hm];exact e1
 intro bJ ln nI m5 hu cb;refine Rel.bu hu cb (by omega) (by omega) ⟨?_,.inr (by simp)⟩;rw[size_madeCells];simp only[dF,e3]
theorem Yy {t:TypeId}{x:Operand}{f:Nat}(h:cB g s ax a w)(ah:I.op = .fieldAddr t x f)(ap:eU P s.E s.aM aT I cE=some bq)(cd:∀p∈bq.fu,p):Fin P g s a w I bq:=by
 simp only[eU,ah] at ap;have U:=h.eval x;split at ap;rotate_left
 ·simp at ap
 rename_i lf D3;split at ap;rotate_left
 ·simp at ap
 rename_i fd vH;split at ap
 ·simp at ap
 rename_i S2
 have ab:(P.info? fd.type).isSome=true:=by
  cases ab:P.info? fd.type with
  | none=>simp[Program.cellsOf,ab] at S2
  | some i=>rfl
 have ju : ∀A:Addr,A.spot=none->(Instr.fieldAt t (.pointer (some A)) f).run P w = .ok (.pointer (some ⟨A.block,A.off+fd.offset,none⟩)) w:=by intro A hA;have e:A.add fd.offset=⟨A.block,A.off+fd.offset,none⟩:=(by obtain⟨b,I,sp⟩:=A;simp only at hA;subst hA;exact rV b I _);simp[Instr.fieldAt,run_underlying (IP D3),vH,Instr.sureAddr,fieldPlace,sK ab,S2,e]
 split at ap
 ·rename_i r k i off gX
  rw[gX] at U;split at ap
  ·rename_i af bY bm
   split at ap
   ·rename_i c aN nl
    simp only[dz] at ap;subst ap;have jh:s.af r k=some af:=sW bm fun p ae=>cd p (by simp[ae]);have qe:=Af nl fun p ae=>cd p (by simp[ae]);have e9:=h.obj r k af jh;rcases U.xa (ir jh) with h0|⟨b,m,ae,hval⟩
    ·rw[h0] at e9;simp only[jr] at e9;rw[e9] at qe;simp at qe
    refine iw (v:= .pointer (some ⟨b,i*af.sz+(off+fd.offset),none⟩)) h ?_ rfl ?_
    ·simp[execOp,ah,hval,ju,Nat.add_assoc]
    exact U.Qd ((ir jh).trans (by rw[ae])) _
   simp at ap
  simp at ap
 ·rename_i sz es i off gX;rw[gX] at U;simp only[dz] at ap;subst ap;obtain⟨ek,b3,aL,hval,iX⟩:=U.Aw;refine iw (v:= .pointer (some ⟨ek,b3+(i*sz+(off+fd.offset)),none⟩)) h ?_ rfl (iX.fi aL);simp[execOp,ah,hval,ju,Nat.add_assoc]
 simp at ap
theorem JD {t e:TypeId}{n:Nat}(h:DA P t=some (n,e)):P.underlying t=some (.array n e)/\(P.info? e).isSome=true/\P.cellsOf e≠0/\1<n:=by
 unfold DA at h;split at h
 ·rename_i nT ez hu
  split at h
  ·rename_i a8;simp only[dz,dD] at h;obtain⟨rfl,rfl⟩:=h;exact⟨hu,a8⟩
  simp at h
 simp at h
theorem aaU {t:TypeId}{x y:Operand}(h:cB g s ax a w)(ah:I.op = .indexAddr t x y)(ap:AN P s.aM t (eD s.E x) (eD s.E y) cE=some bq)(cd:∀p∈bq.fu,p):Fin P g s a w I bq:=by
 unfold AN at ap;have U:=h.eval x;have aR:=h.eval y;split at ap;rotate_left
 ·simp at ap
 rename_i n e r k i off cl j hN ui DC;rw[ui] at U;rw[DC] at aR;obtain⟨hu,ab,a8,aX⟩:=JD hN;split at ap;rotate_left
 ·simp at ap
 rename_i af bY bm;split at ap
 ·rename_i c aN nl
  simp only[dz] at ap;subst ap;have jh:s.af r k=some af:=sW bm fun p ae=>cd p (by simp[ae]);have qe:=Af nl fun p ae=>cd p (by simp[ae]);have h0:0<=j:=cd _ (by simp);have h1:j<n:=cd _ (by simp);have e9:=h.obj r k af jh;rcases U.xa (ir jh) with cj|⟨b,m,ae,hval⟩
  ·rw[cj] at e9;simp only[jr] at e9;rw[e9] at qe;simp at qe
  refine iw (v:= .pointer (some ⟨b,i*af.sz+(off+j.toNat*P.cellsOf e),none⟩)) h ?_ rfl ?_
  ·simp[execOp,ah,hval,aR.o4,Instr.indexAt,asIntOf,run_underlying hu,Instr.sureAddr,h0,h1,sK ab,rV,Nat.add_assoc]
  exact U.Qd ((ir jh).trans (by rw[ae])) _
 simp at ap
theorem Yz {t:TypeId}{x y:Operand}(h:cB g s ax a w)(ah:I.op = .indexAddr t x y)(ap:eU P s.E s.aM aT I cE=some bq)(cd:∀p∈bq.fu,p):Fin P g s a w I bq:=by
 simp only[eU,ah] at ap;have U:=h.eval x;have aR:=h.eval y;split at ap;rotate_left
 ·exact aaU h ah ap cd
 rename_i e k j he gX;rw[gX] at aR;have hu:=rW he
 have ju : ∀(b I len cap:Nat),0<=j->j<len->(P.info? e).isSome=true ->
  (Instr.indexAt t (.slice (some ⟨b,I,none⟩) len cap) (.int k j)).run P w = .ok (.pointer (some ⟨b,I+j.toNat*P.cellsOf e,none⟩)) w:=by
  intro b I len cap h0 h1 ab;have ez:=rV b I (j.toNat*P.cellsOf e);simp[Instr.indexAt,asIntOf,run_underlying hu,h0,h1,sK ab,ez]
 have t0 : ∀sz,sz=P.cellsOf e->sz≠0->(P.info? e).isSome=true:=by
  intro sz bX cj
  cases ab:P.info? e with
  | none=>simp[Program.cellsOf,ab] at bX;exact absurd bX cj
  | some i=>rfl
 split at ap
 ·rename_i sz es ui
  rw[ui] at U;simp only[Option.ite_none_right_eq_some,dz] at ap;obtain⟨⟨bX,cj⟩,ap⟩:=ap;subst ap;have h0:0<=j:=cd _ (by simp);have h1:j<es.length:=cd _ (by simp);rcases U.tS with ⟨D4,-⟩|⟨ek,off,c,aL,hval,a8,iX⟩
  ·subst D4;simp at h1;omega
  refine iw (v:= .pointer (some ⟨ek,off+(j.toNat*sz+0),none⟩)) h ?_ rfl (iX.fi aL);simp[execOp,ah,hval,aR.o4,ju _ _ _ _ h0 h1 (t0 sz bX cj),bX]
 ·rename_i r q bE len ui
  rw[ui] at U;split at ap;rotate_left
  ·simp at ap
  rename_i row dh;split at ap;rotate_left
  ·simp at ap
  rename_i af bY bm;simp only[Option.ite_none_right_eq_some,dz] at ap;obtain⟨⟨bX,cj⟩,ap⟩:=ap;subst ap;have jh:s.af r q=some af:=(by unfold S.af;rw[dh];exact sW bm fun p ae=>cd p (by simp[ae]));have h0:0<=j:=cd _ (by simp);have h1:j<len:=cd _ (by simp);rcases U.CX (ir jh) with ⟨-,-,o,-⟩|⟨b,m,A,c,ae,hval,aO,-,hm⟩
  ·subst o;simp at h1;omega
  rcases hm with hm|⟨hA,hm⟩
  ·omega
  subst hA;have jP:=FM jh;refine iw (v:= .pointer (some ⟨b,(bE+j.toNat)*af.sz+0,none⟩)) h ?_ rfl (.ref jP ((ir jh).trans (by rw[ae])));simp[execOp,ah,hval,aR.o4,ju _ _ _ _ h0 h1 (t0 _ bX cj),bX,Nat.add_mul]
 simp at ap
theorem acr {c:Call}(h:cB g s ax a w)(ah:I.op = .call c)(a8:c.callee = .builtin .len)(ap:eU P s.E s.aM aT I cE=some bq)(cd:∀p∈bq.fu,p):Fin P g s a w I bq:=by
 obtain⟨GM,args,m7⟩:=c;simp only at a8;subst a8;simp only[eU,ah] at ap
 have key : ∀(x:Operand) (n:Nat) (t:TypeId) (v:Value),args.toList=[x]->m7 = #[t]->bq.val = .n .i64 n->bq.fU=[]->a.eval x=v ->
  (Builtin.len_ #[t] I.type #[v]).run P w = .ok (goInt n) w->Fin P g s a w I bq:=by
  intro x n t v hargs mI ai hv bb ju;subst mI;refine iw (v:=goInt n) h ?_ hv (by rw[ai];exact .n _ _);have bC:args = #[x]:=(by apply Array.ext';simpa using hargs);subst bC;simp[execOp,ah,resolve,invoke,builtin,bb,ju]
 have hargs : ∀y,args.toList.map (eD s.E)=[y]-> ∃x,args.toList=[x]/\eD s.E x=y:=by
  intro y aR
  match aO:args.toList,aR with
  | [x],aR=>simp at aR;exact⟨x,rfl,aR⟩
 have mC:decide (m7.size=1)=true-> ∃t,m7 = #[t]/\m7.getD 0 0=t:=by
  intro e3;have e3:m7.size=1:=(by simpa using e3);obtain⟨l⟩:=m7
  match l,e3 with
  | [t],_=>exact⟨t,rfl,rfl⟩
 split at ap
 ·rename_i sz es e hm hu e3
  obtain⟨x,U,gX⟩:=hargs _ hm;obtain⟨t,cb,oJ⟩:=mC e3;rw[oJ] at hu;simp only[dz] at ap;have ai:=h.eval x;rw[gX] at ai;rcases ai.tS with ⟨D4,A,c,hval,hA⟩|⟨ek,off,c,aL,hval,-⟩
  ·exact key x es.length t _ U cb (by rw[<- ap]) (by rw[<- ap]) hval (by subst D4;simp[Builtin.len_,run_underlying hu])
  exact key x es.length t _ U cb (by rw[<- ap]) (by rw[<- ap]) hval (by simp[Builtin.len_,run_underlying hu])
 ·rename_i r k bE len e hm hu e3
  obtain⟨x,U,gX⟩:=hargs _ hm;obtain⟨t,cb,oJ⟩:=mC e3;rw[oJ] at hu;split at ap
  ·rename_i row dh
   split at ap
   ·rename_i af bY bm
    simp only[dz] at ap;have ai:=h.eval x;rw[gX] at ai;have jh:s.af r k=some af:=(by unfold S.af;rw[dh];exact sW bm fun p ae=>cd p (by rw[<- ap];exact ae));rcases ai.CX (ir jh) with ⟨-,-,o,hval⟩|⟨b,m,A,c,ae,hval,-⟩
    ·exact key x len t _ U cb (by rw[<- ap]) (by rw[<- ap]) hval (by subst o;simp[Builtin.len_,run_underlying hu])
    exact key x len t _ U cb (by rw[<- ap]) (by rw[<- ap]) hval (by simp[Builtin.len_,run_underlying hu])
   simp at ap
  simp at ap
 ·rename_i e hm hu e3;obtain⟨x,U,gX⟩:=hargs _ hm;obtain⟨t,cb,oJ⟩:=mC e3;rw[oJ] at hu;simp only[dz] at ap;have ai:=h.eval x;rw[gX] at ai;exact key x 0 t _ U cb (by rw[<- ap];rfl) (by rw[<- ap]) ai.qx (by simp[Builtin.len_,run_underlying hu])
 ·rename_i b hm hu e3;obtain⟨x,U,gX⟩:=hargs _ hm;obtain⟨t,cb,oJ⟩:=mC e3;rw[oJ] at hu;simp only[dz] at ap;have ai:=h.eval x;rw[gX] at ai;exact key x b.size t _ U cb (by rw[<- ap]) (by rw[<- ap]) ai.AP (by simp[Builtin.len_,run_underlying hu])
 simp at ap
theorem Fs {ok:Nat->Prop}{a3:jH}{bd:jx}{ek off sz:Nat}{es:List (List ay)}(h:pi w ok a3 bd ek off sz es)(l n:Nat)(aO:l<=es.length):
 pi w ok a3 bd ek (off+l*sz) sz ((es.drop l).take n):=by
 have ry : ∀e∈(es.drop l).take n,e.length=sz:=fun e he=>h.1 e (List.mem_of_mem_drop (List.mem_of_mem_take he));refine⟨ry,fun j x U=> ?_⟩;rcases Nat.eq_zero_or_pos sz with h0|bX
 ·have e1 : ∀(l:List (List ay)),(∀e∈l,e.length=0)->l.flatten=[]:=by
   intro l aO;induction l with
   | nil=>rfl
   | cons a l ih=>rw[ahW,ih fun e he=>aO e (by simp[he])];have:=aO a (by simp);simp_all
  rw[e1 _ (fun e he=>(ry e he).trans h0)] at U;simp at U
 rw[p2 bX _ ry] at U
 have au:j / sz<n:=by
  rcases Nat.lt_or_ge (j / sz) n with cF|cF
  ·exact cF
  rw[dP (by simp;omega)] at U;simp at U
 rw[ahZ,dw au,ah5] at U;obtain⟨v,e1,aD,bH⟩:=h.2 (l*sz+j) x (by rw[p2 bX es h.1];have gU:(l*sz+j) / sz=l+j / sz:=(by rw[Nat.mul_comm,Nat.mul_add_div bX]);have h7:(l*sz+j) % sz=j % sz:=(by rw[Nat.mul_comm,Nat.mul_add_mod]);rw[gU,h7];exact U);exact⟨v,by rw[Nat.add_assoc];exact e1,aD,bH⟩
theorem Fl {t e:TypeId}(hu:P.underlying t=some (.slice e))(ab:(P.info? e).isSome=true)(A:Option Addr)(len cap:Nat)(bE jk:Option Value)(l h:Nat)
 (GN:(bE=none/\l=0)\/ ∃k,bE=some (.int k l)) (S3:(jk=none/\h=len)\/ ∃k,jk=some (.int k h)) (h1:l<=h) (o:h<=cap) (aa:len<=cap) :
 (Instr.sliceAt t (.slice A len cap) bE jk none).run P w = .ok (.slice (if cap=l then A else A.map (·.add (l*P.cellsOf e))) (h-l) (cap-l)) w:=by
 have aL : ∀(k:IntKind) (n y:Nat) (code:BoundsCode),n<=y->(Instr.sliceBound (.int k n) y code).run P w = .ok n w:=by intro k n y code aX;simp[Instr.sliceBound,asIntOf,aX]
 rcases GN with ⟨rfl,rfl⟩|⟨kX,rfl⟩<;>rcases S3 with ⟨rfl,rfl⟩|⟨i4,rfl⟩ <;>
  simp[Instr.sliceAt,Instr.slice,run_underlying hu,Instr.sliceBounds,sK ab,aL,h1,o,aa]
theorem Yd {t e:TypeId}(hu:P.underlying t=some (.slice e))(ab:(P.info? e).isSome=true)(A:Option Addr)(len cap:Nat)(bE:Option Value)(l h m:Nat)(i4 l4:IntKind)
 (GN:(bE=none/\l=0)\/ ∃k,bE=some (.int k l)) (h1:l<=h) (o:h<=m) (aa:m<=cap) :
 ∃v,(Instr.sliceAt t (.slice A len cap) bE (some (.int i4 h)) (some (.int l4 m))).run P w = .ok v w:=by
 have aL : ∀(k:IntKind) (n y:Nat) (code:BoundsCode),n<=y->(Instr.sliceBound (.int k n) y code).run P w = .ok n w:=by intro k n y code aX;simp[Instr.sliceBound,asIntOf,aX]
 rcases GN with ⟨rfl,rfl⟩|⟨kX,rfl⟩ <;>
  exact⟨_,by simp[Instr.sliceAt,Instr.slice,run_underlying hu,Instr.sliceBounds,sK ab,aL,h1,o,aa];rfl⟩
theorem tU {x:Option Operand}(h:cB g s ax a w){d n:Nat}{af:List Prop}(aL:al (x.map (eD s.E)) d=some (n,af))(cd:∀p∈af,p):
 (x.map a.eval=none/\n=d)\/ ∃k,x.map a.eval=some (.int k n):=by
 cases x with
 | none=>simp[al] at aL;exact .inl ⟨rfl,aL.1.symm⟩
 | some x =>
  have U:=h.eval x;simp only[dR] at aL ⊢;unfold al at aL;split at aL
  ·rename_i he;simp at he
  ·rename_i _ k y he;simp only[dz] at he;rw[he] at U;simp only[dz,dD] at aL;obtain⟨rfl,rfl⟩:=aL;have h0:0<=y:=cd _ (by simp);refine .inr ⟨k,?_⟩;rw[U.o4,Int.toNat_of_nonneg h0]
  simp at aL
theorem Aq {sz:Nat}: ∀ {es:List (List ay)},(∀e∈es,e.length=sz)->es.flatten.length=es.length*sz
 | [],_=>by simp
 | e::es,h=>by rw[ahW,dE,Aq fun x U=>h x (by simp[U]),h e (by simp),dI,Nat.add_mul];omega
theorem cB.room (h:cB g s ax a w){r k b M:Nat}{af:aU}(ah:s.af r k=some af)(lH:ax r k=some (b,M)):af.es.length*af.sz<=M:=by
 have e9:=h.obj r k af ah;rw[lH] at e9;obtain⟨cf,mj,g1,g2,g3,g4⟩:=e9;have j0:=Aq g3;rcases Nat.eq_zero_or_pos af.es.flatten.length with h0|jZ
 ·omega
 obtain⟨v,e1,-⟩:=g4 (af.es.flatten.length-1) _ (dx (by omega));have:=(ah3.1 e1).1;omega
theorem Z2 {t:TypeId}{x ab uJ:Operand}{bE:Option Operand}(h:cB g s ax a w)(ah:I.op = .slice t x bE (some ab) (some uJ))(ap:eU P s.E s.aM aT I cE=some bq)(cd:∀p∈bq.fu,p):Fin P g s a w I bq:=by
 simp only[eU,ah] at ap;have U:=h.eval x
 have t0 : ∀sz e,sz=P.cellsOf e->sz≠0->(P.info? e).isSome=true:=by
  intro sz e bX cj
  cases ab:P.info? e with
  | none=>simp[Program.cellsOf,ab] at bX;exact absurd bX cj
  | some i=>rfl
 split at ap;rotate_left
 ·simp at ap
 rename_i e r k uI len hu gX;rw[gX] at U;split at ap
 ·simp at ap
 rename_i row dh;split at ap
 ·simp at ap
 rename_i af EM bm;split at ap;rotate_left
 ·simp at ap
 rename_i l bY n aN m fA aO aX hm;simp only[Option.ite_none_right_eq_some,dz] at ap;obtain⟨⟨bX,cj⟩,ap⟩:=ap;subst ap;have jh:s.af r k=some af:=by unfold S.af;rw[dh];exact sW bm fun p ae=>cd p (by simp[ae])
 have jo:=tU h aO fun p ae=>cd p (by simp[ae]);have ks:=tU (x:=some ab) h aX fun p ae=>cd p (by simp[ae]);have ye:=tU (x:=some uJ) h hm fun p ae=>cd p (by simp[ae]);have h1:l<=n:=cd _ (by simp);have o:n<=m:=cd _ (by simp);have aa:m<=len:=cd _ (by simp)
 obtain⟨i4,aD⟩ : ∃i4,a.eval ab = .int i4 n:=by
  rcases ks with ⟨e,-⟩|⟨i4,e⟩
  ·simp at e
  exact⟨i4,by simpa using e⟩
 obtain⟨l4,bH⟩ : ∃l4,a.eval uJ = .int l4 m:=by
  rcases ye with ⟨e,-⟩|⟨l4,e⟩
  ·simp at e
  exact⟨l4,by simpa using e⟩
 obtain⟨A,L,C,hval,a8⟩ : ∃A L C,a.eval x = .slice A L C/\m<=C:=by
  rcases U.sR (ir jh) with ⟨-,-,h0,hval⟩|⟨b,M,A,c,-,hval,qM,-⟩
  ·exact⟨none,0,0,hval,by omega⟩
  exact⟨A,len,c,hval,by omega⟩
 obtain⟨v,bb⟩:=Yd (w:=w) hu (t0 _ e bX cj) A L C (bE.map a.eval) l n m i4 l4 jo h1 o a8;refine iw (v:=v) h ?_ rfl (.dead _);simp only[execOp,ah,hval];simp only[dR,aD,bH,Sem.run_bind,bb];rfl
theorem aaV {t:TypeId}{x:Operand}{bE ab:Option Operand}(h:cB g s ax a w)(ah:I.op = .slice t x bE ab none)(ap:eU P s.E s.aM aT I cE=some bq)(cd:∀p∈bq.fu,p):Fin P g s a w I bq:=by
 simp only[eU,ah] at ap;have U:=h.eval x
 have t0 : ∀sz e,sz=P.cellsOf e->sz≠0->(P.info? e).isSome=true:=by
  intro sz e bX cj
  cases ab:P.info? e with
  | none=>simp[Program.cellsOf,ab] at bX;exact absurd bX cj
  | some i=>rfl
 split at ap
 ·rename_i e sz es hu gX
  rw[gX] at U;split at ap;rotate_left
  ·simp at ap
  rename_i l bY n aN aO aX;simp only[Option.ite_none_right_eq_some,dz] at ap;obtain⟨⟨bX,cj⟩,ap⟩:=ap;subst ap;have jo:=tU h aO fun p ae=>cd p (by simp[ae]);have ks:=tU h aX fun p ae=>cd p (by simp[ae]);have h1:l<=n:=cd _ (by simp);have o:n<=es.length:=cd _ (by simp);rcases U.tS with ⟨D4,A,c,hval,hA⟩|⟨ek,off,c,aL,hval,a8,iX⟩
  ·subst D4
   have D5:n=0:=(by simpa using o);subst D5;have oh:l=0:=(by omega);subst oh;refine iw (v:= .slice (if c=0 then A else A.map (·.add (0*P.cellsOf e))) (0-0) (c-0)) h ?_ rfl ?_
   ·have:=Fl (w:=w) hu (t0 sz e bX cj) A 0 c (bE.map a.eval) (ab.map a.eval) 0 0 jo ks (dG _) (Nat.zero_le _) (Nat.zero_le _);simp only[execOp,ah,hval];simp only[Option.map_none,Sem.run_bind,this];rfl
   refine .kp sz _ _ fun aX=> ?_;split at aX
   ·rename_i nm;omega
   have:=hA (by simpa using aX);omega
  have hlen:((es.drop l).take (n-l)).length=n-l:=(by simp;omega);refine iw (v:= .slice (if c=l then some ⟨ek,off,none⟩ else (some (⟨ek,off,none⟩:Addr)).map (·.add (l*P.cellsOf e))) (n-l) (c-l)) h ?_ rfl ?_
  ·have:=Fl (w:=w) hu (t0 sz e bX cj) (some ⟨ek,off,none⟩) es.length c (bE.map a.eval) (ab.map a.eval) l n jo ks h1 (Nat.le_trans o a8) a8;simp only[execOp,ah,hval];simp only[Option.map_none,Sem.run_bind,this];rfl
  by_cases i6:c=l
  ·have:n-l=0:=(by omega);rw[this];show Rel _ _ _ _ (.isl sz ((es.drop l).take 0)) _;rw[List.take_zero];exact .kp sz _ _ (fun _=>by omega)
  rw[dA i6];simp only[dR,rV,<- bX];have ai:=(Fs iX l (n-l) (by omega)).isl (c:=c-l) ⟨aL.1,fun e he=>aL.2 e (List.mem_of_mem_drop (List.mem_of_mem_take he))⟩ (by rw[hlen];omega);rw[hlen] at ai;exact ai
 ·rename_i e r k uI len hu gX
  rw[gX] at U;split at ap
  ·simp at ap
  rename_i row dh;split at ap
  ·simp at ap
  rename_i af EM bm;split at ap;rotate_left
  ·simp at ap
  rename_i l bY n aN aO aX;simp only[Option.ite_none_right_eq_some,dz] at ap;obtain⟨⟨bX,cj⟩,ap⟩:=ap;subst ap;have jh:s.af r k=some af:=(by unfold S.af;rw[dh];exact sW bm fun p ae=>cd p (by simp[ae]));have jo:=tU h aO fun p ae=>cd p (by simp[ae]);have ks:=tU h aX fun p ae=>cd p (by simp[ae])
  have eE:l<=n/\(n<=len\/uI+n<=af.es.length):=by
   have hm : ∀p∈KI cE l n len uI af.es.length,p:=fun p ae=>cd p (by simp[ae]);unfold KI at hm;split at hm
   ·exact⟨hm _ (by simp),.inr (hm _ (by simp))⟩
   exact⟨hm _ (by simp),.inl (hm _ (by simp))⟩
  obtain⟨h1,o⟩:=eE;have jP:=FM jh;rcases U.sR (ir jh) with ⟨ae,rfl,rfl,hval⟩|⟨b,m,A,c,ae,hval,qM,tb,lX,hm⟩
  ·have D5:n=0:=by
    have e9:=h.obj r k af jh;rw[ae] at e9;simp only[jr] at e9;rw[e9] at o;rcases o with o|o<;>simpa using o
   subst D5;have oh:l=0:=(by omega);subst oh;refine iw (v:= .slice none 0 0) h ?_ rfl (.ox jP ((ir jh).trans (by rw[ae])));have:=Fl (w:=w) hu (t0 _ e bX cj) none 0 0 (bE.map a.eval) (ab.map a.eval) 0 0 jo ks (dG _) (dG _) (dG _);simp only[execOp,ah,hval];simp only[Option.map_none,Sem.run_bind,this];rfl
  have ad2:n<=c:=by
   rcases o with o|o
   ·omega
   have:=h.room jh ae;rw[<- lX] at this;have:=Nat.le_of_mul_le_mul_right this (by omega);omega
  refine iw (v:= .slice (if c=l then A else A.map (·.add (l*P.cellsOf e))) (n-l) (c-l)) h ?_ rfl ?_
  ·have:=Fl (w:=w) hu (t0 _ e bX cj) A len c (bE.map a.eval) (ab.map a.eval) l n jo ks h1 ad2 qM;simp only[execOp,ah,hval];simp only[Option.map_none,Sem.run_bind,this];rfl
  refine Rel.bu jP ((ir jh).trans (by rw[ae])) (by omega) (by omega) ?_;refine⟨by rw[<- lX];congr 1;omega,?_⟩;by_cases i6:c=l
  ·exact .inl (by omega)
  rcases hm with hm|hA
  ·exact .inl (by omega)
  refine .inr ?_;rw[dA i6,hA];simp only[dR,rV,<- bX,Nat.add_mul]
 ·rename_i b hu gX
  rw[gX] at U;split at ap;rotate_left
  ·simp at ap
  rename_i l bY n aN aO aX;simp only[dz] at ap;subst ap;have jo:=tU h aO fun p ae=>cd p (by simp[ae]);have ks:=tU h aX fun p ae=>cd p (by simp[ae]);have h1:l<=n:=cd _ (by simp);have o:n<=b.size:=cd _ (by simp);refine iw (v:= .string (b.extract l n)) h ?_ rfl (.s _);have aL : ∀(k:IntKind) (n y:Nat) (code:BoundsCode),n<=y->(Instr.sliceBound (.int k n) y code).run P w = .ok n w:=(by intro k n y code aX;simp[Instr.sliceBound,asIntOf,aX]);simp only[execOp,ah,U.AP,Option.map_none]
  rcases jo with ⟨e1,rfl⟩|⟨kX,e1⟩<;>rcases ks with ⟨aD,rfl⟩|⟨i4,aD⟩<;>rw[e1,aD] <;>
   simp[Instr.sliceAt,Instr.slice,run_underlying hu,Instr.sliceBounds,aL,h1,o]
 simp at ap
end
section
variable {P:Program} {g:G} {s:S} {ax:fz} {a:Act} {w:World} {I:Oper} {cE:fc} {aT:Nat} {bq:hk}
theorem PL {ok:Nat->Prop}{a3:jH}{bd:jx}{t:TypeId}{c:List ay}{off:Nat}{x:ay}{vs:List Value}(aO:vs.length=c.length)
 (kn : ∀(j:Nat) u,vs[j]? = some u->ky u=true) (ai : ∀(j:Nat) x u,c[j]? = some x->vs[j]? = some u->Rel w ok a3 bd x u)
 (cb:rn P t c off=some x) : ∃v,(part t vs.toArray off).run P w = .ok v w/\Rel w ok a3 bd x v:=by
 unfold rn at cb;split at cb
 ·simp at cb
 rename_i ab;simp only[Bool.not_eq_true',Bool.not_eq_false,ahU] at ab;simp only[part,Sem.run_bind,Qc ab.1,Result.andThen];split at cb
 ·rename_i sf
  rw[sf];split at cb;rotate_left
  ·simp at cb
  rename_i hle;simp at cb;subst cb;have e:(vs.toArray.extract off (off+P.cellsOf t))=((vs.drop off).take (P.cellsOf t)).toArray:=(by apply Array.ext';simp[List.extract_eq_take_drop]);refine⟨.agg ((vs.drop off).take (P.cellsOf t)).toArray,by simp[sK ab.2],?_⟩;refine .agg _ (by simp;omega) ?_ ?_
  ·intro j v bb
   rw[ahZ] at bb;split at bb
   ·rw[ah5] at bb;exact kn _ _ bb
   simp at bb
  intro j y v aR bb;rw[ahZ] at bb aR;split at bb
  ·rename_i au;rw[dw au] at aR;rw[ah5] at bb aR;exact ai _ _ _ aR bb
  simp at bb
 rename_i sf;have sf:C6 P t=false:=by simpa using sf
 rw[sf];split at cb
 ·rename_i y aR
  split at cb
  ·simp at cb;subst cb
   have AW:off<vs.length:=by
    rcases Nat.lt_or_ge off c.length with h|h
    ·omega
    rw[dP h] at aR;simp at aR
   exact⟨vs[off],by simp[AW],ai off y _ aR (dx AW)⟩
  simp at cb
 simp at cb
theorem aaW {t:TypeId}{x:Operand}{f:Nat}(h:cB g s ax a w)(ah:I.op = .field t x f)(ap:eU P s.E s.aM aT I cE=some bq):Fin P g s a w I bq:=by
 simp only[eU,ah] at ap;have U:=h.eval x;split at ap
 ·rename_i lf D3
  split at ap
  ·rename_i fd c vH gX
   rw[gX] at U
   cases cb:rn P fd.type c fd.offset with
   | none=>simp[cb] at ap
   | some v =>
    simp[cb] at ap;subst ap;obtain⟨vs,hval,aO,a8,ai⟩:=U.Au;obtain⟨u,h1,o⟩:=PL aO a8 ai cb;refine iw (v:=u) h ?_ rfl o;simp[execOp,ah,hval,Instr.field,run_underlying (IP D3),vH,asAgg,h1]
  simp at ap
 simp at ap
theorem Qg : ∀ {a b c:List ay},qH 0 a b=some c->c=a
 | [],[],c,h=>by simp[qH] at h;exact h
 | .n k x::a,.n dc y::b,c,h=>by
  unfold qH at h;split at h
  ·cases hm:qH 0 a b with
   | none=>simp[hm] at h
   | some d=>simp[hm] at h;rw[<- h,Qg hm]
  simp at h
 | [],_::_,_,h=>by simp[qH] at h
theorem QH {j:Int}(au:j≠0): ∀ {a b c:List ay},qH j a b=some c->c=b
 | [],[],c,h=>by simp[qH] at h;exact h
 | .n k x::a,.n dc y::b,c,h=>by
  unfold qH at h;split at h
  ·rename_i aZ
   subst aZ
   cases hm:qH j a b with
   | none=>simp[hm] at h
   | some d=>simp[hm,au] at h;rw[<- h,QH au hm]
  simp at h
 | [],_::_,_,h=>by simp[qH] at h
theorem Z3 {t:TypeId}{x y:Operand}(h:cB g s ax a w)(ah:I.op = .index t x y)(ap:JQ P t (eD s.E x) (eD s.E y)=some bq)(cd:∀p∈bq.fu,p):Fin P g s a w I bq:=by
 unfold JQ at ap;have U:=h.eval x;have aR:=h.eval y;split at ap;rotate_left
 ·simp at ap
 rename_i e cs cl j hN ui DC;rw[ui] at U;rw[DC] at aR;obtain⟨hu,ab,-,-⟩:=JD hN;split at ap;rotate_left
 ·simp at ap
 rename_i dU kk bC aL
 cases hm:qH j dU kk with
 | none=>simp[hm] at ap
 | some c =>
  simp only[hm,dR,dz] at ap;subst ap;have h0:0<=j:=cd _ (by simp);have h1:j<2:=cd _ (by simp);obtain⟨vs,hval,aO,a8,ai⟩:=U.Au
  have key:rn P e cs (j.toNat*P.cellsOf e)=some (.agg c):=by
   have:j=0\/j=1:=(by omega);rcases this with rfl|rfl
   ·rw[Qg hm];exact bC
   rw[QH (by decide) hm];exact aL
  obtain⟨u,kX,i4⟩:=PL aO a8 ai key;refine iw (v:=u) h ?_ rfl i4;simp[execOp,ah,hval,aR.o4,Instr.index,asIntOf,run_underlying hu,h0,h1,sK ab,kX]
theorem aaX {t:TypeId}{x y:Operand}(h:cB g s ax a w)(ah:I.op = .index t x y)(ap:eU P s.E s.aM aT I cE=some bq)(cd:∀p∈bq.fu,p):Fin P g s a w I bq:=by
 simp only[eU,ah] at ap;have U:=h.eval x;have aR:=h.eval y;split at ap
 ·rename_i b k j hu ui DC
  rw[ui] at U;rw[DC] at aR;simp only[dz] at ap;subst ap;have h0:0<=j:=cd _ (by simp);have h1:j<b.size:=cd _ (by simp);have o:j.toNat<b.size:=(by omega);refine iw (v:= .int .u8 (b[j.toNat]).toNat) h ?_ rfl ?_
  ·simp[execOp,ah,U.AP,aR.o4,Instr.index,asIntOf,run_underlying hu,h0,o]
  have e:b.data.toList.getD j.toNat 0=b[j.toNat]:=(by rw[ahX,Array.getElem?_toList,dS (by simpa using o)];rfl);show Rel _ _ _ _ (.n .u8 _) _;rw[e];exact .n _ _
 exact Z3 h ah ap cd
theorem Z4 (off:Nat): ∀(vs:List Value) (n:Nat) (cs:Array Value) (j:Nat),off+n+vs.length<=cs.size ->
 ((vs.zipIdx n).foldl (fun cs (x:Value×Nat)=>cs.setIfInBounds (off+x.2) x.1) cs)[j]? = if off+n<=j/\j<off+n+vs.length then vs[j-(off+n)]? else cs[j]? := by
 intro vs
 induction vs with
 | nil=>intro n cs j h;simp;intro h1 o;omega
 | cons v vs ih =>
  intro n cs j h;simp only[dI] at h;simp only[List.zipIdx_cons,List.foldl_cons];rw[ih (n+1) _ j (by simp;omega)];simp only[dI,Array.getElem?_setIfInBounds];by_cases h1:j=off+n
  ·subst h1;rw[dA (by omega),dw rfl,dw (by omega),dw (by omega)];simp
  by_cases o:off+(n+1)<=j/\j<off+(n+1)+vs.length
  ·rw[dw o,dw (by omega)];rw[show j-(off+n)=(j-(off+(n+1)))+1 by omega];rfl
  rw[dA o,dA (fun e=>h1 e.symm),dA (by omega)]
theorem XV (off:Nat): ∀(vs:List (Value×Nat)) (cs:Array Value),(vs.foldl (fun cs (x:Value×Nat)=>cs.setIfInBounds (off+x.2) x.1) cs).size=cs.size:=by
 intro vs
 induction vs with
 | nil=>intro cs;rfl
 | cons v vs ih=>intro cs;simp only[List.foldl_cons];rw[ih];simp
def Bv (w:World)(ok:Nat->Prop)(a3:jH)(bd:jx)(c:List ay)(cs:Array Value):Prop :=
 cs.size=c.length/\(∀(j:Nat) u,cs[j]? = some u->ky u=true)/\ ∀(j:Nat) x u,c[j]? = some x->cs[j]? = some u->Rel w ok a3 bd x u
theorem aaY {ok:Nat->Prop}{a3:jH}{bd:jx}{c:List ay}{cs:Array Value}(h:Bv w ok a3 bd c cs){x:ay}{v:Value}{off:Nat}(U:Rel w ok a3 bd x v)(a8:x.Am=true)
 (iS:off+x.cells.length<=c.length):v.cells.size=x.cells.length /\
   Bv w ok a3 bd (setCells c off x.cells) (v.cells.zipIdx.foldl (fun cs (y:Value×Nat)=>cs.setIfInBounds (off+y.2) y.1) cs):=by
 obtain⟨vs,bb,aO,kn,ai⟩:=U.cellsOf (ay.Pw a8);have mI : ∀j,(v.cells.zipIdx.foldl (fun cs (y:Value×Nat)=>cs.setIfInBounds (off+y.2) y.1) cs)[j]? = if off<=j/\j<off+vs.length then vs[j-off]? else cs[j]? := by intro j;rw[bb];have:=Z4 off vs 0 cs j (by rw[h.1];omega);simp only[Nat.add_zero] at this;rw[<- this,<- Array.foldl_toList,Array.toList_zipIdx]
 refine⟨by rw[bb];simpa using aO,?_,?_,?_⟩
 ·rw[Ou iS,<- h.1,<- Array.foldl_toList,XV]
 ·intro j u hu
  rw[mI] at hu;split at hu
  ·exact kn _ _ hu
  exact h.2.1 _ _ hu
 intro j y u aR hu;rw[mI] at hu;rw[IM iS] at aR;by_cases mG:off<=j/\j<off+x.cells.length
 ·rw[dw mG] at aR;rw[dw (by rw[aO];exact mG)] at hu;exact ai _ _ _ aR hu
 rw[dA mG] at aR;rw[dA (by rw[aO];exact mG)] at hu;exact h.2.2 _ _ _ aR hu
theorem I0 {ok:Nat->Prop}{a3:jH}{bd:jx}(place:Nat->Option (Nat×Nat)): ∀(l:List (Nat×Nat×ay)) (jS:List (Nat×Value)) (c:List ay) (cs:Array Value) (d6:List ay),
 Bv w ok a3 bd c cs->l.length=jS.length ->
 (∀(j:Nat) off size x i v,l[j]? = some (off,size,x)->jS[j]? = some (i,v)->place i=some (off,size)/\Rel w ok a3 bd x v) ->
 s3 c l=some d6-> ∃lY,Instr.fill place cs jS=some lY/\Bv w ok a3 bd d6 lY:=by
 intro l
 induction l with
 | nil =>
  intro jS c cs d6 h aO _ b5;have:jS=[]:=dL.1 (by simpa using aO.symm);subst this;simp[s3] at b5;subst b5;exact⟨cs,rfl,h⟩
 | cons q l ih =>
  intro jS c cs d6 h aO ae b5;obtain⟨off,size,x⟩:=q
  match jS,aO with
  | (i,v)::jS,aO =>
   obtain⟨ad3,U⟩:=ae 0 off size x i v rfl rfl;simp only[s3] at b5;split at b5
   ·rename_i a8;simp only[ahU,decide_eq_true_eq] at a8;obtain⟨⟨h1,o⟩,aa⟩:=a8;obtain⟨e1,aD⟩:=aaY h U h1 (off:=off) (by omega);obtain⟨lY,f1,f2⟩:=ih jS _ _ d6 aD (by simpa using aO) (fun j off size x i v a b=>ae (j+1) off size x i v a b) b5;refine⟨lY,?_,f2⟩;rw[Instr.fill];simp only[ad3];have h4 : ¬(decide (v.cells.size≠size) || decide (off+v.cells.size>cs.size))=true:=(by simp;rw[e1,h.1];omega);rw[dA h4];exact f1
   simp at b5
theorem mapM_some {α β:Type}(f:α->β)(p:α->Option β): ∀(l:List α),(∀x∈l,p x=some (f x))->l.mapM p=some (l.map f)
 | [],_=>rfl
 | x::l,h=>by rw[List.mapM_cons,h x (by simp),mapM_some f p l fun y aR=>h y (by simp[aR])];rfl
theorem Rf {α β:Type}(p:α->Option β): ∀(l:List α) (fC:List β),l.mapM p=some fC->fC.length=l.length/\ ∀(j:Nat) x y,l[j]? = some x->fC[j]? = some y->p x=some y
 | [],fC,h=>by simp at h;subst h;exact⟨rfl,fun j x y U=>by simp at U⟩
 | a::l,fC,h=>by
  rw[List.mapM_cons] at h
  cases bC:p a with
  | none=>simp[bC] at h
  | some b =>
   cases aO:l.mapM p with
   | none=>simp[bC,aO] at h
   | some r =>
    simp[bC,aO] at h;subst h;obtain⟨h1,o⟩:=Rf p l r aO;refine⟨by simp[h1],fun j x y U aR=> ?_⟩
    cases j with
    | zero=>simp at U aR;subst U;subst aR;exact bC
    | succ j=>simp at U aR;exact o j x y U aR
theorem JE {t:TypeId}{z:List ay}(cj:qv P t=some z): ∃i eA,P.info? t=some i/\i.zero=some eA/\eA.cells.size=z.length/\Bv w (s.ok g ax w) s.a3 (s.bd ax) z eA.cells:=by
 obtain⟨i,eA,ab,kC,pT,kn⟩:=Ab cj;have bX:eA.cells.size=z.length:=by rw[pT];simp
 refine⟨i,eA,ab,kC,bX,bX,fun j u hu=> ?_,fun j x u U hu=> ?_⟩
 ·have au:j<z.length:=by
   have:=(ah3.1 hu).1;omega
  obtain⟨v,e1,aD,-⟩:=kn j z[j] (dx au);rw[hu] at e1;simp at e1;subst e1;exact aD
 obtain⟨v,e1,-,bH⟩:=kn j x U;rw[hu] at e1;simp at e1;subst e1;exact bH _ _ _ _
theorem YX {t:TypeId}{parts:Array (Nat×Operand)}(h:cB g s ax a w)(ah:I.op = .build t parts)(ap:Jm P t (parts.toList.map fun p=>(p.1,eD s.E p.2))=some bq):Fin P g s a w I bq:=by
 unfold Jm at ap;split at ap;rotate_left
 ·simp at ap
 rename_i n e z hN cj;obtain⟨hu,ab,-,-⟩:=JD hN;rw[List.map_map] at ap
 cases b5:s3 z (parts.toList.map ((fun p:Nat×ay=>(p.1*P.cellsOf e,P.cellsOf e,p.2))∘fun p=>(p.1,eD s.E p.2))) with
 | none=>rw[b5] at ap;simp at ap
 | some c =>
  rw[b5] at ap;simp only[dR,dz] at ap;subst ap;obtain⟨it,eA,xI,kC,e3,hcs⟩:=JE (w:=w) (s:=s) (g:=g) (ax:=ax) cj;obtain⟨LJ,A4⟩:=Option.isSome_iff_exists.1 ab;have ac0:P.cellsOf e=LJ.size:=(by simp[Program.cellsOf,A4]);obtain⟨lY,f1,f2⟩:=I0 (w:=w) (ok:=s.ok g ax w) (a3:=s.a3) (bd:=s.bd ax) (fun i=>some (i*LJ.size,LJ.size)) _ (parts.map fun (i,x)=>(i,a.eval x)).toList z eA.cells c hcs (by simp) (by intro j off size x i v au bb;simp only[dK,dO,Function.comp,dD] at au;simp only[Array.toList_map,dK,dO] at bb;obtain⟨p,ae,e1,aD,bH⟩:=au;obtain⟨⟨eG,cN⟩,lE,bb⟩:=bb;simp only[dD] at bb;obtain⟨rfl,rfl⟩:=bb;rw[ae] at lE;have:=dJ lE;subst this;refine⟨by rw[<- e1,<- aD,ac0],?_⟩;rw[<- bH];exact h.eval _) b5;have aL:P.built t (parts.map fun (i,x)=>(i,a.eval x)).toList=some lY:=(by unfold Program.built;simp only[xI,hu,kC,A4];exact f1);refine iw (v:= .agg lY) h ?_ rfl ?_
  ·have:=run_build w t _ lY aL;simp[execOp,ah,this]
  have:=Rel.agg (w:=w) (ok:=s.ok g ax w) (a3:=s.a3) (bd:=s.bd ax) (c:=c) lY.toList (by simpa using f2.1) (fun j u hu=>f2.2.1 j u (by simpa using hu)) (fun j x u U hu=>f2.2.2 j x u U (by simpa using hu));simpa using this
theorem aaZ {t:TypeId}{parts:Array (Nat×Operand)}(h:cB g s ax a w)(ah:I.op = .build t parts)(ap:eU P s.E s.aM aT I cE=some bq):Fin P g s a w I bq:=by
 simp only[eU,ah] at ap;split at ap;rotate_left
 ·exact YX h ah ap
 rename_i lf z D3 cj;split at ap
 ·simp at ap
 rename_i oH;have oH : ∀f∈lf.toList,(P.info? f.type).isSome=true:=by rw[Bool.not_eq_false] at oH;exact List.all_eq_true.1 oH
 split at ap;rotate_left
 ·simp at ap
 rename_i l aO
 cases b5:s3 z l with
 | none=>simp[b5] at ap
 | some c =>
  simp[b5] at ap;subst ap;obtain⟨it,eA,xI,kC,e3,hcs⟩:=JE (w:=w) (s:=s) (g:=g) (ax:=ax) cj;obtain⟨oq,rP⟩:=Rf _ _ _ aO
  have ads:lf.toList.mapM (fun f=>(P.info? f.type).map fun i=>(f.offset,i.size))=some (lf.toList.map fun f=>(f.offset,P.cellsOf f.type)):=by
   refine mapM_some (fun f:Field=>(f.offset,P.cellsOf f.type)) _ _ fun f b5=> ?_;have:=oH f b5
   cases ab:P.info? f.type with
   | none=>simp[ab] at this
   | some i=>simp[Program.cellsOf,ab]
  obtain⟨lY,f1,f2⟩:=I0 (w:=w) (ok:=s.ok g ax w) (a3:=s.a3) (bd:=s.bd ax) ((lf.toList.map fun f=>(f.offset,P.cellsOf f.type)).toArray[·]?) l (parts.map fun (i,x)=>(i,a.eval x)).toList z eA.cells c hcs (by simpa using oq) (by intro j off size x i v au bb;simp only[Array.toList_map,dK,dO] at bb;obtain⟨⟨eG,cN⟩,ae,bb⟩:=bb;simp only[dD] at bb;obtain⟨rfl,rfl⟩:=bb;have:=rP j _ _ ae au;simp only[dO,dD] at this;obtain⟨fd,h1,o,aa,ao⟩:=this;subst o;subst aa;subst ao;refine⟨?_,h.eval cN⟩;rw[List.getElem?_toArray,dK,Array.getElem?_toList,h1];rfl) b5;have aL:P.built t (parts.map fun (i,x)=>(i,a.eval x)).toList=some lY:=(by unfold Program.built;simp only[xI,IP D3,kC,ads];exact f1);refine iw (v:= .agg lY) h ?_ rfl ?_
  ·have:=run_build w t _ lY aL;simp[execOp,ah,this]
  have:=Rel.agg (w:=w) (ok:=s.ok g ax w) (a3:=s.a3) (bd:=s.bd ax) (c:=c) lY.toList (by simpa using f2.1) (fun j u hu=>f2.2.1 j u (by simpa using hu)) (fun j x u U hu=>f2.2.2 j x u U (by simpa using hu));simpa using this
theorem W3 {sz:Nat}{es:List (List ay)}(aO:∀e∈es,e.length=sz){i:Nat}(ab:i<es.length){c:List ay}(a8:c.length=sz):
 setCells es.flatten (i*sz) c=(es.set i c).flatten:=by
 have hlen : ∀(es:List (List ay)),(∀e∈es,e.length=sz)->es.flatten.length=es.length*sz:=by
  intro es
  induction es with
  | nil=>simp
  | cons e es ih =>
   intro h;rw[ahW,dE,ih fun x U=>h x (by simp[U]),h e (by simp),dI,Nat.add_mul];omega
 have iS:i*sz+c.length<=es.flatten.length:=by rw[hlen es aO,a8];have:=ahY sz (show i+1<=es.length by omega);rw[Nat.add_mul] at this;omega
 apply ah7;intro j;rw[IM iS,Px aO (dx ab) a8,a8]
theorem PM {sz:Nat}: ∀(l:List (Nat×ay)) (es gE:List (List ay)),(∀e∈es,e.length=sz)->AO sz es l=some gE ->
 s3 es.flatten (l.map fun p=>(p.1*sz,sz,p.2))=some gE.flatten/\(∀e∈gE,e.length=sz)/\gE.length=es.length
 | [],es,gE,aO,h=>by simp[AO] at h;subst h;exact⟨rfl,aO,rfl⟩
 | (i,x)::l,es,gE,aO,h=>by
  simp only[AO] at h;split at h;rotate_left
  ·simp at h
  rename_i a8;simp only[ahU,decide_eq_true_eq] at a8;obtain⟨⟨h1,o⟩,aa⟩:=a8
  have KK : ∀e∈es.set i x.cells,e.length=sz:=by
   intro e hm;rcases List.mem_or_eq_of_mem_set hm with cF|cF
   ·exact aO e cF
   exact cF▸o
  obtain⟨gU,h7,c0⟩:=PM l (es.set i x.cells) gE KK h;have e:=W3 aO aa o
  have iS:i*sz+sz<=es.flatten.length:=by
   have:(setCells es.flatten (i*sz) x.cells).length=(es.set i x.cells).flatten.length:=by rw[e]
   have a1 : ∀(es:List (List ay)),(∀e∈es,e.length=sz)->es.flatten.length=es.length*sz:=by
    intro es
    induction es with
    | nil=>simp
    | cons e es ih =>
     intro h;rw[ahW,dE,ih fun x U=>h x (by simp[U]),h e (by simp),dI,Nat.add_mul];omega
   rw[a1 es aO];have:=ahY sz (show i+1<=es.length by omega);rw[Nat.add_mul] at this;omega
  refine⟨?_,h7,by simpa using c0⟩;simp only[List.map_cons,s3,h1,o,iS,decide_true,Bool.and_self,if_true];rw[e];exact gU
theorem Ye {t:TypeId}{len:Nat}{parts:Array (Nat×Operand)}(h:cB g s ax a w)(e4:s.aM aT=none)(ah:I.op = .buildSlice t len parts)(ap:eU P s.E s.aM aT I cE=some bq):Fin P g s a w I bq:=by
 simp only[eU,ah] at ap;split at ap;rotate_left
 ·simp at ap
 rename_i e he;split at ap;rotate_left
 ·simp at ap
 rename_i z cj;split at ap
 ·simp at ap
 rename_i a8;simp only[not_or,Nat.not_lt,Decidable.not_not] at a8;obtain⟨nK,A5,A6⟩:=a8;split at ap;rotate_left
 ·simp at ap
 rename_i es h5;simp only[dz] at ap;subst ap;obtain⟨it,eA,xI,kC,e3,hcs⟩:=JE (w:=w) (s:=s) (g:=g) (ax:=ax) cj;have kn:P.cellsOf e=it.size:=by simp[Program.cellsOf,xI]
 have SD : ∀x∈List.replicate len z,x.length=z.length:=fun x U=>by rw[List.eq_of_mem_replicate U]
 obtain⟨f1,f2,f3⟩:=PM _ _ _ SD h5
 have sj:Bv w (s.ok g ax w) s.a3 (s.bd ax) (List.replicate len z).flatten ((Array.range (len*it.size)).map (eA.cells[· % eA.cells.size]!)):=by
  have GL:0<z.length:=(by omega);have mI : ∀j,j<len*it.size->((Array.range (len*it.size)).map (eA.cells[· % eA.cells.size]!))[j]? = eA.cells[j % z.length]? := (by intro j au;rw[Array.getElem?_map,Array.getElem?_range];simp only[au,if_true,dR];have hm:j % eA.cells.size<eA.cells.size:=Nat.mod_lt _ (by omega);rw[getElem!_pos eA.cells _ hm,<- e3,dS hm]);have dZ : ∀(j:Nat) u,((Array.range (len*it.size)).map (eA.cells[· % eA.cells.size]!))[j]? = some u->j<len*it.size:=(by intro j u hu;have:=(ah3.1 hu).1;simpa using this);refine⟨by simp[<- kn,<- A5],fun j u hu=> ?_,fun j x u U hu=> ?_⟩
  ·have au:=dZ j u hu;rw[mI j au] at hu;exact hcs.2.1 _ _ hu
  have au:=dZ j u hu;rw[mI j au] at hu;rw[p2 GL _ SD,List.getElem?_replicate] at U;split at U
  ·exact hcs.2.2 _ _ _ U hu
  simp at U
 obtain⟨lY,g1,g2⟩:=I0 (w:=w) (ok:=s.ok g ax w) (a3:=s.a3) (bd:=s.bd ax) (fun i=>some (i*it.size,it.size)) ((parts.toList.map fun p=>(p.1,eD s.E p.2)).map fun p=>(p.1*z.length,z.length,p.2)) (parts.map fun (i,x)=>(i,a.eval x)).toList _ _ es.flatten sj (by simp) (by intro j off size x i v au bb;simp only[Array.toList_map,dK,dO,List.map_map] at bb au;obtain⟨⟨eG,cN⟩,ae,bb⟩:=bb;obtain⟨⟨qo,ej⟩,D0,au⟩:=au;rw[ae] at D0;simp only[dz,dD] at D0 bb;obtain⟨rfl,rfl⟩:=D0;obtain⟨rfl,rfl⟩:=bb;simp only[Function.comp,dD] at au;obtain⟨rfl,rfl,rfl⟩:=au;exact⟨by rw[<- kn,<- A5],h.eval cN⟩) f1
 have ju:(Instr.buildSlice t len (parts.map fun (i,x)=>(i,a.eval x))).run P w = .ok (.slice (some ⟨w.heap.size,0,none⟩) len len) (w.alloc (.cells lY e)):=by
  have h1 : ¬len*it.size>2 ^ 24:=(by rw[<- kn,<- A5];omega);by_cases h0:len*it.size=0;rotate_left
  ·simp only[Instr.buildSlice,run_underlying (rW he),sizeOf,typeInfo,xI,newRow,zeroValue,kC,Sem.run_bind,Result.andThen_ok,run_program,Sem.run_pure,Sem.run_ite,h1,h0,if_false];rw[g1];rfl
  have oh:len=0:=by
   rcases Nat.eq_zero_or_pos len with cF|cF
   ·exact cF
   have:0<len*it.size:=Nat.mul_pos cF (by omega);omega
  subst oh;have e0:((Array.range (0*it.size)).map (eA.cells[· % eA.cells.size]!)) = #[]:=(by simp);rw[e0] at g1
  have ae:parts = #[]:=by
   obtain⟨l⟩:=parts
   match l,h5 with
   | [],_=>rfl
   | p::l,h5=>simp[AO] at h5
  subst ae;have adt:lY = #[]:=(by simpa [Instr.fill] using g1.symm);subst adt;simp[Instr.buildSlice,run_underlying (rW he),sizeOf,typeInfo,xI,newRow,Instr.fill];rw[Array.range_zero',Array.map_empty]
 refine FY (v:= .slice (some ⟨w.heap.size,0,none⟩) len len) (af:=⟨z.length,es,.live⟩) (c:=lY) (eB:=e) h e4 rfl ?_ rfl f2 ?_ ?_
 ·simp[execOp,ah,ju]
 ·intro j x U
  have au:j<lY.size:=by
   rw[g2.1];rcases Nat.lt_or_ge j es.flatten.length with cF|cF
   ·exact cF
   rw[dP cF] at U;simp at U
  have hu:lY[j]? = some lY[j]:=dS au;exact⟨_,hu,g2.2.1 _ _ hu,g2.2.2 _ _ _ U hu⟩
 intro bJ ln nI m5 hu cb;refine Rel.bu hu cb (dG _) ?_ ⟨?_,.inr (by simp)⟩
 ·have:len<=len*z.length:=Nat.le_mul_of_pos_right _ (by omega);omega
 rw[g2.1]
 have a1 : ∀(es:List (List ay)),(∀e∈es,e.length=z.length)->es.flatten.length=es.length*z.length:=by
  intro es
  induction es with
  | nil=>simp
  | cons e es ih =>
   intro h;rw[ahW,dE,ih fun x U=>h x (by simp[U]),h e (by simp),dI,Nat.add_mul];omega
 rw[a1 es f2,f3];simp
theorem FD (h:cB g s ax a w)(e4:s.aM aT=none)(ap:eU P s.E s.aM aT I cE=some bq)(cd:∀p∈bq.fu,p):Fin P g s a w I bq:=by
 cases ah:I.op with
 | move x=>exact Re h (.inl ah) ap
 | assign x=>exact Re h (.inr ah) ap
 | pick c x y=>exact abQ h ah ap cd
 | alloc t=>exact aaQ h e4 ah ap
 | box t x=>exact acq h e4 ah ap
 | load t x=>exact abR h ah ap cd
 | store t x y=>exact aaR h ah ap cd
 | nilCheck x=>exact YV h ah ap cd
 | binOp op t x y c2=>exact aaS h ah ap cd
 | unOp op t x=>exact abS h ah ap
 | convert t c2 x=>exact Zm h ah ap
 | makeFunc f EN cf=>exact YW h ah ap
 | makeSlice t x y=>exact Yx h e4 ah ap cd
 | fieldAddr t x f=>exact Yy h ah ap cd
 | field t x f=>exact aaW h ah ap
 | indexAddr t x y=>exact Yz h ah ap cd
 | index t x y=>exact aaX h ah ap cd
 | extract x i=>exact Zn h ah ap
 | slice t x bE ab uJ =>
  cases uJ with
  | none=>exact aaV h ah ap cd
  | some m =>
   cases ab with
   | none=>simp[eU,ah] at ap
   | some ab=>exact Z2 h ah ap cd
 | build t jS=>exact aaZ h ah ap
 | buildSlice t n jS=>exact Ye h e4 ah ap
 | call c =>
  obtain⟨GM,args,m7⟩:=c
  cases GM with
  | builtin b=>cases b<;>first|exact acr h ah rfl ap cd|simp[eU,ah] at ap
  | value f=>simp[eU,ah] at ap
  | invoke r m=>simp[eU,ah] at ap
 | _=>simp[eU,ah] at ap
end
def acs:Option aU->fc
 | some I=> .gJ I []
 | none=> .none
def r9 (sz:Nat)(aM:Nat->Option (List aU))(a:fc):ay->Option (List (List ay)×List Prop)
 | .isl GO es=>if GO=sz then some (es,[]) else none
 | .bu r k bE len=>match oG (aM r) k a with
  | some (af,bY)=>if af.sz=sz then some ((af.es.drop bE).take len,bY++[bE+len<=af.es.length]) else none
  | none=>none
 | .fs=>some ([],[])
 | .iV=>some ([],[])
 | _=>none
def xh (P:Program)(sz:Nat)(z:List ay)(aM:Nat->Option (List aU))(a:fc)(t c2:TypeId)(y:ay):Option (List (List ay)×List Prop) :=
 if t=c2 then r9 sz aM a y else
 match P.underlying c2,y with
 | some (.int _),.n .i64 n=>some (List.replicate n.toNat z,[0<=n,n<9223372036854775808])
 | _,_=>none
def uj (uK:Bool)(P:Program)(aM:Nat->Option (List aU))(x y:ay)(t c2:TypeId):Option hk :=
 match p9 P t with
 | none=>none
 | some e=>match P.info? e,qv P e with
  | some i,some z =>
   if z.length≠i.size\/i.size=0\/i.bytes=0 then none else
   match xh P i.size z aM .none t c2 y with
   | none=>none
   | some (bz,bY)=>match x with
    | .bu r k 0 len=>match aM r with
     | none=>none
     | some row=>match df (some row) k with
      | none=>none
      | some af=>if af.cl = .live/\af.sz=i.size then
       some {val:= .bu r k 0 (len+bz.length),fU:=[(r,row.set k {af with es:=bif uK then af.es.take len++bz++af.es.drop (len+bz.length) else af.es.take len++bz})],fu:=bY++[len+bz.length<=af.es.length,bz.length*i.bytes<=140737488355328]} else none
    | _=>none
  | _,_=>none
def xq (P:Program)(aM:Nat->Option (List aU))(r k bE len:Nat)(t:TypeId):Option hk :=
 match p9 P t with
 | none=>none
 | some e=>match P.info? e,qv P e with
  | some i,some z=>match aM r with
   | none=>none
   | some row=>match df (some row) k with
    | none=>none
    | some af=>if af.cl = .live/\af.sz=i.size/\z.length=i.size/\i.size≠0 then
     some {val:= .d9 [],fU:=[(r,row.set k {af with es:=af.es.take bE++List.replicate len z++af.es.drop (bE+len)})],fu:=[bE+len<=af.es.length]} else none
  | _,_=>none
def xC (P:Program)(aM:Nat->Option (List aU))(r k len:Nat)(t:TypeId):Option hk :=
 match p9 P t with
 | none=>none
 | some e=>match P.info? e,qv P e with
  | some i,some z=>match aM r with
   | none=>none
   | some row=>match df (some row) k with
    | none=>none
    | some af=>if af.cl = .live/\af.sz=i.size/\z.length=i.size/\i.size≠0 then
     some {val:= .d9 [],fU:=[(r,row.set k {af with es:=List.replicate len z})],fu:=[af.es.length=len]} else none
  | _,_=>none
def sk (P:Program)(E:Nat->ay)(aM:Nat->Option (List aU))(aT:Nat)(b:Builtin)(args:List ay)(m7:List TypeId)(cE:fc):Option hk :=
 match b,args,m7,cE with
 | .append,[x,y],[t,c2],.aH m I =>
  match p9 P t with
  | none=>none
  | some e=>match P.info? e,qv P e with
   | some i,some z =>
    if z.length≠i.size\/i.size=0\/i.bytes=0 then none else
    match xh P i.size z aM (acs I) t c2 y with
    | none=>none
    | some (bz,bY)=>match x with
     | .fs=>some {val:= .bu aT 0 0 m,fU:=[(aT,[⟨i.size,bz,.live⟩])],fu:=bY++[m=bz.length,m*i.bytes<=140737488355328]}
     | .bu r k 0 len=>match aM r with
      | none=>none
      | some row=>match df (some row) k with
       | none=>none
       | some af=>if af.cl = .live/\af.sz=i.size/\aT≠r then
        some {val:= .bu aT 0 0 m,fU:=[(aT,[⟨i.size,af.es.take len++bz,.live⟩]),(r,row.set k {af with cl:= .gone})],fu:=bY++[len<=af.es.length,m=len+bz.length,m*i.bytes<=140737488355328]} else none
     | _=>none
   | _,_=>none
 | .append,[x,y],[t,c2],.gp=>uj false P aM x y t c2
 | .append,[x,y],[t,c2],.EL=>uj true P aM x y t c2
 | .copy,[.bu r k 0 len,y],[t,_],_ =>
  match p9 P t with
  | none=>none
  | some e=>match P.info? e with
   | none=>none
   | some i=>match r9 i.size aM .none y with
    | none=>none
    | some (bz,bY)=>match aM r with
     | none=>none
     | some row=>match df (some row) k with
      | none=>none
      | some af=>if af.cl = .live/\af.sz=i.size/\i.size≠0 then
       some {val:= .n .i64 bz.length,fU:=[(r,row.set k {af with es:=bz++af.es.drop bz.length})],fu:=bY++[bz.length<=len,len<=af.es.length]} else none
 | .clear,[.bu r k bE len],[t],.EL=>xq P aM r k bE len t
 | .clear,[.bu r k 0 len],[t],_=>xC P aM r k len t
 | .min,[.n k x,.n dc y],_,_=>if k=dc then some {val:= .n k (if y<x then y else x)} else none
 | _,_,_,_=>none
section
variable {g:G} {s:S} {ax:fz} {a:Act} {w bJ:World}
theorem cB.gone (h:cB g s ax a w){r k:Nat}{l:List aU}{I:aU}(ai:s.aM r=some l)(ah:s.af r k=some I):
 cB g (s.setRow r (l.set k {I with cl:= .gone})) ax a w /\
  ∀x v,Rel w (s.ok g ax w) s.a3 (s.bd ax) x v->Rel w ((s.setRow r (l.set k {I with cl:= .gone})).ok g ax w) (s.setRow r (l.set k {I with cl:= .gone})).a3 ((s.setRow r (l.set k {I with cl:= .gone})).bd ax) x v:=by
 have bm : ∀q j p,(s.setRow r (l.set k {I with cl:= .gone})).af q j=some p->s.af q j=some p/\ ¬(q=r/\j=k):=by
  intro q j p ae;rw[l9] at ae;by_cases e:q=r
  ·subst e
   rw[dw rfl] at ae;unfold df at ae;simp only[ah1] at ae;by_cases aD:k=j
   ·subst aD
    by_cases aZ:k<l.length
    ·simp[aZ] at ae
    simp[aZ] at ae
   rw[dA aD] at ae;refine⟨?_,fun gf=>aD gf.2.symm⟩;unfold S.af;rw[ai];exact ae
  rw[dA e] at ae;exact⟨ae,fun gf=>e gf.1⟩
 have c3:Step g s ax w (s.setRow r (l.set k {I with cl:= .gone})) ax w:=by
  refine⟨Fq s ai (by simp),fun q j a1=> ?_,fun b aO=> ?_,fun _ _ _=>rfl,dG _⟩
  ·cases ae:(s.setRow r (l.set k {I with cl:= .gone})).af q j with
   | none=>right;simp[S.bd,ae]
   | some p=>left;simp[S.bd,ae,(bm q j p ae).1]
  obtain⟨q,j,p,m,h1,o,aa⟩:=aO;exact .inl ⟨q,j,p,m,(bm q j p h1).1,o,aa⟩
 refine⟨{toiK:=⟨?_,?_,?_,h.gW,h.mlt,h.oe,c3.stay h.stay,h.low⟩,env:=fun t=>c3.rel (h.env t),defers:=h.defers,j9:=h.j9},fun x v=>c3.rel⟩
 ·intro q j p ae;exact c3.obj (fun b m _=>rfl) (h.obj q j p (bm q j p ae).1)
 ·intro q j p il iC kI b m bi h1 o aa ao;exact h.inj q j p il iC kI b m bi (bm q j p h1).1 (bm il iC kI o).1 aa ao
 intro q j p b m h1 o;exact h.own q j p b m (bm q j p h1).1 o
theorem cB.Rg (h:cB g s ax a w){aT sz:Nat}(e4:s.aM aT=none):
 ∃bL,bL aT 0=none/\cB g (s.setRow aT [⟨sz,[],.live⟩]) bL a w:=by
 have bm : ∀q k,q≠aT->(s.setRow aT [⟨sz,[],.live⟩]).af q k=s.af q k:=fun q k a1=>by rw[l9,dA a1]
 let bL:fz:=fun q k=>if q=aT then none else ax q k
 have cU : ∀q k,s.a3 q k->q≠aT:=by rintro q k a1 rfl;exact zW e4 k a1
 have Kn : ∀k I,(s.setRow aT [⟨sz,[],.live⟩]).af aT k=some I->I=⟨sz,[],.live⟩:=by
  intro k I ah;rw[l9,dw rfl,mR] at ah;split at ah
  ·simp at ah;exact ah.symm
  simp at ah
 have c3:Step g s ax w (s.setRow aT [⟨sz,[],.live⟩]) bL w:=by
  refine⟨fun q k a1=>(n2 _ _ _ _ _).2 (by rw[dA (cU q k a1)];exact a1),fun q k a1=> .inl ?_,fun b aO=> ?_,fun _ _ _=>rfl,dG _⟩
  ·simp[S.bd,bm q k (cU q k a1),bL,cU q k a1]
  obtain⟨q,k,I,m,h1,o,aa⟩:=aO;by_cases e:q=aT
  ·subst e;simp[bL] at aa
  rw[bm q k e] at h1;simp only[bL,dA e] at aa;exact .inl ⟨q,k,I,m,h1,o,aa⟩
 refine⟨bL,by simp[bL],{toiK:=⟨?_,?_,?_,h.gW,h.mlt,h.oe,c3.stay h.stay,h.low⟩,env:=fun t=>c3.rel (h.env t),defers:=h.defers,j9:=h.j9}⟩
 ·intro q k I ah
  by_cases e:q=aT
  ·subst e;rw[Kn k I ah];simp[bL,jr]
  rw[bm q k e] at ah;have:=c3.obj (fun b m _=>rfl) (h.obj q k I ah);simpa [bL,e] using this
 ·intro q k I il dc b3 b m bi h1 o aa ao;have e:q≠aT:=(by rintro rfl;simp[bL] at aa);have ez:il≠aT:=(by rintro rfl;simp[bL] at ao);rw[bm q k e] at h1;rw[bm il dc ez] at o;simp only[bL,dA e] at aa;simp only[bL,dA ez] at ao;exact h.inj q k I il dc b3 b m bi h1 o aa ao
 intro q k I b m h1 o;have e:q≠aT:=by rintro rfl;simp[bL] at o
 rw[bm q k e] at h1;simp only[bL,dA e] at o;exact h.own q k I b m h1 o
theorem cB.turn (h:cB g s ax a w){r k b m aT:Nat}{l:List aU}{I:aU}(ai:s.aM r=some l)(ah:s.af r k=some I)(aZ:I.cl = .live)(ae:ax r k=some (b,m))
 (e4:s.aM aT=none) (b3:aU) (nL:b3.cl = .live) (c:Array Value) (eB:TypeId)
 (hw:bJ.heap[b]? = some (.cells c eB (0,0))) (e3:bJ.heap.size=w.heap.size) (xg : ∀q,q≠b->bJ.heap[q]? = w.heap[q]?)
 (rA:bJ.os=w.os) (KH:bJ.tape=w.tape) (Kk:bJ.output=w.output) (hm:c.size=m) (hlen : ∀e∈b3.es,e.length=b3.sz)
 (a8 : ∀(j:Nat) x,b3.es.flatten[j]? = some x-> ∃v,c[j]? = some v/\ky v=true/\Rel w (s.ok g ax w) s.a3 (s.bd ax) x v) :
 ∃bL,bL aT 0=some (b,m)/\cB g ((s.setRow aT [b3]).setRow r (l.set k {I with cl:= .gone})) bL a bJ:=by
 have cU:r≠aT:=by rintro rfl;rw[e4] at ai;simp at ai
 have SE : ∀k,¬s.a3 aT k:=zW e4
 let bS:=(s.setRow aT [b3]).setRow r (l.set k {I with cl:= .gone})
 let bL:fz:=ax.set aT 0 (some (b,m))
 have bm : ∀q j p,bS.af q j=some p->(q=aT/\j=0/\p=b3)\/(q≠aT/\s.af q j=some p/\ ¬(q=r/\j=k)):=by
  intro q j p a1;rw[l9] at a1;by_cases e:q=r
  ·subst e
   rw[dw rfl] at a1;unfold df at a1;simp only[ah1] at a1;by_cases aD:k=j
   ·subst aD;by_cases aZ:k<l.length<;>simp[aZ] at a1
   rw[dA aD] at a1;refine .inr ⟨cU,?_,fun gf=>aD gf.2.symm⟩;unfold S.af;rw[ai];exact a1
  rw[dA e,l9] at a1;by_cases aD:q=aT
  ·subst aD
   rw[dw rfl,mR] at a1;split at a1
   ·rename_i h0;simp at a1;exact .inl ⟨rfl,h0.1,a1.symm⟩
   simp at a1
  rw[dA aD] at a1;exact .inr ⟨aD,a1,fun gf=>e gf.1⟩
 have lH : ∀q j,q≠aT->bL q j=ax q j:=fun q j a1=>by simp[bL,fz.set,a1]
 have A7:bL aT 0=some (b,m):=by simp[bL,fz.set]
 have qD:s.mx ax b:=⟨r,k,I,m,ah,aZ,ae⟩
 have jP : ∀q j,s.a3 q j->bS.a3 q j:=fun q j a1=>by
  have e:q≠aT:=fun e=>SE j (e▸a1);rw[n2,n2,dA e];by_cases aD:q=r
  ·subst aD;rw[dw rfl];simpa [S.a3,ai] using a1
  rw[dA aD];exact a1
 have c3:Step g s ax w bS bL bJ:=by
  refine⟨jP,fun q j a1=> ?_,fun q aO=> ?_,fun q a1 aO=>xg q fun e=>aO (e▸qD),Nat.le_of_eq e3.symm⟩
  ·have og:q≠aT:=fun e=>SE j (e▸a1)
   cases kS:bS.af q j with
   | none=>right;simp[S.bd,kS]
   | some p =>
    left;rcases bm q j p kS with ⟨e,-⟩|⟨-,aD,-⟩
    ·exact absurd e og
    simp[S.bd,kS,aD,lH q j og]
  obtain⟨il,j,p,bi,h1,o,aa⟩:=aO;rcases bm il j p h1 with ⟨rfl,rfl,rfl⟩|⟨e1,aD,-⟩
  ·rw[A7] at aa;simp at aa;exact .inl (aa.1▸qD)
  rw[lH il j e1] at aa;exact .inl ⟨il,j,p,bi,aD,o,aa⟩
 refine⟨bL,A7,{toiK:=⟨?_,?_,?_,?_,h.mlt,h.oe,c3.stay h.stay,h.low⟩,env:=fun t=>c3.rel (h.env t),defers:=h.defers,j9:=h.j9}⟩
 ·intro q j p kS
  rcases bm q j p kS with ⟨rfl,rfl,rfl⟩|⟨e1,aD,bH⟩
  ·rw[A7];exact⟨c,eB,hw,hm,hlen,fun i x U=>let ⟨v,f1,f2,f3⟩:=a8 i x U;⟨v,f1,f2,c3.rel f3⟩⟩
  rw[lH q j e1];refine c3.obj (fun kk bi lD=>xg kk ?_) (h.obj q j p aD);rintro rfl;exact bH (h.inj q j p r k I kk bi m aD ah lD ae)
 ·intro q j p il iC kI kk iN hG h1 o aa ao
  rcases bm q j p h1 with ⟨rfl,rfl,rfl⟩|⟨e1,aD,bH⟩<;>rcases bm il iC kI o with ⟨rfl,rfl,rfl⟩|⟨nM,qj,D6⟩
  ·exact⟨rfl,rfl⟩
  ·rw[A7] at aa;simp at aa;rw[lH il iC nM] at ao;obtain⟨rfl,rfl⟩:=aa;exact absurd (h.inj il iC kI r k I b hG m qj ah ao ae) D6
  ·rw[A7] at ao;simp at ao;rw[lH q j e1] at aa;obtain⟨rfl,rfl⟩:=ao;exact absurd (h.inj q j p r k I b iN m aD ah aa ae) bH
  rw[lH q j e1] at aa;rw[lH il iC nM] at ao;exact h.inj q j p il iC kI kk iN hG aD qj aa ao
 ·intro q j p kk bi h1 o
  rcases bm q j p h1 with ⟨rfl,rfl,rfl⟩|⟨e1,aD,-⟩
  ·rw[A7] at o;simp at o;rw[<- o.1];exact h.own r k I b m ah ae
  rw[lH q j e1] at o;exact h.own q j p kk bi aD o
 refine h.gW.step rA KH Kk (Nat.le_of_eq e3.symm) fun kk qi lD=>xg kk ?_;rintro rfl;rcases h.own r k I kk m ah ae with h1|h1
 ·omega
 exact lD h1
theorem pi.oI {ok:Nat->Prop}{a3:jH}{bd:jx}{ek I sz:Nat}{es:List (List ay)}(h:pi w ok a3 bd ek I sz es):
 ∃vs:List Value,vs.length=es.length*sz/\(∀(j:Nat) u,vs[j]? = some u->w.cell? ((⟨ek,I,none⟩:Addr).add j)=some u)/\(∀u∈vs,u.oneCell'=true) /\
  ∀(j:Nat) x u,es.flatten[j]? = some x->vs[j]? = some u->Rel w ok a3 bd x u:=by
 have j0:es.flatten.length=es.length*sz:=by
  have : ∀(es:List (List ay)),(∀e∈es,e.length=sz)->es.flatten.length=es.length*sz:=by
   intro es
   induction es with
   | nil=>intro _;simp
   | cons e es ih =>
    intro gf;rw[ahW,dE,ih fun x U=>gf x (by simp[U]),gf e (by simp),dI,Nat.add_mul];omega
  exact this es h.1
 have U : ∀i,i<es.length*sz-> ∃v,∀x,es.flatten[i]? = some x->w.cell? ⟨ek,I+i,none⟩=some v/\ky v=true/\Rel w ok a3 bd x v:=by intro i ab;have au:=dx (l:=es.flatten) (i:=i) (by omega);obtain⟨v,h1⟩:=h.2 i _ au;exact⟨v,fun x U=>by rw[au] at U;simp at U;subst U;exact h1⟩
 let vs:List Value:=(List.range (es.length*sz)).map fun i=>if ab:i<es.length*sz then (U i ab).choose else undef
 have qL:vs.length=es.length*sz:=by simp[vs]
 have mI : ∀(i:Nat) u x,vs[i]? = some u->es.flatten[i]? = some x->w.cell? ⟨ek,I+i,none⟩=some u/\ky u=true/\Rel w ok a3 bd x u:=by
  intro i u x hu D7
  have ab:i<es.length*sz:=by
   rcases Nat.lt_or_ge i vs.length with cF|cF
   ·omega
   rw[dP cF] at hu;simp at hu
  simp only[vs,dK,List.getElem?_range ab,dR,dif_pos ab,dz] at hu;subst hu;exact(U i ab).choose_spec x D7
 have hex : ∀(i:Nat) u,vs[i]? = some u-> ∃x,es.flatten[i]? = some x:=by
  intro i u hu
  have ab:i<es.flatten.length:=by
   rcases Nat.lt_or_ge i vs.length with cF|cF
   ·omega
   rw[dP cF] at hu;simp at hu
  exact⟨_,dx ab⟩
 refine⟨vs,qL,fun j u hu=> ?_,fun u hu=> ?_,fun j x u dY hu=>(mI j u x hu dY).2.2⟩
 ·obtain⟨x,D7⟩:=hex j u hu;rw[rV];exact(mI j u x hu D7).1
 obtain⟨j,au⟩:=aia hu;obtain⟨x,D7⟩:=hex j u au;exact(mI j u x au D7).2.1
theorem XW {es bz:List (List ay)}{sz:Nat}{xs news:List Value}(U:xs.length=es.length*sz)(he:∀e∈es,e.length=sz){j:Nat}{x:ay}(h:(es++bz).flatten[j]? = some x)
 {ok:Nat->Prop} {a3:jH} {bd:jx} (h1 : ∀(j:Nat) x u,es.flatten[j]? = some x->xs[j]? = some u->Rel w ok a3 bd x u) (o : ∀(j:Nat) x u,bz.flatten[j]? = some x->news[j]? = some u->Rel w ok a3 bd x u)
 {u:Value} (hu:(xs++news)[j]? = some u):Rel w ok a3 bd x u:=by
 have j0:es.flatten.length=es.length*sz:=by
  have : ∀(es:List (List ay)),(∀e∈es,e.length=sz)->es.flatten.length=es.length*sz:=by
   intro es
   induction es with
   | nil=>intro _;simp
   | cons e es ih =>
    intro gf;rw[ahW,dE,ih fun x U=>gf x (by simp[U]),gf e (by simp),dI,Nat.add_mul];omega
  exact this es he
 rw[List.flatten_append,List.getElem?_append] at h;rw[List.getElem?_append] at hu;by_cases au:j<es.flatten.length
 ·rw[dw au] at h;rw[dw (by omega)] at hu;exact h1 j x u h hu
 rw[dA au] at h;rw[dA (by omega)] at hu;rw[j0] at h;rw[U] at hu;exact o _ x u h hu
variable {P:Program}
theorem QI (h:cB g s ax a w){sz:Nat}{x:ay}{fD:fc}{bz:List (List ay)}{af:List Prop}(he:r9 sz s.aM fD x=some (bz,af))(bm:∀p∈af,p){v:Value}(bb:Rel w (s.ok g ax w) s.a3 (s.bd ax) x v):
 ∃A c,v = .slice A bz.length c/\(∀e∈bz,e.length=sz)/\(bz.length=0\/ ∃ek off,A=some ⟨ek,off,none⟩/\pi w (s.ok g ax w) s.a3 (s.bd ax) ek off sz bz):=by
 cases x with
 | isl GO es =>
  simp only[r9] at he;split at he
  ·rename_i bX
   subst bX;simp only[dz,dD] at he;obtain⟨rfl,rfl⟩:=he;rcases bb.tS with ⟨rfl,A,c,rfl,-⟩|⟨ek,off,c,-,rfl,-,iX⟩
   ·exact⟨A,c,rfl,by simp,.inl rfl⟩
   exact⟨_,c,rfl,iX.1,.inr ⟨ek,off,rfl,iX⟩⟩
  simp at he
 | bu r k bE len =>
  simp only[r9] at he;split at he;rotate_left
  ·simp at he
  rename_i oi bY jh;split at he;rotate_left
  ·simp at he
  rename_i bX;simp only[dz,dD] at he;obtain⟨rfl,rfl⟩:=he;have iS:bE+len<=oi.es.length:=bm _ (by simp);have ah:s.af r k=some oi:=sW jh (fun p ae=>bm p (by simp[ae]));have e9:=h.obj r k oi ah;have aO:((oi.es.drop bE).take len).length=len:=(by simp;omega);rcases bb.CX (ir ah) with ⟨-,rfl,rfl,rfl⟩|⟨b,m,A,c,ae,rfl,qM,-,hm⟩
  ·exact⟨none,0,by simp,by simp,.inl (by simp)⟩
  rw[ae] at e9;have iX:=e9.rd;subst bX;have xD:=Fs iX bE len (by omega);refine⟨A,c,by rw[aO],xD.1,?_⟩;rcases hm with rfl|⟨rfl,-⟩
  ·left;rw[aO];omega
  right;rw[dF] at xD;exact⟨b,_,rfl,xD⟩
 | fs =>
  simp only[r9,dz,dD] at he;obtain⟨rfl,rfl⟩:=he;rw[bb.qx];exact⟨none,0,rfl,by simp,.inl rfl⟩
 | iV =>
  simp only[r9,dz,dD] at he;obtain⟨rfl,rfl⟩:=he;obtain⟨A,c,rfl⟩:=bb.FX;exact⟨some A,c,rfl,by simp,.inl rfl⟩
 | _=>simp[r9] at he
structure Ko (P:Program) (w:World) (t c2 eB e:TypeId) (i:TypeInfo) (eA ot:Value) (n:Nat) (vs:List Value):Prop where
 zero:n=0-> ∀(B:Option Addr) (len cap:Nat),len<=cap->(Builtin.append_ #[t,c2] eB #[.slice B len cap,ot]).run P w = .ok (.slice B len cap) w
 nil:0<n->(n:Int)<=9223372036854775807->n*i.bytes<=140737488355328 ->
  (Builtin.append_ #[t,c2] eB #[.slice none 0 0,ot]).run P w = .ok (.slice (some ⟨w.heap.size,0,none⟩) n (grownCap w n 0 e)) (w.drew.alloc (.cells (vs.toArray++Builtin.zeroCells eA.cells (grownCap w n 0 e-n)) e))
 room:0<n-> ∀(g ji mD:Nat) (ml:Array Value) (ez:TypeId),w.heap[g]? = some (.cells ml ez (0,0))->ji+n<=mD->ji*i.size+vs.length<=ml.size->n*i.bytes<=140737488355328 ->
  (Builtin.append_ #[t,c2] eB #[.slice (some ⟨g,0,none⟩) ji mD,ot]).run P w = .ok (.slice (some ⟨g,0,none⟩) (ji+n) mD) (w.setRow g (ml.toList.take (ji*i.size)++vs++ml.toList.drop (ji*i.size+vs.length)).toArray)
 grow:0<n-> ∀(b:Addr) (ji mD:Nat) (xE:List Value),xE.length=ji*i.size->(∀(j:Nat) v,xE[j]? = some v->w.cell? (b.add j)=some v)->mD<ji+n->((ji+n:Nat):Int)<=9223372036854775807->Builtin.nextslicecap (ji+n) mD*i.bytes<=281474976710656->n*i.bytes<=140737488355328 ->
  (Builtin.append_ #[t,c2] eB #[.slice (some b) ji mD,ot]).run P w = .ok (.slice (some ⟨w.heap.size,0,none⟩) (ji+n) (grownCap w (ji+n) mD e))
    (w.drew.alloc (.cells (xE.toArray++vs.toArray++Builtin.zeroCells eA.cells (grownCap w (ji+n) mD e-(ji+n))) e))
theorem W4 (t eB e:TypeId)(i:TypeInfo)(cb:P.underlying t=some (.slice e))(ab:P.info? e=some i)
 (g ji mD:Nat) (ml:Array Value) (ez:TypeId) (dj:w.heap[g]? = some (.cells ml ez (0,0)))
 (a:Addr) (m c:Nat) (news:List Value) (aO:news.length=m*i.size) (ac1 : ∀j u,news[j]? = some u->w.cell? (a.add j)=some u) (h1 : ∀u∈news,u.oneCell'=true)
 (t8:ji+m<=mD) (iS:ji*i.size+news.length<=ml.size) :
 (Builtin.append_ #[t,t] eB #[.slice (some ⟨g,0,none⟩) ji mD,.slice (some a) m c]).run P w =
   .ok (.slice (some ⟨g,0,none⟩) (ji+m) mD) (w.setRow g (ml.toList.take (ji*i.size)++news++ml.toList.drop (ji*i.size+news.length)).toArray):=by
 have b5:=run_firstCells_some (P:=P) w i.size m a m c news aO ac1;have lW:=run_storeCells_at P g (ji*i.size) ez news 0 ml w dj (by simpa using iS) h1;simp only[Nat.add_zero] at lW;simp[Builtin.append_,run_underlying cb,sizeOf,typeInfo,ab,Builtin.lenOf,t8,b5,Addr.add_lit,lW]
theorem PN {t eB e:TypeId}{i:TypeInfo}{eA:Value}(cb:P.underlying t=some (.slice e))(ab:P.info? e=some i)(cj:i.zero=some eA){A:Option Addr}{n c:Nat}{vs:List Value}(aO:vs.length=n*i.size)
 (hA:n=0\/ ∃a,A=some a/\ ∀(j:Nat) u,vs[j]? = some u->w.cell? (a.add j)=some u) (h1 : ∀u∈vs,u.oneCell'=true):Ko P w t t eB e i eA (.slice A n c) n vs where
 zero:=fun h0 B len cap DD=>by subst h0;cases A<;>cases B<;>simp[Builtin.append_,run_underlying cb,sizeOf,typeInfo,ab,Builtin.lenOf,DD,Builtin.firstCells,loadCells,loadCellsFrom,storeCells]
 nil:=fun h0 xJ A8=>by obtain⟨a,rfl,bC⟩:=hA.resolve_left (by omega);exact run_append_nil (P:=P) w t eB e i eA cb ab cj a n c vs aO bC h0 xJ (by omega)
 room:=fun aX g ji mD ml ez dj t8 iS _=>by obtain⟨a,rfl,bC⟩:=hA.resolve_left (by omega);exact W4 t eB e i cb ab g ji mD ml ez dj a n c vs aO bC h1 t8 iS
 grow:=fun aX b ji mD xE ah hold dj xJ iS _=>by obtain⟨a,rfl,bC⟩:=hA.resolve_left (by omega);exact run_append_grow (P:=P) w t eB e i eA cb ab cj b ji mD xE ah hold a n c vs aO bC dj xJ iS
theorem Zp {t c2 eB e:TypeId}{i:TypeInfo}{eA:Value}{k:IntKind}(cb:P.underlying t=some (.slice e))(oJ:P.underlying c2=some (.int k))(ab:P.info? e=some i)(cj:i.zero=some eA)(lF:eA.cells.size=i.size){m:Nat}(agQ:(m:Int)<9223372036854775808)
 (h1 : ∀u∈(Builtin.zeroCells eA.cells m).toList,u.oneCell'=true):Ko P w t c2 eB e i eA (.int .i64 m) m (Builtin.zeroCells eA.cells m).toList:=by
 have hw:IntKind.i64.wrap (m:Int)=m:=by simp[IntKind.wrap,IntKind.bits,IntKind.signed];omega
 have oc : ¬((m:Int)<0):=by omega
 have sj : ∀bi,bi*i.size=0->Builtin.zeroCells eA.cells bi = #[]:=fun bi hm=>by apply Array.eq_empty_of_size_eq_zero;rw[size_zeroCells,lF,hm]
 have GP : ∀bJ:World,(if m*i.size=0 then (pure #[]:Sem (Array Value)) else do pure (Builtin.zeroCells (<- zeroValue e).cells m)).run P bJ = .ok (Builtin.zeroCells eA.cells m) bJ:=fun bJ=>by
  split
  ·rename_i hm;rw[sj _ hm];rfl
  simp[zeroValue,typeInfo,ab,cj]
 have Kp : ∀b:Nat,m*b<=140737488355328-> ¬(281474976710656<(m:Int)*(b:Int)):=fun b aL=>by have:((m*b:Nat):Int)<=140737488355328:=(by omega);rw[Int.natCast_mul] at this;omega
 refine⟨fun aX B len cap DD=> ?_,fun aX xJ A8=> ?_,fun aX g ji mD ml ez dj t8 iS A8=> ?_,fun aX b ji mD xE ah hold dj xJ iS A8=> ?_⟩
 ·subst aX;have KM:IntKind.i64.wrap 0=0:=(by simpa using hw);cases B<;>simp[Builtin.append_,run_underlying cb,run_underlying oJ,sizeOf,typeInfo,ab,DD,asInt,asIntOf,KM,storeCells]
 ·have GQ : ¬m=0:=by omega
  have DE : ¬(9223372036854775807<(m:Int)):=(by omega);have vw:=Kp _ A8;have DF : ¬(281474976710656<Builtin.nextslicecap m 0*i.bytes):=(by rw[nextslicecap_zero aX];omega);have o:=GP w.drew;by_cases hm:m*i.size=0
  ·simp[Builtin.append_,run_underlying cb,run_underlying oJ,sizeOf,typeInfo,zeroValue,ab,cj,asInt,asIntOf,hw,oc,vw,GQ,DE,DF,Question.forced,run_firstCells_none,newRow,grownCap,hm,sj _ hm]
  simp[Builtin.append_,run_underlying cb,run_underlying oJ,sizeOf,typeInfo,zeroValue,ab,cj,asInt,asIntOf,hw,oc,vw,GQ,DE,DF,Question.forced,run_firstCells_none,newRow,grownCap,hm]
 ·have vw:=Kp _ A8
  have lW:=run_storeCells_at P g (ji*i.size) ez (Builtin.zeroCells eA.cells m).toList 0 ml w dj (by simpa using iS) h1;simp only[Nat.add_zero] at lW;by_cases hm:m*i.size=0
  ·rw[sj _ hm] at lW;have adu:(storeCells ⟨g,ji*i.size,none⟩ []).run P w = .ok () (w.setRow g ml):=(by simpa using lW);simp[Builtin.append_,run_underlying cb,run_underlying oJ,sizeOf,typeInfo,zeroValue,ab,cj,asInt,asIntOf,hw,oc,vw,t8,hm,sj _ hm,Addr.add_lit,adu]
  simp[Builtin.append_,run_underlying cb,run_underlying oJ,sizeOf,typeInfo,zeroValue,ab,cj,asInt,asIntOf,hw,oc,vw,t8,hm,Addr.add_lit,lW]
 have vw:=Kp _ A8;have rB : ¬(ji+m<=mD):=by omega
 have DE : ¬(9223372036854775807<((ji:Int)+(m:Int))):=by omega
 have DF : ¬(281474976710656<Builtin.nextslicecap (ji+m) mD*i.bytes):=by omega
 have S4:=run_firstCells_some (P:=P) w.drew i.size ji b ji mD xE ah (by simpa using hold);by_cases hm:m*i.size=0
 ·simp[Builtin.append_,run_underlying cb,run_underlying oJ,sizeOf,typeInfo,zeroValue,ab,cj,asInt,asIntOf,hw,oc,vw,rB,DE,DF,Question.forced,S4,newRow,grownCap,hm,sj _ hm]
 simp[Builtin.append_,run_underlying cb,run_underlying oJ,sizeOf,typeInfo,zeroValue,ab,cj,asInt,asIntOf,hw,oc,vw,rB,DE,DF,Question.forced,S4,newRow,grownCap,hm]
theorem Ix {aT:Nat}{e:TypeId}{v:Value}{i:TypeInfo}{m:Nat}(h:cB g s ax a w)(e4:s.aM aT=none){es:List (List ay)}(hlen:∀x∈es,x.length=i.size)(hm:m=es.length)
 {oI:List Value} {uL:Array Value} {cap:Nat} (qL:oI.length=es.length*i.size) (mB : ∀u∈oI,u.oneCell'=true) (ad4:uL.size=(cap-m)*i.size) (DD:m<=cap) (adv:cap<9223372036854775808)
 (e9 : ∀(j:Nat) x u,es.flatten[j]? = some x->oI[j]? = some u->Rel w (s.ok g ax w) s.a3 (s.bd ax) x u)
 (bb:v = .slice (some ⟨w.heap.size,0,none⟩) m cap) :
 ∃bL,cB g (s.setRow aT [⟨i.size,es,.live⟩]) bL a (w.drew.alloc (.cells (oI.toArray++uL) e)) /\
  Rel (w.drew.alloc (.cells (oI.toArray++uL) e)) ((s.setRow aT [⟨i.size,es,.live⟩]).ok g bL (w.drew.alloc (.cells (oI.toArray++uL) e))) (s.setRow aT [⟨i.size,es,.live⟩]).a3 ((s.setRow aT [⟨i.size,es,.live⟩]).bd bL) (.bu aT 0 0 m) v:=by
 have bF:=h.drew
 have j0:es.flatten.length=es.length*i.size:=by
  have : ∀(es:List (List ay)),(∀e∈es,e.length=i.size)->es.flatten.length=es.length*i.size:=by
   intro es
   induction es with
   | nil=>intro _;simp
   | cons e es ih =>
    intro gf;rw[ahW,dE,ih fun x U=>gf x (by simp[U]),gf e (by simp),dI,Nat.add_mul];omega
  exact this es hlen
 obtain⟨bL,p1,hX,-⟩:=bF.alloc e4 ⟨i.size,es,.live⟩ rfl (oI.toArray++uL) e hlen (fun j x U=>by
  have au:j<oI.length:=by
   rcases Nat.lt_or_ge j es.flatten.length with cF|cF
   ·omega
   rw[dP cF] at U;simp at U
  refine⟨oI[j],?_,mB _ (List.getElem_mem au),?_⟩
  ·rw[Array.getElem?_append_left (by simpa using au)];simp[au]
  exact(e9 j x _ U (dx au)).drew)
 refine⟨bL,hX,?_⟩;subst bb;have ah:(s.setRow aT [⟨i.size,es,.live⟩]).af aT 0=some ⟨i.size,es,.live⟩:=by rw[l9,dw rfl,mR];simp
 refine Rel.bu (sz:=i.size) (ek:=w.heap.size) (m:=(oI.toArray++uL).size) ((n2 _ _ _ _ _).2 (by simp)) ?_ DD adv ⟨?_,.inr (by simp)⟩
 ·rw[ir ah,p1];rfl
 simp only[Array.size_append,List.size_toArray,ad4,qL,dF];rw[<- hm,<- Nat.add_mul];congr 1;omega
section
variable {I:Oper} {cE:fc} {aT:Nat} {bq:hk}
theorem Qh (h:cB g s ax a w){t c2 eB e:TypeId}{i:TypeInfo}{z:List ay}(hu:P.underlying t=some (.slice e))(ab:P.info? e=some i)(cj:qv P e=some z)(mH:z.length=i.size)(jZ:i.size≠0)
 {y:ay} {fD:fc} {bz:List (List ay)} {af:List Prop} (he:xh P i.size z s.aM fD t c2 y=some (bz,af)) (bm : ∀p∈af,p) {ot:Value} (aR:Rel w (s.ok g ax w) s.a3 (s.bd ax) y ot) :
 ∃eA vs,i.zero=some eA/\eA.cells.size=i.size/\Ko P w t c2 eB e i eA ot bz.length vs/\(∀x∈bz,x.length=i.size)/\vs.length=bz.length*i.size/\(∀u∈vs,u.oneCell'=true) /\
  ∀(j:Nat) x u,bz.flatten[j]? = some x->vs[j]? = some u->Rel w (s.ok g ax w) s.a3 (s.bd ax) x u:=by
 obtain⟨eG,eA,jk,kC,pT,tc⟩:=Ab cj;rw[ab] at jk;simp at jk;subst jk;have lF:eA.cells.size=i.size:=by rw[<- mH,pT];simp
 unfold xh at he;split at he
 ·rename_i ad5
  subst ad5;obtain⟨A,c,rfl,hlen,KN⟩:=QI h he bm aR;rcases KN with h0|⟨ek,off,rfl,iX⟩
  ·have:bz=[]:=dL.1 h0;subst this;exact⟨eA,[],kC,lF,PN hu ab kC (by simp) (.inl rfl) (by simp),hlen,by simp,by simp,by simp⟩
  obtain⟨vs,v1,v2,v3,v4⟩:=iX.oI;exact⟨eA,vs,kC,lF,PN hu ab kC v1 (.inr ⟨_,rfl,v2⟩) v3,hlen,v1,v3,v4⟩
 split at he;rotate_left
 ·simp at he
 rename_i k n aZ;simp only[dz,dD] at he;obtain⟨rfl,rfl⟩:=he;have h0:0<=n:=bm _ (by simp);have xJ:n<9223372036854775808:=bm _ (by simp);obtain⟨m,rfl⟩:=Int.eq_ofNat_of_zero_le h0;have ad6:ot = .int .i64 m:=by cases aR;rfl
 subst ad6;have mI : ∀(j:Nat) u,(Builtin.zeroCells eA.cells m).toList[j]? = some u->eA.cells[j % i.size]? = some u:=by intro j u oK;have au:=(ahV.1 oK).1;rw[Array.length_toList,size_zeroCells,lF] at au;have dZ:j % i.size<eA.cells.size:=(by rw[lF];exact Nat.mod_lt _ (by omega));rw[Array.getElem?_toList,Builtin.zeroCells,Array.getElem?_map,lF,Array.getElem?_range] at oK;rw[dw au] at oK;simp only[dR,dz] at oK;rw[<- oK,dS dZ,getElem!_pos eA.cells _ dZ]
 refine⟨eA,(Builtin.zeroCells eA.cells m).toList,kC,lF,?_,?_,?_,?_,?_⟩
 ·simp only[List.length_replicate,dy];refine Zp hu aZ ab kC lF (by omega) fun u sl=> ?_;obtain⟨j,au⟩:=aia sl;have h1:=mI j u au;have dZ:j % i.size<z.length:=(by rw[mH];exact Nat.mod_lt _ (by omega));obtain⟨v,v1,v2,-⟩:=tc _ _ (dx dZ);rw[h1] at v1;obtain rfl:=dJ v1;exact v2
 ·intro x U;rw[List.mem_replicate] at U;rw[U.2,mH]
 ·rw[Array.length_toList,size_zeroCells,lF];simp
 ·intro u sl;obtain⟨j,au⟩:=aia sl;have h1:=mI j u au;have dZ:j % i.size<z.length:=(by rw[mH];exact Nat.mod_lt _ (by omega));obtain⟨v,v1,v2,-⟩:=tc _ _ (dx dZ);rw[h1] at v1;obtain rfl:=dJ v1;exact v2
 intro j x u U oK;rw[p2 (sz:=i.size) (by omega) _ (fun ez mE=>by rw[List.mem_replicate] at mE;rw[mE.2,mH])] at U;have h1:=mI j u oK
 cases a1:(List.replicate (Int.toNat (m:Int)) z)[j / i.size]? with
 | none=>rw[a1] at U;simp at U
 | some ez =>
  have:=dH a1;rw[List.mem_replicate] at this;rw[a1,this.2] at U;simp only[dB] at U;obtain⟨v,v1,-,v3⟩:=tc _ _ U;rw[h1] at v1;obtain rfl:=dJ v1;exact v3 _ _ _ _
theorem Zq (h:cB g s ax a w)(e4:s.aM aT=none){x y:ay}{qp ot:Value}{t c2:TypeId}{m:Nat}{LK:Option aU}{eB:TypeId}(ap:sk P s.E s.aM aT .append [x,y] [t,c2] (.aH m LK)=some bq)(cd:∀p∈bq.fu,p)
 (U:Rel w (s.ok g ax w) s.a3 (s.bd ax) x qp) (aR:Rel w (s.ok g ax w) s.a3 (s.bd ax) y ot) :
 ∃v bJ bL,(Builtin.append_ #[t,c2] eB #[qp,ot]).run P w = .ok v bJ/\cB g (s.iA bq.fU) bL a bJ/\Rel bJ ((s.iA bq.fU).ok g bL bJ) (s.iA bq.fU).a3 ((s.iA bq.fU).bd bL) bq.val v:=by
 simp only[sk] at ap;split at ap
 ·simp at ap
 rename_i e he;have hu:=rW he;split at ap;rotate_left
 ·simp at ap
 rename_i i z ab cj;split at ap
 ·simp at ap
 rename_i a8;simp only[not_or,Decidable.not_not] at a8;obtain⟨mH,jZ,A2⟩:=a8;split at ap
 ·simp at ap
 rename_i bz bY sg;have GR:=fun ae=>Qh (eB:=eB) h hu ab cj mH jZ sg ae aR;by_cases acu:True
 ·
  split at ap
  ·
   simp only[dz] at ap;subst ap;have hm:m=bz.length:=cd _ (by simp);have D8:m*i.bytes<=140737488355328:=cd _ (by simp);obtain⟨eA,vs,kC,lF,hA,hlen,v1,v3,v4⟩:=GR (fun p ae=>cd p (by simp[ae]));clear GR;rw[U.qx];by_cases h0:bz.length=0
   ·have:bz=[]:=dL.1 h0;subst this;obtain⟨bL,p1,hX⟩:=h.Rg (sz:=i.size) e4;refine⟨_,w,bL,hA.zero h0 none 0 0 (dG _),hX,?_⟩;subst hm;have ah:(s.setRow aT [⟨i.size,[],.live⟩]).af aT 0=some ⟨i.size,[],.live⟩:=(by rw[l9,dw rfl,mR];simp);exact .ox (sz:=i.size) ((n2 _ _ _ _ _).2 (by simp)) (by show (s.setRow aT [⟨i.size,[],.live⟩]).bd bL aT 0=_;rw[ir ah,p1])
   ··have vI:bz.length*1<=bz.length*i.bytes:=Nat.mul_le_mul_left _ (by omega)
     rw[hm] at D8;have ju:=hA.nil (by omega) (by omega) (by omega);have S5:=grownCap_ge w bz.length 0 e;have hle:=grownCap_le_maxLen w bz.length 0 e (by simp only[maxLen];omega);simp only[maxLen] at hle
     obtain⟨bL,q1,a0⟩:=Ix (e:=e) (i:=i) (m:=m) (oI:=vs) (uL:=Builtin.zeroCells eA.cells (grownCap w bz.length 0 e-bz.length)) (cap:=grownCap w bz.length 0 e) h e4 hlen hm v1 v3
      (by rw[size_zeroCells,lF,hm]) (by omega) (by omega) v4 rfl
     refine⟨.slice (some ⟨w.heap.size,0,none⟩) m (grownCap w bz.length 0 e),_,bL,?_,q1,a0⟩;rw[hm];exact ju
  ·
   rename_i r k len;split at ap
   ·simp at ap
   rename_i row dh;split at ap
   ·simp at ap
   rename_i af bm;split at ap;rotate_left
   ·simp at ap
   rename_i uq;obtain⟨nN,e3,cU⟩:=uq;simp only[dz] at ap;subst ap;have ah:s.af r k=some af:=(by unfold S.af;rw[dh];exact bm);have iS:len<=af.es.length:=cd _ (by simp);have hm:m=len+bz.length:=cd _ (by simp);have D8:m*i.bytes<=140737488355328:=cd _ (by simp);have vI:m*1<=m*i.bytes:=Nat.mul_le_mul_left _ (Nat.one_le_iff_ne_zero.2 A2);obtain⟨eA,vs,kC,lF,hA,hlen,v1,v3,v4⟩:=GR (fun p ae=>cd p (by simp[ae]));clear GR;have ag0:bz.length*i.bytes<=m*i.bytes:=ahY _ (by omega);have e9:=h.obj r k af ah;have KO:(af.es.take len).length=len:=(by simp;omega);have s4:(s.setRow aT [⟨i.size,af.es.take len++bz,.live⟩]).aM r=some row:=(by simp[S.setRow,Ne.symm cU,dh]);have qN : ∀bL:fz,((s.setRow aT [⟨i.size,af.es.take len++bz,.live⟩]).setRow r (row.set k {af with cl:= .gone})).af aT 0=some ⟨i.size,af.es.take len++bz,.live⟩:=(by intro _;rw[l9,dA cU,l9,dw rfl,mR];simp);have DG:((s.setRow aT [⟨i.size,af.es.take len++bz,.live⟩]).setRow r (row.set k {af with cl:= .gone})).a3 aT 0:=(by rw[n2,dA cU,n2,dw rfl];simp);show ∃v bJ bL,_/\cB g ((s.setRow aT [⟨i.size,af.es.take len++bz,.live⟩]).setRow r (row.set k {af with cl:= .gone})) bL a bJ/\_;rcases U.sR (ir ah) with ⟨ae,-,rfl,rfl⟩|⟨b,M,jq,kt,ae,rfl,qM,tb,er,lX⟩
   ·
    rw[ae] at e9;simp only[jr] at e9;have h5:af.es.take 0++bz=bz:=(by simp);by_cases h0:bz.length=0
    ·have:bz=[]:=dL.1 h0;subst this;obtain⟨bL,p1,hX⟩:=h.Rg (sz:=i.size) e4;have qO:(s.setRow aT [⟨i.size,[],.live⟩]).af r k=some af:=(by rw[l9,dA (Ne.symm cU)];exact ah);have ac2:(s.setRow aT [⟨i.size,[],.live⟩]).aM r=some row:=(by simp[S.setRow,Ne.symm cU,dh]);obtain⟨tt,-⟩:=hX.gone ac2 qO;have DH:af.es.take 0++([]:List (List ay))=[]:=(by simp);rw[DH];rw[DH] at DG qN;refine⟨_,w,bL,hA.zero h0 none 0 0 (dG _),tt,?_⟩;subst hm;exact .ox (sz:=i.size) DG ((ir (qN bL)).trans (by rw[p1]))
    ··have lD:m=bz.length:=by omega
      have ju:=hA.nil (by omega) (by omega) (by omega);have S5:=grownCap_ge w bz.length 0 e;have hle:=grownCap_le_maxLen w bz.length 0 e (by simp only[maxLen];omega);simp only[maxLen] at hle
      obtain⟨bL,q1,a0⟩:=Ix (e:=e) (i:=i) (m:=m) (oI:=vs) (uL:=Builtin.zeroCells eA.cells (grownCap w bz.length 0 e-bz.length)) (cap:=grownCap w bz.length 0 e) h e4 hlen lD v1 v3
       (by rw[size_zeroCells,lF,lD]) (by omega) (by omega) v4 rfl
      rw[h5];rw[h5] at s4;have qO:(s.setRow aT [⟨i.size,bz,.live⟩]).af r k=some af:=(by rw[l9,dA (Ne.symm cU)];exact ah);obtain⟨tt,EO⟩:=q1.gone s4 qO;refine⟨.slice (some ⟨w.heap.size,0,none⟩) m (grownCap w bz.length 0 e),_,bL,?_,tt,EO _ _ a0⟩;rw[lD];exact ju
   ·
    rw[ae] at e9;have ac3:=e9;obtain⟨cf,mj,g1,g2,g3,g4⟩:=e9
    have DI : ∀e∈af.es.take len++bz,e.length=i.size:=by
     intro ez mE;rw[List.mem_append] at mE;rcases mE with cF|cF
     ·rw[g3 ez (List.mem_of_mem_take cF),e3]
     exact hlen ez cF
    have j0 : ∀(es:List (List ay)),(∀e∈es,e.length=i.size)->es.flatten.length=es.length*i.size:=by
     intro es
     induction es with
     | nil=>intro _;simp
     | cons e es ih =>
      intro gf;rw[ahW,dE,ih fun x U=>gf x (by simp[U]),gf e (by simp),dI,Nat.add_mul];omega
    by_cases h0:bz.length=0
    ·
     have:bz=[]:=dL.1 h0;subst this;have DH:af.es.take len++([]:List (List ay))=af.es.take len:=(by simp);rw[DH];rw[DH] at DG qN DI
     obtain⟨bL,p1,hX⟩:=h.turn dh ah nN ae e4 ⟨i.size,af.es.take len,.live⟩ rfl cf mj g1 rfl (fun _ _=>rfl) rfl rfl rfl g2 DI (fun j q a1=>by
      refine g4 j q ?_
      have au:j<(af.es.take len).flatten.length:=by
       rcases Nat.lt_or_ge j (af.es.take len).flatten.length with cF|cF
       ·exact cF
       rw[dP cF] at a1;simp at a1
      have S6:af.es.flatten=(af.es.take len).flatten++(af.es.drop len).flatten:=(by rw[<- List.flatten_append,List.take_append_drop]);rw[S6,ah4 au];exact a1)
     refine⟨_,w,bL,hA.zero h0 jq len kt qM,hX,?_⟩;have lD:m=len:=(by simpa using hm);subst lD;refine .bu (sz:=i.size) (ek:=b) (m:=M) DG ((ir (qN bL)).trans (by rw[p1])) qM tb ?_;rw[<- e3];exact⟨er,lX⟩
    ··
      have hold : ∃xs:List Value,xs.length=len*i.size/\(∀(j:Nat) u,xs[j]? = some u->w.cell? ((⟨b,0,none⟩:Addr).add j)=some u)/\(∀u∈xs,u.oneCell'=true) /\
       ∀(j:Nat) x u,(af.es.take len).flatten[j]? = some x->xs[j]? = some u->Rel w (s.ok g ax w) s.a3 (s.bd ax) x u:=by
       have SF:=Fs ac3.rd 0 len (by omega);simp only[List.drop_zero,Nat.zero_mul,Nat.add_zero] at SF;obtain⟨xs,x1,ej,az,fE⟩:=SF.oI;exact⟨xs,by rw[x1,KO,e3],ej,az,fE⟩
      obtain⟨xs,x1,ej,az,fE⟩:=hold;have ad7:xs.length=(af.es.take len).length*i.size:=by rw[KO];exact x1
      have Rh : ∀(j:Nat) x u,(af.es.take len++bz).flatten[j]? = some x->(xs++vs)[j]? = some u->Rel w (s.ok g ax w) s.a3 (s.bd ax) x u :=
       fun j x u ur oK=>XW ad7 (fun ez mE=>by rw[g3 ez (List.mem_of_mem_take mE),e3]) ur fE v4 oK
      have DJ:(af.es.take len++bz).length=m:=(by rw[dE,KO];exact hm.symm);by_cases t8:len+bz.length<=kt
      ·
       rcases lX with rfl|rfl
       ·omega
       rw[Nat.zero_mul] at *;rw[dF] at er;have acv:len*i.size+vs.length<=cf.size:=(by rw[v1,g2,<- er,e3,<- Nat.add_mul];exact ahY _ t8);have ju:=hA.room (by omega) b len kt cf mj g1 t8 acv (by omega);have adw:(w.setRow b (cf.toList.take (len*i.size)++vs++cf.toList.drop (len*i.size+vs.length)).toArray).heap.size=w.heap.size:=size_setRow _ _ _
       have S7:xs=cf.toList.take (len*i.size):=by
        apply ah7;intro j;rw[ahZ];by_cases au:j<len*i.size
        ·rw[dw au];have vJ:j<xs.length:=(by omega);have:=ej j _ (dx vJ);rw[rV,cell_of_row w b (0+j) cf mj (0,0) g1,dF] at this;rw[dx vJ,<- this,Array.getElem?_toList]
        rw[dA au,dP (by omega)]
       obtain⟨bL,p1,hX⟩:=h.turn dh ah nN ae e4 ⟨i.size,af.es.take len++bz,.live⟩ rfl _ mj (setRow_heap w b cf _ mj _ g1) adw (fun q a1=>setRow_other w b q _ a1) rfl rfl rfl
        (by rw[<- g2];simp;omega) DI (fun j q a1=>by
          have au:j<(xs++vs).length:=by
           have:j<(af.es.take len++bz).flatten.length:=by
            rcases Nat.lt_or_ge j (af.es.take len++bz).flatten.length with cF|cF
            ·exact cF
            rw[dP cF] at a1;simp at a1
           rw[j0 _ DI,DJ] at this;rw[dE,x1,v1,<- Nat.add_mul,<- hm];exact this
          refine⟨(xs++vs)[j],?_,?_,Rh j q _ a1 (dx au)⟩
          ·rw[List.getElem?_toArray,ah4 (by rw[<- S7];exact au),<- S7];exact dx au
          have:=List.getElem_mem au;rw[List.mem_append] at this;rcases this with cF|cF
          ·exact az _ cF
          exact v3 _ cF)
       refine⟨_,_,bL,ju,hX,?_⟩;rw[<- hm];refine .bu (sz:=i.size) (ek:=b) (m:=M) DG ((ir (qN bL)).trans (by rw[p1])) (by omega) tb ⟨?_,.inr (by simp)⟩;rw[dF,<- e3];exact er
      ·
       have hA : ∃yd:Addr,(jq=some yd/\ ∀(j:Nat) u,xs[j]? = some u->w.cell? (yd.add j)=some u)\/(jq=none/\len=0/\kt=0):=by
        cases jq with
        | none =>
         refine⟨⟨0,0,none⟩,.inr ⟨rfl,?_⟩⟩;rcases lX with cF|cF
         ·omega
         simp at cF
        | some yd =>
         refine⟨yd,.inl ⟨rfl,?_⟩⟩;rcases lX with cF|cF
         ·have:len=0:=(by omega);have:xs=[]:=dL.1 (by rw[x1,this];simp);intro j u au;rw[this] at au;simp at au
         simp at cF;subst cF;exact ej
       have S5:=grownCap_ge w (len+bz.length) kt e;have hle:=grownCap_le_maxLen w (len+bz.length) kt e (by simp only[maxLen];omega);simp only[maxLen] at hle
       have ju:(Builtin.append_ #[t,c2] eB #[.slice jq len kt,ot]).run P w = .ok (.slice (some ⟨w.heap.size,0,none⟩) (len+bz.length) (grownCap w (len+bz.length) kt e))
        (w.drew.alloc (.cells ((xs++vs).toArray++Builtin.zeroCells eA.cells (grownCap w (len+bz.length) kt e-(len+bz.length))) e)):=by
        have adx:(xs++vs).toArray=xs.toArray++vs.toArray:=(by apply Array.ext';simp);rw[adx];obtain⟨yd,⟨rfl,ad8⟩|⟨rfl,oh,nm⟩⟩:=hA
        ·exact hA.grow (by omega) yd len kt xs x1 ad8 (by omega) (by omega) (growslice_fits (by omega) (by rw[<- hm];exact D8)) (by omega)
        subst oh;subst nm;have ad9:xs=[]:=dL.1 (by rw[x1];simp);subst ad9;have:=hA.nil (by omega) (by omega) (by omega);simpa using this
       obtain⟨bL,q1,a0⟩:=Ix (e:=e) (i:=i) (m:=m) (oI:=xs++vs) (uL:=Builtin.zeroCells eA.cells (grownCap w (len+bz.length) kt e-(len+bz.length))) (cap:=grownCap w (len+bz.length) kt e) h e4 DI DJ.symm
        (by rw[dE,x1,v1,DJ,hm,Nat.add_mul]) (fun u hu=>by
          rw[List.mem_append] at hu;rcases hu with cF|cF
          ·exact az _ cF
          exact v3 _ cF) (by rw[size_zeroCells,lF,hm]) (by omega) (by omega) Rh rfl
       have qO:(s.setRow aT [⟨i.size,af.es.take len++bz,.live⟩]).af r k=some af:=(by rw[l9,dA (Ne.symm cU)];exact ah);obtain⟨tt,EO⟩:=q1.gone s4 qO;refine⟨.slice (some ⟨w.heap.size,0,none⟩) m (grownCap w (len+bz.length) kt e),_,bL,?_,tt,EO _ _ a0⟩;rw[hm];exact ju
  simp at ap
 exact absurd trivial acu
end
end
section
variable {P:Program} {g:G} {s:S} {ax:fz} {a:Act} {w:World}
theorem cB.putAt (h:cB g s ax a w){r k p b M:Nat}{row:List aU}{af:aU}(ai:s.aM r=some row)(ah:s.af r k=some af)(aZ:af.cl = .live)(lH:ax r k=some (b,M)){bz gE:List (List ay)}{vs:List Value}
 (hlen : ∀x∈bz,x.length=af.sz) (v1:vs.length=bz.length*af.sz) (v3 : ∀u∈vs,u.oneCell'=true) (v4 : ∀(j:Nat) x u,bz.flatten[j]? = some x->vs[j]? = some u->Rel w (s.ok g ax w) s.a3 (s.bd ax) x u)
 (ae:p+bz.length<=af.es.length) (q:Nat) (h5:gE=(af.es.take p++bz++af.es.drop (p+bz.length)).take q) :
 ∃cf mj,w.heap[b]? = some (.cells cf mj (0,0))/\cf.size=M/\af.es.length*af.sz<=M/\p*af.sz+vs.length<=cf.size /\
  cB g (s.setRow r (row.set k {af with es:=gE})) ax a (w.setRow b (cf.toList.take (p*af.sz)++vs++cf.toList.drop (p*af.sz+vs.length)).toArray) /\
  ∀x v,Rel w (s.ok g ax w) s.a3 (s.bd ax) x v->Rel (w.setRow b (cf.toList.take (p*af.sz)++vs++cf.toList.drop (p*af.sz+vs.length)).toArray) ((s.setRow r (row.set k {af with es:=gE})).ok g ax (w.setRow b (cf.toList.take (p*af.sz)++vs++cf.toList.drop (p*af.sz+vs.length)).toArray)) (s.setRow r (row.set k {af with es:=gE})).a3 ((s.setRow r (row.set k {af with es:=gE})).bd ax) x v:=by
 have e9:=h.obj r k af ah;rw[lH] at e9;obtain⟨cf,mj,g1,g2,g3,g4⟩:=e9;have j0:=Aq g3
 have er:af.es.length*af.sz<=M:=by
  rcases Nat.eq_zero_or_pos af.es.flatten.length with h0|jZ
  ·omega
  obtain⟨v,e1,-⟩:=g4 (af.es.flatten.length-1) _ (dx (by omega));have:=(ah3.1 e1).1;omega
 have hmul:p*af.sz+bz.length*af.sz<=af.es.length*af.sz:=by rw[<- Nat.add_mul];exact ahY _ ae
 have iS:p*af.sz+vs.length<=cf.size:=by omega
 refine⟨cf,mj,g1,g2,er,iS,?_⟩
 have ady : ∀e∈af.es.take p++bz++af.es.drop (p+bz.length),e.length=af.sz:=by
  intro e he;simp only[List.mem_append] at he;rcases he with (he|he)|he
  ·exact g3 e (List.mem_of_mem_take he)
  ·exact hlen e he
  exact g3 e (List.mem_of_mem_drop he)
 have hA:(af.es.take p).flatten.length=p*af.sz:=by rw[Aq fun e he=>g3 e (List.mem_of_mem_take he),List.length_take];congr 1;omega
 have gP:(af.es.take (p+bz.length)).flatten.length=p*af.sz+bz.length*af.sz:=by rw[Aq fun e he=>g3 e (List.mem_of_mem_take he),List.length_take,<- Nat.add_mul];congr 1;omega
 have afm:bz.flatten.length=bz.length*af.sz:=Aq hlen
 have h1 : ∀j,j<p*af.sz->(af.es.take p).flatten[j]? = af.es.flatten[j]? := fun j au=>by
  conv=>rhs;rw[<- List.take_append_drop p af.es,List.flatten_append,ah4 (by omega)]
 have o : ∀j,(af.es.drop (p+bz.length)).flatten[j]? = af.es.flatten[p*af.sz+bz.length*af.sz+j]? := fun j=>by
  conv=>rhs;rw[<- List.take_append_drop (p+bz.length) af.es,List.flatten_append,aib (by omega),gP]
  congr 1;omega
 refine h.write ai ah aZ lH gE _ mj (setRow_heap w b cf _ mj _ g1) (size_setRow _ _ _) (fun q a1=>setRow_other w b q _ a1) rfl rfl rfl (by rw[<- g2];simp;omega) ?_ ?_
 ·intro e he;rw[h5] at he;exact ady e (List.mem_of_mem_take he)
 intro j x U
 have dY:(af.es.take p++bz++af.es.drop (p+bz.length)).flatten[j]? = some x:=by
  rw[h5] at U;have au:=(ahV.1 U).1
  conv=>lhs;rw[<- List.take_append_drop q (af.es.take p++bz++af.es.drop (p+bz.length)),List.flatten_append,ah4 au]
  exact U
 rw[List.flatten_append,List.flatten_append] at dY;simp only[List.getElem?_toArray];have i6:(cf.toList.take (p*af.sz)).length=p*af.sz:=by rw[List.length_take,Array.length_toList];omega
 by_cases bl:j<p*af.sz
 ·rw[List.append_assoc,ah4 (by omega),h1 j bl] at dY;obtain⟨v,e1,aD,bH⟩:=g4 j x dY;refine⟨v,?_,aD,bH⟩;rw[List.append_assoc,ah4 (by omega),ahZ,dw bl,Array.getElem?_toList];exact e1
 by_cases b8:j<p*af.sz+vs.length
 ·rw[List.append_assoc,aib (by omega),hA,ah4 (by omega)] at dY;have bb:j-p*af.sz<vs.length:=(by omega);refine⟨vs[j-p*af.sz],?_,v3 _ (List.getElem_mem bb),v4 _ _ _ dY (dx bb)⟩;rw[List.append_assoc,aib (by omega),i6,ah4 (by omega)];exact dx bb
 rw[aib (by rw[dE];omega),dE,hA,afm,o] at dY;rw[show p*af.sz+bz.length*af.sz+(j-(p*af.sz+bz.length*af.sz))=j by omega] at dY;obtain⟨v,e1,aD,bH⟩:=g4 j x dY;refine⟨v,?_,aD,bH⟩;rw[aib (by rw[dE];omega),dE,i6,ah5,Array.getElem?_toList];rw[show p*af.sz+vs.length+(j-(p*af.sz+vs.length))=j by omega];exact e1
end
section
variable {P:Program} {g:G} {s:S} {ax:fz} {a:Act} {w:World} {aT:Nat} {bq:hk}
theorem Ri (h:cB g s ax a w){uK:Bool}{x y:ay}{qp ot:Value}{t c2 eB:TypeId}(ap:uj uK P s.aM x y t c2=some bq)(cd:∀p∈bq.fu,p)
 (U:Rel w (s.ok g ax w) s.a3 (s.bd ax) x qp) (aR:Rel w (s.ok g ax w) s.a3 (s.bd ax) y ot) :
 ∃v bJ,(Builtin.append_ #[t,c2] eB #[qp,ot]).run P w = .ok v bJ/\cB g (s.iA bq.fU) ax a bJ/\Rel bJ ((s.iA bq.fU).ok g ax bJ) (s.iA bq.fU).a3 ((s.iA bq.fU).bd ax) bq.val v:=by
 unfold uj at ap;split at ap
 ·simp at ap
 rename_i e he;have hu:=rW he;split at ap;rotate_left
 ·simp at ap
 rename_i i z ab cj;split at ap
 ·simp at ap
 rename_i a8;simp only[not_or,Decidable.not_not] at a8;obtain⟨mH,jZ,A2⟩:=a8;split at ap
 ·simp at ap
 rename_i bz bY sg;split at ap;rotate_left
 ·simp at ap
 rename_i r k len;split at ap
 ·simp at ap
 rename_i row dh;split at ap
 ·simp at ap
 rename_i af bm;split at ap;rotate_left
 ·simp at ap
 rename_i uq;obtain⟨nN,e3⟩:=uq;simp only[dz] at ap;subst ap;have ah:s.af r k=some af:=by unfold S.af;rw[dh];exact bm
 have iS:len+bz.length<=af.es.length:=cd _ (by simp);have D8:bz.length*i.bytes<=140737488355328:=cd _ (by simp);obtain⟨eA,vs,kC,lF,hA,hlen,v1,v3,v4⟩:=Qh (eB:=eB) h hu ab cj mH jZ sg (fun p ae=>cd p (by simp[ae])) aR;rw[<- e3] at v1;have Sh : ∀x∈bz,x.length=af.sz:=fun x U=>by rw[hlen x U,e3]
 obtain⟨E,GS⟩ : ∃E,E=(bif uK then af.es.take len++bz++af.es.drop (len+bz.length) else af.es.take len++bz):=⟨_,rfl⟩
 obtain⟨q,h5⟩ : ∃q,E=(af.es.take len++bz++af.es.drop (len+bz.length)).take q:=by
  cases uK with
  | true=>exact⟨(af.es.take len++bz++af.es.drop (len+bz.length)).length,by rw[dQ (dG _)];exact GS⟩
  | false =>
   refine⟨len+bz.length,GS.trans ?_⟩;show af.es.take len++bz=_;exact(List.take_left' (by rw[dE,List.length_take];omega)).symm
 rw[<- GS];rcases U.sR (ir ah) with ⟨ae,-,rfl,rfl⟩|⟨b,M,jq,kt,ae,rfl,qM,tb,er,lX⟩
 ·have e9:=h.obj r k af ah
  rw[ae] at e9;simp only[jr] at e9;rw[e9] at iS;have h0:bz.length=0:=(by simp at iS;exact dL.2 iS);have xK:bz=[]:=dL.1 h0;subst xK;have aea:E=[]:=(by rw[GS,e9];cases uK<;>rfl);rw[aea]
  have lR:row.set k {af with es:=[]}=row:=by
   have h1:({af with es:=[]}:aU)=af:=(by cases af;simp only[] at e9;subst e9;rfl);rw[h1]
   have o:row[k]? = some af:=by
    unfold df at bm;simp only at bm;split at bm
    ·rename_i b3 ea
     split at bm
     ·simp at bm
     simp at bm;rw[<- bm];exact ea
    simp at bm
   exact ah7 fun j=>by
    rw[ah1];split
    ·rename_i e;subst e;have:=(ahV.1 o).1;rw[dw this,o]
    rfl
  refine⟨_,w,hA.zero h0 none 0 0 (dG _),?_⟩
  have en:s.setRow r row=s:=by
   have:(fun q=>if q=r then some row else s.aM q)=s.aM:=by
    funext q;split
    ·rename_i e;rw[e,dh]
    rfl
   show ({s with aM:=_}:S)=s;rw[this]
  show cB g (s.setRow r (row.set k {af with es:=[]})) ax a w/\Rel w ((s.setRow r (row.set k {af with es:=[]})).ok g ax w) (s.setRow r (row.set k {af with es:=[]})).a3 ((s.setRow r (row.set k {af with es:=[]})).bd ax) (.bu r k 0 0) (.slice none 0 0);rw[lR,en];exact⟨h,U⟩
 obtain⟨cf,mj,bl,b8,jI,pU,ou,uM⟩:=h.putAt dh ah nN ae Sh v1 v3 v4 iS q h5;have hle:af.es.length<=kt:=by rw[dF] at er;rw[<- er] at jI;exact Nat.le_of_mul_le_mul_right jI (by omega)
 by_cases nm:kt=0
 ·have h0:bz.length=0:=(by omega);have oh:len=0:=(by omega);subst oh;have xK:bz=[]:=dL.1 h0;subst xK;have KP:vs=[]:=dL.1 (by simpa using v1);subst KP;have hw:w.setRow b (cf.toList.take (0*af.sz)++[]++cf.toList.drop (0*af.sz+0)).toArray=w:=(by simp only[Nat.zero_mul,List.take_zero,List.nil_append,dF,List.drop_zero,Array.toArray_toList];exact setRow_self w b cf mj (0,0) bl);simp only[dM] at ou uM;rw[hw] at ou uM;exact⟨_,w,hA.zero h0 jq 0 kt (Nat.zero_le _),ou,uM _ _ U⟩
 have xL:jq=some ⟨b,0,none⟩:=by
  rcases lX with cF|cF
  ·exact absurd cF nm
  simpa using cF
 subst xL;by_cases h0:bz.length=0
 ·have xK:bz=[]:=dL.1 h0;subst xK;have KP:vs=[]:=dL.1 (by simpa using v1);subst KP;have hw:w.setRow b (cf.toList.take (len*af.sz)++[]++cf.toList.drop (len*af.sz+0)).toArray=w:=(by simp only[List.append_nil,Nat.add_zero,List.take_append_drop,Array.toArray_toList];exact setRow_self w b cf mj (0,0) bl);simp only[dM] at ou uM;rw[hw] at ou uM;exact⟨_,w,hA.zero h0 _ len kt qM,ou,uM _ _ U⟩
 have ju:=hA.room (by omega) b len kt cf mj bl (by omega) (by rw[<- e3];exact pU) D8;rw[<- e3] at ju;refine⟨_,_,ju,ou,?_⟩;have DB:(s.setRow r (row.set k {af with es:=E})).af r k=some {af with es:=E}:=by rw[l9,dw rfl,QF row k af _ bm (by simp[nN]),dw rfl]
 show Rel _ ((s.setRow r (row.set k {af with es:=E})).ok g ax _) (s.setRow r (row.set k {af with es:=E})).a3 ((s.setRow r (row.set k {af with es:=E})).bd ax) (.bu r k 0 (len+bz.length)) _;refine .bu (sz:=af.sz) (ek:=b) (m:=M) (FM DB) ((ir DB).trans (by rw[ae])) (by omega) tb ⟨er,.inr (by simp)⟩
end
section
variable {P:Program} {g:G} {s:S} {ax:fz} {a:Act} {w:World} {aT:Nat} {bq:hk}
theorem IQ {s:S}{r k:Nat}{row:List aU}{af:aU}(ai:s.aM r=some row)(ah:df (some row) k=some af):s.setRow r (row.set k af)=s:=by
 have o:row[k]? = some af:=by
  unfold df at ah;simp only at ah;split at ah
  ·rename_i b3 ea
   split at ah
   ·simp at ah
   simp at ah;rw[<- ah];exact ea
  simp at ah
 have aa:row.set k af=row:=ah7 fun j=>by
  rw[ah1];split
  ·rename_i e;subst e;have:=(ahV.1 o).1;rw[dw this,o]
  rfl
 rw[aa]
 have:(fun q=>if q=r then some row else s.aM q)=s.aM:=by
  funext q;split
  ·rename_i e;rw[e,ai]
  rfl
 show ({s with aM:=_}:S)=s;rw[this]
theorem PO {e:TypeId}{i:TypeInfo}{z:List ay}{eA:Value}(lF:eA.cells.size=i.size)(mH:z.length=i.size)(jZ:i.size≠0)
 (tc : ∀(j:Nat) x,z[j]? = some x-> ∃v,eA.cells[j]? = some v/\ky v=true/\ ∀(w:World) (ok:Nat->Prop) (a3:jH) (bd:jx),Rel w ok a3 bd x v) (m:Nat) :
 (Builtin.zeroCells eA.cells m).toList.length=m*i.size/\(∀u∈(Builtin.zeroCells eA.cells m).toList,u.oneCell'=true) /\
   ∀(j:Nat) x u,(List.replicate m z).flatten[j]? = some x->(Builtin.zeroCells eA.cells m).toList[j]? = some u-> ∀(w:World) (ok:Nat->Prop) (a3:jH) (bd:jx),Rel w ok a3 bd x u:=by
 have mI : ∀(j:Nat) u,(Builtin.zeroCells eA.cells m).toList[j]? = some u->eA.cells[j % i.size]? = some u:=by intro j u oK;have au:=(ahV.1 oK).1;rw[Array.length_toList,size_zeroCells,lF] at au;have dZ:j % i.size<eA.cells.size:=(by rw[lF];exact Nat.mod_lt _ (by omega));rw[Array.getElem?_toList,Builtin.zeroCells,Array.getElem?_map,lF,Array.getElem?_range] at oK;rw[dw au] at oK;simp only[dR,dz] at oK;rw[<- oK,dS dZ,getElem!_pos eA.cells _ dZ]
 refine⟨?_,?_,?_⟩
 ·rw[Array.length_toList,size_zeroCells,lF]
 ·intro u sl;obtain⟨j,au⟩:=aia sl;have h1:=mI j u au;have dZ:j % i.size<z.length:=(by rw[mH];exact Nat.mod_lt _ (by omega));obtain⟨v,v1,v2,-⟩:=tc _ _ (dx dZ);rw[h1] at v1;obtain rfl:=dJ v1;exact v2
 intro j x u U oK;rw[p2 (sz:=i.size) (by omega) _ (fun ez mE=>by rw[List.mem_replicate] at mE;rw[mE.2,mH])] at U;have h1:=mI j u oK
 cases a1:(List.replicate m z)[j / i.size]? with
 | none=>rw[a1] at U;simp at U
 | some ez =>
  have:=dH a1;rw[List.mem_replicate] at this;rw[a1,this.2] at U;simp only[dB] at U;obtain⟨v,v1,-,v3⟩:=tc _ _ U;rw[h1] at v1;obtain rfl:=dJ v1;exact v3
theorem aa0 (h:cB g s ax a w){r k len:Nat}{y:ay}{qp ot:Value}{t c2 eB:TypeId}{cE:fc}(ap:sk P s.E s.aM aT .copy [.bu r k 0 len,y] [t,c2] cE=some bq)(cd:∀p∈bq.fu,p)
 (U:Rel w (s.ok g ax w) s.a3 (s.bd ax) (.bu r k 0 len) qp) (aR:Rel w (s.ok g ax w) s.a3 (s.bd ax) y ot) :
 ∃n bJ,(Builtin.copy_ #[t,c2] eB #[qp,ot]).run P w = .ok (goInt n) bJ/\cB g (s.iA bq.fU) ax a bJ/\bq.val = .n .i64 n:=by
 simp only[sk] at ap;split at ap
 ·simp at ap
 rename_i e he;have hu:=rW he;split at ap
 ·simp at ap
 rename_i i ab;split at ap
 ·simp at ap
 rename_i bz bY sg;split at ap
 ·simp at ap
 rename_i row dh;split at ap
 ·simp at ap
 rename_i af bm;split at ap;rotate_left
 ·simp at ap
 rename_i uq;obtain⟨nN,e3,jZ⟩:=uq;simp only[dz] at ap;subst ap;have ah:s.af r k=some af:=by unfold S.af;rw[dh];exact bm
 have iS:bz.length<=len:=cd _ (by simp);have hle:len<=af.es.length:=cd _ (by simp);obtain⟨A,c,rfl,hlen,KN⟩:=QI h sg (fun p ae=>cd p (by simp[ae])) aR;show ∃n bJ,_/\cB g (s.setRow r (row.set k {af with es:=bz++af.es.drop bz.length})) ax a bJ/\_;by_cases h0:bz.length=0
 ·have xK:bz=[]:=dL.1 h0
  subst xK;refine⟨0,w,?_,?_,rfl⟩
  ·rcases U.sR (ir ah) with ⟨-,-,rfl,rfl⟩|⟨b,M,jq,kt,-,rfl,-,-,-,-⟩
   ·cases A<;>simp[Builtin.copy_,run_underlying hu,sizeOf,typeInfo,ab,Builtin.lenOf,Builtin.firstCells,loadCells,loadCellsFrom]
   cases A<;>cases jq<;>simp[Builtin.copy_,run_underlying hu,sizeOf,typeInfo,ab,Builtin.lenOf,Builtin.firstCells,loadCells,loadCellsFrom,storeCells]
  rw[show ({af with es:=[]++af.es.drop ([]:List (List ay)).length}:aU)=af from rfl,IQ dh bm];exact h
 obtain⟨ek,off,rfl,iX⟩:=KN.resolve_left h0;obtain⟨vs,v1,v2,v3,v4⟩:=iX.oI;rw[<- e3] at v1;rcases U.sR (ir ah) with ⟨-,-,rfl,-⟩|⟨b,M,jq,kt,ae,rfl,qM,tb,er,lX⟩
 ·exact absurd (Nat.le_zero.1 iS) h0
 have xL:jq=some ⟨b,0,none⟩:=by
  rcases lX with cF|cF
  ·exact absurd (show bz.length=0 by omega) h0
  simpa using cF
 subst xL
 obtain⟨cf,mj,bl,b8,jI,pU,ou,-⟩:=h.putAt (p:=0) dh ah nN ae (fun x U=>by rw[hlen x U,e3]) v1 v3 v4 (by omega) af.es.length (gE:=bz++af.es.drop bz.length)
  (by rw[List.take_zero,List.nil_append,dF];exact(dQ (by simp;omega)).symm)
 simp only[Nat.zero_mul,dF,List.take_zero,List.nil_append] at pU ou;have aO:=run_firstCells_some (P:=P) w i.size bz.length ⟨ek,off,none⟩ bz.length c vs (by rw[v1,e3]) v2;have lW:=run_storeCells_at P b 0 mj vs 0 cf w bl (by simpa using pU) v3;simp only[Nat.add_zero,List.take_zero,List.nil_append,dF] at lW;refine⟨bz.length,_,?_,ou,rfl⟩;simp[Builtin.copy_,run_underlying hu,sizeOf,typeInfo,ab,Builtin.lenOf,Nat.min_eq_left iS,aO,lW]
theorem Z5 (h:cB g s ax a w){r k len:Nat}{qp:Value}{t eB:TypeId}(ap:xC P s.aM r k len t=some bq)(cd:∀p∈bq.fu,p)
 (U:Rel w (s.ok g ax w) s.a3 (s.bd ax) (.bu r k 0 len) qp) :
 ∃bJ,(Builtin.clear_ #[t] eB #[qp]).run P w = .ok (.tuple #[]) bJ/\cB g (s.iA bq.fU) ax a bJ/\bq.val = .d9 []:=by
 unfold xC at ap;split at ap
 ·simp at ap
 rename_i e he;have hu:=rW he;split at ap;rotate_left
 ·simp at ap
 rename_i i z ab cj;split at ap
 ·simp at ap
 rename_i row dh;split at ap
 ·simp at ap
 rename_i af bm;split at ap;rotate_left
 ·simp at ap
 rename_i uq;obtain⟨nN,e3,mH,jZ⟩:=uq;simp only[dz] at ap;subst ap;have ah:s.af r k=some af:=by unfold S.af;rw[dh];exact bm
 have hle:af.es.length=len:=cd _ (by simp);show ∃bJ,_/\cB g (s.setRow r (row.set k {af with es:=List.replicate len z})) ax a bJ/\_;by_cases h0:len=0
 ·subst h0
  refine⟨w,?_,?_,rfl⟩
  ·rcases U.sR (ir ah) with ⟨-,-,-,rfl⟩|⟨b,M,jq,kt,-,rfl,-,-,-,-⟩
   ·simp[Builtin.clear_,run_underlying hu]
   cases jq<;>simp[Builtin.clear_,run_underlying hu]
  rw[show ({af with es:=List.replicate 0 z}:aU)=af by rw[List.replicate_zero,<- dL.1 hle],IQ dh bm];exact h
 obtain⟨eG,eA,jk,kC,pT,tc⟩:=Ab cj;rw[ab] at jk;simp at jk;subst jk;have lF:eA.cells.size=i.size:=by rw[<- mH,pT];simp
 rcases U.sR (ir ah) with ⟨-,-,rfl,-⟩|⟨b,M,jq,kt,ae,rfl,qM,tb,er,lX⟩
 ·exact absurd rfl h0
 have xL:jq=some ⟨b,0,none⟩:=by
  rcases lX with cF|cF
  ·exact absurd (show len=0 by omega) h0
  simpa using cF
 subst xL;obtain⟨v1,v3,v4⟩:=PO (e:=e) lF mH jZ tc len;rw[<- e3] at v1
 obtain⟨cf,mj,bl,b8,jI,pU,ou,-⟩:=h.putAt (p:=0) (bz:=List.replicate len z) dh ah nN ae (fun x U=>by rw[List.mem_replicate] at U;rw[U.2,mH,e3]) (by simpa using v1) v3 (fun j x u h1 o=>v4 j x u h1 o _ _ _ _)
  (by simp;omega) len (gE:=List.replicate len z)
  (by simp[hle])
 simp only[Nat.zero_mul,dF,List.take_zero,List.nil_append] at pU ou;have lW:=run_storeCells_at P b 0 mj (Builtin.zeroCells eA.cells len).toList 0 cf w bl (by simpa using pU) v3;simp only[Nat.add_zero,List.take_zero,List.nil_append,dF] at lW;refine⟨_,?_,ou,rfl⟩
 cases len with
 | zero=>exact absurd rfl h0
 | succ n=>simp[Builtin.clear_,run_underlying hu,zeroValue,typeInfo,ab,kC,lW]
theorem Zr (h:cB g s ax a w){r k bE len:Nat}{qp:Value}{t eB:TypeId}(ap:xq P s.aM r k bE len t=some bq)(cd:∀p∈bq.fu,p)
 (U:Rel w (s.ok g ax w) s.a3 (s.bd ax) (.bu r k bE len) qp) :
 ∃bJ,(Builtin.clear_ #[t] eB #[qp]).run P w = .ok (.tuple #[]) bJ/\cB g (s.iA bq.fU) ax a bJ/\bq.val = .d9 []:=by
 unfold xq at ap;split at ap
 ·simp at ap
 rename_i e he;have hu:=rW he;split at ap;rotate_left
 ·simp at ap
 rename_i i z ab cj;split at ap
 ·simp at ap
 rename_i row dh;split at ap
 ·simp at ap
 rename_i af bm;split at ap;rotate_left
 ·simp at ap
 rename_i uq;obtain⟨nN,e3,mH,jZ⟩:=uq;simp only[dz] at ap;subst ap;have ah:s.af r k=some af:=by unfold S.af;rw[dh];exact bm
 have hle:bE+len<=af.es.length:=cd _ (by simp);show ∃bJ,_/\cB g (s.setRow r (row.set k {af with es:=af.es.take bE++List.replicate len z++af.es.drop (bE+len)})) ax a bJ/\_;by_cases h0:len=0
 ·subst h0
  refine⟨w,?_,?_,rfl⟩
  ·rcases U.sR (ir ah) with ⟨-,-,-,rfl⟩|⟨b,M,jq,kt,-,rfl,-,-,-,-⟩
   ·simp[Builtin.clear_,run_underlying hu]
   cases jq<;>simp[Builtin.clear_,run_underlying hu]
  rw[show ({af with es:=af.es.take bE++List.replicate 0 z++af.es.drop (bE+0)}:aU)=af by rw[List.replicate_zero,List.append_nil,Nat.add_zero,List.take_append_drop],IQ dh bm];exact h
 obtain⟨eG,eA,jk,kC,pT,tc⟩:=Ab cj;rw[ab] at jk;simp at jk;subst jk;have lF:eA.cells.size=i.size:=by rw[<- mH,pT];simp
 rcases U.sR (ir ah) with ⟨-,-,h1,-⟩|⟨b,M,jq,kt,ae,rfl,qM,tb,er,lX⟩
 ·exact absurd h1 h0
 have xL:jq=some ⟨b,bE*af.sz,none⟩:=by
  rcases lX with cF|cF
  ·exact absurd (show len=0 by omega) h0
  exact cF
 subst xL;obtain⟨v1,v3,v4⟩:=PO (e:=e) lF mH jZ tc len;rw[<- e3] at v1
 obtain⟨cf,mj,bl,b8,jI,pU,ou,-⟩:=h.putAt (p:=bE) (bz:=List.replicate len z) dh ah nN ae (fun x U=>by rw[List.mem_replicate] at U;rw[U.2,mH,e3]) (by simpa using v1) v3 (fun j x u h1 o=>v4 j x u h1 o _ _ _ _)
  (by simp;omega) (af.es.take bE++List.replicate len z++af.es.drop (bE+(List.replicate len z).length)).length (gE:=af.es.take bE++List.replicate len z++af.es.drop (bE+len))
  (by rw[dQ (dG _),List.length_replicate])
 have lW:=run_storeCells_at P b (bE*af.sz) mj (Builtin.zeroCells eA.cells len).toList 0 cf w bl (by simpa using pU) v3;simp only[Nat.add_zero] at lW;refine⟨_,?_,ou,rfl⟩
 cases len with
 | zero=>exact absurd rfl h0
 | succ n=>simp[Builtin.clear_,run_underlying hu,zeroValue,typeInfo,ab,kC,lW]
end
section
variable {g:G} {s:S} {ax:fz} {a:Act} {w:World}
def my (row:List aU):List aU:=row.map fun I=>if I.cl = .live then {I with cl:= .jF} else I
theorem QJ (row:List aU)(k:Nat):df (some (my row)) k=(df (some row) k).map fun I=>if I.cl = .live then {I with cl:= .jF} else I:=by
 simp only[df,my,dK]
 cases row[k]? with
 | none=>rfl
 | some I =>
  obtain⟨sz,es,cl⟩:=I;cases cl<;>simp
theorem cB.freeze (h:cB g s ax a w){r:Nat}{row:List aU}(ai:s.aM r=some row):cB g (s.setRow r (my row)) ax a w:=by
 have bm : ∀q k I,(s.setRow r (my row)).af q k=some I-> ∃p,s.af q k=some p/\I.sz=p.sz/\I.es=p.es/\(I.cl = .live->p.cl = .live/\q≠r):=by
  intro q k I ah;by_cases e:q=r
  ·subst e;have:(s.setRow q (my row)).aM q=some (my row):=(by simp[S.setRow]);unfold S.af at ah;rw[this,QJ] at ah;rw[dO] at ah;obtain⟨p,ae,rfl⟩:=ah;refine⟨p,by unfold S.af;rw[ai];exact ae,?_⟩;split<;>simp_all
  have:(s.setRow r (my row)).aM q=s.aM q:=(by simp[S.setRow,e]);unfold S.af at ah;rw[this] at ah;exact⟨I,ah,rfl,rfl,fun aO=>⟨aO,e⟩⟩
 have jP : ∀q k,s.a3 q k->(s.setRow r (my row)).a3 q k:=Fq s ai (by simp[my])
 have lV : ∀q k,(s.setRow r (my row)).bd ax q k=s.bd ax q k:=by
  intro q k;by_cases e:q=r
  ·subst e
   simp only[S.bd,S.af];have:(s.setRow q (my row)).aM q=some (my row):=(by simp[S.setRow]);rw[this,QJ,ai]
   cases df (some row) k with
   | none=>rfl
   | some I=>simp only[dR,dz,dD,and_true];split<;>rfl
  have:(s.setRow r (my row)).aM q=s.aM q:=(by simp[S.setRow,e]);simp[S.bd,S.af,this]
 have c3:Step g s ax w (s.setRow r (my row)) ax w:=⟨jP,fun q k _=> .inl (lV q k),fun b aO=>by obtain⟨q,k,I,m,h1,o,aa⟩:=aO;obtain⟨p,p1,hX,tt,EO⟩:=bm q k I h1;exact .inl ⟨q,k,p,m,p1,(EO o).1,aa⟩,fun _ _ _=>rfl,dG _⟩;refine {toiK:=⟨?_,?_,?_,h.gW,h.mlt,h.oe,?_,h.low⟩,env:=fun t=>c3.rel (h.env t),defers:=h.defers,j9:=h.j9}
 ·intro q k I ah
  obtain⟨p,p1,hX,tt,-⟩:=bm q k I ah;have ae:=c3.obj (fun b m _=>rfl) (h.obj q k p p1)
  cases lH:ax q k with
  | none=>rw[lH] at ae;simp only[jr] at ae ⊢;rw[tt];exact ae
  | some x =>
   obtain⟨b,m⟩:=x;rw[lH] at ae;obtain⟨c,eB,e1,aD,bH,cX⟩:=ae;exact⟨c,eB,e1,aD,by rw[hX,tt];exact bH,by rw[tt];exact cX⟩
 ·intro q k I il dc b3 b m bi h1 o aa ao;obtain⟨p,p1,-⟩:=bm q k I h1;obtain⟨kI,aeb,-⟩:=bm il dc b3 o;exact h.inj q k p il dc kI b m bi p1 aeb aa ao
 ·intro q k I b m h1 o;obtain⟨p,p1,-⟩:=bm q k I h1;exact h.own q k p b m p1 o
 intro j k au;obtain⟨e1,aD⟩:=h.stay j k au;exact⟨jP j k e1,by rw[lV];exact aD⟩
end
def AF (P:Program)(t:TypeId):Bool :=
 match P.underlying t with
 | some (.pointer _)=>true
 | _=>false
def A9 (P:Program)(E:Nat->ay)(aM:Nat->Option (List aU))(aT:Nat)(I:Oper)(cE:fc):Option hk :=
 match I.op with
 | .call {callee:= .builtin b,args,argTypes}=>match b with
  | .len=>eU P E aM aT I cE
  | b=>sk P E aM aT b (args.toList.map (eD E)) argTypes.toList cE
 | .binOp op t x y _=>match cE,op,eD E x,eD E y with
  | .gp,.eql,.isl _ es,.fs=>if (p9 P t).isSome then some {val:= .b false,fu:=[es≠[]]} else none
  | .gp,.neq,.isl _ es,.fs=>if (p9 P t).isSome then some {val:= .b true,fu:=[es≠[]]} else none
  | .gp,.eql,.kr _ none,.iR=>if AF P t then some {val:= .b true} else none
  | .gp,.neq,.kr _ none,.iR=>if AF P t then some {val:= .b false} else none
  | .gp,.eql,.kr _ (some _),.iR=>if AF P t then some {val:= .b false} else none
  | .gp,.neq,.kr _ (some _),.iR=>if AF P t then some {val:= .b true} else none
  | .gp,_,_,_=>none
  | _,_,_,_=>eU P E aM aT I cE
 | .nilCheck x=>match cE,eD E x with
  | .gp,.kr sz (some c)=>some {val:= .fi sz [c] 0 0}
  | .gp,_=>none
  | _,_=>eU P E aM aT I cE
 | _=>eU P E aM aT I cE
section
variable {P:Program} {g:G} {s:S} {ax:fz} {a:Act} {w:World} {I:Oper} {cE:fc} {aT:Nat} {bq:hk}
theorem CY {args:Array Operand}{E:Nat->ay}{x y:ay}(h:args.toList.map (eD E)=[x,y]): ∃p q,args = #[p,q]/\eD E p=x/\eD E q=y:=by
 obtain⟨l⟩:=args
 match l,h with
 | [p,q],h=>simp at h;exact⟨p,q,rfl,h.1,h.2⟩
theorem Rj {args:Array Operand}{E:Nat->ay}{x:ay}(h:args.toList.map (eD E)=[x]): ∃p,args = #[p]/\eD E p=x:=by
 obtain⟨l⟩:=args
 match l,h with
 | [p],h=>simp at h;exact⟨p,rfl,h⟩
theorem FE {t:TypeId}(h:AF P t=true): ∃e,P.underlying t=some (.pointer e):=by
 unfold AF at h;split at h
 ·rename_i e he;exact⟨e,he⟩
 simp at h
theorem Z6 (h:cB g s ax a w)(e4:s.aM aT=none)(ap:A9 P s.E s.aM aT I cE=some bq)(cd:∀p∈bq.fu,p):Fin P g s a w I bq:=by
 unfold A9 at ap;split at ap
 ·rename_i b args m7 ah
  split at ap
  ·exact FD h e4 ap cd
  rename_i b aL;unfold sk at ap;split at ap
  ·rename_i x y t c2 m LK hargs mC;have sa:sk P s.E s.aM aT .append [x,y] [t,c2] (.aH m LK)=some bq:=ap;obtain⟨p,q,rfl,rfl,rfl⟩:=CY hargs;obtain⟨l⟩:=m7;simp only at mC;subst mC;obtain⟨v,bJ,bL,h1,o,aa⟩:=Zq (eB:=I.type) h e4 sa cd (h.eval p) (h.eval q);exact⟨v,bJ,bL,.inl (by simp[execOp,ah,resolve,invoke,builtin,h1]),o,aa⟩
  ·rename_i x y t c2 hargs mC;have sa:uj false P s.aM x y t c2=some bq:=ap;obtain⟨p,q,rfl,rfl,rfl⟩:=CY hargs;obtain⟨l⟩:=m7;simp only at mC;subst mC;obtain⟨v,bJ,h1,o,aa⟩:=Ri (eB:=I.type) h sa cd (h.eval p) (h.eval q);exact⟨v,bJ,ax,.inl (by simp[execOp,ah,resolve,invoke,builtin,h1]),o,aa⟩
  ·rename_i x y t c2 hargs mC;have sa:uj true P s.aM x y t c2=some bq:=ap;obtain⟨p,q,rfl,rfl,rfl⟩:=CY hargs;obtain⟨l⟩:=m7;simp only at mC;subst mC;obtain⟨v,bJ,h1,o,aa⟩:=Ri (eB:=I.type) h sa cd (h.eval p) (h.eval q);exact⟨v,bJ,ax,.inl (by simp[execOp,ah,resolve,invoke,builtin,h1]),o,aa⟩
  ·rename_i cE r k len y t c2 hargs mC;have sa:sk P s.E s.aM aT .copy [.bu r k 0 len,y] [t,c2] cE=some bq:=ap;obtain⟨p,q,rfl,ae,rfl⟩:=CY hargs;obtain⟨l⟩:=m7;simp only at mC;subst mC;have U:=h.eval p;rw[ae] at U;obtain⟨n,bJ,h1,o,aa⟩:=aa0 (eB:=I.type) h sa cd U (h.eval q);refine⟨goInt n,bJ,ax,.inl (by simp[execOp,ah,resolve,invoke,builtin,h1]),o,?_⟩;rw[aa];exact .n _ _
  ·rename_i r k bE len t hargs mC;have sa:xq P s.aM r k bE len t=some bq:=ap;obtain⟨p,rfl,ae⟩:=Rj hargs;obtain⟨l⟩:=m7;simp only at mC;subst mC;have U:=h.eval p;rw[ae] at U;obtain⟨bJ,h1,o,aa⟩:=Zr (eB:=I.type) h sa cd U;refine⟨.tuple #[],bJ,ax,.inl (by simp[execOp,ah,resolve,invoke,builtin,h1]),o,?_⟩;rw[aa];exact .d9 [] rfl (fun j x u au=>by simp at au)
  ·rename_i r k len t hargs mC _;have sa:xC P s.aM r k len t=some bq:=ap;obtain⟨p,rfl,ae⟩:=Rj hargs;obtain⟨l⟩:=m7;simp only at mC;subst mC;have U:=h.eval p;rw[ae] at U;obtain⟨bJ,h1,o,aa⟩:=Z5 (eB:=I.type) h sa cd U;refine⟨.tuple #[],bJ,ax,.inl (by simp[execOp,ah,resolve,invoke,builtin,h1]),o,?_⟩;rw[aa];exact .d9 [] rfl (fun j x u au=>by simp at au)
  ·rename_i k x dc y hargs
   split at ap
   ·rename_i aZ;simp only[dz] at ap;subst ap;subst aZ;obtain⟨p,q,rfl,ae,a1⟩:=CY hargs;have U:=h.eval p;have aR:=h.eval q;rw[ae] at U;rw[a1] at aR;refine iw (v:= .int k (if y<x then y else x)) h ?_ rfl (.n _ _);simp[execOp,ah,resolve,invoke,builtin,Builtin.min_,U.o4,aR.o4,Builtin.min2]
   simp at ap
  simp at ap
 ·rename_i op t x y c2 ah
  split at ap
  ·rename_i sz es U aR
   split at ap
   ·rename_i he;obtain⟨e,he⟩:=Option.isSome_iff_exists.1 he;simp only[dz] at ap;subst ap;have h1:=h.eval x;have o:=h.eval y;rw[U] at h1;rw[aR] at o;have cU:es≠[]:=cd _ (by simp);refine iw (v:= .bool false) h ?_ rfl (.b _);simp only[execOp,ah];rw[Sem.run_bind,(RL (w:=w) (rW he) cU h1 o x y).1];rfl
   simp at ap
  ·rename_i sz es U aR
   split at ap
   ·rename_i he;obtain⟨e,he⟩:=Option.isSome_iff_exists.1 he;simp only[dz] at ap;subst ap;have h1:=h.eval x;have o:=h.eval y;rw[U] at h1;rw[aR] at o;have cU:es≠[]:=cd _ (by simp);refine iw (v:= .bool true) h ?_ rfl (.b _);simp only[execOp,ah];rw[Sem.run_bind,(RL (w:=w) (rW he) cU h1 o x y).2];rfl
   simp at ap
  ·rename_i sz U aR
   split at ap
   ·rename_i cb;obtain⟨e,he⟩:=FE cb;simp only[dz] at ap;subst ap;have h1:=h.eval x;have o:=h.eval y;rw[U] at h1;rw[aR] at o;have rC:Rel w (s.ok g ax w) s.a3 (s.bd ax) .iR (a.eval x):=(by rw[h1.QG];exact .iR);refine iw (v:= .bool true) h ?_ rfl (.b _);simp only[execOp,ah];rw[Sem.run_bind,(Ap (w:=w) (r:=true) (by simp[s9,he]) rC o x y).1];rfl
   simp at ap
  ·rename_i sz U aR
   split at ap
   ·rename_i cb;obtain⟨e,he⟩:=FE cb;simp only[dz] at ap;subst ap;have h1:=h.eval x;have o:=h.eval y;rw[U] at h1;rw[aR] at o;have rC:Rel w (s.ok g ax w) s.a3 (s.bd ax) .iR (a.eval x):=(by rw[h1.QG];exact .iR);refine iw (v:= .bool false) h ?_ rfl (.b _);simp only[execOp,ah];rw[Sem.run_bind,(Ap (w:=w) (r:=true) (by simp[s9,he]) rC o x y).2];rfl
   simp at ap
  ·rename_i sz c U aR
   split at ap
   ·rename_i cb;obtain⟨e,he⟩:=FE cb;simp only[dz] at ap;subst ap;have h1:=h.eval x;have o:=h.eval y;rw[U] at h1;rw[aR] at o;refine iw (v:= .bool false) h ?_ rfl (.b _);simp only[execOp,ah];rw[Sem.run_bind,(Ap (w:=w) (r:=false) (by simp[s9,he]) h1.Jn o x y).1];rfl
   simp at ap
  ·rename_i sz c U aR
   split at ap
   ·rename_i cb;obtain⟨e,he⟩:=FE cb;simp only[dz] at ap;subst ap;have h1:=h.eval x;have o:=h.eval y;rw[U] at h1;rw[aR] at o;refine iw (v:= .bool true) h ?_ rfl (.b _);simp only[execOp,ah];rw[Sem.run_bind,(Ap (w:=w) (r:=false) (by simp[s9,he]) h1.Jn o x y).2];rfl
   simp at ap
  ·simp at ap
  exact FD h e4 ap cd
 ·rename_i x ah
  split at ap
  ·rename_i sz c U;simp only[dz] at ap;subst ap;have h1:=h.eval x;rw[U] at h1;have o:=h1.Jn;obtain⟨ek,off,aL,hval,iX⟩:=o.Aw;refine iw (v:=a.eval x) h ?_ rfl o;rw[hval];simp only[execOp,ah,hval];rfl
  ·simp at ap
  exact FD h e4 ap cd
 exact FD h e4 ap cd
end
theorem tH {es:List (List ay)}{j:Nat}{x:ay}(h:es.flatten[j]? = some x): ∃e∈es,x∈e:=by have:=dH h;rw[List.mem_flatten] at this;obtain⟨e,he,U⟩:=this;exact⟨e,he,U⟩
theorem Rel.pure {w:World}{ok ln:Nat->Prop}{a3 nI:jH}{bd m5:jx}{x:ay}{v:Value}(h:Rel w ok a3 bd x v)(ae:Pure x)(nJ:∀b,ok b->ln b):Rel w ln nI m5 x v:=by
 induction h with
 | dead v=>exact .dead v
 | b x=>exact .b x
 | n k x=>exact .n k x
 | s x=>exact .s x
 | iR=>exact .iR
 | fs=>exact .fs
 | iV a c=>exact .iV a c
 | qz=>cases ae
 | ref=>cases ae
 | n5=>cases ae
 | ox=>cases ae
 | bu=>cases ae
 | nC=>cases ae
 | oF=>cases ae
 | kp sz a c h=>exact .kp sz a c h
 | isl cs aL lE aO a8 hw i6 ai ih =>
  cases ae with
  | isl h=>exact .isl cs (nJ _ aL) lE aO a8 hw i6 fun j x U=>ih j x U (by obtain⟨e,he,rD⟩:=tH U;exact h e he x rD)
 | fi cs aL lE aO hw i6 ai ih =>
  cases ae with
  | fi h=>exact .fi cs (nJ _ aL) lE aO hw i6 fun j x U=>ih j x U (by obtain⟨e,he,rD⟩:=tH U;exact h e he x rD)
 | qd sz=>exact .qd sz
 | pD h ih =>
  cases ae with
  | pD ae=>exact .pD (ih (.fi fun e he x U=>by rw[List.mem_singleton] at he;subst he;exact ae x U))
 | agg vs aO i6 ai ih =>
  cases ae with
  | agg h=>exact .agg vs aO i6 fun j x v U bb=>ih j x v U bb (h x (dH U))
 | d9 vs aO ai ih =>
  cases ae with
  | d9 h=>exact .d9 vs aO fun j x v U bb=>ih j x v U bb (h x (dH U))
 | fn vs aO ai ih =>
  cases ae with
  | fn h=>exact .fn vs aO fun j x v U bb=>ih j x v U bb (h x (dH U))
abbrev g9:=Nat->Nat->Option (Nat×Nat)
structure Down (q:ay->Prop):Prop where
 agg : ∀c x,q (.agg c)->x∈c->q x
 d9 : ∀c x,q (.d9 c)->x∈c->q x
 fn : ∀f c x,q (.fn f c)->x∈c->q x
inductive im (s:S) (aW:g9) (bU:gB->Bool) (q:ay->Prop):ay->ay->Prop
 | dead (x:ay):im s aW bU q x .dead
 | pure {x:ay} (h:Pure x) (a1:q x):im s aW bU q x x
 | fs (sz:Nat):im s aW bU q .fs (.isl sz [])
 | iV (sz:Nat):im s aW bU q .iV (.isl sz [])
 | Gi (sz:Nat):im s aW bU q .iR (.kr sz none)
 | kr {sz:Nat} {x:ay} {c:List ay} (h:im s aW bU q x (.fi sz [c] 0 0)):im s aW bU q x (.kr sz (some c))
 | ref {r k j eG:Nat} (i off:Nat) (h:aW j eG=some (r,k)) (hu:s.a3 r k):im s aW bU q (.ref r k i off) (.ref j eG i off)
 | bu {r k j eG:Nat} (bE len:Nat) (h:aW j eG=some (r,k)) (hu:s.a3 r k):im s aW bU q (.bu r k bE len) (.bu j eG bE len)
 | nC (r c sz:Nat):im s aW bU q (.jj r c sz none) (.isl sz [])
 | oF {r c sz k n:Nat} {cN:ay} (h:im s aW bU q (.bu r (k+c) 0 n) cN):im s aW bU q (.jj r c sz (some (k,n))) cN
 | jj {r eQ c d6 sz:Nat} (h:Option (Nat×Nat)) (hm : ∀k,aW eQ (k+d6)=some (r,k+c)):im s aW bU q (.jj r c sz h) (.jj eQ d6 sz h)
 | fi {r k:Nat} {I:aU} {gE:List (List ay)} (i off:Nat) (ah:s.af r k=some I) (bC:bU I.cl=true) (ai:(∀j i,aW j i≠some (r,k))) (cU:I.es≠[]) (ae:jA gE) (hle : ∀e∈gE,e.length=I.sz) (aO:gE.length=I.es.length)
  (h : ∀(j:Nat) x cN,I.es.flatten[j]? = some x->gE.flatten[j]? = some cN->im s aW bU q x cN):im s aW bU q (.ref r k i off) (.fi I.sz gE i off)
 | isl {r k bE len:Nat} {I:aU} {gE:List (List ay)} (ah:s.af r k=some I) (bC:bU I.cl=true) (ai:(∀j i,aW j i≠some (r,k))) (iS:bE+len<=I.es.length) (ae:jA gE) (hle : ∀e∈gE,e.length=I.sz) (aO:gE.length=len)
  (h : ∀(j:Nat) x cN,((I.es.drop bE).take len).flatten[j]? = some x->gE.flatten[j]? = some cN->im s aW bU q x cN):im s aW bU q (.bu r k bE len) (.isl I.sz gE)
 | agg {c d6:List ay} (aO:d6.length=c.length) (h : ∀(j:Nat) x cN,c[j]? = some x->d6[j]? = some cN->im s aW bU q x cN):im s aW bU q (.agg c) (.agg d6)
 | d9 {c d6:List ay} (aO:d6.length=c.length) (h : ∀(j:Nat) x cN,c[j]? = some x->d6[j]? = some cN->im s aW bU q x cN):im s aW bU q (.d9 c) (.d9 d6)
 | fn {f:Nat} {c d6:List ay} (aO:d6.length=c.length) (h : ∀(j:Nat) x cN,c[j]? = some x->d6[j]? = some cN->im s aW bU q x cN):im s aW bU q (.fn f c) (.fn f d6)
theorem sI {sz:Nat}: ∀(es:List (List ay)),(∀e∈es,e.length=sz)->es.flatten.length=es.length*sz
 | [],_=>by simp
 | e::es,h=>by rw[ahW,dE,sI es fun x U=>h x (by simp[U]),h e (by simp),dI,Nat.add_mul];omega
theorem gi {α:Type}{l:List α}{j:Nat}{x:α}(h:l[j]? = some x):j<l.length:=by
 rcases Nat.lt_or_ge j l.length with cF|cF
 ·exact cF
 rw[dP cF] at h;simp at h
theorem im.rel {g:G}{s:S}{ax:fz}{w:World}{aW:g9}{bU:gB->Bool}{q:ay->Prop}(er:iK g s ax w){ln:Nat->Prop}{nI:jH}{m5:jx}
 (H1 : ∀x v,q x->Pure x->Rel w (s.ok g ax w) s.a3 (s.bd ax) x v->Rel w ln nI m5 x v)
 (Hs : ∀r k I b m,s.af r k=some I->bU I.cl=true->(∀j i,aW j i≠some (r,k))->ax r k=some (b,m)->ln b)
 (EP : ∀j i r k,aW j i=some (r,k)->s.a3 r k->nI j i/\(m5 j i=s.bd ax r k\/m5 j i=none)) {x cN:ay} (bX:im s aW bU q x cN) :
 ∀ {v:Value},Rel w (s.ok g ax w) s.a3 (s.bd ax) x v->Rel w ln nI m5 cN v:=by
 induction bX with
 | dead x=>intro v _;exact .dead v
 | pure ae a1=>intro v ai;exact H1 _ v a1 ae ai
 | fs sz=>intro v ai;rw[ai.qx];exact .kp sz none 0 (fun _=>rfl)
 | iV sz=>intro v ai;obtain⟨a,c,rfl⟩:=ai.FX;exact .kp sz (some a) c (fun h=>by simp at h)
 | Gi sz=>intro v ai;rw[ai.w5];exact .qd sz
 | kr h ih=>intro v ai;exact .pD (ih ai)
 | @ref r k j eG i off au hu =>
  intro v ai;obtain⟨h1,o⟩:=EP j eG r k au hu
  cases ai with
  | qz a pa aX =>
   refine .qz a h1 fun sz p=> ?_;rcases o with e|e<;>rw[e]
   ·exact aX sz p
   simp
  | ref pa cb =>
   rcases o with e|e
   ·exact .ref h1 (e.trans cb)
   exact .qz _ h1 fun sz p=>by rw[e];simp
 | @bu r k j eG bE len au hu =>
  intro v ai;obtain⟨h1,o⟩:=EP j eG r k au hu
  cases ai with
  | n5 a l c pa aX =>
   refine .n5 a l c h1 ?_;rcases o with e|e<;>rw[e];exact aX
  | ox pa cb =>
   rcases o with e|e
   ·exact .ox h1 (e.trans cb)
   exact .n5 _ _ _ h1 e
  | bu pa cb aO a8 hm =>
   rcases o with e|e
   ·exact .bu h1 (e.trans cb) aO a8 hm
   exact .n5 _ _ _ h1 e
 | nC r c sz =>
  intro v ai
  cases ai with
  | nC h0 =>
   rcases h0.tS with ⟨-,a,c,rfl,bC⟩|⟨ek,off,c,-,rfl,-⟩
   ·exact .kp sz a c bC
   exact .kp sz _ c (fun h=>by simp at h)
 | oF h ih =>
  intro v ai
  cases ai with
  | oF h0=>exact ih h0
 | @jj r eQ c d6 sz h hm =>
  intro v ai
  cases ai with
  | nC h0 =>
   rcases h0.tS with ⟨-,a,c,rfl,bC⟩|⟨ek,off,c,-,rfl,-⟩
   ·exact .nC (.kp sz a c bC)
   exact .nC (.kp sz _ c (fun h=>by simp at h))
  | @oF _ _ _ k n _ h0 =>
   refine .oF ?_
   cases h0 with
   | n5 a l bl pa aX =>
    obtain⟨h1,o⟩:=EP _ _ _ _ (hm k) pa;refine .n5 a l bl h1 ?_;rcases o with e|e<;>rw[e];exact aX
   | ox pa cb =>
    obtain⟨h1,o⟩:=EP _ _ _ _ (hm k) pa;rcases o with e|e
    ·exact .ox h1 (e.trans cb)
    exact .n5 _ _ _ h1 e
   | bu pa cb aO a8 lX =>
    obtain⟨h1,o⟩:=EP _ _ _ _ (hm k) pa;rcases o with e|e
    ·exact .bu h1 (e.trans cb) aO a8 lX
    exact .n5 _ _ _ h1 e
 | @fi r k I gE i off ah bC ai cU KQ hle aO h ih =>
  intro v bb;have e9:=er.obj r k I ah;rcases bb.xa (ir ah) with h0|⟨b,m,ae,hval⟩
  ·rw[h0] at e9;exact absurd e9 cU
  rw[ae] at e9;have iX:=e9.rd;rw[hval];have j0:gE.flatten.length=I.es.flatten.length:=(by rw[sI gE hle,sI I.es iX.1,aO]);have xD:pi w ln nI m5 b 0 I.sz gE:=(by refine⟨hle,fun j cN dY=> ?_⟩;have dZ:j<I.es.flatten.length:=(by rw[<- j0];exact gi dY);have U:I.es.flatten[j]? = some I.es.flatten[j]:=dx dZ;obtain⟨u,e1,aD,bH⟩:=iX.2 j _ U;exact⟨u,e1,aD,ih j _ cN U dY bH⟩);have:=xD.fi (i:=i) (off:=off) ⟨Hs r k I b m ah bC ai ae,KQ⟩;rw[dF] at this;exact this
 | @isl r k bE len I gE ah bC ai iS KQ hle aO h ih =>
  intro v bb;have e9:=er.obj r k I ah;rcases bb.CX (ir ah) with ⟨ae,rfl,rfl,hval⟩|⟨b,m,A,c,ae,hval,qM,tb,hm⟩
  ·have:gE=[]:=dL.1 aO;subst this;rw[hval];exact .kp _ none 0 (fun _=>rfl)
  rw[ae] at e9;rw[hval];rcases Nat.eq_zero_or_pos len with h0|jZ
  ·subst h0;have:gE=[]:=dL.1 aO;subst this;exact .kp _ A c (fun aX=>by rcases hm with h1|⟨h1,-⟩<;>simp_all)
  rcases hm with hm|⟨hA,hm⟩
  ·omega
  subst hA;have iX:=Fs e9.rd bE len (by omega);rw[dF] at iX;have j0:gE.flatten.length=((I.es.drop bE).take len).flatten.length:=(by rw[sI gE hle,sI _ iX.1,aO,List.length_take,List.length_drop,Nat.min_eq_left (by omega)]);have xD:pi w ln nI m5 b (bE*I.sz) I.sz gE:=(by refine⟨hle,fun j cN dY=> ?_⟩;have dZ:j<((I.es.drop bE).take len).flatten.length:=(by rw[<- j0];exact gi dY);have U:=dx dZ;obtain⟨u,e1,aD,bH⟩:=iX.2 j _ U;exact⟨u,e1,aD,ih j _ cN U dY bH⟩);have:=xD.isl (c:=c) ⟨Hs r k I b m ah bC ai ae,KQ⟩ (by omega);rw[aO] at this;exact this
 | @agg c d6 aO h ih =>
  intro v bb;obtain⟨vs,rfl,h1,o,aa⟩:=bb.Au;refine .agg vs (by omega) o fun j cN u dY hu=> ?_;have dZ:j<c.length:=(by have:=gi dY;omega);exact ih j _ cN (dx dZ) dY (aa j _ u (dx dZ) hu)
 | @d9 c d6 aO h ih =>
  intro v bb;obtain⟨vs,rfl,h1,aa⟩:=bb.Av;refine .d9 vs (by omega) fun j cN u dY hu=> ?_;have dZ:j<c.length:=(by have:=gi dY;omega);exact ih j _ cN (dx dZ) dY (aa j _ u (dx dZ) hu)
 | @fn f c d6 aO h ih =>
  intro v bb;obtain⟨vs,rfl,h1,aa⟩:=bb.F7;refine .fn vs (by omega) fun j cN u dY hu=> ?_;have dZ:j<c.length:=(by have:=gi dY;omega);exact ih j _ cN (dx dZ) dY (aa j _ u (dx dZ) hu)
structure pb (s:S) (aW:g9) (bU:gB->Bool) (q:ay->Prop) (I b3:aU):Prop where
 sz:b3.sz=I.sz
 cl:b3.cl=I.cl\/(b3.cl = .jF/\I.cl = .live)\/b3.cl = .gone
 len:b3.es.length=I.es.length
 each : ∀e∈b3.es,e.length=I.sz
 at_ : ∀(j:Nat) x cN,I.es.flatten[j]? = some x->b3.es.flatten[j]? = some cN->im s aW bU q x cN
structure qP (s:S) (aW:g9) (bU:gB->Bool) (q:ay->Prop) (gQ:Nat->Option (List aU)):Prop where
 inj : ∀j i iC eG p,aW j i=some p->aW iC eG=some p->j=iC/\i=eG
 at_ : ∀j i b3,df (gQ j) i=some b3-> ∃r k I,aW j i=some (r,k)/\s.af r k=some I/\pb s aW bU q I b3
 a3 : ∀j i r k,aW j i=some (r,k)->s.a3 r k->i<((gQ j).getD []).length
def ka (ax:fz)(aW:g9):fz:=fun j i=>match aW j i with
 | some (r,k)=>ax r k
 | none=>none
theorem AG {ax:fz}{aW:g9}{j i r k:Nat}(h:aW j i=some (r,k)):ka ax aW j i=ax r k:=by simp[ka,h]
def mJ (_:ay):Prop:=True
theorem ac4:Down mJ:=⟨fun _ _ _ _=>trivial,fun _ _ _ _=>trivial,fun _ _ _ _ _=>trivial⟩
section
variable {g:G} {s:S} {ax:fz} {w:World} {aW:g9} {bU:gB->Bool} {q:ay->Prop} {bS:S}
theorem qP.af (h:qP s aW bU q bS.aM){j i:Nat}{b3:aU}(ah:bS.af j i=some b3): ∃r k I,aW j i=some (r,k)/\s.af r k=some I/\pb s aW bU q I b3:=h.at_ j i b3 ah
theorem Rk {I b3:aU}(h:pb s aW bU q I b3)(aO:b3.cl = .live):I.cl = .live:=by
 rcases h.cl with e|⟨e,-⟩|e
 ·exact e.symm.trans aO
 ·rw[e] at aO;simp at aO
 rw[e] at aO;simp at aO
theorem qP.live (h:qP s aW bU q bS.aM)(b:Nat)(aO:bS.mx (ka ax aW) b): ∃r k I m,s.af r k=some I/\I.cl = .live/\ax r k=some (b,m)/\ ∃j i,aW j i=some (r,k):=by obtain⟨j,i,b3,m,h1,o,aa⟩:=aO;obtain⟨r,k,I,e1,aD,bH⟩:=h.af h1;rw[AG e1] at aa;exact⟨r,k,I,m,aD,Rk bH o,aa,j,i,e1⟩
theorem qP.GU (h:qP s aW bU q bS.aM){j i r k:Nat}(au:aW j i=some (r,k)):bS.bd (ka ax aW) j i=s.bd ax r k\/bS.bd (ka ax aW) j i=none:=by
 cases ah:bS.af j i with
 | none=>right;simp[S.bd,ah]
 | some b3 =>
  obtain⟨eQ,dc,I,e1,aD,bH⟩:=h.af ah;rw[au] at e1;simp only[dz,dD] at e1;obtain⟨rfl,rfl⟩:=e1;left;rw[ir ah,ir aD,bH.sz,AG au]
theorem iK.LL (er:iK g s ax w)(h:qP s aW bU q bS.aM){gq:G}(aZ:Dz gq w)(Dk:∀j k,gq.pJ j k->bS.a3 j k/\(bS.bd (ka ax aW) j k=gq.si j k\/bS.bd (ka ax aW) j k=none))(DK:∀j k,gq.pJ j k->j<gq.m)
 (adz : ∀b,gq.qn b->b<gq.nr.heap.size) (halt : ∀b,gq.A b->b<gq.nr.heap.size)
 (Kq : ∀r k I b m,(∃j i,aW j i=some (r,k))->s.af r k=some I->ax r k=some (b,m)->gq.nr.heap.size<=b\/gq.qn b)
 (H1 : ∀b,s.ok g ax w b->bS.ok gq (ka ax aW) w b)
 (Hs : ∀r k I b m,s.af r k=some I->bU I.cl=true->(∀j i,aW j i≠some (r,k))->ax r k=some (b,m)->bS.ok gq (ka ax aW) w b) :
 iK gq bS (ka ax aW) w/\ ∀ {x cN:ay} {v:Value},im s aW bU q x cN->Rel w (s.ok g ax w) s.a3 (s.bd ax) x v->Rel w (bS.ok gq (ka ax aW) w) bS.a3 (bS.bd (ka ax aW)) cN v:=by
 have e9 : ∀ {x cN:ay} {v:Value},im s aW bU q x cN->Rel w (s.ok g ax w) s.a3 (s.bd ax) x v->Rel w (bS.ok gq (ka ax aW) w) bS.a3 (bS.bd (ka ax aW)) cN v :=
  fun bX ai=>bX.rel er (fun x v _ ae ai=>ai.pure ae H1) Hs (fun j i r k au hu=>⟨h.a3 j i r k au hu,h.GU au⟩) ai
 refine⟨⟨?_,?_,?_,aZ,adz,halt,Dk,DK⟩,e9⟩
 ·intro j k b3 ea
  obtain⟨r,dc,I,e1,aD,bH⟩:=h.af ea;have bm:=er.obj r dc I aD;rw[AG e1]
  cases ae:ax r dc with
  | none =>
   rw[ae] at bm;simp only[jr] at bm ⊢;apply dL.1;rw[bH.len,bm];rfl
  | some q =>
   obtain⟨b,m⟩:=q;rw[ae] at bm;obtain⟨c,eB,h1,o,aa,ao⟩:=bm;have j0:b3.es.flatten.length=I.es.flatten.length:=(by rw[sI _ bH.each,sI _ aa,bH.len]);refine⟨c,eB,h1,o,by rw[bH.sz];exact bH.each,fun i cN dY=> ?_⟩;have dZ:i<I.es.flatten.length:=(by rw[<- j0];exact gi dY);have U:=dx dZ;obtain⟨u,f1,f2,f3⟩:=ao i _ U;exact⟨u,f1,f2,e9 (bH.at_ i _ cN U dY) f3⟩
 ·intro j k I iC dc b3 b m bi h1 o aa ao;obtain⟨r,kX,p,e1,aD,-⟩:=h.af h1;obtain⟨eQ,aec,kI,nM,qj,-⟩:=h.af o;rw[AG e1] at aa;rw[AG nM] at ao;obtain⟨rfl,rfl⟩:=er.inj r kX p eQ aec kI b m bi aD qj aa ao;exact h.inj _ _ _ _ _ e1 nM
 intro j k I b m h1 o;obtain⟨r,kX,p,e1,aD,-⟩:=h.af h1;rw[AG e1] at o;exact Kq r kX p b m ⟨j,k,e1⟩ aD o
theorem cB.Rl {a:Act}(h:cB g s ax a w)(cH:qP s aW (fun _=>true) q bS.aM)(en:∀t,im s aW (fun _=>true) q (s.E t) (bS.E t))(DL:∀j k,g.pJ j k->aW j k=some (j,k)):cB g bS (ka ax aW) a w:=by
 have h4 : ∀b,bS.mx (ka ax aW) b->s.mx ax b:=fun b aO=>by obtain⟨r,k,I,m,h1,o,aa,-⟩:=cH.live b aO;exact⟨r,k,I,m,h1,o,aa⟩
 have Dk : ∀j k,g.pJ j k->bS.a3 j k/\(bS.bd (ka ax aW) j k=g.si j k\/bS.bd (ka ax aW) j k=none):=by
  intro j k au;obtain⟨e1,aD⟩:=h.stay j k au;refine⟨cH.a3 j k j k (DL j k au) e1,?_⟩;rcases cH.GU (ax:=ax) (DL j k au) with e|e
  ·rw[e];exact aD
  exact .inr e
 obtain⟨h1,o⟩:=h.toiK.LL cH h.gW Dk h.low h.mlt h.oe (fun r k I b m _ ah ae=>h.own r k I b m ah ae)
  (fun b aL=>⟨aL.1,aL.2.1,fun aO=>aL.2.2 (h4 b aO)⟩)
  (fun r k I b m ah _ ai ae=>by
    have bm:=h.obj r k I ah;rw[ae] at bm;obtain⟨c,eB,e1,-⟩:=bm;refine⟨(ah3.1 e1).1,?_,fun aO=> ?_⟩
    ·rcases h.own r k I b m ah ae with e|e
     ·exact .inr (.inl e)
     exact .inr (.inr e)
    obtain⟨eQ,dc,b3,bi,f1,f2,f3,⟨Bw,EQ,f4⟩⟩:=cH.live b aO;obtain⟨rfl,rfl⟩:=h.inj r k I eQ dc b3 b m bi ah f1 ae f3;exact ai Bw EQ f4)
 exact {toiK:=h1,env:=fun t=>o (en t) (h.env t),defers:=h.defers,j9:=h.j9}
end
def fg (T:List (List aU)):S:={E:=fun _=> .dead,aM:=fun r=>T[r]?}
def ac5 (P:Program)(f:FuncId)(args:List ay)(T:List (List aU))(r:ay)(iP:List (List aU)):Prop :=
 ∀(g:G) (ax:fz) (w:World) (vs:Array Value),g.nr=w->g.m=T.length->g.pJ=(fg T).a3->g.si=(fg T).bd ax->iK g (fg T) ax w->vs.size=args.length ->
  (∀(j:Nat) x v,args[j]? = some x->vs[j]? = some v->Rel w ((fg T).ok g ax w) (fg T).a3 ((fg T).bd ax) x v) ->
  Calls P f vs w fun e bJ=> ∃v bL,e = .returned v/\iK g (fg iP) bL bJ/\Rel bJ ((fg iP).ok g bL bJ) (fg iP).a3 ((fg iP).bd bL) r v
inductive bT:ay->Prop
 | dead:bT .dead
 | b (x:Bool):bT (.b x)
 | n (k:IntKind) (x:Int):bT (.n k x)
 | s (x:ByteArray):bT (.s x)
 | iR:bT .iR
 | fs:bT .fs
 | iV:bT .iV
 | kp (sz:Nat):bT (.isl sz [])
 | ref (r k i off:Nat):bT (.ref r k i off)
 | bu (r k bE len:Nat):bT (.bu r k bE len)
 | jj (r c sz:Nat) (h:Option (Nat×Nat)):bT (.jj r c sz h)
 | agg {c:List ay} (h : ∀x∈c,bT x):bT (.agg c)
 | d9 {c:List ay} (h : ∀x∈c,bT x):bT (.d9 c)
theorem ac6:Down bT:=⟨fun _ _ h U=>by cases h with|agg h=>exact h _ U,fun _ _ h U=>by cases h with|d9 h=>exact h _ U,fun _ _ _ h=>by cases h⟩
theorem Rel.eu {w bJ:World}{ok ln:Nat->Prop}{a3 nI:jH}{bd m5:jx}{x:ay}(bX:bT x): ∀ {v:Value},Pure x->Rel w ok a3 bd x v->Rel bJ ln nI m5 x v:=by
 induction bX with
 | dead=>intro v _ h;exact .dead v
 | b x=>intro v _ h;rw[h.vm];exact .b x
 | n k x=>intro v _ h;rw[h.o4];exact .n k x
 | s x=>intro v _ h;rw[h.AP];exact .s x
 | iR=>intro v _ h;rw[h.w5];exact .iR
 | fs=>intro v _ h;rw[h.qx];exact .fs
 | iV=>intro v _ h;obtain⟨a,c,rfl⟩:=h.FX;exact .iV a c
 | kp sz =>
  intro v _ h;rcases h.tS with ⟨-,a,c,rfl,bC⟩|⟨ek,off,c,-,rfl,-⟩
  ·exact .kp sz a c bC
  exact .kp sz _ c (fun h=>by simp at h)
 | ref=>intro v ae;cases ae
 | bu=>intro v ae;cases ae
 | jj=>intro v ae;cases ae
 | @agg c a8 ih =>
  intro v ae h;obtain⟨vs,rfl,h1,o,aa⟩:=h.Au
  cases ae with
  | agg ae=>exact .agg vs h1 o fun j x u U hu=>ih x (dH U) (ae x (dH U)) (aa j x u U hu)
 | @d9 c a8 ih =>
  intro v ae h;obtain⟨vs,rfl,h1,aa⟩:=h.Av
  cases ae with
  | d9 ae=>exact .d9 vs h1 fun j x u U hu=>ih x (dH U) (ae x (dH U)) (aa j x u U hu)
section
variable {P:Program} {g:G} {s:S} {ax:fz} {a:Act} {w:World}
theorem C8 (h:iK g s ax w){r k b m:Nat}{I:aU}(ah:s.af r k=some I)(ae:ax r k=some (b,m)):b<w.heap.size:=by have:=h.obj r k I ah;rw[ae] at this;obtain⟨c,eB,e,-⟩:=this;exact(ah3.1 e).1
theorem acw (h:iK g s ax w){r k b m:Nat}{I:aU}(ah:s.af r k=some I)(aZ:I.cl = .jF)(ae:ax r k=some (b,m)):s.ok g ax w b:=by
 refine⟨C8 h ah ae,?_,?_⟩
 ·rcases h.own r k I b m ah ae with e|e
  ·exact .inr (.inl e)
  exact .inr (.inr e)
 rintro⟨eQ,dc,b3,bi,h1,o,aa⟩;obtain⟨rfl,rfl⟩:=h.inj r k I eQ dc b3 b m bi ah h1 ae aa;rw[ah] at h1;simp at h1;subst h1;rw[aZ] at o;simp at o
theorem enter (h:iK g s ax w){aW:g9}{bU:gB->Bool}{q:ay->Prop}{T:List (List aU)}(A:Nat->Prop)
 (hA : ∀b,A b->b<w.heap.size) (KR : ∀b,s.ok g ax w b->A b)
 (KS : ∀r k I b m,s.af r k=some I->bU I.cl=true->ax r k=some (b,m)->A b)
 (cH:qP s aW bU q (fg T).aM) (qD : ∀r k I,(∃j i,aW j i=some (r,k))->s.af r k=some I->I.cl = .live) :
 ∃gq:G,gq.nr=w/\gq.A=A/\gq.m=T.length/\gq.pJ=(fg T).a3/\gq.si=(fg T).bd (ka ax aW) /\
  (gq.qn=fun b=> ∃r k I m,(∃j i,aW j i=some (r,k))/\s.af r k=some I/\ax r k=some (b,m))/\iK gq (fg T) (ka ax aW) w /\
  ∀ {x cN:ay} {v:Value},im s aW bU q x cN->Rel w (s.ok g ax w) s.a3 (s.bd ax) x v->Rel w ((fg T).ok gq (ka ax aW) w) (fg T).a3 ((fg T).bd (ka ax aW)) cN v:=by
 let gq:G:={nr:=w,A:=A,qn:=fun b=> ∃r k I m,(∃j i,aW j i=some (r,k))/\s.af r k=some I/\ax r k=some (b,m),N:=0,m:=T.length,pJ:=(fg T).a3,si:=(fg T).bd (ka ax aW)}
 refine⟨gq,rfl,rfl,rfl,rfl,rfl,rfl,?_⟩;have h4 : ∀b,(fg T).mx (ka ax aW) b-> ∃r k I m,s.af r k=some I/\I.cl = .live/\ax r k=some (b,m)/\ ∃j i,aW j i=some (r,k):=fun b aO=>cH.live b aO;refine iK.LL (bS:=fg T) (gq:=gq) h cH ⟨rfl,rfl,rfl,dG _,fun _ _ _=>rfl⟩ (fun j k au=>⟨au,.inl rfl⟩) ?_ ?_ hA ?_ ?_ ?_
 ·intro j k au
  have au:k<((T[j]?).getD []).length:=au;rcases Nat.lt_or_ge j T.length with h1|h1
  ·exact h1
  rw[dP h1] at au;simp at au
 ·rintro b ⟨r,k,I,m,-,ah,ae⟩;exact C8 h ah ae
 ·intro r k I b m hm ah ae;exact .inr ⟨r,k,I,m,hm,ah,ae⟩
 ·intro b aL;refine⟨aL.1,.inl (KR b aL),fun aO=> ?_⟩;obtain⟨r,k,I,m,h1,o,aa,-⟩:=h4 b aO;exact aL.2.2 ⟨r,k,I,m,h1,o,aa⟩
 intro r k I b m ah bC ai ae;refine⟨C8 h ah ae,.inl (KS r k I b m ah bC ae),fun aO=> ?_⟩;obtain⟨eQ,dc,b3,bi,h1,o,aa,⟨j,i,au⟩⟩:=h4 b aO;obtain⟨rfl,rfl⟩:=h.inj r k I eQ dc b3 b m bi ah h1 ae aa;exact ai j i au
theorem leave (h:cB g s ax a w){bJ:World}{aW lg:g9}{bU:gB->Bool}{q0 q:ay->Prop}{gq:G}{T fm:List (List aU)}{lr:fz}
 (dj:gq.nr=w) (hA:(∀b,gq.A b->s.ok g ax w b)\/(∀x,q x->bT x)) (xM:gq.pJ=(fg T).a3) (lV:gq.si=(fg T).bd (ka ax aW))
 (er:gq.qn=fun b=> ∃r k I m,(∃j i,aW j i=some (r,k))/\s.af r k=some I/\ax r k=some (b,m))
 (qD : ∀r k I,(∃j i,aW j i=some (r,k))->s.af r k=some I->I.cl = .live)
 (cH:qP s aW bU q0 (fg T).aM) (h1:iK gq (fg fm) lr bJ)
 (Dl : ∀j i r k,aW j i=some (r,k)->lg r k=some (j,i)) (Gu : ∀r k j i,lg r k=some (j,i)->aW j i=some (r,k)\/ ¬s.a3 r k)
 (adA : ∀r k eQ dc p,lg r k=some p->lg eQ dc=some p->r=eQ/\k=dc)
 {s2:S} (en:s2.E=s.E)
 (bm : ∀r k I,s2.af r k=some I->(∃j i p,lg r k=some (j,i)/\(fg fm).af j i=some p/\pb (fg fm) lg (fun _=>false) q p I)\/(lg r k=none/\s.af r k=some I))
 (jP : ∀r k,s.a3 r k->s2.a3 r k) (adB : ∀r k j i,lg r k=some (j,i)->(fg fm).a3 j i->s2.a3 r k)
 {x cN:ay} {v:Value} (U:im (fg fm) lg (fun _=>false) q x cN) (bb:Rel bJ ((fg fm).ok gq lr bJ) (fg fm).a3 ((fg fm).bd lr) x v) :
 ∃l5,cB g s2 l5 a bJ/\Rel bJ (s2.ok g l5 bJ) s2.a3 (s2.bd l5) cN v:=by
 let l5:fz:=fun r k=>match lg r k with|some (j,i)=>lr j i|none=>ax r k
 have p1 : ∀r k j i,lg r k=some (j,i)->l5 r k=lr j i:=fun r k j i e=>by simp[l5,e]
 have hX : ∀r k,lg r k=none->l5 r k=ax r k:=fun r k e=>by simp[l5,e]
 have aZ:=h1.gW;have e3:w.heap.size<=bJ.heap.size:=by have:=aZ.size;rw[dj] at this;exact this
 have uh : ∀b,b<w.heap.size-> ¬gq.qn b->bJ.heap[b]? = w.heap[b]? := fun b aL lD=>by have:=aZ.block b (by rw[dj];exact aL) lD;rw[dj] at this;exact this
 have GV : ∀j k p b m,(fg fm).af j k=some p->lr j k=some (b,m)->w.heap.size<=b\/ ∃r dc I bi,(∃j i,aW j i=some (r,dc))/\s.af r dc=some I/\ax r dc=some (b,bi):=by
  intro j k p b m ae aL;rcases h1.own j k p b m ae aL with e|e
  ·rw[dj] at e;exact .inl e
  rw[er] at e;exact .inr e
 have hold : ∀q k I b m,lg q k=none->s.af q k=some I->ax q k=some (b,m)->b<w.heap.size/\ ¬gq.qn b:=by intro q k I b m a1 ah ae;refine⟨C8 h.toiK ah ae,fun lD=> ?_⟩;rw[er] at lD;obtain⟨r,dc,b3,bi,⟨j,i,ai⟩,ea,lE⟩:=lD;obtain⟨rfl,rfl⟩:=h.inj q k I r dc b3 b m bi ah ea ae lE;rw[Dl _ _ _ _ ai] at a1;simp at a1
 have RN : ∀b,s2.mx l5 b->(fg fm).mx lr b\/(∃q k I m,lg q k=none/\s.af q k=some I/\I.cl = .live/\ax q k=some (b,m)):=by
  rintro b ⟨q,k,I,m,ah,nN,ae⟩;rcases bm q k I ah with ⟨j,i,p,e1,aD,bH⟩|⟨e1,aD⟩
  ·rw[p1 _ _ _ _ e1] at ae;exact .inl ⟨j,i,p,m,aD,Rk bH nN,ae⟩
  rw[hX _ _ e1] at ae;exact .inr ⟨q,k,I,m,e1,aD,nN,ae⟩
 have nJ : ∀b,s.ok g ax w b->s2.ok g l5 bJ b:=by
  intro b aL;refine⟨Nat.lt_of_lt_of_le aL.1 e3,aL.2.1,fun aO=> ?_⟩;rcases RN b aO with ⟨j,k,p,m,e1,aD,bH⟩|⟨q,k,I,m,e1,aD,bH,cX⟩
  ·rcases GV j k p b m e1 bH with e|⟨r,dc,I,bi,ai,ah,ae⟩
   ·have:=aL.1;omega
   exact aL.2.2 ⟨r,dc,I,bi,ah,qD r dc I ai ah,ae⟩
  exact aL.2.2 ⟨q,k,I,m,aD,bH,cX⟩
 have SG : ∀r k,s.a3 r k->s2.bd l5 r k=s.bd ax r k\/s2.bd l5 r k=none:=by
  intro r k ai
  cases ah:s2.af r k with
  | none=>right;simp[S.bd,ah]
  | some I =>
   left;rcases bm r k I ah with ⟨j,i,p,e1,aD,bH⟩|⟨e1,aD⟩;rotate_left
   ·rw[ir ah,ir aD,hX _ _ e1]
   rcases Gu r k j i e1 with au|au
   ·have lW:=(h1.stay j i (by rw[xM];exact cH.a3 _ _ _ _ au ai)).2
    rw[lV,ir aD] at lW
    have lW:some (p.sz,lr j i)=(fg T).bd (ka ax aW) j i:=by
     rcases lW with e|e
     ·exact e
     simp at e
    have:=cH.GU (bS:=fg T) (ax:=ax) au;rw[<- lW] at this;rw[ir ah,bH.sz,p1 _ _ _ _ e1];rcases this with e|e
    ·exact e
    simp at e
   exact absurd ai au
 have ac7 : ∀b,s.ok g ax w b->bJ.heap[b]? = w.heap[b]? := by intro b aL;refine uh b aL.1 fun lD=> ?_;rw[er] at lD;obtain⟨r,dc,I,bi,ai,ah,ae⟩:=lD;exact aL.2.2 ⟨r,dc,I,bi,ah,qD r dc I ai ah,ae⟩
 have e9 : ∀ {y:ay} {u:Value},Rel w (s.ok g ax w) s.a3 (s.bd ax) y u->Rel bJ (s2.ok g l5 bJ) s2.a3 (s2.bd l5) y u :=
  fun ai=>ai.mono nJ ac7 jP SG
 have adC:(∀b,gq.A b->s.ok g ax w b)-> ∀b,(fg fm).ok gq lr bJ b->s2.ok g l5 bJ b:=by
  intro hA b aL
  have Kq:g.A b\/g.nr.heap.size<=b\/g.qn b:=by
   rcases aL.2.1 with e|e|e
   ·exact(hA b e).2.1
   ·rw[dj] at e;exact .inr (.inl (Nat.le_trans h.gW.size e))
   rw[er] at e;obtain⟨r,k,I,m,-,ah,ae⟩:=e;rcases h.own r k I b m ah ae with e|e
   ·exact .inr (.inl e)
   exact .inr (.inr e)
  refine⟨aL.1,Kq,fun aO=> ?_⟩;rcases RN b aO with e|⟨q,k,I,m,e1,aD,bH,cX⟩
  ·exact aL.2.2 e
  have a1:=hold q k I b m e1 aD cX;rcases aL.2.1 with e|e|e
  ·exact(hA b e).2.2 ⟨q,k,I,m,aD,bH,cX⟩
  ·rw[dj] at e;omega
  exact a1.2 e
 have Si : ∀ {y mM:ay} {u:Value},im (fg fm) lg (fun _=>false) q y mM->Rel bJ ((fg fm).ok gq lr bJ) (fg fm).a3 ((fg fm).bd lr) y u->Rel bJ (s2.ok g l5 bJ) s2.a3 (s2.bd l5) mM u:=by
  intro y mM u bX ai;refine bX.rel h1 (fun x v a1 ae ai=> ?_) (fun _ _ _ _ _ _ bC _ _=>by simp at bC) ?_ ai
  ·rcases hA with hA|hA
   ·exact ai.pure ae (adC hA)
   exact ai.eu (hA x a1) ae
  intro r k j i a1 au;refine⟨adB r k j i a1 au,?_⟩
  cases ah:s2.af r k with
  | none=>right;simp[S.bd,ah]
  | some I =>
   left;rcases bm r k I ah with ⟨iC,eG,p,e1,aD,bH⟩|⟨e1,-⟩
   ·rw[a1] at e1;simp only[dz,dD] at e1;obtain⟨rfl,rfl⟩:=e1;rw[ir ah,ir aD,bH.sz,p1 _ _ _ _ a1]
   rw[a1] at e1;simp at e1
 refine⟨l5,{toiK:=⟨?_,?_,?_,?_,h.mlt,h.oe,?_,h.low⟩,env:=fun t=>by rw[en];exact e9 (h.env t),defers:=h.defers,j9:=h.j9},Si U bb⟩
 ·intro q k I ah
  rcases bm q k I ah with ⟨j,i,p,e1,aD,bH⟩|⟨e1,aD⟩
  ·have ae:=h1.obj j i p aD
   rw[p1 _ _ _ _ e1]
   cases kS:lr j i with
   | none =>
    rw[kS] at ae;simp only[jr] at ae ⊢;apply dL.1;rw[bH.len,ae];rfl
   | some uN =>
    obtain⟨b,m⟩:=uN;rw[kS] at ae;obtain⟨c,eB,f1,f2,f3,f4⟩:=ae;have j0:I.es.flatten.length=p.es.flatten.length:=(by rw[sI _ bH.each,sI _ f3,bH.len]);refine⟨c,eB,f1,f2,by rw[bH.sz];exact bH.each,fun i cN dY=> ?_⟩;have dZ:i<p.es.flatten.length:=(by rw[<- j0];exact gi dY);have kT:=dx dZ;obtain⟨u,l6,oS,hp⟩:=f4 i _ kT;exact⟨u,l6,oS,Si (bH.at_ i _ cN kT dY) hp⟩
  have ae:=h.obj q k I aD;rw[hX _ _ e1]
  cases kS:ax q k with
  | none=>rw[kS] at ae;exact ae
  | some uN =>
   obtain⟨b,m⟩:=uN;rw[kS] at ae;obtain⟨c,eB,f1,f2,f3,f4⟩:=ae;obtain⟨vI,KT⟩:=hold q k I b m e1 aD kS;refine⟨c,eB,(uh b vI KT).trans f1,f2,f3,fun i cN dY=> ?_⟩;obtain⟨u,l6,oS,hp⟩:=f4 i cN dY;exact⟨u,l6,oS,e9 hp⟩
 ·intro q k I il dc b3 b m bi o aa ao aC
  rcases bm q k I o with ⟨j,i,p,e1,aD,bH⟩|⟨e1,aD⟩<;>rcases bm il dc b3 aa with ⟨iC,eG,kI,nM,qj,D6⟩|⟨nM,qj⟩
  ·rw[p1 _ _ _ _ e1] at ao;rw[p1 _ _ _ _ nM] at aC;obtain⟨rfl,rfl⟩:=h1.inj j i p iC eG kI b m bi aD qj ao aC;exact adA _ _ _ _ _ e1 nM
  ·rw[p1 _ _ _ _ e1] at ao;rw[hX _ _ nM] at aC
   obtain⟨f1,f2⟩:=hold il dc b3 b bi nM qj aC;rcases GV j i p b m aD ao with e|e
   ·omega
   exact absurd (by rw[er];exact e) f2
  ·rw[hX _ _ e1] at ao;rw[p1 _ _ _ _ nM] at aC
   obtain⟨f1,f2⟩:=hold q k I b m e1 aD ao;rcases GV iC eG kI b bi qj aC with e|e
   ·omega
   exact absurd (by rw[er];exact e) f2
  rw[hX _ _ e1] at ao;rw[hX _ _ nM] at aC;exact h.inj q k I il dc b3 b m bi aD qj ao aC
 ·intro q k I b m o ao
  rcases bm q k I o with ⟨j,i,p,e1,aD,bH⟩|⟨e1,aD⟩
  ·rw[p1 _ _ _ _ e1] at ao
   rcases GV j i p b m aD ao with e|⟨r,dc,b3,bi,ai,ah,ae⟩
   ·exact .inl (Nat.le_trans h.gW.size e)
   exact h.own r dc b3 b bi ah ae
  rw[hX _ _ e1] at ao;exact h.own q k I b m aD ao
 ·have e1:=aZ.os;have aD:=aZ.tape;have bH:=aZ.output
  rw[dj] at e1 aD bH;refine h.gW.step e1 aD bH e3 fun b aL oL=>uh b (Nat.lt_of_lt_of_le aL h.gW.size) fun lD=> ?_;rw[er] at lD;obtain⟨r,k,I,m,-,ah,ae⟩:=lD;rcases h.own r k I b m ah ae with e|e
  ·omega
  exact oL e
 intro j k au;obtain⟨e1,aD⟩:=h.stay j k au;refine⟨jP j k e1,?_⟩;rcases SG j k e1 with e|e
 ·rw[e];exact aD
 exact .inr e
def lc (a b n:Nat):ay->ay
 | .ref r k i off=>if r=a then .ref b (n+k) i off else .ref r k i off
 | .bu r k bE len=>if r=a then .bu b (n+k) bE len else .bu r k bE len
 | .jj r c sz h=>if r=a then .jj b (n+c) sz h else .jj r c sz h
 | .agg c=> .agg (Ba c)
 | .d9 c=> .d9 (Ba c)
 | x=>x
where Ba:List ay->List ay
 | []=>[]
 | x::l=>lc a b n x::Ba l
def m8 (a b n:Nat)(I:aU):aU:={I with es:=I.es.map fun e=>e.map (lc a b n)}
def sb (I:aU):aU:=⟨0,[],.gone⟩
theorem F8 (a b n:Nat): ∀l:List ay,lc.Ba a b n l=l.map (lc a b n)
 | []=>rfl
 | x::l=>by rw[lc.Ba,F8 a b n l];rfl
theorem kP (l:List aU)(k:Nat):df (some l) k=(l[k]?).bind fun I=>if I.cl = .gone then none else some I:=by unfold df;cases h:l[k]? <;> simp[h]
theorem map_flatten {es:List (List ay)}(f:ay->ay):(es.map fun e=>e.map f).flatten=es.flatten.map f:=by
 induction es with
 | nil=>rfl
 | cons e es ih=>rw[List.map_cons,ahW,ahW,List.map_append,ih]
theorem cB.merge (h:cB g s ax a w){r eQ:Nat}{l fC:List aU}(ai:s.aM r=some l)(hv:s.aM eQ=some fC)(cU:eQ≠r):
 ∃bL,cB g ((s.setRow eQ (fC.map sb)).setRow r (l++fC.map (m8 eQ r l.length))) bL a w /\
  ∀x v,Rel w (s.ok g ax w) s.a3 (s.bd ax) x v->Rel w (((s.setRow eQ (fC.map sb)).setRow r (l++fC.map (m8 eQ r l.length))).ok g bL w)
   ((s.setRow eQ (fC.map sb)).setRow r (l++fC.map (m8 eQ r l.length))).a3 (((s.setRow eQ (fC.map sb)).setRow r (l++fC.map (m8 eQ r l.length))).bd bL) (lc eQ r l.length x) v:=by
 generalize us:(s.setRow eQ (fC.map sb)).setRow r (l++fC.map (m8 eQ r l.length))=s2
 let bL:fz:=fun q k=>if q=r/\l.length<=k then ax eQ (k-l.length) else ax q k
 have bm : ∀q k I,s2.af q k=some I->(q=r/\l.length<=k/\ ∃p,s.af eQ (k-l.length)=some p/\I=m8 eQ r l.length p/\bL q k=ax eQ (k-l.length)) \/
  (q≠eQ/\s.af q k=some I/\bL q k=ax q k/\ ¬(q=r/\l.length<=k)):=by
  intro q k I ah;subst us;rw[l9] at ah;by_cases e:q=r;rotate_left
  ·rw[dA e,l9] at ah
   by_cases aD:q=eQ
   ·subst aD
    rw[dw rfl,kP,dK] at ah
    cases ae:fC[k]? with
    | none=>rw[ae] at ah;simp at ah
    | some p=>rw[ae] at ah;simp[sb] at ah
   rw[dA aD] at ah;exact .inr ⟨aD,ah,by simp[bL,e],fun gf=>e gf.1⟩
  subst e;rw[dw rfl] at ah;by_cases aZ:l.length<=k
  ·left
   refine⟨rfl,aZ,?_⟩;rw[kP,aib aZ,dK] at ah
   cases ae:fC[k-l.length]? with
   | none=>rw[ae] at ah;simp at ah
   | some p =>
    rw[ae] at ah;simp only[dR,dB] at ah;split at ah
    ·simp at ah
    rename_i dj;simp only[dz] at ah;refine⟨p,?_,ah.symm,by simp[bL,aZ]⟩;unfold S.af;rw[hv,kP,ae,dB,dA (by simpa [m8] using dj)]
  right;refine⟨Ne.symm cU,?_,by simp[bL,aZ],fun gf=>aZ gf.2⟩;unfold S.af;rw[ai,kP];rw[kP,ah4 (by omega)] at ah;exact ah
 have jP : ∀q k,s.a3 q k->s2.a3 q k:=by
  intro q k a1;subst us;rw[n2];by_cases e:q=r
  ·subst e;rw[dw rfl];simp[S.a3,ai] at a1;simp;omega
  rw[dA e,n2];by_cases aD:q=eQ
  ·subst aD;rw[dw rfl];simpa [S.a3,hv] using a1
  rw[dA aD];exact a1
 have DM : ∀k,s.a3 eQ k->s2.a3 r (l.length+k):=by intro k a1;subst us;rw[n2,dw rfl];simp[S.a3,hv] at a1;simp;omega
 have DN : ∀k,s2.bd bL r (l.length+k)=s.bd ax eQ k:=by
  intro k;subst us;simp only[S.bd];rw[l9,dw rfl];unfold S.af;rw[hv,kP,kP,aib (by omega),dK,show l.length+k-l.length=k by omega]
  cases ae:fC[k]? with
  | none=>simp
  | some p =>
   simp only[dR,dB];by_cases dj:p.cl = .gone
   ·rw[dw dj,dw (by simpa [m8] using dj)];rfl
   rw[dA dj,dA (by simpa [m8] using dj)];simp[bL,m8]
 have lV : ∀q k,s.a3 q k->s2.bd bL q k=s.bd ax q k\/s2.bd bL q k=none:=by
  intro q k a1
  cases ah:s2.af q k with
  | none=>right;simp[S.bd,ah]
  | some I =>
   left;rcases bm q k I ah with ⟨rfl,aD,-⟩|⟨-,aD,bH,-⟩
   ·simp[S.a3,ai] at a1;omega
   rw[ir ah,ir aD,bH]
 have qD : ∀b,s2.mx bL b->s.mx ax b:=by
  rintro b ⟨q,k,I,m,h1,o,aa⟩;rcases bm q k I h1 with ⟨-,-,p,e1,aD,bH⟩|⟨-,e1,aD,-⟩
  ·rw[bH] at aa;subst aD;exact⟨eQ,_,p,m,e1,o,aa⟩
  rw[aD] at aa;exact⟨q,k,I,m,e1,o,aa⟩
 have c3:Step g s ax w s2 bL w:=⟨jP,lV,fun b aO=> .inl (qD b aO),fun _ _ _=>rfl,dG _⟩
 have D9 : ∀x v,Rel w (s.ok g ax w) s.a3 (s.bd ax) x v->Rel w (s2.ok g bL w) s2.a3 (s2.bd bL) (lc eQ r l.length x) v:=by
  intro x v lZ
  induction lZ with
  | dead v=>exact .dead v
  | b x=>exact .b x
  | n k x=>exact .n k x
  | s x=>exact .s x
  | iR=>exact .iR
  | fs=>exact .fs
  | iV a c=>exact .iV a c
  | @qz r1 k i off a hu gf =>
   unfold lc;split
   ·rename_i e;subst e;exact .qz a (DM k hu) (by rw[DN];exact gf)
   exact c3.rel (.qz a hu gf)
  | @ref r1 k i off sz ek m hu gf =>
   unfold lc;split
   ·rename_i e;subst e;exact .ref (DM k hu) (by rw[DN];exact gf)
   exact c3.rel (.ref hu gf)
  | @n5 r1 k bE len a bl b8 hu gf =>
   unfold lc;split
   ·rename_i e;subst e;exact .n5 a bl b8 (DM k hu) (by rw[DN];exact gf)
   exact c3.rel (.n5 a bl b8 hu gf)
  | @ox r1 k sz hu gf =>
   unfold lc;split
   ·rename_i e;subst e;exact .ox (DM k hu) (by rw[DN];exact gf)
   exact c3.rel (.ox hu gf)
  | @bu r1 k bE len sz ek m c a hu gf aO a8 lX =>
   unfold lc;split
   ·rename_i e;subst e;exact .bu (DM k hu) (by rw[DN];exact gf) aO a8 lX
   exact c3.rel (.bu hu gf aO a8 lX)
  | @nC r1 c sz v h0 ih =>
   unfold lc;split
   ·exact .nC (c3.rel h0)
   exact c3.rel (.nC h0)
  | @oF r1 c sz k n v h0 ih =>
   unfold lc;split
   ·rename_i e;subst e;unfold lc at ih;rw[dw rfl] at ih;exact .oF (by rw[show k+(l.length+c)=l.length+(k+c) by omega];exact ih)
   exact c3.rel (.oF h0)
  | kp sz a c h=>exact .kp sz a c h
  | isl cs aL ae aO a8 hw i6 lZ ih=>exact c3.rel (.isl cs aL ae aO a8 hw i6 lZ)
  | fi cs aL ae aO hw i6 lZ ih=>exact c3.rel (.fi cs aL ae aO hw i6 lZ)
  | qd sz=>exact .qd sz
  | pD h0 ih=>exact c3.rel (.pD h0)
  | agg vs aO i6 lZ ih =>
   unfold lc;rw[F8];refine .agg vs (by simpa using aO) i6 fun j x v U bb=> ?_;rw[dK,dO] at U;obtain⟨y,aR,rfl⟩:=U;exact ih j y v aR bb
  | d9 vs aO lZ ih =>
   unfold lc;rw[F8];refine .d9 vs (by simpa using aO) fun j x v U bb=> ?_;rw[dK,dO] at U;obtain⟨y,aR,rfl⟩:=U;exact ih j y v aR bb
  | fn vs aO lZ ih=>exact c3.rel (.fn vs aO lZ)
 refine⟨bL,{toiK:=⟨?_,?_,?_,h.gW,h.mlt,h.oe,?_,h.low⟩,env:=fun t=>by rw[show s2.E=s.E by rw[<- us];rfl];exact c3.rel (h.env t),defers:=h.defers,j9:=h.j9},D9⟩
 ·intro q k I ah
  rcases bm q k I ah with ⟨-,-,p,e1,aD,bH⟩|⟨-,e1,aD,-⟩;rotate_left
  ·rw[aD];exact c3.obj (fun b m _=>rfl) (h.obj q k I e1)
  rw[bH];subst aD;have ae:=h.obj eQ _ p e1
  cases kS:ax eQ (k-l.length) with
  | none=>rw[kS] at ae;simp only[jr] at ae ⊢;simp[m8,ae]
  | some uN =>
   obtain⟨b,m⟩:=uN;rw[kS] at ae;obtain⟨c,eB,f1,f2,f3,f4⟩:=ae;refine⟨c,eB,f1,f2,?_,fun j x U=> ?_⟩
   ·intro e he;simp only[m8,List.mem_map] at he;obtain⟨ez,mE,rfl⟩:=he;simpa [m8] using f3 ez mE
   simp only[m8] at U;rw[map_flatten,dK,dO] at U;obtain⟨y,aR,rfl⟩:=U;obtain⟨u,l6,oS,hp⟩:=f4 j y aR;exact⟨u,l6,oS,D9 y u hp⟩
 ·intro q k I q1 kX bY b m bi h1 o aa ao
  rcases bm q k I h1 with ⟨rfl,f1,p,e1,aD,bH⟩|⟨f1,e1,aD,f2⟩<;>rcases bm q1 kX bY o with ⟨rfl,Bb,kI,nM,qj,D6⟩|⟨Bb,nM,qj,ag1⟩
  ·rw[bH] at aa;rw[D6] at ao;obtain⟨-,e⟩:=h.inj _ _ _ _ _ _ b m bi e1 nM aa ao;exact⟨rfl,by omega⟩
  ·rw[bH] at aa;rw[qj] at ao;obtain⟨e,-⟩:=h.inj _ _ _ _ _ _ b m bi e1 nM aa ao;exact absurd e.symm Bb
  ·rw[aD] at aa;rw[D6] at ao;obtain⟨e,-⟩:=h.inj _ _ _ _ _ _ b m bi e1 nM aa ao;exact absurd e f1
  rw[aD] at aa;rw[qj] at ao;exact h.inj _ _ _ _ _ _ b m bi e1 nM aa ao
 ·intro q k I b m h1 o
  rcases bm q k I h1 with ⟨-,-,p,e1,aD,bH⟩|⟨-,e1,aD,-⟩
  ·rw[bH] at o;exact h.own eQ _ p b m e1 o
  rw[aD] at o;exact h.own q k I b m e1 o
 exact c3.stay h.stay
end
def ay.jg:ay->Bool
 | .dead | .b _ | .n .. | .s _ | .iR | .fs | .iV | .isl .. | .fi .. | .kr .. => true
 | _=>false
def ay.C9:ay->Bool
 | .agg c=>c.all ay.jg
 | .fn _ c=>c.all ay.jg
 | x=>x.jg
def ay.Sj:ay->Bool
 | .d9 c=>c.all ay.C9
 | x=>x.C9
section
variable {w:World} {ok:Nat->Prop} {a3:jH} {bd:jx}
theorem Rel.AQ {x:ay}{v:Value}(h:Rel w ok a3 bd x v)(aX:x.jg=true):Pure x:=by
 cases h with
 | dead=>exact .dead
 | b=>exact .b _
 | n=>exact .n _ _
 | s=>exact .s _
 | iR=>exact .iR
 | fs=>exact .fs
 | iV=>exact .iV
 | kp=>exact .isl (by simp)
 | isl cs aL ae=>exact .isl ae
 | fi cs aL ae=>exact .fi ae
 | qd sz=>exact .qd sz
 | pD h=>cases h with|fi cs aL ae=>exact .pD fun x U=>ae _ (List.mem_singleton.2 rfl) x U
 | _=>simp[ay.jg] at aX
theorem PP {c:List ay}{vs:List Value}(aO:vs.length=c.length)(ai:∀(j:Nat) x u,c[j]? = some x->vs[j]? = some u->Rel w ok a3 bd x u)
 (aX:c.all ay.jg=true) : ∀x∈c,Pure x:=by
 intro x U;obtain⟨j,au⟩:=aia U;have dZ:j<vs.length:=by have:=gi au;omega
 exact(ai j x _ au (dx dZ)).AQ (List.all_eq_true.1 aX x U)
theorem Rel.Gj {x:ay}{v:Value}(h:Rel w ok a3 bd x v)(aX:x.C9=true):Pure x:=by
 cases h with
 | agg vs aO a8 ai=>exact .agg (PP aO ai aX)
 | fn vs aO ai=>exact .fn (PP aO ai aX)
 | dead=>exact .dead
 | b=>exact .b _
 | n=>exact .n _ _
 | s=>exact .s _
 | iR=>exact .iR
 | fs=>exact .fs
 | iV=>exact .iV
 | kp=>exact .isl (by simp)
 | isl cs aL ae=>exact .isl ae
 | fi cs aL ae=>exact .fi ae
 | qd sz=>exact .qd sz
 | pD h=>cases h with|fi cs aL ae=>exact .pD fun x U=>ae _ (List.mem_singleton.2 rfl) x U
 | _=>simp[ay.C9,ay.jg] at aX
theorem Rel.ac8 {x:ay}{v:Value}(h:Rel w ok a3 bd x v)(aX:x.Sj=true):Pure x:=by
 by_cases cb : ∃c,x = .d9 c
 ·obtain⟨c,rfl⟩:=cb;obtain⟨vs,rfl,aO,ai⟩:=h.Av;refine .d9 fun x U=> ?_;obtain⟨j,au⟩:=aia U;have dZ:j<vs.length:=(by have:=gi au;omega);exact(ai j x _ au (dx dZ)).Gj (List.all_eq_true.1 aX x U)
 refine h.Gj ?_;cases x<;>first|exact aX|exact absurd ⟨_,rfl⟩ cb
end
def cK:List Nat->Nat->Option Nat
 | [],_=>none
 | x::l,r=>if x=r then some 0 else (cK l r).map (· + 1)
theorem PQ : ∀ {l:List Nat} {r j:Nat},cK l r=some j->l[j]? = some r
 | x::l,r,j,h=>by
  unfold cK at h;split at h
  ·simp at h;subst h;simp[*]
  rw[dO] at h;obtain⟨i,ab,rfl⟩:=h;simpa using PQ ab
theorem PR : ∀ {l:List Nat} {r j:Nat},l.Nodup->l[j]? = some r->cK l r=some j
 | x::l,r,j,aX,h=>by
  rw[List.nodup_cons] at aX;unfold cK
  cases j with
  | zero=>simp at h;simp[h]
  | succ j =>
   simp at h;have:x≠r:=(by rintro rfl;exact aX.1 (dH h));rw[dA this,PR aX.2 h];rfl
def Ea (eb:Nat)(jO:List aU)(bU:gB->Bool)(x cN:ay):Prop :=
 (cN=x/\x.jg=true)\/(∃c sz,x = .jj eb c sz none/\cN = .isl sz [])\/ ∃k bE len I,(x = .bu eb k bE len\/ ∃c sz jJ,k=jJ+c/\bE=0/\x = .jj eb c sz (some (jJ,len)))/\df (some jO) k=some I/\bU I.cl=true/\bE+len<=I.es.length /\
   jA ((I.es.drop bE).take len)/\cN = .isl I.sz ((I.es.drop bE).take len)
def ER (eb:Nat)(jO:List aU)(bU:gB->Bool)(sz:Nat)(es gE:List (List ay)):Prop :=
 gE.length=es.length/\(∀e∈gE,e.length=sz)/\ ∀(j:Nat) x cN,es.flatten[j]? = some x->gE.flatten[j]? = some cN->Ea eb jO bU x cN
def mc (aM:Nat->Option (List aU))(b4:Nat->Option Nat)(aW:g9)(bU:gB->Bool):sx->ay->Option (ay×List Prop)
 | .id,x=>if x.jg then some (x,[]) else
  match x with
  | .ref r k i off=>match b4 r with
   | some j=>some (.ref j k i off,[])
   | none=>none
  | .bu r k bE len=>match b4 r with
   | some j=>some (.bu j k bE len,[])
   | none=>none
  | .jj r c sz h=>match b4 r with
   | some j=>some (.jj j c sz h,[])
   | none=>none
  | _=>none
 | .i3 sz,.fs=>some (.isl sz [],[])
 | .i3 sz,.iV=>some (.isl sz [],[])
 | .dv gE,.bu r k bE len=>match df (aM r) k with
  | some I=>if bU I.cl && (b4 r).isNone then some (.isl I.sz gE,[gE=(I.es.drop bE).take len,bE+len<=I.es.length,jA gE]) else none
  | none=>none
 | .jS,_=>some (.dead,[])
 | .cw y,x=>if x.jg then some (y,[x=y]) else none
 | .len n,.bu r k bE len=>match b4 r with
  | some j=>some (.bu j k bE n,[len=n])
  | none=>none
 | .LI sz,x=>match x with
  | .iR=>some (.kr sz none,[])
  | .fi GO [c] 0 0=>if GO=sz then some (.kr sz (some c),[]) else none
  | _=>none
 | .at_ j i n,.bu r k bE len=>some (.bu j i bE n,[aW j i=some (r,k),len=n])
 | .at_ j i _,.ref r k x y=>some (.ref j i x y,[aW j i=some (r,k)])
 | .view eb I gE,.bu r k bE len=>match aM r,aM eb with
  | some row,some jO=>if (b4 r).isNone && (b4 eb).isNone then
   some (.isl I.sz gE,[df (some row) k=some I,bU I.cl=true,bE+len<=I.es.length,jA gE,ER eb jO bU I.sz ((I.es.drop bE).take len) gE]) else none
  | _,_=>none
 | _,_=>none
def me {α β:Type}(f:α->β->Option (β×List Prop)):List α->List β->Option (List β×List Prop)
 | [],[]=>some ([],[])
 | a::l,b::m=>match f a b,me f l m with
  | some (kk,bY),some (bi,aN)=>some (kk::bi,bY++aN)
  | _,_=>none
 | _,_=>none
def o5 (aM:Nat->Option (List aU))(b4:Nat->Option Nat)(aW:g9)(bU:gB->Bool):Bu->ay->Option (ay×List Prop)
 | .cW c,x=>if x.C9 then (match c with | .id=>some (x,[]) | .jS=>some (.dead,[]) | .cw y=>some (y,[x=y])|c=>mc aM b4 aW bU c x) else mc aM b4 aW bU c x
 | .agg l,.agg c=>match me (mc aM b4 aW bU) l c with
  | some (d6,af)=>some (.agg d6,af)
  | none=>none
 | .ptr l,.ref r k i off=>match df (aM r) k with
  | some I=>match I.es with
   | [c]=>if bU I.cl && (b4 r).isNone then
    match me (mc aM b4 aW bU) l c with
    | some (d6,af)=>some (.fi I.sz [d6] i off,af++[jA [d6]])
    | none=>none
    else none
   | _=>none
  | none=>none
 | .Kl l,x=>match x with
  | .ref r k 0 0=>match df (aM r) k with
   | some I=>match I.es with
    | [c]=>if bU I.cl && (b4 r).isNone then
     match me (mc aM b4 aW bU) l c with
     | some (d6,af)=>some (.kr I.sz (some d6),af++[jA [d6]])
     | none=>none
     else none
    | _=>none
   | none=>none
  | _=>none
 | _,_=>none
def oB (aM:Nat->Option (List aU))(b4:Nat->Option Nat)(aW:g9)(bU:gB->Bool):lI->ay->Option (ay×List Prop)
 | .bl c,x=>if x.Sj then (match c with | .cW .id=>some (x,[])|c=>o5 aM b4 aW bU c x) else o5 aM b4 aW bU c x
 | .comp l,.d9 c=>match me (o5 aM b4 aW bU) l c with
  | some (d6,af)=>some (.d9 d6,af)
  | none=>none
 | .comp l,.fn f c=>match me (o5 aM b4 aW bU) l c with
  | some (d6,af)=>some (.fn f d6,af)
  | none=>none
 | _,_=>none
def vd (row:List aU):Prop:= ∀I∈row,jA I.es/\I.cl = .live
def nj (row:List aU):Prop:= ∀I∈row,I.cl = .live\/I.cl = .gone
def oM (b4:Nat->Option Nat):ay->ay
 | .ref r k i off=>match b4 r with|some j=> .ref j k i off|none=> .dead
 | .bu r k bE len=>match b4 r with|some j=> .bu j k bE len|none=> .dead
 | .jj r c sz h=>match b4 r with|some j=> .jj j c sz h|none=> .dead
 | x=>if x.jg then x else .dead
def j1 (b4:Nat->Option Nat)(I:aU):aU:={I with es:=I.es.map fun e=>e.map (oM b4)}
def jC (aM:Nat->Option (List aU))(b4:Nat->Option Nat)(aW:g9)(bU:gB->Bool):iO->List aU->Option (List aU×List Prop)
 | .pure,row=>some (row,[vd row])
 | .cw dV,row=>some (dV,[row=dV,vd dV])
 | .b0 dV,row=>some (dV,[dV=row.map (j1 b4),nj row])
 | .box l,[I]=>match I.es with
  | [c]=>if I.cl = .live then match me (mc aM b4 aW bU) l c with
   | some (d6,af)=>some ([{I with es:=[d6]}],af)
   | none=>none
   else none
  | _=>none
 | _,_=>none
structure uO (q:ay->Prop) (bU:gB->Bool):Prop extends Down q where
 all : ∀k,bU k=true-> ∀x,q x
theorem vK (bU:gB->Bool):uO mJ bU:={toDown:=ac4,all:=fun _ _ _=>trivial}
theorem aed:uO bT (fun _=>false):={toDown:=ac6,all:=fun _ h=>by simp at h}
structure ns (s:S) (aW:g9) (b4:Nat->Option Nat) (bU:gB->Bool):Prop where
 ab : ∀r j,b4 r=some j-> ∀k,aW j k=some (r,k)
 aX : ∀r,b4 r=none-> ∀k I,s.af r k=some I->bU I.cl=true-> ∀j i,aW j i≠some (r,k)
section
variable {g:G} {s:S} {ax:fz} {w:World} {aW:g9} {b4:Nat->Option Nat} {bU:gB->Bool} {q:ay->Prop}
theorem FN {α β:Type}(f:α->β->Option (β×List Prop)): ∀(l:List α) (m bi:List β) (af:List Prop),me f l m=some (bi,af) ->
 bi.length=m.length/\l.length=m.length/\ ∀(j:Nat) b kk,m[j]? = some b->bi[j]? = some kk-> ∃x b3,l[j]? = some x/\f x b=some (kk,b3)/\ ∀p∈b3,p∈af
 | [],[],bi,af,h=>by simp[me] at h;obtain⟨rfl,rfl⟩:=h;exact⟨rfl,rfl,fun j b kk aL=>by simp at aL⟩
 | [],_::_,_,_,h=>by simp[me] at h
 | _::_,[],_,_,h=>by simp[me] at h
 | x::l,b::m,bi,af,h=>by
  simp only[me] at h;split at h
  ·rename_i kk bY hG aN h1 o
   simp only[dz,dD] at h;obtain⟨rfl,rfl⟩:=h;obtain⟨e1,aD,bH⟩:=FN f l m hG aN o;refine⟨by simp[e1],by simp[aD],fun j c d6 a8 ta=> ?_⟩
   cases j with
   | zero =>
    simp at a8 ta;subst a8;subst ta;exact⟨x,bY,rfl,h1,fun p ae=>by simp[ae]⟩
   | succ j =>
    simp at a8 ta;obtain⟨y,b3,f1,f2,f3⟩:=bH j c d6 a8 ta;exact⟨y,b3,by simpa using f1,f2,fun p ae=>by simp[f3 p ae]⟩
  simp at h
theorem Jo (er:iK g s ax w)(H:ns s aW b4 bU)(bF:uO q bU){c:sx}{x cN:ay}{af:List Prop}(h:mc s.aM b4 aW bU c x=some (cN,af))(bm:∀p∈af,p)
 (a1:q x) {v:Value} (ai:Rel w (s.ok g ax w) s.a3 (s.bd ax) x v):im s aW bU q x cN:=by
 have jP : ∀ {r k bE len:Nat},x = .bu r k bE len->s.a3 r k:=by intro r k bE len e;subst e;cases ai<;>assumption
 cases c with
 | id =>
  simp only[mc] at h;split at h
  ·rename_i aX;simp only[dz,dD] at h;obtain⟨rfl,rfl⟩:=h;exact .pure (ai.AQ aX) a1
  split at h
  ·rename_i r k i off _
   split at h
   ·rename_i j au;simp only[dz,dD] at h;obtain⟨rfl,rfl⟩:=h;exact .ref i off (H.ab r j au k) (by cases ai<;>assumption)
   simp at h
  ·rename_i r k bE len _
   split at h
   ·rename_i j au;simp only[dz,dD] at h;obtain⟨rfl,rfl⟩:=h;exact .bu bE len (H.ab r j au k) (jP rfl)
   simp at h
  ·rename_i r c sz gf _
   split at h
   ·rename_i j au;simp only[dz,dD] at h;obtain⟨rfl,rfl⟩:=h;exact .jj gf (fun k=>H.ab r j au _)
   simp at h
  simp at h
 | i3 sz =>
  cases x<;>simp[mc] at h
  ·obtain⟨rfl,rfl⟩:=h;exact .fs sz
  obtain⟨rfl,rfl⟩:=h;exact .iV sz
 | dv gE =>
  cases x<;>simp only[mc,reduceCtorEq] at h;rename_i r k bE len;split at h;rotate_left
  ·simp at h
  rename_i I ah;split at h;rotate_left
  ·simp at h
  rename_i a8;simp only[ahU,Option.isNone_iff_eq_none] at a8;simp only[dz,dD] at h;obtain⟨rfl,rfl⟩:=h;have h1:gE=(I.es.drop bE).take len:=bm _ (by simp);have o:bE+len<=I.es.length:=bm _ (by simp);have aa:jA gE:=bm _ (by simp);have ea:s.af r k=some I:=ah
  have hlen : ∀e∈I.es,e.length=I.sz:=by
   have fP:=er.obj r k I ea
   cases ae:ax r k with
   | none=>rw[ae] at fP;simp only[jr] at fP;rw[fP];simp
   | some q=>rw[ae] at fP;obtain⟨_,_,_,_,e,_⟩:=fP;exact e
  refine .isl ea a8.1 (H.aX r a8.2 k I ea a8.1) o aa ?_ ?_ ?_
  ·rw[h1];exact fun e he=>hlen e (List.mem_of_mem_drop (List.mem_of_mem_take he))
  ·rw[h1];simp;omega
  intro j y mM aR oN;rw[h1] at oN;rw[aR] at oN;simp at oN;subst oN;rw[h1] at aa;obtain⟨e,he,Eb⟩:=tH aR;exact .pure (aa e he y Eb) (bF.all _ a8.1 y)
 | jS =>
  simp only[mc,dz,dD] at h;obtain⟨rfl,rfl⟩:=h;exact .dead x
 | cw y =>
  simp only[mc] at h;split at h
  ·rename_i aX;simp only[dz,dD] at h;obtain⟨rfl,rfl⟩:=h;have e:x=y:=bm _ (by simp);subst e;exact .pure (ai.AQ aX) a1
  simp at h
 | len n =>
  cases x<;>simp only[mc,reduceCtorEq] at h;rename_i r k bE len;split at h
  ·rename_i j au;simp only[dz,dD] at h;obtain⟨rfl,rfl⟩:=h;have e:len=n:=bm _ (by simp);subst e;exact .bu bE len (H.ab r j au k) (jP rfl)
  simp at h
 | at_ j i n =>
  cases x<;>simp only[mc,reduceCtorEq] at h
  ·rename_i r k x y;simp only[dz,dD] at h;obtain⟨rfl,rfl⟩:=h;exact .ref x y (bm _ (List.mem_cons_self)) (by cases ai<;>assumption)
  rename_i r k bE len;simp only[dz,dD] at h;obtain⟨rfl,rfl⟩:=h;have e:len=n:=bm _ (by simp);subst e;exact .bu bE len (bm _ (List.mem_cons_self)) (jP rfl)
 | view eb I gE =>
  cases x<;>simp only[mc,reduceCtorEq] at h;rename_i r k bE len;split at h;rotate_left
  ·simp at h
  rename_i row jO dh ac9;split at h;rotate_left
  ·simp at h
  rename_i a8;simp only[ahU,Option.isNone_iff_eq_none] at a8;simp only[dz,dD] at h;obtain⟨rfl,rfl⟩:=h;have h1:df (some row) k=some I:=bm _ (by simp);have o:bU I.cl=true:=bm _ (by simp);have aa:bE+len<=I.es.length:=bm _ (by simp);have ao:jA gE:=bm _ (by simp);have aC:ER eb jO bU I.sz ((I.es.drop bE).take len) gE:=bm _ (by simp);have ea:s.af r k=some I:=(by unfold S.af;rw[dh];exact h1);obtain⟨d1,d2,vV⟩:=aC;refine .isl ea o (H.aX r a8.1 k I ea o) aa ao d2 (by rw[d1];simp;omega) fun j y mM aR oN=> ?_;rcases vV j y mM aR oN with ⟨rfl,aX⟩|⟨b8,S8,rfl,rfl⟩|⟨i4,GW,Gv,p,Ec,e1,aD,bH,cX,rfl⟩
  ·obtain⟨e,he,Eb⟩:=tH oN;exact .pure (ao e he mM Eb) (bF.all _ o _)
  ·exact .nC _ _ _
  have lE:s.af eb i4=some p:=by unfold S.af;rw[ac9];exact e1
  have hlen : ∀e∈p.es,e.length=p.sz:=by
   have fP:=er.obj eb i4 p lE
   cases ae:ax eb i4 with
   | none=>rw[ae] at fP;simp only[jr] at fP;rw[fP];simp
   | some q=>rw[ae] at fP;obtain⟨_,_,_,_,e,_⟩:=fP;exact e
  have Sk:im s aW bU q (.bu eb i4 GW Gv) (.isl p.sz ((p.es.drop GW).take Gv)):=(by refine .isl lE aD (H.aX eb a8.2 i4 p lE aD) bH cX (fun e he=>hlen e (List.mem_of_mem_drop (List.mem_of_mem_take he))) (by simp;omega) fun j z ahM cj xN=> ?_;rw[cj] at xN;simp at xN;subst xN;obtain⟨e,he,aee⟩:=tH cj;exact .pure (cX e he z aee) (bF.all _ aD _));rcases Ec with rfl|⟨cW,ag2,jJ,rfl,rfl,rfl⟩
  ·exact Sk
  exact .oF Sk
 | LI sz =>
  simp only[mc] at h;split at h
  ·simp only[dz,dD] at h;obtain⟨rfl,rfl⟩:=h;exact .Gi _
  ·split at h
   ·rename_i e;subst e;simp only[dz,dD] at h;obtain⟨rfl,rfl⟩:=h;exact .kr (.pure (ai.AQ rfl) a1)
   simp at h
  simp at h
theorem CO (er:iK g s ax w)(H:ns s aW b4 bU)(bF:uO q bU){l:List sx}{c d6:List ay}{af:List Prop}(h:me (mc s.aM b4 aW bU) l c=some (d6,af))(bm:∀p∈af,p)
 (a1 : ∀x∈c,q x) {vs:List Value} (aO:vs.length=c.length) (ai : ∀(j:Nat) x u,c[j]? = some x->vs[j]? = some u->Rel w (s.ok g ax w) s.a3 (s.bd ax) x u) :
 d6.length=c.length/\ ∀(j:Nat) x cN,c[j]? = some x->d6[j]? = some cN->im s aW bU q x cN:=by
 obtain⟨e1,aD,bH⟩:=FN _ l c d6 af h;refine⟨e1,fun j x cN U dY=> ?_⟩;obtain⟨y,b3,f1,f2,f3⟩:=bH j x cN U dY;have dZ:j<vs.length:=by have:=gi U;omega
 exact Jo er H bF f2 (fun p ae=>bm p (f3 p ae)) (a1 x (dH U)) (ai j x _ U (dx dZ))
theorem Jp (er:iK g s ax w)(H:ns s aW b4 bU)(bF:uO q bU){c:Bu}{x cN:ay}{af:List Prop}(h:o5 s.aM b4 aW bU c x=some (cN,af))(bm:∀p∈af,p)
 (a1:q x) {v:Value} (ai:Rel w (s.ok g ax w) s.a3 (s.bd ax) x v):im s aW bU q x cN:=by
 cases c with
 | cW c =>
  simp only[o5] at h;split at h;rotate_left
  ·exact Jo er H bF h bm a1 ai
  rename_i aX;split at h
  ·simp only[dz,dD] at h;obtain⟨rfl,rfl⟩:=h;exact .pure (ai.Gj aX) a1
  ·simp only[dz,dD] at h;obtain⟨rfl,rfl⟩:=h;exact .dead _
  ·simp only[dz,dD] at h;obtain⟨rfl,rfl⟩:=h;have e:=bm _ (List.mem_singleton.2 rfl);subst e;exact .pure (ai.Gj aX) a1
  exact Jo er H bF h bm a1 ai
 | agg l =>
  cases x<;>simp only[o5,reduceCtorEq] at h;rename_i c;split at h
  ·rename_i d6 oi a8;simp only[dz,dD] at h;obtain⟨rfl,rfl⟩:=h;obtain⟨vs,rfl,aO,-,Ed⟩:=ai.Au;obtain⟨e1,aD⟩:=CO er H bF a8 bm (fun y aR=>bF.agg _ _ a1 aR) aO Ed;exact .agg e1 aD
  simp at h
 | ptr l =>
  cases x<;>simp only[o5,reduceCtorEq] at h;rename_i r k i off;split at h;rotate_left
  ·simp at h
  rename_i I ah;split at h;rotate_left
  ·simp at h
  rename_i c h5;split at h;rotate_left
  ·simp at h
  rename_i a8;simp only[ahU,Option.isNone_iff_eq_none] at a8;split at h;rotate_left
  ·simp at h
  rename_i d6 oi i6;simp only[dz,dD] at h;obtain⟨rfl,rfl⟩:=h;have ea:s.af r k=some I:=ah;have fP:=er.obj r k I ea
  cases ae:ax r k with
  | none=>rw[ae] at fP;simp only[jr] at fP;rw[h5] at fP;simp at fP
  | some q =>
   obtain⟨b,m⟩:=q;rw[ae] at fP;obtain⟨cf,eB,g1,g2,g3,g4⟩:=fP;have Kr:c.length=I.sz:=g3 c (by rw[h5];simp);have j0:I.es.flatten=c:=(by rw[h5];simp);have hcs : ∀j:Nat,j<c.length-> ∃u,cf[j]? = some u/\Rel w (s.ok g ax w) s.a3 (s.bd ax) c[j]! u:=(by intro j au;obtain⟨u,l6,-,hp⟩:=g4 j c[j] (by rw[j0];exact dx au);exact⟨u,l6,by rw[getElem!_pos c j au];exact hp⟩);obtain⟨e1,aD⟩:=CO (vs:=(List.range c.length).map fun j=>(cf[j]?).getD undef) er H bF i6 (fun p ae=>bm p (by simp[ae])) (fun y _=>bF.all _ a8.1 y) (by simp) (by intro j y u aR hu;have au:=gi aR;rw[dK,List.getElem?_range au] at hu;simp only[dR,dz] at hu;obtain⟨q3,l6,hp⟩:=hcs j au;rw[l6] at hu;simp at hu;subst hu;rw[dx au] at aR;simp at aR;subst aR;rw[getElem!_pos c j au] at hp;exact hp);have ua:jA [d6]:=bm _ (by simp);refine .fi i off ea a8.1 (H.aX r a8.2 k I ea a8.1) (by rw[h5];simp) ua (by simp;omega) (by rw[h5];rfl) ?_;intro j y mM aR oN;rw[j0] at aR;simp only[ahW,List.flatten_nil,List.append_nil] at oN;exact aD j y mM aR oN
 | Kl l =>
  simp only[o5] at h;split at h;rotate_left
  ·simp at h
  rename_i r k;split at h;rotate_left
  ·simp at h
  rename_i I ah;split at h;rotate_left
  ·simp at h
  rename_i c h5;split at h;rotate_left
  ·simp at h
  rename_i a8;simp only[ahU,Option.isNone_iff_eq_none] at a8;split at h;rotate_left
  ·simp at h
  rename_i d6 oi i6;simp only[dz,dD] at h;obtain⟨rfl,rfl⟩:=h;have ea:s.af r k=some I:=ah;have fP:=er.obj r k I ea
  cases ae:ax r k with
  | none=>rw[ae] at fP;simp only[jr] at fP;rw[h5] at fP;simp at fP
  | some q =>
   obtain⟨b,m⟩:=q;rw[ae] at fP;obtain⟨cf,eB,g1,g2,g3,g4⟩:=fP;have Kr:c.length=I.sz:=g3 c (by rw[h5];simp);have j0:I.es.flatten=c:=(by rw[h5];simp);have hcs : ∀j:Nat,j<c.length-> ∃u,cf[j]? = some u/\Rel w (s.ok g ax w) s.a3 (s.bd ax) c[j]! u:=(by intro j au;obtain⟨u,l6,-,hp⟩:=g4 j c[j] (by rw[j0];exact dx au);exact⟨u,l6,by rw[getElem!_pos c j au];exact hp⟩);obtain⟨e1,aD⟩:=CO (vs:=(List.range c.length).map fun j=>(cf[j]?).getD undef) er H bF i6 (fun p ae=>bm p (by simp[ae])) (fun y _=>bF.all _ a8.1 y) (by simp) (by intro j y u aR hu;have au:=gi aR;rw[dK,List.getElem?_range au] at hu;simp only[dR,dz] at hu;obtain⟨q3,l6,hp⟩:=hcs j au;rw[l6] at hu;simp at hu;subst hu;rw[dx au] at aR;simp at aR;subst aR;rw[getElem!_pos c j au] at hp;exact hp);have ua:jA [d6]:=bm _ (by simp);refine .kr (.fi 0 0 ea a8.1 (H.aX r a8.2 k I ea a8.1) (by rw[h5];simp) ua (by simp;omega) (by rw[h5];rfl) ?_);intro j y mM aR oN;rw[j0] at aR;simp only[ahW,List.flatten_nil,List.append_nil] at oN;exact aD j y mM aR oN
theorem CS (er:iK g s ax w)(H:ns s aW b4 bU)(bF:uO q bU){c:lI}{x cN:ay}{af:List Prop}(h:oB s.aM b4 aW bU c x=some (cN,af))(bm:∀p∈af,p)
 (a1:q x) {v:Value} (ai:Rel w (s.ok g ax w) s.a3 (s.bd ax) x v):im s aW bU q x cN:=by
 have key : ∀(l:List Bu) (c d6:List ay) (oi:List Prop) (vs:List Value),me (o5 s.aM b4 aW bU) l c=some (d6,oi)->(∀p∈oi,p)->(∀x∈c,q x)->vs.length=c.length ->
  (∀(j:Nat) x u,c[j]? = some x->vs[j]? = some u->Rel w (s.ok g ax w) s.a3 (s.bd ax) x u)->d6.length=c.length/\ ∀(j:Nat) x cN,c[j]? = some x->d6[j]? = some cN->im s aW bU q x cN:=by
  intro l c d6 oi vs h bm a1 aO ai;obtain⟨e1,aD,bH⟩:=FN _ l c d6 oi h;refine⟨e1,fun j x cN U dY=> ?_⟩;obtain⟨y,b3,f1,f2,f3⟩:=bH j x cN U dY;have dZ:j<vs.length:=(by have:=gi U;omega);exact Jp er H bF f2 (fun p ae=>bm p (f3 p ae)) (a1 x (dH U)) (ai j x _ U (dx dZ))
 cases c with
 | bl c =>
  simp only[oB] at h;split at h
  ·rename_i aX
   split at h
   ·simp only[dz,dD] at h;obtain⟨rfl,rfl⟩:=h;exact .pure (ai.ac8 aX) a1
   exact Jp er H bF h bm a1 ai
  exact Jp er H bF h bm a1 ai
 | comp l =>
  cases x<;>simp only[oB,reduceCtorEq] at h
  ·rename_i c
   split at h
   ·rename_i d6 oi a8;simp only[dz,dD] at h;obtain⟨rfl,rfl⟩:=h;obtain⟨vs,rfl,aO,Ed⟩:=ai.Av;obtain⟨e1,aD⟩:=key l c d6 oi vs a8 bm (fun y aR=>bF.d9 _ _ a1 aR) aO Ed;exact .d9 e1 aD
   simp at h
  rename_i f c;split at h
  ·rename_i d6 oi a8;simp only[dz,dD] at h;obtain⟨rfl,rfl⟩:=h;obtain⟨vs,rfl,aO,Ed⟩:=ai.F7;obtain⟨e1,aD⟩:=key l c d6 oi vs a8 bm (fun y aR=>bF.fn _ _ _ a1 aR) aO Ed;exact .fn e1 aD
  simp at h
theorem Sl (er:iK g s ax w)(H:ns s aW b4 bU){r:Nat}{kw:Nat->Nat}{row:List aU}(dh:∀k I,df (some row) k=some I->s.af r (kw k)=some I)
 (a1 : ∀k I,df (some row) k=some I-> ∀e∈I.es,∀x∈e,q x) :
 ∀(k:Nat) b3,df (some (row.map (j1 b4))) k=some b3-> ∃I,df (some row) k=some I/\pb s aW bU q I b3:=by
 intro k b3 ea;rw[kP,dK] at ea
 cases aZ:row[k]? with
 | none=>rw[aZ] at ea;simp at ea
 | some I =>
  rw[aZ] at ea;simp only[dR,dB] at ea;split at ea
  ·simp at ea
  rename_i dj;simp only[dz] at ea;subst ea;have ah:df (some row) k=some I:=(by rw[kP,aZ,dB,dA (by simpa [j1] using dj)]);have bX:s.af r (kw k)=some I:=dh k I ah;refine⟨I,ah,?_⟩;have fP:=er.obj r (kw k) I bX
  have hlen : ∀e∈I.es,e.length=I.sz:=by
   cases ae:ax r (kw k) with
   | none=>rw[ae] at fP;simp only[jr] at fP;rw[fP];simp
   | some q=>rw[ae] at fP;obtain⟨_,_,_,_,e,_⟩:=fP;exact e
  refine⟨rfl,.inl rfl,by simp[j1],?_,fun j x cN U dY=> ?_⟩
  ·intro e he;simp only[j1,List.mem_map] at he;obtain⟨ez,mE,rfl⟩:=he;simpa using hlen ez mE
  simp only[j1] at dY;rw[map_flatten,dK,U] at dY;simp only[dR,dz] at dY;subst dY;obtain⟨e,he,rD⟩:=tH U;have aef:=a1 k I ah e he x rD
  cases ae:ax r (kw k) with
  | none=>rw[ae] at fP;simp only[jr] at fP;rw[fP] at U;simp at U
  | some uN =>
   obtain⟨b,m⟩:=uN;rw[ae] at fP;obtain⟨c,eB,f1,f2,f3,f4⟩:=fP;obtain⟨u,l6,oS,hp⟩:=f4 j x U
   cases x with
   | ref bM i4 qo adD =>
    cases cb:b4 bM with
    | none=>simp only[oM,cb];exact .dead _
    | some yf=>simp only[oM,cb];exact .ref qo adD (H.ab _ _ cb _) (by cases hp<;>assumption)
   | bu bM i4 GW Gv =>
    cases cb:b4 bM with
    | none=>simp only[oM,cb];exact .dead _
    | some yf=>simp only[oM,cb];exact .bu GW Gv (H.ab _ _ cb _) (by cases hp<;>assumption)
   | jj bM b8 S8 o =>
    cases cb:b4 bM with
    | none=>simp only[oM,cb];exact .dead _
    | some yf=>simp only[oM,cb];exact .jj o (fun k=>H.ab _ _ cb _)
   | _ =>
    simp only[oM];split
    ·rename_i aX;exact .pure (hp.AQ aX) aef
    exact .dead _
theorem FO (er:iK g s ax w)(H:ns s aW b4 bU)(bF:uO q bU){c:iO}{r:Nat}{kw:Nat->Nat}{row dV:List aU}{af:List Prop}(dh:∀k I,df (some row) k=some I->s.af r (kw k)=some I)
 (h:jC s.aM b4 aW bU c row=some (dV,af)) (bm : ∀p∈af,p) (a1 : ∀k I,df (some row) k=some I-> ∀e∈I.es,∀x∈e,q x) :
 dV.length=row.length/\(∀k I,df (some row) k=some I->I.cl = .live) /\
 ∀(k:Nat) b3,df (some dV) k=some b3-> ∃I,df (some row) k=some I/\pb s aW bU q I b3:=by
 have hlen : ∀k I,df (some row) k=some I-> ∀e∈I.es,e.length=I.sz:=by
  intro k I ah;have ea:s.af r (kw k)=some I:=dh k I ah;have fP:=er.obj r (kw k) I ea
  cases ae:ax r (kw k) with
  | none=>rw[ae] at fP;simp only[jr] at fP;rw[fP];simp
  | some q=>rw[ae] at fP;obtain⟨_,_,_,_,e,_⟩:=fP;exact e
 have ua:vd row->(∀k I,df (some row) k=some I->I.cl = .live) /\
  ∀(k:Nat) b3,df (some row) k=some b3-> ∃I,df (some row) k=some I/\pb s aW bU q I b3:=by
  intro ae
  have ry : ∀k I,df (some row) k=some I->I∈row:=by
   intro k I ah;unfold df at ah;simp only at ah;split at ah
   ·rename_i b3 ea
    split at ah
    ·simp at ah
    simp at ah;subst ah;exact dH ea
   simp at ah
  refine⟨fun k I ah=>(ae I (ry k I ah)).2,fun k I ah=>⟨I,ah,rfl,.inl rfl,rfl,hlen k I ah,fun j x cN U dY=> ?_⟩⟩;rw[U] at dY;simp at dY;subst dY;obtain⟨e,he,rD⟩:=tH U;exact .pure ((ae I (ry k I ah)).1 e he x rD) (a1 k I ah e he x rD)
 cases c with
 | pure =>
  simp only[jC,dz,dD] at h;obtain⟨rfl,rfl⟩:=h;exact⟨rfl,ua (bm _ (by simp))⟩
 | cw aJ =>
  simp only[jC,dz,dD] at h;obtain⟨rfl,rfl⟩:=h;have e:row=aJ:=bm _ (by simp);subst e;exact⟨rfl,ua (bm _ (by simp))⟩
 | b0 aJ =>
  simp only[jC,dz,dD] at h;obtain⟨rfl,rfl⟩:=h;have e:aJ=row.map (j1 b4):=bm _ (by simp);have KU:nj row:=bm _ (by simp);subst e
  refine⟨by simp,fun k I ah=>by
   unfold df at ah;simp only at ah;split at ah
   ·rename_i b3 ea
    split at ah
    ·simp at ah
    rename_i dj;simp at ah;subst ah;exact(KU _ (dH ea)).resolve_right dj
   simp at ah,Sl er H dh a1⟩
 | rx aJ=>cases row with
  | nil=>simp[jC] at h
  | cons I l=>cases l<;>simp[jC] at h
 | drop=>cases row with
  | nil=>simp[jC] at h
  | cons I l=>cases l<;>simp[jC] at h
 | box l =>
  match row,h with
  | [I],h =>
   simp only[jC] at h;split at h;rotate_left
   ·simp at h
   rename_i c h5;split at h;rotate_left
   ·simp at h
   rename_i nN;split at h;rotate_left
   ·simp at h
   rename_i d6 oi a8;simp only[dz,dD] at h;obtain⟨rfl,rfl⟩:=h;have h0:df (some [I]) 0=some I:=(by rw[mR];simp[nN]);refine⟨rfl,fun k p ae=> ?_,fun k p ae=> ?_⟩
   ·rw[mR] at ae
    split at ae
    ·simp at ae;subst ae;exact nN
    simp at ae
   rw[mR] at ae;split at ae;rotate_left
   ·simp at ae
   rename_i uu;obtain⟨rfl,-⟩:=uu;simp only[dz] at ae;subst ae;refine⟨I,h0,?_⟩;have ea:s.af r (kw 0)=some I:=dh 0 I h0;have fP:=er.obj r (kw 0) I ea
   cases kS:ax r (kw 0) with
   | none=>rw[kS] at fP;simp only[jr] at fP;rw[h5] at fP;simp at fP
   | some q =>
    obtain⟨b,m⟩:=q;rw[kS] at fP;obtain⟨cf,eB,g1,g2,g3,g4⟩:=fP;have Kr:c.length=I.sz:=g3 c (by rw[h5];simp);have j0:I.es.flatten=c:=(by rw[h5];simp);obtain⟨e1,aD⟩:=CO (vs:=(List.range c.length).map fun j=>(cf[j]?).getD undef) er H bF a8 bm (fun y aR=>a1 0 I h0 c (by rw[h5];simp) y aR) (by simp) (by intro j y u aR hu;have au:=gi aR;rw[dK,List.getElem?_range au] at hu;simp only[dR,dz] at hu;obtain⟨q3,l6,-,hp⟩:=g4 j y (by rw[j0];exact aR);rw[l6] at hu;simp at hu;subst hu;exact hp);refine⟨rfl,.inl rfl,by simp[h5],by simp;omega,fun j x cN U dY=> ?_⟩;rw[j0] at U;simp only[ahW,List.flatten_nil,List.append_nil] at dY;exact aD j x cN U dY
  | [],h=>simp[jC] at h
  | _::_::_,h=>simp[jC] at h
end
def FP (P:Program)(f:FuncId):Prop:= ∃fn,P.funcs[f]? = some fn/\(fn.name == "runtime.NumGoroutine")=false/\fn.body.isSome=true
def Con (P:Program)(f:FuncId)(args:List ay)(T:List (List aU))(r:ay)(iP:List (List aU)):Prop:=FP P f/\ac5 P f args T r iP
def ub (k:gB):Bool:=k = .jF
def k9 (_:gB):Bool:=true
def lk (_:gB):Bool:=false
def Src.r:Src->Nat
 | .row r=>r
 | .af r _ _=>r
def Src.has:Src->Nat->Nat->Prop
 | .row r,q,_=>q=r
 | .af r k _,q,dc=>q=r/\dc=k
def Src.kK:Src->Nat->Nat
 | .row _,k=>k
 | .af ..,_=>0
def kU (l:List Src):g9:=fun j i=>match l[j]? with
 | some (.row r)=>some (r,i)
 | some (.af r k _)=>if i=0 then some (r,k) else none
 | none=>none
def pE (n:Nat):List Src->Nat->Option Nat
 | [],_=>none
 | .row r::l,q=>if r=q then some n else pE (n+1) l q
 | .af .. :: l,q=>pE (n+1) l q
def jQ (n:Nat):List Src->g9
 | [],_,_=>none
 | .row r::l,q,k=>if q=r then some (n,k) else jQ (n+1) l q k
 | .af r dc _::l,q,k=>if q=r/\k=dc then some (n,0) else jQ (n+1) l q k
def uc (l:List Src):Nat->Option Nat:=fun j=>match l[j]? with
 | some (.row r)=>some r
 | _=>none
def apart:Src->Src->Option (List Prop)
 | .af r k _,.af eQ dc _=>if r=eQ then some [k≠dc] else some []
 | a,b=>if a.r=b.r then none else some []
def F9 (a:Src):List Src->Option (List Prop)
 | []=>some []
 | b::l=>match apart a b,F9 a l with
  | some x,some y=>some (x++y)
  | _,_=>none
def Gk:List Src->Option (List Prop)
 | []=>some []
 | a::l=>match F9 a l,Gk l with
  | some x,some y=>some (x++y)
  | _,_=>none
def DO (l:List Src):Prop:=l.Pairwise fun a b=> ∀r k,¬(a.has r k/\b.has r k)
theorem aa1 {a b:Src}{af:List Prop}(h:apart a b=some af)(bm:∀p∈af,p): ∀r k,¬(a.has r k/\b.has r k):=by
 rintro r k ⟨h1,o⟩
 have ai : ∀c:Src,c.has r k->c.r=r:=fun c a8=>by
  cases c with
  | row r0=>exact Eq.symm a8
  | af r0 jJ l7=>exact Eq.symm a8.1
 have e:=(ai a h1).trans (ai b o).symm
 cases a with
 | row r0=>simp only[apart] at h;rw[dw e] at h;simp at h
 | af r0 jJ l7 =>
  cases b with
  | row r1=>simp only[apart] at h;rw[dw e] at h;simp at h
  | af r1 kX bY =>
   simp only[apart] at h;rw[dw (show r0=r1 from e)] at h;simp only[dz] at h;subst h;exact bm _ (List.mem_singleton.2 rfl) (h1.2.symm.trans o.2)
theorem Qi {a:Src}: ∀ {l:List Src} {af:List Prop},F9 a l=some af->(∀p∈af,p)-> ∀b∈l,∀r k,¬(a.has r k/\b.has r k)
 | [],_,_,_,_,aL=>by simp at aL
 | b::l,af,h,bm,c,a8=>by
  simp only[F9] at h;split at h
  ·rename_i x y h1 o
   simp only[dz] at h;subst h;rcases dT.1 a8 with rfl|a8
   ·exact aa1 h1 fun p ae=>bm p (by simp[ae])
   exact Qi o (fun p ae=>bm p (by simp[ae])) c a8
  simp at h
theorem QK : ∀ {l:List Src} {af:List Prop},Gk l=some af->(∀p∈af,p)->DO l
 | [],_,_,_=>List.Pairwise.nil
 | a::l,af,h,bm=>by
  simp only[Gk] at h;split at h
  ·rename_i x y h1 o;simp only[dz] at h;subst h;exact List.pairwise_cons.2 ⟨Qi h1 fun p ae=>bm p (by simp[ae]),QK o fun p ae=>bm p (by simp[ae])⟩
  simp at h
theorem vf {l:List Src}{j i r k:Nat}:kU l j i=some (r,k)↔ ∃a,l[j]? = some a/\a.has r k/\i=a.kK k:=by
 unfold kU
 cases h:l[j]? with
 | none=>simp
 | some a =>
  cases a with
  | row r0 =>
   simp only[dz,dD,exists_eq_left',Src.has,Src.kK];constructor<;>rintro⟨a,b⟩<;>exact⟨a.symm,b⟩
  | af r0 jJ I =>
   simp only[dz,exists_eq_left',Src.has,Src.kK];by_cases e:i=0
   ·rw[dw e];simp only[dz,dD,e,and_true];constructor<;>rintro⟨a,b⟩<;>exact⟨a.symm,b.symm⟩
   rw[dA e];simp[e]
theorem w6 : ∀ {l:List Src} {n r k j i:Nat},jQ n l r k=some (j,i)-> ∃a,n<=j/\l[j-n]? = some a/\a.has r k/\i=a.kK k
 | [],_,_,_,_,_,h=>by simp[jQ] at h
 | .row r0::l,n,r,k,j,i,h=>by
  simp only[jQ] at h;split at h
  ·rename_i e;simp only[dz,dD] at h;obtain⟨rfl,rfl⟩:=h;exact⟨.row r0,dG _,by simp,e,rfl⟩
  obtain⟨a,h1,o,aa,ao⟩:=w6 h;exact⟨a,by omega,by rw[show j-n=(j-(n+1))+1 by omega,List.getElem?_cons_succ];exact o,aa,ao⟩
 | .af r0 jJ I::l,n,r,k,j,i,h=>by
  simp only[jQ] at h;split at h
  ·rename_i e;simp only[dz,dD] at h;obtain⟨rfl,rfl⟩:=h;exact⟨.af r0 jJ I,dG _,by simp,e,rfl⟩
  obtain⟨a,h1,o,aa,ao⟩:=w6 h;exact⟨a,by omega,by rw[show j-n=(j-(n+1))+1 by omega,List.getElem?_cons_succ];exact o,aa,ao⟩
theorem sS (n:Nat)(a:Src)(l:List Src)(r k:Nat)(h:¬a.has r k):jQ n (a::l) r k=jQ (n+1) l r k:=by cases a<;>simp only[jQ,Src.has] at h ⊢ <;> rw[dA h]
theorem aa2 (n:Nat)(a:Src)(l:List Src)(r k:Nat)(h:a.has r k):jQ n (a::l) r k=some (n,a.kK k):=by cases a<;>simp only[jQ,Src.has,Src.kK] at h ⊢ <;> rw[dw h]
theorem Da : ∀ {l:List Src} {n r k j:Nat} {a:Src},DO l->l[j]? = some a->a.has r k->jQ n l r k=some (n+j,a.kK k)
 | b::l,n,r,k,0,a,_,h,bC=>by simp at h;subst h;exact aa2 n b l r k bC
 | b::l,n,r,k,j+1,a,bF,h,bC=>by simp at h;have bF:=List.pairwise_cons.1 bF;rw[sS n b l r k fun aL=>bF.1 a (dH h) r k ⟨aL,bC⟩,Da (j:=j) bF.2 h bC];congr 2;omega
theorem acy {a:Src}{r k eQ dc:Nat}(h:a.has r k)(cF:a.has eQ dc)(e:a.kK k=a.kK dc):r=eQ/\k=dc:=by cases a<;>simp only[Src.has,Src.kK] at h cF e<;>omega
theorem abT {l:List Src}{n r k eQ dc:Nat}{p:Nat×Nat}(h:jQ n l r k=some p)(cF:jQ n l eQ dc=some p):r=eQ/\k=dc:=by obtain⟨j,i⟩:=p;obtain⟨a,h1,o,aa,ao⟩:=w6 h;obtain⟨dU,rC,KV,aeg,ag3⟩:=w6 cF;rw[o] at KV;simp at KV;subst KV;exact acy aa aeg (by omega)
theorem I9 : ∀ {l:List Src} {n r j:Nat},pE n l r=some j->n<=j/\l[j-n]? = some (.row r)
 | [],_,_,_,h=>by simp[pE] at h
 | .row r0::l,n,r,j,h=>by
  simp only[pE] at h;split at h
  ·rename_i e;simp at h;subst h;subst e;exact⟨dG _,by simp⟩
  obtain⟨h1,o⟩:=I9 h;exact⟨by omega,by rw[show j-n=(j-(n+1))+1 by omega,List.getElem?_cons_succ];exact o⟩
 | .af r0 jJ I::l,n,r,j,h=>by simp only[pE] at h;obtain⟨h1,o⟩:=I9 h;exact⟨by omega,by rw[show j-n=(j-(n+1))+1 by omega,List.getElem?_cons_succ];exact o⟩
theorem Qj : ∀ {l:List Src} {n r:Nat},pE n l r=none->Src.row r ∉ l
 | [],_,_,_=>by simp
 | .row r0::l,n,r,h=>by
  simp only[pE] at h;split at h
  ·simp at h
  rename_i e;simp only[dT,Src.row.injEq,not_or];exact⟨fun h=>e h.symm,Qj h⟩
 | .af r0 jJ I::l,n,r,h=>by simp only[pE] at h;simp only[dT,reduceCtorEq,false_or];exact Qj h
def mV (aM:Nat->Option (List aU))(b4:Nat->Option Nat)(aW:g9):List Src->List iO->Option (List (List aU)×List Prop)
 | [],[]=>some ([],[])
 | .row r::l,c::dd=>match aM r with
  | some row=>match jC aM b4 aW ub c row,mV aM b4 aW l dd with
   | some (dV,bY),some (T,aN)=>some (dV::T,bY++aN)
   | _,_=>none
  | none=>none
 | .af r k I::l,c::dd=>match aM r with
  | some row=>match jC aM b4 aW ub c [I],mV aM b4 aW l dd with
   | some (dV,bY),some (T,aN)=>some (dV::T,(df (some row) k=some I)::(bY++aN))
   | _,_=>none
  | none=>none
 | _,_=>none
def lv (yg:Nat->Option (List aU))(b4:Nat->Option Nat)(lg:g9):(Nat->Option (List aU))->List Src->List iO->List (List aU)->Option (List (Nat×List aU)×List Prop)
 | _,[],[],[]=>some ([],[])
 | aM,.row q::l,c::dd,row::T=>match jC yg b4 lg lk c row with
  | some (dV,bY)=>match lv yg b4 lg (fun x=>if x=q then some dV else aM x) l dd T with
   | some (u,aN)=>some ((q,dV)::u,bY++aN)
   | none=>none
  | none=>none
 | aM,.af q k _::l,c::dd,row::T=>match aM q with
  | some ml=>match jC yg b4 lg lk c row with
   | some ([b3],bY)=>match lv yg b4 lg (fun x=>if x=q then some (ml.set k b3) else aM x) l dd T with
    | some (u,aN)=>some ((q,ml.set k b3)::u,bY++aN)
    | none=>none
   | _=>none
  | none=>none
 | _,_,_,_=>none
def pK (T:List (List aU)):Prop:= ∀row∈T,∀I∈row,∀e∈I.es,∀x∈e,bT x
def AR (P:Program)(aM:Nat->Option (List aU))(aT:Nat)(f:FuncId)(args:List ay)(cf:yb):Option hk :=
 let l:=if cf.fm.length=cf.aW.length then cf.aW else cf.aW++[.row aT]
 match Gk cf.aW with
 | none=>none
 | some l7 =>
  if cf.aW.any (fun a=>decide (a.r=aT)) then none else
  if cf.eu then
   match cf.aW with
   | [] =>
    match me (oB aM (fun _=>none) (kU []) k9) cf.ac args,oB (fun j=>cf.fm[j]?) (uc l) (jQ 0 l) lk cf.ho cf.r,
     lv (fun j=>cf.fm[j]?) (uc l) (jQ 0 l) aM l cf.iW cf.fm with
    | some (rp,bY),some (eQ,fA),some (u,ew)=>some {val:=eQ,fU:=u,fu:=bY++fA++ew++[Con P f rp [] cf.r cf.fm,bT cf.r]++(if cf.fm.isEmpty then [] else [pK cf.fm])}
    | _,_,_=>none
   | _=>none
  else
   match me (oB aM (pE 0 cf.aW) (kU cf.aW) ub) cf.ac args,mV aM (pE 0 cf.aW) (kU cf.aW) cf.aW cf.dd,
    oB (fun j=>cf.fm[j]?) (uc l) (jQ 0 l) lk cf.ho cf.r,lv (fun j=>cf.fm[j]?) (uc l) (jQ 0 l) aM l cf.iW cf.fm with
   | some (rp,bY),some (T,aN),some (eQ,fA),some (u,ew) =>
    some {val:=eQ,fU:=u,fu:=l7++bY++aN++fA++ew++[Con P f rp T cf.r cf.fm]}
   | _,_,_,_=>none
theorem PS {aM:Nat->Option (List aU)}{b4:Nat->Option Nat}{aW:g9}{bU:gB->Bool}{c:iO}{row dV:List aU}{af:List Prop}(h:jC aM b4 aW bU c row=some (dV,af))(bm:∀p∈af,p):
 ∀k I,df (some row) k=some I->I.cl = .live:=by
 have ry : ∀k I,df (some row) k=some I->I∈row/\I.cl≠ .gone:=by
  intro k I ah;rw[kP] at ah
  cases aZ:row[k]? with
  | none=>rw[aZ] at ah;simp at ah
  | some p =>
   rw[aZ,dB] at ah;split at ah
   ·simp at ah
   rename_i e;simp at ah;subst ah;exact⟨dH aZ,e⟩
 intro k I ah;obtain⟨h1,o⟩:=ry k I ah
 cases c with
 | pure =>
  simp only[jC,dz,dD] at h;obtain⟨rfl,rfl⟩:=h;exact((bm _ (List.mem_singleton.2 rfl):vd row) I h1).2
 | cw aJ =>
  simp only[jC,dz,dD] at h;obtain⟨rfl,rfl⟩:=h;have e:row=aJ:=bm _ (by simp);have ae:vd aJ:=bm _ (by simp);exact(ae I (e▸h1)).2
 | b0 aJ =>
  simp only[jC,dz,dD] at h;obtain⟨rfl,rfl⟩:=h;have ae:nj row:=bm _ (by simp);exact(ae I h1).resolve_right o
 | rx aJ=>cases row with
  | nil=>simp[jC] at h
  | cons I l=>cases l<;>simp[jC] at h
 | drop=>cases row with
  | nil=>simp[jC] at h
  | cons I l=>cases l<;>simp[jC] at h
 | box l =>
  match row,h,h1 with
  | [p],h,h1 =>
   simp only[jC] at h;rw[List.mem_singleton] at h1;subst h1;split at h
   ·split at h
    ·rename_i e;exact e
    simp at h
   simp at h
  | [],h,_=>simp[jC] at h
  | _::_::_,h,_=>simp[jC] at h
section
variable {P:Program} {g:G} {s:S} {ax:fz} {a:Act} {w:World}
theorem Ja (er:iK g s ax w){aW:g9}{b4:Nat->Option Nat}(H:ns s aW b4 ub): ∀(l:List Src) (dd:List iO) (T:List (List aU)) (af:List Prop),
 mV s.aM b4 aW l dd=some (T,af)->(∀p∈af,p)->T.length=l.length/\ ∀(j:Nat) dV b,T[j]? = some dV->l[j]? = some b ->
  (∀r k I,b.has r k->s.af r k=some I->I.cl = .live)/\(∀r k,b.has r k->s.a3 r k->b.kK k<dV.length) /\
  (∀r k I,b = .af r k I->s.af r k=some I) /\
  ∀(i:Nat) b3,df (some dV) i=some b3-> ∃r k I,b.has r k/\i=b.kK k/\s.af r k=some I/\pb s aW ub mJ I b3
 | [],[],T,af,h,_=>by simp[mV] at h;obtain⟨rfl,rfl⟩:=h;exact⟨rfl,fun j dV r au=>by simp at au⟩
 | .row r::l,c::dd,T,af,h,bm=>by
  simp only[mV] at h;split at h;rotate_left
  ·simp at h
  rename_i row dh;split at h;rotate_left
  ·simp at h
  rename_i aA bY nU aN h1 o;simp only[dz,dD] at h;obtain⟨rfl,rfl⟩:=h;obtain⟨e1,aD⟩:=Ja er H l dd nU aN o (fun p ae=>bm p (by simp[ae]));have jh : ∀k,s.af r k=df (some row) k:=fun k=>(by unfold S.af;rw[dh]);obtain⟨f0,f1,f2⟩:=FO (q:=mJ) (kw:=id) er H (vK _) (fun k I ah=>(jh k).trans ah) h1 (fun p ae=>bm p (by simp[ae])) (fun _ _ _ _ _ _ _=>trivial);refine⟨by simp[e1],fun j dV b au aL=> ?_⟩
  cases j with
  | zero =>
   simp at au aL;subst au;subst aL;refine⟨fun q k I a1 ah=> ?_,fun q k a1 hu=> ?_,fun _ _ _ e=>by simp at e,fun i b3 ea=> ?_⟩
   ·have a1:q=r:=a1;subst a1;rw[jh] at ah;exact f1 k I ah
   ·have a1:q=r:=a1;subst a1;rw[f0];simpa [S.a3,dh,Src.kK] using hu
   obtain⟨I,g1,g2⟩:=f2 i b3 ea;exact⟨r,i,I,rfl,rfl,(jh i).trans g1,g2⟩
  | succ j=>simp at au aL;exact aD j dV b au aL
 | .af r jJ l7::l,c::dd,T,af,h,bm=>by
  simp only[mV] at h;split at h;rotate_left
  ·simp at h
  rename_i row dh;split at h;rotate_left
  ·simp at h
  rename_i aA bY nU aN h1 o;simp only[dz,dD] at h;obtain⟨rfl,rfl⟩:=h;obtain⟨e1,aD⟩:=Ja er H l dd nU aN o (fun p ae=>bm p (by simp[ae]));have ah:s.af r jJ=some l7:=by unfold S.af;rw[dh];exact bm _ (by simp)
  have mB : ∀k I,df (some [l7]) k=some I->k=0/\I=l7:=fun k I aZ=>by
   rw[mR] at aZ;split at aZ
   ·rename_i e;simp at aZ;exact⟨e.1,aZ.symm⟩
   simp at aZ
  have KW:l7.cl≠ .gone:=by
   unfold S.af at ah;rw[dh,kP] at ah
   cases aZ:row[jJ]? with
   | none=>rw[aZ] at ah;simp at ah
   | some p =>
    rw[aZ,dB] at ah;split at ah
    ·simp at ah
    rename_i e;simp at ah;subst ah;exact e
  obtain⟨f0,f1,f2⟩:=FO (q:=mJ) (kw:=fun _=>jJ) (r:=r) er H (vK _) (fun k I aZ=>by rw[(mB k I aZ).2];exact ah) h1 (fun p ae=>bm p (by simp[ae])) (fun _ _ _ _ _ _ _=>trivial);refine⟨by simp[e1],fun j dV b au aL=> ?_⟩
  cases j with
  | zero =>
   simp at au aL;subst au;subst aL;refine⟨fun q k I a1 qO=> ?_,fun q k a1 hu=> ?_,fun eQ dc b3 e=> ?_,fun i b3 ea=> ?_⟩
   ·obtain⟨rfl,rfl⟩:q=r/\k=jJ:=a1;rw[ah] at qO;simp at qO;subst qO;exact f1 0 l7 (by rw[mR];simp[KW])
   ·rw[f0];simp[Src.kK]
   ·cases e;exact ah
   obtain⟨I,g1,g2⟩:=f2 i b3 ea;obtain⟨rfl,rfl⟩:=mB i I g1;exact⟨r,jJ,I,⟨rfl,rfl⟩,rfl,ah,g2⟩
  | succ j=>simp at au aL;exact aD j dV b au aL
 | [],_::_,_,_,h,_=>by simp[mV] at h
 | .row _::_,[],_,_,h,_=>by simp[mV] at h
 | .af .. :: _,[],_,_,h,_=>by simp[mV] at h
theorem I1 {gq:G}{s1:S}{lr:fz}{bJ:World}(er:iK gq s1 lr bJ){lg:g9}{q:ay->Prop}{b4:Nat->Option Nat}(H:ns s1 lg b4 lk)(bF:uO q lk)
 (a1 : ∀j i I,s1.af j i=some I-> ∀e∈I.es,∀x∈e,q x) :
 ∀(l:List Src) (dd:List iO) (T:List (List aU)) (u:List (Nat×List aU)) (af:List Prop) (n:Nat) (s:S),DO l->(∀j row,T[j]? = some row->s1.aM (n+j)=some row) ->
 (∀r k j i,jQ n l r k=some (j,i)->s.a3 r k->s1.a3 j i)->(∀r k I,Src.af r k I∈l->s.a3 r k) ->
 lv s1.aM b4 lg s.aM l dd T=some (u,af)->(∀p∈af,p)->T.length=l.length/\(s.iA u).E=s.E /\
  (∀r k I,(s.iA u).af r k=some I->(∃j i p,jQ n l r k=some (j,i)/\s1.af j i=some p/\pb s1 lg lk q p I)\/(jQ n l r k=none/\s.af r k=some I)) /\
  (∀r k,s.a3 r k->(s.iA u).a3 r k)/\(∀r k j i,jQ n l r k=some (j,i)->s1.a3 j i->(s.iA u).a3 r k)
 | [],[],[],u,af,n,s,_,_,_,_,h,_=>by simp[lv] at h;obtain⟨rfl,rfl⟩:=h;exact⟨rfl,rfl,fun r k I ah=> .inr ⟨rfl,ah⟩,fun r k h=>h,fun r k j i h=>by simp[jQ] at h⟩
 | .row q0::l,c::dd,row::T,u,af,n,s,tu,hN,hu,sl,h,bm=>by
  simp only[lv] at h;split at h;rotate_left
  ·simp at h
  rename_i dV bY h1;split at h;rotate_left
  ·simp at h
  rename_i oS aN o;simp only[dz,dD] at h;obtain⟨rfl,rfl⟩:=h;have Ee:=List.pairwise_cons.1 tu;have iF:s1.aM n=some row:=hN 0 row rfl;have xF : ∀k,s1.af n k=df (some row) k:=fun k=>(by unfold S.af;rw[iF]);obtain⟨f0,f1,f2⟩:=FO (q:=q) (kw:=id) (r:=n) er H bF (fun k I ah=>(xF k).trans ah) h1 (fun p ae=>bm p (by simp[ae])) (fun k I ah=>a1 n k I ((xF k).trans ah));have h4 : ∀k j i,jQ (n+1) l q0 k≠some (j,i):=fun k j i hm=>by obtain⟨b,iN,hG,rQ,LM⟩:=w6 hm;exact Ee.1 b (dH hG) q0 k ⟨rfl,rQ⟩
  have AY : ∀r k,s.a3 r k->(s.setRow q0 dV).a3 r k:=fun r k aZ=>by
   rw[n2];by_cases e:r=q0
   ·subst e;rw[dw rfl,f0];have:=hu r k n k (by simp[jQ]) aZ;simpa [S.a3,iF] using this
   rw[dA e];exact aZ
  obtain⟨e1,aD,bH,cX,di⟩:=I1 er H bF a1 l dd T oS aN (n+1) (s.setRow q0 dV) Ee.2 (fun j row au=>by rw[Nat.add_assoc,Nat.add_comm 1 j];exact hN (j+1) row (by simpa using au))
   (fun r k j i hm aZ=>by have cU:r≠q0:=(by rintro rfl;exact h4 _ _ _ hm);refine hu r k j i ?_ (by rw[n2,dA cU] at aZ;exact aZ);rw[sS n (.row q0) l r k cU];exact hm)
   (fun r k I hm=>AY r k (sl r k I (by simp[hm]))) o (fun p ae=>bm p (by simp[ae]))
  refine⟨by simp[e1],aD,fun r k I ah=> ?_,fun r k aZ=>cX r k (AY r k aZ),fun r k j i hm aZ=> ?_⟩
  ·rcases bH r k I ah with ⟨j,i,p,iN,hG,rQ⟩|⟨iN,hG⟩
   ·have cU:r≠q0:=(by rintro rfl;exact h4 _ _ _ iN);exact .inl ⟨j,i,p,by rw[sS n (.row q0) l r k cU];exact iN,hG,rQ⟩
   rw[l9] at hG;by_cases e:r=q0
   ·subst e;rw[dw rfl] at hG;obtain⟨p,g1,g2⟩:=f2 k I hG;exact .inl ⟨n,k,p,by simp[jQ],(xF k).trans g1,g2⟩
   rw[dA e] at hG;exact .inr ⟨by rw[sS n (.row q0) l r k e];exact iN,hG⟩
  by_cases e:r=q0
  ·subst e;simp only[jQ,if_true] at hm;simp only[dz,dD] at hm;obtain⟨rfl,rfl⟩:=hm;refine cX r k ?_;rw[n2,dw rfl,f0];simpa [S.a3,iF] using aZ
  rw[sS n (.row q0) l r k e] at hm;exact di r k j i hm aZ
 | .af q0 jJ l7::l,c::dd,row::T,u,af,n,s,tu,hN,hu,sl,h,bm=>by
  simp only[lv] at h;split at h;rotate_left
  ·simp at h
  rename_i ml Gw;split at h;rotate_left
  ·simp at h
  rename_i b3 bY h1;split at h;rotate_left
  ·simp at h
  rename_i oS aN o;simp only[dz,dD] at h;obtain⟨rfl,rfl⟩:=h;have Ee:=List.pairwise_cons.1 tu;have iF:s1.aM n=some row:=hN 0 row rfl;have xF : ∀k,s1.af n k=df (some row) k:=fun k=>(by unfold S.af;rw[iF]);obtain⟨f0,f1,f2⟩:=FO (q:=q) (kw:=id) (r:=n) er H bF (fun k I ah=>(xF k).trans ah) h1 (fun p ae=>bm p (by simp[ae])) (fun k I ah=>a1 n k I ((xF k).trans ah));have h4 : ∀j i,jQ (n+1) l q0 jJ≠some (j,i):=fun j i hm=>(by obtain⟨b,iN,hG,rQ,LM⟩:=w6 hm;exact Ee.1 b (dH hG) q0 jJ ⟨⟨rfl,rfl⟩,rQ⟩);have AY : ∀r k,s.a3 r k->(s.setRow q0 (ml.set jJ b3)).a3 r k:=Fq s Gw (by simp);have uu:jJ<ml.length:=by have:=sl q0 jJ l7 (by simp);simpa [S.a3,Gw] using this
  obtain⟨e1,aD,bH,cX,di⟩:=I1 er H bF a1 l dd T oS aN (n+1) (s.setRow q0 (ml.set jJ b3)) Ee.2 (fun j row au=>by rw[Nat.add_assoc,Nat.add_comm 1 j];exact hN (j+1) row (by simpa using au))
   (fun r k j i hm aZ=>by
     have cU : ¬(Src.af q0 jJ l7).has r k:=(by rintro⟨rfl,rfl⟩;exact h4 _ _ hm);refine hu r k j i (by rw[sS n _ l r k cU];exact hm) ?_;rw[n2] at aZ;split at aZ
     ·rename_i e;subst e;simpa [S.a3,Gw] using aZ
     exact aZ)
   (fun r k I hm=>AY r k (sl r k I (by simp[hm]))) o (fun p ae=>bm p (by simp[ae]))
  refine⟨by simp[e1],aD,fun r k I ah=> ?_,fun r k aZ=>cX r k (AY r k aZ),fun r k j i hm aZ=> ?_⟩
  ·rcases bH r k I ah with ⟨j,i,p,iN,hG,rQ⟩|⟨iN,hG⟩
   ·have cU : ¬(Src.af q0 jJ l7).has r k:=(by rintro⟨rfl,rfl⟩;exact h4 _ _ iN);exact .inl ⟨j,i,p,by rw[sS n _ l r k cU];exact iN,hG,rQ⟩
   rw[l9] at hG;by_cases e:r=q0
   ·subst e
    rw[dw rfl,kP,ah1] at hG;by_cases aD:jJ=k
    ·subst aD;rw[dw rfl,dw uu,dB] at hG;have rQ:df (some [b3]) 0=some I:=(by rw[kP];exact hG);obtain⟨p,g1,g2⟩:=f2 0 I rQ;exact .inl ⟨n,0,p,by simp[jQ],(xF 0).trans g1,g2⟩
    rw[dA aD] at hG;have cU : ¬(Src.af r jJ l7).has r k:=(by rintro⟨-,rfl⟩;exact aD rfl);exact .inr ⟨by rw[sS n _ l r k cU];exact iN,by unfold S.af;rw[Gw,kP];exact hG⟩
   rw[dA e] at hG;have cU : ¬(Src.af q0 jJ l7).has r k:=(by rintro⟨rfl,-⟩;exact e rfl);exact .inr ⟨by rw[sS n _ l r k cU];exact iN,hG⟩
  by_cases e:(Src.af q0 jJ l7).has r k
  ·obtain⟨rfl,rfl⟩:=e;exact cX r k (AY r k (sl r k l7 (by simp)))
  rw[sS n _ l r k e] at hm;exact di r k j i hm aZ
 | [],[],_::_,_,_,_,_,_,_,_,_,h,_=>by simp[lv] at h
 | [],_::_,_,_,_,_,_,_,_,_,_,h,_=>by simp[lv] at h
 | .row _::_,[],_,_,_,_,_,_,_,_,_,h,_=>by simp[lv] at h
 | .af .. :: _,[],_,_,_,_,_,_,_,_,_,h,_=>by simp[lv] at h
 | .row _::_,_::_,[],_,_,_,_,_,_,_,_,h,_=>by simp[lv] at h
 | .af .. :: _,_::_,[],_,_,_,_,_,_,_,_,h,_=>by simp[lv] at h
theorem QL (h:cB g s ax a w){aT:Nat}(e4:s.aM aT=none){f:FuncId}{args:List ay}{cf:yb}{l:List Src}(oh:l=if cf.fm.length=cf.aW.length then cf.aW else cf.aW++[.row aT])
 (tu:DO cf.aW) (xO : ∀a∈cf.aW,a.r≠aT) {bU:gB->Bool} {A:Nat->Prop} {q:ay->Prop} {T:List (List aU)} {b4:Nat->Option Nat}
 (hA : ∀b,A b->b<w.heap.size) (KR : ∀b,s.ok g ax w b->A b) (KS : ∀r k I b m,s.af r k=some I->bU I.cl=true->ax r k=some (b,m)->A b)
 (aeh:(∀b,A b->s.ok g ax w b)\/(∀x,q x->bT x)) (bF:uO q lk) (Ht:ns s (kU cf.aW) b4 bU)
 (cH:qP s (kU cf.aW) bU mJ (fg T).aM) (qD : ∀r k I,(∃j i,kU cf.aW j i=some (r,k))->s.af r k=some I->I.cl = .live) (hex : ∀r k I,Src.af r k I∈cf.aW->s.a3 r k)
 {rp:List ay} {bY:List Prop} (nK:me (oB s.aM b4 (kU cf.aW) bU) cf.ac args=some (rp,bY)) (sm : ∀p∈bY,p)
 {eQ:ay} {fA:List Prop} (A6:oB (fun j=>cf.fm[j]?) (uc l) (jQ 0 l) lk cf.ho cf.r=some (eQ,fA)) (KX : ∀p∈fA,p)
 {u:List (Nat×List aU)} {ew:List Prop} (Ef:lv (fun j=>cf.fm[j]?) (uc l) (jQ 0 l) s.aM l cf.iW cf.fm=some (u,ew)) (aei : ∀p∈ew,p)
 (AZ:Con P f rp T cf.r cf.fm) (aej:q cf.r) (aek : ∀j i I,(fg cf.fm).af j i=some I-> ∀e∈I.es,∀x∈e,q x)
 {vs:List Value} (aO:vs.length=args.length) (hargs : ∀(j:Nat) x v,args[j]? = some x->vs[j]? = some v->Rel w (s.ok g ax w) s.a3 (s.bd ax) x v) :
 FP P f/\Calls P f vs.toArray w fun e bJ=> ∃v bL,e = .returned v/\cB g (s.iA u) bL a bJ/\Rel bJ ((s.iA u).ok g bL bJ) (s.iA u).a3 ((s.iA u).bd bL) eQ v:=by
 have KY:DO l:=by
  subst oh;split
  ·exact tu
  refine List.pairwise_append.2 ⟨tu,List.pairwise_singleton _ _,fun b aL c a8 r k gf=> ?_⟩;rw[List.mem_singleton] at a8;subst a8;have h1:r=aT:=gf.2;subst h1
  cases b with
  | row r0=>exact xO _ aL (Eq.symm gf.1)
  | af r0 jJ l7=>exact xO _ aL (Eq.symm gf.1.1)
 have S9 : ∀(j:Nat) b,cf.aW[j]? = some b->l[j]? = some b:=by
  intro j b au;subst oh;split
  ·exact au
  rw[ah4 (gi au)];exact au
 have Ta : ∀(j:Nat) b,l[j]? = some b->cf.aW[j]? = some b\/b = .row aT:=by
  intro j b au;subst oh;split at au
  ·exact .inl au
  rw[List.getElem?_append] at au;split at au
  ·exact .inl au
  right;have:=gi au;simp at this;rw[show j-cf.aW.length=0 by omega] at au;simpa using au.symm
 refine⟨AZ.1,?_⟩;obtain⟨gq,q1,a0,bQ,LN,cr,dk,eC,gR⟩:=enter h.toiK A hA KR KS cH qD;obtain⟨e1,aD,bH⟩:=FN _ _ _ _ _ nK;have:=AZ.2 gq (ka ax (kU cf.aW)) w vs.toArray q1 bQ LN cr eC (by simp[aO,e1]) (by intro j cN v dY bb;have au:j<args.length:=(by have:=gi dY;omega);have U:=dx au;obtain⟨c,b3,f1,f2,f3⟩:=bH j _ cN U dY;have D1:vs[j]? = some v:=(by simpa using bb);exact gR (CS h.toiK Ht (vK _) f2 (fun p ae=>sm p (f3 p ae)) trivial (hargs j _ v U D1)) (hargs j _ v U D1));refine this.mono fun e bJ DZ=> ?_;obtain⟨v,lr,rfl,GX,bb⟩:=DZ
 have Ua:ns (fg cf.fm) (jQ 0 l) (uc l) lk:=by
  refine⟨fun j r au k=> ?_,fun _ _ _ _ _ bC=>by simp[lk] at bC⟩;unfold uc at au;split at au
  ·rename_i r0 lZ;simp at au;subst au;have:=Da (n:=0) (r:=r0) (k:=k) KY lZ rfl;simpa [Src.kK] using this
  simp at au
 have Dl : ∀j i r k,kU cf.aW j i=some (r,k)->jQ 0 l r k=some (j,i):=fun j i r k hm=>by obtain⟨b,iN,hG,rfl⟩:=vf.1 hm;have:=Da (n:=0) KY (S9 j b iN) hG;simpa using this
 have Gu : ∀r k j i,jQ 0 l r k=some (j,i)->kU cf.aW j i=some (r,k)\/ ¬s.a3 r k:=fun r k j i hm=>by
  obtain⟨b,-,hG,rQ,LM⟩:=w6 hm;rcases Ta j b (by simpa using hG) with e|e
  ·exact .inl (vf.2 ⟨b,e,rQ,LM⟩)
  subst e;have:r=aT:=rQ;subst this;exact .inr (zW e4 k)
 obtain⟨l6,oS,hp,afn,afo⟩:=I1 (s1:=fg cf.fm) GX Ua bF aek l cf.iW cf.fm u ew 0 s KY (fun j row au=>by simpa [fg] using au)
  (fun r k j i hm aZ=>by
    rcases Gu r k j i hm with e|e
    ·exact(GX.stay j i (by rw[LN];exact cH.a3 _ _ _ _ e aZ)).1
    exact absurd aZ e)
  (fun r k I hm=>by
    obtain⟨j,au⟩:=aia hm;rcases Ta j _ au with e|e
    ·exact hex r k I (dH e)
    cases e) Ef aei
 obtain⟨l5,f1,f2⟩:=leave (q0:=mJ) (q:=q) h q1 (by rw[a0];exact aeh) LN cr dk qD cH GX Dl Gu (fun r k eQ dc p=>abT) (s2:=s.iA u) oS hp afn afo
  (CS GX Ua bF A6 KX aej bb) bb
 exact⟨v,l5,rfl,f1,f2⟩
theorem YY (h:cB g s ax a w){aT:Nat}(e4:s.aM aT=none){f:FuncId}{args:List ay}{cf:yb}{bq:hk}(ap:AR P s.aM aT f args cf=some bq)(cd:∀p∈bq.fu,p)
 {vs:List Value} (aO:vs.length=args.length) (hargs : ∀(j:Nat) x v,args[j]? = some x->vs[j]? = some v->Rel w (s.ok g ax w) s.a3 (s.bd ax) x v) :
 FP P f/\Calls P f vs.toArray w fun e bJ=> ∃v bL,e = .returned v/\cB g (s.iA bq.fU) bL a bJ/\Rel bJ ((s.iA bq.fU).ok g bL bJ) (s.iA bq.fU).a3 ((s.iA bq.fU).bd bL) bq.val v:=by
 unfold AR at ap;simp only at ap;generalize oh:(if cf.fm.length=cf.aW.length then cf.aW else cf.aW++[.row aT])=l at ap;split at ap
 ·simp at ap
 rename_i l7 uv;split at ap
 ·simp at ap
 rename_i adE;have xO : ∀a∈cf.aW,a.r≠aT:=fun b aL e=>adE (List.any_eq_true.2 ⟨b,aL,by simpa using e⟩);split at ap
 ·
  split at ap;rotate_left
  ·simp at ap
  rename_i vL;split at ap;rotate_left
  ·simp at ap
  rename_i rp bY eQ fA u ew nK A6 Ef;simp only[dz] at ap;subst ap;have AZ:Con P f rp [] cf.r cf.fm:=cd _ (by simp);have Eg:bT cf.r:=cd _ (by simp)
  have adF:pK cf.fm:=by
   by_cases e:cf.fm=[]
   ·rw[e];intro row dh;simp at dh
   exact cd _ (by have:cf.fm.isEmpty=false:=(by simpa [List.isEmpty_iff] using e);simp[this])
  refine QL (bU:=k9) (A:=fun b=>b<w.heap.size) (q:=bT) (T:=[]) (b4:=fun _=>none) h e4 oh.symm (by rw[vL];exact List.Pairwise.nil) xO (fun _ aL=>aL) (fun b aL=>aL.1)
   (fun r k I b m ah _ ae=>C8 h.toiK ah ae) (.inr fun _ U=>U) aed ?_ ?_ ?_ ?_ (by rw[vL];exact nK) (fun p ae=>cd p (by simp[ae])) A6 (fun p ae=>cd p (by simp[ae])) Ef (fun p ae=>cd p (by simp[ae])) AZ Eg ?_ aO hargs
  ·refine⟨fun _ _ e=>by simp at e,fun r _ k I _ _ j i e=> ?_⟩;rw[vL] at e;simp[kU] at e
  ·refine⟨fun j i iC eG p e=> ?_,fun j i b3 e=> ?_,fun j i r k e=> ?_⟩
   ·rw[vL] at e;simp[kU] at e
   ·simp[fg,df] at e
   rw[vL] at e;simp[kU] at e
  ·rintro r k I ⟨j,i,e⟩;rw[vL] at e;simp[kU] at e
  ·rintro r k I e;rw[vL] at e;simp at e
  intro j i I ah e he x U;have ah:df (cf.fm[j]?) i=some I:=ah
  cases ai:cf.fm[j]? with
  | none=>rw[ai] at ah;simp[df] at ah
  | some row =>
   rw[ai,kP] at ah
   cases aZ:row[i]? with
   | none=>rw[aZ] at ah;simp at ah
   | some p =>
    rw[aZ,dB] at ah;split at ah
    ·simp at ah
    simp at ah;subst ah;exact adF row (dH ai) p (dH aZ) e he x U
 split at ap;rotate_left
 ·simp at ap
 rename_i rp bY T aN eQ fA u ew nK A5 A6 Ef;simp only[dz] at ap;subst ap;have tu:=QK uv fun p ae=>cd p (by simp[ae]);have AZ:Con P f rp T cf.r cf.fm:=cd _ (by simp);have ab : ∀r j,pE 0 cf.aW r=some j-> ∀k,kU cf.aW j k=some (r,k):=fun r j au k=>by obtain⟨-,o⟩:=I9 au;simp only[kU,show cf.aW[j]? = some (.row r) by simpa using o]
 have KU : ∀(l:List Src) (dd:List iO) (T:List (List aU)) (af:List Prop),mV s.aM (pE 0 cf.aW) (kU cf.aW) l dd=some (T,af)->(∀p∈af,p) ->
  ∀b∈l,∀r k I,b.has r k->s.af r k=some I->I.cl≠ .jF:=by
  intro l
  induction l with
  | nil=>intro _ _ _ _ _ b aL;simp at aL
  | cons b l ih =>
   intro dd T af h0 bm c a8 r k I gf ah
   cases dd with
   | nil=>cases b<;>simp[mV] at h0
   | cons cW dd =>
    cases b with
    | row r0 =>
     simp only[mV] at h0;split at h0
     ·rename_i row dh
      split at h0
      ·rename_i aA p1 nU hX h1 o
       simp only[dz,dD] at h0;obtain⟨rfl,rfl⟩:=h0;rcases dT.1 a8 with rfl|a8
       ·have e:r=r0:=gf;subst e;have ea:df (some row) k=some I:=(by unfold S.af at ah;rw[dh] at ah;exact ah);have:=PS h1 (fun p ae=>bm p (by simp[ae])) k I ea;rw[this];simp
       exact ih dd nU hX o (fun p ae=>bm p (by simp[ae])) c a8 r k I gf ah
      simp at h0
     simp at h0
    | af r0 jJ l7 =>
     simp only[mV] at h0;split at h0;rotate_left
     ·simp at h0
     rename_i row dh;split at h0;rotate_left
     ·simp at h0
     rename_i aA p1 nU hX h1 o;simp only[dz,dD] at h0;obtain⟨rfl,rfl⟩:=h0;rcases dT.1 a8 with rfl|a8;rotate_left
     ·exact ih dd nU hX o (fun p ae=>bm p (by simp[ae])) c a8 r k I gf ah
     obtain⟨rfl,rfl⟩:=gf;have sm:df (some row) k=some l7:=bm _ (by simp);have ea:df (some row) k=some I:=(by unfold S.af at ah;rw[dh] at ah;exact ah);rw[sm] at ea;simp at ea;subst ea
     have KW:l7.cl≠ .gone:=by
      rw[kP] at sm
      cases aZ:row[k]? with
      | none=>rw[aZ] at sm;simp at sm
      | some p =>
       rw[aZ,dB] at sm;split at sm
       ·simp at sm
       rename_i e;simp at sm;subst sm;exact e
     have:=PS h1 (fun p ae=>bm p (by simp[ae])) 0 l7 (by rw[mR];simp[KW]);rw[this];simp
 have Ht:ns s (kU cf.aW) (pE 0 cf.aW) ub:=by refine⟨ab,fun r ai k I ah bC j i hm=> ?_⟩;obtain⟨b,iN,hG,-⟩:=vf.1 hm;exact KU cf.aW cf.dd T aN A5 (fun p ae=>cd p (by simp[ae])) b (dH iN) r k I hG ah (by simpa [ub] using bC)
 obtain⟨t1,t2⟩:=Ja h.toiK Ht cf.aW cf.dd T aN A5 (fun p ae=>cd p (by simp[ae]));have mI : ∀j b,cf.aW[j]? = some b-> ∃dV,T[j]? = some dV:=fun j b au=>by have:j<T.length:=(by have:=gi au;omega);exact⟨_,dx this⟩
 refine QL (bU:=ub) (A:=s.ok g ax w) (q:=mJ) (T:=T) h e4 oh.symm tu xO (fun b aL=>aL.1) (fun b aL=>aL)
  (fun r k I b m ah aZ ae=>acw h.toiK ah (by simpa [ub] using aZ) ae) (.inl fun _ aL=>aL) (vK _) Ht ?_ ?_ ?_ nK (fun p ae=>cd p (by simp[ae])) A6 (fun p ae=>cd p (by simp[ae])) Ef
  (fun p ae=>cd p (by simp[ae])) AZ trivial (fun _ _ _ _ _ _ _ _=>trivial) aO hargs
 ·refine⟨fun j i iC eG p e ez=> ?_,fun j i b3 ea=> ?_,fun j i r k e hu=> ?_⟩
  ·obtain⟨r,k⟩:=p;obtain⟨b,iN,hG,rfl⟩:=vf.1 e;obtain⟨kk,ael,aem,rfl⟩:=vf.1 ez;have e1:=Da (n:=0) tu iN hG;have aD:=Da (n:=0) tu ael aem;rw[e1] at aD;simpa using aD
  ·have au:j<T.length:=by
    rcases Nat.lt_or_ge j T.length with e|e
    ·exact e
    ·have:(fg T).aM j=none:=dP e;rw[this] at ea;simp[df] at ea
   have Tb:T[j]? = some T[j]:=dx au;have Tc:cf.aW[j]? = some (cf.aW[j]'(by omega)):=dx (by omega);have qO:df (some T[j]) i=some b3:=(by have:(fg T).aM j=some T[j]:=Tb;rw[this] at ea;exact ea);obtain⟨r,k,I,n1,kL,afp,afq⟩:=(t2 j _ _ Tb Tc).2.2.2 i b3 qO;exact⟨r,k,I,vf.2 ⟨_,Tc,n1,kL⟩,afp,afq⟩
  obtain⟨b,iN,hG,rfl⟩:=vf.1 e;obtain⟨dV,s4⟩:=mI j b iN;have:=(t2 j dV b s4 iN).2.1 r k hG hu;show b.kK k<((T[j]?).getD []).length;rw[s4];exact this
 ·rintro r k I ⟨j,i,e⟩ ah;obtain⟨b,iN,hG,-⟩:=vf.1 e;obtain⟨dV,s4⟩:=mI j b iN;exact(t2 j dV b s4 iN).1 r k I hG ah
 intro r k I hm;obtain⟨j,au⟩:=aia hm;obtain⟨dV,s4⟩:=mI j _ au;exact FM ((t2 j dV _ s4 au).2.2.1 r k I rfl)
end
end Go.VL
