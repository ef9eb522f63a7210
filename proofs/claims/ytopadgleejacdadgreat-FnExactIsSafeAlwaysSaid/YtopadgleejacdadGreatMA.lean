/- Lemmas, plain functions of the program, and what they answer. No condition. -/
import Derived.Below
import Derived.Eval
import Derived.KernelRfl
import Derived.Laws.Append
import Derived.Laws.AppendOwn
import Derived.Laws.BytesString
import Derived.Laws.Cells
import Derived.Laws.CopyRow
import Derived.Laws.Entries
import Derived.Laws.MakeOwn
import Derived.Laws.OwnMore
import Derived.Laws.Rows
import Derived.Laws.Slices
import Derived.Laws.Tables
import Derived.Orders
namespace Go.VL
set_option linter.unusedVariables false
set_option linter.unusedSimpArgs false
open Go
abbrev ar:=List Int
theorem dw{c:Prop}{h:Decidable c}(i:c){α:Sort _}{t e:α}:ite c t e=t:=if_pos i
theorem dx{α β:Type _}(a:α)(f:α->Option β):(some a).bind f=f a:=rfl
theorem dy(n:Nat):(n:Int).toNat=n:=rfl
theorem dz{α:Type _}{l:List α}{i:Nat}(h:i<l.length):l[i]? = some l[i]:=List.getElem?_eq_getElem h
theorem dA{c:Prop}{h:Decidable c}(i:¬c){α:Sort _}{t e:α}:ite c t e=e:=if_neg i
theorem dB{α:Type _}(a b:α):(some a=some b)=(a=b):=Option.some.injEq a b
theorem dC{α β:Type _}:bind=@Option.bind α β:=rfl
theorem dD{α:Type _}{a b:List α}:(a++b).length=a.length+b.length:=List.length_append
theorem dE(n:Nat):n<=n:=Nat.le_refl n
theorem dF{α β:Type _}(a:α)(b:β)(c:α)(d:β):((a,b)=(c,d))=(a=c/\b=d):=Prod.mk.injEq a b c d
theorem dG(n:Nat):0+n=n:=Nat.zero_add n
theorem dH{α:Type _}{l:List α}{i:Nat}{a:α}(e:l[i]? = some a):a∈l:=List.mem_of_getElem? e
theorem dI{α:Type _}{a:α}{l:List α}:(a::l).length=l.length+1:=rfl
theorem dJ{α:Type _}{a b:α}(h:some a=some b):a=b:=Option.some.inj h
theorem dK{α β:Type _}{f:α->β}{l:List α}{i:Nat}:(l.map f)[i]? =l[i]?.map f:=List.getElem?_map
theorem dL{a b c:Int}(h:a<=b)(i:0<=c):c*a<=c*b:=Int.mul_le_mul_of_nonneg_left h i
theorem dM{α:Type _}{l:List α}:l.length=0↔l=[]:=List.length_eq_zero_iff
theorem dN{α:Type _}:([]:List α).length=0:=rfl
theorem dO{α β:Type _}{b:α}{x:Option β}{f:β->α}:Option.map f x=some b↔∃a,x=some a/\f a=b:=Option.map_eq_some_iff
theorem dP{α:Type _}{i:Nat}{l:List α}(h:l.length<=i):l.take i=l:=List.take_of_length_le h
theorem dQ(a b:Bool):((a&&b)=true)=(a=true/\b=true):=Bool.and_eq_true a b
theorem dR{α β:Type _}(a:α)(f:α->β):Option.map f (some a)=some (f a):=rfl
theorem dS{α:Type _}{b:α}{l:List α}{a:α}:a∈b::l↔a=b\/a∈l:=List.mem_cons
theorem dT :(false=true)=False:=Bool.false_eq_true
theorem an9{α:Type _}{l:List α}{i j:Nat}:(l.take i)[j]? =if j<i then l[j]? else none:=List.getElem?_take
theorem aoa{α:Type _}{l:Array α}{i:Nat}(h:i<l.size):l[i]? =some l[i]:=Array.getElem?_eq_getElem h
theorem aob{n m:Nat}(k:Nat)(h:n<=m):n*k<=m*k:=Nat.mul_le_mul_right k h
theorem aoc{α:Type _}{l:List α}{i:Nat}{a:α}:l.getD i a=l[i]?.getD a:=List.getD_eq_getElem?_getD
theorem aod{α:Type _}{i:Nat}{a:α}{l:List α}:l[i]? =some a↔∃h:i<l.length,l[i]=a:=List.getElem?_eq_some_iff
theorem aoe{α:Type _}{l:List α}{i:Nat}(h:l.length<=i):l[i]? =none:=List.getElem?_eq_none h
theorem aof{α:Type _}{l:List α}{m:List (List α)}:(l::m).flatten=l++m.flatten:=rfl
theorem aog{α:Type _}{l:List α}{i j:Nat}{a:α}:(l.set i a)[j]? =if i=j then if i<l.length then some a else none else l[j]?:=List.getElem?_set
theorem aoh{α:Type _}{a:α}:¬a∈([]:List α):=List.not_mem_nil
theorem aoi{α:Type _}{l:Array α}{i:Nat}{d:α}:l.getD i d=l[i]?.getD d:=Array.getD_eq_getD_getElem?
theorem aoj{α:Type _}{l m:List α}{i:Nat}(h:i<l.length):(l++m)[i]? =l[i]?:=List.getElem?_append_left h
theorem aok{α β:Type _}{l:List α}(f:α->β):(l.map f).length=l.length:=List.length_map f
theorem aol{α:Type _}{l m:List α}(h:∀(i:Nat),l[i]? =m[i]?):l=m:=List.ext_getElem? h
theorem aom{α:Type _}{i:Nat}{b:α}{l:Array α}:l[i]? =some b↔∃h:i<l.size,l[i]=b:=Array.getElem?_eq_some_iff
theorem aon{α:Type _}{l m:List α}{i:Nat}(h:l.length<=i):(l++m)[i]? =m[i-l.length]?:=List.getElem?_append_right h
theorem aoo{α:Type _}{l:List α}{i j:Nat}:(l.drop i)[j]? =l[i+j]?:=List.getElem?_drop
theorem aop{α:Type _}{l:List α}:0<l.length↔l≠[]:=List.length_pos_iff
theorem aoq{α β:Type _}{l:List α}{f g:α->β}(h:∀a,a∈l->f a=g a):l.map f=l.map g:=List.map_congr_left h
theorem aor{α:Type _}{a:α}{l:List α}(h:a∈l):∃i:Nat,l[i]? =some a:=List.getElem?_of_mem h
theorem aos(a b:Int):((a*b:Int):Rat)=a*b:=Rat.intCast_mul a b
theorem aot{a b:Rat}(h:0<=a)(i:0<=b):0<=a*b:=Rat.mul_nonneg h i
inductive aC where
 | dead
 | b (x:Bool)
 | n (k:IntKind) (x:Int)
 | s (x:ByteArray)
 | jO
 | e8
 | jR
 | ref (r k i off:Nat)
 | bu (r k bL len:Nat)
 | j9 (r c sz:Nat) (h:Option (Nat×Nat))
 | isl (sz:Nat) (es:List (List aC))
 | fO (sz:Nat) (es:List (List aC)) (i off:Nat)
 | gk (sz:Nat) (c:Option (List aC))
 | agg (c:List aC)
 | dg (vs:List aC)
 | fn (f:Nat) (cap:List aC)
 deriving Inhabited
inductive hp where
 | live|ka|gone
 deriving DecidableEq,Inhabited
structure a1 where
 sz:Nat
 es:List (List aC)
 cS:hp
 deriving Inhabited
structure S where
 E:Nat->aC
 aY:Nat->Option (List a1)
abbrev lH (v:Value):Bool:=v.oneCell'
abbrev gw:=Nat->Nat->Option (Nat×Nat)
abbrev kn:=Nat->Nat->Option (Nat×Option (Nat×Nat))
abbrev kt:=Nat->Nat->Prop
inductive Pure:aC->Prop
 | dead:Pure .dead
 | b (x:Bool):Pure (.b x)
 | n (k:IntKind) (x:Int):Pure (.n k x)
 | s (x:ByteArray):Pure (.s x)
 | jO:Pure .jO
 | e8:Pure .e8
 | jR:Pure .jR
 | isl {sz:Nat} {es:List (List aC)} (h : ∀e∈es,∀x∈e,Pure x):Pure (.isl sz es)
 | fO {sz i off:Nat} {es:List (List aC)} (h : ∀e∈es,∀x∈e,Pure x):Pure (.fO sz es i off)
 | rr (sz:Nat):Pure (.gk sz none)
 | qG {sz:Nat} {c:List aC} (h : ∀x∈c,Pure x):Pure (.gk sz (some c))
 | agg {c:List aC} (h : ∀x∈c,Pure x):Pure (.agg c)
 | dg {c:List aC} (h : ∀x∈c,Pure x):Pure (.dg c)
 | fn {f:Nat} {c:List aC} (h : ∀x∈c,Pure x):Pure (.fn f c)
def jL (es:List (List aC)):Prop:= ∀e∈es,∀x∈e,Pure x
inductive Rel (w:World) (ok:Nat->Prop) (bd:kt) (bj:kn):aC->Value->Prop
 | dead (v:Value):Rel w ok bd bj .dead v
 | b (x:Bool):Rel w ok bd bj (.b x) (.bool x)
 | n (k:IntKind) (x:Int):Rel w ok bd bj (.n k x) (.int k x)
 | s (x:ByteArray):Rel w ok bd bj (.s x) (.string x)
 | jO:Rel w ok bd bj .jO (.pointer none)
 | e8:Rel w ok bd bj .e8 (.slice none 0 0)
 | jR (a:Addr) (c:Nat):Rel w ok bd bj .jR (.slice (some a) 0 c)
 | rW {r k i off:Nat} (a:Option Addr) (hu:bd r k) (h : ∀sz p,bj r k≠some (sz,some p)):Rel w ok bd bj (.ref r k i off) (.pointer a)
 | ref {r k i off sz e7 m:Nat} (hu:bd r k) (h:bj r k=some (sz,some (e7,m))):Rel w ok bd bj (.ref r k i off) (.pointer (some ⟨e7,i*sz+off,none⟩))
 | oU {r k bL len:Nat} (a:Option Addr) (l c:Nat) (hu:bd r k) (h:bj r k=none):Rel w ok bd bj (.bu r k bL len) (.slice a l c)
 | pk {r k sz:Nat} (hu:bd r k) (h:bj r k=some (sz,none)):Rel w ok bd bj (.bu r k 0 0) (.slice none 0 0)
 | bu {r k bL len sz e7 m c:Nat} {a:Option Addr} (hu:bd r k) (h:bj r k=some (sz,some (e7,m))) (aT:len<=c) (aZ:c<9223372036854775808)
  (hm:(bL+c)*sz=m/\(c=0\/a=some ⟨e7,bL*sz,none⟩)):Rel w ok bd bj (.bu r k bL len) (.slice a len c)
 | ou {r c sz:Nat} {v:Value} (h:Rel w ok bd bj (.isl sz []) v):Rel w ok bd bj (.j9 r c sz none) v
 | py {r c sz k n:Nat} {v:Value} (h:Rel w ok bd bj (.bu r (k+c) 0 n) v):Rel w ok bd bj (.j9 r c sz (some (k,n))) v
 | lv (sz:Nat) (a:Option Addr) (c:Nat) (h:a=none->c=0):Rel w ok bd bj (.isl sz []) (.slice a 0 c)
 | isl {sz:Nat} {es:List (List aC)} {e7 off c:Nat} (cs:Nat->Value) (aW:ok e7) (af:jL es) (aT : ∀e∈es,e.length=sz) (aZ:es.length<=c)
  (hw : ∀(j:Nat) x,es.flatten[j]? = some x->w.cell? ⟨e7,off+j,none⟩=some (cs j)) (lu : ∀(j:Nat) x,es.flatten[j]? = some x->lH (cs j)=true)
  (ai : ∀(j:Nat) x,es.flatten[j]? = some x->Rel w ok bd bj x (cs j)):Rel w ok bd bj (.isl sz es) (.slice (some ⟨e7,off,none⟩) es.length c)
 | fO {sz:Nat} {es:List (List aC)} {e7 o i off:Nat} (cs:Nat->Value) (aW:ok e7) (af:jL es) (aT : ∀e∈es,e.length=sz)
  (hw : ∀(j:Nat) x,es.flatten[j]? = some x->w.cell? ⟨e7,o+j,none⟩=some (cs j)) (lu : ∀(j:Nat) x,es.flatten[j]? = some x->lH (cs j)=true)
  (ai : ∀(j:Nat) x,es.flatten[j]? = some x->Rel w ok bd bj x (cs j)):Rel w ok bd bj (.fO sz es i off) (.pointer (some ⟨e7,o+(i*sz+off),none⟩))
 | rr (sz:Nat):Rel w ok bd bj (.gk sz none) (.pointer none)
 | qG {sz:Nat} {c:List aC} {v:Value} (h:Rel w ok bd bj (.fO sz [c] 0 0) v):Rel w ok bd bj (.gk sz (some c)) v
 | agg {c:List aC} (vs:List Value) (aT:vs.length=c.length) (lu : ∀(j:Nat) v,vs[j]? = some v->lH v=true)
  (ai : ∀(j:Nat) x v,c[j]? = some x->vs[j]? = some v->Rel w ok bd bj x v):Rel w ok bd bj (.agg c) (.agg vs.toArray)
 | dg {c:List aC} (vs:List Value) (aT:vs.length=c.length)
  (ai : ∀(j:Nat) x v,c[j]? = some x->vs[j]? = some v->Rel w ok bd bj x v):Rel w ok bd bj (.dg c) (.tuple vs.toArray)
 | fn {f:Nat} {c:List aC} (vs:List Value) (aT:vs.length=c.length)
  (ai : ∀(j:Nat) x v,c[j]? = some x->vs[j]? = some v->Rel w ok bd bj x v):Rel w ok bd bj (.fn f c) (.func (.func f) #[] vs.toArray)
theorem Rel.mono {w bQ:World}{ok mw:Nat->Prop}{bd oA:kt}{bj nZ:kn}{a:aC}{v:Value}(h:Rel w ok bd bj a v)
 (lK : ∀b,ok b->mw b) (hw : ∀b,ok b->bQ.heap[b]? = w.heap[b]?)
 (kD : ∀r k,bd r k->oA r k) (m1 : ∀r k,bd r k->nZ r k=bj r k\/nZ r k=none):Rel bQ mw oA nZ a v:=by
 have lu : ∀b o,ok b->bQ.cell? ⟨b,o,none⟩=w.cell? ⟨b,o,none⟩:=fun b o aW=>World.cell?_of_block (hw b aW)
 induction h with
 | dead v=>exact .dead v
 | b x=>exact .b x
 | n k x=>exact .n k x
 | s x=>exact .s x
 | jO=>exact .jO
 | e8=>exact .e8
 | jR a c=>exact .jR a c
 | @rW r k i off a hu h =>
  refine .rW a (kD r k hu) fun sz p=> ?_;rcases m1 r k hu with e|e<;>rw[e]
  ·exact h sz p
  simp
 | @ref r k i off sz e7 m hu h =>
  rcases m1 r k hu with e|e
  ·exact .ref (kD r k hu) (e.trans h)
  exact .rW _ (kD r k hu) fun sz p=>by rw[e];simp
 | @oU r k bL len a l c hu h=>exact .oU a l c (kD r k hu) (by rcases m1 r k hu with e|e<;>rw[e];exact h)
 | @pk r k sz hu h =>
  rcases m1 r k hu with e|e
  ·exact .pk (kD r k hu) (e.trans h)
  exact .oU _ _ _ (kD r k hu) e
 | @bu r k bL len sz e7 m c a hu h aT aZ hm =>
  rcases m1 r k hu with e|e
  ·exact .bu (kD r k hu) (e.trans h) aT aZ hm
  exact .oU _ _ _ (kD r k hu) e
 | ou h ih=>exact .ou ih
 | py h ih=>exact .py ih
 | lv sz a c h=>exact .lv sz a c h
 | isl cs aW af aT aZ GO jq ai ih=>exact .isl cs (lK _ aW) af aT aZ (fun j x U=>(lu _ _ aW).trans (GO j x U)) jq ih
 | fO cs aW af aT GO jq ai ih=>exact .fO cs (lK _ aW) af aT (fun j x U=>(lu _ _ aW).trans (GO j x U)) jq ih
 | rr sz=>exact .rr sz
 | qG h ih=>exact .qG ih
 | agg vs aT jq ai ih=>exact .agg vs aT jq ih
 | dg vs aT ai ih=>exact .dg vs aT ih
 | fn vs aT ai ih=>exact .fn vs aT ih
structure G where
 nL:World
 A:Nat->Prop
 rF:Nat->Prop
 N:Nat
 m:Nat
 qM:kt
 t0:kn
def S.bd (s:S)(r k:Nat):Prop:=k<((s.aY r).getD []).length
def d6 (row:Option (List a1))(k:Nat):Option a1 :=
 match row with
 | some l=>match l[k]? with
  | some o=>if o.cS = .gone then none else some o
  | none=>none
 | none=>none
def S.aj (s:S)(r k:Nat):Option a1:=d6 (s.aY r) k
def S.bj (s:S)(aE:gw):kn:=fun r k=>(s.aj r k).map fun o=>(o.sz,aE r k)
def S.nz (s:S)(aE:gw)(b:Nat):Prop:= ∃r k o m,s.aj r k=some o/\o.cS = .live/\aE r k=some (b,m)
def S.ok (s:S)(g:G)(aE:gw)(w:World)(b:Nat):Prop :=
 b<w.heap.size/\(g.A b\/g.nL.heap.size<=b\/g.rF b)/\ ¬s.nz aE b
def ke (w:World)(ok:Nat->Prop)(bd:kt)(bj:kn)(o:a1):Option (Nat×Nat)->Prop
 | none=>o.es=[]
 | some (e7,m)=> ∃c fl,w.heap[e7]? = some (.cells c fl (0,0))/\c.size=m/\(∀e∈o.es,e.length=o.sz) /\
  ∀(j:Nat) x,o.es.flatten[j]? = some x-> ∃v,c[j]? = some v/\lH v=true/\Rel w ok bd bj x v
structure Gq (g:G) (w:World):Prop where
 os:w.os=g.nL.os
 tape:w.tape=g.nL.tape
 output:w.output=g.nL.output
 size:g.nL.heap.size<=w.heap.size
 block : ∀b,b<g.nL.heap.size-> ¬g.rF b->w.heap[b]? = g.nL.heap[b]?
structure jE (g:G) (s:S) (aE:gw) (w:World):Prop where
 obj : ∀r k o,s.aj r k=some o->ke w (s.ok g aE w) s.bd (s.bj aE) o (aE r k)
 inj : ∀r k o fA eD cl b m aI,s.aj r k=some o->s.aj fA eD=some cl->aE r k=some (b,m)->aE fA eD=some (b,aI)->r=fA/\k=eD
 own : ∀r k o b m,s.aj r k=some o->aE r k=some (b,m)->g.nL.heap.size<=b\/g.rF b
 ik:Gq g w
 mlt : ∀b,g.rF b->b<g.nL.heap.size
 o5 : ∀b,g.A b->b<g.nL.heap.size
 stay : ∀j k,g.qM j k->s.bd j k/\(s.bj aE j k=g.t0 j k\/s.bj aE j k=none)
 low : ∀j k,g.qM j k->j<g.m
structure c7 (g:G) (s:S) (aE:gw) (a:Act) (w:World):Prop extends jE g s aE w where
 env : ∀t,Rel w (s.ok g aE w) s.bd (s.bj aE) (s.E t) (a.tmps.getD t undef)
 defers:a.defers=[]
 k1:g.N<=a.tmps.size
def ofValue:Value->aC
 | .bool x=> .b x
 | .int k x=> .n k x
 | .string x=> .s x
 | .pointer none=> .jO
 | .slice none 0 0=> .e8
 | _=> .dead
theorem TP {w:World}{ok:Nat->Prop}{bd:kt}{bj:kn}(v:Value):Rel w ok bd bj (ofValue v) v:=by unfold ofValue;split<;>constructor
def fq (E:Nat->aC):Operand->aC
 | .tmp t=>E t
 | .const v=>ofValue v
 | .global _=> .dead
 | .func f=> .fn f []
theorem c7.eval {g:G}{s:S}{aE:gw}{a:Act}{w:World}(h:c7 g s aE a w)(x:Operand):
 Rel w (s.ok g aE w) s.bd (s.bj aE) (fq s.E x) (a.eval x):=by
 cases x with
 | tmp t=>exact h.env t
 | const v=>exact TP v
 | global g=>exact .dead _
 | func f=>exact .fn [] rfl (fun j x v U=>by simp at U)
def aC.cells:aC->List aC
 | .agg c=>c
 | x=>[x]
def aC.one:aC->Bool
 | .dead | .agg _ | .dg _=>false
 | _=>true
def aC.CC:aC->Bool
 | .dead | .dg _=>false
 | _=>true
theorem aC.TQ {v:aC}(h:v.CC=true):v.one=true\/ ∃c,v = .agg c:=by cases v<;>first|exact .inl rfl|exact .inr ⟨_,rfl⟩|simp[aC.CC] at h
theorem Rel.lH {w:World}{ok:Nat->Prop}{bd:kt}{bj:kn}{a:aC}{v:Value}(h:Rel w ok bd bj a v)(bF:a.one=true):lH v=true:=by
 cases h with
 | qG h=>cases h;rfl
 | ou h=>cases h<;>rfl
 | py h=>cases h<;>rfl
 | _=>first|rfl|simp[aC.one] at bF
theorem Rel.cellsOf {w:World}{ok:Nat->Prop}{bd:kt}{bj:kn}{a:aC}{v:Value}(h:Rel w ok bd bj a v)(bF:a.one=true\/ ∃c,a = .agg c):
 ∃vs:List Value,v.cells=vs.toArray/\vs.length=a.cells.length/\(∀(j:Nat) x,vs[j]? = some x->VL.lH x=true) /\
  ∀(j:Nat) x u,a.cells[j]? = some x->vs[j]? = some u->Rel w ok bd bj x u:=by
 rcases bF with bF|⟨c,rfl⟩
 ·have aZ:=h.lH bF
  refine⟨[v],?_,?_,?_,?_⟩
  ·cases v<;>first|rfl|simp[VL.lH,Value.oneCell'] at aZ
  ·cases a<;>first|rfl|simp[aC.one] at bF
  ·intro j x U
   cases j with
   | zero=>simp at U;subst U;exact aZ
   | succ j=>simp at U
  intro j x u U hu;have e:a.cells=[a]:=by cases a<;>first|rfl|simp[aC.one] at bF
  rw[e] at U
  cases j with
  | zero=>simp at U hu;subst U;subst hu;exact h
  | succ j=>simp at U
 cases h with
 | agg vs aT lu ai=>exact⟨vs,rfl,aT,lu,ai⟩
def S.put (s:S)(dst:Option Tmp)(v:aC):S :=
 match dst with
 | some t=>{s with E:=fun u=>if u=t then v else s.E u}
 | none=>s
def S.setRow (s:S)(r:Nat)(row:List a1):S:={s with aY:=fun q=>if q=r then some row else s.aY q}
@[simp] theorem S.xj (s:S) (dst:Option Tmp) (v:aC):(s.put dst v).aY=s.aY:=by cases dst<;>rfl
@[simp] theorem S.amw (s:S) (r:Nat) (row:List a1):(s.setRow r row).E=s.E:=rfl
theorem FA {s b2:S}(h:b2.aY=s.aY):b2.aj=s.aj:=by funext r k;simp[S.aj,h]
theorem CD {s b2:S}(h:b2.aY=s.aY):b2.bd=s.bd:=by funext r k;simp[S.bd,h]
theorem CE {s b2:S}(h:b2.aY=s.aY)(aE:gw):b2.bj aE=s.bj aE:=by unfold S.bj;rw[FA h]
theorem ad4 {s b2:S}(h:b2.aY=s.aY)(aE:gw):b2.nz aE=s.nz aE:=by unfold S.nz;rw[FA h]
theorem FB {s b2:S}(h:b2.aY=s.aY)(g:G)(aE:gw)(w:World):b2.ok g aE w=s.ok g aE w:=by funext b;unfold S.ok;rw[ad4 h]
theorem jE.congr {g:G}{s b2:S}{aE:gw}{w:World}(h:jE g s aE w)(e:b2.aY=s.aY):jE g b2 aE w where
 obj:=by rw[FA e,CD e,CE e,FB e];exact h.obj
 inj:=by rw[FA e];exact h.inj
 own:=by rw[FA e];exact h.own
 ik:=h.ik
 mlt:=h.mlt
 o5:=h.o5
 stay:=by rw[CD e,CE e];exact h.stay
 low:=h.low
theorem agv (a:Act)(dst:Option Tmp)(v:Value)(t:Nat)(fF:∀d,dst=some d->d<a.tmps.size):
 (a.put dst v).tmps.getD t undef=if dst=some t then v else a.tmps.getD t undef:=by
 cases dst with
 | none=>simp[Act.put]
 | some d =>
  have:=fF d rfl;simp only[Act.put,aoi,Array.getElem?_setIfInBounds,dB];by_cases e:d=t
  ·subst e;simp[this]
  simp[e]
theorem c7.put {g:G}{s:S}{aE:gw}{a:Act}{w:World}(h:c7 g s aE a w)(dst:Option Tmp){x:aC}{v:Value}
 (bC : ∀d,dst=some d->d<g.N) (ai:Rel w (s.ok g aE w) s.bd (s.bj aE) x v):c7 g (s.put dst x) aE (a.put dst v) w where
 tojE:=h.tojE.congr (S.xj s dst x)
 env:=by
  have e:=S.xj s dst x;rw[FB e,CD e,CE e];intro t;rw[agv a dst v t fun d se=>Nat.lt_of_lt_of_le (bC d se) h.k1]
  cases dst with
  | none=>simpa [S.put] using h.env t
  | some d =>
   simp only[S.put,dB];by_cases e:t=d
   ·subst e;simpa using ai
   rw[dA e,dA (Ne.symm e)];exact h.env t
 defers:=by cases dst<;>exact h.defers
 k1:=by cases dst<;>simpa [Act.put] using h.k1
structure Step (g:G) (s:S) (aE:gw) (w:World) (b2:S) (bX:gw) (bQ:World):Prop where
 bd : ∀r k,s.bd r k->b2.bd r k
 bj : ∀r k,s.bd r k->b2.bj bX r k=s.bj aE r k\/b2.bj bX r k=none
 live : ∀b,b2.nz bX b->s.nz aE b\/w.heap.size<=b
 heap : ∀b,b<w.heap.size-> ¬s.nz aE b->bQ.heap[b]? = w.heap[b]?
 size:w.heap.size<=bQ.heap.size
theorem Step.ok {g:G}{s b2:S}{aE bX:gw}{w bQ:World}(h:Step g s aE w b2 bX bQ)(b:Nat)(aW:s.ok g aE w b):b2.ok g bX bQ b :=
 ⟨Nat.lt_of_lt_of_le aW.1 h.size,aW.2.1,fun aT=>by
  rcases h.live b aT with h1|h1
  ·exact aW.2.2 h1
  exact absurd aW.1 (by omega)⟩
theorem Step.rel {g:G}{s b2:S}{aE bX:gw}{w bQ:World}(h:Step g s aE w b2 bX bQ){x:aC}{v:Value}
 (ai:Rel w (s.ok g aE w) s.bd (s.bj aE) x v):Rel bQ (b2.ok g bX bQ) b2.bd (b2.bj bX) x v :=
 ai.mono h.ok (fun b aW=>h.heap b aW.1 aW.2.2) h.bd h.bj
theorem Step.obj {g:G}{s b2:S}{aE bX:gw}{w bQ:World}(h:Step g s aE w b2 bX bQ){o:a1}{p:Option (Nat×Nat)}
 (af : ∀b m,p=some (b,m)->bQ.heap[b]? = w.heap[b]?) (an:ke w (s.ok g aE w) s.bd (s.bj aE) o p) :
 ke bQ (b2.ok g bX bQ) b2.bd (b2.bj bX) o p:=by
 cases p with
 | none=>exact an
 | some q =>
  obtain⟨b,m⟩:=q;obtain⟨c,fl,h1,h2,J,ak⟩:=an;refine⟨c,fl,(af b m rfl).trans h1,h2,J,fun j x U=> ?_⟩;obtain⟨v,e1,e2,bJ⟩:=ak j x U;exact⟨v,e1,e2,h.rel bJ⟩
theorem Step.stay {g:G}{s b2:S}{aE bX:gw}{w bQ:World}(h:Step g s aE w b2 bX bQ)
 (bG : ∀j k,g.qM j k->s.bd j k/\(s.bj aE j k=g.t0 j k\/s.bj aE j k=none)) : ∀j k,g.qM j k->b2.bd j k/\(b2.bj bX j k=g.t0 j k\/b2.bj bX j k=none):=by
 intro j k aq;obtain⟨h1,h2⟩:=bG j k aq;refine⟨h.bd j k h1,?_⟩;rcases h.bj j k h1 with e|e
 ·rw[e];exact h2
 exact .inr e
theorem Gq.step {g:G}{w bQ:World}(h:Gq g w)(h1:bQ.os=w.os)(h2:bQ.tape=w.tape)(J:bQ.output=w.output)(ak:w.heap.size<=bQ.heap.size)
 (au : ∀b,b<g.nL.heap.size-> ¬g.rF b->bQ.heap[b]? = w.heap[b]?):Gq g bQ :=
 ⟨h1.trans h.os,h2.trans h.tape,J.trans h.output,Nat.le_trans h.size ak,fun b aW hm=>(au b aW hm).trans (h.block b aW hm)⟩
theorem nj (s:S)(r:Nat)(row:List a1)(q k:Nat):(s.setRow r row).aj q k=if q=r then d6 (some row) k else s.aj q k:=by unfold S.aj S.setRow;by_cases e:q=r<;>simp[e]
theorem oR (s:S)(r:Nat)(row:List a1)(q k:Nat):(s.setRow r row).bd q k↔(if q=r then k<row.length else s.bd q k):=by unfold S.bd S.setRow;by_cases e:q=r<;>simp[e]
theorem IX {s:S}{r k:Nat}{o:a1}(h:s.aj r k=some o):s.bd r k:=by
 unfold S.aj d6 at h;unfold S.bd
 cases ai:s.aY r with
 | none=>rw[ai] at h;simp at h
 | some l =>
  rw[ai] at h;simp only at h;rcases Nat.lt_or_ge k l.length with h1|h1
  ·simpa using h1
  rw[aoe h1] at h;simp at h
theorem Ca {s:S}{r:Nat}(h:s.aY r=none)(k:Nat): ¬s.bd r k:=by simp[S.bd,h]
theorem Im (s:S){r:Nat}{l row:List a1}(ai:s.aY r=some l)(aT:l.length<=row.length)(q k:Nat)(h:s.bd q k):(s.setRow r row).bd q k:=by
 rw[oR];by_cases e:q=r
 ·subst e;rw[dw rfl];simp[S.bd,ai] at h;omega
 rw[dA e];exact h
theorem amb {s:S}{r:Nat}(h:s.aY r=none)(k:Nat):s.aj r k=none:=by simp[S.aj,h,d6]
def gw.set (aE:gw)(r k:Nat)(p:Option (Nat×Nat)):gw:=fun q j=>if q=r/\j=k then p else aE q j
theorem nR (o:a1)(k:Nat):d6 (some [o]) k=if k=0/\o.cS≠ .gone then some o else none:=by
 unfold d6
 cases k with
 | zero=>by_cases h:o.cS = .gone<;>simp[h]
 | succ k=>simp
theorem Rel.drew {w:World}{ok:Nat->Prop}{bd:kt}{bj:kn}{x:aC}{v:Value}(h:Rel w ok bd bj x v):Rel w.drew ok bd bj x v :=
 h.mono (fun _ h=>h) (fun _ _=>rfl) (fun _ _ h=>h) (fun _ _ _=> .inl rfl)
theorem ke.drew {w:World}{ok:Nat->Prop}{bd:kt}{bj:kn}{o:a1}{p:Option (Nat×Nat)}(h:ke w ok bd bj o p):ke w.drew ok bd bj o p:=by
 cases p with
 | none=>exact h
 | some q =>
  obtain⟨c,fl,h1,h2,J,ak⟩:=h;exact⟨c,fl,h1,h2,J,fun j x U=>let ⟨v,a,b,c⟩:=ak j x U;⟨v,a,b,c.drew⟩⟩
theorem jE.drew {g:G}{s:S}{aE:gw}{w:World}(h:jE g s aE w):jE g s aE w.drew :=
 {obj:=fun r k o an=>(h.obj r k o an).drew,inj:=h.inj,own:=h.own,ik:=⟨h.ik.os,h.ik.tape,h.ik.output,h.ik.size,h.ik.block⟩,mlt:=h.mlt,o5:=h.o5,stay:=h.stay,low:=h.low}
theorem c7.drew {g:G}{s:S}{aE:gw}{a:Act}{w:World}(h:c7 g s aE a w):c7 g s aE a w.drew where
 tojE:=h.tojE.drew
 env:=fun t=>(h.env t).drew
 defers:=h.defers
 k1:=h.k1
theorem c7.alloc {g:G}{s:S}{aE:gw}{a:Act}{w:World}(h:c7 g s aE a w){r:Nat}(ai:s.aY r=none)(o:a1)(aX:o.cS = .live)
 (c:Array Value) (fl:TypeId) (hlen : ∀e∈o.es,e.length=o.sz)
 (aZ : ∀(j:Nat) x,o.es.flatten[j]? = some x-> ∃v,c[j]? = some v/\lH v=true/\Rel w (s.ok g aE w) s.bd (s.bj aE) x v) :
 ∃bX,bX r 0=some (w.heap.size,c.size)/\c7 g (s.setRow r [o]) bX a (w.alloc (.cells c fl)) /\
  ∀x v,Rel w (s.ok g aE w) s.bd (s.bj aE) x v->Rel (w.alloc (.cells c fl)) ((s.setRow r [o]).ok g bX (w.alloc (.cells c fl))) (s.setRow r [o]).bd ((s.setRow r [o]).bj bX) x v:=by
 have mP : ∀q k,q≠r->(aE.set r 0 (some (w.heap.size,c.size))) q k=aE q k:=fun q k a0=>by simp[gw.set,a0]
 have bo : ∀q k,q≠r->(s.setRow r [o]).aj q k=s.aj q k:=fun q k a0=>by rw[nj,dA a0]
 have Df : ∀k,(s.setRow r [o]).aj r k=if k=0 then some o else none:=fun k=>by rw[nj,dw rfl,nR];simp[aX]
 have wc : ∀q k p b m,s.aj q k=some p->aE q k=some (b,m)->b<w.heap.size:=fun q k p b m af a0=>by have:=h.obj q k p af;rw[a0] at this;obtain⟨eQ,ns,gX,_⟩:=this;exact(aom.1 gX).1
 have c8:Step g s aE w (s.setRow r [o]) (aE.set r 0 (some (w.heap.size,c.size))) (w.alloc (.cells c fl)):=by
  refine⟨fun q k a0=>(oR _ _ _ _ _).2 (by rw[dA (by rintro rfl;exact Ca ai k a0)];exact a0),fun q k a0=> ?_,fun b aW=> ?_,fun b aW _=>heap_alloc_old w _ b aW,by simp⟩
  ·have dd:q≠r:=(by rintro rfl;exact Ca ai k a0);left;simp only[S.bj,bo q k dd,mP q k dd]
  obtain⟨q,k,p,m,h1,h2,J⟩:=aW;by_cases e:q=r
  ·subst e
   rw[Df] at h1;by_cases e0:k=0
   ·subst e0;simp[gw.set] at J;right;omega
   simp[e0] at h1
  rw[bo q k e] at h1;rw[mP q k e] at J;exact .inl ⟨q,k,p,m,h1,h2,J⟩
 refine⟨aE.set r 0 (some (w.heap.size,c.size)),by simp[gw.set],?_,fun x v=>c8.rel⟩;refine {tojE:=⟨?_,?_,?_,?_,h.mlt,h.o5,c8.stay h.stay,h.low⟩,env:=fun t=>c8.rel (h.env t),defers:=h.defers,k1:=h.k1}
 ·intro q k p af
  by_cases e:q=r
  ·subst e
   rw[Df] at af;by_cases e0:k=0
   ·subst e0;simp at af;subst af;simp only[gw.set,and_self,if_true];exact⟨c,fl,heap_alloc_new w _,rfl,hlen,fun j x U=>let ⟨v,e1,e2,bJ⟩:=aZ j x U;⟨v,e1,e2,c8.rel bJ⟩⟩
   simp[e0] at af
  rw[bo q k e] at af;rw[mP q k e];exact c8.obj (fun b m hm=>heap_alloc_old w _ b (wc q k p b m af hm)) (h.obj q k p af)
 ·intro q k p jd eD lR b m aI h1 h2 J ak
  by_cases e:q=r<;>by_cases fb:jd=r
  ·subst e;subst fb;rw[Df] at h1 h2;by_cases e0:k=0<;>by_cases e1:eD=0<;>simp[e0,e1] at h1 h2;exact⟨rfl,by omega⟩
  ·subst e;rw[Df] at h1;rw[bo _ _ fb] at h2;rw[mP _ _ fb] at ak;by_cases e0:k=0<;>simp[e0] at h1;subst e0;simp[gw.set] at J;have:=wc jd eD lR b aI h2 ak;omega
  ·subst fb;rw[bo _ _ e] at h1;rw[Df] at h2;rw[mP _ _ e] at J;by_cases e0:eD=0<;>simp[e0] at h2;subst e0;simp[gw.set] at ak;have:=wc q k p b m h1 J;omega
  rw[bo _ _ e] at h1;rw[bo _ _ fb] at h2;rw[mP _ _ e] at J;rw[mP _ _ fb] at ak;exact h.inj q k p jd eD lR b m aI h1 h2 J ak
 ·intro q k p b m h1 h2
  by_cases e:q=r
  ·subst e;rw[Df] at h1;by_cases e0:k=0<;>simp[e0] at h1;subst e0;simp[gw.set] at h2;left;have:=h.ik.size;omega
  rw[bo _ _ e] at h1;rw[mP _ _ e] at h2;exact h.own q k p b m h1 h2
 exact h.ik.step rfl rfl rfl (by simp) fun b aW _=>heap_alloc_old w _ b (Nat.lt_of_lt_of_le aW h.ik.size)
theorem Vk (l:List a1)(k:Nat)(o cl:a1)(h:d6 (some l) k=some o)(aX:cl.cS≠ .gone)(j:Nat):
 d6 (some (l.set k cl)) j=if j=k then some cl else d6 (some l) j:=by
 unfold d6 at *
 have ez:k<l.length:=by
  rcases Nat.lt_or_ge k l.length with h1|h1
  ·exact h1
  simp[aoe h1] at h
 by_cases e:j=k
 ·subst e;simp[ez,aX]
 simp only[aog,dA (Ne.symm e),dA e]
theorem c7.write {g:G}{s:S}{aE:gw}{a:Act}{w bQ:World}(h:c7 g s aE a w){r k b m:Nat}{l:List a1}{o:a1}(ai:s.aY r=some l)(an:s.aj r k=some o)
 (aX:o.cS = .live) (af:aE r k=some (b,m)) (es:List (List aC)) (c:Array Value) (fl:TypeId)
 (hw:bQ.heap[b]? = some (.cells c fl (0,0))) (fF:bQ.heap.size=w.heap.size) (za : ∀q,q≠b->bQ.heap[q]? = w.heap[q]?)
 (qa:bQ.os=w.os) (Ow:bQ.tape=w.tape) (N6:bQ.output=w.output) (hm:c.size=m)
 (hlen : ∀e∈es,e.length=o.sz)
 (aZ : ∀(j:Nat) x,es.flatten[j]? = some x-> ∃v,c[j]? = some v/\lH v=true/\Rel w (s.ok g aE w) s.bd (s.bj aE) x v) :
 c7 g (s.setRow r (l.set k {o with es})) aE a bQ /\
  ∀x v,Rel w (s.ok g aE w) s.bd (s.bj aE) x v->Rel bQ ((s.setRow r (l.set k {o with es})).ok g aE bQ) (s.setRow r (l.set k {o with es})).bd ((s.setRow r (l.set k {o with es})).bj aE) x v:=by
 have hx:({o with es}:a1).cS≠ .gone:=by rw[aX];simp
 have bo : ∀q j,(s.setRow r (l.set k {o with es})).aj q j=if q=r/\j=k then some {o with es} else s.aj q j:=by
  intro q j;rw[nj];by_cases e:q=r
  ·subst e;have eV:d6 (some l) k=some o:=(by rw[<- ai];exact an);rw[dw rfl,Vk l k o _ eV hx];by_cases e2:j=k<;>simp[e2,S.aj,ai]
  simp[e]
 have r5:s.nz aE b:=⟨r,k,o,m,an,aX,af⟩
 have c8:Step g s aE w (s.setRow r (l.set k {o with es})) aE bQ:=by
  refine⟨Im s ai (by simp),fun q j a0=> .inl ?_,fun q a0=> ?_,fun q a0 aT=>za q fun e=>aT (e▸r5),Nat.le_of_eq fF.symm⟩
  ·simp only[S.bj,bo]
   by_cases e:q=r/\j=k
   ·obtain⟨rfl,rfl⟩:=e;simp[an]
   rw[dA e]
  obtain⟨jd,j,p,aI,h1,h2,J⟩:=a0;rw[bo] at h1;by_cases e:jd=r/\j=k
  ·obtain⟨rfl,rfl⟩:=e;exact .inl ⟨jd,j,o,aI,an,aX,J⟩
  rw[dA e] at h1;exact .inl ⟨jd,j,p,aI,h1,h2,J⟩
 refine⟨{tojE:=⟨?_,?_,?_,?_,h.mlt,h.o5,c8.stay h.stay,h.low⟩,env:=fun t=>c8.rel (h.env t),defers:=h.defers,k1:=h.k1},fun x v=>c8.rel⟩
 ·intro q j p lZ
  rw[bo] at lZ;by_cases e:q=r/\j=k
  ·obtain⟨rfl,rfl⟩:=e;simp at lZ;subst lZ;rw[af];exact⟨c,fl,hw,hm,hlen,fun j x U=>let ⟨v,e1,e2,bJ⟩:=aZ j x U;⟨v,e1,e2,c8.rel bJ⟩⟩
  rw[dA e] at lZ;refine c8.obj (fun ll aI lz=>za ll ?_) (h.obj q j p lZ);rintro rfl;exact e (h.inj q j p r k o ll aI m lZ an lz af)
 ·intro q j p jd js lR ll jz iz h1 h2 J ak
  have key : ∀q j p,(s.setRow r (l.set k {o with es})).aj q j=some p-> ∃lR,s.aj q j=some lR:=by
   intro q j p a0;rw[bo] at a0;by_cases e:q=r/\j=k
   ·obtain⟨rfl,rfl⟩:=e;exact⟨o,an⟩
   rw[dA e] at a0;exact⟨p,a0⟩
  obtain⟨p1,XU⟩:=key q j p h1;obtain⟨p2,GP⟩:=key jd js lR h2;exact h.inj q j p1 jd js p2 ll jz iz XU GP J ak
 ·intro q j p ll aI h1 h2
  rw[bo] at h1;by_cases e:q=r/\j=k
  ·obtain⟨rfl,rfl⟩:=e;exact h.own q j o ll aI an h2
  rw[dA e] at h1;exact h.own q j p ll aI h1 h2
 refine h.ik.step qa Ow N6 (Nat.le_of_eq fF.symm) fun ll o6 lz=>za ll ?_;rintro rfl;rcases h.own r k o ll m an af with h1|h1
 ·omega
 exact lz h1
inductive us where
 | id
 | el (es:List (List aC))
 | fv (sz:Nat)
 | kJ
 | cv (x:aC)
 | len (n:Nat)
 | rG (sz:Nat)
 | at_ (j i n:Nat)
 | view (eA:Nat) (o:a1) (es:List (List aC))
 deriving Inhabited
inductive DR where
 | bY (c:us)
 | ptr (l:List us)
 | we (l:List us)
 | agg (l:List us)
 deriving Inhabited
inductive mQ where
 | bh (c:DR)
 | comp (l:List DR)
 deriving Inhabited
inductive jJ where
 | pure
 | box (l:List us)
 | cv (row:List a1)
 | bw (row:List a1)
 | rx (row:List a1)
 | drop
 deriving Inhabited
structure n0 where
 bC:List (Nat×Nat):=[]
 lm:Option (Nat×Nat):=none
 deriving DecidableEq
inductive Src where
 | row (r:Nat)
 | aj (r k:Nat) (o:a1)
 deriving Inhabited
structure Ah where
 a9:List Src:=[]
 d5:List jJ:=[]
 ac:List mQ
 r:aC
 fV:List (List a1):=[]
 im:mQ:= .bh (.bY .id)
 jF:List jJ:=[]
 fH:List Nat:=[]
 fm:Bool:=true
inductive fP where
 | none
 | ab (t:Bool)
 | cz (c:List aC)
 | gG (o:a1) (c:List aC)
 | ea
 | xO
 | call (c:Ah)
 | aD (m:Nat) (o:Option a1:=Option.none)
 | fZ (t:Nat) (v:aC) (a:fP)
 | ts (r:Nat) (a:fP)
 | xP (r n:Nat) (a:fP)
structure iy where
 val:aC
 gM:List (Nat×List a1):=[]
 f9:List Prop:=[]
def FT (P:Program)(t:TypeId):Bool :=
 match P.underlying t with
 | some (.struct _)|some (.array _ _)=>true
 | _=>false
def Dg (pd:ar):ByteArray:=pd.foldl (fun r n=>r.push (UInt8.ofNat n.toNat)) ByteArray.empty
def bytesOf:List (List aC)->Option ar
 | []=>some []
 | [.n .u8 n]::es=>(bytesOf es).map (n :: ·)
 | _=>none
def elemAt (es:List (List aC))(i:Nat):fP->Option (List aC×List Prop)
 | .cz c=>some (c,[es[i]? = some c])
 | .gG _ c=>some (c,[es[i]? = some c])
 | _=>match es[i]? with
  | some c=>some (c,[])
  | none=>none
def pz (row:Option (List a1))(k:Nat):fP->Option (a1×List Prop)
 | .gG o _=>match row with
  | some row=>some (o,[d6 (some row) k=some o])
  | none=>none
 | _=>match d6 row k with
  | some o=>some (o,[])
  | none=>none
def Ox (a:fP)(l h len wL n:Nat):List Prop:=match a with
 | .xO=>[l<=h,wL+h<=n]
 | _=>[l<=h,h<=len]
def s0 (P:Program)(t:TypeId)(c:List aC)(off:Nat):Option aC :=
 if !((P.underlying t).isSome && (P.info? t).isSome) then none else
 if FT P t then (if off+P.cellsOf t<=c.length then some (.agg ((c.drop off).take (P.cellsOf t))) else none)
 else match c[off]? with
  | some x=>if x.one then some x else none
  | none=>none
def N7 (op:BinOp)(x y:aC):Option (aC×List Prop) :=
 match x,y with
 | .n k a,.n eD b =>
  match op with
  | .shl=>some (.n k (k.wrap (a*2 ^ (min b.toNat k.bits))),[0<=b])
  | .shr=>some (.n k (a.fdiv (2 ^ (min b.toNat k.bits))),[0<=b])
  | _=>if k≠eD then none else
   match op with
   | .add=>some (.n k (k.wrap (a+b)),[])
   | .sub=>some (.n k (k.wrap (a-b)),[])
   | .mul=>some (.n k (k.wrap (a*b)),[])
   | .quo=>some (.n k (k.wrap (a.tdiv b)),[b≠0])
   | .rem=>some (.n k (a.tmod b),[b≠0])
   | .and=>some (.n k (k.wrap ((BitVec.ofInt k.bits a &&& BitVec.ofInt k.bits b).toNat)),[])
   | .or=>some (.n k (k.wrap ((BitVec.ofInt k.bits a ||| BitVec.ofInt k.bits b).toNat)),[])
   | .xor=>some (.n k (k.wrap ((BitVec.ofInt k.bits a ^^^ BitVec.ofInt k.bits b).toNat)),[])
   | .eql=>some (.b (a == b),[])
   | .neq=>some (.b (a != b),[])
   | .lss=>some (.b (decide (a<b)),[])
   | .leq=>some (.b (decide (a<=b)),[])
   | .gtr=>some (.b (decide (b<a)),[])
   | .geq=>some (.b (decide (b<=a)),[])
   | _=>none
 | .s a,.s b =>
  match op with
  | .add=>some (.s (a++b),[a.size+b.size<9223372036854775808])
  | .eql=>some (.b (a.toList == b.toList),[])
  | .neq=>some (.b (!(a.toList == b.toList)),[])
  | _=>none
 | _,_=>none
def u0 (P:Program)(t:TypeId)(x y:aC):Option Bool :=
 match P.underlying t,x,y with
 | some .bool,.b a,.b c=>some (a == c)
 | some (.pointer _),.jO,.jO=>some true
 | some (.pointer _),.fO ..,.jO=>some false
 | some (.pointer _),.jO,.fO .. => some false
 | some (.slice _),.e8,.e8=>some true
 | some (.slice _),.jR,.e8=>some false
 | _,_,_=>none
def Oy (op:UnOp)(x:aC):Option aC :=
 match op,x with
 | .neg,.n k a=>some (.n k (k.wrap (0-a)))
 | .not,.b a=>some (.b (!a))
 | _,_=>none
def fieldsOf (P:Program)(t:TypeId):Option (Array Field) :=
 match P.underlying t with
 | some (.struct mm)=>some mm
 | _=>none
def ri (P:Program)(t:TypeId):Option TypeId :=
 match P.underlying t with
 | some (.slice e)=>some e
 | _=>none
def rS (P:Program)(t:TypeId):Option (List aC) :=
 match P.info? t with
 | some i=>match i.zero with
  | some v=>if v.cells.toList.all (·.oneCell') then some (v.cells.toList.map ofValue) else none
  | none=>none
 | none=>none
def Gr (P:Program)(t:TypeId):Option (Nat×TypeId) :=
 match P.underlying t with
 | some (.array n e)=>if (P.info? e).isSome/\P.cellsOf e≠0/\1<n then some (n,e) else none
 | _=>none
def sa (j:Int):List aC->List aC->Option (List aC)
 | [],[]=>some []
 | .n k x::a,.n eD y::b=>if k=eD then (sa j a b).map (.n k (if j=0 then x else y) :: ·) else none
 | _,_=>none
def Nx (P:Program)(t:TypeId)(x lS:aC):Option iy :=
 match Gr P t,x,lS with
 | some (2,e),.agg cs,.n _ j=>match s0 P e cs (0*P.cellsOf e),s0 P e cs (1*P.cellsOf e) with
  | some (.agg a),some (.agg b)=>(sa j a b).map fun c=>{val:= .agg c,f9:=[0<=j,j<2]}
  | _,_=>none
 | _,_,_=>none
def C6 (P:Program)(aY:Nat->Option (List a1))(t:TypeId)(x lS:aC)(c9:fP):Option iy :=
 match Gr P t,x,lS with
 | some (n,e),.ref r k i off,.n _ j=>match pz (aY r) k c9 with
  | some (aj,bR)=>match elemAt aj.es i c9 with
   | some (_,aL)=>some {val:= .ref r k i (off+j.toNat*P.cellsOf e),f9:=bR++aL++[0<=j,j<n]}
   | none=>none
  | none=>none
 | _,_,_=>none
def FU:aC->aC->aC
 | .e8,.isl sz []=> .isl sz []
 | .jO,.gk sz none=> .gk sz none
 | .e8,.j9 r c sz none=> .j9 r c sz none
 | x,_=>x
def tM:List aC->List aC->List aC
 | x::z,y::c=>FU x y::tM z c
 | z,_=>z
def vV (z:List aC):fP->List aC
 | .cz c=>tM z c
 | _=>z
def setCells (c:List aC)(off:Nat)(vs:List aC):List aC:=c.take off++vs++c.drop (off+vs.length)
def uT:List aC->List (Nat×Nat×aC)->Option (List aC)
 | c,[]=>some c
 | c,(off,size,x)::rest =>
  if x.CC && x.cells.length=size && decide (off+size<=c.length) then uT (setCells c off x.cells) rest else none
def C7 (sz:Nat):List (List aC)->List (Nat×aC)->Option (List (List aC))
 | es,[]=>some es
 | es,(i,x)::rest=>if x.CC && x.cells.length=sz && decide (i<es.length) then C7 sz (es.set i x.cells) rest else none
def ae:Option aC->Nat->Option (Nat×List Prop)
 | none,d=>some (d,[])
 | some (.n _ x),_=>some (x.toNat,[0<=x])
 | _,_=>none
def MT (P:Program)(t:TypeId)(parts:List (Nat×aC)):Option iy :=
 match Gr P t,rS P t with
 | some (_,e),some z=>(uT z (parts.map fun p=>(p.1*P.cellsOf e,P.cellsOf e,p.2))).map fun c=>{val:= .agg c}
 | _,_=>none
def fE (P:Program)(E:Nat->aC)(aY:Nat->Option (List a1))(a5:Nat)(o:Oper)(c9:fP):Option iy :=
 let iM:=fq E
 match o.op with
 | .move x | .assign x=>some {val:=iM x}
 | .pick c a b =>
  match iM c,c9 with
  | .b x,.ab t=>some {val:=if t then iM a else iM b,f9:=[x=t]}
  | .b true,_=>some {val:=iM a}
  | .b false,_=>some {val:=iM b}
  | _,_=>none
 | .alloc t =>
  match rS P t with
  | some c=>some {val:= .ref a5 0 0 0,gM:=[(a5,[⟨c.length,[c],.live⟩])]}
  | none=>none
 | .box _ x =>
  match iM x with
  | .agg c=>some {val:= .ref a5 0 0 0,gM:=[(a5,[⟨c.length,[c],.live⟩])]}
  | v=>if v.one then some {val:= .ref a5 0 0 0,gM:=[(a5,[⟨1,[[v]],.live⟩])]} else none
 | .load t x =>
  match iM x with
  | .ref r k i off =>
   match pz (aY r) k c9 with
   | some (aj,bR)=>match elemAt aj.es i c9 with
    | some (c,aL)=>match s0 P t c off with
     | some v=>some {val:=v,f9:=bR++aL}
     | none=>none
    | none=>none
   | none=>none
  | .fO _ es i off =>
   match elemAt es i c9 with
   | some (c,aL)=>match s0 P t c off with
    | some v=>some {val:=v,f9:=aL}
    | none=>none
   | none=>none
  | _=>none
 | .store t x y =>
  match iM x with
  | .ref r k i off =>
   match aY r with
   | none=>none
   | some row =>
   match pz (some row) k c9 with
   | some (aj,bR) =>
    if aj.cS≠ .live then none else
    let v:=iM y
    if v.CC=false then none else
    if v.cells.length≠P.cellsOf t\/(P.info? t).isSome=false then none else
    match c9 with
    | .ea=>if off=0 then some {val:= .dead,gM:=[(r,row.set k {aj with es:=aj.es.set i v.cells})],f9:=bR++[i<aj.es.length,v.cells.length=aj.sz]} else none
    | _=>match elemAt aj.es i c9 with
     | some (c,aL)=>if off+v.cells.length<=c.length then some {val:= .dead,gM:=[(r,row.set k {aj with es:=aj.es.set i (setCells c off v.cells)})],f9:=bR++aL} else none
     | none=>none
   | none=>none
  | _=>none
 | .nilCheck x =>
  match iM x with
  | .ref r k i off=>match pz (aY r) k c9 with
   | some (aj,bR)=>match elemAt aj.es i c9 with
    | some (_,aL)=>some {val:= .ref r k i off,f9:=bR++aL}
    | none=>none
   | none=>none
  | .fO sz es i off=>some {val:= .fO sz es i off}
  | .fn f c=>some {val:= .fn f c}
  | _=>none
 | .binOp op t x y _ =>
  match N7 op (iM x) (iM y) with
  | some (v,aj)=>some {val:=v,f9:=aj}
  | none=>match op with
   | .eql=>(u0 P t (iM x) (iM y)).map fun r=>{val:= .b r}
   | .neq=>(u0 P t (iM x) (iM y)).map fun r=>{val:= .b (!r)}
   | _=>none
 | .unOp op _ x=>(Oy op (iM x)).map fun v=>{val:=v}
 | .convert src dst x =>
  match P.underlying dst,iM x with
  | some (.int k),.n _ a=>if (P.underlying src).isSome then some {val:= .n k (k.wrap a)} else none
  | some .string,.bu r k bL len =>
   match (ri P src).bind P.underlying,d6 (aY r) k with
   | some (.int .u8),some aj=>match bytesOf ((aj.es.drop bL).take len) with
    | some pd=>if bL+len<=aj.es.length/\aj.sz=1 then some {val:= .s (Dg pd)} else none
    | none=>none
   | _,_=>none
  | _,_=>none
 | .makeFunc (.func f) first captured =>
  if first.size=0 then some {val:= .fn f (captured.toList.map iM)} else none
 | .makeSlice t l c =>
  match ri P t,iM l,iM c with
  | some e,.n _ l,.n _ c =>
   match P.info? e,rS P e with
   | some i,some z=>if z.length=i.size then some {val:= .bu a5 0 0 l.toNat,gM:=[(a5,[⟨z.length,List.replicate l.toNat (vV z c9),.live⟩])],f9:=[0<=l,l<=c,(i.bytes:Int)*c<=281474976710656,c<9223372036854775808]} else none
   | _,_=>none
  | _,_,_=>none
 | .fieldAddr t x f =>
  match fieldsOf P t with
  | some mm=>match mm[f]? with
   | some fd=>if P.cellsOf fd.type=0 then none else
    match iM x with
    | .ref r k i off=>match pz (aY r) k c9 with
     | some (aj,bR)=>match elemAt aj.es i c9 with
      | some (_,aL)=>some {val:= .ref r k i (off+fd.offset),f9:=bR++aL}
      | none=>none
     | none=>none
    | .fO sz es i off=>some {val:= .fO sz es i (off+fd.offset)}
    | _=>none
   | none=>none
  | none=>none
 | .field t x f =>
  match fieldsOf P t with
  | some mm=>match mm[f]?,iM x with
   | some fd,.agg c=>(s0 P fd.type c fd.offset).map fun v=>{val:=v}
   | _,_=>none
  | none=>none
 | .indexAddr t x lS =>
  match ri P t,iM lS with
  | some e,.n _ j =>
   match iM x with
   | .isl sz es=>if sz=P.cellsOf e/\sz≠0 then some {val:= .fO sz es j.toNat 0,f9:=[0<=j,j<es.length]} else none
   | .bu r k bL len=>match aY r with
    | some row=>match pz (some row) k c9 with
     | some (aj,bR)=>if aj.sz=P.cellsOf e/\aj.sz≠0 then some {val:= .ref r k (bL+j.toNat) 0,f9:=bR++[0<=j,j<len]} else none
     | none=>none
    | none=>none
   | _=>none
  | _,_=>C6 P aY t (iM x) (iM lS) c9
 | .index t x lS =>
  match P.underlying t,iM x,iM lS with
  | some .string,.s s,.n _ j=>some {val:= .n .u8 (s.data.toList.getD j.toNat 0).toNat,f9:=[0<=j,j<s.size]}
  | _,_,_=>Nx P t (iM x) (iM lS)
 | .extract x i =>
  match iM x with
  | .dg vs=>(vs[i]?).map fun v=>{val:=v}
  | _=>none
 | .slice t x bL aa none =>
  match P.underlying t,iM x with
  | some (.slice e),.isl sz es =>
   match ae (bL.map iM) 0,ae (aa.map iM) es.length with
   | some (l,bR),some (h,aL)=>if sz=P.cellsOf e/\sz≠0 then some {val:= .isl sz ((es.drop l).take (h-l)),f9:=bR++aL++[l<=h,h<=es.length]} else none
   | _,_=>none
  | some (.slice e),.bu r k wL len =>
   match aY r with
   | none=>none
   | some row=>match pz (some row) k c9 with
    | none=>none
    | some (aj,HB) =>
     match ae (bL.map iM) 0,ae (aa.map iM) len with
     | some (l,bR),some (h,aL)=>if aj.sz=P.cellsOf e/\aj.sz≠0 then some {val:= .bu r k (wL+l) (h-l),f9:=HB++bR++aL++Ox c9 l h len wL aj.es.length} else none
     | _,_=>none
  | some .string,.s s =>
   match ae (bL.map iM) 0,ae (aa.map iM) s.size with
   | some (l,bR),some (h,aL)=>some {val:= .s (s.extract l h),f9:=bR++aL++[l<=h,h<=s.size]}
   | _,_=>none
  | _,_=>none
 | .slice t x bL (some aa) (some wM) =>
  match P.underlying t,iM x with
  | some (.slice e),.bu r k wL len =>
   match aY r with
   | none=>none
   | some row=>match pz (some row) k c9 with
    | none=>none
    | some (aj,HB) =>
     match ae (bL.map iM) 0,ae ((some aa).map iM) len,ae ((some wM).map iM) len with
     | some (l,bR),some (h,aL),some (m,eH)=>if aj.sz=P.cellsOf e/\aj.sz≠0 then some {val:= .dead,f9:=HB++bR++aL++eH++[l<=h,h<=m,m<=len]} else none
     | _,_,_=>none
  | _,_=>none
 | .build t parts =>
  match fieldsOf P t,rS P t with
  | some mm,some z =>
   if mm.toList.all (fun f=>(P.info? f.type).isSome)=false then none else
   match parts.toList.mapM fun (p:Nat×Operand)=>(mm[p.1]?).map fun fd=>(fd.offset,P.cellsOf fd.type,iM p.2) with
   | some l=>(uT z l).map fun c=>{val:= .agg c}
   | none=>none
  | _,_=>MT P t (parts.toList.map fun p=>(p.1,iM p.2))
 | .buildSlice t len parts =>
  match ri P t with
  | some e=>match rS P e with
   | some z =>
    if len*z.length>16777216\/z.length≠P.cellsOf e\/z.length=0 then none else
    match C7 z.length (List.replicate len z) (parts.toList.map fun p=>(p.1,iM p.2)) with
    | some es=>some {val:= .bu a5 0 0 len,gM:=[(a5,[⟨z.length,es,.live⟩])]}
    | none=>none
   | none=>none
  | none=>none
 | .call {callee:= .builtin .len,args,argTypes} =>
  match args.toList.map iM,P.underlying (argTypes.getD 0 0),decide (argTypes.size=1) with
  | [.isl _ es],some (.slice _),true=>some {val:= .n .i64 es.length}
  | [.bu r k _ len],some (.slice _),true=>match aY r with
   | some row=>match pz (some row) k c9 with
    | some (_,bR)=>some {val:= .n .i64 len,f9:=bR}
    | none=>none
   | none=>none
  | [.e8],some (.slice _),true=>some {val:= .n .i64 0}
  | [.s x],some .string,true=>some {val:= .n .i64 x.size}
  | _,_,_=>none
 | _=>none
theorem q8 {α:Type}{sz:Nat}(bG:0<sz): ∀(es:List (List α)) (_ : ∀e∈es,e.length=sz) (j:Nat),
 es.flatten[j]? = (es[j / sz]?).bind (·[j % sz]?)
 | [],_,j=>by simp
 | e::es,h,j=>by
  have he:e.length=sz:=h e (by simp);rw[aof,List.getElem?_append];by_cases aq:j<sz
  ·rw[dw (by omega),Nat.div_eq_of_lt aq,Nat.mod_eq_of_lt aq];simp
  rw[dA (by omega),he,q8 bG es (fun fb nG=>h fb (by simp[nG])) (j-sz)];have h1:j / sz=(j-sz) / sz+1:=Nat.div_eq_sub_div bG (by omega);have h2:j % sz=(j-sz) % sz:=Nat.mod_eq_sub_mod (by omega);rw[h1,h2];simp
theorem Fm {α:Type}{sz:Nat}{es:List (List α)}(aT:∀e∈es,e.length=sz){i:Nat}{c:List α}(he:es[i]? = some c){j:Nat}(aq:j<sz):
 es.flatten[i*sz+j]? = c[j]? := by
 have bG:0<sz:=by omega
 rw[q8 bG es aT];have h1:(i*sz+j) / sz=i:=by rw[Nat.mul_comm,Nat.mul_add_div bG,Nat.div_eq_of_lt aq];omega
 have h2:(i*sz+j) % sz=j:=by rw[Nat.mul_comm,Nat.mul_add_mod,Nat.mod_eq_of_lt aq]
 rw[h1,h2,he];rfl
theorem TR {α:Type}{sz:Nat}{es:List (List α)}(aT:∀e∈es,e.length=sz){i:Nat}{c eQ:List α}(he:es[i]? = some c)(aZ:eQ.length=sz)(j:Nat):
 (es.set i eQ).flatten[j]? = if i*sz<=j/\j<i*sz+sz then eQ[j-i*sz]? else es.flatten[j]? := by
 rcases Nat.eq_zero_or_pos sz with h0|bG
 ·subst h0
  have e1 : ∀(l:List (List α)),(∀e∈l,e.length=0)->l.flatten=[]:=by
   intro l aT;induction l with
   | nil=>rfl
   | cons a l ih=>rw[aof,ih fun e he=>aT e (by simp[he])];have:=aT a (by simp);simp_all
  rw[e1 _ aT,e1 (es.set i eQ) (by
   intro e hm;rcases List.mem_or_eq_of_mem_set hm with h|h
   ·exact aT e h
   exact h▸aZ)]
  simp
 have Oz : ∀e∈es.set i eQ,e.length=sz:=by
  intro e hm;rcases List.mem_or_eq_of_mem_set hm with h|h
  ·exact aT e h
  exact h▸aZ
 have aa:i<es.length:=by
  rcases Nat.lt_or_ge i es.length with h|h
  ·exact h
  rw[aoe h] at he;simp at he
 rw[q8 bG _ Oz,q8 bG _ aT];by_cases a0:j / sz=i
 ·have h1:i*sz<=j/\j<i*sz+sz:=by
   subst a0;constructor
   ·exact Nat.div_mul_le_self j sz
   ·have:=Nat.lt_div_mul_add (a:=j) bG;omega
  rw[dw h1,a0,List.getElem?_set_self aa];have:j % sz=j-i*sz:=(by subst a0;have:=Nat.div_add_mod j sz;rw[Nat.mul_comm] at this;omega);simp[this]
 have h1 : ¬(i*sz<=j/\j<i*sz+sz):=by rintro⟨a,b⟩;apply a0;obtain⟨d,rfl⟩ : ∃d,j=i*sz+d:=⟨j-i*sz,by omega⟩;rw[Nat.mul_comm i sz,Nat.mul_add_div bG,Nat.div_eq_of_lt (by omega)];omega
 rw[dA h1,List.getElem?_set_ne (Ne.symm a0)]
def qm (w:World)(ok:Nat->Prop)(bd:kt)(bj:kn)(e7 o sz:Nat)(es:List (List aC)):Prop :=
 (∀e∈es,e.length=sz)/\ ∀(j:Nat) x,es.flatten[j]? = some x-> ∃v,w.cell? ⟨e7,o+j,none⟩=some v/\lH v=true/\Rel w ok bd bj x v
theorem ke.rd {w:World}{ok:Nat->Prop}{bd:kt}{bj:kn}{o:a1}{e7 m:Nat}(h:ke w ok bd bj o (some (e7,m))):qm w ok bd bj e7 0 o.sz o.es:=by obtain⟨c,fl,h1,h2,J,ak⟩:=h;refine⟨J,fun j x U=> ?_⟩;obtain⟨v,e1,e2,bJ⟩:=ak j x U;exact⟨v,by rw[cell_of_row w e7 (0+j) c fl (0,0) h1,dG];exact e1,e2,bJ⟩
theorem amo {w:World}{ok:Nat->Prop}{bd:kt}{bj:kn}{x:aC}{v:Value}(h:Rel w ok bd bj x v)(an:x.one=true):v.oneCell'=true:=h.lH an
theorem UG {P:Program}{t:TypeId}(h:(P.underlying t).isSome=true)(w:World):(isAgg t).run P w = .ok (FT P t) w:=by
 cases bC:P.underlying t with
 | none=>simp[bC] at h
 | some d=>cases d<;>simp[isAgg,FT,run_underlying bC,bC]
theorem uC {P:Program}{t:TypeId}(h:(P.info? t).isSome=true)(w:World):(sizeOf t).run P w = .ok (P.cellsOf t) w:=by
 cases aa:P.info? t with
 | none=>simp[aa] at h
 | some i=>simp[sizeOf,typeInfo,aa,Program.cellsOf]
theorem tF (b o n:Nat):(⟨b,o,none⟩:Addr).add n=⟨b,o+n,none⟩:=by unfold Addr.add;split<;>simp_all
theorem Ms {P:Program}{w:World}{ok:Nat->Prop}{bd:kt}{bj:kn}{e7 o sz i off:Nat}{es:List (List aC)}{c:List aC}{t:TypeId}{x:aC}
 (jS:qm w ok bd bj e7 o sz es) (he:es[i]? = some c) (cj:s0 P t c off=some x) :
 ∃v,(Instr.loadAt t (.pointer (some ⟨e7,o+(i*sz+off),none⟩))).run P w = .ok v w/\Rel w ok bd bj x v:=by
 have hlen:c.length=sz:=jS.1 c (dH he);unfold s0 at cj;split at cj
 ·simp at cj
 rename_i aa;simp only[Bool.not_eq_true',Bool.not_eq_false,dQ] at aa;have lu : ∀j,j<sz-> ∃y v,c[j]? = some y/\w.cell? ⟨e7,o+(i*sz+j),none⟩=some v/\lH v=true/\Rel w ok bd bj y v:=by intro j aq;have aV:c[j]? = some c[j]:=dz (by omega);obtain⟨v,e1,e2,bJ⟩:=jS.2 (i*sz+j) c[j] (by rw[Fm jS.1 he aq,aV]);exact⟨_,v,aV,e1,e2,bJ⟩
 simp only[Instr.loadAt,Instr.sureAddr,loadVar,Sem.run_bind,Sem.run_pure,Result.andThen,UG aa.1,uC aa.2];split at cj;rotate_left
 ·rename_i tY
  have tY:FT P t=false:=(by simpa using tY);rw[tY];split at cj
  ·rename_i y aV
   split at cj
   ·simp at cj;subst cj
    have Dh:off<sz:=by
     rcases Nat.lt_or_ge off c.length with h|h
     ·omega
     rw[aoe h] at aV;simp at aV
    obtain⟨nM,v,h0,e1,e2,bJ⟩:=lu off Dh;rw[h0] at aV;simp at aV;subst aV;exact⟨v,by simp[e1],bJ⟩
   simp at cj
  simp at cj
 rename_i tY;rw[tY];split at cj;rotate_left
 ·simp at cj
 rename_i hle;simp at cj;subst cj;have aT:=run_loadCells (P:=P) w ⟨e7,o+(i*sz+off),none⟩ (P.cellsOf t) (fun j=>(w.cell? ⟨e7,o+(i*sz+(off+j)),none⟩).getD undef) (by intro j aq;obtain⟨y,v,-,e1,-,-⟩:=lu (off+j) (by omega);rw[tF,show o+(i*sz+off)+j=o+(i*sz+(off+j)) by omega,e1];rfl);refine⟨.agg (List.map (fun j=>(w.cell? ⟨e7,o+(i*sz+(off+j)),none⟩).getD undef) (List.range (P.cellsOf t))).toArray,by simp[aT,Result.andThen,uC aa.2],?_⟩;refine .agg _ (by simp;omega) ?_ ?_
 ·intro j v bf;rw[dK,dO] at bf;obtain⟨q,m2,rfl⟩:=bf;obtain⟨qb,Dn⟩:=aod.1 m2;have a0:j<P.cellsOf t:=(by simpa using qb);obtain rfl:j=q:=(by simpa using Dn);obtain⟨y,v,-,e1,e2,-⟩:=lu (off+j) (by omega);rw[e1];exact e2
 intro j y v aV bf;rw[dK,dO] at bf;obtain⟨q,m2,rfl⟩:=bf;obtain⟨qb,Dn⟩:=aod.1 m2;have a0:j<P.cellsOf t:=by simpa using qb
 obtain rfl:j=q:=by simpa using Dn
 rw[an9,dw a0,aoo] at aV;obtain⟨nM,v,h0,e1,e2,bJ⟩:=lu (off+j) (by omega);rw[h0] at aV;simp at aV;subst aV;rw[e1];exact bJ
theorem SJ {c:List aC}{off:Nat}{vs:List aC}(h:off+vs.length<=c.length):(setCells c off vs).length=c.length:=by simp[setCells];omega
theorem Mj {c:List aC}{off:Nat}{vs:List aC}(h:off+vs.length<=c.length)(j:Nat):
 (setCells c off vs)[j]? = if off<=j/\j<off+vs.length then vs[j-off]? else c[j]? := by
 unfold setCells;rw[List.append_assoc,List.getElem?_append];have h1:(c.take off).length=off:=by simp;omega
 rw[h1];by_cases a:j<off
 ·rw[dw a,dA (by omega),an9,dw a]
 rw[dA a,List.getElem?_append];by_cases b:j<off+vs.length
 ·rw[dw (by omega),dw ⟨by omega,b⟩]
 rw[dA (by omega),dA (by omega),aoo];congr 1;omega
theorem aia {c:Array Value}{p:Nat}{vs:List Value}(h:p+vs.length<=c.size)(j:Nat):
 (c.toList.take p++vs++c.toList.drop (p+vs.length)).toArray[j]? = if p<=j/\j<p+vs.length then vs[j-p]? else c[j]? := by
 rw[List.getElem?_toArray,List.append_assoc,List.getElem?_append];have h1:(c.toList.take p).length=p:=by simp;omega
 rw[h1];by_cases a:j<p
 ·rw[dw a,dA (by omega),an9,dw a,Array.getElem?_toList]
 rw[dA a,List.getElem?_append];by_cases b:j<p+vs.length
 ·rw[dw (by omega),dw ⟨by omega,b⟩]
 rw[dA (by omega),dA (by omega),aoo,Array.getElem?_toList];congr 1;omega
theorem aep {P:Program}{g:G}{s:S}{aE:gw}{a:Act}{w:World}(h:c7 g s aE a w){r k b m i off:Nat}{l:List a1}{o:a1}{c:List aC}
 (ai:s.aY r=some l) (an:s.aj r k=some o) (aX:o.cS = .live) (af:aE r k=some (b,m)) (he:o.es[i]? = some c)
 {t:TypeId} (OA:(P.info? t).isSome=true) {x:aC} {v:Value} (U:Rel w (s.ok g aE w) s.bd (s.bj aE) x v) (nD:x.one=true\/ ∃c,x = .agg c)
 (fF:x.cells.length=P.cellsOf t) (iE:off+x.cells.length<=c.length) :
 ∃bQ,(Instr.storeAt t (.pointer (some ⟨b,i*o.sz+off,none⟩)) v).run P w = .ok () bQ /\
  c7 g (s.setRow r (l.set k {o with es:=o.es.set i (setCells c off x.cells)})) aE a bQ:=by
 obtain⟨vs,bf,sf,lu,fL⟩:=U.cellsOf nD;have bo:=h.obj r k o an;rw[af] at bo;obtain⟨cH,fl,h1,h2,J,ak⟩:=bo;have hlen:c.length=o.sz:=J c (dH he)
 have Di:i*o.sz+off+vs.length<=cH.size:=by
  rcases Nat.eq_zero_or_pos o.sz with cA|cA
  ·have:off=0:=(by omega);have:vs.length=0:=(by omega);rw[cA];omega
  have aT:o.es.flatten[i*o.sz+(o.sz-1)]? = some (c[o.sz-1]'(by omega)):=(by rw[Fm J he (by omega)];exact dz (by omega));obtain⟨Y3,e1,-,-⟩:=ak _ _ aT;have:=(aom.1 e1).1;omega
 have m3:=run_storeCells_at P b (i*o.sz+off) fl vs 0 cH w h1 (by simpa using Di) (fun Y3 GQ=>by obtain⟨q,a0⟩:=aor GQ;exact lu q Y3 a0);simp only[Nat.add_zero] at m3
 have ki:(Instr.storeAt t (.pointer (some ⟨b,i*o.sz+off,none⟩)) v).run P w =
  .ok () (w.setRow b (cH.toList.take (i*o.sz+off)++vs++cH.toList.drop (i*o.sz+off+vs.length)).toArray):=by
  have bG:v.cells.size=P.cellsOf t:=(by rw[bf];simpa using sf.trans fF);simp only[Instr.storeAt,Instr.sureAddr,storeVar,Sem.run_bind,Sem.run_pure,Result.andThen,uC OA,bG,ne_eq,not_true_eq_false,if_false];rw[bf];simpa using m3
 refine⟨_,ki,?_⟩;have ajp:(w.setRow b (cH.toList.take (i*o.sz+off)++vs++cH.toList.drop (i*o.sz+off+vs.length)).toArray).heap.size=w.heap.size:=size_setRow _ _ _;have u1:(setCells c off x.cells).length=o.sz:=by rw[SJ iE];exact hlen
 refine(h.write ai an aX af _ _ fl (setRow_heap w b cH _ fl _ h1) ajp (fun q a0=>setRow_other w b q _ a0) rfl rfl rfl ?_ ?_ ?_).1
 ·simp;omega
 ·intro e hm
  rcases List.mem_or_eq_of_mem_set hm with c5|c5
  ·exact J e c5
  exact c5▸u1
 intro j y aV;rw[aia Di];rw[TR J he u1] at aV;by_cases lA:i*o.sz<=j/\j<i*o.sz+o.sz
 ·rw[dw lA,Mj iE] at aV
  by_cases Xs:off<=j-i*o.sz/\j-i*o.sz<off+x.cells.length
  ·rw[dw Xs] at aV;rw[dw ⟨by omega,by omega⟩];have a0:j-(i*o.sz+off)<vs.length:=(by omega);refine⟨vs[j-(i*o.sz+off)],dz a0,lu _ _ (dz a0),fL (j-i*o.sz-off) y _ aV ?_⟩;rw[show j-i*o.sz-off=j-(i*o.sz+off) by omega];exact dz a0
  rw[dA Xs] at aV;rw[dA (by omega)];refine ak j y ?_;rw[show j=i*o.sz+(j-i*o.sz) by omega,Fm J he (by omega)];exact aV
 rw[dA lA] at aV;rw[dA (by rw[sf];omega)];exact ak j y aV
def S.jo (s:S)(u:List (Nat×List a1)):S:=u.foldl (fun s p=>s.setRow p.1 p.2) s
@[simp] theorem S.amx (s:S):s.jo []=s:=rfl
@[simp] theorem S.amy (s:S) (p:Nat×List a1):s.jo [p]=s.setRow p.1 p.2:=rfl
section
variable {w:World} {ok:Nat->Prop} {bd:kt} {bj:kn} {v:Value}
theorem Rel.xk {x:Bool}(h:Rel w ok bd bj (.b x) v):v = .bool x:=by cases h;rfl
theorem Rel.pZ {k:IntKind}{x:Int}(h:Rel w ok bd bj (.n k x) v):v = .int k x:=by cases h;rfl
theorem Rel.C8 {x:ByteArray}(h:Rel w ok bd bj (.s x) v):v = .string x:=by cases h;rfl
theorem Rel.yR (h:Rel w ok bd bj .jO v):v = .pointer none:=by cases h;rfl
theorem Rel.rV (h:Rel w ok bd bj .e8 v):v = .slice none 0 0:=by cases h;rfl
theorem Rel.Jc (h:Rel w ok bd bj .jR v): ∃a c,v = .slice (some a) 0 c:=by cases h;exact⟨_,_,rfl⟩
theorem Rel.Vl {sz:Nat}(h:Rel w ok bd bj (.gk sz none) v):v = .pointer none:=by cases h;rfl
theorem Rel.MU {sz:Nat}{c:List aC}(h:Rel w ok bd bj (.gk sz (some c)) v):Rel w ok bd bj (.fO sz [c] 0 0) v:=by cases h;assumption
theorem Rel.Ju {f:Nat}{c:List aC}(h:Rel w ok bd bj (.fn f c) v): ∃vs:List Value,v = .func (.func f) #[] vs.toArray/\vs.length=c.length /\
 ∀(j:Nat) x u,c[j]? = some x->vs[j]? = some u->Rel w ok bd bj x u:=by
 cases h with|fn vs aT ai=>exact⟨vs,rfl,aT,ai⟩
theorem Rel.CM {c:List aC}(h:Rel w ok bd bj (.agg c) v): ∃vs:List Value,v = .agg vs.toArray/\vs.length=c.length/\(∀(j:Nat) u,vs[j]? = some u->VL.lH u=true) /\
 ∀(j:Nat) x u,c[j]? = some x->vs[j]? = some u->Rel w ok bd bj x u:=by
 cases h with|agg vs aT aZ ai=>exact⟨vs,rfl,aT,aZ,ai⟩
theorem Rel.CN {c:List aC}(h:Rel w ok bd bj (.dg c) v): ∃vs:List Value,v = .tuple vs.toArray/\vs.length=c.length /\
 ∀(j:Nat) x u,c[j]? = some x->vs[j]? = some u->Rel w ok bd bj x u:=by
 cases h with|dg vs aT ai=>exact⟨vs,rfl,aT,ai⟩
theorem Rel.y1 {r k i off sz:Nat}{p:Option (Nat×Nat)}(h:Rel w ok bd bj (.ref r k i off) v)(cj:bj r k=some (sz,p)):
 p=none\/ ∃b m,p=some (b,m)/\v = .pointer (some ⟨b,i*sz+off,none⟩):=by
 cases h with
 | rW a hu aS =>
  cases p with
  | none=>exact .inl rfl
  | some q=>exact absurd cj (aS _ _)
 | ref hu h =>
  rw[cj] at h;simp only[dB,dF] at h;obtain⟨rfl,rfl⟩:=h;exact .inr ⟨_,_,rfl,rfl⟩
theorem Rel.amD {r k i off:Nat}(h:Rel w ok bd bj (.ref r k i off) v): ∃a,v = .pointer a:=by
 cases h with
 | rW a=>exact⟨a,rfl⟩
 | ref=>exact⟨_,rfl⟩
theorem Rel.UH {r k i off sz b m:Nat}(h:Rel w ok bd bj (.ref r k i off) v)(cj:bj r k=some (sz,some (b,m)))(Xt:Nat):
 Rel w ok bd bj (.ref r k i Xt) (.pointer (some ⟨b,i*sz+Xt,none⟩)):=by
 cases h with
 | rW a hu aS=>exact absurd cj (aS _ _)
 | ref hu h=>exact .ref hu cj
theorem Rel.CO {sz i off:Nat}{es:List (List aC)}(h:Rel w ok bd bj (.fO sz es i off) v): ∃e7 o,(ok e7/\jL es)/\v = .pointer (some ⟨e7,o+(i*sz+off),none⟩)/\qm w ok bd bj e7 o sz es:=by
 cases h with
 | fO cs aW af aT hw aZ ai=>exact⟨_,_,⟨aW,af⟩,rfl,aT,fun j x U=>⟨cs j,hw j x U,aZ j x U,ai j x U⟩⟩
theorem Rel.FK {r k bL len sz:Nat}{p:Option (Nat×Nat)}(h:Rel w ok bd bj (.bu r k bL len) v)(cj:bj r k=some (sz,p)):
 (p=none/\bL=0/\len=0/\v = .slice none 0 0)\/ ∃b m a c,p=some (b,m)/\v = .slice a len c/\len<=c/\c<9223372036854775808/\(c=0\/(a=some ⟨b,bL*sz,none⟩/\(bL+c)*sz=m)):=by
 cases h with
 | oU a l c hu aS=>rw[cj] at aS;simp at aS
 | pk hu h =>
  rw[cj] at h;simp only[dB,dF] at h;exact .inl ⟨h.2,rfl,rfl,rfl⟩
 | bu hu h aT aZ hm =>
  rw[cj] at h;simp only[dB,dF] at h;obtain⟨rfl,rfl⟩:=h;exact .inr ⟨_,_,_,_,rfl,rfl,aT,aZ,hm.2.imp id fun e=>⟨e,hm.1⟩⟩
theorem Rel.uK {r k bL len sz:Nat}{p:Option (Nat×Nat)}(h:Rel w ok bd bj (.bu r k bL len) v)(cj:bj r k=some (sz,p)):
 (p=none/\bL=0/\len=0/\v = .slice none 0 0)\/ ∃b m a c,p=some (b,m)/\v = .slice a len c/\len<=c/\c<9223372036854775808/\(bL+c)*sz=m/\(c=0\/a=some ⟨b,bL*sz,none⟩):=by
 cases h with
 | oU a l c hu aS=>rw[cj] at aS;simp at aS
 | pk hu h =>
  rw[cj] at h;simp only[dB,dF] at h;exact .inl ⟨h.2,rfl,rfl,rfl⟩
 | bu hu h aT aZ hm =>
  rw[cj] at h;simp only[dB,dF] at h;obtain⟨rfl,rfl⟩:=h;exact .inr ⟨_,_,_,_,rfl,rfl,aT,aZ,hm⟩
theorem Rel.amp {r k bL len:Nat}(h:Rel w ok bd bj (.bu r k bL len) v): ∃a l c,v = .slice a l c:=by cases h<;>exact⟨_,_,_,rfl⟩
theorem Rel.vO {sz:Nat}{es:List (List aC)}(h:Rel w ok bd bj (.isl sz es) v):
 (es=[]/\ ∃a c,v = .slice a 0 c/\(a=none->c=0))\/ ∃e7 off c,(ok e7/\jL es)/\v = .slice (some ⟨e7,off,none⟩) es.length c/\es.length<=c/\qm w ok bd bj e7 off sz es:=by
 cases h with
 | lv sz a c h=>exact .inl ⟨rfl,a,c,rfl,h⟩
 | isl cs aW af aT aZ hw jq ai=>exact .inr ⟨_,_,_,⟨aW,af⟩,rfl,aZ,aT,fun j x U=>⟨cs j,hw j x U,jq j x U,ai j x U⟩⟩
theorem qm.isl {e7 off c sz:Nat}{es:List (List aC)}(h:qm w ok bd bj e7 off sz es)(aW:ok e7/\jL es)(aZ:es.length<=c):Rel w ok bd bj (.isl sz es) (.slice (some ⟨e7,off,none⟩) es.length c):=by
 have U : ∀j:Nat,∃v,∀x,es.flatten[j]? = some x->w.cell? ⟨e7,off+j,none⟩=some v/\VL.lH v=true/\Rel w ok bd bj x v:=by
  intro j
  cases aq:es.flatten[j]? with
  | none=>exact⟨undef,fun x U=>by simp at U⟩
  | some y =>
   obtain⟨v,h1⟩:=h.2 j y aq;exact⟨v,fun x U=>by simp at U;subst U;exact h1⟩
 exact .isl (fun j=>(U j).choose) aW.1 aW.2 h.1 aZ (fun j x aq=>((U j).choose_spec x aq).1) (fun j x aq=>((U j).choose_spec x aq).2.1) (fun j x aq=>((U j).choose_spec x aq).2.2)
theorem qm.fO {e7 o i off sz:Nat}{es:List (List aC)}(h:qm w ok bd bj e7 o sz es)(aW:ok e7/\jL es):Rel w ok bd bj (.fO sz es i off) (.pointer (some ⟨e7,o+(i*sz+off),none⟩)):=by
 have U : ∀j:Nat,∃v,∀x,es.flatten[j]? = some x->w.cell? ⟨e7,o+j,none⟩=some v/\VL.lH v=true/\Rel w ok bd bj x v:=by
  intro j
  cases aq:es.flatten[j]? with
  | none=>exact⟨undef,fun x U=>by simp at U⟩
  | some y =>
   obtain⟨v,h1⟩:=h.2 j y aq;exact⟨v,fun x U=>by simp at U;subst U;exact h1⟩
 exact .fO (fun j=>(U j).choose) aW.1 aW.2 h.1 (fun j x aq=>((U j).choose_spec x aq).1) (fun j x aq=>((U j).choose_spec x aq).2.1) (fun j x aq=>((U j).choose_spec x aq).2.2)
end
def Fin (P:Program)(g:G)(s:S)(a:Act)(w:World)(o:Oper)(bA:iy):Prop :=
 ∃v bQ bX,((execOp a.eval o).run P w = .ok (.value v) bQ\/((execOp a.eval o).run P w = .ok .skip bQ/\v=undef)) /\
  c7 g (s.jo bA.gM) bX a bQ/\Rel bQ ((s.jo bA.gM).ok g bX bQ) (s.jo bA.gM).bd ((s.jo bA.gM).bj bX) bA.val v
section
variable {P:Program} {g:G} {s:S} {aE:gw} {a:Act} {w:World} {o:Oper} {c9:fP} {a5:Nat} {bA:iy}
theorem jm (h:c7 g s aE a w){v:Value}(ki:(execOp a.eval o).run P w = .ok (.value v) w)(hu:bA.gM=[])
 (ai:Rel w (s.ok g aE w) s.bd (s.bj aE) bA.val v):Fin P g s a w o bA :=
 ⟨v,w,aE,.inl ki,by rw[hu];exact h,by rw[hu];exact ai⟩
theorem VT {x:Operand}(h:c7 g s aE a w)(an:o.op = .move x\/o.op = .assign x)(ay:fE P s.E s.aY a5 o c9=some bA):Fin P g s a w o bA:=by
 have:bA={val:=fq s.E x}:=by rcases an with an|an<;>simp[fE,an] at ay<;>exact ay.symm
 subst this;refine jm (v:=a.eval x) h ?_ rfl (h.eval x);rcases an with an|an<;>simp[execOp,an]
theorem ahz {c x y:Operand}(h:c7 g s aE a w)(an:o.op = .pick c x y)(ay:fE P s.E s.aY a5 o c9=some bA)(cE:∀p∈bA.f9,p):Fin P g s a w o bA:=by
 have aZ:=h.eval c;simp only[fE,an] at ay
 have key : ∀t:Bool,fq s.E c = .b t->bA.gM=[]->bA.val=(if t then fq s.E x else fq s.E y)->Fin P g s a w o bA:=by
  intro t cj hu bf;rw[cj] at aZ;have e:a.eval c = .bool t:=aZ.xk;refine jm (v:=if t then a.eval x else a.eval y) h (by simp[execOp,an,e,asBool]) hu ?_;rw[bf];cases t
  ·exact h.eval y
  exact h.eval x
 split at ay
 ·rename_i z t cA;simp at ay;subst ay;have e:z=t:=cE _ (by simp);subst e;exact key z cA rfl rfl
 ·rename_i cA _;simp at ay;subst ay;exact key true cA rfl rfl
 ·rename_i cA _;simp at ay;subst ay;exact key false cA rfl rfl
 simp at ay
theorem Jd (h:c7 g s aE a w)(fI:s.aY a5=none){v:Value}{aj:a1}{c:Array Value}{fl:TypeId}(aX:aj.cS = .live)
 (ki:(execOp a.eval o).run P w = .ok (.value v) (w.alloc (.cells c fl))) (hu:bA.gM=[(a5,[aj])]) (hlen : ∀e∈aj.es,e.length=aj.sz)
 (aZ : ∀(j:Nat) x,aj.es.flatten[j]? = some x-> ∃v,c[j]? = some v/\lH v=true/\Rel w (s.ok g aE w) s.bd (s.bj aE) x v)
 (hval : ∀(bQ:World) (mw:Nat->Prop) (oA:kt) (nZ:kn),oA a5 0->nZ a5 0=some (aj.sz,some (w.heap.size,c.size))->Rel bQ mw oA nZ bA.val v):Fin P g s a w o bA:=by
 obtain⟨bX,af,bG,-⟩:=h.alloc fI aj aX c fl hlen aZ;have h1:(s.setRow a5 [aj]).bd a5 0:=by rw[oR];simp
 have h2:(s.setRow a5 [aj]).bj bX a5 0=some (aj.sz,some (w.heap.size,c.size)):=by simp[S.bj,nj,nR,aX,af]
 exact⟨v,_,bX,.inl ki,by rw[hu];exact bG,by rw[hu];exact hval _ _ _ _ h1 h2⟩
theorem Cv {t:TypeId}{z:List aC}(cA:rS P t=some z): ∃i ff,P.info? t=some i/\i.zero=some ff/\z=ff.cells.toList.map ofValue /\
 ∀(j:Nat) x,z[j]? = some x-> ∃v,ff.cells[j]? = some v/\lH v=true/\ ∀(w:World) (ok:Nat->Prop) (bd:kt) (bj:kn),Rel w ok bd bj x v:=by
 unfold rS at cA
 cases aa:P.info? t with
 | none=>simp[aa] at cA
 | some i =>
  cases lL:i.zero with
  | none=>simp[aa,lL] at cA
  | some ff =>
   simp only[aa,lL] at cA;split at cA
   ·rename_i kj;simp only[dB] at cA;refine⟨i,ff,rfl,lL,cA.symm,fun j x U=> ?_⟩;subst cA;rw[dK,dO] at U;obtain⟨v,bf,rfl⟩:=U;refine⟨v,by rw[<- Array.getElem?_toList];exact bf,?_,fun w ok bd bj=>TP v⟩;exact List.all_eq_true.1 kj v (dH bf)
   simp at cA
theorem agw {t:TypeId}(h:c7 g s aE a w)(fI:s.aY a5=none)(an:o.op = .alloc t)(ay:fE P s.E s.aY a5 o c9=some bA):Fin P g s a w o bA:=by
 simp only[fE,an] at ay;split at ay
 ·rename_i z cA
  obtain⟨i,ff,aa,lL,e,lu⟩:=Cv cA;simp only[dB] at ay;subst ay;refine Jd (v:= .pointer (some ⟨w.heap.size,0,none⟩)) (c:=ff.cells) (fl:=t) (aj:=⟨z.length,[z],.live⟩) h fI rfl ?_ rfl (by simp) ?_ ?_
  ·simp[execOp,an,Instr.alloc,zeroValue,typeInfo,aa,lL,newVar,newRow]
  ·intro j x U;simp only[aof,List.flatten_nil,List.append_nil] at U;obtain⟨v,h1,h2,J⟩:=lu j x U;exact⟨v,h1,h2,J _ _ _ _⟩
  intro bQ mw oA nZ hu cj;have:=Rel.ref (w:=bQ) (ok:=mw) (i:=0) (off:=0) hu cj;simpa using this
 simp at ay
theorem aib {t:TypeId}{x:Operand}(h:c7 g s aE a w)(fI:s.aY a5=none)(an:o.op = .box t x)(ay:fE P s.E s.aY a5 o c9=some bA):Fin P g s a w o bA:=by
 simp only[fE,an] at ay;have U:=h.eval x
 have key : ∀aj:a1,aj.cS = .live->aj.es=[(fq s.E x).cells]->aj.sz=(fq s.E x).cells.length->((fq s.E x).one=true\/ ∃c,fq s.E x = .agg c) ->
  bA.gM=[(a5,[aj])]->bA.val = .ref a5 0 0 0->Fin P g s a w o bA:=by
  intro aj aX i5 fF nD hu bf;obtain⟨vs,e1,e2,bJ,c1⟩:=U.cellsOf nD;refine Jd (v:= .pointer (some ⟨w.heap.size,0,none⟩)) (c:=(a.eval x).cells) (fl:=t) h fI aX ?_ hu ?_ ?_ ?_
  ·simp[execOp,an,Instr.box,newVar,newRow]
  ·intro e he;rw[i5] at he;simp at he;rw[he,fF]
  ·intro j y aV
   rw[i5] at aV;simp only[aof,List.flatten_nil,List.append_nil] at aV
   have aq:j<vs.length:=by
    rcases Nat.lt_or_ge j (fq s.E x).cells.length with c5|c5
    ·omega
    rw[aoe c5] at aV;simp at aV
   refine⟨vs[j],by rw[e1];simp[aq],bJ j _ (dz aq),c1 j y _ aV (dz aq)⟩
  intro bQ mw oA nZ qc cj;have:=Rel.ref (w:=bQ) (ok:=mw) (i:=0) (off:=0) qc cj;rw[bf];simpa using this
 split at ay
 ·rename_i c aZ;simp only[dB] at ay;subst ay;exact key _ rfl (by rw[aZ];rfl) (by rw[aZ];rfl) (.inr ⟨c,aZ⟩) rfl rfl
 split at ay
 ·rename_i nD
  simp only[dB] at ay;subst ay;have e:(fq s.E x).cells=[fq s.E x]:=by generalize fq s.E x=y at nD;cases y<;>first|rfl|simp[aC.one] at nD
  exact key _ rfl (by rw[e]) (by rw[e];rfl) (.inl nD) rfl rfl
 simp at ay
theorem jh {s:S}{aE:gw}{r k:Nat}{aj:a1}(h:s.aj r k=some aj):s.bj aE r k=some (aj.sz,aE r k):=by simp[S.bj,h]
theorem uO {row:Option (List a1)}{k:Nat}{aj:a1}{bR:List Prop}(h:pz row k c9=some (aj,bR))(cE:∀p∈bR,p):d6 row k=some aj:=by
 unfold pz at h;split at h
 ·split at h
  ·simp at h;obtain⟨rfl,rfl⟩:=h;exact cE _ (by simp)
  simp at h
 split at h
 ·rename_i c5;simp at h;obtain⟨rfl,rfl⟩:=h;exact c5
 simp at h
theorem Cz {es:List (List aC)}{i:Nat}{c:List aC}{bR:List Prop}(h:elemAt es i c9=some (c,bR))(cE:∀p∈bR,p):es[i]? = some c:=by
 unfold elemAt at h;split at h
 ·simp at h;obtain⟨rfl,rfl⟩:=h;exact cE _ (by simp)
 ·simp at h;obtain⟨rfl,rfl⟩:=h;exact cE _ (by simp)
 split at h
 ·rename_i c5;simp at h;obtain⟨rfl,rfl⟩:=h;exact c5
 simp at h
theorem ahA {t:TypeId}{x:Operand}(h:c7 g s aE a w)(an:o.op = .load t x)(ay:fE P s.E s.aY a5 o c9=some bA)(cE:∀p∈bA.f9,p):Fin P g s a w o bA:=by
 simp only[fE,an] at ay;have U:=h.eval x;split at ay
 ·rename_i r k i off h9
  rw[h9] at U;split at ay;rotate_left
  ·simp at ay
  rename_i aj bR bo;split at ay;rotate_left
  ·simp at ay
  rename_i c aL mJ;split at ay;rotate_left
  ·simp at ay
  rename_i v bf;simp only[dB] at ay;subst ay;have j7:s.aj r k=some aj:=uO bo fun p af=>cE p (by simp[af]);have rs:=Cz mJ fun p af=>cE p (by simp[af]);have fL:=h.obj r k aj j7;rcases U.y1 (jh j7) with h0|⟨b,m,af,hval⟩
  ·rw[h0] at fL;simp only[ke] at fL;rw[fL] at rs;simp at rs
  rw[af] at fL;obtain⟨u,h1,h2⟩:=Ms (P:=P) fL.rd rs bf;refine jm (v:=u) h ?_ rfl h2;rw[dG] at h1;simp[execOp,an,hval,h1]
 ·rename_i sz es i off h9
  rw[h9] at U;split at ay
  ·rename_i c aL mJ
   split at ay
   ·rename_i v bf;simp only[dB] at ay;subst ay;have rs:=Cz mJ fun p af=>cE p (by simp[af]);obtain⟨e7,cl,aW,hval,jS⟩:=U.CO;obtain⟨u,h1,h2⟩:=Ms (P:=P) jS rs bf;refine jm (v:=u) h ?_ rfl h2;simp[execOp,an,hval,h1]
   simp at ay
  simp at ay
 simp at ay
end
section
variable {P:Program} {g:G} {s:S} {aE:gw} {a:Act} {w:World} {o:Oper} {c9:fP} {a5:Nat} {bA:iy}
theorem UI (h:c7 g s aE a w){r k i off:Nat}{row:List a1}{aj:a1}{c:List aC}{t:TypeId}{x y:Operand}(an:o.op = .store t x y)
 (h9:fq s.E x = .ref r k i off) (d4:s.aY r=some row) (bo:s.aj r k=some aj) (aX:aj.cS = .live) (mJ:aj.es[i]? = some c)
 (nD:(fq s.E y).one=true\/ ∃c,fq s.E y = .agg c) (fF:(fq s.E y).cells.length=P.cellsOf t) (OA:(P.info? t).isSome=true)
 (iE:off+(fq s.E y).cells.length<=c.length) (ay:bA.val = .dead) (hu:bA.gM=[(r,row.set k {aj with es:=aj.es.set i (setCells c off (fq s.E y).cells)})]):Fin P g s a w o bA:=by
 have U:=h.eval x;rw[h9] at U;have fL:=h.obj r k aj bo;rcases U.y1 (jh bo) with h0|⟨b,m,af,hval⟩
 ·rw[h0] at fL;simp only[ke] at fL;rw[fL] at mJ;simp at mJ
 obtain⟨bQ,h1,h2⟩:=aep (P:=P) h d4 bo aX af mJ OA (h.eval y) nD fF iE;refine⟨undef,bQ,aE,.inr ⟨?_,rfl⟩,by rw[hu];exact h2,by rw[ay];exact .dead _⟩;simp[execOp,an,hval,h1]
theorem agx {t:TypeId}{x y:Operand}(h:c7 g s aE a w)(an:o.op = .store t x y)(ay:fE P s.E s.aY a5 o c9=some bA)(cE:∀p∈bA.f9,p):Fin P g s a w o bA:=by
 simp only[fE,an] at ay;split at ay;rotate_left
 ·simp at ay
 rename_i r k i off h9;split at ay
 ·simp at ay
 rename_i row d4;split at ay;rotate_left
 ·simp at ay
 rename_i aj bR ajq;split at ay
 ·simp at ay
 rename_i aX;have aX:aj.cS = .live:=by simpa using aX
 split at ay
 ·simp at ay
 rename_i nD;have nD:=aC.TQ (by simpa using nD);split at ay
 ·simp at ay
 rename_i fF;simp only[not_or,Decidable.not_not,Bool.not_eq_false] at fF;have j7:(∀p∈bR,p)->s.aj r k=some aj:=fun bF=>by have:=uO ajq bF;unfold S.aj;rw[d4];exact this
 split at ay
 ·split at ay
  ·rename_i Dh
   simp only[dB] at ay;subst ay;subst Dh;have ez:i<aj.es.length:=cE _ (by simp);have jq:(fq s.E y).cells.length=aj.sz:=cE _ (by simp);have Gs:=j7 fun p af=>cE p (by simp[af])
   have hlen:(aj.es[i]).length=aj.sz:=by
    have fL:=h.obj r k aj Gs
    cases af:aE r k with
    | none=>rw[af] at fL;simp only[ke] at fL;rw[fL] at ez;simp at ez
    | some q =>
     rw[af] at fL;obtain⟨_,_,_,_,J,_⟩:=fL;exact J _ (List.getElem_mem ez)
   refine UI h an h9 d4 Gs aX (c:=aj.es[i]) (dz ez) nD fF.1 fF.2 (by omega) rfl ?_;have e:setCells aj.es[i] 0 (fq s.E y).cells=(fq s.E y).cells:=(by simp[setCells,hlen,jq]);rw[e]
  simp at ay
 split at ay
 ·rename_i c aL mJ
  split at ay
  ·rename_i iE;simp only[dB] at ay;subst ay;exact UI h an h9 d4 (j7 fun p af=>cE p (by simp[af])) aX (Cz mJ fun p af=>cE p (by simp[af])) nD fF.1 fF.2 iE rfl rfl
  simp at ay
 simp at ay
theorem aeq {x:Operand}(h:c7 g s aE a w)(an:o.op = .nilCheck x)(ay:fE P s.E s.aY a5 o c9=some bA)(cE:∀p∈bA.f9,p):Fin P g s a w o bA:=by
 simp only[fE,an] at ay;have U:=h.eval x;split at ay
 ·rename_i r k i off h9
  rw[h9] at U;split at ay
  ·rename_i aj bR bo
   split at ay
   ·rename_i c aL mJ
    simp only[dB] at ay;subst ay;have j7:s.aj r k=some aj:=uO bo fun p af=>cE p (by simp[af]);have rs:=Cz mJ fun p af=>cE p (by simp[af]);have fL:=h.obj r k aj j7;rcases U.y1 (jh j7) with h0|⟨b,m,af,hval⟩
    ·rw[h0] at fL;simp only[ke] at fL;rw[fL] at rs;simp at rs
    refine jm (v:=a.eval x) h ?_ rfl U;simp[execOp,an,hval]
   simp at ay
  simp at ay
 ·rename_i sz es i off h9;rw[h9] at U;simp only[dB] at ay;subst ay;obtain⟨e7,cl,aW,hval,jS⟩:=U.CO;refine jm (v:=a.eval x) h ?_ rfl U;simp[execOp,an,hval]
 ·rename_i f c h9;rw[h9] at U;simp only[dB] at ay;subst ay;obtain⟨vs,hval,-⟩:=U.Ju;refine jm (v:=a.eval x) h ?_ rfl U;simp[execOp,an,hval]
 simp at ay
theorem afB {op:BinOp}{t:TypeId}{x y z:aC}{aj:List Prop}(ay:N7 op x y=some (z,aj))(cE:∀p∈aj,p)
 {ok:Nat->Prop} {bd:kt} {bj:kn} {mR mS:Value} (U:Rel w ok bd bj x mR) (aV:Rel w ok bd bj y mS) (p q:Operand) :
 ∃v,((do eqGuard op t p q mR mS;binOp op t mR mS):Sem Value).run P w = .ok v w/\Rel w ok bd bj z v:=by
 unfold N7 at ay;split at ay
 ·rename_i k n eD oL
  have iX:=U.pZ;have j0:=aV.pZ;subst iX;subst j0;have dm : ∀op,eqGuard op t p q (.int k n) (.int eD oL)=pure ():=fun op=>eqGuard_at_int ..;simp only[Sem.run_bind,dm,Sem.run_pure,Result.andThen_ok];split at ay
  ·simp only[dB,dF] at ay;obtain⟨rfl,rfl⟩:=ay;have h0:0<=oL:=cE _ (by simp);exact⟨_,by simp[binOp,Op.shift,show ¬oL<0 by omega],.n _ _⟩
  ·simp only[dB,dF] at ay;obtain⟨rfl,rfl⟩:=ay;have h0:0<=oL:=cE _ (by simp);exact⟨_,by simp[binOp,Op.shift,show ¬oL<0 by omega],.n _ _⟩
  split at ay
  ·simp at ay
  rename_i aX;have aX:k=eD:=(by simpa using aX);subst aX;split at ay<;>simp only[dB,dF,reduceCtorEq] at ay
  all_goals (obtain⟨rfl,rfl⟩:=ay)
  case h_4|h_5 =>
   have h0:oL≠0:=cE _ (by simp);exact⟨_,by simp[binOp,Op.intDiv,h0],.n _ _⟩
  all_goals first
   | (refine⟨_,?_,.n _ _⟩;rw[binOp_add];rfl)
   | (refine⟨_,?_,.n _ _⟩;rw[binOp_sub];rfl)
   | (refine⟨_,?_,.n _ _⟩;rw[binOp_mul];rfl)
   | (refine⟨_,?_,.n _ _⟩;rw[binOp_and];rfl)
   | (refine⟨_,?_,.n _ _⟩;rw[binOp_or];rfl)
   | (refine⟨_,?_,.n _ _⟩;rw[binOp_xor];rfl)
   | (refine⟨_,?_,.b _⟩;simp[binOp,Op.intCmp];done)
 ·rename_i dc nM
  have iX:=U.C8;have j0:=aV.C8;subst iX;subst j0;have dm : ∀op,eqGuard op t p q (.string dc) (.string nM)=pure ():=fun op=>eqGuard_at_string ..;simp only[Sem.run_bind,dm,Sem.run_pure,Result.andThen_ok];split at ay<;>simp only[dB,dF,reduceCtorEq] at ay
  all_goals (obtain⟨rfl,rfl⟩:=ay)
  ·have h0:dc.size+nM.size<9223372036854775808:=cE _ (by simp);refine⟨_,?_,.s _⟩;have h1 : ¬((dc.size+nM.size:Nat):Int)>IntKind.i64.max:=(by rw[IntKind.max_i64];omega);rw[IntKind.max_i64] at h1;simp[binOp,Op.stringOp];omega
  ·exact⟨_,by simp[binOp,Op.stringOp],.b _⟩
  exact⟨_,by simp[binOp,Op.stringOp],.b _⟩
 simp at ay
theorem yK (t:TypeId)(x y:Value):Op.equal t x y=Op.equalIn (9999+1) t x y:=rfl
theorem E1 {t:TypeId}{a b:Bool}(d:Nat)(bC:P.underlying t=some .bool):(Op.equalIn (d+1) t (.bool a) (.bool b)).run P w = .ok (a == b) w:=by unfold Op.equalIn;simp[run_underlying bC]
theorem Fo {t e:TypeId}(d:Nat)(bC:P.underlying t=some (.pointer e)):(Op.equalIn (d+1) t (.pointer none) (.pointer none)).run P w = .ok true w:=by unfold Op.equalIn;simp[run_underlying bC]
theorem Fp {t e:TypeId}{a:Addr}(d:Nat)(bC:P.underlying t=some (.pointer e)):(Op.equalIn (d+1) t (.pointer (some a)) (.pointer none)).run P w = .ok false w:=by unfold Op.equalIn;simp[run_underlying bC]
theorem Fq {t e:TypeId}{a:Addr}(d:Nat)(bC:P.underlying t=some (.pointer e)):(Op.equalIn (d+1) t (.pointer none) (.pointer (some a))).run P w = .ok false w:=by unfold Op.equalIn;simp[run_underlying bC]
theorem Fs {t e:TypeId}(d:Nat)(bC:P.underlying t=some (.slice e)):(Op.equalIn (d+1) t (.slice none 0 0) (.slice none 0 0)).run P w = .ok true w:=by unfold Op.equalIn;simp[run_underlying bC]
theorem Uc {t e:TypeId}{a:Addr}{c:Nat}(d:Nat)(bC:P.underlying t=some (.slice e))(n:Nat):(Op.equalIn (d+1) t (.slice (some a) n c) (.slice none 0 0)).run P w = .ok false w:=by unfold Op.equalIn;simp[run_underlying bC]
theorem CF {t:TypeId}{x y:aC}{r:Bool}(ay:u0 P t x y=some r)
 {ok:Nat->Prop} {bd:kt} {bj:kn} {mR mS:Value} (U:Rel w ok bd bj x mR) (aV:Rel w ok bd bj y mS) (p q:Operand) :
 ((do eqGuard .eql t p q mR mS;binOp .eql t mR mS):Sem Value).run P w = .ok (.bool r) w /\
 ((do eqGuard .neq t p q mR mS;binOp .neq t mR mS):Sem Value).run P w = .ok (.bool !r) w:=by
 have key : ∀b:Bool,(∀op,eqGuard op t p q mR mS=pure ())->binOp .eql t mR mS=(do pure (.bool (<- Op.equal t mR mS)))->binOp .neq t mR mS=(do pure (.bool (!(<- Op.equal t mR mS)))) ->
  (Op.equal t mR mS).run P w = .ok b w->((do eqGuard .eql t p q mR mS;binOp .eql t mR mS):Sem Value).run P w = .ok (.bool b) w /\
  ((do eqGuard .neq t p q mR mS;binOp .neq t mR mS):Sem Value).run P w = .ok (.bool !b) w:=by
  intro b dm h1 h2 J;constructor
  ·rw[dm,h1];simp[J]
  rw[dm,h2];simp[J]
 unfold u0 at ay;split at ay
 ·rename_i dc nM bC;simp only[dB] at ay;subst ay;have iX:=U.xk;have j0:=aV.xk;subst iX;subst j0;exact key _ (fun op=>eqGuard_at_bool ..) rfl rfl (by rw[yK];first|exact E1 _ bC|exact Fo _ bC|exact Fp _ bC|exact Fq _ bC|exact Fs _ bC)
 ·rename_i e bC;simp only[dB] at ay;subst ay;have iX:=U.yR;have j0:=aV.yR;subst iX;subst j0;exact key _ (fun op=>eqGuard_at_pointer ..) rfl rfl (by rw[yK];first|exact E1 _ bC|exact Fo _ bC|exact Fp _ bC|exact Fq _ bC|exact Fs _ bC)
 ·rename_i e sz es i off bC;simp only[dB] at ay;subst ay;obtain⟨e7,cl,-,iX,-⟩:=U.CO;have j0:=aV.yR;subst iX;subst j0;exact key _ (fun op=>eqGuard_at_pointer ..) rfl rfl (by rw[yK];first|exact E1 _ bC|exact Fo _ bC|exact Fp _ bC|exact Fq _ bC|exact Fs _ bC)
 ·rename_i e sz es i off bC;simp only[dB] at ay;subst ay;obtain⟨e7,cl,-,j0,-⟩:=aV.CO;have iX:=U.yR;subst iX;subst j0;exact key _ (fun op=>eqGuard_at_pointer ..) rfl rfl (by rw[yK];first|exact E1 _ bC|exact Fo _ bC|exact Fp _ bC|exact Fq _ bC|exact Fs _ bC)
 ·rename_i e bC;simp only[dB] at ay;subst ay;have iX:=U.rV;have j0:=aV.rV;subst iX;subst j0;exact key _ (fun op=>eqGuard_at_slice ..) rfl rfl (by rw[yK];first|exact E1 _ bC|exact Fo _ bC|exact Fp _ bC|exact Fq _ bC|exact Fs _ bC)
 ·rename_i e bC;simp only[dB] at ay;subst ay;obtain⟨Ai,c,iX⟩:=U.Jc;have j0:=aV.rV;subst iX;subst j0;exact key _ (fun op=>eqGuard_at_slice ..) rfl rfl (by rw[yK];exact Uc _ bC 0)
 simp at ay
theorem Wx {t e:TypeId}(bC:P.underlying t=some (.slice e)){sz:Nat}{es:List (List aC)}(dd:es≠[])
 {ok:Nat->Prop} {bd:kt} {bj:kn} {mR mS:Value} (U:Rel w ok bd bj (.isl sz es) mR) (aV:Rel w ok bd bj .e8 mS) (p q:Operand) :
 ((do eqGuard .eql t p q mR mS;binOp .eql t mR mS):Sem Value).run P w = .ok (.bool false) w /\
 ((do eqGuard .neq t p q mR mS;binOp .neq t mR mS):Sem Value).run P w = .ok (.bool true) w:=by
 rcases U.vO with ⟨h0,-⟩|⟨e7,off,c,-,iX,-⟩
 ·exact absurd h0 dd
 have j0:=aV.rV;subst iX;subst j0;have J:(Op.equal t (.slice (some ⟨e7,off,none⟩) es.length c) (.slice none 0 0)).run P w = .ok false w:=by rw[yK];exact Uc _ bC _
 have dm : ∀op,eqGuard op t p q (.slice (some ⟨e7,off,none⟩) es.length c) (.slice none 0 0)=pure ():=fun op=>eqGuard_at_slice ..;have h1:binOp .eql t (.slice (some ⟨e7,off,none⟩) es.length c) (.slice none 0 0)=(do pure (.bool (<- Op.equal t (.slice (some ⟨e7,off,none⟩) es.length c) (.slice none 0 0)))):=rfl;have h2:binOp .neq t (.slice (some ⟨e7,off,none⟩) es.length c) (.slice none 0 0)=(do pure (.bool (!(<- Op.equal t (.slice (some ⟨e7,off,none⟩) es.length c) (.slice none 0 0))))):=rfl;constructor
 ·rw[dm,h1];simp[J]
 rw[dm,h2];simp[J]
theorem agy {op:BinOp}{t cw:TypeId}{x y:Operand}(h:c7 g s aE a w)(an:o.op = .binOp op t x y cw)(ay:fE P s.E s.aY a5 o c9=some bA)(cE:∀p∈bA.f9,p):Fin P g s a w o bA:=by
 simp only[fE,an] at ay;have U:=h.eval x;have aV:=h.eval y;split at ay
 ·rename_i v aj aW;simp only[dB] at ay;subst ay;obtain⟨u,h1,h2⟩:=afB (P:=P) (t:=t) aW cE U aV x y;refine jm (v:=u) h ?_ rfl h2;simp only[execOp,an];rw[Sem.run_bind,h1];rfl
 split at ay
 ·cases he:u0 P t (fq s.E x) (fq s.E y) with
  | none=>simp[he] at ay
  | some r =>
   simp[he] at ay;subst ay;refine jm (v:= .bool r) h ?_ rfl (.b r);simp only[execOp,an];rw[Sem.run_bind,(CF (w:=w) he U aV x y).1];rfl
 ·cases he:u0 P t (fq s.E x) (fq s.E y) with
  | none=>simp[he] at ay
  | some r =>
   simp[he] at ay;subst ay;refine jm (v:= .bool !r) h ?_ rfl (.b _);simp only[execOp,an];rw[Sem.run_bind,(CF (w:=w) he U aV x y).2];rfl
 simp at ay
theorem ahB {op:UnOp}{t:TypeId}{x:Operand}(h:c7 g s aE a w)(an:o.op = .unOp op t x)(ay:fE P s.E s.aY a5 o c9=some bA):Fin P g s a w o bA:=by
 simp only[fE,an] at ay;have U:=h.eval x
 cases he:Oy op (fq s.E x) with
 | none=>simp[he] at ay
 | some v =>
  simp[he] at ay;subst ay;unfold Oy at he;split at he
  ·rename_i k n h9;rw[h9] at U;simp only[dB] at he;subst he;refine jm (v:= .int k (k.wrap (0-n))) h ?_ rfl (.n _ _);simp[execOp,an,U.pZ,Op.unary,Op.intArith]
  ·rename_i b h9;rw[h9] at U;simp only[dB] at he;subst he;refine jm (v:= .bool !b) h ?_ rfl (.b _);simp[execOp,an,U.xk,Op.unary]
  simp at he
theorem aeT {t cw:TypeId}{x:Operand}(h:c7 g s aE a w)(an:o.op = .convert t cw x)(ay:fE P s.E s.aY a5 o c9=some bA):Fin P g s a w o bA:=by
 simp only[fE,an] at ay;have U:=h.eval x;split at ay
 ·rename_i k eD n bC h9
  rw[h9] at U;split at ay
  case isFalse=>simp at ay
  rename_i bG;simp only[dB] at ay;subst ay;refine jm (v:= .int k (k.wrap n)) h ?_ rfl (.n _ _)
  cases XV:P.underlying t with
  | none=>simp[XV] at bG
  | some d=>simp[execOp,an,U.pZ,convert,run_underlying bC,run_underlying XV,Conv.intToInt]
 ·rename_i r k bL len bC h9
  rw[h9] at U;split at ay;rotate_left
  ·simp at ay
  rename_i aj JQ bo;split at ay;rotate_left
  ·simp at ay
  rename_i pd GR;split at ay;rotate_left
  ·simp at ay
  rename_i aZ;simp only[dB] at ay;subst ay
  obtain⟨e,bG,he⟩ : ∃e,P.underlying t=some (.slice e)/\P.underlying e=some (.int .u8):=by
   unfold ri at JQ;split at JQ
   ·rename_i e bG;exact⟨e,bG,JQ⟩
   simp at JQ
  have eV:s.aj r k=some aj:=bo;have fL:=h.obj r k aj eV
  have hzero : ∀(lT:Option Addr) (c:Nat),len=0->(convert t cw (.slice lT 0 c)).run P w = .ok (.string (Dg pd)) w:=by
   intro lT c h0;subst h0;have:pd=[]:=(by simpa [bytesOf] using GR);subst this
   cases lT with
   | none=>rw[run_convert_bytes_string w t cw e none 0 c bG he bC];simp[Conv.bytesToString,Dg]
   | some lT =>
    rw[run_convert_bytes_string w t cw e (some lT) 0 c bG he bC,run_bytesToString w lT 0 c [] (by have:=run_loadCells_list (P:=P) w lT [] (fun j v aq=>by simp at aq);simpa using this)];rfl
  rcases U.FK (jh eV) with ⟨af,rfl,rfl,hval⟩|⟨b,m,A,c,af,hval,sg,u2,hm⟩
  ·refine jm (v:= .string (Dg pd)) h ?_ rfl (.s _);simp[execOp,an,hval,hzero none 0 rfl]
  refine jm (v:= .string (Dg pd)) h ?_ rfl (.s _);by_cases h0:len=0
  ·subst h0;simp[execOp,an,hval,hzero A c rfl]
  rcases hm with hm|⟨hA,hm⟩
  ·omega
  subst hA;rw[af] at fL;have jS:=fL.rd
  have Dp : ∀(es:List (List aC)) (pd:ar),bytesOf es=some pd->es.length=pd.length/\ ∀(i:Nat) n,pd[i]? = some n->es[i]? = some [.n .u8 n]:=by
   intro es
   induction es with
   | nil=>intro pd h;simp[bytesOf] at h;subst h;exact⟨rfl,fun i n aa=>by simp at aa⟩
   | cons x es ih =>
    intro pd h;unfold bytesOf at h;split at h
    ·simp at *
    ·rename_i nc anb Dq
     simp only[List.cons.injEq] at Dq;obtain⟨rfl,rfl⟩:=Dq;rw[dO] at h;obtain⟨eP,J8,rfl⟩:=h;obtain⟨e1,e2⟩:=ih eP J8;refine⟨by simp[e1],fun i n aa=> ?_⟩
     cases i with
     | zero=>simp at aa;subst aa;rfl
     | succ i=>simpa using e2 i n (by simpa using aa)
    simp at h
  obtain⟨e1,e2⟩:=Dp _ _ GR;have hlen:pd.length=len:=(by rw[<- e1];simp;omega);have aiW:(loadCells ⟨b,bL*aj.sz,none⟩ len).run P w = .ok (pd.map (Value.int .u8)).toArray w:=(by have:=run_loadCells_list (P:=P) w ⟨b,bL*aj.sz,none⟩ (pd.map (Value.int .u8)) (fun j v aq=>by rw[dK,dO] at aq;obtain⟨n,aS,rfl⟩:=aq;have lA:=e2 j n aS;have zN:j<len:=(by rw[<- hlen];exact(aod.1 aS).1);rw[List.getElem?_take_of_lt zN,aoo] at lA;obtain⟨v,v1,v2,v3⟩:=jS.2 ((bL+j)*aj.sz+0) (.n .u8 n) (by rw[Fm jS.1 lA (by omega)];rfl);have bf:=v3.pZ;subst bf;rw[tF,<- v1,aZ.2];congr 2;omega);rw[aok,hlen] at this;exact this);have h2:=run_bytesToString w ⟨b,bL*aj.sz,none⟩ len c pd aiW;rw[<- run_convert_bytes_string w t cw e _ len c bG he bC] at h2;simp[execOp,an,hval,h2,Dg]
 simp at ay
theorem aer {f:Fn}{HC cH:Array Operand}(h:c7 g s aE a w)(an:o.op = .makeFunc f HC cH)(ay:fE P s.E s.aY a5 o c9=some bA):Fin P g s a w o bA:=by
 cases f with
 | func n =>
  simp only[fE,an] at ay;split at ay;rotate_left
  ·simp at ay
  rename_i aj5;simp only[dB] at ay;subst ay;refine jm (v:= .func (.func n) #[] (cH.map a.eval)) h ?_ rfl ?_
  ·have:HC = #[]:=(by simpa using aj5);subst this;simp[execOp,an,Instr.makeFunc]
  have:=Rel.fn (f:=n) (c:=cH.toList.map (fq s.E)) (w:=w) (ok:=s.ok g aE w) (bd:=s.bd) (bj:=s.bj aE) (cH.toList.map a.eval) (by simp) (by intro j x v U bf;rw[dK,dO] at U bf;obtain⟨p,af,rfl⟩:=U;obtain⟨q,a0,rfl⟩:=bf;rw[af] at a0;simp at a0;subst a0;exact h.eval p);have e:(cH.toList.map a.eval).toArray=cH.map a.eval:=(by apply Array.ext';rw[Array.toList_map]);rw[e] at this;exact this
 | _=>simp[fE,an] at ay
theorem aeU {i:Nat}{x:Operand}(h:c7 g s aE a w)(an:o.op = .extract x i)(ay:fE P s.E s.aY a5 o c9=some bA):Fin P g s a w o bA:=by
 simp only[fE,an] at ay;have U:=h.eval x;split at ay;rotate_left
 ·simp at ay
 rename_i vs h9;rw[h9] at U
 cases aa:vs[i]? with
 | none=>simp[aa] at ay
 | some v =>
  simp[aa] at ay;subst ay;obtain⟨bd,hval,aT,ai⟩:=U.CN
  have ez:i<bd.length:=by
   rcases Nat.lt_or_ge i vs.length with c5|c5
   ·omega
   rw[aoe c5] at aa;simp at aa
  have hu:bd[i]? = some bd[i]:=dz ez;refine jm (v:=bd[i]) h ?_ rfl (ai i v _ aa hu);simp[execOp,an,hval,Instr.extract,hu]
end
section
variable {P:Program} {g:G} {s:S} {aE:gw} {a:Act} {w:World} {o:Oper} {c9:fP} {a5:Nat} {bA:iy}
theorem tG {t e:TypeId}(h:ri P t=some e):P.underlying t=some (.slice e):=by
 unfold ri at h;split at h
 ·rename_i fb he;simp at h;subst h;exact he
 simp at h
theorem Mk {t:TypeId}{mm:Array Field}(h:fieldsOf P t=some mm):P.underlying t=some (.struct mm):=by
 unfold fieldsOf at h;split at h
 ·rename_i fb he;simp at h;subst h;exact he
 simp at h
theorem Tt : ∀(z c:List aC),(tM z c).length=z.length
 | x::z,y::c=>by simp[tM,Tt z c]
 | [],_=>by simp[tM]
 | _::_,[]=>by simp[tM]
theorem ad5 (z:List aC)(c9:fP):(vV z c9).length=z.length:=by
 unfold vV;split
 ·exact Tt z _
 rfl
theorem aeV (x y:aC){w:World}{ok:Nat->Prop}{bd:kt}{bj:kn}{v:Value}(h:Rel w ok bd bj x v):Rel w ok bd bj (FU x y) v:=by
 unfold FU;split
 ·rw[h.rV];exact .lv _ _ _ (fun _=>rfl)
 ·rw[h.yR];exact .rr _
 ·rw[h.rV];exact .ou (.lv _ _ _ (fun _=>rfl))
 exact h
theorem UJ : ∀(z c:List aC) (j:Nat) q,(tM z c)[j]? = some q-> ∃x,z[j]? = some x/\(q=x\/ ∃y,q=FU x y)
 | x::z,y::c,0,q,h=>by simp[tM] at h;exact⟨x,rfl,.inr ⟨y,h.symm⟩⟩
 | x::z,y::c,j+1,q,h=>by simp only[tM,List.getElem?_cons_succ] at h;simpa using UJ z c j q h
 | [],c,j,q,h=>by simp[tM] at h
 | x::z,[],j,q,h=>⟨q,by simpa [tM] using h,.inl rfl⟩
theorem agz (z:List aC)(c9:fP)(j:Nat)(q:aC)(h:(vV z c9)[j]? = some q): ∃x,z[j]? = some x/\(q=x\/ ∃y,q=FU x y):=by
 unfold vV at h;split at h
 ·exact UJ z _ j q h
 exact⟨q,h,.inl rfl⟩
theorem ad6 {t:TypeId}{x y:Operand}(h:c7 g s aE a w)(fI:s.aY a5=none)(an:o.op = .makeSlice t x y)(ay:fE P s.E s.aY a5 o c9=some bA)(cE:∀p∈bA.f9,p):Fin P g s a w o bA:=by
 simp only[fE,an] at ay;have U:=h.eval x;have aV:=h.eval y;split at ay;rotate_left
 ·simp at ay
 rename_i e l2 l jt c he ajr ajs;rw[ajr] at U;rw[ajs] at aV;split at ay;rotate_left
 ·simp at ay
 rename_i i z aa cA;obtain⟨fs,ff,lj,lL,q3,Wy⟩:=Cv cA;rw[aa] at lj;simp at lj;subst lj;simp only[Option.ite_none_right_eq_some,dB] at ay;obtain⟨fF,ay⟩:=ay;subst ay;have mJ:=ad5 z c9
 have lu : ∀(j:Nat) q,(vV z c9)[j]? = some q-> ∃v,ff.cells[j]? = some v/\VL.lH v=true/\ ∀w ok bd bj,Rel w ok bd bj q v:=by
  intro j q a0;obtain⟨x,eC,o7⟩:=agz z c9 j q a0;obtain⟨v,v1,v2,v3⟩:=Wy j x eC;refine⟨v,v1,v2,fun w ok bd bj=> ?_⟩;rcases o7 with rfl|⟨y,rfl⟩
  ·exact v3 w ok bd bj
  exact aeV x y (v3 w ok bd bj)
 clear Wy;have h0:0<=l:=cE _ (by simp);have h1:l<=c:=cE _ (by simp);have h2:(i.bytes:Int)*c<=281474976710656:=cE _ (by simp);have J:c<9223372036854775808:=cE _ (by simp);have nH:z.length=ff.cells.size:=by rw[q3];simp
 have ki:=run_make (P:=P) w t e i ff (tG he) aa lL l2 jt l c h0 h1 h2 (by omega);refine Jd (v:= .slice (some ⟨w.heap.size,0,none⟩) l.toNat c.toNat) (aj:=⟨z.length,List.replicate l.toNat (vV z c9),.live⟩) (c:=madeCells ff.cells (c.toNat*i.size)) (fl:=e) h fI rfl ?_ rfl ?_ ?_ ?_
 ·simp[execOp,an,U.pZ,aV.pZ,ki]
 ·intro fb nG;rw[List.eq_of_mem_replicate nG];exact mJ
 ·intro j q a0
  have aT : ∀fb∈List.replicate l.toNat (vV z c9),fb.length=z.length:=fun fb nG=>(by rw[List.eq_of_mem_replicate nG];exact mJ);rcases Nat.eq_zero_or_pos z.length with ua|J9
  ·have:vV z c9=[]:=dM.1 (by omega);rw[this] at a0;simp at a0
  rw[q8 J9 _ aT,List.getElem?_replicate] at a0;by_cases aq:j / z.length<l.toNat;rotate_left
  ·rw[dA aq] at a0;simp at a0
  rw[dw aq] at a0;simp only[dx] at a0;obtain⟨v,e1,e2,bJ⟩:=lu _ _ a0;refine⟨v,?_,e2,bJ _ _ _ _⟩;have ez:j<c.toNat*i.size:=(by rw[<- fF];have:j<l.toNat*z.length:=(Nat.div_lt_iff_lt_mul J9).1 aq;exact Nat.lt_of_lt_of_le this (aob _ (by omega)));simp only[madeCells];rw[Array.getElem?_map,Array.getElem?_range];simp only[ez,if_true,dR];rw[nH] at e1;have hm:j % ff.cells.size<ff.cells.size:=Nat.mod_lt _ (by omega);rw[aoa hm] at e1;rw[getElem!_pos ff.cells _ hm];exact e1
 intro bQ mw oA nZ hu cj;refine Rel.bu hu cj (by omega) (by omega) ⟨?_,.inr (by simp)⟩;rw[size_madeCells];simp only[dG,fF]
theorem ad7 {t:TypeId}{x:Operand}{f:Nat}(h:c7 g s aE a w)(an:o.op = .fieldAddr t x f)(ay:fE P s.E s.aY a5 o c9=some bA)(cE:∀p∈bA.f9,p):Fin P g s a w o bA:=by
 simp only[fE,an] at ay;have U:=h.eval x;split at ay;rotate_left
 ·simp at ay
 rename_i mm GS;split at ay;rotate_left
 ·simp at ay
 rename_i fd xy;split at ay
 ·simp at ay
 rename_i XW
 have aa:(P.info? fd.type).isSome=true:=by
  cases aa:P.info? fd.type with
  | none=>simp[Program.cellsOf,aa] at XW
  | some i=>rfl
 have ki : ∀A:Addr,A.spot=none->(Instr.fieldAt t (.pointer (some A)) f).run P w = .ok (.pointer (some ⟨A.block,A.off+fd.offset,none⟩)) w:=by intro A hA;have e:A.add fd.offset=⟨A.block,A.off+fd.offset,none⟩:=(by obtain⟨b,o,sp⟩:=A;simp only at hA;subst hA;exact tF b o _);simp[Instr.fieldAt,run_underlying (Mk GS),xy,Instr.sureAddr,fieldPlace,uC aa,XW,e]
 split at ay
 ·rename_i r k i off h9
  rw[h9] at U;split at ay
  ·rename_i aj bR bo
   split at ay
   ·rename_i c aL mJ
    simp only[dB] at ay;subst ay;have j7:s.aj r k=some aj:=uO bo fun p af=>cE p (by simp[af]);have rs:=Cz mJ fun p af=>cE p (by simp[af]);have fL:=h.obj r k aj j7;rcases U.y1 (jh j7) with h0|⟨b,m,af,hval⟩
    ·rw[h0] at fL;simp only[ke] at fL;rw[fL] at rs;simp at rs
    refine jm (v:= .pointer (some ⟨b,i*aj.sz+(off+fd.offset),none⟩)) h ?_ rfl ?_
    ·simp[execOp,an,hval,ki,Nat.add_assoc]
    exact U.UH ((jh j7).trans (by rw[af])) _
   simp at ay
  simp at ay
 ·rename_i sz es i off h9;rw[h9] at U;simp only[dB] at ay;subst ay;obtain⟨e7,cl,aW,hval,jS⟩:=U.CO;refine jm (v:= .pointer (some ⟨e7,cl+(i*sz+(off+fd.offset)),none⟩)) h ?_ rfl (jS.fO aW);simp[execOp,an,hval,ki,Nat.add_assoc]
 simp at ay
theorem Ni {t e:TypeId}{n:Nat}(h:Gr P t=some (n,e)):P.underlying t=some (.array n e)/\(P.info? e).isSome=true/\P.cellsOf e≠0/\1<n:=by
 unfold Gr at h;split at h
 ·rename_i oL fb hu
  split at h
  ·rename_i aZ;simp only[dB,dF] at h;obtain⟨rfl,rfl⟩:=h;exact⟨hu,aZ⟩
  simp at h
 simp at h
theorem agA {t:TypeId}{x y:Operand}(h:c7 g s aE a w)(an:o.op = .indexAddr t x y)(ay:C6 P s.aY t (fq s.E x) (fq s.E y) c9=some bA)(cE:∀p∈bA.f9,p):Fin P g s a w o bA:=by
 unfold C6 at ay;have U:=h.eval x;have aV:=h.eval y;split at ay;rotate_left
 ·simp at ay
 rename_i n e r k i off cS j iq wg Gt;rw[wg] at U;rw[Gt] at aV;obtain⟨hu,aa,aZ,aS⟩:=Ni iq;split at ay;rotate_left
 ·simp at ay
 rename_i aj bR bo;split at ay
 ·rename_i c aL mJ
  simp only[dB] at ay;subst ay;have j7:s.aj r k=some aj:=uO bo fun p af=>cE p (by simp[af]);have rs:=Cz mJ fun p af=>cE p (by simp[af]);have h0:0<=j:=cE _ (by simp);have h1:j<n:=cE _ (by simp);have fL:=h.obj r k aj j7;rcases U.y1 (jh j7) with cA|⟨b,m,af,hval⟩
  ·rw[cA] at fL;simp only[ke] at fL;rw[fL] at rs;simp at rs
  refine jm (v:= .pointer (some ⟨b,i*aj.sz+(off+j.toNat*P.cellsOf e),none⟩)) h ?_ rfl ?_
  ·simp[execOp,an,hval,aV.pZ,Instr.indexAt,asIntOf,run_underlying hu,Instr.sureAddr,h0,h1,uC aa,tF,Nat.add_assoc]
  exact U.UH ((jh j7).trans (by rw[af])) _
 simp at ay
theorem ad8 {t:TypeId}{x y:Operand}(h:c7 g s aE a w)(an:o.op = .indexAddr t x y)(ay:fE P s.E s.aY a5 o c9=some bA)(cE:∀p∈bA.f9,p):Fin P g s a w o bA:=by
 simp only[fE,an] at ay;have U:=h.eval x;have aV:=h.eval y;split at ay;rotate_left
 ·exact agA h an ay cE
 rename_i e k j he h9;rw[h9] at aV;have hu:=tG he
 have ki : ∀(b o len cap:Nat),0<=j->j<len->(P.info? e).isSome=true ->
  (Instr.indexAt t (.slice (some ⟨b,o,none⟩) len cap) (.int k j)).run P w = .ok (.pointer (some ⟨b,o+j.toNat*P.cellsOf e,none⟩)) w:=by
  intro b o len cap h0 h1 aa;have fb:=tF b o (j.toNat*P.cellsOf e);simp[Instr.indexAt,asIntOf,run_underlying hu,h0,h1,uC aa,fb]
 have vW : ∀sz,sz=P.cellsOf e->sz≠0->(P.info? e).isSome=true:=by
  intro sz bG cA
  cases aa:P.info? e with
  | none=>simp[Program.cellsOf,aa] at bG;exact absurd bG cA
  | some i=>rfl
 split at ay
 ·rename_i sz es wg
  rw[wg] at U;simp only[Option.ite_none_right_eq_some,dB] at ay;obtain⟨⟨bG,cA⟩,ay⟩:=ay;subst ay;have h0:0<=j:=cE _ (by simp);have h1:j<es.length:=cE _ (by simp);rcases U.vO with ⟨GU,-⟩|⟨e7,off,c,aW,hval,aZ,jS⟩
  ·subst GU;simp at h1;omega
  refine jm (v:= .pointer (some ⟨e7,off+(j.toNat*sz+0),none⟩)) h ?_ rfl (jS.fO aW);simp[execOp,an,hval,aV.pZ,ki _ _ _ _ h0 h1 (vW sz bG cA),bG]
 ·rename_i r q bL len wg
  rw[wg] at U;split at ay;rotate_left
  ·simp at ay
  rename_i row d4;split at ay;rotate_left
  ·simp at ay
  rename_i aj bR bo;simp only[Option.ite_none_right_eq_some,dB] at ay;obtain⟨⟨bG,cA⟩,ay⟩:=ay;subst ay;have j7:s.aj r q=some aj:=(by unfold S.aj;rw[d4];exact uO bo fun p af=>cE p (by simp[af]));have h0:0<=j:=cE _ (by simp);have h1:j<len:=cE _ (by simp);rcases U.FK (jh j7) with ⟨-,-,h2,-⟩|⟨b,m,A,c,af,hval,aT,-,hm⟩
  ·subst h2;simp at h1;omega
  rcases hm with hm|⟨hA,hm⟩
  ·omega
  subst hA;have kD:=IX j7;refine jm (v:= .pointer (some ⟨b,(bL+j.toNat)*aj.sz+0,none⟩)) h ?_ rfl (.ref kD ((jh j7).trans (by rw[af])));simp[execOp,an,hval,aV.pZ,ki _ _ _ _ h0 h1 (vW _ bG cA),bG,Nat.add_mul]
 simp at ay
theorem aic {c:Call}(h:c7 g s aE a w)(an:o.op = .call c)(aZ:c.callee = .builtin .len)(ay:fE P s.E s.aY a5 o c9=some bA)(cE:∀p∈bA.f9,p):Fin P g s a w o bA:=by
 obtain⟨Ka,args,n3⟩:=c;simp only at aZ;subst aZ;simp only[fE,an] at ay
 have key : ∀(x:Operand) (n:Nat) (t:TypeId) (v:Value),args.toList=[x]->n3 = #[t]->bA.val = .n .i64 n->bA.gM=[]->a.eval x=v ->
  (Builtin.len_ #[t] o.type #[v]).run P w = .ok (goInt n) w->Fin P g s a w o bA:=by
  intro x n t v hargs nI ai i6 bf ki;subst nI;refine jm (v:=goInt n) h ?_ i6 (by rw[ai];exact .n _ _);have bF:args = #[x]:=(by apply Array.ext';simpa using hargs);subst bF;simp[execOp,an,resolve,invoke,builtin,bf,ki]
 have hargs : ∀y,args.toList.map (fq s.E)=[y]-> ∃x,args.toList=[x]/\fq s.E x=y:=by
  intro y aV
  match aT:args.toList,aV with
  | [x],aV=>simp at aV;exact⟨x,rfl,aV⟩
 have nE:decide (n3.size=1)=true-> ∃t,n3 = #[t]/\n3.getD 0 0=t:=by
  intro fF;have fF:n3.size=1:=(by simpa using fF);obtain⟨l⟩:=n3
  match l,fF with
  | [t],_=>exact⟨t,rfl,rfl⟩
 split at ay
 ·rename_i sz es e hm hu fF
  obtain⟨x,U,h9⟩:=hargs _ hm;obtain⟨t,cj,n4⟩:=nE fF;rw[n4] at hu;simp only[dB] at ay;have ai:=h.eval x;rw[h9] at ai;rcases ai.vO with ⟨GU,A,c,hval,hA⟩|⟨e7,off,c,aW,hval,-⟩
  ·exact key x es.length t _ U cj (by rw[<- ay]) (by rw[<- ay]) hval (by subst GU;simp[Builtin.len_,run_underlying hu])
  exact key x es.length t _ U cj (by rw[<- ay]) (by rw[<- ay]) hval (by simp[Builtin.len_,run_underlying hu])
 ·rename_i r k bL len e hm hu fF
  obtain⟨x,U,h9⟩:=hargs _ hm;obtain⟨t,cj,n4⟩:=nE fF;rw[n4] at hu;split at ay
  ·rename_i row d4
   split at ay
   ·rename_i aj bR bo
    simp only[dB] at ay;have ai:=h.eval x;rw[h9] at ai;have j7:s.aj r k=some aj:=(by unfold S.aj;rw[d4];exact uO bo fun p af=>cE p (by rw[<- ay];exact af));rcases ai.FK (jh j7) with ⟨-,-,h2,hval⟩|⟨b,m,A,c,af,hval,-⟩
    ·exact key x len t _ U cj (by rw[<- ay]) (by rw[<- ay]) hval (by subst h2;simp[Builtin.len_,run_underlying hu])
    exact key x len t _ U cj (by rw[<- ay]) (by rw[<- ay]) hval (by simp[Builtin.len_,run_underlying hu])
   simp at ay
  simp at ay
 ·rename_i e hm hu fF;obtain⟨x,U,h9⟩:=hargs _ hm;obtain⟨t,cj,n4⟩:=nE fF;rw[n4] at hu;simp only[dB] at ay;have ai:=h.eval x;rw[h9] at ai;exact key x 0 t _ U cj (by rw[<- ay];rfl) (by rw[<- ay]) ai.rV (by simp[Builtin.len_,run_underlying hu])
 ·rename_i b hm hu fF;obtain⟨x,U,h9⟩:=hargs _ hm;obtain⟨t,cj,n4⟩:=nE fF;rw[n4] at hu;simp only[dB] at ay;have ai:=h.eval x;rw[h9] at ai;exact key x b.size t _ U cj (by rw[<- ay]) (by rw[<- ay]) ai.C8 (by simp[Builtin.len_,run_underlying hu])
 simp at ay
theorem Io {ok:Nat->Prop}{bd:kt}{bj:kn}{e7 off sz:Nat}{es:List (List aC)}(h:qm w ok bd bj e7 off sz es)(l n:Nat)(aT:l<=es.length):
 qm w ok bd bj e7 (off+l*sz) sz ((es.drop l).take n):=by
 have s8 : ∀e∈(es.drop l).take n,e.length=sz:=fun e he=>h.1 e (List.mem_of_mem_drop (List.mem_of_mem_take he));refine⟨s8,fun j x U=> ?_⟩;rcases Nat.eq_zero_or_pos sz with h0|bG
 ·have e1 : ∀(l:List (List aC)),(∀e∈l,e.length=0)->l.flatten=[]:=by
   intro l aT;induction l with
   | nil=>rfl
   | cons a l ih=>rw[aof,ih fun e he=>aT e (by simp[he])];have:=aT a (by simp);simp_all
  rw[e1 _ (fun e he=>(s8 e he).trans h0)] at U;simp at U
 rw[q8 bG _ s8] at U
 have aq:j / sz<n:=by
  rcases Nat.lt_or_ge (j / sz) n with c5|c5
  ·exact c5
  rw[aoe (by simp;omega)] at U;simp at U
 rw[an9,dw aq,aoo] at U;obtain⟨v,e1,e2,bJ⟩:=h.2 (l*sz+j) x (by rw[q8 bG es h.1];have hk:(l*sz+j) / sz=l+j / sz:=(by rw[Nat.mul_comm,Nat.mul_add_div bG]);have hq:(l*sz+j) % sz=j % sz:=(by rw[Nat.mul_comm,Nat.mul_add_mod]);rw[hk,hq];exact U);exact⟨v,by rw[Nat.add_assoc];exact e1,e2,bJ⟩
theorem Ii {t e:TypeId}(hu:P.underlying t=some (.slice e))(aa:(P.info? e).isSome=true)(A:Option Addr)(len cap:Nat)(bL lj:Option Value)(l h:Nat)
 (Kb:(bL=none/\l=0)\/ ∃k,bL=some (.int k l)) (XX:(lj=none/\h=len)\/ ∃k,lj=some (.int k h)) (h1:l<=h) (h2:h<=cap) (J:len<=cap) :
 (Instr.sliceAt t (.slice A len cap) bL lj none).run P w = .ok (.slice (if cap=l then A else A.map (·.add (l*P.cellsOf e))) (h-l) (cap-l)) w:=by
 have aW : ∀(k:IntKind) (n y:Nat) (code:BoundsCode),n<=y->(Instr.sliceBound (.int k n) y code).run P w = .ok n w:=by intro k n y code aS;simp[Instr.sliceBound,asIntOf,aS]
 rcases Kb with ⟨rfl,rfl⟩|⟨l2,rfl⟩<;>rcases XX with ⟨rfl,rfl⟩|⟨jt,rfl⟩ <;>
  simp[Instr.sliceAt,Instr.slice,run_underlying hu,Instr.sliceBounds,uC aa,aW,h1,h2,J]
theorem adL {t e:TypeId}(hu:P.underlying t=some (.slice e))(aa:(P.info? e).isSome=true)(A:Option Addr)(len cap:Nat)(bL:Option Value)(l h m:Nat)(jt my:IntKind)
 (Kb:(bL=none/\l=0)\/ ∃k,bL=some (.int k l)) (h1:l<=h) (h2:h<=m) (J:m<=cap) :
 ∃v,(Instr.sliceAt t (.slice A len cap) bL (some (.int jt h)) (some (.int my m))).run P w = .ok v w:=by
 have aW : ∀(k:IntKind) (n y:Nat) (code:BoundsCode),n<=y->(Instr.sliceBound (.int k n) y code).run P w = .ok n w:=by intro k n y code aS;simp[Instr.sliceBound,asIntOf,aS]
 rcases Kb with ⟨rfl,rfl⟩|⟨l2,rfl⟩ <;>
  exact⟨_,by simp[Instr.sliceAt,Instr.slice,run_underlying hu,Instr.sliceBounds,uC aa,aW,h1,h2,J];rfl⟩
theorem vQ {x:Option Operand}(h:c7 g s aE a w){d n:Nat}{aj:List Prop}(aW:ae (x.map (fq s.E)) d=some (n,aj))(cE:∀p∈aj,p):
 (x.map a.eval=none/\n=d)\/ ∃k,x.map a.eval=some (.int k n):=by
 cases x with
 | none=>simp[ae] at aW;exact .inl ⟨rfl,aW.1.symm⟩
 | some x =>
  have U:=h.eval x;simp only[dR] at aW ⊢;unfold ae at aW;split at aW
  ·rename_i he;simp at he
  ·rename_i _ k y he;simp only[dB] at he;rw[he] at U;simp only[dB,dF] at aW;obtain⟨rfl,rfl⟩:=aW;have h0:0<=y:=cE _ (by simp);refine .inr ⟨k,?_⟩;rw[U.pZ,Int.toNat_of_nonneg h0]
  simp at aW
theorem CG {sz:Nat}: ∀ {es:List (List aC)},(∀e∈es,e.length=sz)->es.flatten.length=es.length*sz
 | [],_=>by simp
 | e::es,h=>by rw[aof,dD,CG fun x U=>h x (by simp[U]),h e (by simp),dI,Nat.add_mul];omega
theorem c7.room (h:c7 g s aE a w){r k b M:Nat}{aj:a1}(an:s.aj r k=some aj)(mP:aE r k=some (b,M)):aj.es.length*aj.sz<=M:=by
 have fL:=h.obj r k aj an;rw[mP] at fL;obtain⟨cH,ns,g1,g2,g3,g4⟩:=fL;have kR:=CG g3;rcases Nat.eq_zero_or_pos aj.es.flatten.length with h0|kr
 ·omega
 obtain⟨v,e1,-⟩:=g4 (aj.es.flatten.length-1) _ (dz (by omega));have:=(aom.1 e1).1;omega
theorem afC {t:TypeId}{x aa wM:Operand}{bL:Option Operand}(h:c7 g s aE a w)(an:o.op = .slice t x bL (some aa) (some wM))(ay:fE P s.E s.aY a5 o c9=some bA)(cE:∀p∈bA.f9,p):Fin P g s a w o bA:=by
 simp only[fE,an] at ay;have U:=h.eval x
 have vW : ∀sz e,sz=P.cellsOf e->sz≠0->(P.info? e).isSome=true:=by
  intro sz e bG cA
  cases aa:P.info? e with
  | none=>simp[Program.cellsOf,aa] at bG;exact absurd bG cA
  | some i=>rfl
 split at ay;rotate_left
 ·simp at ay
 rename_i e r k wL len hu h9;rw[h9] at U;split at ay
 ·simp at ay
 rename_i row d4;split at ay
 ·simp at ay
 rename_i aj HB bo;split at ay;rotate_left
 ·simp at ay
 rename_i l bR n aL m eH aT aS hm;simp only[Option.ite_none_right_eq_some,dB] at ay;obtain⟨⟨bG,cA⟩,ay⟩:=ay;subst ay;have j7:s.aj r k=some aj:=by unfold S.aj;rw[d4];exact uO bo fun p af=>cE p (by simp[af])
 have i9:=vQ h aT fun p af=>cE p (by simp[af]);have j1:=vQ (x:=some aa) h aS fun p af=>cE p (by simp[af]);have rH:=vQ (x:=some wM) h hm fun p af=>cE p (by simp[af]);have h1:l<=n:=cE _ (by simp);have h2:n<=m:=cE _ (by simp);have J:m<=len:=cE _ (by simp)
 obtain⟨jt,e2⟩ : ∃jt,a.eval aa = .int jt n:=by
  rcases j1 with ⟨e,-⟩|⟨jt,e⟩
  ·simp at e
  exact⟨jt,by simpa using e⟩
 obtain⟨my,bJ⟩ : ∃my,a.eval wM = .int my m:=by
  rcases rH with ⟨e,-⟩|⟨my,e⟩
  ·simp at e
  exact⟨my,by simpa using e⟩
 obtain⟨A,L,C,hval,aZ⟩ : ∃A L C,a.eval x = .slice A L C/\m<=C:=by
  rcases U.uK (jh j7) with ⟨-,-,h0,hval⟩|⟨b,M,A,c,-,hval,sg,-⟩
  ·exact⟨none,0,0,hval,by omega⟩
  exact⟨A,len,c,hval,by omega⟩
 obtain⟨v,bf⟩:=adL (w:=w) hu (vW _ e bG cA) A L C (bL.map a.eval) l n m jt my i9 h1 h2 aZ;refine jm (v:=v) h ?_ rfl (.dead _);simp only[execOp,an,hval];simp only[dR,e2,bJ,Sem.run_bind,bf];rfl
theorem agB {t:TypeId}{x:Operand}{bL aa:Option Operand}(h:c7 g s aE a w)(an:o.op = .slice t x bL aa none)(ay:fE P s.E s.aY a5 o c9=some bA)(cE:∀p∈bA.f9,p):Fin P g s a w o bA:=by
 simp only[fE,an] at ay;have U:=h.eval x
 have vW : ∀sz e,sz=P.cellsOf e->sz≠0->(P.info? e).isSome=true:=by
  intro sz e bG cA
  cases aa:P.info? e with
  | none=>simp[Program.cellsOf,aa] at bG;exact absurd bG cA
  | some i=>rfl
 split at ay
 ·rename_i e sz es hu h9
  rw[h9] at U;split at ay;rotate_left
  ·simp at ay
  rename_i l bR n aL aT aS;simp only[Option.ite_none_right_eq_some,dB] at ay;obtain⟨⟨bG,cA⟩,ay⟩:=ay;subst ay;have i9:=vQ h aT fun p af=>cE p (by simp[af]);have j1:=vQ h aS fun p af=>cE p (by simp[af]);have h1:l<=n:=cE _ (by simp);have h2:n<=es.length:=cE _ (by simp);rcases U.vO with ⟨GU,A,c,hval,hA⟩|⟨e7,off,c,aW,hval,aZ,jS⟩
  ·subst GU
   have OB:n=0:=(by simpa using h2);subst OB;have o8:l=0:=(by omega);subst o8;refine jm (v:= .slice (if c=0 then A else A.map (·.add (0*P.cellsOf e))) (0-0) (c-0)) h ?_ rfl ?_
   ·have:=Ii (w:=w) hu (vW sz e bG cA) A 0 c (bL.map a.eval) (aa.map a.eval) 0 0 i9 j1 (dE _) (Nat.zero_le _) (Nat.zero_le _);simp only[execOp,an,hval];simp only[Option.map_none,Sem.run_bind,this];rfl
   refine .lv sz _ _ fun aS=> ?_;split at aS
   ·rename_i od;omega
   have:=hA (by simpa using aS);omega
  have hlen:((es.drop l).take (n-l)).length=n-l:=(by simp;omega);refine jm (v:= .slice (if c=l then some ⟨e7,off,none⟩ else (some (⟨e7,off,none⟩:Addr)).map (·.add (l*P.cellsOf e))) (n-l) (c-l)) h ?_ rfl ?_
  ·have:=Ii (w:=w) hu (vW sz e bG cA) (some ⟨e7,off,none⟩) es.length c (bL.map a.eval) (aa.map a.eval) l n i9 j1 h1 (Nat.le_trans h2 aZ) aZ;simp only[execOp,an,hval];simp only[Option.map_none,Sem.run_bind,this];rfl
  by_cases jq:c=l
  ·have:n-l=0:=(by omega);rw[this];show Rel _ _ _ _ (.isl sz ((es.drop l).take 0)) _;rw[List.take_zero];exact .lv sz _ _ (fun _=>by omega)
  rw[dA jq];simp only[dR,tF,<- bG];have ai:=(Io jS l (n-l) (by omega)).isl (c:=c-l) ⟨aW.1,fun e he=>aW.2 e (List.mem_of_mem_drop (List.mem_of_mem_take he))⟩ (by rw[hlen];omega);rw[hlen] at ai;exact ai
 ·rename_i e r k wL len hu h9
  rw[h9] at U;split at ay
  ·simp at ay
  rename_i row d4;split at ay
  ·simp at ay
  rename_i aj HB bo;split at ay;rotate_left
  ·simp at ay
  rename_i l bR n aL aT aS;simp only[Option.ite_none_right_eq_some,dB] at ay;obtain⟨⟨bG,cA⟩,ay⟩:=ay;subst ay;have j7:s.aj r k=some aj:=(by unfold S.aj;rw[d4];exact uO bo fun p af=>cE p (by simp[af]));have i9:=vQ h aT fun p af=>cE p (by simp[af]);have j1:=vQ h aS fun p af=>cE p (by simp[af])
  have ec:l<=n/\(n<=len\/wL+n<=aj.es.length):=by
   have hm : ∀p∈Ox c9 l n len wL aj.es.length,p:=fun p af=>cE p (by simp[af]);unfold Ox at hm;split at hm
   ·exact⟨hm _ (by simp),.inr (hm _ (by simp))⟩
   exact⟨hm _ (by simp),.inl (hm _ (by simp))⟩
  obtain⟨h1,h2⟩:=ec;have kD:=IX j7;rcases U.uK (jh j7) with ⟨af,rfl,rfl,hval⟩|⟨b,m,A,c,af,hval,sg,u2,m4,hm⟩
  ·have OB:n=0:=by
    have fL:=h.obj r k aj j7;rw[af] at fL;simp only[ke] at fL;rw[fL] at h2;rcases h2 with h2|h2<;>simpa using h2
   subst OB;have o8:l=0:=(by omega);subst o8;refine jm (v:= .slice none 0 0) h ?_ rfl (.pk kD ((jh j7).trans (by rw[af])));have:=Ii (w:=w) hu (vW _ e bG cA) none 0 0 (bL.map a.eval) (aa.map a.eval) 0 0 i9 j1 (dE _) (dE _) (dE _);simp only[execOp,an,hval];simp only[Option.map_none,Sem.run_bind,this];rfl
  have aj6:n<=c:=by
   rcases h2 with h2|h2
   ·omega
   have:=h.room j7 af;rw[<- m4] at this;have:=Nat.le_of_mul_le_mul_right this (by omega);omega
  refine jm (v:= .slice (if c=l then A else A.map (·.add (l*P.cellsOf e))) (n-l) (c-l)) h ?_ rfl ?_
  ·have:=Ii (w:=w) hu (vW _ e bG cA) A len c (bL.map a.eval) (aa.map a.eval) l n i9 j1 h1 aj6 sg;simp only[execOp,an,hval];simp only[Option.map_none,Sem.run_bind,this];rfl
  refine Rel.bu kD ((jh j7).trans (by rw[af])) (by omega) (by omega) ?_;refine⟨by rw[<- m4];congr 1;omega,?_⟩;by_cases jq:c=l
  ·exact .inl (by omega)
  rcases hm with hm|hA
  ·exact .inl (by omega)
  refine .inr ?_;rw[dA jq,hA];simp only[dR,tF,<- bG,Nat.add_mul]
 ·rename_i b hu h9
  rw[h9] at U;split at ay;rotate_left
  ·simp at ay
  rename_i l bR n aL aT aS;simp only[dB] at ay;subst ay;have i9:=vQ h aT fun p af=>cE p (by simp[af]);have j1:=vQ h aS fun p af=>cE p (by simp[af]);have h1:l<=n:=cE _ (by simp);have h2:n<=b.size:=cE _ (by simp);refine jm (v:= .string (b.extract l n)) h ?_ rfl (.s _);have aW : ∀(k:IntKind) (n y:Nat) (code:BoundsCode),n<=y->(Instr.sliceBound (.int k n) y code).run P w = .ok n w:=(by intro k n y code aS;simp[Instr.sliceBound,asIntOf,aS]);simp only[execOp,an,U.C8,Option.map_none]
  rcases i9 with ⟨e1,rfl⟩|⟨l2,e1⟩<;>rcases j1 with ⟨e2,rfl⟩|⟨jt,e2⟩<;>rw[e1,e2] <;>
   simp[Instr.sliceAt,Instr.slice,run_underlying hu,Instr.sliceBounds,aW,h1,h2]
 simp at ay
end
section
variable {P:Program} {g:G} {s:S} {aE:gw} {a:Act} {w:World} {o:Oper} {c9:fP} {a5:Nat} {bA:iy}
theorem Ud {ok:Nat->Prop}{bd:kt}{bj:kn}{t:TypeId}{c:List aC}{off:Nat}{x:aC}{vs:List Value}(aT:vs.length=c.length)
 (lu : ∀(j:Nat) u,vs[j]? = some u->lH u=true) (ai : ∀(j:Nat) x u,c[j]? = some x->vs[j]? = some u->Rel w ok bd bj x u)
 (cj:s0 P t c off=some x) : ∃v,(part t vs.toArray off).run P w = .ok v w/\Rel w ok bd bj x v:=by
 unfold s0 at cj;split at cj
 ·simp at cj
 rename_i aa;simp only[Bool.not_eq_true',Bool.not_eq_false,dQ] at aa;simp only[part,Sem.run_bind,UG aa.1,Result.andThen];split at cj
 ·rename_i tY
  rw[tY];split at cj;rotate_left
  ·simp at cj
  rename_i hle;simp at cj;subst cj;have e:(vs.toArray.extract off (off+P.cellsOf t))=((vs.drop off).take (P.cellsOf t)).toArray:=(by apply Array.ext';simp[List.extract_eq_take_drop]);refine⟨.agg ((vs.drop off).take (P.cellsOf t)).toArray,by simp[uC aa.2],?_⟩;refine .agg _ (by simp;omega) ?_ ?_
  ·intro j v bf
   rw[an9] at bf;split at bf
   ·rw[aoo] at bf;exact lu _ _ bf
   simp at bf
  intro j y v aV bf;rw[an9] at bf aV;split at bf
  ·rename_i aq;rw[dw aq] at aV;rw[aoo] at bf aV;exact ai _ _ _ aV bf
  simp at bf
 rename_i tY;have tY:FT P t=false:=by simpa using tY
 rw[tY];split at cj
 ·rename_i y aV
  split at cj
  ·simp at cj;subst cj
   have Dh:off<vs.length:=by
    rcases Nat.lt_or_ge off c.length with h|h
    ·omega
    rw[aoe h] at aV;simp at aV
   exact⟨vs[off],by simp[Dh],ai off y _ aV (dz Dh)⟩
  simp at cj
 simp at cj
theorem agC {t:TypeId}{x:Operand}{f:Nat}(h:c7 g s aE a w)(an:o.op = .field t x f)(ay:fE P s.E s.aY a5 o c9=some bA):Fin P g s a w o bA:=by
 simp only[fE,an] at ay;have U:=h.eval x;split at ay
 ·rename_i mm GS
  split at ay
  ·rename_i fd c xy h9
   rw[h9] at U
   cases cj:s0 P fd.type c fd.offset with
   | none=>simp[cj] at ay
   | some v =>
    simp[cj] at ay;subst ay;obtain⟨vs,hval,aT,aZ,ai⟩:=U.CM;obtain⟨u,h1,h2⟩:=Ud aT aZ ai cj;refine jm (v:=u) h ?_ rfl h2;simp[execOp,an,hval,Instr.field,run_underlying (Mk GS),xy,asAgg,h1]
  simp at ay
 simp at ay
theorem UK : ∀ {a b c:List aC},sa 0 a b=some c->c=a
 | [],[],c,h=>by simp[sa] at h;exact h
 | .n k x::a,.n eD y::b,c,h=>by
  unfold sa at h;split at h
  ·cases hm:sa 0 a b with
   | none=>simp[hm] at h
   | some d=>simp[hm] at h;rw[<- h,UK hm]
  simp at h
 | [],_::_,_,h=>by simp[sa] at h
theorem Vm {j:Int}(aq:j≠0): ∀ {a b c:List aC},sa j a b=some c->c=b
 | [],[],c,h=>by simp[sa] at h;exact h
 | .n k x::a,.n eD y::b,c,h=>by
  unfold sa at h;split at h
  ·rename_i aX
   subst aX
   cases hm:sa j a b with
   | none=>simp[hm] at h
   | some d=>simp[hm,aq] at h;rw[<- h,Vm aq hm]
  simp at h
 | [],_::_,_,h=>by simp[sa] at h
theorem afD {t:TypeId}{x y:Operand}(h:c7 g s aE a w)(an:o.op = .index t x y)(ay:Nx P t (fq s.E x) (fq s.E y)=some bA)(cE:∀p∈bA.f9,p):Fin P g s a w o bA:=by
 unfold Nx at ay;have U:=h.eval x;have aV:=h.eval y;split at ay;rotate_left
 ·simp at ay
 rename_i e cs cS j iq wg Gt;rw[wg] at U;rw[Gt] at aV;obtain⟨hu,aa,-,-⟩:=Ni iq;split at ay;rotate_left
 ·simp at ay
 rename_i ew ll bF aW
 cases hm:sa j ew ll with
 | none=>simp[hm] at ay
 | some c =>
  simp only[hm,dR,dB] at ay;subst ay;have h0:0<=j:=cE _ (by simp);have h1:j<2:=cE _ (by simp);obtain⟨vs,hval,aT,aZ,ai⟩:=U.CM
  have key:s0 P e cs (j.toNat*P.cellsOf e)=some (.agg c):=by
   have:j=0\/j=1:=(by omega);rcases this with rfl|rfl
   ·rw[UK hm];exact bF
   rw[Vm (by decide) hm];exact aW
  obtain⟨u,l2,jt⟩:=Ud aT aZ ai key;refine jm (v:=u) h ?_ rfl jt;simp[execOp,an,hval,aV.pZ,Instr.index,asIntOf,run_underlying hu,h0,h1,uC aa,l2]
theorem agD {t:TypeId}{x y:Operand}(h:c7 g s aE a w)(an:o.op = .index t x y)(ay:fE P s.E s.aY a5 o c9=some bA)(cE:∀p∈bA.f9,p):Fin P g s a w o bA:=by
 simp only[fE,an] at ay;have U:=h.eval x;have aV:=h.eval y;split at ay
 ·rename_i b k j hu wg Gt
  rw[wg] at U;rw[Gt] at aV;simp only[dB] at ay;subst ay;have h0:0<=j:=cE _ (by simp);have h1:j<b.size:=cE _ (by simp);have h2:j.toNat<b.size:=(by omega);refine jm (v:= .int .u8 (b[j.toNat]).toNat) h ?_ rfl ?_
  ·simp[execOp,an,U.C8,aV.pZ,Instr.index,asIntOf,run_underlying hu,h0,h2]
  have e:b.data.toList.getD j.toNat 0=b[j.toNat]:=(by rw[aoc,Array.getElem?_toList,aoa (by simpa using h2)];rfl);show Rel _ _ _ _ (.n .u8 _) _;rw[e];exact .n _ _
 exact afD h an ay cE
theorem afE (off:Nat): ∀(vs:List Value) (n:Nat) (cs:Array Value) (j:Nat),off+n+vs.length<=cs.size ->
 ((vs.zipIdx n).foldl (fun cs (x:Value×Nat)=>cs.setIfInBounds (off+x.2) x.1) cs)[j]? = if off+n<=j/\j<off+n+vs.length then vs[j-(off+n)]? else cs[j]? := by
 intro vs
 induction vs with
 | nil=>intro n cs j h;simp;intro h1 h2;omega
 | cons v vs ih =>
  intro n cs j h;simp only[dI] at h;simp only[List.zipIdx_cons,List.foldl_cons];rw[ih (n+1) _ j (by simp;omega)];simp only[dI,Array.getElem?_setIfInBounds];by_cases h1:j=off+n
  ·subst h1;rw[dA (by omega),dw rfl,dw (by omega),dw (by omega)];simp
  by_cases h2:off+(n+1)<=j/\j<off+(n+1)+vs.length
  ·rw[dw h2,dw (by omega)];rw[show j-(off+n)=(j-(off+(n+1)))+1 by omega];rfl
  rw[dA h2,dA (fun e=>h1 e.symm),dA (by omega)]
theorem adp (off:Nat): ∀(vs:List (Value×Nat)) (cs:Array Value),(vs.foldl (fun cs (x:Value×Nat)=>cs.setIfInBounds (off+x.2) x.1) cs).size=cs.size:=by
 intro vs
 induction vs with
 | nil=>intro cs;rfl
 | cons v vs ih=>intro cs;simp only[List.foldl_cons];rw[ih];simp
def DS (w:World)(ok:Nat->Prop)(bd:kt)(bj:kn)(c:List aC)(cs:Array Value):Prop :=
 cs.size=c.length/\(∀(j:Nat) u,cs[j]? = some u->lH u=true)/\ ∀(j:Nat) x u,c[j]? = some x->cs[j]? = some u->Rel w ok bd bj x u
theorem agE {ok:Nat->Prop}{bd:kt}{bj:kn}{c:List aC}{cs:Array Value}(h:DS w ok bd bj c cs){x:aC}{v:Value}{off:Nat}(U:Rel w ok bd bj x v)(aZ:x.CC=true)
 (iE:off+x.cells.length<=c.length):v.cells.size=x.cells.length /\
   DS w ok bd bj (setCells c off x.cells) (v.cells.zipIdx.foldl (fun cs (y:Value×Nat)=>cs.setIfInBounds (off+y.2) y.1) cs):=by
 obtain⟨vs,bf,aT,lu,ai⟩:=U.cellsOf (aC.TQ aZ);have nI : ∀j,(v.cells.zipIdx.foldl (fun cs (y:Value×Nat)=>cs.setIfInBounds (off+y.2) y.1) cs)[j]? = if off<=j/\j<off+vs.length then vs[j-off]? else cs[j]? := by intro j;rw[bf];have:=afE off vs 0 cs j (by rw[h.1];omega);simp only[Nat.add_zero] at this;rw[<- this,<- Array.foldl_toList,Array.toList_zipIdx]
 refine⟨by rw[bf];simpa using aT,?_,?_,?_⟩
 ·rw[SJ iE,<- h.1,<- Array.foldl_toList,adp]
 ·intro j u hu
  rw[nI] at hu;split at hu
  ·exact lu _ _ hu
  exact h.2.1 _ _ hu
 intro j y u aV hu;rw[nI] at hu;rw[Mj iE] at aV;by_cases lA:off<=j/\j<off+x.cells.length
 ·rw[dw lA] at aV;rw[dw (by rw[aT];exact lA)] at hu;exact ai _ _ _ aV hu
 rw[dA lA] at aV;rw[dA (by rw[aT];exact lA)] at hu;exact h.2.2 _ _ _ aV hu
theorem Mt {ok:Nat->Prop}{bd:kt}{bj:kn}(place:Nat->Option (Nat×Nat)): ∀(l:List (Nat×Nat×aC)) (kJ:List (Nat×Value)) (c:List aC) (cs:Array Value) (eQ:List aC),
 DS w ok bd bj c cs->l.length=kJ.length ->
 (∀(j:Nat) off size x i v,l[j]? = some (off,size,x)->kJ[j]? = some (i,v)->place i=some (off,size)/\Rel w ok bd bj x v) ->
 uT c l=some eQ-> ∃m5,Instr.fill place cs kJ=some m5/\DS w ok bd bj eQ m5:=by
 intro l
 induction l with
 | nil =>
  intro kJ c cs eQ h aT _ cq;have:kJ=[]:=dM.1 (by simpa using aT.symm);subst this;simp[uT] at cq;subst cq;exact⟨cs,rfl,h⟩
 | cons q l ih =>
  intro kJ c cs eQ h aT af cq;obtain⟨off,size,x⟩:=q
  match kJ,aT with
  | (i,v)::kJ,aT =>
   obtain⟨OC,U⟩:=af 0 off size x i v rfl rfl;simp only[uT] at cq;split at cq
   ·rename_i aZ;simp only[dQ,decide_eq_true_eq] at aZ;obtain⟨⟨h1,h2⟩,J⟩:=aZ;obtain⟨e1,e2⟩:=agE h U h1 (off:=off) (by omega);obtain⟨m5,f1,f2⟩:=ih kJ _ _ eQ e2 (by simpa using aT) (fun j off size x i v a b=>af (j+1) off size x i v a b) cq;refine⟨m5,?_,f2⟩;rw[Instr.fill];simp only[OC];have hx : ¬(decide (v.cells.size≠size) || decide (off+v.cells.size>cs.size))=true:=(by simp;rw[e1,h.1];omega);rw[dA hx];exact f1
   simp at cq
theorem mapM_some {α β:Type}(f:α->β)(p:α->Option β): ∀(l:List α),(∀x∈l,p x=some (f x))->l.mapM p=some (l.map f)
 | [],_=>rfl
 | x::l,h=>by rw[List.mapM_cons,h x (by simp),mapM_some f p l fun y aV=>h y (by simp[aV])];rfl
theorem VU {α β:Type}(p:α->Option β): ∀(l:List α) (hI:List β),l.mapM p=some hI->hI.length=l.length/\ ∀(j:Nat) x y,l[j]? = some x->hI[j]? = some y->p x=some y
 | [],hI,h=>by simp at h;subst h;exact⟨rfl,fun j x y U=>by simp at U⟩
 | a::l,hI,h=>by
  rw[List.mapM_cons] at h
  cases bF:p a with
  | none=>simp[bF] at h
  | some b =>
   cases aT:l.mapM p with
   | none=>simp[bF,aT] at h
   | some r =>
    simp[bF,aT] at h;subst h;obtain⟨h1,h2⟩:=VU p l r aT;refine⟨by simp[h1],fun j x y U aV=> ?_⟩
    cases j with
    | zero=>simp at U aV;subst U;subst aV;exact bF
    | succ j=>simp at U aV;exact h2 j x y U aV
theorem Nj {t:TypeId}{z:List aC}(cA:rS P t=some z): ∃i ff,P.info? t=some i/\i.zero=some ff/\ff.cells.size=z.length/\DS w (s.ok g aE w) s.bd (s.bj aE) z ff.cells:=by
 obtain⟨i,ff,aa,lL,q3,lu⟩:=Cv cA;have bG:ff.cells.size=z.length:=by rw[q3];simp
 refine⟨i,ff,aa,lL,bG,bG,fun j u hu=> ?_,fun j x u U hu=> ?_⟩
 ·have aq:j<z.length:=by
   have:=(aom.1 hu).1;omega
  obtain⟨v,e1,e2,-⟩:=lu j z[j] (dz aq);rw[hu] at e1;simp at e1;subst e1;exact e2
 obtain⟨v,e1,-,bJ⟩:=lu j x U;rw[hu] at e1;simp at e1;subst e1;exact bJ _ _ _ _
theorem aes {t:TypeId}{parts:Array (Nat×Operand)}(h:c7 g s aE a w)(an:o.op = .build t parts)(ay:MT P t (parts.toList.map fun p=>(p.1,fq s.E p.2))=some bA):Fin P g s a w o bA:=by
 unfold MT at ay;split at ay;rotate_left
 ·simp at ay
 rename_i n e z iq cA;obtain⟨hu,aa,-,-⟩:=Ni iq;rw[List.map_map] at ay
 cases cq:uT z (parts.toList.map ((fun p:Nat×aC=>(p.1*P.cellsOf e,P.cellsOf e,p.2))∘fun p=>(p.1,fq s.E p.2))) with
 | none=>rw[cq] at ay;simp at ay
 | some c =>
  rw[cq] at ay;simp only[dR,dB] at ay;subst ay;obtain⟨it,ff,zO,lL,fF,hcs⟩:=Nj (w:=w) (s:=s) (g:=g) (aE:=aE) cA;obtain⟨Pz,Dr⟩:=Option.isSome_iff_exists.1 aa;have aiX:P.cellsOf e=Pz.size:=(by simp[Program.cellsOf,Dr]);obtain⟨m5,f1,f2⟩:=Mt (w:=w) (ok:=s.ok g aE w) (bd:=s.bd) (bj:=s.bj aE) (fun i=>some (i*Pz.size,Pz.size)) _ (parts.map fun (i,x)=>(i,a.eval x)).toList z ff.cells c hcs (by simp) (by intro j off size x i v aq bf;simp only[dK,dO,Function.comp,dF] at aq;simp only[Array.toList_map,dK,dO] at bf;obtain⟨p,af,e1,e2,bJ⟩:=aq;obtain⟨⟨fs,dc⟩,mK,bf⟩:=bf;simp only[dF] at bf;obtain⟨rfl,rfl⟩:=bf;rw[af] at mK;have:=dJ mK;subst this;refine⟨by rw[<- e1,<- e2,aiX],?_⟩;rw[<- bJ];exact h.eval _) cq;have aW:P.built t (parts.map fun (i,x)=>(i,a.eval x)).toList=some m5:=(by unfold Program.built;simp only[zO,hu,lL,Dr];exact f1);refine jm (v:= .agg m5) h ?_ rfl ?_
  ·have:=run_build w t _ m5 aW;simp[execOp,an,this]
  have:=Rel.agg (w:=w) (ok:=s.ok g aE w) (bd:=s.bd) (bj:=s.bj aE) (c:=c) m5.toList (by simpa using f2.1) (fun j u hu=>f2.2.1 j u (by simpa using hu)) (fun j x u U hu=>f2.2.2 j x u U (by simpa using hu));simpa using this
theorem agF {t:TypeId}{parts:Array (Nat×Operand)}(h:c7 g s aE a w)(an:o.op = .build t parts)(ay:fE P s.E s.aY a5 o c9=some bA):Fin P g s a w o bA:=by
 simp only[fE,an] at ay;split at ay;rotate_left
 ·exact aes h an ay
 rename_i mm z GS cA;split at ay
 ·simp at ay
 rename_i kj;have kj : ∀f∈mm.toList,(P.info? f.type).isSome=true:=by rw[Bool.not_eq_false] at kj;exact List.all_eq_true.1 kj
 split at ay;rotate_left
 ·simp at ay
 rename_i l aT
 cases cq:uT z l with
 | none=>simp[cq] at ay
 | some c =>
  simp[cq] at ay;subst ay;obtain⟨it,ff,zO,lL,fF,hcs⟩:=Nj (w:=w) (s:=s) (g:=g) (aE:=aE) cA;obtain⟨k4,ln⟩:=VU _ _ _ aT
  have ajt:mm.toList.mapM (fun f=>(P.info? f.type).map fun i=>(f.offset,i.size))=some (mm.toList.map fun f=>(f.offset,P.cellsOf f.type)):=by
   refine mapM_some (fun f:Field=>(f.offset,P.cellsOf f.type)) _ _ fun f cq=> ?_;have:=kj f cq
   cases aa:P.info? f.type with
   | none=>simp[aa] at this
   | some i=>simp[Program.cellsOf,aa]
  obtain⟨m5,f1,f2⟩:=Mt (w:=w) (ok:=s.ok g aE w) (bd:=s.bd) (bj:=s.bj aE) ((mm.toList.map fun f=>(f.offset,P.cellsOf f.type)).toArray[·]?) l (parts.map fun (i,x)=>(i,a.eval x)).toList z ff.cells c hcs (by simpa using k4) (by intro j off size x i v aq bf;simp only[Array.toList_map,dK,dO] at bf;obtain⟨⟨fs,dc⟩,af,bf⟩:=bf;simp only[dF] at bf;obtain⟨rfl,rfl⟩:=bf;have:=ln j _ _ af aq;simp only[dO,dF] at this;obtain⟨fd,h1,h2,J,ak⟩:=this;subst h2;subst J;subst ak;refine⟨?_,h.eval dc⟩;rw[List.getElem?_toArray,dK,Array.getElem?_toList,h1];rfl) cq;have aW:P.built t (parts.map fun (i,x)=>(i,a.eval x)).toList=some m5:=(by unfold Program.built;simp only[zO,Mk GS,lL,ajt];exact f1);refine jm (v:= .agg m5) h ?_ rfl ?_
  ·have:=run_build w t _ m5 aW;simp[execOp,an,this]
  have:=Rel.agg (w:=w) (ok:=s.ok g aE w) (bd:=s.bd) (bj:=s.bj aE) (c:=c) m5.toList (by simpa using f2.1) (fun j u hu=>f2.2.1 j u (by simpa using hu)) (fun j x u U hu=>f2.2.2 j x u U (by simpa using hu));simpa using this
theorem acp {sz:Nat}{es:List (List aC)}(aT:∀e∈es,e.length=sz){i:Nat}(aa:i<es.length){c:List aC}(aZ:c.length=sz):
 setCells es.flatten (i*sz) c=(es.set i c).flatten:=by
 have hlen : ∀(es:List (List aC)),(∀e∈es,e.length=sz)->es.flatten.length=es.length*sz:=by
  intro es
  induction es with
  | nil=>simp
  | cons e es ih =>
   intro h;rw[aof,dD,ih fun x U=>h x (by simp[U]),h e (by simp),dI,Nat.add_mul];omega
 have iE:i*sz+c.length<=es.flatten.length:=by rw[hlen es aT,aZ];have:=aob sz (show i+1<=es.length by omega);rw[Nat.add_mul] at this;omega
 apply aol;intro j;rw[Mj iE,TR aT (dz aa) aZ,aZ]
theorem Ue {sz:Nat}: ∀(l:List (Nat×aC)) (es hD:List (List aC)),(∀e∈es,e.length=sz)->C7 sz es l=some hD ->
 uT es.flatten (l.map fun p=>(p.1*sz,sz,p.2))=some hD.flatten/\(∀e∈hD,e.length=sz)/\hD.length=es.length
 | [],es,hD,aT,h=>by simp[C7] at h;subst h;exact⟨rfl,aT,rfl⟩
 | (i,x)::l,es,hD,aT,h=>by
  simp only[C7] at h;split at h;rotate_left
  ·simp at h
  rename_i aZ;simp only[dQ,decide_eq_true_eq] at aZ;obtain⟨⟨h1,h2⟩,J⟩:=aZ
  have Oz : ∀e∈es.set i x.cells,e.length=sz:=by
   intro e hm;rcases List.mem_or_eq_of_mem_set hm with c5|c5
   ·exact aT e c5
   exact c5▸h2
  obtain⟨hk,hq,bx⟩:=Ue l (es.set i x.cells) hD Oz h;have e:=acp aT J h2
  have iE:i*sz+sz<=es.flatten.length:=by
   have:(setCells es.flatten (i*sz) x.cells).length=(es.set i x.cells).flatten.length:=by rw[e]
   have a0 : ∀(es:List (List aC)),(∀e∈es,e.length=sz)->es.flatten.length=es.length*sz:=by
    intro es
    induction es with
    | nil=>simp
    | cons e es ih =>
     intro h;rw[aof,dD,ih fun x U=>h x (by simp[U]),h e (by simp),dI,Nat.add_mul];omega
   rw[a0 es aT];have:=aob sz (show i+1<=es.length by omega);rw[Nat.add_mul] at this;omega
  refine⟨?_,hq,by simpa using bx⟩;simp only[List.map_cons,uT,h1,h2,iE,decide_true,Bool.and_self,if_true];rw[e];exact hk
theorem adM {t:TypeId}{len:Nat}{parts:Array (Nat×Operand)}(h:c7 g s aE a w)(fI:s.aY a5=none)(an:o.op = .buildSlice t len parts)(ay:fE P s.E s.aY a5 o c9=some bA):Fin P g s a w o bA:=by
 simp only[fE,an] at ay;split at ay;rotate_left
 ·simp at ay
 rename_i e he;split at ay;rotate_left
 ·simp at ay
 rename_i z cA;split at ay
 ·simp at ay
 rename_i aZ;simp only[not_or,Nat.not_lt,Decidable.not_not] at aZ;obtain⟨oB,Ds,Dt⟩:=aZ;split at ay;rotate_left
 ·simp at ay
 rename_i es i5;simp only[dB] at ay;subst ay;obtain⟨it,ff,zO,lL,fF,hcs⟩:=Nj (w:=w) (s:=s) (g:=g) (aE:=aE) cA;have lu:P.cellsOf e=it.size:=by simp[Program.cellsOf,zO]
 have Xu : ∀x∈List.replicate len z,x.length=z.length:=fun x U=>by rw[List.eq_of_mem_replicate U]
 obtain⟨f1,f2,f3⟩:=Ue _ _ _ Xu i5
 have ua:DS w (s.ok g aE w) s.bd (s.bj aE) (List.replicate len z).flatten ((Array.range (len*it.size)).map (ff.cells[· % ff.cells.size]!)):=by
  have J9:0<z.length:=(by omega);have nI : ∀j,j<len*it.size->((Array.range (len*it.size)).map (ff.cells[· % ff.cells.size]!))[j]? = ff.cells[j % z.length]? := (by intro j aq;rw[Array.getElem?_map,Array.getElem?_range];simp only[aq,if_true,dR];have hm:j % ff.cells.size<ff.cells.size:=Nat.mod_lt _ (by omega);rw[getElem!_pos ff.cells _ hm,<- fF,aoa hm]);have ez : ∀(j:Nat) u,((Array.range (len*it.size)).map (ff.cells[· % ff.cells.size]!))[j]? = some u->j<len*it.size:=(by intro j u hu;have:=(aom.1 hu).1;simpa using this);refine⟨by simp[<- lu,<- Ds],fun j u hu=> ?_,fun j x u U hu=> ?_⟩
  ·have aq:=ez j u hu;rw[nI j aq] at hu;exact hcs.2.1 _ _ hu
  have aq:=ez j u hu;rw[nI j aq] at hu;rw[q8 J9 _ Xu,List.getElem?_replicate] at U;split at U
  ·exact hcs.2.2 _ _ _ U hu
  simp at U
 obtain⟨m5,g1,g2⟩:=Mt (w:=w) (ok:=s.ok g aE w) (bd:=s.bd) (bj:=s.bj aE) (fun i=>some (i*it.size,it.size)) ((parts.toList.map fun p=>(p.1,fq s.E p.2)).map fun p=>(p.1*z.length,z.length,p.2)) (parts.map fun (i,x)=>(i,a.eval x)).toList _ _ es.flatten ua (by simp) (by intro j off size x i v aq bf;simp only[Array.toList_map,dK,dO,List.map_map] at bf aq;obtain⟨⟨fs,dc⟩,af,bf⟩:=bf;obtain⟨⟨i2,x2⟩,GP,aq⟩:=aq;rw[af] at GP;simp only[dB,dF] at GP bf;obtain⟨rfl,rfl⟩:=GP;obtain⟨rfl,rfl⟩:=bf;simp only[Function.comp,dF] at aq;obtain⟨rfl,rfl,rfl⟩:=aq;exact⟨by rw[<- lu,<- Ds],h.eval dc⟩) f1
 have ki:(Instr.buildSlice t len (parts.map fun (i,x)=>(i,a.eval x))).run P w = .ok (.slice (some ⟨w.heap.size,0,none⟩) len len) (w.alloc (.cells m5 e)):=by
  have h1 : ¬len*it.size>2 ^ 24:=(by rw[<- lu,<- Ds];omega);by_cases h0:len*it.size=0;rotate_left
  ·simp only[Instr.buildSlice,run_underlying (tG he),sizeOf,typeInfo,zO,newRow,zeroValue,lL,Sem.run_bind,Result.andThen_ok,run_program,Sem.run_pure,Sem.run_ite,h1,h0,if_false];rw[g1];rfl
  have o8:len=0:=by
   rcases Nat.eq_zero_or_pos len with c5|c5
   ·exact c5
   have:0<len*it.size:=Nat.mul_pos c5 (by omega);omega
  subst o8;have e0:((Array.range (0*it.size)).map (ff.cells[· % ff.cells.size]!)) = #[]:=(by simp);rw[e0] at g1
  have af:parts = #[]:=by
   obtain⟨l⟩:=parts
   match l,i5 with
   | [],_=>rfl
   | p::l,i5=>simp[C7] at i5
  subst af;have aju:m5 = #[]:=(by simpa [Instr.fill] using g1.symm);subst aju;simp[Instr.buildSlice,run_underlying (tG he),sizeOf,typeInfo,zO,newRow,Instr.fill];rw[Array.range_zero',Array.map_empty]
 refine Jd (v:= .slice (some ⟨w.heap.size,0,none⟩) len len) (aj:=⟨z.length,es,.live⟩) (c:=m5) (fl:=e) h fI rfl ?_ rfl f2 ?_ ?_
 ·simp[execOp,an,ki]
 ·intro j x U
  have aq:j<m5.size:=by
   rw[g2.1];rcases Nat.lt_or_ge j es.flatten.length with c5|c5
   ·exact c5
   rw[aoe c5] at U;simp at U
  have hu:m5[j]? = some m5[j]:=aoa aq;exact⟨_,hu,g2.2.1 _ _ hu,g2.2.2 _ _ _ U hu⟩
 intro bQ mw oA nZ hu cj;refine Rel.bu hu cj (dE _) ?_ ⟨?_,.inr (by simp)⟩
 ·have:len<=len*z.length:=Nat.le_mul_of_pos_right _ (by omega);omega
 rw[g2.1]
 have a0 : ∀(es:List (List aC)),(∀e∈es,e.length=z.length)->es.flatten.length=es.length*z.length:=by
  intro es
  induction es with
  | nil=>simp
  | cons e es ih =>
   intro h;rw[aof,dD,ih fun x U=>h x (by simp[U]),h e (by simp),dI,Nat.add_mul];omega
 rw[a0 es f2,f3];simp
theorem IJ (h:c7 g s aE a w)(fI:s.aY a5=none)(ay:fE P s.E s.aY a5 o c9=some bA)(cE:∀p∈bA.f9,p):Fin P g s a w o bA:=by
 cases an:o.op with
 | move x=>exact VT h (.inl an) ay
 | assign x=>exact VT h (.inr an) ay
 | pick c x y=>exact ahz h an ay cE
 | alloc t=>exact agw h fI an ay
 | box t x=>exact aib h fI an ay
 | load t x=>exact ahA h an ay cE
 | store t x y=>exact agx h an ay cE
 | nilCheck x=>exact aeq h an ay cE
 | binOp op t x y cw=>exact agy h an ay cE
 | unOp op t x=>exact ahB h an ay
 | convert t cw x=>exact aeT h an ay
 | makeFunc f HC cH=>exact aer h an ay
 | makeSlice t x y=>exact ad6 h fI an ay cE
 | fieldAddr t x f=>exact ad7 h an ay cE
 | field t x f=>exact agC h an ay
 | indexAddr t x y=>exact ad8 h an ay cE
 | index t x y=>exact agD h an ay cE
 | extract x i=>exact aeU h an ay
 | slice t x bL aa wM =>
  cases wM with
  | none=>exact agB h an ay cE
  | some m =>
   cases aa with
   | none=>simp[fE,an] at ay
   | some aa=>exact afC h an ay cE
 | build t kJ=>exact agF h an ay
 | buildSlice t n kJ=>exact adM h fI an ay
 | call c =>
  obtain⟨Ka,args,n3⟩:=c
  cases Ka with
  | builtin b=>cases b<;>first|exact aic h an rfl ay cE|simp[fE,an] at ay
  | value f=>simp[fE,an] at ay
  | invoke r m=>simp[fE,an] at ay
 | _=>simp[fE,an] at ay
end
def aid:Option a1->fP
 | some o=> .gG o []
 | none=> .none
def tS (sz:Nat)(aY:Nat->Option (List a1))(a:fP):aC->Option (List (List aC)×List Prop)
 | .isl Kc es=>if Kc=sz then some (es,[]) else none
 | .bu r k bL len=>match pz (aY r) k a with
  | some (aj,bR)=>if aj.sz=sz then some ((aj.es.drop bL).take len,bR++[bL+len<=aj.es.length]) else none
  | none=>none
 | .e8=>some ([],[])
 | .jR=>some ([],[])
 | _=>none
def zb (P:Program)(sz:Nat)(z:List aC)(aY:Nat->Option (List a1))(a:fP)(t cw:TypeId)(y:aC):Option (List (List aC)×List Prop) :=
 if t=cw then tS sz aY a y else
 match P.underlying cw,y with
 | some (.int _),.n .i64 n=>some (List.replicate n.toNat z,[0<=n,n<9223372036854775808])
 | _,_=>none
def wh (wN:Bool)(P:Program)(aY:Nat->Option (List a1))(x y:aC)(t cw:TypeId):Option iy :=
 match ri P t with
 | none=>none
 | some e=>match P.info? e,rS P e with
  | some i,some z =>
   if z.length≠i.size\/i.size=0\/i.bytes=0 then none else
   match zb P i.size z aY .none t cw y with
   | none=>none
   | some (br,bR)=>match x with
    | .bu r k 0 len=>match aY r with
     | none=>none
     | some row=>match d6 (some row) k with
      | none=>none
      | some aj=>if aj.cS = .live/\aj.sz=i.size then
       some {val:= .bu r k 0 (len+br.length),gM:=[(r,row.set k {aj with es:=bif wN then aj.es.take len++br++aj.es.drop (len+br.length) else aj.es.take len++br})],f9:=bR++[len+br.length<=aj.es.length,br.length*i.bytes<=140737488355328]} else none
    | _=>none
  | _,_=>none
def zp (P:Program)(aY:Nat->Option (List a1))(r k bL len:Nat)(t:TypeId):Option iy :=
 match ri P t with
 | none=>none
 | some e=>match P.info? e,rS P e with
  | some i,some z=>match aY r with
   | none=>none
   | some row=>match d6 (some row) k with
    | none=>none
    | some aj=>if aj.cS = .live/\aj.sz=i.size/\z.length=i.size/\i.size≠0 then
     some {val:= .dg [],gM:=[(r,row.set k {aj with es:=aj.es.take bL++List.replicate len z++aj.es.drop (bL+len)})],f9:=[bL+len<=aj.es.length]} else none
  | _,_=>none
def zF (P:Program)(aY:Nat->Option (List a1))(r k len:Nat)(t:TypeId):Option iy :=
 match ri P t with
 | none=>none
 | some e=>match P.info? e,rS P e with
  | some i,some z=>match aY r with
   | none=>none
   | some row=>match d6 (some row) k with
    | none=>none
    | some aj=>if aj.cS = .live/\aj.sz=i.size/\z.length=i.size/\i.size≠0 then
     some {val:= .dg [],gM:=[(r,row.set k {aj with es:=List.replicate len z})],f9:=[aj.es.length=len]} else none
  | _,_=>none
def ub (P:Program)(E:Nat->aC)(aY:Nat->Option (List a1))(a5:Nat)(b:Builtin)(args:List aC)(n3:List TypeId)(c9:fP):Option iy :=
 match b,args,n3,c9 with
 | .append,[x,y],[t,cw],.aD m o =>
  match ri P t with
  | none=>none
  | some e=>match P.info? e,rS P e with
   | some i,some z =>
    if z.length≠i.size\/i.size=0\/i.bytes=0 then none else
    match zb P i.size z aY (aid o) t cw y with
    | none=>none
    | some (br,bR)=>match x with
     | .e8=>some {val:= .bu a5 0 0 m,gM:=[(a5,[⟨i.size,br,.live⟩])],f9:=bR++[m=br.length,m*i.bytes<=140737488355328]}
     | .bu r k 0 len=>match aY r with
      | none=>none
      | some row=>match d6 (some row) k with
       | none=>none
       | some aj=>if aj.cS = .live/\aj.sz=i.size/\a5≠r then
        some {val:= .bu a5 0 0 m,gM:=[(a5,[⟨i.size,aj.es.take len++br,.live⟩]),(r,row.set k {aj with cS:= .gone})],f9:=bR++[len<=aj.es.length,m=len+br.length,m*i.bytes<=140737488355328]} else none
     | _=>none
   | _,_=>none
 | .append,[x,y],[t,cw],.ea=>wh false P aY x y t cw
 | .append,[x,y],[t,cw],.xO=>wh true P aY x y t cw
 | .copy,[.bu r k 0 len,y],[t,_],_ =>
  match ri P t with
  | none=>none
  | some e=>match P.info? e with
   | none=>none
   | some i=>match tS i.size aY .none y with
    | none=>none
    | some (br,bR)=>match aY r with
     | none=>none
     | some row=>match d6 (some row) k with
      | none=>none
      | some aj=>if aj.cS = .live/\aj.sz=i.size/\i.size≠0 then
       some {val:= .n .i64 br.length,gM:=[(r,row.set k {aj with es:=br++aj.es.drop br.length})],f9:=bR++[br.length<=len,len<=aj.es.length]} else none
 | .clear,[.bu r k bL len],[t],.xO=>zp P aY r k bL len t
 | .clear,[.bu r k 0 len],[t],_=>zF P aY r k len t
 | .min,[.n k x,.n eD y],_,_=>if k=eD then some {val:= .n k (if y<x then y else x)} else none
 | _,_,_,_=>none
section
variable {g:G} {s:S} {aE:gw} {a:Act} {w bQ:World}
theorem c7.gone (h:c7 g s aE a w){r k:Nat}{l:List a1}{o:a1}(ai:s.aY r=some l)(an:s.aj r k=some o):
 c7 g (s.setRow r (l.set k {o with cS:= .gone})) aE a w /\
  ∀x v,Rel w (s.ok g aE w) s.bd (s.bj aE) x v->Rel w ((s.setRow r (l.set k {o with cS:= .gone})).ok g aE w) (s.setRow r (l.set k {o with cS:= .gone})).bd ((s.setRow r (l.set k {o with cS:= .gone})).bj aE) x v:=by
 have bo : ∀q j p,(s.setRow r (l.set k {o with cS:= .gone})).aj q j=some p->s.aj q j=some p/\ ¬(q=r/\j=k):=by
  intro q j p af;rw[nj] at af;by_cases e:q=r
  ·subst e
   rw[dw rfl] at af;unfold d6 at af;simp only[aog] at af;by_cases e2:k=j
   ·subst e2
    by_cases aX:k<l.length
    ·simp[aX] at af
    simp[aX] at af
   rw[dA e2] at af;refine⟨?_,fun gX=>e2 gX.2.symm⟩;unfold S.aj;rw[ai];exact af
  rw[dA e] at af;exact⟨af,fun gX=>e gX.1⟩
 have c8:Step g s aE w (s.setRow r (l.set k {o with cS:= .gone})) aE w:=by
  refine⟨Im s ai (by simp),fun q j a0=> ?_,fun b aT=> ?_,fun _ _ _=>rfl,dE _⟩
  ·cases af:(s.setRow r (l.set k {o with cS:= .gone})).aj q j with
   | none=>right;simp[S.bj,af]
   | some p=>left;simp[S.bj,af,(bo q j p af).1]
  obtain⟨q,j,p,m,h1,h2,J⟩:=aT;exact .inl ⟨q,j,p,m,(bo q j p h1).1,h2,J⟩
 refine⟨{tojE:=⟨?_,?_,?_,h.ik,h.mlt,h.o5,c8.stay h.stay,h.low⟩,env:=fun t=>c8.rel (h.env t),defers:=h.defers,k1:=h.k1},fun x v=>c8.rel⟩
 ·intro q j p af;exact c8.obj (fun b m _=>rfl) (h.obj q j p (bo q j p af).1)
 ·intro q j p jd js lR b m aI h1 h2 J ak;exact h.inj q j p jd js lR b m aI (bo q j p h1).1 (bo jd js lR h2).1 J ak
 intro q j p b m h1 h2;exact h.own q j p b m (bo q j p h1).1 h2
theorem c7.VV (h:c7 g s aE a w){a5 sz:Nat}(fI:s.aY a5=none):
 ∃bX,bX a5 0=none/\c7 g (s.setRow a5 [⟨sz,[],.live⟩]) bX a w:=by
 have bo : ∀q k,q≠a5->(s.setRow a5 [⟨sz,[],.live⟩]).aj q k=s.aj q k:=fun q k a0=>by rw[nj,dA a0]
 let bX:gw:=fun q k=>if q=a5 then none else aE q k
 have dd : ∀q k,s.bd q k->q≠a5:=by rintro q k a0 rfl;exact Ca fI k a0
 have N8 : ∀k o,(s.setRow a5 [⟨sz,[],.live⟩]).aj a5 k=some o->o=⟨sz,[],.live⟩:=by
  intro k o an;rw[nj,dw rfl,nR] at an;split at an
  ·simp at an;exact an.symm
  simp at an
 have c8:Step g s aE w (s.setRow a5 [⟨sz,[],.live⟩]) bX w:=by
  refine⟨fun q k a0=>(oR _ _ _ _ _).2 (by rw[dA (dd q k a0)];exact a0),fun q k a0=> .inl ?_,fun b aT=> ?_,fun _ _ _=>rfl,dE _⟩
  ·simp[S.bj,bo q k (dd q k a0),bX,dd q k a0]
  obtain⟨q,k,o,m,h1,h2,J⟩:=aT;by_cases e:q=a5
  ·subst e;simp[bX] at J
  rw[bo q k e] at h1;simp only[bX,dA e] at J;exact .inl ⟨q,k,o,m,h1,h2,J⟩
 refine⟨bX,by simp[bX],{tojE:=⟨?_,?_,?_,h.ik,h.mlt,h.o5,c8.stay h.stay,h.low⟩,env:=fun t=>c8.rel (h.env t),defers:=h.defers,k1:=h.k1}⟩
 ·intro q k o an
  by_cases e:q=a5
  ·subst e;rw[N8 k o an];simp[bX,ke]
  rw[bo q k e] at an;have:=c8.obj (fun b m _=>rfl) (h.obj q k o an);simpa [bX,e] using this
 ·intro q k o jd eD cl b m aI h1 h2 J ak;have e:q≠a5:=(by rintro rfl;simp[bX] at J);have fb:jd≠a5:=(by rintro rfl;simp[bX] at ak);rw[bo q k e] at h1;rw[bo jd eD fb] at h2;simp only[bX,dA e] at J;simp only[bX,dA fb] at ak;exact h.inj q k o jd eD cl b m aI h1 h2 J ak
 intro q k o b m h1 h2;have e:q≠a5:=by rintro rfl;simp[bX] at h2
 rw[bo q k e] at h1;simp only[bX,dA e] at h2;exact h.own q k o b m h1 h2
theorem c7.turn (h:c7 g s aE a w){r k b m a5:Nat}{l:List a1}{o:a1}(ai:s.aY r=some l)(an:s.aj r k=some o)(aX:o.cS = .live)(af:aE r k=some (b,m))
 (fI:s.aY a5=none) (cl:a1) (oC:cl.cS = .live) (c:Array Value) (fl:TypeId)
 (hw:bQ.heap[b]? = some (.cells c fl (0,0))) (fF:bQ.heap.size=w.heap.size) (za : ∀q,q≠b->bQ.heap[q]? = w.heap[q]?)
 (qa:bQ.os=w.os) (Ow:bQ.tape=w.tape) (N6:bQ.output=w.output) (hm:c.size=m) (hlen : ∀e∈cl.es,e.length=cl.sz)
 (aZ : ∀(j:Nat) x,cl.es.flatten[j]? = some x-> ∃v,c[j]? = some v/\lH v=true/\Rel w (s.ok g aE w) s.bd (s.bj aE) x v) :
 ∃bX,bX a5 0=some (b,m)/\c7 g ((s.setRow a5 [cl]).setRow r (l.set k {o with cS:= .gone})) bX a bQ:=by
 have dd:r≠a5:=by rintro rfl;rw[fI] at ai;simp at ai
 have Xv : ∀k,¬s.bd a5 k:=Ca fI
 let b2:=(s.setRow a5 [cl]).setRow r (l.set k {o with cS:= .gone})
 let bX:gw:=aE.set a5 0 (some (b,m))
 have bo : ∀q j p,b2.aj q j=some p->(q=a5/\j=0/\p=cl)\/(q≠a5/\s.aj q j=some p/\ ¬(q=r/\j=k)):=by
  intro q j p a0;rw[nj] at a0;by_cases e:q=r
  ·subst e
   rw[dw rfl] at a0;unfold d6 at a0;simp only[aog] at a0;by_cases e2:k=j
   ·subst e2;by_cases aX:k<l.length<;>simp[aX] at a0
   rw[dA e2] at a0;refine .inr ⟨dd,?_,fun gX=>e2 gX.2.symm⟩;unfold S.aj;rw[ai];exact a0
  rw[dA e,nj] at a0;by_cases e2:q=a5
  ·subst e2
   rw[dw rfl,nR] at a0;split at a0
   ·rename_i h0;simp at a0;exact .inl ⟨rfl,h0.1,a0.symm⟩
   simp at a0
  rw[dA e2] at a0;exact .inr ⟨e2,a0,fun gX=>e gX.1⟩
 have mP : ∀q j,q≠a5->bX q j=aE q j:=fun q j a0=>by simp[bX,gw.set,a0]
 have Du:bX a5 0=some (b,m):=by simp[bX,gw.set]
 have r5:s.nz aE b:=⟨r,k,o,m,an,aX,af⟩
 have kD : ∀q j,s.bd q j->b2.bd q j:=fun q j a0=>by
  have e:q≠a5:=fun e=>Xv j (e▸a0);rw[oR,oR,dA e];by_cases e2:q=r
  ·subst e2;rw[dw rfl];simpa [S.bd,ai] using a0
  rw[dA e2];exact a0
 have c8:Step g s aE w b2 bX bQ:=by
  refine⟨kD,fun q j a0=> ?_,fun q aT=> ?_,fun q a0 aT=>za q fun e=>aT (e▸r5),Nat.le_of_eq fF.symm⟩
  ·have o7:q≠a5:=fun e=>Xv j (e▸a0)
   cases lZ:b2.aj q j with
   | none=>right;simp[S.bj,lZ]
   | some p =>
    left;rcases bo q j p lZ with ⟨e,-⟩|⟨-,e2,-⟩
    ·exact absurd e o7
    simp[S.bj,lZ,e2,mP q j o7]
  obtain⟨jd,j,p,aI,h1,h2,J⟩:=aT;rcases bo jd j p h1 with ⟨rfl,rfl,rfl⟩|⟨e1,e2,-⟩
  ·rw[Du] at J;simp at J;exact .inl (J.1▸r5)
  rw[mP jd j e1] at J;exact .inl ⟨jd,j,p,aI,e2,h2,J⟩
 refine⟨bX,Du,{tojE:=⟨?_,?_,?_,?_,h.mlt,h.o5,c8.stay h.stay,h.low⟩,env:=fun t=>c8.rel (h.env t),defers:=h.defers,k1:=h.k1}⟩
 ·intro q j p lZ
  rcases bo q j p lZ with ⟨rfl,rfl,rfl⟩|⟨e1,e2,bJ⟩
  ·rw[Du];exact⟨c,fl,hw,hm,hlen,fun i x U=>let ⟨v,f1,f2,f3⟩:=aZ i x U;⟨v,f1,f2,c8.rel f3⟩⟩
  rw[mP q j e1];refine c8.obj (fun ll aI lz=>za ll ?_) (h.obj q j p e2);rintro rfl;exact bJ (h.inj q j p r k o ll aI m e2 an lz af)
 ·intro q j p jd js lR ll jz iz h1 h2 J ak
  rcases bo q j p h1 with ⟨rfl,rfl,rfl⟩|⟨e1,e2,bJ⟩<;>rcases bo jd js lR h2 with ⟨rfl,rfl,rfl⟩|⟨oD,rA,xz⟩
  ·exact⟨rfl,rfl⟩
  ·rw[Du] at J;simp at J;rw[mP jd js oD] at ak;obtain⟨rfl,rfl⟩:=J;exact absurd (h.inj jd js lR r k o b iz m rA an ak af) xz
  ·rw[Du] at ak;simp at ak;rw[mP q j e1] at J;obtain⟨rfl,rfl⟩:=ak;exact absurd (h.inj q j p r k o b jz m e2 an J af) bJ
  rw[mP q j e1] at J;rw[mP jd js oD] at ak;exact h.inj q j p jd js lR ll jz iz e2 rA J ak
 ·intro q j p ll aI h1 h2
  rcases bo q j p h1 with ⟨rfl,rfl,rfl⟩|⟨e1,e2,-⟩
  ·rw[Du] at h2;simp at h2;rw[<- h2.1];exact h.own r k o b m an af
  rw[mP q j e1] at h2;exact h.own q j p ll aI e2 h2
 refine h.ik.step qa Ow N6 (Nat.le_of_eq fF.symm) fun ll o6 lz=>za ll ?_;rintro rfl;rcases h.own r k o ll m an af with h1|h1
 ·omega
 exact lz h1
theorem qm.pA {ok:Nat->Prop}{bd:kt}{bj:kn}{e7 o sz:Nat}{es:List (List aC)}(h:qm w ok bd bj e7 o sz es):
 ∃vs:List Value,vs.length=es.length*sz/\(∀(j:Nat) u,vs[j]? = some u->w.cell? ((⟨e7,o,none⟩:Addr).add j)=some u)/\(∀u∈vs,u.oneCell'=true) /\
  ∀(j:Nat) x u,es.flatten[j]? = some x->vs[j]? = some u->Rel w ok bd bj x u:=by
 have kR:es.flatten.length=es.length*sz:=by
  have : ∀(es:List (List aC)),(∀e∈es,e.length=sz)->es.flatten.length=es.length*sz:=by
   intro es
   induction es with
   | nil=>intro _;simp
   | cons e es ih =>
    intro gX;rw[aof,dD,ih fun x U=>gX x (by simp[U]),gX e (by simp),dI,Nat.add_mul];omega
  exact this es h.1
 have U : ∀i,i<es.length*sz-> ∃v,∀x,es.flatten[i]? = some x->w.cell? ⟨e7,o+i,none⟩=some v/\lH v=true/\Rel w ok bd bj x v:=by intro i aa;have aq:=dz (l:=es.flatten) (i:=i) (by omega);obtain⟨v,h1⟩:=h.2 i _ aq;exact⟨v,fun x U=>by rw[aq] at U;simp at U;subst U;exact h1⟩
 let vs:List Value:=(List.range (es.length*sz)).map fun i=>if aa:i<es.length*sz then (U i aa).choose else undef
 have sf:vs.length=es.length*sz:=by simp[vs]
 have nI : ∀(i:Nat) u x,vs[i]? = some u->es.flatten[i]? = some x->w.cell? ⟨e7,o+i,none⟩=some u/\lH u=true/\Rel w ok bd bj x u:=by
  intro i u x hu GV
  have aa:i<es.length*sz:=by
   rcases Nat.lt_or_ge i vs.length with c5|c5
   ·omega
   rw[aoe c5] at hu;simp at hu
  simp only[vs,dK,List.getElem?_range aa,dR,dif_pos aa,dB] at hu;subst hu;exact(U i aa).choose_spec x GV
 have hex : ∀(i:Nat) u,vs[i]? = some u-> ∃x,es.flatten[i]? = some x:=by
  intro i u hu
  have aa:i<es.flatten.length:=by
   rcases Nat.lt_or_ge i vs.length with c5|c5
   ·omega
   rw[aoe c5] at hu;simp at hu
  exact⟨_,dz aa⟩
 refine⟨vs,sf,fun j u hu=> ?_,fun u hu=> ?_,fun j x u eC hu=>(nI j u x hu eC).2.2⟩
 ·obtain⟨x,GV⟩:=hex j u hu;rw[tF];exact(nI j u x hu GV).1
 obtain⟨j,aq⟩:=aor hu;obtain⟨x,GV⟩:=hex j u aq;exact(nI j u x aq GV).2.1
theorem adq {es br:List (List aC)}{sz:Nat}{xs news:List Value}(U:xs.length=es.length*sz)(he:∀e∈es,e.length=sz){j:Nat}{x:aC}(h:(es++br).flatten[j]? = some x)
 {ok:Nat->Prop} {bd:kt} {bj:kn} (h1 : ∀(j:Nat) x u,es.flatten[j]? = some x->xs[j]? = some u->Rel w ok bd bj x u) (h2 : ∀(j:Nat) x u,br.flatten[j]? = some x->news[j]? = some u->Rel w ok bd bj x u)
 {u:Value} (hu:(xs++news)[j]? = some u):Rel w ok bd bj x u:=by
 have kR:es.flatten.length=es.length*sz:=by
  have : ∀(es:List (List aC)),(∀e∈es,e.length=sz)->es.flatten.length=es.length*sz:=by
   intro es
   induction es with
   | nil=>intro _;simp
   | cons e es ih =>
    intro gX;rw[aof,dD,ih fun x U=>gX x (by simp[U]),gX e (by simp),dI,Nat.add_mul];omega
  exact this es he
 rw[List.flatten_append,List.getElem?_append] at h;rw[List.getElem?_append] at hu;by_cases aq:j<es.flatten.length
 ·rw[dw aq] at h;rw[dw (by omega)] at hu;exact h1 j x u h hu
 rw[dA aq] at h;rw[dA (by omega)] at hu;rw[kR] at h;rw[U] at hu;exact h2 _ x u h hu
variable {P:Program}
theorem Vn (h:c7 g s aE a w){sz:Nat}{x:aC}{gz:fP}{br:List (List aC)}{aj:List Prop}(he:tS sz s.aY gz x=some (br,aj))(bo:∀p∈aj,p){v:Value}(bf:Rel w (s.ok g aE w) s.bd (s.bj aE) x v):
 ∃A c,v = .slice A br.length c/\(∀e∈br,e.length=sz)/\(br.length=0\/ ∃e7 off,A=some ⟨e7,off,none⟩/\qm w (s.ok g aE w) s.bd (s.bj aE) e7 off sz br):=by
 cases x with
 | isl Kc es =>
  simp only[tS] at he;split at he
  ·rename_i bG
   subst bG;simp only[dB,dF] at he;obtain⟨rfl,rfl⟩:=he;rcases bf.vO with ⟨rfl,A,c,rfl,-⟩|⟨e7,off,c,-,rfl,-,jS⟩
   ·exact⟨A,c,rfl,by simp,.inl rfl⟩
   exact⟨_,c,rfl,jS.1,.inr ⟨e7,off,rfl,jS⟩⟩
  simp at he
 | bu r k bL len =>
  simp only[tS] at he;split at he;rotate_left
  ·simp at he
  rename_i o9 bR j7;split at he;rotate_left
  ·simp at he
  rename_i bG;simp only[dB,dF] at he;obtain⟨rfl,rfl⟩:=he;have iE:bL+len<=o9.es.length:=bo _ (by simp);have an:s.aj r k=some o9:=uO j7 (fun p af=>bo p (by simp[af]));have fL:=h.obj r k o9 an;have aT:((o9.es.drop bL).take len).length=len:=(by simp;omega);rcases bf.FK (jh an) with ⟨-,rfl,rfl,rfl⟩|⟨b,m,A,c,af,rfl,sg,-,hm⟩
  ·exact⟨none,0,by simp,by simp,.inl (by simp)⟩
  rw[af] at fL;have jS:=fL.rd;subst bG;have zG:=Io jS bL len (by omega);refine⟨A,c,by rw[aT],zG.1,?_⟩;rcases hm with rfl|⟨rfl,-⟩
  ·left;rw[aT];omega
  right;rw[dG] at zG;exact⟨b,_,rfl,zG⟩
 | e8 =>
  simp only[tS,dB,dF] at he;obtain⟨rfl,rfl⟩:=he;rw[bf.rV];exact⟨none,0,rfl,by simp,.inl rfl⟩
 | jR =>
  simp only[tS,dB,dF] at he;obtain⟨rfl,rfl⟩:=he;obtain⟨A,c,rfl⟩:=bf.Jc;exact⟨some A,c,rfl,by simp,.inl rfl⟩
 | _=>simp[tS] at he
structure N9 (P:Program) (w:World) (t cw fl e:TypeId) (i:TypeInfo) (ff pe:Value) (n:Nat) (vs:List Value):Prop where
 zero:n=0-> ∀(B:Option Addr) (len cap:Nat),len<=cap->(Builtin.append_ #[t,cw] fl #[.slice B len cap,pe]).run P w = .ok (.slice B len cap) w
 nil:0<n->(n:Int)<=9223372036854775807->n*i.bytes<=140737488355328 ->
  (Builtin.append_ #[t,cw] fl #[.slice none 0 0,pe]).run P w = .ok (.slice (some ⟨w.heap.size,0,none⟩) n (grownCap w n 0 e)) (w.drew.alloc (.cells (vs.toArray++Builtin.zeroCells ff.cells (grownCap w n 0 e-n)) e))
 room:0<n-> ∀(g j8 nF:Nat) (nt:Array Value) (fb:TypeId),w.heap[g]? = some (.cells nt fb (0,0))->j8+n<=nF->j8*i.size+vs.length<=nt.size->n*i.bytes<=140737488355328 ->
  (Builtin.append_ #[t,cw] fl #[.slice (some ⟨g,0,none⟩) j8 nF,pe]).run P w = .ok (.slice (some ⟨g,0,none⟩) (j8+n) nF) (w.setRow g (nt.toList.take (j8*i.size)++vs++nt.toList.drop (j8*i.size+vs.length)).toArray)
 grow:0<n-> ∀(b:Addr) (j8 nF:Nat) (zH:List Value),zH.length=j8*i.size->(∀(j:Nat) v,zH[j]? = some v->w.cell? (b.add j)=some v)->nF<j8+n->((j8+n:Nat):Int)<=9223372036854775807->Builtin.nextslicecap (j8+n) nF*i.bytes<=281474976710656->n*i.bytes<=140737488355328 ->
  (Builtin.append_ #[t,cw] fl #[.slice (some b) j8 nF,pe]).run P w = .ok (.slice (some ⟨w.heap.size,0,none⟩) (j8+n) (grownCap w (j8+n) nF e))
    (w.drew.alloc (.cells (zH.toArray++vs.toArray++Builtin.zeroCells ff.cells (grownCap w (j8+n) nF e-(j8+n))) e))
theorem acq (t fl e:TypeId)(i:TypeInfo)(cj:P.underlying t=some (.slice e))(aa:P.info? e=some i)
 (g j8 nF:Nat) (nt:Array Value) (fb:TypeId) (dm:w.heap[g]? = some (.cells nt fb (0,0)))
 (a:Addr) (m c:Nat) (news:List Value) (aT:news.length=m*i.size) (aiY : ∀j u,news[j]? = some u->w.cell? (a.add j)=some u) (h1 : ∀u∈news,u.oneCell'=true)
 (vX:j8+m<=nF) (iE:j8*i.size+news.length<=nt.size) :
 (Builtin.append_ #[t,t] fl #[.slice (some ⟨g,0,none⟩) j8 nF,.slice (some a) m c]).run P w =
   .ok (.slice (some ⟨g,0,none⟩) (j8+m) nF) (w.setRow g (nt.toList.take (j8*i.size)++news++nt.toList.drop (j8*i.size+news.length)).toArray):=by
 have cq:=run_firstCells_some (P:=P) w i.size m a m c news aT aiY;have m3:=run_storeCells_at P g (j8*i.size) fb news 0 nt w dm (by simpa using iE) h1;simp only[Nat.add_zero] at m3;simp[Builtin.append_,run_underlying cj,sizeOf,typeInfo,aa,Builtin.lenOf,vX,cq,Addr.add_lit,m3]
theorem Uf {t fl e:TypeId}{i:TypeInfo}{ff:Value}(cj:P.underlying t=some (.slice e))(aa:P.info? e=some i)(cA:i.zero=some ff){A:Option Addr}{n c:Nat}{vs:List Value}(aT:vs.length=n*i.size)
 (hA:n=0\/ ∃a,A=some a/\ ∀(j:Nat) u,vs[j]? = some u->w.cell? (a.add j)=some u) (h1 : ∀u∈vs,u.oneCell'=true):N9 P w t t fl e i ff (.slice A n c) n vs where
 zero:=fun h0 B len cap Gu=>by subst h0;cases A<;>cases B<;>simp[Builtin.append_,run_underlying cj,sizeOf,typeInfo,aa,Builtin.lenOf,Gu,Builtin.firstCells,loadCells,loadCellsFrom,storeCells]
 nil:=fun h0 zP Dv=>by obtain⟨a,rfl,bF⟩:=hA.resolve_left (by omega);exact run_append_nil (P:=P) w t fl e i ff cj aa cA a n c vs aT bF h0 zP (by omega)
 room:=fun aS g j8 nF nt fb dm vX iE _=>by obtain⟨a,rfl,bF⟩:=hA.resolve_left (by omega);exact acq t fl e i cj aa g j8 nF nt fb dm a n c vs aT bF h1 vX iE
 grow:=fun aS b j8 nF zH an hold dm zP iE _=>by obtain⟨a,rfl,bF⟩:=hA.resolve_left (by omega);exact run_append_grow (P:=P) w t fl e i ff cj aa cA b j8 nF zH an hold a n c vs aT bF dm zP iE
theorem aeW {t cw fl e:TypeId}{i:TypeInfo}{ff:Value}{k:IntKind}(cj:P.underlying t=some (.slice e))(n4:P.underlying cw=some (.int k))(aa:P.info? e=some i)(cA:i.zero=some ff)(mL:ff.cells.size=i.size){m:Nat}(am1:(m:Int)<9223372036854775808)
 (h1 : ∀u∈(Builtin.zeroCells ff.cells m).toList,u.oneCell'=true):N9 P w t cw fl e i ff (.int .i64 m) m (Builtin.zeroCells ff.cells m).toList:=by
 have hw:IntKind.i64.wrap (m:Int)=m:=by simp[IntKind.wrap,IntKind.bits,IntKind.signed];omega
 have o3 : ¬((m:Int)<0):=by omega
 have ua : ∀aI,aI*i.size=0->Builtin.zeroCells ff.cells aI = #[]:=fun aI hm=>by apply Array.eq_empty_of_size_eq_zero;rw[size_zeroCells,mL,hm]
 have Kd : ∀bQ:World,(if m*i.size=0 then (pure #[]:Sem (Array Value)) else do pure (Builtin.zeroCells (<- zeroValue e).cells m)).run P bQ = .ok (Builtin.zeroCells ff.cells m) bQ:=fun bQ=>by
  split
  ·rename_i hm;rw[ua _ hm];rfl
  simp[zeroValue,typeInfo,aa,cA]
 have Oa : ∀b:Nat,m*b<=140737488355328-> ¬(281474976710656<(m:Int)*(b:Int)):=fun b aW=>by have:((m*b:Nat):Int)<=140737488355328:=(by omega);rw[Int.natCast_mul] at this;omega
 refine⟨fun aS B len cap Gu=> ?_,fun aS zP Dv=> ?_,fun aS g j8 nF nt fb dm vX iE Dv=> ?_,fun aS b j8 nF zH an hold dm zP iE Dv=> ?_⟩
 ·subst aS;have OD:IntKind.i64.wrap 0=0:=(by simpa using hw);cases B<;>simp[Builtin.append_,run_underlying cj,run_underlying n4,sizeOf,typeInfo,aa,Gu,asInt,asIntOf,OD,storeCells]
 ·have Ke : ¬m=0:=by omega
  have Gv : ¬(9223372036854775807<(m:Int)):=(by omega);have xr:=Oa _ Dv;have Gw : ¬(281474976710656<Builtin.nextslicecap m 0*i.bytes):=(by rw[nextslicecap_zero aS];omega);have h2:=Kd w.drew;by_cases hm:m*i.size=0
  ·simp[Builtin.append_,run_underlying cj,run_underlying n4,sizeOf,typeInfo,zeroValue,aa,cA,asInt,asIntOf,hw,o3,xr,Ke,Gv,Gw,Question.forced,run_firstCells_none,newRow,grownCap,hm,ua _ hm]
  simp[Builtin.append_,run_underlying cj,run_underlying n4,sizeOf,typeInfo,zeroValue,aa,cA,asInt,asIntOf,hw,o3,xr,Ke,Gv,Gw,Question.forced,run_firstCells_none,newRow,grownCap,hm]
 ·have xr:=Oa _ Dv
  have m3:=run_storeCells_at P g (j8*i.size) fb (Builtin.zeroCells ff.cells m).toList 0 nt w dm (by simpa using iE) h1;simp only[Nat.add_zero] at m3;by_cases hm:m*i.size=0
  ·rw[ua _ hm] at m3;have ajv:(storeCells ⟨g,j8*i.size,none⟩ []).run P w = .ok () (w.setRow g nt):=(by simpa using m3);simp[Builtin.append_,run_underlying cj,run_underlying n4,sizeOf,typeInfo,zeroValue,aa,cA,asInt,asIntOf,hw,o3,xr,vX,hm,ua _ hm,Addr.add_lit,ajv]
  simp[Builtin.append_,run_underlying cj,run_underlying n4,sizeOf,typeInfo,zeroValue,aa,cA,asInt,asIntOf,hw,o3,xr,vX,hm,Addr.add_lit,m3]
 have xr:=Oa _ Dv;have XY : ¬(j8+m<=nF):=by omega
 have Gv : ¬(9223372036854775807<((j8:Int)+(m:Int))):=by omega
 have Gw : ¬(281474976710656<Builtin.nextslicecap (j8+m) nF*i.bytes):=by omega
 have XZ:=run_firstCells_some (P:=P) w.drew i.size j8 b j8 nF zH an (by simpa using hold);by_cases hm:m*i.size=0
 ·simp[Builtin.append_,run_underlying cj,run_underlying n4,sizeOf,typeInfo,zeroValue,aa,cA,asInt,asIntOf,hw,o3,xr,XY,Gv,Gw,Question.forced,XZ,newRow,grownCap,hm,ua _ hm]
 simp[Builtin.append_,run_underlying cj,run_underlying n4,sizeOf,typeInfo,zeroValue,aa,cA,asInt,asIntOf,hw,o3,xr,XY,Gv,Gw,Question.forced,XZ,newRow,grownCap,hm]
theorem L1 {a5:Nat}{e:TypeId}{v:Value}{i:TypeInfo}{m:Nat}(h:c7 g s aE a w)(fI:s.aY a5=none){es:List (List aC)}(hlen:∀x∈es,x.length=i.size)(hm:m=es.length)
 {pA:List Value} {wO:Array Value} {cap:Nat} (sf:pA.length=es.length*i.size) (nD : ∀u∈pA,u.oneCell'=true) (aj7:wO.size=(cap-m)*i.size) (Gu:m<=cap) (ajw:cap<9223372036854775808)
 (fL : ∀(j:Nat) x u,es.flatten[j]? = some x->pA[j]? = some u->Rel w (s.ok g aE w) s.bd (s.bj aE) x u)
 (bf:v = .slice (some ⟨w.heap.size,0,none⟩) m cap) :
 ∃bX,c7 g (s.setRow a5 [⟨i.size,es,.live⟩]) bX a (w.drew.alloc (.cells (pA.toArray++wO) e)) /\
  Rel (w.drew.alloc (.cells (pA.toArray++wO) e)) ((s.setRow a5 [⟨i.size,es,.live⟩]).ok g bX (w.drew.alloc (.cells (pA.toArray++wO) e))) (s.setRow a5 [⟨i.size,es,.live⟩]).bd ((s.setRow a5 [⟨i.size,es,.live⟩]).bj bX) (.bu a5 0 0 m) v:=by
 have bC:=h.drew
 have kR:es.flatten.length=es.length*i.size:=by
  have : ∀(es:List (List aC)),(∀e∈es,e.length=i.size)->es.flatten.length=es.length*i.size:=by
   intro es
   induction es with
   | nil=>intro _;simp
   | cons e es ih =>
    intro gX;rw[aof,dD,ih fun x U=>gX x (by simp[U]),gX e (by simp),dI,Nat.add_mul];omega
  exact this es hlen
 obtain⟨bX,p1,p2,-⟩:=bC.alloc fI ⟨i.size,es,.live⟩ rfl (pA.toArray++wO) e hlen (fun j x U=>by
  have aq:j<pA.length:=by
   rcases Nat.lt_or_ge j es.flatten.length with c5|c5
   ·omega
   rw[aoe c5] at U;simp at U
  refine⟨pA[j],?_,nD _ (List.getElem_mem aq),?_⟩
  ·rw[Array.getElem?_append_left (by simpa using aq)];simp[aq]
  exact(fL j x _ U (dz aq)).drew)
 refine⟨bX,p2,?_⟩;subst bf;have an:(s.setRow a5 [⟨i.size,es,.live⟩]).aj a5 0=some ⟨i.size,es,.live⟩:=by rw[nj,dw rfl,nR];simp
 refine Rel.bu (sz:=i.size) (e7:=w.heap.size) (m:=(pA.toArray++wO).size) ((oR _ _ _ _ _).2 (by simp)) ?_ Gu ajw ⟨?_,.inr (by simp)⟩
 ·rw[jh an,p1];rfl
 simp only[Array.size_append,List.size_toArray,aj7,sf,dG];rw[<- hm,<- Nat.add_mul];congr 1;omega
section
variable {o:Oper} {c9:fP} {a5:Nat} {bA:iy}
theorem UL (h:c7 g s aE a w){t cw fl e:TypeId}{i:TypeInfo}{z:List aC}(hu:P.underlying t=some (.slice e))(aa:P.info? e=some i)(cA:rS P e=some z)(nH:z.length=i.size)(kr:i.size≠0)
 {y:aC} {gz:fP} {br:List (List aC)} {aj:List Prop} (he:zb P i.size z s.aY gz t cw y=some (br,aj)) (bo : ∀p∈aj,p) {pe:Value} (aV:Rel w (s.ok g aE w) s.bd (s.bj aE) y pe) :
 ∃ff vs,i.zero=some ff/\ff.cells.size=i.size/\N9 P w t cw fl e i ff pe br.length vs/\(∀x∈br,x.length=i.size)/\vs.length=br.length*i.size/\(∀u∈vs,u.oneCell'=true) /\
  ∀(j:Nat) x u,br.flatten[j]? = some x->vs[j]? = some u->Rel w (s.ok g aE w) s.bd (s.bj aE) x u:=by
 obtain⟨fs,ff,lj,lL,q3,u3⟩:=Cv cA;rw[aa] at lj;simp at lj;subst lj;have mL:ff.cells.size=i.size:=by rw[<- nH,q3];simp
 unfold zb at he;split at he
 ·rename_i aj8
  subst aj8;obtain⟨A,c,rfl,hlen,OE⟩:=Vn h he bo aV;rcases OE with h0|⟨e7,off,rfl,jS⟩
  ·have:br=[]:=dM.1 h0;subst this;exact⟨ff,[],lL,mL,Uf hu aa lL (by simp) (.inl rfl) (by simp),hlen,by simp,by simp,by simp⟩
  obtain⟨vs,v1,v2,v3,v4⟩:=jS.pA;exact⟨ff,vs,lL,mL,Uf hu aa lL v1 (.inr ⟨_,rfl,v2⟩) v3,hlen,v1,v3,v4⟩
 split at he;rotate_left
 ·simp at he
 rename_i k n aX;simp only[dB,dF] at he;obtain⟨rfl,rfl⟩:=he;have h0:0<=n:=bo _ (by simp);have zP:n<9223372036854775808:=bo _ (by simp);obtain⟨m,rfl⟩:=Int.eq_ofNat_of_zero_le h0;have aj9:pe = .int .i64 m:=by cases aV;rfl
 subst aj9;have nI : ∀(j:Nat) u,(Builtin.zeroCells ff.cells m).toList[j]? = some u->ff.cells[j % i.size]? = some u:=by intro j u pD;have aq:=(aod.1 pD).1;rw[Array.length_toList,size_zeroCells,mL] at aq;have ez:j % i.size<ff.cells.size:=(by rw[mL];exact Nat.mod_lt _ (by omega));rw[Array.getElem?_toList,Builtin.zeroCells,Array.getElem?_map,mL,Array.getElem?_range] at pD;rw[dw aq] at pD;simp only[dR,dB] at pD;rw[<- pD,aoa ez,getElem!_pos ff.cells _ ez]
 refine⟨ff,(Builtin.zeroCells ff.cells m).toList,lL,mL,?_,?_,?_,?_,?_⟩
 ·simp only[List.length_replicate,dy];refine aeW hu aX aa lL mL (by omega) fun u uc=> ?_;obtain⟨j,aq⟩:=aor uc;have h1:=nI j u aq;have ez:j % i.size<z.length:=(by rw[nH];exact Nat.mod_lt _ (by omega));obtain⟨v,v1,v2,-⟩:=u3 _ _ (dz ez);rw[h1] at v1;obtain rfl:=dJ v1;exact v2
 ·intro x U;rw[List.mem_replicate] at U;rw[U.2,nH]
 ·rw[Array.length_toList,size_zeroCells,mL];simp
 ·intro u uc;obtain⟨j,aq⟩:=aor uc;have h1:=nI j u aq;have ez:j % i.size<z.length:=(by rw[nH];exact Nat.mod_lt _ (by omega));obtain⟨v,v1,v2,-⟩:=u3 _ _ (dz ez);rw[h1] at v1;obtain rfl:=dJ v1;exact v2
 intro j x u U pD;rw[q8 (sz:=i.size) (by omega) _ (fun fb nG=>by rw[List.mem_replicate] at nG;rw[nG.2,nH])] at U;have h1:=nI j u pD
 cases a0:(List.replicate (Int.toNat (m:Int)) z)[j / i.size]? with
 | none=>rw[a0] at U;simp at U
 | some fb =>
  have:=dH a0;rw[List.mem_replicate] at this;rw[a0,this.2] at U;simp only[dx] at U;obtain⟨v,v1,-,v3⟩:=u3 _ _ U;rw[h1] at v1;obtain rfl:=dJ v1;exact v3 _ _ _ _
theorem aeX (h:c7 g s aE a w)(fI:s.aY a5=none){x y:aC}{rI pe:Value}{t cw:TypeId}{m:Nat}{PA:Option a1}{fl:TypeId}(ay:ub P s.E s.aY a5 .append [x,y] [t,cw] (.aD m PA)=some bA)(cE:∀p∈bA.f9,p)
 (U:Rel w (s.ok g aE w) s.bd (s.bj aE) x rI) (aV:Rel w (s.ok g aE w) s.bd (s.bj aE) y pe) :
 ∃v bQ bX,(Builtin.append_ #[t,cw] fl #[rI,pe]).run P w = .ok v bQ/\c7 g (s.jo bA.gM) bX a bQ/\Rel bQ ((s.jo bA.gM).ok g bX bQ) (s.jo bA.gM).bd ((s.jo bA.gM).bj bX) bA.val v:=by
 simp only[ub] at ay;split at ay
 ·simp at ay
 rename_i e he;have hu:=tG he;split at ay;rotate_left
 ·simp at ay
 rename_i i z aa cA;split at ay
 ·simp at ay
 rename_i aZ;simp only[not_or,Decidable.not_not] at aZ;obtain⟨nH,kr,Dp⟩:=aZ;split at ay
 ·simp at ay
 rename_i br bR tZ;have Kf:=fun af=>UL (fl:=fl) h hu aa cA nH kr tZ af aV;by_cases aie:True
 ·
  split at ay
  ·
   simp only[dB] at ay;subst ay;have hm:m=br.length:=cE _ (by simp);have GW:m*i.bytes<=140737488355328:=cE _ (by simp);obtain⟨ff,vs,lL,mL,hA,hlen,v1,v3,v4⟩:=Kf (fun p af=>cE p (by simp[af]));clear Kf;rw[U.rV];by_cases h0:br.length=0
   ·have:br=[]:=dM.1 h0;subst this;obtain⟨bX,p1,p2⟩:=h.VV (sz:=i.size) fI;refine⟨_,w,bX,hA.zero h0 none 0 0 (dE _),p2,?_⟩;subst hm;have an:(s.setRow a5 [⟨i.size,[],.live⟩]).aj a5 0=some ⟨i.size,[],.live⟩:=(by rw[nj,dw rfl,nR];simp);exact .pk (sz:=i.size) ((oR _ _ _ _ _).2 (by simp)) (by show (s.setRow a5 [⟨i.size,[],.live⟩]).bj bX a5 0=_;rw[jh an,p1])
   ··have xA:br.length*1<=br.length*i.bytes:=Nat.mul_le_mul_left _ (by omega)
     rw[hm] at GW;have ki:=hA.nil (by omega) (by omega) (by omega);have X0:=grownCap_ge w br.length 0 e;have hle:=grownCap_le_maxLen w br.length 0 e (by simp only[maxLen];omega);simp only[maxLen] at hle
     obtain⟨bX,q1,q2⟩:=L1 (e:=e) (i:=i) (m:=m) (pA:=vs) (wO:=Builtin.zeroCells ff.cells (grownCap w br.length 0 e-br.length)) (cap:=grownCap w br.length 0 e) h fI hlen hm v1 v3
      (by rw[size_zeroCells,mL,hm]) (by omega) (by omega) v4 rfl
     refine⟨.slice (some ⟨w.heap.size,0,none⟩) m (grownCap w br.length 0 e),_,bX,?_,q1,q2⟩;rw[hm];exact ki
  ·
   rename_i r k len;split at ay
   ·simp at ay
   rename_i row d4;split at ay
   ·simp at ay
   rename_i aj bo;split at ay;rotate_left
   ·simp at ay
   rename_i wu;obtain⟨oE,fF,dd⟩:=wu;simp only[dB] at ay;subst ay;have an:s.aj r k=some aj:=(by unfold S.aj;rw[d4];exact bo);have iE:len<=aj.es.length:=cE _ (by simp);have hm:m=len+br.length:=cE _ (by simp);have GW:m*i.bytes<=140737488355328:=cE _ (by simp);have xA:m*1<=m*i.bytes:=Nat.mul_le_mul_left _ (Nat.one_le_iff_ne_zero.2 Dp);obtain⟨ff,vs,lL,mL,hA,hlen,v1,v3,v4⟩:=Kf (fun p af=>cE p (by simp[af]));clear Kf;have anc:br.length*i.bytes<=m*i.bytes:=aob _ (by omega);have fL:=h.obj r k aj an;have OG:(aj.es.take len).length=len:=(by simp;omega);have uU:(s.setRow a5 [⟨i.size,aj.es.take len++br,.live⟩]).aY r=some row:=(by simp[S.setRow,Ne.symm dd,d4]);have si : ∀bX:gw,((s.setRow a5 [⟨i.size,aj.es.take len++br,.live⟩]).setRow r (row.set k {aj with cS:= .gone})).aj a5 0=some ⟨i.size,aj.es.take len++br,.live⟩:=(by intro _;rw[nj,dA dd,nj,dw rfl,nR];simp);have Gx:((s.setRow a5 [⟨i.size,aj.es.take len++br,.live⟩]).setRow r (row.set k {aj with cS:= .gone})).bd a5 0:=(by rw[oR,dA dd,oR,dw rfl];simp);show ∃v bQ bX,_/\c7 g ((s.setRow a5 [⟨i.size,aj.es.take len++br,.live⟩]).setRow r (row.set k {aj with cS:= .gone})) bX a bQ/\_;rcases U.uK (jh an) with ⟨af,-,rfl,rfl⟩|⟨b,M,hf,lB,af,rfl,sg,u2,er,m4⟩
   ·
    rw[af] at fL;simp only[ke] at fL;have i5:aj.es.take 0++br=br:=(by simp);by_cases h0:br.length=0
    ·have:br=[]:=dM.1 h0;subst this;obtain⟨bX,p1,p2⟩:=h.VV (sz:=i.size) fI;have pE:(s.setRow a5 [⟨i.size,[],.live⟩]).aj r k=some aj:=(by rw[nj,dA (Ne.symm dd)];exact an);have aiZ:(s.setRow a5 [⟨i.size,[],.live⟩]).aY r=some row:=(by simp[S.setRow,Ne.symm dd,d4]);obtain⟨vi,-⟩:=p2.gone aiZ pE;have Gy:aj.es.take 0++([]:List (List aC))=[]:=(by simp);rw[Gy];rw[Gy] at Gx si;refine⟨_,w,bX,hA.zero h0 none 0 0 (dE _),vi,?_⟩;subst hm;exact .pk (sz:=i.size) Gx ((jh (si bX)).trans (by rw[p1]))
    ··have lz:m=br.length:=by omega
      have ki:=hA.nil (by omega) (by omega) (by omega);have X0:=grownCap_ge w br.length 0 e;have hle:=grownCap_le_maxLen w br.length 0 e (by simp only[maxLen];omega);simp only[maxLen] at hle
      obtain⟨bX,q1,q2⟩:=L1 (e:=e) (i:=i) (m:=m) (pA:=vs) (wO:=Builtin.zeroCells ff.cells (grownCap w br.length 0 e-br.length)) (cap:=grownCap w br.length 0 e) h fI hlen lz v1 v3
       (by rw[size_zeroCells,mL,lz]) (by omega) (by omega) v4 rfl
      rw[i5];rw[i5] at uU;have pE:(s.setRow a5 [⟨i.size,br,.live⟩]).aj r k=some aj:=(by rw[nj,dA (Ne.symm dd)];exact an);obtain⟨vi,HD⟩:=q1.gone uU pE;refine⟨.slice (some ⟨w.heap.size,0,none⟩) m (grownCap w br.length 0 e),_,bX,?_,vi,HD _ _ q2⟩;rw[lz];exact ki
   ·
    rw[af] at fL;have ai0:=fL;obtain⟨cH,ns,g1,g2,g3,g4⟩:=fL
    have Gz : ∀e∈aj.es.take len++br,e.length=i.size:=by
     intro fb nG;rw[List.mem_append] at nG;rcases nG with c5|c5
     ·rw[g3 fb (List.mem_of_mem_take c5),fF]
     exact hlen fb c5
    have kR : ∀(es:List (List aC)),(∀e∈es,e.length=i.size)->es.flatten.length=es.length*i.size:=by
     intro es
     induction es with
     | nil=>intro _;simp
     | cons e es ih =>
      intro gX;rw[aof,dD,ih fun x U=>gX x (by simp[U]),gX e (by simp),dI,Nat.add_mul];omega
    by_cases h0:br.length=0
    ·
     have:br=[]:=dM.1 h0;subst this;have Gy:aj.es.take len++([]:List (List aC))=aj.es.take len:=(by simp);rw[Gy];rw[Gy] at Gx si Gz
     obtain⟨bX,p1,p2⟩:=h.turn d4 an oE af fI ⟨i.size,aj.es.take len,.live⟩ rfl cH ns g1 rfl (fun _ _=>rfl) rfl rfl rfl g2 Gz (fun j q a0=>by
      refine g4 j q ?_
      have aq:j<(aj.es.take len).flatten.length:=by
       rcases Nat.lt_or_ge j (aj.es.take len).flatten.length with c5|c5
       ·exact c5
       rw[aoe c5] at a0;simp at a0
      have X1:aj.es.flatten=(aj.es.take len).flatten++(aj.es.drop len).flatten:=(by rw[<- List.flatten_append,List.take_append_drop]);rw[X1,aoj aq];exact a0)
     refine⟨_,w,bX,hA.zero h0 hf len lB sg,p2,?_⟩;have lz:m=len:=(by simpa using hm);subst lz;refine .bu (sz:=i.size) (e7:=b) (m:=M) Gx ((jh (si bX)).trans (by rw[p1])) sg u2 ?_;rw[<- fF];exact⟨er,m4⟩
    ··
      have hold : ∃xs:List Value,xs.length=len*i.size/\(∀(j:Nat) u,xs[j]? = some u->w.cell? ((⟨b,0,none⟩:Addr).add j)=some u)/\(∀u∈xs,u.oneCell'=true) /\
       ∀(j:Nat) x u,(aj.es.take len).flatten[j]? = some x->xs[j]? = some u->Rel w (s.ok g aE w) s.bd (s.bj aE) x u:=by
       have Xw:=Io ai0.rd 0 len (by omega);simp only[List.drop_zero,Nat.zero_mul,Nat.add_zero] at Xw;obtain⟨xs,x1,x2,aw,fS⟩:=Xw.pA;exact⟨xs,by rw[x1,OG,fF],x2,aw,fS⟩
      obtain⟨xs,x1,x2,aw,fS⟩:=hold;have Kg:xs.length=(aj.es.take len).length*i.size:=by rw[OG];exact x1
      have VW : ∀(j:Nat) x u,(aj.es.take len++br).flatten[j]? = some x->(xs++vs)[j]? = some u->Rel w (s.ok g aE w) s.bd (s.bj aE) x u :=
       fun j x u aka pD=>adq Kg (fun fb nG=>by rw[g3 fb (List.mem_of_mem_take nG),fF]) aka fS v4 pD
      have GA:(aj.es.take len++br).length=m:=(by rw[dD,OG];exact hm.symm);by_cases vX:len+br.length<=lB
      ·
       rcases m4 with rfl|rfl
       ·omega
       rw[Nat.zero_mul] at *;rw[dG] at er;have aif:len*i.size+vs.length<=cH.size:=(by rw[v1,g2,<- er,fF,<- Nat.add_mul];exact aob _ vX);have ki:=hA.room (by omega) b len lB cH ns g1 vX aif (by omega);have ajx:(w.setRow b (cH.toList.take (len*i.size)++vs++cH.toList.drop (len*i.size+vs.length)).toArray).heap.size=w.heap.size:=size_setRow _ _ _
       have X2:xs=cH.toList.take (len*i.size):=by
        apply aol;intro j;rw[an9];by_cases aq:j<len*i.size
        ·rw[dw aq];have u4:j<xs.length:=(by omega);have:=x2 j _ (dz u4);rw[tF,cell_of_row w b (0+j) cH ns (0,0) g1,dG] at this;rw[dz u4,<- this,Array.getElem?_toList]
        rw[dA aq,aoe (by omega)]
       obtain⟨bX,p1,p2⟩:=h.turn d4 an oE af fI ⟨i.size,aj.es.take len++br,.live⟩ rfl _ ns (setRow_heap w b cH _ ns _ g1) ajx (fun q a0=>setRow_other w b q _ a0) rfl rfl rfl
        (by rw[<- g2];simp;omega) Gz (fun j q a0=>by
          have aq:j<(xs++vs).length:=by
           have:j<(aj.es.take len++br).flatten.length:=by
            rcases Nat.lt_or_ge j (aj.es.take len++br).flatten.length with c5|c5
            ·exact c5
            rw[aoe c5] at a0;simp at a0
           rw[kR _ Gz,GA] at this;rw[dD,x1,v1,<- Nat.add_mul,<- hm];exact this
          refine⟨(xs++vs)[j],?_,?_,VW j q _ a0 (dz aq)⟩
          ·rw[List.getElem?_toArray,aoj (by rw[<- X2];exact aq),<- X2];exact dz aq
          have:=List.getElem_mem aq;rw[List.mem_append] at this;rcases this with c5|c5
          ·exact aw _ c5
          exact v3 _ c5)
       refine⟨_,_,bX,ki,p2,?_⟩;rw[<- hm];refine .bu (sz:=i.size) (e7:=b) (m:=M) Gx ((jh (si bX)).trans (by rw[p1])) (by omega) u2 ⟨?_,.inr (by simp)⟩;rw[dG,<- fF];exact er
      ·
       have hA : ∃Ai:Addr,(hf=some Ai/\ ∀(j:Nat) u,xs[j]? = some u->w.cell? (Ai.add j)=some u)\/(hf=none/\len=0/\lB=0):=by
        cases hf with
        | none =>
         refine⟨⟨0,0,none⟩,.inr ⟨rfl,?_⟩⟩;rcases m4 with c5|c5
         ·omega
         simp at c5
        | some Ai =>
         refine⟨Ai,.inl ⟨rfl,?_⟩⟩;rcases m4 with c5|c5
         ·have:len=0:=(by omega);have:xs=[]:=dM.1 (by rw[x1,this];simp);intro j u aq;rw[this] at aq;simp at aq
         simp at c5;subst c5;exact x2
       have X0:=grownCap_ge w (len+br.length) lB e;have hle:=grownCap_le_maxLen w (len+br.length) lB e (by simp only[maxLen];omega);simp only[maxLen] at hle
       have ki:(Builtin.append_ #[t,cw] fl #[.slice hf len lB,pe]).run P w = .ok (.slice (some ⟨w.heap.size,0,none⟩) (len+br.length) (grownCap w (len+br.length) lB e))
        (w.drew.alloc (.cells ((xs++vs).toArray++Builtin.zeroCells ff.cells (grownCap w (len+br.length) lB e-(len+br.length))) e)):=by
        have ajy:(xs++vs).toArray=xs.toArray++vs.toArray:=(by apply Array.ext';simp);rw[ajy];obtain⟨Ai,⟨rfl,akb⟩|⟨rfl,o8,od⟩⟩:=hA
        ·exact hA.grow (by omega) Ai len lB xs x1 akb (by omega) (by omega) (growslice_fits (by omega) (by rw[<- hm];exact GW)) (by omega)
        subst o8;subst od;have akc:xs=[]:=dM.1 (by rw[x1];simp);subst akc;have:=hA.nil (by omega) (by omega) (by omega);simpa using this
       obtain⟨bX,q1,q2⟩:=L1 (e:=e) (i:=i) (m:=m) (pA:=xs++vs) (wO:=Builtin.zeroCells ff.cells (grownCap w (len+br.length) lB e-(len+br.length))) (cap:=grownCap w (len+br.length) lB e) h fI Gz GA.symm
        (by rw[dD,x1,v1,GA,hm,Nat.add_mul]) (fun u hu=>by
          rw[List.mem_append] at hu;rcases hu with c5|c5
          ·exact aw _ c5
          exact v3 _ c5) (by rw[size_zeroCells,mL,hm]) (by omega) (by omega) VW rfl
       have pE:(s.setRow a5 [⟨i.size,aj.es.take len++br,.live⟩]).aj r k=some aj:=(by rw[nj,dA (Ne.symm dd)];exact an);obtain⟨vi,HD⟩:=q1.gone uU pE;refine⟨.slice (some ⟨w.heap.size,0,none⟩) m (grownCap w (len+br.length) lB e),_,bX,?_,vi,HD _ _ q2⟩;rw[hm];exact ki
  simp at ay
 exact absurd trivial aie
end
end
section
variable {P:Program} {g:G} {s:S} {aE:gw} {a:Act} {w:World}
theorem c7.putAt (h:c7 g s aE a w){r k p b M:Nat}{row:List a1}{aj:a1}(ai:s.aY r=some row)(an:s.aj r k=some aj)(aX:aj.cS = .live)(mP:aE r k=some (b,M)){br hD:List (List aC)}{vs:List Value}
 (hlen : ∀x∈br,x.length=aj.sz) (v1:vs.length=br.length*aj.sz) (v3 : ∀u∈vs,u.oneCell'=true) (v4 : ∀(j:Nat) x u,br.flatten[j]? = some x->vs[j]? = some u->Rel w (s.ok g aE w) s.bd (s.bj aE) x u)
 (af:p+br.length<=aj.es.length) (q:Nat) (i5:hD=(aj.es.take p++br++aj.es.drop (p+br.length)).take q) :
 ∃cH ns,w.heap[b]? = some (.cells cH ns (0,0))/\cH.size=M/\aj.es.length*aj.sz<=M/\p*aj.sz+vs.length<=cH.size /\
  c7 g (s.setRow r (row.set k {aj with es:=hD})) aE a (w.setRow b (cH.toList.take (p*aj.sz)++vs++cH.toList.drop (p*aj.sz+vs.length)).toArray) /\
  ∀x v,Rel w (s.ok g aE w) s.bd (s.bj aE) x v->Rel (w.setRow b (cH.toList.take (p*aj.sz)++vs++cH.toList.drop (p*aj.sz+vs.length)).toArray) ((s.setRow r (row.set k {aj with es:=hD})).ok g aE (w.setRow b (cH.toList.take (p*aj.sz)++vs++cH.toList.drop (p*aj.sz+vs.length)).toArray)) (s.setRow r (row.set k {aj with es:=hD})).bd ((s.setRow r (row.set k {aj with es:=hD})).bj aE) x v:=by
 have fL:=h.obj r k aj an;rw[mP] at fL;obtain⟨cH,ns,g1,g2,g3,g4⟩:=fL;have kR:=CG g3
 have er:aj.es.length*aj.sz<=M:=by
  rcases Nat.eq_zero_or_pos aj.es.flatten.length with h0|kr
  ·omega
  obtain⟨v,e1,-⟩:=g4 (aj.es.flatten.length-1) _ (dz (by omega));have:=(aom.1 e1).1;omega
 have hmul:p*aj.sz+br.length*aj.sz<=aj.es.length*aj.sz:=by rw[<- Nat.add_mul];exact aob _ af
 have iE:p*aj.sz+vs.length<=cH.size:=by omega
 refine⟨cH,ns,g1,g2,er,iE,?_⟩
 have ajz : ∀e∈aj.es.take p++br++aj.es.drop (p+br.length),e.length=aj.sz:=by
  intro e he;simp only[List.mem_append] at he;rcases he with (he|he)|he
  ·exact g3 e (List.mem_of_mem_take he)
  ·exact hlen e he
  exact g3 e (List.mem_of_mem_drop he)
 have hA:(aj.es.take p).flatten.length=p*aj.sz:=by rw[CG fun e he=>g3 e (List.mem_of_mem_take he),List.length_take];congr 1;omega
 have gl:(aj.es.take (p+br.length)).flatten.length=p*aj.sz+br.length*aj.sz:=by rw[CG fun e he=>g3 e (List.mem_of_mem_take he),List.length_take,<- Nat.add_mul];congr 1;omega
 have alB:br.flatten.length=br.length*aj.sz:=CG hlen
 have h1 : ∀j,j<p*aj.sz->(aj.es.take p).flatten[j]? = aj.es.flatten[j]? := fun j aq=>by
  conv=>rhs;rw[<- List.take_append_drop p aj.es,List.flatten_append,aoj (by omega)]
 have h2 : ∀j,(aj.es.drop (p+br.length)).flatten[j]? = aj.es.flatten[p*aj.sz+br.length*aj.sz+j]? := fun j=>by
  conv=>rhs;rw[<- List.take_append_drop (p+br.length) aj.es,List.flatten_append,aon (by omega),gl]
  congr 1;omega
 refine h.write ai an aX mP hD _ ns (setRow_heap w b cH _ ns _ g1) (size_setRow _ _ _) (fun q a0=>setRow_other w b q _ a0) rfl rfl rfl (by rw[<- g2];simp;omega) ?_ ?_
 ·intro e he;rw[i5] at he;exact ajz e (List.mem_of_mem_take he)
 intro j x U
 have eC:(aj.es.take p++br++aj.es.drop (p+br.length)).flatten[j]? = some x:=by
  rw[i5] at U;have aq:=(aod.1 U).1
  conv=>lhs;rw[<- List.take_append_drop q (aj.es.take p++br++aj.es.drop (p+br.length)),List.flatten_append,aoj aq]
  exact U
 rw[List.flatten_append,List.flatten_append] at eC;simp only[List.getElem?_toArray];have jq:(cH.toList.take (p*aj.sz)).length=p*aj.sz:=by rw[List.length_take,Array.length_toList];omega
 by_cases bh:j<p*aj.sz
 ·rw[List.append_assoc,aoj (by omega),h1 j bh] at eC;obtain⟨v,e1,e2,bJ⟩:=g4 j x eC;refine⟨v,?_,e2,bJ⟩;rw[List.append_assoc,aoj (by omega),an9,dw bh,Array.getElem?_toList];exact e1
 by_cases cp:j<p*aj.sz+vs.length
 ·rw[List.append_assoc,aon (by omega),hA,aoj (by omega)] at eC;have bf:j-p*aj.sz<vs.length:=(by omega);refine⟨vs[j-p*aj.sz],?_,v3 _ (List.getElem_mem bf),v4 _ _ _ eC (dz bf)⟩;rw[List.append_assoc,aon (by omega),jq,aoj (by omega)];exact dz bf
 rw[aon (by rw[dD];omega),dD,hA,alB,h2] at eC;rw[show p*aj.sz+br.length*aj.sz+(j-(p*aj.sz+br.length*aj.sz))=j by omega] at eC;obtain⟨v,e1,e2,bJ⟩:=g4 j x eC;refine⟨v,?_,e2,bJ⟩;rw[aon (by rw[dD];omega),dD,jq,aoo,Array.getElem?_toList];rw[show p*aj.sz+vs.length+(j-(p*aj.sz+vs.length))=j by omega];exact e1
end
section
variable {P:Program} {g:G} {s:S} {aE:gw} {a:Act} {w:World} {a5:Nat} {bA:iy}
theorem VX (h:c7 g s aE a w){wN:Bool}{x y:aC}{rI pe:Value}{t cw fl:TypeId}(ay:wh wN P s.aY x y t cw=some bA)(cE:∀p∈bA.f9,p)
 (U:Rel w (s.ok g aE w) s.bd (s.bj aE) x rI) (aV:Rel w (s.ok g aE w) s.bd (s.bj aE) y pe) :
 ∃v bQ,(Builtin.append_ #[t,cw] fl #[rI,pe]).run P w = .ok v bQ/\c7 g (s.jo bA.gM) aE a bQ/\Rel bQ ((s.jo bA.gM).ok g aE bQ) (s.jo bA.gM).bd ((s.jo bA.gM).bj aE) bA.val v:=by
 unfold wh at ay;split at ay
 ·simp at ay
 rename_i e he;have hu:=tG he;split at ay;rotate_left
 ·simp at ay
 rename_i i z aa cA;split at ay
 ·simp at ay
 rename_i aZ;simp only[not_or,Decidable.not_not] at aZ;obtain⟨nH,kr,Dp⟩:=aZ;split at ay
 ·simp at ay
 rename_i br bR tZ;split at ay;rotate_left
 ·simp at ay
 rename_i r k len;split at ay
 ·simp at ay
 rename_i row d4;split at ay
 ·simp at ay
 rename_i aj bo;split at ay;rotate_left
 ·simp at ay
 rename_i wu;obtain⟨oE,fF⟩:=wu;simp only[dB] at ay;subst ay;have an:s.aj r k=some aj:=by unfold S.aj;rw[d4];exact bo
 have iE:len+br.length<=aj.es.length:=cE _ (by simp);have GW:br.length*i.bytes<=140737488355328:=cE _ (by simp);obtain⟨ff,vs,lL,mL,hA,hlen,v1,v3,v4⟩:=UL (fl:=fl) h hu aa cA nH kr tZ (fun p af=>cE p (by simp[af])) aV;rw[<- fF] at v1;have W8 : ∀x∈br,x.length=aj.sz:=fun x U=>by rw[hlen x U,fF]
 obtain⟨E,Kh⟩ : ∃E,E=(bif wN then aj.es.take len++br++aj.es.drop (len+br.length) else aj.es.take len++br):=⟨_,rfl⟩
 obtain⟨q,i5⟩ : ∃q,E=(aj.es.take len++br++aj.es.drop (len+br.length)).take q:=by
  cases wN with
  | true=>exact⟨(aj.es.take len++br++aj.es.drop (len+br.length)).length,by rw[dP (dE _)];exact Kh⟩
  | false =>
   refine⟨len+br.length,Kh.trans ?_⟩;show aj.es.take len++br=_;exact(List.take_left' (by rw[dD,List.length_take];omega)).symm
 rw[<- Kh];rcases U.uK (jh an) with ⟨af,-,rfl,rfl⟩|⟨b,M,hf,lB,af,rfl,sg,u2,er,m4⟩
 ·have fL:=h.obj r k aj an
  rw[af] at fL;simp only[ke] at fL;rw[fL] at iE;have h0:br.length=0:=(by simp at iE;exact dM.2 iE);have zQ:br=[]:=dM.1 h0;subst zQ;have akd:E=[]:=(by rw[Kh,fL];cases wN<;>rfl);rw[akd]
  have m0:row.set k {aj with es:=[]}=row:=by
   have h1:({aj with es:=[]}:a1)=aj:=(by cases aj;simp only[] at fL;subst fL;rfl);rw[h1]
   have h2:row[k]? = some aj:=by
    unfold d6 at bo;simp only at bo;split at bo
    ·rename_i cl eV
     split at bo
     ·simp at bo
     simp at bo;rw[<- bo];exact eV
    simp at bo
   exact aol fun j=>by
    rw[aog];split
    ·rename_i e;subst e;have:=(aod.1 h2).1;rw[dw this,h2]
    rfl
  refine⟨_,w,hA.zero h0 none 0 0 (dE _),?_⟩
  have eB:s.setRow r row=s:=by
   have:(fun q=>if q=r then some row else s.aY q)=s.aY:=by
    funext q;split
    ·rename_i e;rw[e,d4]
    rfl
   show ({s with aY:=_}:S)=s;rw[this]
  show c7 g (s.setRow r (row.set k {aj with es:=[]})) aE a w/\Rel w ((s.setRow r (row.set k {aj with es:=[]})).ok g aE w) (s.setRow r (row.set k {aj with es:=[]})).bd ((s.setRow r (row.set k {aj with es:=[]})).bj aE) (.bu r k 0 0) (.slice none 0 0);rw[m0,eB];exact⟨h,U⟩
 obtain⟨cH,ns,bh,cp,kc,q4,pf,wP⟩:=h.putAt d4 an oE af W8 v1 v3 v4 iE q i5;have hle:aj.es.length<=lB:=by rw[dG] at er;rw[<- er] at kc;exact Nat.le_of_mul_le_mul_right kc (by omega)
 by_cases od:lB=0
 ·have h0:br.length=0:=(by omega);have o8:len=0:=(by omega);subst o8;have zQ:br=[]:=dM.1 h0;subst zQ;have OH:vs=[]:=dM.1 (by simpa using v1);subst OH;have hw:w.setRow b (cH.toList.take (0*aj.sz)++[]++cH.toList.drop (0*aj.sz+0)).toArray=w:=(by simp only[Nat.zero_mul,List.take_zero,List.nil_append,dG,List.drop_zero,Array.toArray_toList];exact setRow_self w b cH ns (0,0) bh);simp only[dN] at pf wP;rw[hw] at pf wP;exact⟨_,w,hA.zero h0 hf 0 lB (Nat.zero_le _),pf,wP _ _ U⟩
 have zR:hf=some ⟨b,0,none⟩:=by
  rcases m4 with c5|c5
  ·exact absurd c5 od
  simpa using c5
 subst zR;by_cases h0:br.length=0
 ·have zQ:br=[]:=dM.1 h0;subst zQ;have OH:vs=[]:=dM.1 (by simpa using v1);subst OH;have hw:w.setRow b (cH.toList.take (len*aj.sz)++[]++cH.toList.drop (len*aj.sz+0)).toArray=w:=(by simp only[List.append_nil,Nat.add_zero,List.take_append_drop,Array.toArray_toList];exact setRow_self w b cH ns (0,0) bh);simp only[dN] at pf wP;rw[hw] at pf wP;exact⟨_,w,hA.zero h0 _ len lB sg,pf,wP _ _ U⟩
 have ki:=hA.room (by omega) b len lB cH ns bh (by omega) (by rw[<- fF];exact q4) GW;rw[<- fF] at ki;refine⟨_,_,ki,pf,?_⟩;have Gs:(s.setRow r (row.set k {aj with es:=E})).aj r k=some {aj with es:=E}:=by rw[nj,dw rfl,Vk row k aj _ bo (by simp[oE]),dw rfl]
 show Rel _ ((s.setRow r (row.set k {aj with es:=E})).ok g aE _) (s.setRow r (row.set k {aj with es:=E})).bd ((s.setRow r (row.set k {aj with es:=E})).bj aE) (.bu r k 0 (len+br.length)) _;refine .bu (sz:=aj.sz) (e7:=b) (m:=M) (IX Gs) ((jh Gs).trans (by rw[af])) (by omega) u2 ⟨er,.inr (by simp)⟩
end
section
variable {P:Program} {g:G} {s:S} {aE:gw} {a:Act} {w:World} {a5:Nat} {bA:iy}
theorem Ml {s:S}{r k:Nat}{row:List a1}{aj:a1}(ai:s.aY r=some row)(an:d6 (some row) k=some aj):s.setRow r (row.set k aj)=s:=by
 have h2:row[k]? = some aj:=by
  unfold d6 at an;simp only at an;split at an
  ·rename_i cl eV
   split at an
   ·simp at an
   simp at an;rw[<- an];exact eV
  simp at an
 have J:row.set k aj=row:=aol fun j=>by
  rw[aog];split
  ·rename_i e;subst e;have:=(aod.1 h2).1;rw[dw this,h2]
  rfl
 rw[J]
 have:(fun q=>if q=r then some row else s.aY q)=s.aY:=by
  funext q;split
  ·rename_i e;rw[e,ai]
  rfl
 show ({s with aY:=_}:S)=s;rw[this]
theorem Ug {e:TypeId}{i:TypeInfo}{z:List aC}{ff:Value}(mL:ff.cells.size=i.size)(nH:z.length=i.size)(kr:i.size≠0)
 (u3 : ∀(j:Nat) x,z[j]? = some x-> ∃v,ff.cells[j]? = some v/\lH v=true/\ ∀(w:World) (ok:Nat->Prop) (bd:kt) (bj:kn),Rel w ok bd bj x v) (m:Nat) :
 (Builtin.zeroCells ff.cells m).toList.length=m*i.size/\(∀u∈(Builtin.zeroCells ff.cells m).toList,u.oneCell'=true) /\
   ∀(j:Nat) x u,(List.replicate m z).flatten[j]? = some x->(Builtin.zeroCells ff.cells m).toList[j]? = some u-> ∀(w:World) (ok:Nat->Prop) (bd:kt) (bj:kn),Rel w ok bd bj x u:=by
 have nI : ∀(j:Nat) u,(Builtin.zeroCells ff.cells m).toList[j]? = some u->ff.cells[j % i.size]? = some u:=by intro j u pD;have aq:=(aod.1 pD).1;rw[Array.length_toList,size_zeroCells,mL] at aq;have ez:j % i.size<ff.cells.size:=(by rw[mL];exact Nat.mod_lt _ (by omega));rw[Array.getElem?_toList,Builtin.zeroCells,Array.getElem?_map,mL,Array.getElem?_range] at pD;rw[dw aq] at pD;simp only[dR,dB] at pD;rw[<- pD,aoa ez,getElem!_pos ff.cells _ ez]
 refine⟨?_,?_,?_⟩
 ·rw[Array.length_toList,size_zeroCells,mL]
 ·intro u uc;obtain⟨j,aq⟩:=aor uc;have h1:=nI j u aq;have ez:j % i.size<z.length:=(by rw[nH];exact Nat.mod_lt _ (by omega));obtain⟨v,v1,v2,-⟩:=u3 _ _ (dz ez);rw[h1] at v1;obtain rfl:=dJ v1;exact v2
 intro j x u U pD;rw[q8 (sz:=i.size) (by omega) _ (fun fb nG=>by rw[List.mem_replicate] at nG;rw[nG.2,nH])] at U;have h1:=nI j u pD
 cases a0:(List.replicate m z)[j / i.size]? with
 | none=>rw[a0] at U;simp at U
 | some fb =>
  have:=dH a0;rw[List.mem_replicate] at this;rw[a0,this.2] at U;simp only[dx] at U;obtain⟨v,v1,-,v3⟩:=u3 _ _ U;rw[h1] at v1;obtain rfl:=dJ v1;exact v3
theorem agG (h:c7 g s aE a w){r k len:Nat}{y:aC}{rI pe:Value}{t cw fl:TypeId}{c9:fP}(ay:ub P s.E s.aY a5 .copy [.bu r k 0 len,y] [t,cw] c9=some bA)(cE:∀p∈bA.f9,p)
 (U:Rel w (s.ok g aE w) s.bd (s.bj aE) (.bu r k 0 len) rI) (aV:Rel w (s.ok g aE w) s.bd (s.bj aE) y pe) :
 ∃n bQ,(Builtin.copy_ #[t,cw] fl #[rI,pe]).run P w = .ok (goInt n) bQ/\c7 g (s.jo bA.gM) aE a bQ/\bA.val = .n .i64 n:=by
 simp only[ub] at ay;split at ay
 ·simp at ay
 rename_i e he;have hu:=tG he;split at ay
 ·simp at ay
 rename_i i aa;split at ay
 ·simp at ay
 rename_i br bR tZ;split at ay
 ·simp at ay
 rename_i row d4;split at ay
 ·simp at ay
 rename_i aj bo;split at ay;rotate_left
 ·simp at ay
 rename_i wu;obtain⟨oE,fF,kr⟩:=wu;simp only[dB] at ay;subst ay;have an:s.aj r k=some aj:=by unfold S.aj;rw[d4];exact bo
 have iE:br.length<=len:=cE _ (by simp);have hle:len<=aj.es.length:=cE _ (by simp);obtain⟨A,c,rfl,hlen,OE⟩:=Vn h tZ (fun p af=>cE p (by simp[af])) aV;show ∃n bQ,_/\c7 g (s.setRow r (row.set k {aj with es:=br++aj.es.drop br.length})) aE a bQ/\_;by_cases h0:br.length=0
 ·have zQ:br=[]:=dM.1 h0
  subst zQ;refine⟨0,w,?_,?_,rfl⟩
  ·rcases U.uK (jh an) with ⟨-,-,rfl,rfl⟩|⟨b,M,hf,lB,-,rfl,-,-,-,-⟩
   ·cases A<;>simp[Builtin.copy_,run_underlying hu,sizeOf,typeInfo,aa,Builtin.lenOf,Builtin.firstCells,loadCells,loadCellsFrom]
   cases A<;>cases hf<;>simp[Builtin.copy_,run_underlying hu,sizeOf,typeInfo,aa,Builtin.lenOf,Builtin.firstCells,loadCells,loadCellsFrom,storeCells]
  rw[show ({aj with es:=[]++aj.es.drop ([]:List (List aC)).length}:a1)=aj from rfl,Ml d4 bo];exact h
 obtain⟨e7,off,rfl,jS⟩:=OE.resolve_left h0;obtain⟨vs,v1,v2,v3,v4⟩:=jS.pA;rw[<- fF] at v1;rcases U.uK (jh an) with ⟨-,-,rfl,-⟩|⟨b,M,hf,lB,af,rfl,sg,u2,er,m4⟩
 ·exact absurd (Nat.le_zero.1 iE) h0
 have zR:hf=some ⟨b,0,none⟩:=by
  rcases m4 with c5|c5
  ·exact absurd (show br.length=0 by omega) h0
  simpa using c5
 subst zR
 obtain⟨cH,ns,bh,cp,kc,q4,pf,-⟩:=h.putAt (p:=0) d4 an oE af (fun x U=>by rw[hlen x U,fF]) v1 v3 v4 (by omega) aj.es.length (hD:=br++aj.es.drop br.length)
  (by rw[List.take_zero,List.nil_append,dG];exact(dP (by simp;omega)).symm)
 simp only[Nat.zero_mul,dG,List.take_zero,List.nil_append] at q4 pf;have aT:=run_firstCells_some (P:=P) w i.size br.length ⟨e7,off,none⟩ br.length c vs (by rw[v1,fF]) v2;have m3:=run_storeCells_at P b 0 ns vs 0 cH w bh (by simpa using q4) v3;simp only[Nat.add_zero,List.take_zero,List.nil_append,dG] at m3;refine⟨br.length,_,?_,pf,rfl⟩;simp[Builtin.copy_,run_underlying hu,sizeOf,typeInfo,aa,Builtin.lenOf,Nat.min_eq_left iE,aT,m3]
theorem afF (h:c7 g s aE a w){r k len:Nat}{rI:Value}{t fl:TypeId}(ay:zF P s.aY r k len t=some bA)(cE:∀p∈bA.f9,p)
 (U:Rel w (s.ok g aE w) s.bd (s.bj aE) (.bu r k 0 len) rI) :
 ∃bQ,(Builtin.clear_ #[t] fl #[rI]).run P w = .ok (.tuple #[]) bQ/\c7 g (s.jo bA.gM) aE a bQ/\bA.val = .dg []:=by
 unfold zF at ay;split at ay
 ·simp at ay
 rename_i e he;have hu:=tG he;split at ay;rotate_left
 ·simp at ay
 rename_i i z aa cA;split at ay
 ·simp at ay
 rename_i row d4;split at ay
 ·simp at ay
 rename_i aj bo;split at ay;rotate_left
 ·simp at ay
 rename_i wu;obtain⟨oE,fF,nH,kr⟩:=wu;simp only[dB] at ay;subst ay;have an:s.aj r k=some aj:=by unfold S.aj;rw[d4];exact bo
 have hle:aj.es.length=len:=cE _ (by simp);show ∃bQ,_/\c7 g (s.setRow r (row.set k {aj with es:=List.replicate len z})) aE a bQ/\_;by_cases h0:len=0
 ·subst h0
  refine⟨w,?_,?_,rfl⟩
  ·rcases U.uK (jh an) with ⟨-,-,-,rfl⟩|⟨b,M,hf,lB,-,rfl,-,-,-,-⟩
   ·simp[Builtin.clear_,run_underlying hu]
   cases hf<;>simp[Builtin.clear_,run_underlying hu]
  rw[show ({aj with es:=List.replicate 0 z}:a1)=aj by rw[List.replicate_zero,<- dM.1 hle],Ml d4 bo];exact h
 obtain⟨fs,ff,lj,lL,q3,u3⟩:=Cv cA;rw[aa] at lj;simp at lj;subst lj;have mL:ff.cells.size=i.size:=by rw[<- nH,q3];simp
 rcases U.uK (jh an) with ⟨-,-,rfl,-⟩|⟨b,M,hf,lB,af,rfl,sg,u2,er,m4⟩
 ·exact absurd rfl h0
 have zR:hf=some ⟨b,0,none⟩:=by
  rcases m4 with c5|c5
  ·exact absurd (show len=0 by omega) h0
  simpa using c5
 subst zR;obtain⟨v1,v3,v4⟩:=Ug (e:=e) mL nH kr u3 len;rw[<- fF] at v1
 obtain⟨cH,ns,bh,cp,kc,q4,pf,-⟩:=h.putAt (p:=0) (br:=List.replicate len z) d4 an oE af (fun x U=>by rw[List.mem_replicate] at U;rw[U.2,nH,fF]) (by simpa using v1) v3 (fun j x u h1 h2=>v4 j x u h1 h2 _ _ _ _)
  (by simp;omega) len (hD:=List.replicate len z)
  (by simp[hle])
 simp only[Nat.zero_mul,dG,List.take_zero,List.nil_append] at q4 pf;have m3:=run_storeCells_at P b 0 ns (Builtin.zeroCells ff.cells len).toList 0 cH w bh (by simpa using q4) v3;simp only[Nat.add_zero,List.take_zero,List.nil_append,dG] at m3;refine⟨_,?_,pf,rfl⟩
 cases len with
 | zero=>exact absurd rfl h0
 | succ n=>simp[Builtin.clear_,run_underlying hu,zeroValue,typeInfo,aa,lL,m3]
theorem aeY (h:c7 g s aE a w){r k bL len:Nat}{rI:Value}{t fl:TypeId}(ay:zp P s.aY r k bL len t=some bA)(cE:∀p∈bA.f9,p)
 (U:Rel w (s.ok g aE w) s.bd (s.bj aE) (.bu r k bL len) rI) :
 ∃bQ,(Builtin.clear_ #[t] fl #[rI]).run P w = .ok (.tuple #[]) bQ/\c7 g (s.jo bA.gM) aE a bQ/\bA.val = .dg []:=by
 unfold zp at ay;split at ay
 ·simp at ay
 rename_i e he;have hu:=tG he;split at ay;rotate_left
 ·simp at ay
 rename_i i z aa cA;split at ay
 ·simp at ay
 rename_i row d4;split at ay
 ·simp at ay
 rename_i aj bo;split at ay;rotate_left
 ·simp at ay
 rename_i wu;obtain⟨oE,fF,nH,kr⟩:=wu;simp only[dB] at ay;subst ay;have an:s.aj r k=some aj:=by unfold S.aj;rw[d4];exact bo
 have hle:bL+len<=aj.es.length:=cE _ (by simp);show ∃bQ,_/\c7 g (s.setRow r (row.set k {aj with es:=aj.es.take bL++List.replicate len z++aj.es.drop (bL+len)})) aE a bQ/\_;by_cases h0:len=0
 ·subst h0
  refine⟨w,?_,?_,rfl⟩
  ·rcases U.uK (jh an) with ⟨-,-,-,rfl⟩|⟨b,M,hf,lB,-,rfl,-,-,-,-⟩
   ·simp[Builtin.clear_,run_underlying hu]
   cases hf<;>simp[Builtin.clear_,run_underlying hu]
  rw[show ({aj with es:=aj.es.take bL++List.replicate 0 z++aj.es.drop (bL+0)}:a1)=aj by rw[List.replicate_zero,List.append_nil,Nat.add_zero,List.take_append_drop],Ml d4 bo];exact h
 obtain⟨fs,ff,lj,lL,q3,u3⟩:=Cv cA;rw[aa] at lj;simp at lj;subst lj;have mL:ff.cells.size=i.size:=by rw[<- nH,q3];simp
 rcases U.uK (jh an) with ⟨-,-,h1,-⟩|⟨b,M,hf,lB,af,rfl,sg,u2,er,m4⟩
 ·exact absurd h1 h0
 have zR:hf=some ⟨b,bL*aj.sz,none⟩:=by
  rcases m4 with c5|c5
  ·exact absurd (show len=0 by omega) h0
  exact c5
 subst zR;obtain⟨v1,v3,v4⟩:=Ug (e:=e) mL nH kr u3 len;rw[<- fF] at v1
 obtain⟨cH,ns,bh,cp,kc,q4,pf,-⟩:=h.putAt (p:=bL) (br:=List.replicate len z) d4 an oE af (fun x U=>by rw[List.mem_replicate] at U;rw[U.2,nH,fF]) (by simpa using v1) v3 (fun j x u h1 h2=>v4 j x u h1 h2 _ _ _ _)
  (by simp;omega) (aj.es.take bL++List.replicate len z++aj.es.drop (bL+(List.replicate len z).length)).length (hD:=aj.es.take bL++List.replicate len z++aj.es.drop (bL+len))
  (by rw[dP (dE _),List.length_replicate])
 have m3:=run_storeCells_at P b (bL*aj.sz) ns (Builtin.zeroCells ff.cells len).toList 0 cH w bh (by simpa using q4) v3;simp only[Nat.add_zero] at m3;refine⟨_,?_,pf,rfl⟩
 cases len with
 | zero=>exact absurd rfl h0
 | succ n=>simp[Builtin.clear_,run_underlying hu,zeroValue,typeInfo,aa,lL,m3]
end
section
variable {g:G} {s:S} {aE:gw} {a:Act} {w:World}
def nA (row:List a1):List a1:=row.map fun o=>if o.cS = .live then {o with cS:= .ka} else o
theorem Vo (row:List a1)(k:Nat):d6 (some (nA row)) k=(d6 (some row) k).map fun o=>if o.cS = .live then {o with cS:= .ka} else o:=by
 simp only[d6,nA,dK]
 cases row[k]? with
 | none=>rfl
 | some o =>
  obtain⟨sz,es,cS⟩:=o;cases cS<;>simp
theorem c7.freeze (h:c7 g s aE a w){r:Nat}{row:List a1}(ai:s.aY r=some row):c7 g (s.setRow r (nA row)) aE a w:=by
 have bo : ∀q k o,(s.setRow r (nA row)).aj q k=some o-> ∃p,s.aj q k=some p/\o.sz=p.sz/\o.es=p.es/\(o.cS = .live->p.cS = .live/\q≠r):=by
  intro q k o an;by_cases e:q=r
  ·subst e;have:(s.setRow q (nA row)).aY q=some (nA row):=(by simp[S.setRow]);unfold S.aj at an;rw[this,Vo] at an;rw[dO] at an;obtain⟨p,af,rfl⟩:=an;refine⟨p,by unfold S.aj;rw[ai];exact af,?_⟩;split<;>simp_all
  have:(s.setRow r (nA row)).aY q=s.aY q:=(by simp[S.setRow,e]);unfold S.aj at an;rw[this] at an;exact⟨o,an,rfl,rfl,fun aT=>⟨aT,e⟩⟩
 have kD : ∀q k,s.bd q k->(s.setRow r (nA row)).bd q k:=Im s ai (by simp[nA])
 have m1 : ∀q k,(s.setRow r (nA row)).bj aE q k=s.bj aE q k:=by
  intro q k;by_cases e:q=r
  ·subst e
   simp only[S.bj,S.aj];have:(s.setRow q (nA row)).aY q=some (nA row):=(by simp[S.setRow]);rw[this,Vo,ai]
   cases d6 (some row) k with
   | none=>rfl
   | some o=>simp only[dR,dB,dF,and_true];split<;>rfl
  have:(s.setRow r (nA row)).aY q=s.aY q:=(by simp[S.setRow,e]);simp[S.bj,S.aj,this]
 have c8:Step g s aE w (s.setRow r (nA row)) aE w:=⟨kD,fun q k _=> .inl (m1 q k),fun b aT=>by obtain⟨q,k,o,m,h1,h2,J⟩:=aT;obtain⟨p,p1,p2,vi,HD⟩:=bo q k o h1;exact .inl ⟨q,k,p,m,p1,(HD h2).1,J⟩,fun _ _ _=>rfl,dE _⟩;refine {tojE:=⟨?_,?_,?_,h.ik,h.mlt,h.o5,?_,h.low⟩,env:=fun t=>c8.rel (h.env t),defers:=h.defers,k1:=h.k1}
 ·intro q k o an
  obtain⟨p,p1,p2,vi,-⟩:=bo q k o an;have af:=c8.obj (fun b m _=>rfl) (h.obj q k p p1)
  cases mP:aE q k with
  | none=>rw[mP] at af;simp only[ke] at af ⊢;rw[vi];exact af
  | some x =>
   obtain⟨b,m⟩:=x;rw[mP] at af;obtain⟨c,fl,e1,e2,bJ,c1⟩:=af;exact⟨c,fl,e1,e2,by rw[p2,vi];exact bJ,by rw[vi];exact c1⟩
 ·intro q k o jd eD cl b m aI h1 h2 J ak;obtain⟨p,p1,-⟩:=bo q k o h1;obtain⟨lR,ake,-⟩:=bo jd eD cl h2;exact h.inj q k p jd eD lR b m aI p1 ake J ak
 ·intro q k o b m h1 h2;obtain⟨p,p1,-⟩:=bo q k o h1;exact h.own q k p b m p1 h2
 intro j k aq;obtain⟨e1,e2⟩:=h.stay j k aq;exact⟨kD j k e1,by rw[m1];exact e2⟩
end
def CX (P:Program)(t:TypeId):Bool :=
 match P.underlying t with
 | some (.pointer _)=>true
 | _=>false
def Dw (P:Program)(E:Nat->aC)(aY:Nat->Option (List a1))(a5:Nat)(o:Oper)(c9:fP):Option iy :=
 match o.op with
 | .call {callee:= .builtin b,args,argTypes}=>match b with
  | .len=>fE P E aY a5 o c9
  | b=>ub P E aY a5 b (args.toList.map (fq E)) argTypes.toList c9
 | .binOp op t x y _=>match c9,op,fq E x,fq E y with
  | .ea,.eql,.isl _ es,.e8=>if (ri P t).isSome then some {val:= .b false,f9:=[es≠[]]} else none
  | .ea,.neq,.isl _ es,.e8=>if (ri P t).isSome then some {val:= .b true,f9:=[es≠[]]} else none
  | .ea,.eql,.gk _ none,.jO=>if CX P t then some {val:= .b true} else none
  | .ea,.neq,.gk _ none,.jO=>if CX P t then some {val:= .b false} else none
  | .ea,.eql,.gk _ (some _),.jO=>if CX P t then some {val:= .b false} else none
  | .ea,.neq,.gk _ (some _),.jO=>if CX P t then some {val:= .b true} else none
  | .ea,_,_,_=>none
  | _,_,_,_=>fE P E aY a5 o c9
 | .nilCheck x=>match c9,fq E x with
  | .ea,.gk sz (some c)=>some {val:= .fO sz [c] 0 0}
  | .ea,_=>none
  | _,_=>fE P E aY a5 o c9
 | _=>fE P E aY a5 o c9
section
variable {P:Program} {g:G} {s:S} {aE:gw} {a:Act} {w:World} {o:Oper} {c9:fP} {a5:Nat} {bA:iy}
theorem FL {args:Array Operand}{E:Nat->aC}{x y:aC}(h:args.toList.map (fq E)=[x,y]): ∃p q,args = #[p,q]/\fq E p=x/\fq E q=y:=by
 obtain⟨l⟩:=args
 match l,h with
 | [p,q],h=>simp at h;exact⟨p,q,rfl,h.1,h.2⟩
theorem VY {args:Array Operand}{E:Nat->aC}{x:aC}(h:args.toList.map (fq E)=[x]): ∃p,args = #[p]/\fq E p=x:=by
 obtain⟨l⟩:=args
 match l,h with
 | [p],h=>simp at h;exact⟨p,rfl,h⟩
theorem IK {t:TypeId}(h:CX P t=true): ∃e,P.underlying t=some (.pointer e):=by
 unfold CX at h;split at h
 ·rename_i e he;exact⟨e,he⟩
 simp at h
theorem afG (h:c7 g s aE a w)(fI:s.aY a5=none)(ay:Dw P s.E s.aY a5 o c9=some bA)(cE:∀p∈bA.f9,p):Fin P g s a w o bA:=by
 unfold Dw at ay;split at ay
 ·rename_i b args n3 an
  split at ay
  ·exact IJ h fI ay cE
  rename_i b aW;unfold ub at ay;split at ay
  ·rename_i x y t cw m PA hargs nE;have tT:ub P s.E s.aY a5 .append [x,y] [t,cw] (.aD m PA)=some bA:=ay;obtain⟨p,q,rfl,rfl,rfl⟩:=FL hargs;obtain⟨l⟩:=n3;simp only at nE;subst nE;obtain⟨v,bQ,bX,h1,h2,J⟩:=aeX (fl:=o.type) h fI tT cE (h.eval p) (h.eval q);exact⟨v,bQ,bX,.inl (by simp[execOp,an,resolve,invoke,builtin,h1]),h2,J⟩
  ·rename_i x y t cw hargs nE;have tT:wh false P s.aY x y t cw=some bA:=ay;obtain⟨p,q,rfl,rfl,rfl⟩:=FL hargs;obtain⟨l⟩:=n3;simp only at nE;subst nE;obtain⟨v,bQ,h1,h2,J⟩:=VX (fl:=o.type) h tT cE (h.eval p) (h.eval q);exact⟨v,bQ,aE,.inl (by simp[execOp,an,resolve,invoke,builtin,h1]),h2,J⟩
  ·rename_i x y t cw hargs nE;have tT:wh true P s.aY x y t cw=some bA:=ay;obtain⟨p,q,rfl,rfl,rfl⟩:=FL hargs;obtain⟨l⟩:=n3;simp only at nE;subst nE;obtain⟨v,bQ,h1,h2,J⟩:=VX (fl:=o.type) h tT cE (h.eval p) (h.eval q);exact⟨v,bQ,aE,.inl (by simp[execOp,an,resolve,invoke,builtin,h1]),h2,J⟩
  ·rename_i c9 r k len y t cw hargs nE;have tT:ub P s.E s.aY a5 .copy [.bu r k 0 len,y] [t,cw] c9=some bA:=ay;obtain⟨p,q,rfl,af,rfl⟩:=FL hargs;obtain⟨l⟩:=n3;simp only at nE;subst nE;have U:=h.eval p;rw[af] at U;obtain⟨n,bQ,h1,h2,J⟩:=agG (fl:=o.type) h tT cE U (h.eval q);refine⟨goInt n,bQ,aE,.inl (by simp[execOp,an,resolve,invoke,builtin,h1]),h2,?_⟩;rw[J];exact .n _ _
  ·rename_i r k bL len t hargs nE;have tT:zp P s.aY r k bL len t=some bA:=ay;obtain⟨p,rfl,af⟩:=VY hargs;obtain⟨l⟩:=n3;simp only at nE;subst nE;have U:=h.eval p;rw[af] at U;obtain⟨bQ,h1,h2,J⟩:=aeY (fl:=o.type) h tT cE U;refine⟨.tuple #[],bQ,aE,.inl (by simp[execOp,an,resolve,invoke,builtin,h1]),h2,?_⟩;rw[J];exact .dg [] rfl (fun j x u aq=>by simp at aq)
  ·rename_i r k len t hargs nE _;have tT:zF P s.aY r k len t=some bA:=ay;obtain⟨p,rfl,af⟩:=VY hargs;obtain⟨l⟩:=n3;simp only at nE;subst nE;have U:=h.eval p;rw[af] at U;obtain⟨bQ,h1,h2,J⟩:=afF (fl:=o.type) h tT cE U;refine⟨.tuple #[],bQ,aE,.inl (by simp[execOp,an,resolve,invoke,builtin,h1]),h2,?_⟩;rw[J];exact .dg [] rfl (fun j x u aq=>by simp at aq)
  ·rename_i k x eD y hargs
   split at ay
   ·rename_i aX;simp only[dB] at ay;subst ay;subst aX;obtain⟨p,q,rfl,af,a0⟩:=FL hargs;have U:=h.eval p;have aV:=h.eval q;rw[af] at U;rw[a0] at aV;refine jm (v:= .int k (if y<x then y else x)) h ?_ rfl (.n _ _);simp[execOp,an,resolve,invoke,builtin,Builtin.min_,U.pZ,aV.pZ,Builtin.min2]
   simp at ay
  simp at ay
 ·rename_i op t x y cw an
  split at ay
  ·rename_i sz es U aV
   split at ay
   ·rename_i he;obtain⟨e,he⟩:=Option.isSome_iff_exists.1 he;simp only[dB] at ay;subst ay;have h1:=h.eval x;have h2:=h.eval y;rw[U] at h1;rw[aV] at h2;have dd:es≠[]:=cE _ (by simp);refine jm (v:= .bool false) h ?_ rfl (.b _);simp only[execOp,an];rw[Sem.run_bind,(Wx (w:=w) (tG he) dd h1 h2 x y).1];rfl
   simp at ay
  ·rename_i sz es U aV
   split at ay
   ·rename_i he;obtain⟨e,he⟩:=Option.isSome_iff_exists.1 he;simp only[dB] at ay;subst ay;have h1:=h.eval x;have h2:=h.eval y;rw[U] at h1;rw[aV] at h2;have dd:es≠[]:=cE _ (by simp);refine jm (v:= .bool true) h ?_ rfl (.b _);simp only[execOp,an];rw[Sem.run_bind,(Wx (w:=w) (tG he) dd h1 h2 x y).2];rfl
   simp at ay
  ·rename_i sz U aV
   split at ay
   ·rename_i cj;obtain⟨e,he⟩:=IK cj;simp only[dB] at ay;subst ay;have h1:=h.eval x;have h2:=h.eval y;rw[U] at h1;rw[aV] at h2;have td:Rel w (s.ok g aE w) s.bd (s.bj aE) .jO (a.eval x):=(by rw[h1.Vl];exact .jO);refine jm (v:= .bool true) h ?_ rfl (.b _);simp only[execOp,an];rw[Sem.run_bind,(CF (w:=w) (r:=true) (by simp[u0,he]) td h2 x y).1];rfl
   simp at ay
  ·rename_i sz U aV
   split at ay
   ·rename_i cj;obtain⟨e,he⟩:=IK cj;simp only[dB] at ay;subst ay;have h1:=h.eval x;have h2:=h.eval y;rw[U] at h1;rw[aV] at h2;have td:Rel w (s.ok g aE w) s.bd (s.bj aE) .jO (a.eval x):=(by rw[h1.Vl];exact .jO);refine jm (v:= .bool false) h ?_ rfl (.b _);simp only[execOp,an];rw[Sem.run_bind,(CF (w:=w) (r:=true) (by simp[u0,he]) td h2 x y).2];rfl
   simp at ay
  ·rename_i sz c U aV
   split at ay
   ·rename_i cj;obtain⟨e,he⟩:=IK cj;simp only[dB] at ay;subst ay;have h1:=h.eval x;have h2:=h.eval y;rw[U] at h1;rw[aV] at h2;refine jm (v:= .bool false) h ?_ rfl (.b _);simp only[execOp,an];rw[Sem.run_bind,(CF (w:=w) (r:=false) (by simp[u0,he]) h1.MU h2 x y).1];rfl
   simp at ay
  ·rename_i sz c U aV
   split at ay
   ·rename_i cj;obtain⟨e,he⟩:=IK cj;simp only[dB] at ay;subst ay;have h1:=h.eval x;have h2:=h.eval y;rw[U] at h1;rw[aV] at h2;refine jm (v:= .bool true) h ?_ rfl (.b _);simp only[execOp,an];rw[Sem.run_bind,(CF (w:=w) (r:=false) (by simp[u0,he]) h1.MU h2 x y).2];rfl
   simp at ay
  ·simp at ay
  exact IJ h fI ay cE
 ·rename_i x an
  split at ay
  ·rename_i sz c U;simp only[dB] at ay;subst ay;have h1:=h.eval x;rw[U] at h1;have h2:=h1.MU;obtain⟨e7,off,aW,hval,jS⟩:=h2.CO;refine jm (v:=a.eval x) h ?_ rfl h2;rw[hval];simp only[execOp,an,hval];rfl
  ·simp at ay
  exact IJ h fI ay cE
 exact IJ h fI ay cE
end
theorem vx {es:List (List aC)}{j:Nat}{x:aC}(h:es.flatten[j]? = some x): ∃e∈es,x∈e:=by have:=dH h;rw[List.mem_flatten] at this;obtain⟨e,he,U⟩:=this;exact⟨e,he,U⟩
theorem Rel.pure {w:World}{ok mw:Nat->Prop}{bd oA:kt}{bj nZ:kn}{x:aC}{v:Value}(h:Rel w ok bd bj x v)(af:Pure x)(lK:∀b,ok b->mw b):Rel w mw oA nZ x v:=by
 induction h with
 | dead v=>exact .dead v
 | b x=>exact .b x
 | n k x=>exact .n k x
 | s x=>exact .s x
 | jO=>exact .jO
 | e8=>exact .e8
 | jR a c=>exact .jR a c
 | rW=>cases af
 | ref=>cases af
 | oU=>cases af
 | pk=>cases af
 | bu=>cases af
 | ou=>cases af
 | py=>cases af
 | lv sz a c h=>exact .lv sz a c h
 | isl cs aW mK aT aZ hw jq ai ih =>
  cases af with
  | isl h=>exact .isl cs (lK _ aW) mK aT aZ hw jq fun j x U=>ih j x U (by obtain⟨e,he,te⟩:=vx U;exact h e he x te)
 | fO cs aW mK aT hw jq ai ih =>
  cases af with
  | fO h=>exact .fO cs (lK _ aW) mK aT hw jq fun j x U=>ih j x U (by obtain⟨e,he,te⟩:=vx U;exact h e he x te)
 | rr sz=>exact .rr sz
 | qG h ih =>
  cases af with
  | qG af=>exact .qG (ih (.fO fun e he x U=>by rw[List.mem_singleton] at he;subst he;exact af x U))
 | agg vs aT jq ai ih =>
  cases af with
  | agg h=>exact .agg vs aT jq fun j x v U bf=>ih j x v U bf (h x (dH U))
 | dg vs aT ai ih =>
  cases af with
  | dg h=>exact .dg vs aT fun j x v U bf=>ih j x v U bf (h x (dH U))
 | fn vs aT ai ih =>
  cases af with
  | fn h=>exact .fn vs aT fun j x v U bf=>ih j x v U bf (h x (dH U))
abbrev ic:=Nat->Nat->Option (Nat×Nat)
structure Down (q:aC->Prop):Prop where
 agg : ∀c x,q (.agg c)->x∈c->q x
 dg : ∀c x,q (.dg c)->x∈c->q x
 fn : ∀f c x,q (.fn f c)->x∈c->q x
inductive je (s:S) (a9:ic) (bO:hp->Bool) (q:aC->Prop):aC->aC->Prop
 | dead (x:aC):je s a9 bO q x .dead
 | pure {x:aC} (h:Pure x) (a0:q x):je s a9 bO q x x
 | e8 (sz:Nat):je s a9 bO q .e8 (.isl sz [])
 | jR (sz:Nat):je s a9 bO q .jR (.isl sz [])
 | JG (sz:Nat):je s a9 bO q .jO (.gk sz none)
 | gk {sz:Nat} {x:aC} {c:List aC} (h:je s a9 bO q x (.fO sz [c] 0 0)):je s a9 bO q x (.gk sz (some c))
 | ref {r k j fs:Nat} (i off:Nat) (h:a9 j fs=some (r,k)) (hu:s.bd r k):je s a9 bO q (.ref r k i off) (.ref j fs i off)
 | bu {r k j fs:Nat} (bL len:Nat) (h:a9 j fs=some (r,k)) (hu:s.bd r k):je s a9 bO q (.bu r k bL len) (.bu j fs bL len)
 | ou (r c sz:Nat):je s a9 bO q (.j9 r c sz none) (.isl sz [])
 | py {r c sz k n:Nat} {dc:aC} (h:je s a9 bO q (.bu r (k+c) 0 n) dc):je s a9 bO q (.j9 r c sz (some (k,n))) dc
 | j9 {r fA c eQ sz:Nat} (h:Option (Nat×Nat)) (hm : ∀k,a9 fA (k+eQ)=some (r,k+c)):je s a9 bO q (.j9 r c sz h) (.j9 fA eQ sz h)
 | fO {r k:Nat} {o:a1} {hD:List (List aC)} (i off:Nat) (an:s.aj r k=some o) (bF:bO o.cS=true) (ai:(∀j i,a9 j i≠some (r,k))) (dd:o.es≠[]) (af:jL hD) (hle : ∀e∈hD,e.length=o.sz) (aT:hD.length=o.es.length)
  (h : ∀(j:Nat) x dc,o.es.flatten[j]? = some x->hD.flatten[j]? = some dc->je s a9 bO q x dc):je s a9 bO q (.ref r k i off) (.fO o.sz hD i off)
 | isl {r k bL len:Nat} {o:a1} {hD:List (List aC)} (an:s.aj r k=some o) (bF:bO o.cS=true) (ai:(∀j i,a9 j i≠some (r,k))) (iE:bL+len<=o.es.length) (af:jL hD) (hle : ∀e∈hD,e.length=o.sz) (aT:hD.length=len)
  (h : ∀(j:Nat) x dc,((o.es.drop bL).take len).flatten[j]? = some x->hD.flatten[j]? = some dc->je s a9 bO q x dc):je s a9 bO q (.bu r k bL len) (.isl o.sz hD)
 | agg {c eQ:List aC} (aT:eQ.length=c.length) (h : ∀(j:Nat) x dc,c[j]? = some x->eQ[j]? = some dc->je s a9 bO q x dc):je s a9 bO q (.agg c) (.agg eQ)
 | dg {c eQ:List aC} (aT:eQ.length=c.length) (h : ∀(j:Nat) x dc,c[j]? = some x->eQ[j]? = some dc->je s a9 bO q x dc):je s a9 bO q (.dg c) (.dg eQ)
 | fn {f:Nat} {c eQ:List aC} (aT:eQ.length=c.length) (h : ∀(j:Nat) x dc,c[j]? = some x->eQ[j]? = some dc->je s a9 bO q x dc):je s a9 bO q (.fn f c) (.fn f eQ)
theorem uA {sz:Nat}: ∀(es:List (List aC)),(∀e∈es,e.length=sz)->es.flatten.length=es.length*sz
 | [],_=>by simp
 | e::es,h=>by rw[aof,dD,uA es fun x U=>h x (by simp[U]),h e (by simp),dI,Nat.add_mul];omega
theorem gm {α:Type}{l:List α}{j:Nat}{x:α}(h:l[j]? = some x):j<l.length:=by
 rcases Nat.lt_or_ge j l.length with c5|c5
 ·exact c5
 rw[aoe c5] at h;simp at h
theorem je.rel {g:G}{s:S}{aE:gw}{w:World}{a9:ic}{bO:hp->Bool}{q:aC->Prop}(er:jE g s aE w){mw:Nat->Prop}{oA:kt}{nZ:kn}
 (H1 : ∀x v,q x->Pure x->Rel w (s.ok g aE w) s.bd (s.bj aE) x v->Rel w mw oA nZ x v)
 (KK : ∀r k o b m,s.aj r k=some o->bO o.cS=true->(∀j i,a9 j i≠some (r,k))->aE r k=some (b,m)->mw b)
 (HE : ∀j i r k,a9 j i=some (r,k)->s.bd r k->oA j i/\(nZ j i=s.bj aE r k\/nZ j i=none)) {x dc:aC} (bG:je s a9 bO q x dc) :
 ∀ {v:Value},Rel w (s.ok g aE w) s.bd (s.bj aE) x v->Rel w mw oA nZ dc v:=by
 induction bG with
 | dead x=>intro v _;exact .dead v
 | pure af a0=>intro v ai;exact H1 _ v a0 af ai
 | e8 sz=>intro v ai;rw[ai.rV];exact .lv sz none 0 (fun _=>rfl)
 | jR sz=>intro v ai;obtain⟨a,c,rfl⟩:=ai.Jc;exact .lv sz (some a) c (fun h=>by simp at h)
 | JG sz=>intro v ai;rw[ai.yR];exact .rr sz
 | gk h ih=>intro v ai;exact .qG (ih ai)
 | @ref r k j fs i off aq hu =>
  intro v ai;obtain⟨h1,h2⟩:=HE j fs r k aq hu
  cases ai with
  | rW a qc aS =>
   refine .rW a h1 fun sz p=> ?_;rcases h2 with e|e<;>rw[e]
   ·exact aS sz p
   simp
  | ref qc cj =>
   rcases h2 with e|e
   ·exact .ref h1 (e.trans cj)
   exact .rW _ h1 fun sz p=>by rw[e];simp
 | @bu r k j fs bL len aq hu =>
  intro v ai;obtain⟨h1,h2⟩:=HE j fs r k aq hu
  cases ai with
  | oU a l c qc aS =>
   refine .oU a l c h1 ?_;rcases h2 with e|e<;>rw[e];exact aS
  | pk qc cj =>
   rcases h2 with e|e
   ·exact .pk h1 (e.trans cj)
   exact .oU _ _ _ h1 e
  | bu qc cj aT aZ hm =>
   rcases h2 with e|e
   ·exact .bu h1 (e.trans cj) aT aZ hm
   exact .oU _ _ _ h1 e
 | ou r c sz =>
  intro v ai
  cases ai with
  | ou h0 =>
   rcases h0.vO with ⟨-,a,c,rfl,bF⟩|⟨e7,off,c,-,rfl,-⟩
   ·exact .lv sz a c bF
   exact .lv sz _ c (fun h=>by simp at h)
 | py h ih =>
  intro v ai
  cases ai with
  | py h0=>exact ih h0
 | @j9 r fA c eQ sz h hm =>
  intro v ai
  cases ai with
  | ou h0 =>
   rcases h0.vO with ⟨-,a,c,rfl,bF⟩|⟨e7,off,c,-,rfl,-⟩
   ·exact .ou (.lv sz a c bF)
   exact .ou (.lv sz _ c (fun h=>by simp at h))
  | @py _ _ _ k n _ h0 =>
   refine .py ?_
   cases h0 with
   | oU a l bh qc aS =>
    obtain⟨h1,h2⟩:=HE _ _ _ _ (hm k) qc;refine .oU a l bh h1 ?_;rcases h2 with e|e<;>rw[e];exact aS
   | pk qc cj =>
    obtain⟨h1,h2⟩:=HE _ _ _ _ (hm k) qc;rcases h2 with e|e
    ·exact .pk h1 (e.trans cj)
    exact .oU _ _ _ h1 e
   | bu qc cj aT aZ m4 =>
    obtain⟨h1,h2⟩:=HE _ _ _ _ (hm k) qc;rcases h2 with e|e
    ·exact .bu h1 (e.trans cj) aT aZ m4
    exact .oU _ _ _ h1 e
 | @fO r k o hD i off an bF ai dd OI hle aT h ih =>
  intro v bf;have fL:=er.obj r k o an;rcases bf.y1 (jh an) with h0|⟨b,m,af,hval⟩
  ·rw[h0] at fL;exact absurd fL dd
  rw[af] at fL;have jS:=fL.rd;rw[hval];have kR:hD.flatten.length=o.es.flatten.length:=(by rw[uA hD hle,uA o.es jS.1,aT]);have zG:qm w mw oA nZ b 0 o.sz hD:=(by refine⟨hle,fun j dc eC=> ?_⟩;have ez:j<o.es.flatten.length:=(by rw[<- kR];exact gm eC);have U:o.es.flatten[j]? = some o.es.flatten[j]:=dz ez;obtain⟨u,e1,e2,bJ⟩:=jS.2 j _ U;exact⟨u,e1,e2,ih j _ dc U eC bJ⟩);have:=zG.fO (i:=i) (off:=off) ⟨KK r k o b m an bF ai af,OI⟩;rw[dG] at this;exact this
 | @isl r k bL len o hD an bF ai iE OI hle aT h ih =>
  intro v bf;have fL:=er.obj r k o an;rcases bf.FK (jh an) with ⟨af,rfl,rfl,hval⟩|⟨b,m,A,c,af,hval,sg,u2,hm⟩
  ·have:hD=[]:=dM.1 aT;subst this;rw[hval];exact .lv _ none 0 (fun _=>rfl)
  rw[af] at fL;rw[hval];rcases Nat.eq_zero_or_pos len with h0|kr
  ·subst h0;have:hD=[]:=dM.1 aT;subst this;exact .lv _ A c (fun aS=>by rcases hm with h1|⟨h1,-⟩<;>simp_all)
  rcases hm with hm|⟨hA,hm⟩
  ·omega
  subst hA;have jS:=Io fL.rd bL len (by omega);rw[dG] at jS;have kR:hD.flatten.length=((o.es.drop bL).take len).flatten.length:=(by rw[uA hD hle,uA _ jS.1,aT,List.length_take,List.length_drop,Nat.min_eq_left (by omega)]);have zG:qm w mw oA nZ b (bL*o.sz) o.sz hD:=(by refine⟨hle,fun j dc eC=> ?_⟩;have ez:j<((o.es.drop bL).take len).flatten.length:=(by rw[<- kR];exact gm eC);have U:=dz ez;obtain⟨u,e1,e2,bJ⟩:=jS.2 j _ U;exact⟨u,e1,e2,ih j _ dc U eC bJ⟩);have:=zG.isl (c:=c) ⟨KK r k o b m an bF ai af,OI⟩ (by omega);rw[aT] at this;exact this
 | @agg c eQ aT h ih =>
  intro v bf;obtain⟨vs,rfl,h1,h2,J⟩:=bf.CM;refine .agg vs (by omega) h2 fun j dc u eC hu=> ?_;have ez:j<c.length:=(by have:=gm eC;omega);exact ih j _ dc (dz ez) eC (J j _ u (dz ez) hu)
 | @dg c eQ aT h ih =>
  intro v bf;obtain⟨vs,rfl,h1,J⟩:=bf.CN;refine .dg vs (by omega) fun j dc u eC hu=> ?_;have ez:j<c.length:=(by have:=gm eC;omega);exact ih j _ dc (dz ez) eC (J j _ u (dz ez) hu)
 | @fn f c eQ aT h ih =>
  intro v bf;obtain⟨vs,rfl,h1,J⟩:=bf.Ju;refine .fn vs (by omega) fun j dc u eC hu=> ?_;have ez:j<c.length:=(by have:=gm eC;omega);exact ih j _ dc (dz ez) eC (J j _ u (dz ez) hu)
structure qd (s:S) (a9:ic) (bO:hp->Bool) (q:aC->Prop) (o cl:a1):Prop where
 sz:cl.sz=o.sz
 cS:cl.cS=o.cS\/(cl.cS = .ka/\o.cS = .live)\/cl.cS = .gone
 len:cl.es.length=o.es.length
 each : ∀e∈cl.es,e.length=o.sz
 at_ : ∀(j:Nat) x dc,o.es.flatten[j]? = some x->cl.es.flatten[j]? = some dc->je s a9 bO q x dc
structure sj (s:S) (a9:ic) (bO:hp->Bool) (q:aC->Prop) (hT:Nat->Option (List a1)):Prop where
 inj : ∀j i js fs p,a9 j i=some p->a9 js fs=some p->j=js/\i=fs
 at_ : ∀j i cl,d6 (hT j) i=some cl-> ∃r k o,a9 j i=some (r,k)/\s.aj r k=some o/\qd s a9 bO q o cl
 bd : ∀j i r k,a9 j i=some (r,k)->s.bd r k->i<((hT j).getD []).length
def k2 (aE:gw)(a9:ic):gw:=fun j i=>match a9 j i with
 | some (r,k)=>aE r k
 | none=>none
theorem CY {aE:gw}{a9:ic}{j i r k:Nat}(h:a9 j i=some (r,k)):k2 aE a9 j i=aE r k:=by simp[k2,h]
def nJ (_:aC):Prop:=True
theorem ai1:Down nJ:=⟨fun _ _ _ _=>trivial,fun _ _ _ _=>trivial,fun _ _ _ _ _=>trivial⟩
section
variable {g:G} {s:S} {aE:gw} {w:World} {a9:ic} {bO:hp->Bool} {q:aC->Prop} {b2:S}
theorem sj.aj (h:sj s a9 bO q b2.aY){j i:Nat}{cl:a1}(an:b2.aj j i=some cl): ∃r k o,a9 j i=some (r,k)/\s.aj r k=some o/\qd s a9 bO q o cl:=h.at_ j i cl an
theorem VZ {o cl:a1}(h:qd s a9 bO q o cl)(aT:cl.cS = .live):o.cS = .live:=by
 rcases h.cS with e|⟨e,-⟩|e
 ·exact e.symm.trans aT
 ·rw[e] at aT;simp at aT
 rw[e] at aT;simp at aT
theorem sj.live (h:sj s a9 bO q b2.aY)(b:Nat)(aT:b2.nz (k2 aE a9) b): ∃r k o m,s.aj r k=some o/\o.cS = .live/\aE r k=some (b,m)/\ ∃j i,a9 j i=some (r,k):=by obtain⟨j,i,cl,m,h1,h2,J⟩:=aT;obtain⟨r,k,o,e1,e2,bJ⟩:=h.aj h1;rw[CY e1] at J;exact⟨r,k,o,m,e2,VZ bJ h2,J,j,i,e1⟩
theorem sj.Ki (h:sj s a9 bO q b2.aY){j i r k:Nat}(aq:a9 j i=some (r,k)):b2.bj (k2 aE a9) j i=s.bj aE r k\/b2.bj (k2 aE a9) j i=none:=by
 cases an:b2.aj j i with
 | none=>right;simp[S.bj,an]
 | some cl =>
  obtain⟨fA,eD,o,e1,e2,bJ⟩:=h.aj an;rw[aq] at e1;simp only[dB,dF] at e1;obtain⟨rfl,rfl⟩:=e1;left;rw[jh an,jh e2,bJ.sz,CY aq]
theorem jE.PB (er:jE g s aE w)(h:sj s a9 bO q b2.aY){hc:G}(aX:Gq hc w)(F8:∀j k,hc.qM j k->b2.bd j k/\(b2.bj (k2 aE a9) j k=hc.t0 j k\/b2.bj (k2 aE a9) j k=none))(zI:∀j k,hc.qM j k->j<hc.m)
 (ajA : ∀b,hc.rF b->b<hc.nL.heap.size) (halt : ∀b,hc.A b->b<hc.nL.heap.size)
 (Ob : ∀r k o b m,(∃j i,a9 j i=some (r,k))->s.aj r k=some o->aE r k=some (b,m)->hc.nL.heap.size<=b\/hc.rF b)
 (H1 : ∀b,s.ok g aE w b->b2.ok hc (k2 aE a9) w b)
 (KK : ∀r k o b m,s.aj r k=some o->bO o.cS=true->(∀j i,a9 j i≠some (r,k))->aE r k=some (b,m)->b2.ok hc (k2 aE a9) w b) :
 jE hc b2 (k2 aE a9) w/\ ∀ {x dc:aC} {v:Value},je s a9 bO q x dc->Rel w (s.ok g aE w) s.bd (s.bj aE) x v->Rel w (b2.ok hc (k2 aE a9) w) b2.bd (b2.bj (k2 aE a9)) dc v:=by
 have fL : ∀ {x dc:aC} {v:Value},je s a9 bO q x dc->Rel w (s.ok g aE w) s.bd (s.bj aE) x v->Rel w (b2.ok hc (k2 aE a9) w) b2.bd (b2.bj (k2 aE a9)) dc v :=
  fun bG ai=>bG.rel er (fun x v _ af ai=>ai.pure af H1) KK (fun j i r k aq hu=>⟨h.bd j i r k aq hu,h.Ki aq⟩) ai
 refine⟨⟨?_,?_,?_,aX,ajA,halt,F8,zI⟩,fL⟩
 ·intro j k cl eV
  obtain⟨r,eD,o,e1,e2,bJ⟩:=h.aj eV;have bo:=er.obj r eD o e2;rw[CY e1]
  cases af:aE r eD with
  | none =>
   rw[af] at bo;simp only[ke] at bo ⊢;apply dM.1;rw[bJ.len,bo];rfl
  | some q =>
   obtain⟨b,m⟩:=q;rw[af] at bo;obtain⟨c,fl,h1,h2,J,ak⟩:=bo;have kR:cl.es.flatten.length=o.es.flatten.length:=(by rw[uA _ bJ.each,uA _ J,bJ.len]);refine⟨c,fl,h1,h2,by rw[bJ.sz];exact bJ.each,fun i dc eC=> ?_⟩;have ez:i<o.es.flatten.length:=(by rw[<- kR];exact gm eC);have U:=dz ez;obtain⟨u,f1,f2,f3⟩:=ak i _ U;exact⟨u,f1,f2,fL (bJ.at_ i _ dc U eC) f3⟩
 ·intro j k o js eD cl b m aI h1 h2 J ak;obtain⟨r,l2,p,e1,e2,-⟩:=h.aj h1;obtain⟨fA,akf,lR,oD,rA,-⟩:=h.aj h2;rw[CY e1] at J;rw[CY oD] at ak;obtain⟨rfl,rfl⟩:=er.inj r l2 p fA akf lR b m aI e2 rA J ak;exact h.inj _ _ _ _ _ e1 oD
 intro j k o b m h1 h2;obtain⟨r,l2,p,e1,e2,-⟩:=h.aj h1;rw[CY e1] at h2;exact Ob r l2 p b m ⟨j,k,e1⟩ e2 h2
theorem c7.V0 {a:Act}(h:c7 g s aE a w)(da:sj s a9 (fun _=>true) q b2.aY)(eB:∀t,je s a9 (fun _=>true) q (s.E t) (b2.E t))(GB:∀j k,g.qM j k->a9 j k=some (j,k)):c7 g b2 (k2 aE a9) a w:=by
 have hx : ∀b,b2.nz (k2 aE a9) b->s.nz aE b:=fun b aT=>by obtain⟨r,k,o,m,h1,h2,J,-⟩:=da.live b aT;exact⟨r,k,o,m,h1,h2,J⟩
 have F8 : ∀j k,g.qM j k->b2.bd j k/\(b2.bj (k2 aE a9) j k=g.t0 j k\/b2.bj (k2 aE a9) j k=none):=by
  intro j k aq;obtain⟨e1,e2⟩:=h.stay j k aq;refine⟨da.bd j k j k (GB j k aq) e1,?_⟩;rcases da.Ki (aE:=aE) (GB j k aq) with e|e
  ·rw[e];exact e2
  exact .inr e
 obtain⟨h1,h2⟩:=h.tojE.PB da h.ik F8 h.low h.mlt h.o5 (fun r k o b m _ an af=>h.own r k o b m an af)
  (fun b aW=>⟨aW.1,aW.2.1,fun aT=>aW.2.2 (hx b aT)⟩)
  (fun r k o b m an _ ai af=>by
    have bo:=h.obj r k o an;rw[af] at bo;obtain⟨c,fl,e1,-⟩:=bo;refine⟨(aom.1 e1).1,?_,fun aT=> ?_⟩
    ·rcases h.own r k o b m an af with e|e
     ·exact .inr (.inl e)
     exact .inr (.inr e)
    obtain⟨fA,eD,cl,aI,f1,f2,f3,⟨DT,HF,f4⟩⟩:=da.live b aT;obtain⟨rfl,rfl⟩:=h.inj r k o fA eD cl b m aI an f1 af f3;exact ai DT HF f4)
 exact {tojE:=h1,env:=fun t=>h2 (eB t) (h.env t),defers:=h.defers,k1:=h.k1}
end
def fT (T:List (List a1)):S:={E:=fun _=> .dead,aY:=fun r=>T[r]?}
def ai2 (P:Program)(f:FuncId)(args:List aC)(T:List (List a1))(r:aC)(ir:List (List a1)):Prop :=
 ∀(g:G) (aE:gw) (w:World) (vs:Array Value),g.nL=w->g.m=T.length->g.qM=(fT T).bd->g.t0=(fT T).bj aE->jE g (fT T) aE w->vs.size=args.length ->
  (∀(j:Nat) x v,args[j]? = some x->vs[j]? = some v->Rel w ((fT T).ok g aE w) (fT T).bd ((fT T).bj aE) x v) ->
  Calls P f vs w fun e bQ=> ∃v bX,e = .returned v/\jE g (fT ir) bX bQ/\Rel bQ ((fT ir).ok g bX bQ) (fT ir).bd ((fT ir).bj bX) r v
inductive bU:aC->Prop
 | dead:bU .dead
 | b (x:Bool):bU (.b x)
 | n (k:IntKind) (x:Int):bU (.n k x)
 | s (x:ByteArray):bU (.s x)
 | jO:bU .jO
 | e8:bU .e8
 | jR:bU .jR
 | lv (sz:Nat):bU (.isl sz [])
 | ref (r k i off:Nat):bU (.ref r k i off)
 | bu (r k bL len:Nat):bU (.bu r k bL len)
 | j9 (r c sz:Nat) (h:Option (Nat×Nat)):bU (.j9 r c sz h)
 | agg {c:List aC} (h : ∀x∈c,bU x):bU (.agg c)
 | dg {c:List aC} (h : ∀x∈c,bU x):bU (.dg c)
theorem ai3:Down bU:=⟨fun _ _ h U=>by cases h with|agg h=>exact h _ U,fun _ _ h U=>by cases h with|dg h=>exact h _ U,fun _ _ _ h=>by cases h⟩
theorem Rel.fm {w bQ:World}{ok mw:Nat->Prop}{bd oA:kt}{bj nZ:kn}{x:aC}(bG:bU x): ∀ {v:Value},Pure x->Rel w ok bd bj x v->Rel bQ mw oA nZ x v:=by
 induction bG with
 | dead=>intro v _ h;exact .dead v
 | b x=>intro v _ h;rw[h.xk];exact .b x
 | n k x=>intro v _ h;rw[h.pZ];exact .n k x
 | s x=>intro v _ h;rw[h.C8];exact .s x
 | jO=>intro v _ h;rw[h.yR];exact .jO
 | e8=>intro v _ h;rw[h.rV];exact .e8
 | jR=>intro v _ h;obtain⟨a,c,rfl⟩:=h.Jc;exact .jR a c
 | lv sz =>
  intro v _ h;rcases h.vO with ⟨-,a,c,rfl,bF⟩|⟨e7,off,c,-,rfl,-⟩
  ·exact .lv sz a c bF
  exact .lv sz _ c (fun h=>by simp at h)
 | ref=>intro v af;cases af
 | bu=>intro v af;cases af
 | j9=>intro v af;cases af
 | @agg c aZ ih =>
  intro v af h;obtain⟨vs,rfl,h1,h2,J⟩:=h.CM
  cases af with
  | agg af=>exact .agg vs h1 h2 fun j x u U hu=>ih x (dH U) (af x (dH U)) (J j x u U hu)
 | @dg c aZ ih =>
  intro v af h;obtain⟨vs,rfl,h1,J⟩:=h.CN
  cases af with
  | dg af=>exact .dg vs h1 fun j x u U hu=>ih x (dH U) (af x (dH U)) (J j x u U hu)
section
variable {P:Program} {g:G} {s:S} {aE:gw} {a:Act} {w:World}
theorem FV (h:jE g s aE w){r k b m:Nat}{o:a1}(an:s.aj r k=some o)(af:aE r k=some (b,m)):b<w.heap.size:=by have:=h.obj r k o an;rw[af] at this;obtain⟨c,fl,e,-⟩:=this;exact(aom.1 e).1
theorem aih (h:jE g s aE w){r k b m:Nat}{o:a1}(an:s.aj r k=some o)(aX:o.cS = .ka)(af:aE r k=some (b,m)):s.ok g aE w b:=by
 refine⟨FV h an af,?_,?_⟩
 ·rcases h.own r k o b m an af with e|e
  ·exact .inr (.inl e)
  exact .inr (.inr e)
 rintro⟨fA,eD,cl,aI,h1,h2,J⟩;obtain⟨rfl,rfl⟩:=h.inj r k o fA eD cl b m aI an h1 af J;rw[an] at h1;simp at h1;subst h1;rw[aX] at h2;simp at h2
theorem enter (h:jE g s aE w){a9:ic}{bO:hp->Bool}{q:aC->Prop}{T:List (List a1)}(A:Nat->Prop)
 (hA : ∀b,A b->b<w.heap.size) (OJ : ∀b,s.ok g aE w b->A b)
 (OK : ∀r k o b m,s.aj r k=some o->bO o.cS=true->aE r k=some (b,m)->A b)
 (da:sj s a9 bO q (fT T).aY) (r5 : ∀r k o,(∃j i,a9 j i=some (r,k))->s.aj r k=some o->o.cS = .live) :
 ∃hc:G,hc.nL=w/\hc.A=A/\hc.m=T.length/\hc.qM=(fT T).bd/\hc.t0=(fT T).bj (k2 aE a9) /\
  (hc.rF=fun b=> ∃r k o m,(∃j i,a9 j i=some (r,k))/\s.aj r k=some o/\aE r k=some (b,m))/\jE hc (fT T) (k2 aE a9) w /\
  ∀ {x dc:aC} {v:Value},je s a9 bO q x dc->Rel w (s.ok g aE w) s.bd (s.bj aE) x v->Rel w ((fT T).ok hc (k2 aE a9) w) (fT T).bd ((fT T).bj (k2 aE a9)) dc v:=by
 let hc:G:={nL:=w,A:=A,rF:=fun b=> ∃r k o m,(∃j i,a9 j i=some (r,k))/\s.aj r k=some o/\aE r k=some (b,m),N:=0,m:=T.length,qM:=(fT T).bd,t0:=(fT T).bj (k2 aE a9)}
 refine⟨hc,rfl,rfl,rfl,rfl,rfl,rfl,?_⟩;have hx : ∀b,(fT T).nz (k2 aE a9) b-> ∃r k o m,s.aj r k=some o/\o.cS = .live/\aE r k=some (b,m)/\ ∃j i,a9 j i=some (r,k):=fun b aT=>da.live b aT;refine jE.PB (b2:=fT T) (hc:=hc) h da ⟨rfl,rfl,rfl,dE _,fun _ _ _=>rfl⟩ (fun j k aq=>⟨aq,.inl rfl⟩) ?_ ?_ hA ?_ ?_ ?_
 ·intro j k aq
  have aq:k<((T[j]?).getD []).length:=aq;rcases Nat.lt_or_ge j T.length with h1|h1
  ·exact h1
  rw[aoe h1] at aq;simp at aq
 ·rintro b ⟨r,k,o,m,-,an,af⟩;exact FV h an af
 ·intro r k o b m hm an af;exact .inr ⟨r,k,o,m,hm,an,af⟩
 ·intro b aW;refine⟨aW.1,.inl (OJ b aW),fun aT=> ?_⟩;obtain⟨r,k,o,m,h1,h2,J,-⟩:=hx b aT;exact aW.2.2 ⟨r,k,o,m,h1,h2,J⟩
 intro r k o b m an bF ai af;refine⟨FV h an af,.inl (OK r k o b m an bF af),fun aT=> ?_⟩;obtain⟨fA,eD,cl,aI,h1,h2,J,⟨j,i,aq⟩⟩:=hx b aT;obtain⟨rfl,rfl⟩:=h.inj r k o fA eD cl b m aI an h1 af J;exact ai j i aq
theorem leave (h:c7 g s aE a w){bQ:World}{a9 mn:ic}{bO:hp->Bool}{q0 q:aC->Prop}{hc:G}{T fV:List (List a1)}{mz:gw}
 (dm:hc.nL=w) (hA:(∀b,hc.A b->s.ok g aE w b)\/(∀x,q x->bU x)) (zS:hc.qM=(fT T).bd) (m1:hc.t0=(fT T).bj (k2 aE a9))
 (er:hc.rF=fun b=> ∃r k o m,(∃j i,a9 j i=some (r,k))/\s.aj r k=some o/\aE r k=some (b,m))
 (r5 : ∀r k o,(∃j i,a9 j i=some (r,k))->s.aj r k=some o->o.cS = .live)
 (da:sj s a9 bO q0 (fT T).aY) (h1:jE hc (fT fV) mz bQ)
 (F9 : ∀j i r k,a9 j i=some (r,k)->mn r k=some (j,i)) (JR : ∀r k j i,mn r k=some (j,i)->a9 j i=some (r,k)\/ ¬s.bd r k)
 (ajB : ∀r k fA eD p,mn r k=some p->mn fA eD=some p->r=fA/\k=eD)
 {s2:S} (eB:s2.E=s.E)
 (bo : ∀r k o,s2.aj r k=some o->(∃j i p,mn r k=some (j,i)/\(fT fV).aj j i=some p/\qd (fT fV) mn (fun _=>false) q p o)\/(mn r k=none/\s.aj r k=some o))
 (kD : ∀r k,s.bd r k->s2.bd r k) (ajC : ∀r k j i,mn r k=some (j,i)->(fT fV).bd j i->s2.bd r k)
 {x dc:aC} {v:Value} (U:je (fT fV) mn (fun _=>false) q x dc) (bf:Rel bQ ((fT fV).ok hc mz bQ) (fT fV).bd ((fT fV).bj mz) x v) :
 ∃nd,c7 g s2 nd a bQ/\Rel bQ (s2.ok g nd bQ) s2.bd (s2.bj nd) dc v:=by
 let nd:gw:=fun r k=>match mn r k with|some (j,i)=>mz j i|none=>aE r k
 have p1 : ∀r k j i,mn r k=some (j,i)->nd r k=mz j i:=fun r k j i e=>by simp[nd,e]
 have p2 : ∀r k,mn r k=none->nd r k=aE r k:=fun r k e=>by simp[nd,e]
 have aX:=h1.ik;have fF:w.heap.size<=bQ.heap.size:=by have:=aX.size;rw[dm] at this;exact this
 have wc : ∀b,b<w.heap.size-> ¬hc.rF b->bQ.heap[b]? = w.heap[b]? := fun b aW lz=>by have:=aX.block b (by rw[dm];exact aW) lz;rw[dm] at this;exact this
 have Kj : ∀j k p b m,(fT fV).aj j k=some p->mz j k=some (b,m)->w.heap.size<=b\/ ∃r eD o aI,(∃j i,a9 j i=some (r,eD))/\s.aj r eD=some o/\aE r eD=some (b,aI):=by
  intro j k p b m af aW;rcases h1.own j k p b m af aW with e|e
  ·rw[dm] at e;exact .inl e
  rw[er] at e;exact .inr e
 have hold : ∀q k o b m,mn q k=none->s.aj q k=some o->aE q k=some (b,m)->b<w.heap.size/\ ¬hc.rF b:=by intro q k o b m a0 an af;refine⟨FV h.tojE an af,fun lz=> ?_⟩;rw[er] at lz;obtain⟨r,eD,cl,aI,⟨j,i,ai⟩,eV,mK⟩:=lz;obtain⟨rfl,rfl⟩:=h.inj q k o r eD cl b m aI an eV af mK;rw[F9 _ _ _ _ ai] at a0;simp at a0
 have Wz : ∀b,s2.nz nd b->(fT fV).nz mz b\/(∃q k o m,mn q k=none/\s.aj q k=some o/\o.cS = .live/\aE q k=some (b,m)):=by
  rintro b ⟨q,k,o,m,an,oE,af⟩;rcases bo q k o an with ⟨j,i,p,e1,e2,bJ⟩|⟨e1,e2⟩
  ·rw[p1 _ _ _ _ e1] at af;exact .inl ⟨j,i,p,m,e2,VZ bJ oE,af⟩
  rw[p2 _ _ e1] at af;exact .inr ⟨q,k,o,m,e1,e2,oE,af⟩
 have lK : ∀b,s.ok g aE w b->s2.ok g nd bQ b:=by
  intro b aW;refine⟨Nat.lt_of_lt_of_le aW.1 fF,aW.2.1,fun aT=> ?_⟩;rcases Wz b aT with ⟨j,k,p,m,e1,e2,bJ⟩|⟨q,k,o,m,e1,e2,bJ,c1⟩
  ·rcases Kj j k p b m e1 bJ with e|⟨r,eD,o,aI,ai,an,af⟩
   ·have:=aW.1;omega
   exact aW.2.2 ⟨r,eD,o,aI,an,r5 r eD o ai an,af⟩
  exact aW.2.2 ⟨q,k,o,m,e2,bJ,c1⟩
 have Xx : ∀r k,s.bd r k->s2.bj nd r k=s.bj aE r k\/s2.bj nd r k=none:=by
  intro r k ai
  cases an:s2.aj r k with
  | none=>right;simp[S.bj,an]
  | some o =>
   left;rcases bo r k o an with ⟨j,i,p,e1,e2,bJ⟩|⟨e1,e2⟩;rotate_left
   ·rw[jh an,jh e2,p2 _ _ e1]
   rcases JR r k j i e1 with aq|aq
   ·have m3:=(h1.stay j i (by rw[zS];exact da.bd _ _ _ _ aq ai)).2
    rw[m1,jh e2] at m3
    have m3:some (p.sz,mz j i)=(fT T).bj (k2 aE a9) j i:=by
     rcases m3 with e|e
     ·exact e
     simp at e
    have:=da.Ki (b2:=fT T) (aE:=aE) aq;rw[<- m3] at this;rw[jh an,bJ.sz,p1 _ _ _ _ e1];rcases this with e|e
    ·exact e
    simp at e
   exact absurd ai aq
 have ai4 : ∀b,s.ok g aE w b->bQ.heap[b]? = w.heap[b]? := by intro b aW;refine wc b aW.1 fun lz=> ?_;rw[er] at lz;obtain⟨r,eD,o,aI,ai,an,af⟩:=lz;exact aW.2.2 ⟨r,eD,o,aI,an,r5 r eD o ai an,af⟩
 have fL : ∀ {y:aC} {u:Value},Rel w (s.ok g aE w) s.bd (s.bj aE) y u->Rel bQ (s2.ok g nd bQ) s2.bd (s2.bj nd) y u :=
  fun ai=>ai.mono lK ai4 kD Xx
 have ajD:(∀b,hc.A b->s.ok g aE w b)-> ∀b,(fT fV).ok hc mz bQ b->s2.ok g nd bQ b:=by
  intro hA b aW
  have Ob:g.A b\/g.nL.heap.size<=b\/g.rF b:=by
   rcases aW.2.1 with e|e|e
   ·exact(hA b e).2.1
   ·rw[dm] at e;exact .inr (.inl (Nat.le_trans h.ik.size e))
   rw[er] at e;obtain⟨r,k,o,m,-,an,af⟩:=e;rcases h.own r k o b m an af with e|e
   ·exact .inr (.inl e)
   exact .inr (.inr e)
  refine⟨aW.1,Ob,fun aT=> ?_⟩;rcases Wz b aT with e|⟨q,k,o,m,e1,e2,bJ,c1⟩
  ·exact aW.2.2 e
  have a0:=hold q k o b m e1 e2 c1;rcases aW.2.1 with e|e|e
  ·exact(hA b e).2.2 ⟨q,k,o,m,e2,bJ,c1⟩
  ·rw[dm] at e;omega
  exact a0.2 e
 have W9 : ∀ {y nM:aC} {u:Value},je (fT fV) mn (fun _=>false) q y nM->Rel bQ ((fT fV).ok hc mz bQ) (fT fV).bd ((fT fV).bj mz) y u->Rel bQ (s2.ok g nd bQ) s2.bd (s2.bj nd) nM u:=by
  intro y nM u bG ai;refine bG.rel h1 (fun x v a0 af ai=> ?_) (fun _ _ _ _ _ _ bF _ _=>by simp at bF) ?_ ai
  ·rcases hA with hA|hA
   ·exact ai.pure af (ajD hA)
   exact ai.fm (hA x a0) af
  intro r k j i a0 aq;refine⟨ajC r k j i a0 aq,?_⟩
  cases an:s2.aj r k with
  | none=>right;simp[S.bj,an]
  | some o =>
   left;rcases bo r k o an with ⟨js,fs,p,e1,e2,bJ⟩|⟨e1,-⟩
   ·rw[a0] at e1;simp only[dB,dF] at e1;obtain⟨rfl,rfl⟩:=e1;rw[jh an,jh e2,bJ.sz,p1 _ _ _ _ a0]
   rw[a0] at e1;simp at e1
 refine⟨nd,{tojE:=⟨?_,?_,?_,?_,h.mlt,h.o5,?_,h.low⟩,env:=fun t=>by rw[eB];exact fL (h.env t),defers:=h.defers,k1:=h.k1},W9 U bf⟩
 ·intro q k o an
  rcases bo q k o an with ⟨j,i,p,e1,e2,bJ⟩|⟨e1,e2⟩
  ·have af:=h1.obj j i p e2
   rw[p1 _ _ _ _ e1]
   cases lZ:mz j i with
   | none =>
    rw[lZ] at af;simp only[ke] at af ⊢;apply dM.1;rw[bJ.len,af];rfl
   | some wQ =>
    obtain⟨b,m⟩:=wQ;rw[lZ] at af;obtain⟨c,fl,f1,f2,f3,f4⟩:=af;have kR:o.es.flatten.length=p.es.flatten.length:=(by rw[uA _ bJ.each,uA _ f3,bJ.len]);refine⟨c,fl,f1,f2,by rw[bJ.sz];exact bJ.each,fun i dc eC=> ?_⟩;have ez:i<p.es.flatten.length:=(by rw[<- kR];exact gm eC);have kk:=dz ez;obtain⟨u,ku,nf,iA⟩:=f4 i _ kk;exact⟨u,ku,nf,W9 (bJ.at_ i _ dc kk eC) iA⟩
  have af:=h.obj q k o e2;rw[p2 _ _ e1]
  cases lZ:aE q k with
  | none=>rw[lZ] at af;exact af
  | some wQ =>
   obtain⟨b,m⟩:=wQ;rw[lZ] at af;obtain⟨c,fl,f1,f2,f3,f4⟩:=af;obtain⟨xA,OL⟩:=hold q k o b m e1 e2 lZ;refine⟨c,fl,(wc b xA OL).trans f1,f2,f3,fun i dc eC=> ?_⟩;obtain⟨u,ku,nf,iA⟩:=f4 i dc eC;exact⟨u,ku,nf,fL iA⟩
 ·intro q k o jd eD cl b m aI h2 J ak au
  rcases bo q k o h2 with ⟨j,i,p,e1,e2,bJ⟩|⟨e1,e2⟩<;>rcases bo jd eD cl J with ⟨js,fs,lR,oD,rA,xz⟩|⟨oD,rA⟩
  ·rw[p1 _ _ _ _ e1] at ak;rw[p1 _ _ _ _ oD] at au;obtain⟨rfl,rfl⟩:=h1.inj j i p js fs lR b m aI e2 rA ak au;exact ajB _ _ _ _ _ e1 oD
  ·rw[p1 _ _ _ _ e1] at ak;rw[p2 _ _ oD] at au
   obtain⟨f1,f2⟩:=hold jd eD cl b aI oD rA au;rcases Kj j i p b m e2 ak with e|e
   ·omega
   exact absurd (by rw[er];exact e) f2
  ·rw[p2 _ _ e1] at ak;rw[p1 _ _ _ _ oD] at au
   obtain⟨f1,f2⟩:=hold q k o b m e1 e2 ak;rcases Kj js fs lR b aI rA au with e|e
   ·omega
   exact absurd (by rw[er];exact e) f2
  rw[p2 _ _ e1] at ak;rw[p2 _ _ oD] at au;exact h.inj q k o jd eD cl b m aI e2 rA ak au
 ·intro q k o b m h2 ak
  rcases bo q k o h2 with ⟨j,i,p,e1,e2,bJ⟩|⟨e1,e2⟩
  ·rw[p1 _ _ _ _ e1] at ak
   rcases Kj j i p b m e2 ak with e|⟨r,eD,cl,aI,ai,an,af⟩
   ·exact .inl (Nat.le_trans h.ik.size e)
   exact h.own r eD cl b aI an af
  rw[p2 _ _ e1] at ak;exact h.own q k o b m e2 ak
 ·have e1:=aX.os;have e2:=aX.tape;have bJ:=aX.output
  rw[dm] at e1 e2 bJ;refine h.ik.step e1 e2 bJ fF fun b aW pF=>wc b (Nat.lt_of_lt_of_le aW h.ik.size) fun lz=> ?_;rw[er] at lz;obtain⟨r,k,o,m,-,an,af⟩:=lz;rcases h.own r k o b m an af with e|e
  ·omega
  exact pF e
 intro j k aq;obtain⟨e1,e2⟩:=h.stay j k aq;refine⟨kD j k e1,?_⟩;rcases Xx j k e1 with e|e
 ·rw[e];exact e2
 exact .inr e
def mg (a b n:Nat):aC->aC
 | .ref r k i off=>if r=a then .ref b (n+k) i off else .ref r k i off
 | .bu r k bL len=>if r=a then .bu b (n+k) bL len else .bu r k bL len
 | .j9 r c sz h=>if r=a then .j9 b (n+c) sz h else .j9 r c sz h
 | .agg c=> .agg (Dx c)
 | .dg c=> .dg (Dx c)
 | x=>x
where Dx:List aC->List aC
 | []=>[]
 | x::l=>mg a b n x::Dx l
def n5 (a b n:Nat)(o:a1):a1:={o with es:=o.es.map fun e=>e.map (mg a b n)}
def tU (o:a1):a1:=⟨0,[],.gone⟩
theorem Jv (a b n:Nat): ∀l:List aC,mg.Dx a b n l=l.map (mg a b n)
 | []=>rfl
 | x::l=>by rw[mg.Dx,Jv a b n l];rfl
theorem lX (l:List a1)(k:Nat):d6 (some l) k=(l[k]?).bind fun o=>if o.cS = .gone then none else some o:=by unfold d6;cases h:l[k]? <;> simp[h]
theorem map_flatten {es:List (List aC)}(f:aC->aC):(es.map fun e=>e.map f).flatten=es.flatten.map f:=by
 induction es with
 | nil=>rfl
 | cons e es ih=>rw[List.map_cons,aof,aof,List.map_append,ih]
theorem c7.merge (h:c7 g s aE a w){r fA:Nat}{l hI:List a1}(ai:s.aY r=some l)(i6:s.aY fA=some hI)(dd:fA≠r):
 ∃bX,c7 g ((s.setRow fA (hI.map tU)).setRow r (l++hI.map (n5 fA r l.length))) bX a w /\
  ∀x v,Rel w (s.ok g aE w) s.bd (s.bj aE) x v->Rel w (((s.setRow fA (hI.map tU)).setRow r (l++hI.map (n5 fA r l.length))).ok g bX w)
   ((s.setRow fA (hI.map tU)).setRow r (l++hI.map (n5 fA r l.length))).bd (((s.setRow fA (hI.map tU)).setRow r (l++hI.map (n5 fA r l.length))).bj bX) (mg fA r l.length x) v:=by
 generalize wv:(s.setRow fA (hI.map tU)).setRow r (l++hI.map (n5 fA r l.length))=s2
 let bX:gw:=fun q k=>if q=r/\l.length<=k then aE fA (k-l.length) else aE q k
 have bo : ∀q k o,s2.aj q k=some o->(q=r/\l.length<=k/\ ∃p,s.aj fA (k-l.length)=some p/\o=n5 fA r l.length p/\bX q k=aE fA (k-l.length)) \/
  (q≠fA/\s.aj q k=some o/\bX q k=aE q k/\ ¬(q=r/\l.length<=k)):=by
  intro q k o an;subst wv;rw[nj] at an;by_cases e:q=r;rotate_left
  ·rw[dA e,nj] at an
   by_cases e2:q=fA
   ·subst e2
    rw[dw rfl,lX,dK] at an
    cases af:hI[k]? with
    | none=>rw[af] at an;simp at an
    | some p=>rw[af] at an;simp[tU] at an
   rw[dA e2] at an;exact .inr ⟨e2,an,by simp[bX,e],fun gX=>e gX.1⟩
  subst e;rw[dw rfl] at an;by_cases aX:l.length<=k
  ·left
   refine⟨rfl,aX,?_⟩;rw[lX,aon aX,dK] at an
   cases af:hI[k-l.length]? with
   | none=>rw[af] at an;simp at an
   | some p =>
    rw[af] at an;simp only[dR,dx] at an;split at an
    ·simp at an
    rename_i dm;simp only[dB] at an;refine⟨p,?_,an.symm,by simp[bX,aX]⟩;unfold S.aj;rw[i6,lX,af,dx,dA (by simpa [n5] using dm)]
  right;refine⟨Ne.symm dd,?_,by simp[bX,aX],fun gX=>aX gX.2⟩;unfold S.aj;rw[ai,lX];rw[lX,aoj (by omega)] at an;exact an
 have kD : ∀q k,s.bd q k->s2.bd q k:=by
  intro q k a0;subst wv;rw[oR];by_cases e:q=r
  ·subst e;rw[dw rfl];simp[S.bd,ai] at a0;simp;omega
  rw[dA e,oR];by_cases e2:q=fA
  ·subst e2;rw[dw rfl];simpa [S.bd,i6] using a0
  rw[dA e2];exact a0
 have GC : ∀k,s.bd fA k->s2.bd r (l.length+k):=by intro k a0;subst wv;rw[oR,dw rfl];simp[S.bd,i6] at a0;simp;omega
 have GD : ∀k,s2.bj bX r (l.length+k)=s.bj aE fA k:=by
  intro k;subst wv;simp only[S.bj];rw[nj,dw rfl];unfold S.aj;rw[i6,lX,lX,aon (by omega),dK,show l.length+k-l.length=k by omega]
  cases af:hI[k]? with
  | none=>simp
  | some p =>
   simp only[dR,dx];by_cases dm:p.cS = .gone
   ·rw[dw dm,dw (by simpa [n5] using dm)];rfl
   rw[dA dm,dA (by simpa [n5] using dm)];simp[bX,n5]
 have m1 : ∀q k,s.bd q k->s2.bj bX q k=s.bj aE q k\/s2.bj bX q k=none:=by
  intro q k a0
  cases an:s2.aj q k with
  | none=>right;simp[S.bj,an]
  | some o =>
   left;rcases bo q k o an with ⟨rfl,e2,-⟩|⟨-,e2,bJ,-⟩
   ·simp[S.bd,ai] at a0;omega
   rw[jh an,jh e2,bJ]
 have r5 : ∀b,s2.nz bX b->s.nz aE b:=by
  rintro b ⟨q,k,o,m,h1,h2,J⟩;rcases bo q k o h1 with ⟨-,-,p,e1,e2,bJ⟩|⟨-,e1,e2,-⟩
  ·rw[bJ] at J;subst e2;exact⟨fA,_,p,m,e1,h2,J⟩
  rw[e2] at J;exact⟨q,k,o,m,e1,h2,J⟩
 have c8:Step g s aE w s2 bX w:=⟨kD,m1,fun b aT=> .inl (r5 b aT),fun _ _ _=>rfl,dE _⟩
 have GX : ∀x v,Rel w (s.ok g aE w) s.bd (s.bj aE) x v->Rel w (s2.ok g bX w) s2.bd (s2.bj bX) (mg fA r l.length x) v:=by
  intro x v m6
  induction m6 with
  | dead v=>exact .dead v
  | b x=>exact .b x
  | n k x=>exact .n k x
  | s x=>exact .s x
  | jO=>exact .jO
  | e8=>exact .e8
  | jR a c=>exact .jR a c
  | @rW r1 k i off a hu gX =>
   unfold mg;split
   ·rename_i e;subst e;exact .rW a (GC k hu) (by rw[GD];exact gX)
   exact c8.rel (.rW a hu gX)
  | @ref r1 k i off sz e7 m hu gX =>
   unfold mg;split
   ·rename_i e;subst e;exact .ref (GC k hu) (by rw[GD];exact gX)
   exact c8.rel (.ref hu gX)
  | @oU r1 k bL len a bh cp hu gX =>
   unfold mg;split
   ·rename_i e;subst e;exact .oU a bh cp (GC k hu) (by rw[GD];exact gX)
   exact c8.rel (.oU a bh cp hu gX)
  | @pk r1 k sz hu gX =>
   unfold mg;split
   ·rename_i e;subst e;exact .pk (GC k hu) (by rw[GD];exact gX)
   exact c8.rel (.pk hu gX)
  | @bu r1 k bL len sz e7 m c a hu gX aT aZ m4 =>
   unfold mg;split
   ·rename_i e;subst e;exact .bu (GC k hu) (by rw[GD];exact gX) aT aZ m4
   exact c8.rel (.bu hu gX aT aZ m4)
  | @ou r1 c sz v h0 ih =>
   unfold mg;split
   ·exact .ou (c8.rel h0)
   exact c8.rel (.ou h0)
  | @py r1 c sz k n v h0 ih =>
   unfold mg;split
   ·rename_i e;subst e;unfold mg at ih;rw[dw rfl] at ih;exact .py (by rw[show k+(l.length+c)=l.length+(k+c) by omega];exact ih)
   exact c8.rel (.py h0)
  | lv sz a c h=>exact .lv sz a c h
  | isl cs aW af aT aZ hw jq m6 ih=>exact c8.rel (.isl cs aW af aT aZ hw jq m6)
  | fO cs aW af aT hw jq m6 ih=>exact c8.rel (.fO cs aW af aT hw jq m6)
  | rr sz=>exact .rr sz
  | qG h0 ih=>exact c8.rel (.qG h0)
  | agg vs aT jq m6 ih =>
   unfold mg;rw[Jv];refine .agg vs (by simpa using aT) jq fun j x v U bf=> ?_;rw[dK,dO] at U;obtain⟨y,aV,rfl⟩:=U;exact ih j y v aV bf
  | dg vs aT m6 ih =>
   unfold mg;rw[Jv];refine .dg vs (by simpa using aT) fun j x v U bf=> ?_;rw[dK,dO] at U;obtain⟨y,aV,rfl⟩:=U;exact ih j y v aV bf
  | fn vs aT m6 ih=>exact c8.rel (.fn vs aT m6)
 refine⟨bX,{tojE:=⟨?_,?_,?_,h.ik,h.mlt,h.o5,?_,h.low⟩,env:=fun t=>by rw[show s2.E=s.E by rw[<- wv];rfl];exact c8.rel (h.env t),defers:=h.defers,k1:=h.k1},GX⟩
 ·intro q k o an
  rcases bo q k o an with ⟨-,-,p,e1,e2,bJ⟩|⟨-,e1,e2,-⟩;rotate_left
  ·rw[e2];exact c8.obj (fun b m _=>rfl) (h.obj q k o e1)
  rw[bJ];subst e2;have af:=h.obj fA _ p e1
  cases lZ:aE fA (k-l.length) with
  | none=>rw[lZ] at af;simp only[ke] at af ⊢;simp[n5,af]
  | some wQ =>
   obtain⟨b,m⟩:=wQ;rw[lZ] at af;obtain⟨c,fl,f1,f2,f3,f4⟩:=af;refine⟨c,fl,f1,f2,?_,fun j x U=> ?_⟩
   ·intro e he;simp only[n5,List.mem_map] at he;obtain⟨fb,nG,rfl⟩:=he;simpa [n5] using f3 fb nG
   simp only[n5] at U;rw[map_flatten,dK,dO] at U;obtain⟨y,aV,rfl⟩:=U;obtain⟨u,ku,nf,iA⟩:=f4 j y aV;exact⟨u,ku,nf,GX y u iA⟩
 ·intro q k o q1 l2 bR b m aI h1 h2 J ak
  rcases bo q k o h1 with ⟨rfl,f1,p,e1,e2,bJ⟩|⟨f1,e1,e2,f2⟩<;>rcases bo q1 l2 bR h2 with ⟨rfl,Dy,lR,oD,rA,xz⟩|⟨Dy,oD,rA,ane⟩
  ·rw[bJ] at J;rw[xz] at ak;obtain⟨-,e⟩:=h.inj _ _ _ _ _ _ b m aI e1 oD J ak;exact⟨rfl,by omega⟩
  ·rw[bJ] at J;rw[rA] at ak;obtain⟨e,-⟩:=h.inj _ _ _ _ _ _ b m aI e1 oD J ak;exact absurd e.symm Dy
  ·rw[e2] at J;rw[xz] at ak;obtain⟨e,-⟩:=h.inj _ _ _ _ _ _ b m aI e1 oD J ak;exact absurd e f1
  rw[e2] at J;rw[rA] at ak;exact h.inj _ _ _ _ _ _ b m aI e1 oD J ak
 ·intro q k o b m h1 h2
  rcases bo q k o h1 with ⟨-,-,p,e1,e2,bJ⟩|⟨-,e1,e2,-⟩
  ·rw[bJ] at h2;exact h.own fA _ p b m e1 h2
  rw[e2] at h2;exact h.own q k o b m e1 h2
 exact c8.stay h.stay
end
def aC.jM:aC->Bool
 | .dead | .b _ | .n .. | .s _ | .jO | .e8 | .jR | .isl .. | .fO .. | .gk .. => true
 | _=>false
def aC.FW:aC->Bool
 | .agg c=>c.all aC.jM
 | .fn _ c=>c.all aC.jM
 | x=>x.jM
def aC.Xa:aC->Bool
 | .dg c=>c.all aC.FW
 | x=>x.FW
section
variable {w:World} {ok:Nat->Prop} {bd:kt} {bj:kn}
theorem Rel.C9 {x:aC}{v:Value}(h:Rel w ok bd bj x v)(aS:x.jM=true):Pure x:=by
 cases h with
 | dead=>exact .dead
 | b=>exact .b _
 | n=>exact .n _ _
 | s=>exact .s _
 | jO=>exact .jO
 | e8=>exact .e8
 | jR=>exact .jR
 | lv=>exact .isl (by simp)
 | isl cs aW af=>exact .isl af
 | fO cs aW af=>exact .fO af
 | rr sz=>exact .rr sz
 | qG h=>cases h with|fO cs aW af=>exact .qG fun x U=>af _ (List.mem_singleton.2 rfl) x U
 | _=>simp[aC.jM] at aS
theorem Uh {c:List aC}{vs:List Value}(aT:vs.length=c.length)(ai:∀(j:Nat) x u,c[j]? = some x->vs[j]? = some u->Rel w ok bd bj x u)
 (aS:c.all aC.jM=true) : ∀x∈c,Pure x:=by
 intro x U;obtain⟨j,aq⟩:=aor U;have ez:j<vs.length:=by have:=gm aq;omega
 exact(ai j x _ aq (dz ez)).C9 (List.all_eq_true.1 aS x U)
theorem Rel.JH {x:aC}{v:Value}(h:Rel w ok bd bj x v)(aS:x.FW=true):Pure x:=by
 cases h with
 | agg vs aT aZ ai=>exact .agg (Uh aT ai aS)
 | fn vs aT ai=>exact .fn (Uh aT ai aS)
 | dead=>exact .dead
 | b=>exact .b _
 | n=>exact .n _ _
 | s=>exact .s _
 | jO=>exact .jO
 | e8=>exact .e8
 | jR=>exact .jR
 | lv=>exact .isl (by simp)
 | isl cs aW af=>exact .isl af
 | fO cs aW af=>exact .fO af
 | rr sz=>exact .rr sz
 | qG h=>cases h with|fO cs aW af=>exact .qG fun x U=>af _ (List.mem_singleton.2 rfl) x U
 | _=>simp[aC.FW,aC.jM] at aS
theorem Rel.ai5 {x:aC}{v:Value}(h:Rel w ok bd bj x v)(aS:x.Xa=true):Pure x:=by
 by_cases cj : ∃c,x = .dg c
 ·obtain⟨c,rfl⟩:=cj;obtain⟨vs,rfl,aT,ai⟩:=h.CN;refine .dg fun x U=> ?_;obtain⟨j,aq⟩:=aor U;have ez:j<vs.length:=(by have:=gm aq;omega);exact(ai j x _ aq (dz ez)).JH (List.all_eq_true.1 aS x U)
 refine h.JH ?_;cases x<;>first|exact aS|exact absurd ⟨_,rfl⟩ cj
end
def cu:List Nat->Nat->Option Nat
 | [],_=>none
 | x::l,r=>if x=r then some 0 else (cu l r).map (· + 1)
theorem Ui : ∀ {l:List Nat} {r j:Nat},cu l r=some j->l[j]? = some r
 | x::l,r,j,h=>by
  unfold cu at h;split at h
  ·simp at h;subst h;simp[*]
  rw[dO] at h;obtain⟨i,aa,rfl⟩:=h;simpa using Ui aa
theorem Uj : ∀ {l:List Nat} {r j:Nat},l.Nodup->l[j]? = some r->cu l r=some j
 | x::l,r,j,aS,h=>by
  rw[List.nodup_cons] at aS;unfold cu
  cases j with
  | zero=>simp at h;simp[h]
  | succ j =>
   simp at h;have:x≠r:=(by rintro rfl;exact aS.1 (dH h));rw[dA this,Uj aS.2 h];rfl
def GY (eA:Nat)(kC:List a1)(bO:hp->Bool)(x dc:aC):Prop :=
 (dc=x/\x.jM=true)\/(∃c sz,x = .j9 eA c sz none/\dc = .isl sz [])\/ ∃k bL len o,(x = .bu eA k bL len\/ ∃c sz kv,k=kv+c/\bL=0/\x = .j9 eA c sz (some (kv,len)))/\d6 (some kC) k=some o/\bO o.cS=true/\bL+len<=o.es.length /\
   jL ((o.es.drop bL).take len)/\dc = .isl o.sz ((o.es.drop bL).take len)
def HG (eA:Nat)(kC:List a1)(bO:hp->Bool)(sz:Nat)(es hD:List (List aC)):Prop :=
 hD.length=es.length/\(∀e∈hD,e.length=sz)/\ ∀(j:Nat) x dc,es.flatten[j]? = some x->hD.flatten[j]? = some dc->GY eA kC bO x dc
def nl (aY:Nat->Option (List a1))(cm:Nat->Option Nat)(a9:ic)(bO:hp->Bool):us->aC->Option (aC×List Prop)
 | .id,x=>if x.jM then some (x,[]) else
  match x with
  | .ref r k i off=>match cm r with
   | some j=>some (.ref j k i off,[])
   | none=>none
  | .bu r k bL len=>match cm r with
   | some j=>some (.bu j k bL len,[])
   | none=>none
  | .j9 r c sz h=>match cm r with
   | some j=>some (.j9 j c sz h,[])
   | none=>none
  | _=>none
 | .fv sz,.e8=>some (.isl sz [],[])
 | .fv sz,.jR=>some (.isl sz [],[])
 | .el hD,.bu r k bL len=>match d6 (aY r) k with
  | some o=>if bO o.cS && (cm r).isNone then some (.isl o.sz hD,[hD=(o.es.drop bL).take len,bL+len<=o.es.length,jL hD]) else none
  | none=>none
 | .kJ,_=>some (.dead,[])
 | .cv y,x=>if x.jM then some (y,[x=y]) else none
 | .len n,.bu r k bL len=>match cm r with
  | some j=>some (.bu j k bL n,[len=n])
  | none=>none
 | .rG sz,x=>match x with
  | .jO=>some (.gk sz none,[])
  | .fO Kc [c] 0 0=>if Kc=sz then some (.gk sz (some c),[]) else none
  | _=>none
 | .at_ j i n,.bu r k bL len=>some (.bu j i bL n,[a9 j i=some (r,k),len=n])
 | .at_ j i _,.ref r k x y=>some (.ref j i x y,[a9 j i=some (r,k)])
 | .view eA o hD,.bu r k bL len=>match aY r,aY eA with
  | some row,some kC=>if (cm r).isNone && (cm eA).isNone then
   some (.isl o.sz hD,[d6 (some row) k=some o,bO o.cS=true,bL+len<=o.es.length,jL hD,HG eA kC bO o.sz ((o.es.drop bL).take len) hD]) else none
  | _,_=>none
 | _,_=>none
def nm {α β:Type}(f:α->β->Option (β×List Prop)):List α->List β->Option (List β×List Prop)
 | [],[]=>some ([],[])
 | a::l,b::m=>match f a b,nm f l m with
  | some (ll,bR),some (aI,aL)=>some (ll::aI,bR++aL)
  | _,_=>none
 | _,_=>none
def p3 (aY:Nat->Option (List a1))(cm:Nat->Option Nat)(a9:ic)(bO:hp->Bool):DR->aC->Option (aC×List Prop)
 | .bY c,x=>if x.FW then (match c with | .id=>some (x,[]) | .kJ=>some (.dead,[]) | .cv y=>some (y,[x=y])|c=>nl aY cm a9 bO c x) else nl aY cm a9 bO c x
 | .agg l,.agg c=>match nm (nl aY cm a9 bO) l c with
  | some (eQ,aj)=>some (.agg eQ,aj)
  | none=>none
 | .ptr l,.ref r k i off=>match d6 (aY r) k with
  | some o=>match o.es with
   | [c]=>if bO o.cS && (cm r).isNone then
    match nm (nl aY cm a9 bO) l c with
    | some (eQ,aj)=>some (.fO o.sz [eQ] i off,aj++[jL [eQ]])
    | none=>none
    else none
   | _=>none
  | none=>none
 | .we l,x=>match x with
  | .ref r k 0 0=>match d6 (aY r) k with
   | some o=>match o.es with
    | [c]=>if bO o.cS && (cm r).isNone then
     match nm (nl aY cm a9 bO) l c with
     | some (eQ,aj)=>some (.gk o.sz (some eQ),aj++[jL [eQ]])
     | none=>none
     else none
    | _=>none
   | none=>none
  | _=>none
 | _,_=>none
def pq (aY:Nat->Option (List a1))(cm:Nat->Option Nat)(a9:ic)(bO:hp->Bool):mQ->aC->Option (aC×List Prop)
 | .bh c,x=>if x.Xa then (match c with | .bY .id=>some (x,[])|c=>p3 aY cm a9 bO c x) else p3 aY cm a9 bO c x
 | .comp l,.dg c=>match nm (p3 aY cm a9 bO) l c with
  | some (eQ,aj)=>some (.dg eQ,aj)
  | none=>none
 | .comp l,.fn f c=>match nm (p3 aY cm a9 bO) l c with
  | some (eQ,aj)=>some (.fn f eQ,aj)
  | none=>none
 | _,_=>none
def w9 (row:List a1):Prop:= ∀o∈row,jL o.es/\o.cS = .live
def pr (row:List a1):Prop:= ∀o∈row,o.cS = .live\/o.cS = .gone
def pG (cm:Nat->Option Nat):aC->aC
 | .ref r k i off=>match cm r with|some j=> .ref j k i off|none=> .dead
 | .bu r k bL len=>match cm r with|some j=> .bu j k bL len|none=> .dead
 | .j9 r c sz h=>match cm r with|some j=> .j9 j c sz h|none=> .dead
 | x=>if x.jM then x else .dead
def kE (cm:Nat->Option Nat)(o:a1):a1:={o with es:=o.es.map fun e=>e.map (pG cm)}
def kq (aY:Nat->Option (List a1))(cm:Nat->Option Nat)(a9:ic)(bO:hp->Bool):jJ->List a1->Option (List a1×List Prop)
 | .pure,row=>some (row,[w9 row])
 | .cv e3,row=>some (e3,[row=e3,w9 e3])
 | .bw e3,row=>some (e3,[e3=row.map (kE cm),pr row])
 | .box l,[o]=>match o.es with
  | [c]=>if o.cS = .live then match nm (nl aY cm a9 bO) l c with
   | some (eQ,aj)=>some ([{o with es:=[eQ]}],aj)
   | none=>none
   else none
  | _=>none
 | _,_=>none
structure wR (q:aC->Prop) (bO:hp->Bool):Prop extends Down q where
 all : ∀k,bO k=true-> ∀x,q x
theorem xB (bO:hp->Bool):wR nJ bO:={toDown:=ai1,all:=fun _ _ _=>trivial}
theorem akg:wR bU (fun _=>false):={toDown:=ai3,all:=fun _ h=>by simp at h}
structure ol (s:S) (a9:ic) (cm:Nat->Option Nat) (bO:hp->Bool):Prop where
 aa : ∀r j,cm r=some j-> ∀k,a9 j k=some (r,k)
 aS : ∀r,cm r=none-> ∀k o,s.aj r k=some o->bO o.cS=true-> ∀j i,a9 j i≠some (r,k)
section
variable {g:G} {s:S} {aE:gw} {w:World} {a9:ic} {cm:Nat->Option Nat} {bO:hp->Bool} {q:aC->Prop}
theorem IY {α β:Type}(f:α->β->Option (β×List Prop)): ∀(l:List α) (m aI:List β) (aj:List Prop),nm f l m=some (aI,aj) ->
 aI.length=m.length/\l.length=m.length/\ ∀(j:Nat) b ll,m[j]? = some b->aI[j]? = some ll-> ∃x cl,l[j]? = some x/\f x b=some (ll,cl)/\ ∀p∈cl,p∈aj
 | [],[],aI,aj,h=>by simp[nm] at h;obtain⟨rfl,rfl⟩:=h;exact⟨rfl,rfl,fun j b ll aW=>by simp at aW⟩
 | [],_::_,_,_,h=>by simp[nm] at h
 | _::_,[],_,_,h=>by simp[nm] at h
 | x::l,b::m,aI,aj,h=>by
  simp only[nm] at h;split at h
  ·rename_i ll bR iz aL h1 h2
   simp only[dB,dF] at h;obtain⟨rfl,rfl⟩:=h;obtain⟨e1,e2,bJ⟩:=IY f l m iz aL h2;refine⟨by simp[e1],by simp[e2],fun j c eQ aZ u1=> ?_⟩
   cases j with
   | zero =>
    simp at aZ u1;subst aZ;subst u1;exact⟨x,bR,rfl,h1,fun p af=>by simp[af]⟩
   | succ j =>
    simp at aZ u1;obtain⟨y,cl,f1,f2,f3⟩:=bJ j c eQ aZ u1;exact⟨y,cl,by simpa using f1,f2,fun p af=>by simp[f3 p af]⟩
  simp at h
theorem MV (er:jE g s aE w)(H:ol s a9 cm bO)(bC:wR q bO){c:us}{x dc:aC}{aj:List Prop}(h:nl s.aY cm a9 bO c x=some (dc,aj))(bo:∀p∈aj,p)
 (a0:q x) {v:Value} (ai:Rel w (s.ok g aE w) s.bd (s.bj aE) x v):je s a9 bO q x dc:=by
 have kD : ∀ {r k bL len:Nat},x = .bu r k bL len->s.bd r k:=by intro r k bL len e;subst e;cases ai<;>assumption
 cases c with
 | id =>
  simp only[nl] at h;split at h
  ·rename_i aS;simp only[dB,dF] at h;obtain⟨rfl,rfl⟩:=h;exact .pure (ai.C9 aS) a0
  split at h
  ·rename_i r k i off _
   split at h
   ·rename_i j aq;simp only[dB,dF] at h;obtain⟨rfl,rfl⟩:=h;exact .ref i off (H.aa r j aq k) (by cases ai<;>assumption)
   simp at h
  ·rename_i r k bL len _
   split at h
   ·rename_i j aq;simp only[dB,dF] at h;obtain⟨rfl,rfl⟩:=h;exact .bu bL len (H.aa r j aq k) (kD rfl)
   simp at h
  ·rename_i r c sz gX _
   split at h
   ·rename_i j aq;simp only[dB,dF] at h;obtain⟨rfl,rfl⟩:=h;exact .j9 gX (fun k=>H.aa r j aq _)
   simp at h
  simp at h
 | fv sz =>
  cases x<;>simp[nl] at h
  ·obtain⟨rfl,rfl⟩:=h;exact .e8 sz
  obtain⟨rfl,rfl⟩:=h;exact .jR sz
 | el hD =>
  cases x<;>simp only[nl,reduceCtorEq] at h;rename_i r k bL len;split at h;rotate_left
  ·simp at h
  rename_i o an;split at h;rotate_left
  ·simp at h
  rename_i aZ;simp only[dQ,Option.isNone_iff_eq_none] at aZ;simp only[dB,dF] at h;obtain⟨rfl,rfl⟩:=h;have h1:hD=(o.es.drop bL).take len:=bo _ (by simp);have h2:bL+len<=o.es.length:=bo _ (by simp);have J:jL hD:=bo _ (by simp);have eV:s.aj r k=some o:=an
  have hlen : ∀e∈o.es,e.length=o.sz:=by
   have gH:=er.obj r k o eV
   cases af:aE r k with
   | none=>rw[af] at gH;simp only[ke] at gH;rw[gH];simp
   | some q=>rw[af] at gH;obtain⟨_,_,_,_,e,_⟩:=gH;exact e
  refine .isl eV aZ.1 (H.aS r aZ.2 k o eV aZ.1) h2 J ?_ ?_ ?_
  ·rw[h1];exact fun e he=>hlen e (List.mem_of_mem_drop (List.mem_of_mem_take he))
  ·rw[h1];simp;omega
  intro j y nM aV pH;rw[h1] at pH;rw[aV] at pH;simp at pH;subst pH;rw[h1] at J;obtain⟨e,he,GZ⟩:=vx aV;exact .pure (J e he y GZ) (bC.all _ aZ.1 y)
 | kJ =>
  simp only[nl,dB,dF] at h;obtain⟨rfl,rfl⟩:=h;exact .dead x
 | cv y =>
  simp only[nl] at h;split at h
  ·rename_i aS;simp only[dB,dF] at h;obtain⟨rfl,rfl⟩:=h;have e:x=y:=bo _ (by simp);subst e;exact .pure (ai.C9 aS) a0
  simp at h
 | len n =>
  cases x<;>simp only[nl,reduceCtorEq] at h;rename_i r k bL len;split at h
  ·rename_i j aq;simp only[dB,dF] at h;obtain⟨rfl,rfl⟩:=h;have e:len=n:=bo _ (by simp);subst e;exact .bu bL len (H.aa r j aq k) (kD rfl)
  simp at h
 | at_ j i n =>
  cases x<;>simp only[nl,reduceCtorEq] at h
  ·rename_i r k x y;simp only[dB,dF] at h;obtain⟨rfl,rfl⟩:=h;exact .ref x y (bo _ (List.mem_cons_self)) (by cases ai<;>assumption)
  rename_i r k bL len;simp only[dB,dF] at h;obtain⟨rfl,rfl⟩:=h;have e:len=n:=bo _ (by simp);subst e;exact .bu bL len (bo _ (List.mem_cons_self)) (kD rfl)
 | view eA o hD =>
  cases x<;>simp only[nl,reduceCtorEq] at h;rename_i r k bL len;split at h;rotate_left
  ·simp at h
  rename_i row kC d4 ai6;split at h;rotate_left
  ·simp at h
  rename_i aZ;simp only[dQ,Option.isNone_iff_eq_none] at aZ;simp only[dB,dF] at h;obtain⟨rfl,rfl⟩:=h;have h1:d6 (some row) k=some o:=bo _ (by simp);have h2:bO o.cS=true:=bo _ (by simp);have J:bL+len<=o.es.length:=bo _ (by simp);have ak:jL hD:=bo _ (by simp);have au:HG eA kC bO o.sz ((o.es.drop bL).take len) hD:=bo _ (by simp);have eV:s.aj r k=some o:=(by unfold S.aj;rw[d4];exact h1);obtain⟨d1,d2,d3⟩:=au;refine .isl eV h2 (H.aS r aZ.1 k o eV h2) J ak d2 (by rw[d1];simp;omega) fun j y nM aV pH=> ?_;rcases d3 j y nM aV pH with ⟨rfl,aS⟩|⟨cp,X3,rfl,rfl⟩|⟨jt,Kk,JS,p,ud,e1,e2,bJ,c1,rfl⟩
  ·obtain⟨e,he,GZ⟩:=vx pH;exact .pure (ak e he nM GZ) (bC.all _ h2 _)
  ·exact .ou _ _ _
  have mK:s.aj eA jt=some p:=by unfold S.aj;rw[ai6];exact e1
  have hlen : ∀e∈p.es,e.length=p.sz:=by
   have gH:=er.obj eA jt p mK
   cases af:aE eA jt with
   | none=>rw[af] at gH;simp only[ke] at gH;rw[gH];simp
   | some q=>rw[af] at gH;obtain⟨_,_,_,_,e,_⟩:=gH;exact e
  have Xb:je s a9 bO q (.bu eA jt Kk JS) (.isl p.sz ((p.es.drop Kk).take JS)):=(by refine .isl mK e2 (H.aS eA aZ.2 jt p mK e2) bJ c1 (fun e he=>hlen e (List.mem_of_mem_drop (List.mem_of_mem_take he))) (by simp;omega) fun j z anY cA u5=> ?_;rw[cA] at u5;simp at u5;subst u5;obtain⟨e,he,akh⟩:=vx cA;exact .pure (c1 e he z akh) (bC.all _ e2 _));rcases ud with rfl|⟨bY,anf,kv,rfl,rfl,rfl⟩
  ·exact Xb
  exact .py Xb
 | rG sz =>
  simp only[nl] at h;split at h
  ·simp only[dB,dF] at h;obtain⟨rfl,rfl⟩:=h;exact .JG _
  ·split at h
   ·rename_i e;subst e;simp only[dB,dF] at h;obtain⟨rfl,rfl⟩:=h;exact .gk (.pure (ai.C9 rfl) a0)
   simp at h
  simp at h
theorem Fw (er:jE g s aE w)(H:ol s a9 cm bO)(bC:wR q bO){l:List us}{c eQ:List aC}{aj:List Prop}(h:nm (nl s.aY cm a9 bO) l c=some (eQ,aj))(bo:∀p∈aj,p)
 (a0 : ∀x∈c,q x) {vs:List Value} (aT:vs.length=c.length) (ai : ∀(j:Nat) x u,c[j]? = some x->vs[j]? = some u->Rel w (s.ok g aE w) s.bd (s.bj aE) x u) :
 eQ.length=c.length/\ ∀(j:Nat) x dc,c[j]? = some x->eQ[j]? = some dc->je s a9 bO q x dc:=by
 obtain⟨e1,e2,bJ⟩:=IY _ l c eQ aj h;refine⟨e1,fun j x dc U eC=> ?_⟩;obtain⟨y,cl,f1,f2,f3⟩:=bJ j x dc U eC;have ez:j<vs.length:=by have:=gm U;omega
 exact MV er H bC f2 (fun p af=>bo p (f3 p af)) (a0 x (dH U)) (ai j x _ U (dz ez))
theorem MW (er:jE g s aE w)(H:ol s a9 cm bO)(bC:wR q bO){c:DR}{x dc:aC}{aj:List Prop}(h:p3 s.aY cm a9 bO c x=some (dc,aj))(bo:∀p∈aj,p)
 (a0:q x) {v:Value} (ai:Rel w (s.ok g aE w) s.bd (s.bj aE) x v):je s a9 bO q x dc:=by
 cases c with
 | bY c =>
  simp only[p3] at h;split at h;rotate_left
  ·exact MV er H bC h bo a0 ai
  rename_i aS;split at h
  ·simp only[dB,dF] at h;obtain⟨rfl,rfl⟩:=h;exact .pure (ai.JH aS) a0
  ·simp only[dB,dF] at h;obtain⟨rfl,rfl⟩:=h;exact .dead _
  ·simp only[dB,dF] at h;obtain⟨rfl,rfl⟩:=h;have e:=bo _ (List.mem_singleton.2 rfl);subst e;exact .pure (ai.JH aS) a0
  exact MV er H bC h bo a0 ai
 | agg l =>
  cases x<;>simp only[p3,reduceCtorEq] at h;rename_i c;split at h
  ·rename_i eQ o9 aZ;simp only[dB,dF] at h;obtain⟨rfl,rfl⟩:=h;obtain⟨vs,rfl,aT,-,G0⟩:=ai.CM;obtain⟨e1,e2⟩:=Fw er H bC aZ bo (fun y aV=>bC.agg _ _ a0 aV) aT G0;exact .agg e1 e2
  simp at h
 | ptr l =>
  cases x<;>simp only[p3,reduceCtorEq] at h;rename_i r k i off;split at h;rotate_left
  ·simp at h
  rename_i o an;split at h;rotate_left
  ·simp at h
  rename_i c i5;split at h;rotate_left
  ·simp at h
  rename_i aZ;simp only[dQ,Option.isNone_iff_eq_none] at aZ;split at h;rotate_left
  ·simp at h
  rename_i eQ o9 jq;simp only[dB,dF] at h;obtain⟨rfl,rfl⟩:=h;have eV:s.aj r k=some o:=an;have gH:=er.obj r k o eV
  cases af:aE r k with
  | none=>rw[af] at gH;simp only[ke] at gH;rw[i5] at gH;simp at gH
  | some q =>
   obtain⟨b,m⟩:=q;rw[af] at gH;obtain⟨cH,fl,g1,g2,g3,g4⟩:=gH;have Oc:c.length=o.sz:=g3 c (by rw[i5];simp);have kR:o.es.flatten=c:=(by rw[i5];simp);have hcs : ∀j:Nat,j<c.length-> ∃u,cH[j]? = some u/\Rel w (s.ok g aE w) s.bd (s.bj aE) c[j]! u:=(by intro j aq;obtain⟨u,ku,-,iA⟩:=g4 j c[j] (by rw[kR];exact dz aq);exact⟨u,ku,by rw[getElem!_pos c j aq];exact iA⟩);obtain⟨e1,e2⟩:=Fw (vs:=(List.range c.length).map fun j=>(cH[j]?).getD undef) er H bC jq (fun p af=>bo p (by simp[af])) (fun y _=>bC.all _ aZ.1 y) (by simp) (by intro j y u aV hu;have aq:=gm aV;rw[dK,List.getElem?_range aq] at hu;simp only[dR,dB] at hu;obtain⟨mT,ku,iA⟩:=hcs j aq;rw[ku] at hu;simp at hu;subst hu;rw[dz aq] at aV;simp at aV;subst aV;rw[getElem!_pos c j aq] at iA;exact iA);have vY:jL [eQ]:=bo _ (by simp);refine .fO i off eV aZ.1 (H.aS r aZ.2 k o eV aZ.1) (by rw[i5];simp) vY (by simp;omega) (by rw[i5];rfl) ?_;intro j y nM aV pH;rw[kR] at aV;simp only[aof,List.flatten_nil,List.append_nil] at pH;exact e2 j y nM aV pH
 | we l =>
  simp only[p3] at h;split at h;rotate_left
  ·simp at h
  rename_i r k;split at h;rotate_left
  ·simp at h
  rename_i o an;split at h;rotate_left
  ·simp at h
  rename_i c i5;split at h;rotate_left
  ·simp at h
  rename_i aZ;simp only[dQ,Option.isNone_iff_eq_none] at aZ;split at h;rotate_left
  ·simp at h
  rename_i eQ o9 jq;simp only[dB,dF] at h;obtain⟨rfl,rfl⟩:=h;have eV:s.aj r k=some o:=an;have gH:=er.obj r k o eV
  cases af:aE r k with
  | none=>rw[af] at gH;simp only[ke] at gH;rw[i5] at gH;simp at gH
  | some q =>
   obtain⟨b,m⟩:=q;rw[af] at gH;obtain⟨cH,fl,g1,g2,g3,g4⟩:=gH;have Oc:c.length=o.sz:=g3 c (by rw[i5];simp);have kR:o.es.flatten=c:=(by rw[i5];simp);have hcs : ∀j:Nat,j<c.length-> ∃u,cH[j]? = some u/\Rel w (s.ok g aE w) s.bd (s.bj aE) c[j]! u:=(by intro j aq;obtain⟨u,ku,-,iA⟩:=g4 j c[j] (by rw[kR];exact dz aq);exact⟨u,ku,by rw[getElem!_pos c j aq];exact iA⟩);obtain⟨e1,e2⟩:=Fw (vs:=(List.range c.length).map fun j=>(cH[j]?).getD undef) er H bC jq (fun p af=>bo p (by simp[af])) (fun y _=>bC.all _ aZ.1 y) (by simp) (by intro j y u aV hu;have aq:=gm aV;rw[dK,List.getElem?_range aq] at hu;simp only[dR,dB] at hu;obtain⟨mT,ku,iA⟩:=hcs j aq;rw[ku] at hu;simp at hu;subst hu;rw[dz aq] at aV;simp at aV;subst aV;rw[getElem!_pos c j aq] at iA;exact iA);have vY:jL [eQ]:=bo _ (by simp);refine .gk (.fO 0 0 eV aZ.1 (H.aS r aZ.2 k o eV aZ.1) (by rw[i5];simp) vY (by simp;omega) (by rw[i5];rfl) ?_);intro j y nM aV pH;rw[kR] at aV;simp only[aof,List.flatten_nil,List.append_nil] at pH;exact e2 j y nM aV pH
theorem FC (er:jE g s aE w)(H:ol s a9 cm bO)(bC:wR q bO){c:mQ}{x dc:aC}{aj:List Prop}(h:pq s.aY cm a9 bO c x=some (dc,aj))(bo:∀p∈aj,p)
 (a0:q x) {v:Value} (ai:Rel w (s.ok g aE w) s.bd (s.bj aE) x v):je s a9 bO q x dc:=by
 have key : ∀(l:List DR) (c eQ:List aC) (o9:List Prop) (vs:List Value),nm (p3 s.aY cm a9 bO) l c=some (eQ,o9)->(∀p∈o9,p)->(∀x∈c,q x)->vs.length=c.length ->
  (∀(j:Nat) x u,c[j]? = some x->vs[j]? = some u->Rel w (s.ok g aE w) s.bd (s.bj aE) x u)->eQ.length=c.length/\ ∀(j:Nat) x dc,c[j]? = some x->eQ[j]? = some dc->je s a9 bO q x dc:=by
  intro l c eQ o9 vs h bo a0 aT ai;obtain⟨e1,e2,bJ⟩:=IY _ l c eQ o9 h;refine⟨e1,fun j x dc U eC=> ?_⟩;obtain⟨y,cl,f1,f2,f3⟩:=bJ j x dc U eC;have ez:j<vs.length:=(by have:=gm U;omega);exact MW er H bC f2 (fun p af=>bo p (f3 p af)) (a0 x (dH U)) (ai j x _ U (dz ez))
 cases c with
 | bh c =>
  simp only[pq] at h;split at h
  ·rename_i aS
   split at h
   ·simp only[dB,dF] at h;obtain⟨rfl,rfl⟩:=h;exact .pure (ai.ai5 aS) a0
   exact MW er H bC h bo a0 ai
  exact MW er H bC h bo a0 ai
 | comp l =>
  cases x<;>simp only[pq,reduceCtorEq] at h
  ·rename_i c
   split at h
   ·rename_i eQ o9 aZ;simp only[dB,dF] at h;obtain⟨rfl,rfl⟩:=h;obtain⟨vs,rfl,aT,G0⟩:=ai.CN;obtain⟨e1,e2⟩:=key l c eQ o9 vs aZ bo (fun y aV=>bC.dg _ _ a0 aV) aT G0;exact .dg e1 e2
   simp at h
  rename_i f c;split at h
  ·rename_i eQ o9 aZ;simp only[dB,dF] at h;obtain⟨rfl,rfl⟩:=h;obtain⟨vs,rfl,aT,G0⟩:=ai.Ju;obtain⟨e1,e2⟩:=key l c eQ o9 vs aZ bo (fun y aV=>bC.fn _ _ _ a0 aV) aT G0;exact .fn e1 e2
  simp at h
theorem Xc (er:jE g s aE w)(H:ol s a9 cm bO){r:Nat}{lF:Nat->Nat}{row:List a1}(d4:∀k o,d6 (some row) k=some o->s.aj r (lF k)=some o)
 (a0 : ∀k o,d6 (some row) k=some o-> ∀e∈o.es,∀x∈e,q x) :
 ∀(k:Nat) cl,d6 (some (row.map (kE cm))) k=some cl-> ∃o,d6 (some row) k=some o/\qd s a9 bO q o cl:=by
 intro k cl eV;rw[lX,dK] at eV
 cases aX:row[k]? with
 | none=>rw[aX] at eV;simp at eV
 | some o =>
  rw[aX] at eV;simp only[dR,dx] at eV;split at eV
  ·simp at eV
  rename_i dm;simp only[dB] at eV;subst eV;have an:d6 (some row) k=some o:=(by rw[lX,aX,dx,dA (by simpa [kE] using dm)]);have bG:s.aj r (lF k)=some o:=d4 k o an;refine⟨o,an,?_⟩;have gH:=er.obj r (lF k) o bG
  have hlen : ∀e∈o.es,e.length=o.sz:=by
   cases af:aE r (lF k) with
   | none=>rw[af] at gH;simp only[ke] at gH;rw[gH];simp
   | some q=>rw[af] at gH;obtain⟨_,_,_,_,e,_⟩:=gH;exact e
  refine⟨rfl,.inl rfl,by simp[kE],?_,fun j x dc U eC=> ?_⟩
  ·intro e he;simp only[kE,List.mem_map] at he;obtain⟨fb,nG,rfl⟩:=he;simpa using hlen fb nG
  simp only[kE] at eC;rw[map_flatten,dK,U] at eC;simp only[dR,dB] at eC;subst eC;obtain⟨e,he,te⟩:=vx U;have aki:=a0 k o an e he x te
  cases af:aE r (lF k) with
  | none=>rw[af] at gH;simp only[ke] at gH;rw[gH] at U;simp at U
  | some wQ =>
   obtain⟨b,m⟩:=wQ;rw[af] at gH;obtain⟨c,fl,f1,f2,f3,f4⟩:=gH;obtain⟨u,ku,nf,iA⟩:=f4 j x U
   cases x with
   | ref r2 jt i2 ajE =>
    cases cj:cm r2 with
    | none=>simp only[pG,cj];exact .dead _
    | some Aj=>simp only[pG,cj];exact .ref i2 ajE (H.aa _ _ cj _) (by cases iA<;>assumption)
   | bu r2 jt Kk JS =>
    cases cj:cm r2 with
    | none=>simp only[pG,cj];exact .dead _
    | some Aj=>simp only[pG,cj];exact .bu Kk JS (H.aa _ _ cj _) (by cases iA<;>assumption)
   | j9 r2 cp X3 h2 =>
    cases cj:cm r2 with
    | none=>simp only[pG,cj];exact .dead _
    | some Aj=>simp only[pG,cj];exact .j9 h2 (fun k=>H.aa _ _ cj _)
   | _ =>
    simp only[pG];split
    ·rename_i aS;exact .pure (iA.C9 aS) aki
    exact .dead _
theorem IZ (er:jE g s aE w)(H:ol s a9 cm bO)(bC:wR q bO){c:jJ}{r:Nat}{lF:Nat->Nat}{row e3:List a1}{aj:List Prop}(d4:∀k o,d6 (some row) k=some o->s.aj r (lF k)=some o)
 (h:kq s.aY cm a9 bO c row=some (e3,aj)) (bo : ∀p∈aj,p) (a0 : ∀k o,d6 (some row) k=some o-> ∀e∈o.es,∀x∈e,q x) :
 e3.length=row.length/\(∀k o,d6 (some row) k=some o->o.cS = .live) /\
 ∀(k:Nat) cl,d6 (some e3) k=some cl-> ∃o,d6 (some row) k=some o/\qd s a9 bO q o cl:=by
 have hlen : ∀k o,d6 (some row) k=some o-> ∀e∈o.es,e.length=o.sz:=by
  intro k o an;have eV:s.aj r (lF k)=some o:=d4 k o an;have gH:=er.obj r (lF k) o eV
  cases af:aE r (lF k) with
  | none=>rw[af] at gH;simp only[ke] at gH;rw[gH];simp
  | some q=>rw[af] at gH;obtain⟨_,_,_,_,e,_⟩:=gH;exact e
 have vY:w9 row->(∀k o,d6 (some row) k=some o->o.cS = .live) /\
  ∀(k:Nat) cl,d6 (some row) k=some cl-> ∃o,d6 (some row) k=some o/\qd s a9 bO q o cl:=by
  intro af
  have s8 : ∀k o,d6 (some row) k=some o->o∈row:=by
   intro k o an;unfold d6 at an;simp only at an;split at an
   ·rename_i cl eV
    split at an
    ·simp at an
    simp at an;subst an;exact dH eV
   simp at an
  refine⟨fun k o an=>(af o (s8 k o an)).2,fun k o an=>⟨o,an,rfl,.inl rfl,rfl,hlen k o an,fun j x dc U eC=> ?_⟩⟩;rw[U] at eC;simp at eC;subst eC;obtain⟨e,he,te⟩:=vx U;exact .pure ((af o (s8 k o an)).1 e he x te) (a0 k o an e he x te)
 cases c with
 | pure =>
  simp only[kq,dB,dF] at h;obtain⟨rfl,rfl⟩:=h;exact⟨rfl,vY (bo _ (by simp))⟩
 | cv aK =>
  simp only[kq,dB,dF] at h;obtain⟨rfl,rfl⟩:=h;have e:row=aK:=bo _ (by simp);subst e;exact⟨rfl,vY (bo _ (by simp))⟩
 | bw aK =>
  simp only[kq,dB,dF] at h;obtain⟨rfl,rfl⟩:=h;have e:aK=row.map (kE cm):=bo _ (by simp);have OM:pr row:=bo _ (by simp);subst e
  refine⟨by simp,fun k o an=>by
   unfold d6 at an;simp only at an;split at an
   ·rename_i cl eV
    split at an
    ·simp at an
    rename_i dm;simp at an;subst an;exact(OM _ (dH eV)).resolve_right dm
   simp at an,Xc er H d4 a0⟩
 | rx aK=>cases row with
  | nil=>simp[kq] at h
  | cons o l=>cases l<;>simp[kq] at h
 | drop=>cases row with
  | nil=>simp[kq] at h
  | cons o l=>cases l<;>simp[kq] at h
 | box l =>
  match row,h with
  | [o],h =>
   simp only[kq] at h;split at h;rotate_left
   ·simp at h
   rename_i c i5;split at h;rotate_left
   ·simp at h
   rename_i oE;split at h;rotate_left
   ·simp at h
   rename_i eQ o9 aZ;simp only[dB,dF] at h;obtain⟨rfl,rfl⟩:=h;have h0:d6 (some [o]) 0=some o:=(by rw[nR];simp[oE]);refine⟨rfl,fun k p af=> ?_,fun k p af=> ?_⟩
   ·rw[nR] at af
    split at af
    ·simp at af;subst af;exact oE
    simp at af
   rw[nR] at af;split at af;rotate_left
   ·simp at af
   rename_i wx;obtain⟨rfl,-⟩:=wx;simp only[dB] at af;subst af;refine⟨o,h0,?_⟩;have eV:s.aj r (lF 0)=some o:=d4 0 o h0;have gH:=er.obj r (lF 0) o eV
   cases lZ:aE r (lF 0) with
   | none=>rw[lZ] at gH;simp only[ke] at gH;rw[i5] at gH;simp at gH
   | some q =>
    obtain⟨b,m⟩:=q;rw[lZ] at gH;obtain⟨cH,fl,g1,g2,g3,g4⟩:=gH;have Oc:c.length=o.sz:=g3 c (by rw[i5];simp);have kR:o.es.flatten=c:=(by rw[i5];simp);obtain⟨e1,e2⟩:=Fw (vs:=(List.range c.length).map fun j=>(cH[j]?).getD undef) er H bC aZ bo (fun y aV=>a0 0 o h0 c (by rw[i5];simp) y aV) (by simp) (by intro j y u aV hu;have aq:=gm aV;rw[dK,List.getElem?_range aq] at hu;simp only[dR,dB] at hu;obtain⟨mT,ku,-,iA⟩:=g4 j y (by rw[kR];exact aV);rw[ku] at hu;simp at hu;subst hu;exact iA);refine⟨rfl,.inl rfl,by simp[i5],by simp;omega,fun j x dc U eC=> ?_⟩;rw[kR] at U;simp only[aof,List.flatten_nil,List.append_nil] at eC;exact e2 j x dc U eC
  | [],h=>simp[kq] at h
  | _::_::_,h=>simp[kq] at h
end
def I0 (P:Program)(f:FuncId):Prop:= ∃fn,P.funcs[f]? = some fn/\(fn.name == "runtime.NumGoroutine")=false/\fn.body.isSome=true
def Con (P:Program)(f:FuncId)(args:List aC)(T:List (List a1))(r:aC)(ir:List (List a1)):Prop:=I0 P f/\ai2 P f args T r ir
def vZ (k:hp):Bool:=k = .ka
def me (_:hp):Bool:=true
def mu (_:hp):Bool:=false
def Src.r:Src->Nat
 | .row r=>r
 | .aj r _ _=>r
def Src.has:Src->Nat->Nat->Prop
 | .row r,q,_=>q=r
 | .aj r k _,q,eD=>q=r/\eD=k
def Src.lS:Src->Nat->Nat
 | .row _,k=>k
 | .aj ..,_=>0
def mh (l:List Src):ic:=fun j i=>match l[j]? with
 | some (.row r)=>some (r,i)
 | some (.aj r k _)=>if i=0 then some (r,k) else none
 | none=>none
def qH (n:Nat):List Src->Nat->Option Nat
 | [],_=>none
 | .row r::l,q=>if r=q then some n else qH (n+1) l q
 | .aj .. :: l,q=>qH (n+1) l q
def kF (n:Nat):List Src->ic
 | [],_,_=>none
 | .row r::l,q,k=>if q=r then some (n,k) else kF (n+1) l q k
 | .aj r eD _::l,q,k=>if q=r/\k=eD then some (n,0) else kF (n+1) l q k
def v5 (l:List Src):Nat->Option Nat:=fun j=>match l[j]? with
 | some (.row r)=>some r
 | _=>none
def apart:Src->Src->Option (List Prop)
 | .aj r k _,.aj fA eD _=>if r=fA then some [k≠eD] else some []
 | a,b=>if a.r=b.r then none else some []
def Jw (a:Src):List Src->Option (List Prop)
 | []=>some []
 | b::l=>match apart a b,Jw a l with
  | some x,some y=>some (x++y)
  | _,_=>none
def JI:List Src->Option (List Prop)
 | []=>some []
 | a::l=>match Jw a l,JI l with
  | some x,some y=>some (x++y)
  | _,_=>none
def GF (l:List Src):Prop:=l.Pairwise fun a b=> ∀r k,¬(a.has r k/\b.has r k)
theorem agH {a b:Src}{aj:List Prop}(h:apart a b=some aj)(bo:∀p∈aj,p): ∀r k,¬(a.has r k/\b.has r k):=by
 rintro r k ⟨h1,h2⟩
 have ai : ∀c:Src,c.has r k->c.r=r:=fun c aZ=>by
  cases c with
  | row r0=>exact Eq.symm aZ
  | aj r0 kv ng=>exact Eq.symm aZ.1
 have e:=(ai a h1).trans (ai b h2).symm
 cases a with
 | row r0=>simp only[apart] at h;rw[dw e] at h;simp at h
 | aj r0 kv ng =>
  cases b with
  | row r1=>simp only[apart] at h;rw[dw e] at h;simp at h
  | aj r1 l2 bR =>
   simp only[apart] at h;rw[dw (show r0=r1 from e)] at h;simp only[dB] at h;subst h;exact bo _ (List.mem_singleton.2 rfl) (h1.2.symm.trans h2.2)
theorem UM {a:Src}: ∀ {l:List Src} {aj:List Prop},Jw a l=some aj->(∀p∈aj,p)-> ∀b∈l,∀r k,¬(a.has r k/\b.has r k)
 | [],_,_,_,_,aW=>by simp at aW
 | b::l,aj,h,bo,c,aZ=>by
  simp only[Jw] at h;split at h
  ·rename_i x y h1 h2
   simp only[dB] at h;subst h;rcases dS.1 aZ with rfl|aZ
   ·exact agH h1 fun p af=>bo p (by simp[af])
   exact UM h2 (fun p af=>bo p (by simp[af])) c aZ
  simp at h
theorem Vp : ∀ {l:List Src} {aj:List Prop},JI l=some aj->(∀p∈aj,p)->GF l
 | [],_,_,_=>List.Pairwise.nil
 | a::l,aj,h,bo=>by
  simp only[JI] at h;split at h
  ·rename_i x y h1 h2;simp only[dB] at h;subst h;exact List.pairwise_cons.2 ⟨UM h1 fun p af=>bo p (by simp[af]),Vp h2 fun p af=>bo p (by simp[af])⟩
  simp at h
theorem xb {l:List Src}{j i r k:Nat}:mh l j i=some (r,k)↔ ∃a,l[j]? = some a/\a.has r k/\i=a.lS k:=by
 unfold mh
 cases h:l[j]? with
 | none=>simp
 | some a =>
  cases a with
  | row r0 =>
   simp only[dB,dF,exists_eq_left',Src.has,Src.lS];constructor<;>rintro⟨a,b⟩<;>exact⟨a.symm,b⟩
  | aj r0 kv o =>
   simp only[dB,exists_eq_left',Src.has,Src.lS];by_cases e:i=0
   ·rw[dw e];simp only[dB,dF,e,and_true];constructor<;>rintro⟨a,b⟩<;>exact⟨a.symm,b.symm⟩
   rw[dA e];simp[e]
theorem yS : ∀ {l:List Src} {n r k j i:Nat},kF n l r k=some (j,i)-> ∃a,n<=j/\l[j-n]? = some a/\a.has r k/\i=a.lS k
 | [],_,_,_,_,_,h=>by simp[kF] at h
 | .row r0::l,n,r,k,j,i,h=>by
  simp only[kF] at h;split at h
  ·rename_i e;simp only[dB,dF] at h;obtain⟨rfl,rfl⟩:=h;exact⟨.row r0,dE _,by simp,e,rfl⟩
  obtain⟨a,h1,h2,J,ak⟩:=yS h;exact⟨a,by omega,by rw[show j-n=(j-(n+1))+1 by omega,List.getElem?_cons_succ];exact h2,J,ak⟩
 | .aj r0 kv o::l,n,r,k,j,i,h=>by
  simp only[kF] at h;split at h
  ·rename_i e;simp only[dB,dF] at h;obtain⟨rfl,rfl⟩:=h;exact⟨.aj r0 kv o,dE _,by simp,e,rfl⟩
  obtain⟨a,h1,h2,J,ak⟩:=yS h;exact⟨a,by omega,by rw[show j-n=(j-(n+1))+1 by omega,List.getElem?_cons_succ];exact h2,J,ak⟩
theorem uL (n:Nat)(a:Src)(l:List Src)(r k:Nat)(h:¬a.has r k):kF n (a::l) r k=kF (n+1) l r k:=by cases a<;>simp only[kF,Src.has] at h ⊢ <;> rw[dA h]
theorem agI (n:Nat)(a:Src)(l:List Src)(r k:Nat)(h:a.has r k):kF n (a::l) r k=some (n,a.lS k):=by cases a<;>simp only[kF,Src.has,Src.lS] at h ⊢ <;> rw[dw h]
theorem FX : ∀ {l:List Src} {n r k j:Nat} {a:Src},GF l->l[j]? = some a->a.has r k->kF n l r k=some (n+j,a.lS k)
 | b::l,n,r,k,0,a,_,h,bF=>by simp at h;subst h;exact agI n b l r k bF
 | b::l,n,r,k,j+1,a,bC,h,bF=>by simp at h;have bC:=List.pairwise_cons.1 bC;rw[uL n b l r k fun aW=>bC.1 a (dH h) r k ⟨aW,bF⟩,FX (j:=j) bC.2 h bF];congr 2;omega
theorem aij {a:Src}{r k fA eD:Nat}(h:a.has r k)(c5:a.has fA eD)(e:a.lS k=a.lS eD):r=fA/\k=eD:=by cases a<;>simp only[Src.has,Src.lS] at h c5 e<;>omega
theorem ahC {l:List Src}{n r k fA eD:Nat}{p:Nat×Nat}(h:kF n l r k=some p)(c5:kF n l fA eD=some p):r=fA/\k=eD:=by obtain⟨j,i⟩:=p;obtain⟨a,h1,h2,J,ak⟩:=yS h;obtain⟨ew,td,G1,ON,ang⟩:=yS c5;rw[h2] at G1;simp at G1;subst G1;exact aij J ON (by omega)
theorem MG : ∀ {l:List Src} {n r j:Nat},qH n l r=some j->n<=j/\l[j-n]? = some (.row r)
 | [],_,_,_,h=>by simp[qH] at h
 | .row r0::l,n,r,j,h=>by
  simp only[qH] at h;split at h
  ·rename_i e;simp at h;subst h;subst e;exact⟨dE _,by simp⟩
  obtain⟨h1,h2⟩:=MG h;exact⟨by omega,by rw[show j-n=(j-(n+1))+1 by omega,List.getElem?_cons_succ];exact h2⟩
 | .aj r0 kv o::l,n,r,j,h=>by simp only[qH] at h;obtain⟨h1,h2⟩:=MG h;exact⟨by omega,by rw[show j-n=(j-(n+1))+1 by omega,List.getElem?_cons_succ];exact h2⟩
theorem UN : ∀ {l:List Src} {n r:Nat},qH n l r=none->Src.row r ∉ l
 | [],_,_,_=>by simp
 | .row r0::l,n,r,h=>by
  simp only[qH] at h;split at h
  ·simp at h
  rename_i e;simp only[dS,Src.row.injEq,not_or];exact⟨fun h=>e h.symm,UN h⟩
 | .aj r0 kv o::l,n,r,h=>by simp only[qH] at h;simp only[dS,reduceCtorEq,false_or];exact UN h
def nS (aY:Nat->Option (List a1))(cm:Nat->Option Nat)(a9:ic):List Src->List jJ->Option (List (List a1)×List Prop)
 | [],[]=>some ([],[])
 | .row r::l,c::d5=>match aY r with
  | some row=>match kq aY cm a9 vZ c row,nS aY cm a9 l d5 with
   | some (e3,bR),some (T,aL)=>some (e3::T,bR++aL)
   | _,_=>none
  | none=>none
 | .aj r k o::l,c::d5=>match aY r with
  | some row=>match kq aY cm a9 vZ c [o],nS aY cm a9 l d5 with
   | some (e3,bR),some (T,aL)=>some (e3::T,(d6 (some row) k=some o)::(bR++aL))
   | _,_=>none
  | none=>none
 | _,_=>none
def mD (Ak:Nat->Option (List a1))(cm:Nat->Option Nat)(mn:ic):(Nat->Option (List a1))->List Src->List jJ->List (List a1)->Option (List (Nat×List a1)×List Prop)
 | _,[],[],[]=>some ([],[])
 | aY,.row q::l,c::d5,row::T=>match kq Ak cm mn mu c row with
  | some (e3,bR)=>match mD Ak cm mn (fun x=>if x=q then some e3 else aY x) l d5 T with
   | some (u,aL)=>some ((q,e3)::u,bR++aL)
   | none=>none
  | none=>none
 | aY,.aj q k _::l,c::d5,row::T=>match aY q with
  | some nt=>match kq Ak cm mn mu c row with
   | some ([cl],bR)=>match mD Ak cm mn (fun x=>if x=q then some (nt.set k cl) else aY x) l d5 T with
    | some (u,aL)=>some ((q,nt.set k cl)::u,bR++aL)
    | none=>none
   | _=>none
  | none=>none
 | _,_,_,_=>none
def tf (T:List (List a1)):Prop:= ∀row∈T,∀o∈row,∀e∈o.es,∀x∈e,bU x
def Da (P:Program)(aY:Nat->Option (List a1))(a5:Nat)(f:FuncId)(args:List aC)(cH:Ah):Option iy :=
 let l:=if cH.fV.length=cH.a9.length then cH.a9 else cH.a9++[.row a5]
 match JI cH.a9 with
 | none=>none
 | some ng =>
  if cH.a9.any (fun a=>decide (a.r=a5)) then none else
  if cH.fm then
   match cH.a9 with
   | [] =>
    match nm (pq aY (fun _=>none) (mh []) me) cH.ac args,pq (fun j=>cH.fV[j]?) (v5 l) (kF 0 l) mu cH.im cH.r,
     mD (fun j=>cH.fV[j]?) (v5 l) (kF 0 l) aY l cH.jF cH.fV with
    | some (s3,bR),some (fA,eH),some (u,ee)=>some {val:=fA,gM:=u,f9:=bR++eH++ee++[Con P f s3 [] cH.r cH.fV,bU cH.r]++(if cH.fV.isEmpty then [] else [tf cH.fV])}
    | _,_,_=>none
   | _=>none
  else
   match nm (pq aY (qH 0 cH.a9) (mh cH.a9) vZ) cH.ac args,nS aY (qH 0 cH.a9) (mh cH.a9) cH.a9 cH.d5,
    pq (fun j=>cH.fV[j]?) (v5 l) (kF 0 l) mu cH.im cH.r,mD (fun j=>cH.fV[j]?) (v5 l) (kF 0 l) aY l cH.jF cH.fV with
   | some (s3,bR),some (T,aL),some (fA,eH),some (u,ee) =>
    some {val:=fA,gM:=u,f9:=ng++bR++aL++eH++ee++[Con P f s3 T cH.r cH.fV]}
   | _,_,_,_=>none
theorem Uk {aY:Nat->Option (List a1)}{cm:Nat->Option Nat}{a9:ic}{bO:hp->Bool}{c:jJ}{row e3:List a1}{aj:List Prop}(h:kq aY cm a9 bO c row=some (e3,aj))(bo:∀p∈aj,p):
 ∀k o,d6 (some row) k=some o->o.cS = .live:=by
 have s8 : ∀k o,d6 (some row) k=some o->o∈row/\o.cS≠ .gone:=by
  intro k o an;rw[lX] at an
  cases aX:row[k]? with
  | none=>rw[aX] at an;simp at an
  | some p =>
   rw[aX,dx] at an;split at an
   ·simp at an
   rename_i e;simp at an;subst an;exact⟨dH aX,e⟩
 intro k o an;obtain⟨h1,h2⟩:=s8 k o an
 cases c with
 | pure =>
  simp only[kq,dB,dF] at h;obtain⟨rfl,rfl⟩:=h;exact((bo _ (List.mem_singleton.2 rfl):w9 row) o h1).2
 | cv aK =>
  simp only[kq,dB,dF] at h;obtain⟨rfl,rfl⟩:=h;have e:row=aK:=bo _ (by simp);have af:w9 aK:=bo _ (by simp);exact(af o (e▸h1)).2
 | bw aK =>
  simp only[kq,dB,dF] at h;obtain⟨rfl,rfl⟩:=h;have af:pr row:=bo _ (by simp);exact(af o h1).resolve_right h2
 | rx aK=>cases row with
  | nil=>simp[kq] at h
  | cons o l=>cases l<;>simp[kq] at h
 | drop=>cases row with
  | nil=>simp[kq] at h
  | cons o l=>cases l<;>simp[kq] at h
 | box l =>
  match row,h,h1 with
  | [p],h,h1 =>
   simp only[kq] at h;rw[List.mem_singleton] at h1;subst h1;split at h
   ·split at h
    ·rename_i e;exact e
    simp at h
   simp at h
  | [],h,_=>simp[kq] at h
  | _::_::_,h,_=>simp[kq] at h
section
variable {P:Program} {g:G} {s:S} {aE:gw} {a:Act} {w:World}
theorem MH (er:jE g s aE w){a9:ic}{cm:Nat->Option Nat}(H:ol s a9 cm vZ): ∀(l:List Src) (d5:List jJ) (T:List (List a1)) (aj:List Prop),
 nS s.aY cm a9 l d5=some (T,aj)->(∀p∈aj,p)->T.length=l.length/\ ∀(j:Nat) e3 b,T[j]? = some e3->l[j]? = some b ->
  (∀r k o,b.has r k->s.aj r k=some o->o.cS = .live)/\(∀r k,b.has r k->s.bd r k->b.lS k<e3.length) /\
  (∀r k o,b = .aj r k o->s.aj r k=some o) /\
  ∀(i:Nat) cl,d6 (some e3) i=some cl-> ∃r k o,b.has r k/\i=b.lS k/\s.aj r k=some o/\qd s a9 vZ nJ o cl
 | [],[],T,aj,h,_=>by simp[nS] at h;obtain⟨rfl,rfl⟩:=h;exact⟨rfl,fun j e3 r aq=>by simp at aq⟩
 | .row r::l,c::d5,T,aj,h,bo=>by
  simp only[nS] at h;split at h;rotate_left
  ·simp at h
  rename_i row d4;split at h;rotate_left
  ·simp at h
  rename_i aB bR oM aL h1 h2;simp only[dB,dF] at h;obtain⟨rfl,rfl⟩:=h;obtain⟨e1,e2⟩:=MH er H l d5 oM aL h2 (fun p af=>bo p (by simp[af]));have j7 : ∀k,s.aj r k=d6 (some row) k:=fun k=>(by unfold S.aj;rw[d4]);obtain⟨f0,f1,f2⟩:=IZ (q:=nJ) (lF:=id) er H (xB _) (fun k o an=>(j7 k).trans an) h1 (fun p af=>bo p (by simp[af])) (fun _ _ _ _ _ _ _=>trivial);refine⟨by simp[e1],fun j e3 b aq aW=> ?_⟩
  cases j with
  | zero =>
   simp at aq aW;subst aq;subst aW;refine⟨fun q k o a0 an=> ?_,fun q k a0 hu=> ?_,fun _ _ _ e=>by simp at e,fun i cl eV=> ?_⟩
   ·have a0:q=r:=a0;subst a0;rw[j7] at an;exact f1 k o an
   ·have a0:q=r:=a0;subst a0;rw[f0];simpa [S.bd,d4,Src.lS] using hu
   obtain⟨o,g1,g2⟩:=f2 i cl eV;exact⟨r,i,o,rfl,rfl,(j7 i).trans g1,g2⟩
  | succ j=>simp at aq aW;exact e2 j e3 b aq aW
 | .aj r kv ng::l,c::d5,T,aj,h,bo=>by
  simp only[nS] at h;split at h;rotate_left
  ·simp at h
  rename_i row d4;split at h;rotate_left
  ·simp at h
  rename_i aB bR oM aL h1 h2;simp only[dB,dF] at h;obtain⟨rfl,rfl⟩:=h;obtain⟨e1,e2⟩:=MH er H l d5 oM aL h2 (fun p af=>bo p (by simp[af]));have an:s.aj r kv=some ng:=by unfold S.aj;rw[d4];exact bo _ (by simp)
  have nD : ∀k o,d6 (some [ng]) k=some o->k=0/\o=ng:=fun k o aX=>by
   rw[nR] at aX;split at aX
   ·rename_i e;simp at aX;exact⟨e.1,aX.symm⟩
   simp at aX
  have OO:ng.cS≠ .gone:=by
   unfold S.aj at an;rw[d4,lX] at an
   cases aX:row[kv]? with
   | none=>rw[aX] at an;simp at an
   | some p =>
    rw[aX,dx] at an;split at an
    ·simp at an
    rename_i e;simp at an;subst an;exact e
  obtain⟨f0,f1,f2⟩:=IZ (q:=nJ) (lF:=fun _=>kv) (r:=r) er H (xB _) (fun k o aX=>by rw[(nD k o aX).2];exact an) h1 (fun p af=>bo p (by simp[af])) (fun _ _ _ _ _ _ _=>trivial);refine⟨by simp[e1],fun j e3 b aq aW=> ?_⟩
  cases j with
  | zero =>
   simp at aq aW;subst aq;subst aW;refine⟨fun q k o a0 pE=> ?_,fun q k a0 hu=> ?_,fun fA eD cl e=> ?_,fun i cl eV=> ?_⟩
   ·obtain⟨rfl,rfl⟩:q=r/\k=kv:=a0;rw[an] at pE;simp at pE;subst pE;exact f1 0 ng (by rw[nR];simp[OO])
   ·rw[f0];simp[Src.lS]
   ·cases e;exact an
   obtain⟨o,g1,g2⟩:=f2 i cl eV;obtain⟨rfl,rfl⟩:=nD i o g1;exact⟨r,kv,o,⟨rfl,rfl⟩,rfl,an,g2⟩
  | succ j=>simp at aq aW;exact e2 j e3 b aq aW
 | [],_::_,_,_,h,_=>by simp[nS] at h
 | .row _::_,[],_,_,h,_=>by simp[nS] at h
 | .aj .. :: _,[],_,_,h,_=>by simp[nS] at h
theorem Mu {hc:G}{s1:S}{mz:gw}{bQ:World}(er:jE hc s1 mz bQ){mn:ic}{q:aC->Prop}{cm:Nat->Option Nat}(H:ol s1 mn cm mu)(bC:wR q mu)
 (a0 : ∀j i o,s1.aj j i=some o-> ∀e∈o.es,∀x∈e,q x) :
 ∀(l:List Src) (d5:List jJ) (T:List (List a1)) (u:List (Nat×List a1)) (aj:List Prop) (n:Nat) (s:S),GF l->(∀j row,T[j]? = some row->s1.aY (n+j)=some row) ->
 (∀r k j i,kF n l r k=some (j,i)->s.bd r k->s1.bd j i)->(∀r k o,Src.aj r k o∈l->s.bd r k) ->
 mD s1.aY cm mn s.aY l d5 T=some (u,aj)->(∀p∈aj,p)->T.length=l.length/\(s.jo u).E=s.E /\
  (∀r k o,(s.jo u).aj r k=some o->(∃j i p,kF n l r k=some (j,i)/\s1.aj j i=some p/\qd s1 mn mu q p o)\/(kF n l r k=none/\s.aj r k=some o)) /\
  (∀r k,s.bd r k->(s.jo u).bd r k)/\(∀r k j i,kF n l r k=some (j,i)->s1.bd j i->(s.jo u).bd r k)
 | [],[],[],u,aj,n,s,_,_,_,_,h,_=>by simp[mD] at h;obtain⟨rfl,rfl⟩:=h;exact⟨rfl,rfl,fun r k o an=> .inr ⟨rfl,an⟩,fun r k h=>h,fun r k j i h=>by simp[kF] at h⟩
 | .row q0::l,c::d5,row::T,u,aj,n,s,tt,iq,hu,uc,h,bo=>by
  simp only[mD] at h;split at h;rotate_left
  ·simp at h
  rename_i e3 bR h1;split at h;rotate_left
  ·simp at h
  rename_i nf aL h2;simp only[dB,dF] at h;obtain⟨rfl,rfl⟩:=h;have G2:=List.pairwise_cons.1 tt;have jw:s1.aY n=some row:=iq 0 row rfl;have zJ : ∀k,s1.aj n k=d6 (some row) k:=fun k=>(by unfold S.aj;rw[jw]);obtain⟨f0,f1,f2⟩:=IZ (q:=q) (lF:=id) (r:=n) er H bC (fun k o an=>(zJ k).trans an) h1 (fun p af=>bo p (by simp[af])) (fun k o an=>a0 n k o ((zJ k).trans an));have hx : ∀k j i,kF (n+1) l q0 k≠some (j,i):=fun k j i hm=>by obtain⟨b,jz,iz,sx,PC⟩:=yS hm;exact G2.1 b (dH iz) q0 k ⟨rfl,sx⟩
  have Dj : ∀r k,s.bd r k->(s.setRow q0 e3).bd r k:=fun r k aX=>by
   rw[oR];by_cases e:r=q0
   ·subst e;rw[dw rfl,f0];have:=hu r k n k (by simp[kF]) aX;simpa [S.bd,jw] using this
   rw[dA e];exact aX
  obtain⟨e1,e2,bJ,c1,dl⟩:=Mu er H bC a0 l d5 T nf aL (n+1) (s.setRow q0 e3) G2.2 (fun j row aq=>by rw[Nat.add_assoc,Nat.add_comm 1 j];exact iq (j+1) row (by simpa using aq))
   (fun r k j i hm aX=>by have dd:r≠q0:=(by rintro rfl;exact hx _ _ _ hm);refine hu r k j i ?_ (by rw[oR,dA dd] at aX;exact aX);rw[uL n (.row q0) l r k dd];exact hm)
   (fun r k o hm=>Dj r k (uc r k o (by simp[hm]))) h2 (fun p af=>bo p (by simp[af]))
  refine⟨by simp[e1],e2,fun r k o an=> ?_,fun r k aX=>c1 r k (Dj r k aX),fun r k j i hm aX=> ?_⟩
  ·rcases bJ r k o an with ⟨j,i,p,jz,iz,sx⟩|⟨jz,iz⟩
   ·have dd:r≠q0:=(by rintro rfl;exact hx _ _ _ jz);exact .inl ⟨j,i,p,by rw[uL n (.row q0) l r k dd];exact jz,iz,sx⟩
   rw[nj] at iz;by_cases e:r=q0
   ·subst e;rw[dw rfl] at iz;obtain⟨p,g1,g2⟩:=f2 k o iz;exact .inl ⟨n,k,p,by simp[kF],(zJ k).trans g1,g2⟩
   rw[dA e] at iz;exact .inr ⟨by rw[uL n (.row q0) l r k e];exact jz,iz⟩
  by_cases e:r=q0
  ·subst e;simp only[kF,if_true] at hm;simp only[dB,dF] at hm;obtain⟨rfl,rfl⟩:=hm;refine c1 r k ?_;rw[oR,dw rfl,f0];simpa [S.bd,jw] using aX
  rw[uL n (.row q0) l r k e] at hm;exact dl r k j i hm aX
 | .aj q0 kv ng::l,c::d5,row::T,u,aj,n,s,tt,iq,hu,uc,h,bo=>by
  simp only[mD] at h;split at h;rotate_left
  ·simp at h
  rename_i nt JT;split at h;rotate_left
  ·simp at h
  rename_i cl bR h1;split at h;rotate_left
  ·simp at h
  rename_i nf aL h2;simp only[dB,dF] at h;obtain⟨rfl,rfl⟩:=h;have G2:=List.pairwise_cons.1 tt;have jw:s1.aY n=some row:=iq 0 row rfl;have zJ : ∀k,s1.aj n k=d6 (some row) k:=fun k=>(by unfold S.aj;rw[jw]);obtain⟨f0,f1,f2⟩:=IZ (q:=q) (lF:=id) (r:=n) er H bC (fun k o an=>(zJ k).trans an) h1 (fun p af=>bo p (by simp[af])) (fun k o an=>a0 n k o ((zJ k).trans an));have hx : ∀j i,kF (n+1) l q0 kv≠some (j,i):=fun j i hm=>(by obtain⟨b,jz,iz,sx,PC⟩:=yS hm;exact G2.1 b (dH iz) q0 kv ⟨⟨rfl,rfl⟩,sx⟩);have Dj : ∀r k,s.bd r k->(s.setRow q0 (nt.set kv cl)).bd r k:=Im s JT (by simp);have wx:kv<nt.length:=by have:=uc q0 kv ng (by simp);simpa [S.bd,JT] using this
  obtain⟨e1,e2,bJ,c1,dl⟩:=Mu er H bC a0 l d5 T nf aL (n+1) (s.setRow q0 (nt.set kv cl)) G2.2 (fun j row aq=>by rw[Nat.add_assoc,Nat.add_comm 1 j];exact iq (j+1) row (by simpa using aq))
   (fun r k j i hm aX=>by
     have dd : ¬(Src.aj q0 kv ng).has r k:=(by rintro⟨rfl,rfl⟩;exact hx _ _ hm);refine hu r k j i (by rw[uL n _ l r k dd];exact hm) ?_;rw[oR] at aX;split at aX
     ·rename_i e;subst e;simpa [S.bd,JT] using aX
     exact aX)
   (fun r k o hm=>Dj r k (uc r k o (by simp[hm]))) h2 (fun p af=>bo p (by simp[af]))
  refine⟨by simp[e1],e2,fun r k o an=> ?_,fun r k aX=>c1 r k (Dj r k aX),fun r k j i hm aX=> ?_⟩
  ·rcases bJ r k o an with ⟨j,i,p,jz,iz,sx⟩|⟨jz,iz⟩
   ·have dd : ¬(Src.aj q0 kv ng).has r k:=(by rintro⟨rfl,rfl⟩;exact hx _ _ jz);exact .inl ⟨j,i,p,by rw[uL n _ l r k dd];exact jz,iz,sx⟩
   rw[nj] at iz;by_cases e:r=q0
   ·subst e
    rw[dw rfl,lX,aog] at iz;by_cases e2:kv=k
    ·subst e2;rw[dw rfl,dw wx,dx] at iz;have sx:d6 (some [cl]) 0=some o:=(by rw[lX];exact iz);obtain⟨p,g1,g2⟩:=f2 0 o sx;exact .inl ⟨n,0,p,by simp[kF],(zJ 0).trans g1,g2⟩
    rw[dA e2] at iz;have dd : ¬(Src.aj r kv ng).has r k:=(by rintro⟨-,rfl⟩;exact e2 rfl);exact .inr ⟨by rw[uL n _ l r k dd];exact jz,by unfold S.aj;rw[JT,lX];exact iz⟩
   rw[dA e] at iz;have dd : ¬(Src.aj q0 kv ng).has r k:=(by rintro⟨rfl,-⟩;exact e rfl);exact .inr ⟨by rw[uL n _ l r k dd];exact jz,iz⟩
  by_cases e:(Src.aj q0 kv ng).has r k
  ·obtain⟨rfl,rfl⟩:=e;exact c1 r k (Dj r k (uc r k ng (by simp)))
  rw[uL n _ l r k e] at hm;exact dl r k j i hm aX
 | [],[],_::_,_,_,_,_,_,_,_,_,h,_=>by simp[mD] at h
 | [],_::_,_,_,_,_,_,_,_,_,_,h,_=>by simp[mD] at h
 | .row _::_,[],_,_,_,_,_,_,_,_,_,h,_=>by simp[mD] at h
 | .aj .. :: _,[],_,_,_,_,_,_,_,_,_,h,_=>by simp[mD] at h
 | .row _::_,_::_,[],_,_,_,_,_,_,_,_,h,_=>by simp[mD] at h
 | .aj .. :: _,_::_,[],_,_,_,_,_,_,_,_,h,_=>by simp[mD] at h
theorem Vq (h:c7 g s aE a w){a5:Nat}(fI:s.aY a5=none){f:FuncId}{args:List aC}{cH:Ah}{l:List Src}(o8:l=if cH.fV.length=cH.a9.length then cH.a9 else cH.a9++[.row a5])
 (tt:GF cH.a9) (zT : ∀a∈cH.a9,a.r≠a5) {bO:hp->Bool} {A:Nat->Prop} {q:aC->Prop} {T:List (List a1)} {cm:Nat->Option Nat}
 (hA : ∀b,A b->b<w.heap.size) (OJ : ∀b,s.ok g aE w b->A b) (OK : ∀r k o b m,s.aj r k=some o->bO o.cS=true->aE r k=some (b,m)->A b)
 (akj:(∀b,A b->s.ok g aE w b)\/(∀x,q x->bU x)) (bC:wR q mu) (KL:ol s (mh cH.a9) cm bO)
 (da:sj s (mh cH.a9) bO nJ (fT T).aY) (r5 : ∀r k o,(∃j i,mh cH.a9 j i=some (r,k))->s.aj r k=some o->o.cS = .live) (hex : ∀r k o,Src.aj r k o∈cH.a9->s.bd r k)
 {s3:List aC} {bR:List Prop} (oB:nm (pq s.aY cm (mh cH.a9) bO) cH.ac args=some (s3,bR)) (ue : ∀p∈bR,p)
 {fA:aC} {eH:List Prop} (Dt:pq (fun j=>cH.fV[j]?) (v5 l) (kF 0 l) mu cH.im cH.r=some (fA,eH)) (OP : ∀p∈eH,p)
 {u:List (Nat×List a1)} {ee:List Prop} (G3:mD (fun j=>cH.fV[j]?) (v5 l) (kF 0 l) s.aY l cH.jF cH.fV=some (u,ee)) (akk : ∀p∈ee,p)
 (Dk:Con P f s3 T cH.r cH.fV) (akl:q cH.r) (akm : ∀j i o,(fT cH.fV).aj j i=some o-> ∀e∈o.es,∀x∈e,q x)
 {vs:List Value} (aT:vs.length=args.length) (hargs : ∀(j:Nat) x v,args[j]? = some x->vs[j]? = some v->Rel w (s.ok g aE w) s.bd (s.bj aE) x v) :
 I0 P f/\Calls P f vs.toArray w fun e bQ=> ∃v bX,e = .returned v/\c7 g (s.jo u) bX a bQ/\Rel bQ ((s.jo u).ok g bX bQ) (s.jo u).bd ((s.jo u).bj bX) fA v:=by
 have OQ:GF l:=by
  subst o8;split
  ·exact tt
  refine List.pairwise_append.2 ⟨tt,List.pairwise_singleton _ _,fun b aW c aZ r k gX=> ?_⟩;rw[List.mem_singleton] at aZ;subst aZ;have h1:r=a5:=gX.2;subst h1
  cases b with
  | row r0=>exact zT _ aW (Eq.symm gX.1)
  | aj r0 kv ng=>exact zT _ aW (Eq.symm gX.1.1)
 have X4 : ∀(j:Nat) b,cH.a9[j]? = some b->l[j]? = some b:=by
  intro j b aq;subst o8;split
  ·exact aq
  rw[aoj (gm aq)];exact aq
 have zU : ∀(j:Nat) b,l[j]? = some b->cH.a9[j]? = some b\/b = .row a5:=by
  intro j b aq;subst o8;split at aq
  ·exact .inl aq
  rw[List.getElem?_append] at aq;split at aq
  ·exact .inl aq
  right;have:=gm aq;simp at this;rw[show j-cH.a9.length=0 by omega] at aq;simpa using aq.symm
 refine⟨Dk.1,?_⟩;obtain⟨hc,q1,q2,bN,PD,cx,d7,eJ,gR⟩:=enter h.tojE A hA OJ OK da r5;obtain⟨e1,e2,bJ⟩:=IY _ _ _ _ _ oB;have:=Dk.2 hc (k2 aE (mh cH.a9)) w vs.toArray q1 bN PD cx eJ (by simp[aT,e1]) (by intro j dc v eC bf;have aq:j<args.length:=(by have:=gm eC;omega);have U:=dz aq;obtain⟨c,cl,f1,f2,f3⟩:=bJ j _ dc U eC;have GQ:vs[j]? = some v:=(by simpa using bf);exact gR (FC h.tojE KL (xB _) f2 (fun p af=>ue p (f3 p af)) trivial (hargs j _ v U GQ)) (hargs j _ v U GQ));refine this.mono fun e bQ GO=> ?_;obtain⟨v,mz,rfl,Dz,bf⟩:=GO
 have Y4:ol (fT cH.fV) (kF 0 l) (v5 l) mu:=by
  refine⟨fun j r aq k=> ?_,fun _ _ _ _ _ bF=>by simp[mu] at bF⟩;unfold v5 at aq;split at aq
  ·rename_i r0 m6;simp at aq;subst aq;have:=FX (n:=0) (r:=r0) (k:=k) OQ m6 rfl;simpa [Src.lS] using this
  simp at aq
 have F9 : ∀j i r k,mh cH.a9 j i=some (r,k)->kF 0 l r k=some (j,i):=fun j i r k hm=>by obtain⟨b,jz,iz,rfl⟩:=xb.1 hm;have:=FX (n:=0) OQ (X4 j b jz) iz;simpa using this
 have JR : ∀r k j i,kF 0 l r k=some (j,i)->mh cH.a9 j i=some (r,k)\/ ¬s.bd r k:=fun r k j i hm=>by
  obtain⟨b,-,iz,sx,PC⟩:=yS hm;rcases zU j b (by simpa using iz) with e|e
  ·exact .inl (xb.2 ⟨b,e,sx,PC⟩)
  subst e;have:r=a5:=sx;subst this;exact .inr (Ca fI k)
 obtain⟨ku,nf,iA,alC,alD⟩:=Mu (s1:=fT cH.fV) Dz Y4 bC akm l cH.jF cH.fV u ee 0 s OQ (fun j row aq=>by simpa [fT] using aq)
  (fun r k j i hm aX=>by
    rcases JR r k j i hm with e|e
    ·exact(Dz.stay j i (by rw[PD];exact da.bd _ _ _ _ e aX)).1
    exact absurd aX e)
  (fun r k o hm=>by
    obtain⟨j,aq⟩:=aor hm;rcases zU j _ aq with e|e
    ·exact hex r k o (dH e)
    cases e) G3 akk
 obtain⟨nd,f1,f2⟩:=leave (q0:=nJ) (q:=q) h q1 (by rw[q2];exact akj) PD cx d7 r5 da Dz F9 JR (fun r k fA eD p=>ahC) (s2:=s.jo u) nf iA alC alD
  (FC Dz Y4 bC Dt OP akl bf) bf
 exact⟨v,nd,rfl,f1,f2⟩
theorem aet (h:c7 g s aE a w){a5:Nat}(fI:s.aY a5=none){f:FuncId}{args:List aC}{cH:Ah}{bA:iy}(ay:Da P s.aY a5 f args cH=some bA)(cE:∀p∈bA.f9,p)
 {vs:List Value} (aT:vs.length=args.length) (hargs : ∀(j:Nat) x v,args[j]? = some x->vs[j]? = some v->Rel w (s.ok g aE w) s.bd (s.bj aE) x v) :
 I0 P f/\Calls P f vs.toArray w fun e bQ=> ∃v bX,e = .returned v/\c7 g (s.jo bA.gM) bX a bQ/\Rel bQ ((s.jo bA.gM).ok g bX bQ) (s.jo bA.gM).bd ((s.jo bA.gM).bj bX) bA.val v:=by
 unfold Da at ay;simp only at ay;generalize o8:(if cH.fV.length=cH.a9.length then cH.a9 else cH.a9++[.row a5])=l at ay;split at ay
 ·simp at ay
 rename_i ng tg;split at ay
 ·simp at ay
 rename_i ajF;have zT : ∀a∈cH.a9,a.r≠a5:=fun b aW e=>ajF (List.any_eq_true.2 ⟨b,aW,by simpa using e⟩);split at ay
 ·
  split at ay;rotate_left
  ·simp at ay
  rename_i xC;split at ay;rotate_left
  ·simp at ay
  rename_i s3 bR fA eH u ee oB Dt G3;simp only[dB] at ay;subst ay;have Dk:Con P f s3 [] cH.r cH.fV:=cE _ (by simp);have G4:bU cH.r:=cE _ (by simp)
  have ajG:tf cH.fV:=by
   by_cases e:cH.fV=[]
   ·rw[e];intro row d4;simp at d4
   exact cE _ (by have:cH.fV.isEmpty=false:=(by simpa [List.isEmpty_iff] using e);simp[this])
  refine Vq (bO:=me) (A:=fun b=>b<w.heap.size) (q:=bU) (T:=[]) (cm:=fun _=>none) h fI o8.symm (by rw[xC];exact List.Pairwise.nil) zT (fun _ aW=>aW) (fun b aW=>aW.1)
   (fun r k o b m an _ af=>FV h.tojE an af) (.inr fun _ U=>U) akg ?_ ?_ ?_ ?_ (by rw[xC];exact oB) (fun p af=>cE p (by simp[af])) Dt (fun p af=>cE p (by simp[af])) G3 (fun p af=>cE p (by simp[af])) Dk G4 ?_ aT hargs
  ·refine⟨fun _ _ e=>by simp at e,fun r _ k o _ _ j i e=> ?_⟩;rw[xC] at e;simp[mh] at e
  ·refine⟨fun j i js fs p e=> ?_,fun j i cl e=> ?_,fun j i r k e=> ?_⟩
   ·rw[xC] at e;simp[mh] at e
   ·simp[fT,d6] at e
   rw[xC] at e;simp[mh] at e
  ·rintro r k o ⟨j,i,e⟩;rw[xC] at e;simp[mh] at e
  ·rintro r k o e;rw[xC] at e;simp at e
  intro j i o an e he x U;have an:d6 (cH.fV[j]?) i=some o:=an
  cases ai:cH.fV[j]? with
  | none=>rw[ai] at an;simp[d6] at an
  | some row =>
   rw[ai,lX] at an
   cases aX:row[i]? with
   | none=>rw[aX] at an;simp at an
   | some p =>
    rw[aX,dx] at an;split at an
    ·simp at an
    simp at an;subst an;exact ajG row (dH ai) p (dH aX) e he x U
 split at ay;rotate_left
 ·simp at ay
 rename_i s3 bR T aL fA eH u ee oB Ds Dt G3;simp only[dB] at ay;subst ay;have tt:=Vp tg fun p af=>cE p (by simp[af]);have Dk:Con P f s3 T cH.r cH.fV:=cE _ (by simp);have aa : ∀r j,qH 0 cH.a9 r=some j-> ∀k,mh cH.a9 j k=some (r,k):=fun r j aq k=>by obtain⟨-,h2⟩:=MG aq;simp only[mh,show cH.a9[j]? = some (.row r) by simpa using h2]
 have OM : ∀(l:List Src) (d5:List jJ) (T:List (List a1)) (aj:List Prop),nS s.aY (qH 0 cH.a9) (mh cH.a9) l d5=some (T,aj)->(∀p∈aj,p) ->
  ∀b∈l,∀r k o,b.has r k->s.aj r k=some o->o.cS≠ .ka:=by
  intro l
  induction l with
  | nil=>intro _ _ _ _ _ b aW;simp at aW
  | cons b l ih =>
   intro d5 T aj h0 bo c aZ r k o gX an
   cases d5 with
   | nil=>cases b<;>simp[nS] at h0
   | cons bY d5 =>
    cases b with
    | row r0 =>
     simp only[nS] at h0;split at h0
     ·rename_i row d4
      split at h0
      ·rename_i aB p1 oM p2 h1 h2
       simp only[dB,dF] at h0;obtain⟨rfl,rfl⟩:=h0;rcases dS.1 aZ with rfl|aZ
       ·have e:r=r0:=gX;subst e;have eV:d6 (some row) k=some o:=(by unfold S.aj at an;rw[d4] at an;exact an);have:=Uk h1 (fun p af=>bo p (by simp[af])) k o eV;rw[this];simp
       exact ih d5 oM p2 h2 (fun p af=>bo p (by simp[af])) c aZ r k o gX an
      simp at h0
     simp at h0
    | aj r0 kv ng =>
     simp only[nS] at h0;split at h0;rotate_left
     ·simp at h0
     rename_i row d4;split at h0;rotate_left
     ·simp at h0
     rename_i aB p1 oM p2 h1 h2;simp only[dB,dF] at h0;obtain⟨rfl,rfl⟩:=h0;rcases dS.1 aZ with rfl|aZ;rotate_left
     ·exact ih d5 oM p2 h2 (fun p af=>bo p (by simp[af])) c aZ r k o gX an
     obtain⟨rfl,rfl⟩:=gX;have ue:d6 (some row) k=some ng:=bo _ (by simp);have eV:d6 (some row) k=some o:=(by unfold S.aj at an;rw[d4] at an;exact an);rw[ue] at eV;simp at eV;subst eV
     have OO:ng.cS≠ .gone:=by
      rw[lX] at ue
      cases aX:row[k]? with
      | none=>rw[aX] at ue;simp at ue
      | some p =>
       rw[aX,dx] at ue;split at ue
       ·simp at ue
       rename_i e;simp at ue;subst ue;exact e
     have:=Uk h1 (fun p af=>bo p (by simp[af])) 0 ng (by rw[nR];simp[OO]);rw[this];simp
 have KL:ol s (mh cH.a9) (qH 0 cH.a9) vZ:=by refine⟨aa,fun r ai k o an bF j i hm=> ?_⟩;obtain⟨b,jz,iz,-⟩:=xb.1 hm;exact OM cH.a9 cH.d5 T aL Ds (fun p af=>cE p (by simp[af])) b (dH jz) r k o iz an (by simpa [vZ] using bF)
 obtain⟨t1,t2⟩:=MH h.tojE KL cH.a9 cH.d5 T aL Ds (fun p af=>cE p (by simp[af]));have nI : ∀j b,cH.a9[j]? = some b-> ∃e3,T[j]? = some e3:=fun j b aq=>by have:j<T.length:=(by have:=gm aq;omega);exact⟨_,dz this⟩
 refine Vq (bO:=vZ) (A:=s.ok g aE w) (q:=nJ) (T:=T) h fI o8.symm tt zT (fun b aW=>aW.1) (fun b aW=>aW)
  (fun r k o b m an aX af=>aih h.tojE an (by simpa [vZ] using aX) af) (.inl fun _ aW=>aW) (xB _) KL ?_ ?_ ?_ oB (fun p af=>cE p (by simp[af])) Dt (fun p af=>cE p (by simp[af])) G3
  (fun p af=>cE p (by simp[af])) Dk trivial (fun _ _ _ _ _ _ _ _=>trivial) aT hargs
 ·refine⟨fun j i js fs p e fb=> ?_,fun j i cl eV=> ?_,fun j i r k e hu=> ?_⟩
  ·obtain⟨r,k⟩:=p;obtain⟨b,jz,iz,rfl⟩:=xb.1 e;obtain⟨ll,akn,ako,rfl⟩:=xb.1 fb;have e1:=FX (n:=0) tt jz iz;have e2:=FX (n:=0) tt akn ako;rw[e1] at e2;simpa using e2
  ·have aq:j<T.length:=by
    rcases Nat.lt_or_ge j T.length with e|e
    ·exact e
    ·have:(fT T).aY j=none:=aoe e;rw[this] at eV;simp[d6] at eV
   have X5:T[j]? = some T[j]:=dz aq;have X6:cH.a9[j]? = some (cH.a9[j]'(by omega)):=dz (by omega);have pE:d6 (some T[j]) i=some cl:=(by have:(fT T).aY j=some T[j]:=X5;rw[this] at eV;exact eV);obtain⟨r,k,o,n1,n2,alE,alF⟩:=(t2 j _ _ X5 X6).2.2.2 i cl pE;exact⟨r,k,o,xb.2 ⟨_,X6,n1,n2⟩,alE,alF⟩
  obtain⟨b,jz,iz,rfl⟩:=xb.1 e;obtain⟨e3,uU⟩:=nI j b jz;have:=(t2 j e3 b uU jz).2.1 r k iz hu;show b.lS k<((T[j]?).getD []).length;rw[uU];exact this
 ·rintro r k o ⟨j,i,e⟩ an;obtain⟨b,jz,iz,-⟩:=xb.1 e;obtain⟨e3,uU⟩:=nI j b jz;exact(t2 j e3 b uU jz).1 r k o iz an
 intro r k o hm;obtain⟨j,aq⟩:=aor hm;obtain⟨e3,uU⟩:=nI j _ aq;exact IX ((t2 j e3 _ uU aq).2.2.1 r k o rfl)
end
end Go.VL
