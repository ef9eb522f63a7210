/- Lemmas, plain functions of the program, and what they answer. No condition. -/
import Derived.Below
import Derived.Eval
import Derived.KernelRfl
import Derived.Laws.Append
import Derived.Laws.AppendOwn
import Derived.Laws.BytesString
import Derived.Laws.Cells
import Derived.Laws.CopyRow
import Derived.Laws.Entries
import Derived.Laws.MakeOwn
import Derived.Laws.OwnMore
import Derived.Laws.Rows
import Derived.Laws.Slices
import Derived.Laws.Tables
import Derived.Orders
namespace Go.VL
set_option linter.unusedVariables false
set_option linter.unusedSimpArgs false
open Go
abbrev ar:=List Int
theorem dw(n:Nat):(n:Int).toNat=n:=rfl
theorem dx{α β:Type _}(a:α)(f:α->Option β):(some a).bind f=f a:=rfl
theorem dy{α:Type _}{l:List α}{i:Nat}(h:i<l.length):l[i]? = some l[i]:=List.getElem?_eq_getElem h
theorem dz{c:Prop}{h:Decidable c}(i:c){α:Sort _}{t e:α}:ite c t e=t:=if_pos i
theorem dA{α:Type _}(a b:α):(some a=some b)=(a=b):=Option.some.injEq a b
theorem dB{c:Prop}{h:Decidable c}(i:¬c){α:Sort _}{t e:α}:ite c t e=e:=if_neg i
theorem dC{α β:Type _}:bind=@Option.bind α β:=rfl
theorem dD{α:Type _}{a b:List α}:(a++b).length=a.length+b.length:=List.length_append
theorem dE(n:Nat):n<=n:=Nat.le_refl n
theorem dF{α β:Type _}(a:α)(b:β)(c:α)(d:β):((a,b)=(c,d))=(a=c/\b=d):=Prod.mk.injEq a b c d
theorem dG(n:Nat):0+n=n:=Nat.zero_add n
theorem dH{α:Type _}{l:List α}{i:Nat}{a:α}(e:l[i]? = some a):a∈l:=List.mem_of_getElem? e
theorem dI{α:Type _}{a:α}{l:List α}:(a::l).length=l.length+1:=rfl
theorem dJ{α:Type _}{a b:α}(h:some a=some b):a=b:=Option.some.inj h
theorem dK{α β:Type _}{f:α->β}{l:List α}{i:Nat}:(l.map f)[i]? =l[i]?.map f:=List.getElem?_map
theorem dL{a b c:Int}(h:a<=b)(i:0<=c):c*a<=c*b:=Int.mul_le_mul_of_nonneg_left h i
theorem dM{α:Type _}{l:List α}:l.length=0↔l=[]:=List.length_eq_zero_iff
theorem dN{α:Type _}{l:List α}{i:Nat}{a:α}:l.getD i a=l[i]?.getD a:=List.getD_eq_getElem?_getD
theorem dO(a b:Bool):((a&&b)=true)=(a=true/\b=true):=Bool.and_eq_true a b
theorem dP{α β:Type _}{b:α}{x:Option β}{f:β->α}:Option.map f x=some b↔∃a,x=some a/\f a=b:=Option.map_eq_some_iff
theorem dQ{α:Type _}:([]:List α).length=0:=rfl
theorem dR{α:Type _}{b:α}{l:List α}{a:α}:a∈b::l↔a=b\/a∈l:=List.mem_cons
theorem dS{α:Type _}{l:List α}{i j:Nat}:(l.take i)[j]? =if j<i then l[j]? else none:=List.getElem?_take
theorem dT{α:Type _}{l:List α}{i:Nat}(h:l.length<=i):l[i]? =none:=List.getElem?_eq_none h
theorem arn{n m:Nat}(k:Nat)(h:n<=m):n*k<=m*k:=Nat.mul_le_mul_right k h
theorem aro{α:Type _}{l:Array α}{i:Nat}(h:i<l.size):l[i]? =some l[i]:=Array.getElem?_eq_getElem h
theorem arp{α:Type _}{i:Nat}{l:List α}(h:l.length<=i):l.take i=l:=List.take_of_length_le h
theorem arq{α β:Type _}(a:α)(f:α->β):Option.map f (some a)=some (f a):=rfl
theorem arr{α:Type _}{i:Nat}{a:α}{l:List α}:l[i]? =some a↔∃h:i<l.length,l[i]=a:=List.getElem?_eq_some_iff
theorem ars{α:Type _}{l m:List α}{i:Nat}(h:i<l.length):(l++m)[i]? =l[i]?:=List.getElem?_append_left h
theorem art{α:Type _}{l:List α}{i j:Nat}{a:α}:(l.set i a)[j]? =if i=j then if i<l.length then some a else none else l[j]?:=List.getElem?_set
theorem aru{α:Type _}{l:List α}{m:List (List α)}:(l::m).flatten=l++m.flatten:=rfl
theorem arv{α:Type _}{a:α}:¬a∈([]:List α):=List.not_mem_nil
theorem arw{α:Type _}{l m:List α}(h:∀(i:Nat),l[i]? =m[i]?):l=m:=List.ext_getElem? h
theorem arx{α:Type _}{l m:List α}{i:Nat}(h:l.length<=i):(l++m)[i]? =m[i-l.length]?:=List.getElem?_append_right h
theorem ary{α:Type _}{l:Array α}{i:Nat}{d:α}:l.getD i d=l[i]?.getD d:=Array.getD_eq_getD_getElem?
theorem arz{α:Type _}{l:List α}{i j:Nat}:(l.drop i)[j]? =l[i+j]?:=List.getElem?_drop
theorem arA :(false=true)=False:=Bool.false_eq_true
theorem arB{α:Type _}{a:α}{l:List α}(h:a∈l):∃i:Nat,l[i]? =some a:=List.getElem?_of_mem h
theorem arC{α β:Type _}{l:List α}(f:α->β):(l.map f).length=l.length:=List.length_map f
theorem arD{α:Type _}{i:Nat}{b:α}{l:Array α}:l[i]? =some b↔∃h:i<l.size,l[i]=b:=Array.getElem?_eq_some_iff
theorem arE{α β:Type _}{l:List α}{f g:α->β}(h:∀a,a∈l->f a=g a):l.map f=l.map g:=List.map_congr_left h
theorem arF{α:Type _}{l:List α}:0<l.length↔l≠[]:=List.length_pos_iff
theorem arG(a b:Int):((a*b:Int):Rat)=a*b:=Rat.intCast_mul a b
theorem arH{a b:Rat}(h:0<=a)(i:0<=b):0<=a*b:=Rat.mul_nonneg h i
inductive aA where
 | dead
 | b (x:Bool)
 | n (k:IntKind) (x:Int)
 | s (x:ByteArray)
 | kJ
 | fQ
 | kM
 | ref (r k i off:Nat)
 | bw (r k cj len:Nat)
 | k8 (r c sz:Nat) (h:Option (Nat×Nat))
 | isl (sz:Nat) (es:List (List aA))
 | gv (sz:Nat) (es:List (List aA)) (i off:Nat)
 | hr (sz:Nat) (c:Option (List aA))
 | agg (c:List aA)
 | et (vs:List aA)
 | fn (f:Nat) (cap:List aA)
 deriving Inhabited
inductive hU where
 | live|li|gone
 deriving DecidableEq,Inhabited
structure aR where
 sz:Nat
 es:List (List aA)
 cY:hU
 deriving Inhabited
structure S where
 E:Nat->aA
 a7:Nat->Option (List aR)
abbrev mO (v:Value):Bool:=v.oneCell'
abbrev g9:=Nat->Nat->Option (Nat×Nat)
abbrev ln:=Nat->Nat->Option (Nat×Option (Nat×Nat))
abbrev ly:=Nat->Nat->Prop
inductive Pure:aA->Prop
 | dead:Pure .dead
 | b (x:Bool):Pure (.b x)
 | n (k:IntKind) (x:Int):Pure (.n k x)
 | s (x:ByteArray):Pure (.s x)
 | kJ:Pure .kJ
 | fQ:Pure .fQ
 | kM:Pure .kM
 | isl {sz:Nat} {es:List (List aA)} (h : ∀e∈es,∀x∈e,Pure x):Pure (.isl sz es)
 | gv {sz i off:Nat} {es:List (List aA)} (h : ∀e∈es,∀x∈e,Pure x):Pure (.gv sz es i off)
 | s9 (sz:Nat):Pure (.hr sz none)
 | sw {sz:Nat} {c:List aA} (h : ∀x∈c,Pure x):Pure (.hr sz (some c))
 | agg {c:List aA} (h : ∀x∈c,Pure x):Pure (.agg c)
 | et {c:List aA} (h : ∀x∈c,Pure x):Pure (.et c)
 | fn {f:Nat} {c:List aA} (h : ∀x∈c,Pure x):Pure (.fn f c)
def j3 (es:List (List aA)):Prop:= ∀e∈es,∀x∈e,Pure x
inductive Rel (w:World) (ok:Nat->Prop) (bi:ly) (bo:ln):aA->Value->Prop
 | dead (v:Value):Rel w ok bi bo .dead v
 | b (x:Bool):Rel w ok bi bo (.b x) (.bool x)
 | n (k:IntKind) (x:Int):Rel w ok bi bo (.n k x) (.int k x)
 | s (x:ByteArray):Rel w ok bi bo (.s x) (.string x)
 | kJ:Rel w ok bi bo .kJ (.pointer none)
 | fQ:Rel w ok bi bo .fQ (.slice none 0 0)
 | kM (a:Addr) (c:Nat):Rel w ok bi bo .kM (.slice (some a) 0 c)
 | tD {r k i off:Nat} (a:Option Addr) (hu:bi r k) (h : ∀sz p,bo r k≠some (sz,some p)):Rel w ok bi bo (.ref r k i off) (.pointer a)
 | ref {r k i off sz fv m:Nat} (hu:bi r k) (h:bo r k=some (sz,some (fv,m))):Rel w ok bi bo (.ref r k i off) (.pointer (some ⟨fv,i*sz+off,none⟩))
 | qt {r k cj len:Nat} (a:Option Addr) (l c:Nat) (hu:bi r k) (h:bo r k=none):Rel w ok bi bo (.bw r k cj len) (.slice a l c)
 | qQ {r k sz:Nat} (hu:bi r k) (h:bo r k=some (sz,none)):Rel w ok bi bo (.bw r k 0 0) (.slice none 0 0)
 | bw {r k cj len sz fv m c:Nat} {a:Option Addr} (hu:bi r k) (h:bo r k=some (sz,some (fv,m))) (aZ:len<=c) (a1:c<9223372036854775808)
  (hm:(cj+c)*sz=m/\(c=0\/a=some ⟨fv,cj*sz,none⟩)):Rel w ok bi bo (.bw r k cj len) (.slice a len c)
 | pU {r c sz:Nat} {v:Value} (h:Rel w ok bi bo (.isl sz []) v):Rel w ok bi bo (.k8 r c sz none) v
 | q8 {r c sz k n:Nat} {v:Value} (h:Rel w ok bi bo (.bw r (k+c) 0 n) v):Rel w ok bi bo (.k8 r c sz (some (k,n))) v
 | kT (sz:Nat) (a:Option Addr) (c:Nat) (h:a=none->c=0):Rel w ok bi bo (.isl sz []) (.slice a 0 c)
 | isl {sz:Nat} {es:List (List aA)} {fv off c:Nat} (cs:Nat->Value) (aO:ok fv) (ai:j3 es) (aZ : ∀e∈es,e.length=sz) (a1:es.length<=c)
  (hw : ∀(j:Nat) x,es.flatten[j]? = some x->w.cell? ⟨fv,off+j,none⟩=some (cs j)) (mB : ∀(j:Nat) x,es.flatten[j]? = some x->mO (cs j)=true)
  (ak : ∀(j:Nat) x,es.flatten[j]? = some x->Rel w ok bi bo x (cs j)):Rel w ok bi bo (.isl sz es) (.slice (some ⟨fv,off,none⟩) es.length c)
 | gv {sz:Nat} {es:List (List aA)} {fv o i off:Nat} (cs:Nat->Value) (aO:ok fv) (ai:j3 es) (aZ : ∀e∈es,e.length=sz)
  (hw : ∀(j:Nat) x,es.flatten[j]? = some x->w.cell? ⟨fv,o+j,none⟩=some (cs j)) (mB : ∀(j:Nat) x,es.flatten[j]? = some x->mO (cs j)=true)
  (ak : ∀(j:Nat) x,es.flatten[j]? = some x->Rel w ok bi bo x (cs j)):Rel w ok bi bo (.gv sz es i off) (.pointer (some ⟨fv,o+(i*sz+off),none⟩))
 | s9 (sz:Nat):Rel w ok bi bo (.hr sz none) (.pointer none)
 | sw {sz:Nat} {c:List aA} {v:Value} (h:Rel w ok bi bo (.gv sz [c] 0 0) v):Rel w ok bi bo (.hr sz (some c)) v
 | agg {c:List aA} (vs:List Value) (aZ:vs.length=c.length) (mB : ∀(j:Nat) v,vs[j]? = some v->mO v=true)
  (ak : ∀(j:Nat) x v,c[j]? = some x->vs[j]? = some v->Rel w ok bi bo x v):Rel w ok bi bo (.agg c) (.agg vs.toArray)
 | et {c:List aA} (vs:List Value) (aZ:vs.length=c.length)
  (ak : ∀(j:Nat) x v,c[j]? = some x->vs[j]? = some v->Rel w ok bi bo x v):Rel w ok bi bo (.et c) (.tuple vs.toArray)
 | fn {f:Nat} {c:List aA} (vs:List Value) (aZ:vs.length=c.length)
  (ak : ∀(j:Nat) x v,c[j]? = some x->vs[j]? = some v->Rel w ok bi bo x v):Rel w ok bi bo (.fn f c) (.func (.func f) #[] vs.toArray)
theorem Rel.mono {w b5:World}{ok nL:Nat->Prop}{bi pY:ly}{bo pq:ln}{a:aA}{v:Value}(h:Rel w ok bi bo a v)
 (pZ : ∀b,ok b->nL b) (hw : ∀b,ok b->b5.heap[b]? = w.heap[b]?)
 (lJ : ∀r k,bi r k->pY r k) (ol : ∀r k,bi r k->pq r k=bo r k\/pq r k=none):Rel b5 nL pY pq a v:=by
 have mB : ∀b o,ok b->b5.cell? ⟨b,o,none⟩=w.cell? ⟨b,o,none⟩:=fun b o aO=>World.cell?_of_block (hw b aO)
 induction h with
 | dead v=>exact .dead v
 | b x=>exact .b x
 | n k x=>exact .n k x
 | s x=>exact .s x
 | kJ=>exact .kJ
 | fQ=>exact .fQ
 | kM a c=>exact .kM a c
 | @tD r k i off a hu h =>
  refine .tD a (lJ r k hu) fun sz p=> ?_;rcases ol r k hu with e|e<;>rw[e]
  ·exact h sz p
  simp
 | @ref r k i off sz fv m hu h =>
  rcases ol r k hu with e|e
  ·exact .ref (lJ r k hu) (e.trans h)
  exact .tD _ (lJ r k hu) fun sz p=>by rw[e];simp
 | @qt r k cj len a l c hu h=>exact .qt a l c (lJ r k hu) (by rcases ol r k hu with e|e<;>rw[e];exact h)
 | @qQ r k sz hu h =>
  rcases ol r k hu with e|e
  ·exact .qQ (lJ r k hu) (e.trans h)
  exact .qt _ _ _ (lJ r k hu) e
 | @bw r k cj len sz fv m c a hu h aZ a1 hm =>
  rcases ol r k hu with e|e
  ·exact .bw (lJ r k hu) (e.trans h) aZ a1 hm
  exact .qt _ _ _ (lJ r k hu) e
 | pU h ih=>exact .pU ih
 | q8 h ih=>exact .q8 ih
 | kT sz a c h=>exact .kT sz a c h
 | isl cs aO ai aZ a1 IL jG ak ih=>exact .isl cs (pZ _ aO) ai aZ a1 (fun j x U=>(mB _ _ aO).trans (IL j x U)) jG ih
 | gv cs aO ai aZ IL jG ak ih=>exact .gv cs (pZ _ aO) ai aZ (fun j x U=>(mB _ _ aO).trans (IL j x U)) jG ih
 | s9 sz=>exact .s9 sz
 | sw h ih=>exact .sw ih
 | agg vs aZ jG ak ih=>exact .agg vs aZ jG ih
 | et vs aZ ak ih=>exact .et vs aZ ih
 | fn vs aZ ak ih=>exact .fn vs aZ ih
structure G where
 pO:World
 A:Nat->Prop
 tn:Nat->Prop
 N:Nat
 m:Nat
 sD:ly
 vK:ln
def S.bi (s:S)(r k:Nat):Prop:=k<((s.a7 r).getD []).length
def er (row:Option (List aR))(k:Nat):Option aR :=
 match row with
 | some l=>match l[k]? with
  | some o=>if o.cY = .gone then none else some o
  | none=>none
 | none=>none
def S.al (s:S)(r k:Nat):Option aR:=er (s.a7 r) k
def S.bo (s:S)(aD:g9):ln:=fun r k=>(s.al r k).map fun o=>(o.sz,aD r k)
def S.oW (s:S)(aD:g9)(b:Nat):Prop:= ∃r k o m,s.al r k=some o/\o.cY = .live/\aD r k=some (b,m)
def S.ok (s:S)(g:G)(aD:g9)(w:World)(b:Nat):Prop :=
 b<w.heap.size/\(g.A b\/g.pO.heap.size<=b\/g.tn b)/\ ¬s.oW aD b
def lr (w:World)(ok:Nat->Prop)(bi:ly)(bo:ln)(o:aR):Option (Nat×Nat)->Prop
 | none=>o.es=[]
 | some (fv,m)=> ∃c f6,w.heap[fv]? = some (.cells c f6 (0,0))/\c.size=m/\(∀e∈o.es,e.length=o.sz) /\
  ∀(j:Nat) x,o.es.flatten[j]? = some x-> ∃v,c[j]? = some v/\mO v=true/\Rel w ok bi bo x v
structure Im (g:G) (w:World):Prop where
 os:w.os=g.pO.os
 tape:w.tape=g.pO.tape
 output:w.output=g.pO.output
 size:g.pO.heap.size<=w.heap.size
 block : ∀b,b<g.pO.heap.size-> ¬g.tn b->w.heap[b]? = g.pO.heap[b]?
structure ky (g:G) (s:S) (aD:g9) (w:World):Prop where
 obj : ∀r k o,s.al r k=some o->lr w (s.ok g aD w) s.bi (s.bo aD) o (aD r k)
 inj : ∀r k o fN eh cD b m aF,s.al r k=some o->s.al fN eh=some cD->aD r k=some (b,m)->aD fN eh=some (b,aF)->r=fN/\k=eh
 own : ∀r k o b m,s.al r k=some o->aD r k=some (b,m)->g.pO.heap.size<=b\/g.tn b
 i3:Im g w
 mlt : ∀b,g.tn b->b<g.pO.heap.size
 qD : ∀b,g.A b->b<g.pO.heap.size
 stay : ∀j k,g.sD j k->s.bi j k/\(s.bo aD j k=g.vK j k\/s.bo aD j k=none)
 low : ∀j k,g.sD j k->j<g.m
structure dZ (g:G) (s:S) (aD:g9) (a:Act) (w:World):Prop extends ky g s aD w where
 env : ∀t,Rel w (s.ok g aD w) s.bi (s.bo aD) (s.E t) (a.tmps.getD t undef)
 defers:a.defers=[]
 mf:g.N<=a.tmps.size
def ofValue:Value->aA
 | .bool x=> .b x
 | .int k x=> .n k x
 | .string x=> .s x
 | .pointer none=> .kJ
 | .slice none 0 0=> .fQ
 | _=> .dead
theorem Wj {w:World}{ok:Nat->Prop}{bi:ly}{bo:ln}(v:Value):Rel w ok bi bo (ofValue v) v:=by unfold ofValue;split<;>constructor
def ga (E:Nat->aA):Operand->aA
 | .tmp t=>E t
 | .const v=>ofValue v
 | .global _=> .dead
 | .func f=> .fn f []
theorem dZ.eval {g:G}{s:S}{aD:g9}{a:Act}{w:World}(h:dZ g s aD a w)(x:Operand):
 Rel w (s.ok g aD w) s.bi (s.bo aD) (ga s.E x) (a.eval x):=by
 cases x with
 | tmp t=>exact h.env t
 | const v=>exact Wj v
 | global g=>exact .dead _
 | func f=>exact .fn [] rfl (fun j x v U=>by simp at U)
def aA.cells:aA->List aA
 | .agg c=>c
 | x=>[x]
def aA.one:aA->Bool
 | .dead | .agg _ | .et _=>false
 | _=>true
def aA.EF:aA->Bool
 | .dead | .et _=>false
 | _=>true
theorem aA.Wk {v:aA}(h:v.EF=true):v.one=true\/ ∃c,v = .agg c:=by cases v<;>first|exact .inl rfl|exact .inr ⟨_,rfl⟩|simp[aA.EF] at h
theorem Rel.mO {w:World}{ok:Nat->Prop}{bi:ly}{bo:ln}{a:aA}{v:Value}(h:Rel w ok bi bo a v)(bH:a.one=true):mO v=true:=by
 cases h with
 | sw h=>cases h;rfl
 | pU h=>cases h<;>rfl
 | q8 h=>cases h<;>rfl
 | _=>first|rfl|simp[aA.one] at bH
theorem Rel.cellsOf {w:World}{ok:Nat->Prop}{bi:ly}{bo:ln}{a:aA}{v:Value}(h:Rel w ok bi bo a v)(bH:a.one=true\/ ∃c,a = .agg c):
 ∃vs:List Value,v.cells=vs.toArray/\vs.length=a.cells.length/\(∀(j:Nat) x,vs[j]? = some x->VL.mO x=true) /\
  ∀(j:Nat) x u,a.cells[j]? = some x->vs[j]? = some u->Rel w ok bi bo x u:=by
 rcases bH with bH|⟨c,rfl⟩
 ·have a1:=h.mO bH
  refine⟨[v],?_,?_,?_,?_⟩
  ·cases v<;>first|rfl|simp[VL.mO,Value.oneCell'] at a1
  ·cases a<;>first|rfl|simp[aA.one] at bH
  ·intro j x U
   cases j with
   | zero=>simp at U;subst U;exact a1
   | succ j=>simp at U
  intro j x u U hu;have e:a.cells=[a]:=by cases a<;>first|rfl|simp[aA.one] at bH
  rw[e] at U
  cases j with
  | zero=>simp at U hu;subst U;subst hu;exact h
  | succ j=>simp at U
 cases h with
 | agg vs aZ mB ak=>exact⟨vs,rfl,aZ,mB,ak⟩
def S.put (s:S)(dst:Option Tmp)(v:aA):S :=
 match dst with
 | some t=>{s with E:=fun u=>if u=t then v else s.E u}
 | none=>s
def S.setRow (s:S)(r:Nat)(row:List aR):S:={s with a7:=fun q=>if q=r then some row else s.a7 q}
@[simp] theorem S.yY (s:S) (dst:Option Tmp) (v:aA):(s.put dst v).a7=s.a7:=by cases dst<;>rfl
@[simp] theorem S.apM (s:S) (r:Nat) (row:List aR):(s.setRow r row).E=s.E:=rfl
theorem HA {s cg:S}(h:cg.a7=s.a7):cg.al=s.al:=by funext r k;simp[S.al,h]
theorem EG {s cg:S}(h:cg.a7=s.a7):cg.bi=s.bi:=by funext r k;simp[S.bi,h]
theorem EH {s cg:S}(h:cg.a7=s.a7)(aD:g9):cg.bo aD=s.bo aD:=by unfold S.bo;rw[HA h]
theorem agK {s cg:S}(h:cg.a7=s.a7)(aD:g9):cg.oW aD=s.oW aD:=by unfold S.oW;rw[HA h]
theorem HB {s cg:S}(h:cg.a7=s.a7)(g:G)(aD:g9)(w:World):cg.ok g aD w=s.ok g aD w:=by funext b;unfold S.ok;rw[agK h]
theorem ky.congr {g:G}{s cg:S}{aD:g9}{w:World}(h:ky g s aD w)(e:cg.a7=s.a7):ky g cg aD w where
 obj:=by rw[HA e,EG e,EH e,HB e];exact h.obj
 inj:=by rw[HA e];exact h.inj
 own:=by rw[HA e];exact h.own
 i3:=h.i3
 mlt:=h.mlt
 qD:=h.qD
 stay:=by rw[EG e,EH e];exact h.stay
 low:=h.low
theorem ajh (a:Act)(dst:Option Tmp)(v:Value)(t:Nat)(gh:∀d,dst=some d->d<a.tmps.size):
 (a.put dst v).tmps.getD t undef=if dst=some t then v else a.tmps.getD t undef:=by
 cases dst with
 | none=>simp[Act.put]
 | some d =>
  have:=gh d rfl;simp only[Act.put,ary,Array.getElem?_setIfInBounds,dA];by_cases e:d=t
  ·subst e;simp[this]
  simp[e]
theorem dZ.put {g:G}{s:S}{aD:g9}{a:Act}{w:World}(h:dZ g s aD a w)(dst:Option Tmp){x:aA}{v:Value}
 (bI : ∀d,dst=some d->d<g.N) (ak:Rel w (s.ok g aD w) s.bi (s.bo aD) x v):dZ g (s.put dst x) aD (a.put dst v) w where
 toky:=h.toky.congr (S.yY s dst x)
 env:=by
  have e:=S.yY s dst x;rw[HB e,EG e,EH e];intro t;rw[ajh a dst v t fun d tV=>Nat.lt_of_lt_of_le (bI d tV) h.mf]
  cases dst with
  | none=>simpa [S.put] using h.env t
  | some d =>
   simp only[S.put,dA];by_cases e:t=d
   ·subst e;simpa using ak
   rw[dB e,dB (Ne.symm e)];exact h.env t
 defers:=by cases dst<;>exact h.defers
 mf:=by cases dst<;>simpa [Act.put] using h.mf
structure Step (g:G) (s:S) (aD:g9) (w:World) (cg:S) (cc:g9) (b5:World):Prop where
 bi : ∀r k,s.bi r k->cg.bi r k
 bo : ∀r k,s.bi r k->cg.bo cc r k=s.bo aD r k\/cg.bo cc r k=none
 live : ∀b,cg.oW cc b->s.oW aD b\/w.heap.size<=b
 heap : ∀b,b<w.heap.size-> ¬s.oW aD b->b5.heap[b]? = w.heap[b]?
 size:w.heap.size<=b5.heap.size
theorem Step.ok {g:G}{s cg:S}{aD cc:g9}{w b5:World}(h:Step g s aD w cg cc b5)(b:Nat)(aO:s.ok g aD w b):cg.ok g cc b5 b :=
 ⟨Nat.lt_of_lt_of_le aO.1 h.size,aO.2.1,fun aZ=>by
  rcases h.live b aZ with h1|h1
  ·exact aO.2.2 h1
  exact absurd aO.1 (by omega)⟩
theorem Step.rel {g:G}{s cg:S}{aD cc:g9}{w b5:World}(h:Step g s aD w cg cc b5){x:aA}{v:Value}
 (ak:Rel w (s.ok g aD w) s.bi (s.bo aD) x v):Rel b5 (cg.ok g cc b5) cg.bi (cg.bo cc) x v :=
 ak.mono h.ok (fun b aO=>h.heap b aO.1 aO.2.2) h.bi h.bo
theorem Step.obj {g:G}{s cg:S}{aD cc:g9}{w b5:World}(h:Step g s aD w cg cc b5){o:aR}{p:Option (Nat×Nat)}
 (ai : ∀b m,p=some (b,m)->b5.heap[b]? = w.heap[b]?) (an:lr w (s.ok g aD w) s.bi (s.bo aD) o p) :
 lr b5 (cg.ok g cc b5) cg.bi (cg.bo cc) o p:=by
 cases p with
 | none=>exact an
 | some q =>
  obtain⟨b,m⟩:=q;obtain⟨c,f6,h1,h2,R,aj⟩:=an;refine⟨c,f6,(ai b m rfl).trans h1,h2,R,fun j x U=> ?_⟩;obtain⟨v,e1,e2,bG⟩:=aj j x U;exact⟨v,e1,e2,h.rel bG⟩
theorem Step.stay {g:G}{s cg:S}{aD cc:g9}{w b5:World}(h:Step g s aD w cg cc b5)
 (bS : ∀j k,g.sD j k->s.bi j k/\(s.bo aD j k=g.vK j k\/s.bo aD j k=none)) : ∀j k,g.sD j k->cg.bi j k/\(cg.bo cc j k=g.vK j k\/cg.bo cc j k=none):=by
 intro j k ap;obtain⟨h1,h2⟩:=bS j k ap;refine⟨h.bi j k h1,?_⟩;rcases h.bo j k h1 with e|e
 ·rw[e];exact h2
 exact .inr e
theorem Im.step {g:G}{w b5:World}(h:Im g w)(h1:b5.os=w.os)(h2:b5.tape=w.tape)(R:b5.output=w.output)(aj:w.heap.size<=b5.heap.size)
 (aq : ∀b,b<g.pO.heap.size-> ¬g.tn b->b5.heap[b]? = w.heap[b]?):Im g b5 :=
 ⟨h1.trans h.os,h2.trans h.tape,R.trans h.output,Nat.le_trans h.size aj,fun b aO hm=>(aq b aO hm).trans (h.block b aO hm)⟩
theorem oE (s:S)(r:Nat)(row:List aR)(q k:Nat):(s.setRow r row).al q k=if q=r then er (some row) k else s.al q k:=by unfold S.al S.setRow;by_cases e:q=r<;>simp[e]
theorem qq (s:S)(r:Nat)(row:List aR)(q k:Nat):(s.setRow r row).bi q k↔(if q=r then k<row.length else s.bi q k):=by unfold S.bi S.setRow;by_cases e:q=r<;>simp[e]
theorem K3 {s:S}{r k:Nat}{o:aR}(h:s.al r k=some o):s.bi r k:=by
 unfold S.al er at h;unfold S.bi
 cases ak:s.a7 r with
 | none=>rw[ak] at h;simp at h
 | some l =>
  rw[ak] at h;simp only at h;rcases Nat.lt_or_ge k l.length with h1|h1
  ·simpa using h1
  rw[dT h1] at h;simp at h
theorem Ea {s:S}{r:Nat}(h:s.a7 r=none)(k:Nat): ¬s.bi r k:=by simp[S.bi,h]
theorem KA (s:S){r:Nat}{l row:List aR}(ak:s.a7 r=some l)(aZ:l.length<=row.length)(q k:Nat)(h:s.bi q k):(s.setRow r row).bi q k:=by
 rw[qq];by_cases e:q=r
 ·subst e;rw[dz rfl];simp[S.bi,ak] at h;omega
 rw[dB e];exact h
def g9.set (aD:g9)(r k:Nat)(p:Option (Nat×Nat)):g9:=fun q j=>if q=r/\j=k then p else aD q j
theorem pb (o:aR)(k:Nat):er (some [o]) k=if k=0/\o.cY≠ .gone then some o else none:=by
 unfold er
 cases k with
 | zero=>by_cases h:o.cY = .gone<;>simp[h]
 | succ k=>simp
theorem Rel.drew {w:World}{ok:Nat->Prop}{bi:ly}{bo:ln}{x:aA}{v:Value}(h:Rel w ok bi bo x v):Rel w.drew ok bi bo x v :=
 h.mono (fun _ h=>h) (fun _ _=>rfl) (fun _ _ h=>h) (fun _ _ _=> .inl rfl)
theorem lr.drew {w:World}{ok:Nat->Prop}{bi:ly}{bo:ln}{o:aR}{p:Option (Nat×Nat)}(h:lr w ok bi bo o p):lr w.drew ok bi bo o p:=by
 cases p with
 | none=>exact h
 | some q =>
  obtain⟨c,f6,h1,h2,R,aj⟩:=h;exact⟨c,f6,h1,h2,R,fun j x U=>let ⟨v,a,b,c⟩:=aj j x U;⟨v,a,b,c.drew⟩⟩
theorem ky.drew {g:G}{s:S}{aD:g9}{w:World}(h:ky g s aD w):ky g s aD w.drew :=
 {obj:=fun r k o an=>(h.obj r k o an).drew,inj:=h.inj,own:=h.own,i3:=⟨h.i3.os,h.i3.tape,h.i3.output,h.i3.size,h.i3.block⟩,mlt:=h.mlt,qD:=h.qD,stay:=h.stay,low:=h.low}
theorem dZ.drew {g:G}{s:S}{aD:g9}{a:Act}{w:World}(h:dZ g s aD a w):dZ g s aD a w.drew where
 toky:=h.toky.drew
 env:=fun t=>(h.env t).drew
 defers:=h.defers
 mf:=h.mf
theorem dZ.alloc {g:G}{s:S}{aD:g9}{a:Act}{w:World}(h:dZ g s aD a w){r:Nat}(ak:s.a7 r=none)(o:aR)(a4:o.cY = .live)
 (c:Array Value) (f6:TypeId) (hlen : ∀e∈o.es,e.length=o.sz)
 (a1 : ∀(j:Nat) x,o.es.flatten[j]? = some x-> ∃v,c[j]? = some v/\mO v=true/\Rel w (s.ok g aD w) s.bi (s.bo aD) x v) :
 ∃cc,cc r 0=some (w.heap.size,c.size)/\dZ g (s.setRow r [o]) cc a (w.alloc (.cells c f6)) /\
  ∀x v,Rel w (s.ok g aD w) s.bi (s.bo aD) x v->Rel (w.alloc (.cells c f6)) ((s.setRow r [o]).ok g cc (w.alloc (.cells c f6))) (s.setRow r [o]).bi ((s.setRow r [o]).bo cc) x v:=by
 have oR : ∀q k,q≠r->(aD.set r 0 (some (w.heap.size,c.size))) q k=aD q k:=fun q k a0=>by simp[g9.set,a0]
 have bC : ∀q k,q≠r->(s.setRow r [o]).al q k=s.al q k:=fun q k a0=>by rw[oE,dB a0]
 have Fg : ∀k,(s.setRow r [o]).al r k=if k=0 then some o else none:=fun k=>by rw[oE,dz rfl,pb];simp[a4]
 have xN : ∀q k p b m,s.al q k=some p->aD q k=some (b,m)->b<w.heap.size:=fun q k p b m ai a0=>by have:=h.obj q k p ai;rw[a0] at this;obtain⟨eG,pG,hn,_⟩:=this;exact(arD.1 hn).1
 have du:Step g s aD w (s.setRow r [o]) (aD.set r 0 (some (w.heap.size,c.size))) (w.alloc (.cells c f6)):=by
  refine⟨fun q k a0=>(qq _ _ _ _ _).2 (by rw[dB (by rintro rfl;exact Ea ak k a0)];exact a0),fun q k a0=> ?_,fun b aO=> ?_,fun b aO _=>heap_alloc_old w _ b aO,by simp⟩
  ·have dX:q≠r:=(by rintro rfl;exact Ea ak k a0);left;simp only[S.bo,bC q k dX,oR q k dX]
  obtain⟨q,k,p,m,h1,h2,R⟩:=aO;by_cases e:q=r
  ·subst e
   rw[Fg] at h1;by_cases e0:k=0
   ·subst e0;simp[g9.set] at R;right;omega
   simp[e0] at h1
  rw[bC q k e] at h1;rw[oR q k e] at R;exact .inl ⟨q,k,p,m,h1,h2,R⟩
 refine⟨aD.set r 0 (some (w.heap.size,c.size)),by simp[g9.set],?_,fun x v=>du.rel⟩;refine {toky:=⟨?_,?_,?_,?_,h.mlt,h.qD,du.stay h.stay,h.low⟩,env:=fun t=>du.rel (h.env t),defers:=h.defers,mf:=h.mf}
 ·intro q k p ai
  by_cases e:q=r
  ·subst e
   rw[Fg] at ai;by_cases e0:k=0
   ·subst e0;simp at ai;subst ai;simp only[g9.set,and_self,if_true];exact⟨c,f6,heap_alloc_new w _,rfl,hlen,fun j x U=>let ⟨v,e1,e2,bG⟩:=a1 j x U;⟨v,e1,e2,du.rel bG⟩⟩
   simp[e0] at ai
  rw[bC q k e] at ai;rw[oR q k e];exact du.obj (fun b m hm=>heap_alloc_old w _ b (xN q k p b m ai hm)) (h.obj q k p ai)
 ·intro q k p jY eh mX b m aF h1 h2 R aj
  by_cases e:q=r<;>by_cases fA:jY=r
  ·subst e;subst fA;rw[Fg] at h1 h2;by_cases e0:k=0<;>by_cases e1:eh=0<;>simp[e0,e1] at h1 h2;exact⟨rfl,by omega⟩
  ·subst e;rw[Fg] at h1;rw[bC _ _ fA] at h2;rw[oR _ _ fA] at aj;by_cases e0:k=0<;>simp[e0] at h1;subst e0;simp[g9.set] at R;have:=xN jY eh mX b aF h2 aj;omega
  ·subst fA;rw[bC _ _ e] at h1;rw[Fg] at h2;rw[oR _ _ e] at R;by_cases e0:eh=0<;>simp[e0] at h2;subst e0;simp[g9.set] at aj;have:=xN q k p b m h1 R;omega
  rw[bC _ _ e] at h1;rw[bC _ _ fA] at h2;rw[oR _ _ e] at R;rw[oR _ _ fA] at aj;exact h.inj q k p jY eh mX b m aF h1 h2 R aj
 ·intro q k p b m h1 h2
  by_cases e:q=r
  ·subst e;rw[Fg] at h1;by_cases e0:k=0<;>simp[e0] at h1;subst e0;simp[g9.set] at h2;left;have:=h.i3.size;omega
  rw[bC _ _ e] at h1;rw[oR _ _ e] at h2;exact h.own q k p b m h1 h2
 exact h.i3.step rfl rfl rfl (by simp) fun b aO _=>heap_alloc_old w _ b (Nat.lt_of_lt_of_le aO h.i3.size)
theorem XK (l:List aR)(k:Nat)(o cD:aR)(h:er (some l) k=some o)(a4:cD.cY≠ .gone)(j:Nat):
 er (some (l.set k cD)) j=if j=k then some cD else er (some l) j:=by
 unfold er at *
 have eS:k<l.length:=by
  rcases Nat.lt_or_ge k l.length with h1|h1
  ·exact h1
  simp[dT h1] at h
 by_cases e:j=k
 ·subst e;simp[eS,a4]
 simp only[art,dB (Ne.symm e),dB e]
theorem dZ.write {g:G}{s:S}{aD:g9}{a:Act}{w b5:World}(h:dZ g s aD a w){r k b m:Nat}{l:List aR}{o:aR}(ak:s.a7 r=some l)(an:s.al r k=some o)
 (a4:o.cY = .live) (ai:aD r k=some (b,m)) (es:List (List aA)) (c:Array Value) (f6:TypeId)
 (hw:b5.heap[b]? = some (.cells c f6 (0,0))) (gh:b5.heap.size=w.heap.size) (AY : ∀q,q≠b->b5.heap[q]? = w.heap[q]?)
 (u1:b5.os=w.os) (QH:b5.tape=w.tape) (Ql:b5.output=w.output) (hm:c.size=m)
 (hlen : ∀e∈es,e.length=o.sz)
 (a1 : ∀(j:Nat) x,es.flatten[j]? = some x-> ∃v,c[j]? = some v/\mO v=true/\Rel w (s.ok g aD w) s.bi (s.bo aD) x v) :
 dZ g (s.setRow r (l.set k {o with es})) aD a b5 /\
  ∀x v,Rel w (s.ok g aD w) s.bi (s.bo aD) x v->Rel b5 ((s.setRow r (l.set k {o with es})).ok g aD b5) (s.setRow r (l.set k {o with es})).bi ((s.setRow r (l.set k {o with es})).bo aD) x v:=by
 have iD:({o with es}:aR).cY≠ .gone:=by rw[a4];simp
 have bC : ∀q j,(s.setRow r (l.set k {o with es})).al q j=if q=r/\j=k then some {o with es} else s.al q j:=by
  intro q j;rw[oE];by_cases e:q=r
  ·subst e;have fj:er (some l) k=some o:=(by rw[<- ak];exact an);rw[dz rfl,XK l k o _ fj iD];by_cases e2:j=k<;>simp[e2,S.al,ak]
  simp[e]
 have tK:s.oW aD b:=⟨r,k,o,m,an,a4,ai⟩
 have du:Step g s aD w (s.setRow r (l.set k {o with es})) aD b5:=by
  refine⟨KA s ak (by simp),fun q j a0=> .inl ?_,fun q a0=> ?_,fun q a0 aZ=>AY q fun e=>aZ (e▸tK),Nat.le_of_eq gh.symm⟩
  ·simp only[S.bo,bC]
   by_cases e:q=r/\j=k
   ·obtain⟨rfl,rfl⟩:=e;simp[an]
   rw[dB e]
  obtain⟨jY,j,p,aF,h1,h2,R⟩:=a0;rw[bC] at h1;by_cases e:jY=r/\j=k
  ·obtain⟨rfl,rfl⟩:=e;exact .inl ⟨jY,j,o,aF,an,a4,R⟩
  rw[dB e] at h1;exact .inl ⟨jY,j,p,aF,h1,h2,R⟩
 refine⟨{toky:=⟨?_,?_,?_,?_,h.mlt,h.qD,du.stay h.stay,h.low⟩,env:=fun t=>du.rel (h.env t),defers:=h.defers,mf:=h.mf},fun x v=>du.rel⟩
 ·intro q j p m5
  rw[bC] at m5;by_cases e:q=r/\j=k
  ·obtain⟨rfl,rfl⟩:=e;simp at m5;subst m5;rw[ai];exact⟨c,f6,hw,hm,hlen,fun j x U=>let ⟨v,e1,e2,bG⟩:=a1 j x U;⟨v,e1,e2,du.rel bG⟩⟩
  rw[dB e] at m5;refine du.obj (fun kD aF mE=>AY kD ?_) (h.obj q j p m5);rintro rfl;exact e (h.inj q j p r k o kD aF m m5 an mE ai)
 ·intro q j p jY jZ mX kD jS iV h1 h2 R aj
  have key : ∀q j p,(s.setRow r (l.set k {o with es})).al q j=some p-> ∃mX,s.al q j=some mX:=by
   intro q j p a0;rw[bC] at a0;by_cases e:q=r/\j=k
   ·obtain⟨rfl,rfl⟩:=e;exact⟨o,an⟩
   rw[dB e] at a0;exact⟨p,a0⟩
  obtain⟨p1,aan⟩:=key q j p h1;obtain⟨p2,IM⟩:=key jY jZ mX h2;exact h.inj q j p1 jY jZ p2 kD jS iV aan IM R aj
 ·intro q j p kD aF h1 h2
  rw[bC] at h1;by_cases e:q=r/\j=k
  ·obtain⟨rfl,rfl⟩:=e;exact h.own q j o kD aF an h2
  rw[dB e] at h1;exact h.own q j p kD aF h1 h2
 refine h.i3.step u1 QH Ql (Nat.le_of_eq gh.symm) fun kD p3 mE=>AY kD ?_;rintro rfl;rcases h.own r k o kD m an ai with h1|h1
 ·omega
 exact mE h1
inductive vZ where
 | id
 | eJ (es:List (List aA))
 | hf (sz:Nat)
 | lP
 | cM (x:aA)
 | len (n:Nat)
 | v5 (sz:Nat)
 | at_ (j i n:Nat)
 | view (dU:Nat) (o:aR) (es:List (List aA))
 deriving Inhabited
inductive FY where
 | cr (c:vZ)
 | ptr (l:List vZ)
 | y9 (l:List vZ)
 | agg (l:List vZ)
 deriving Inhabited
inductive n9 where
 | a6 (c:FY)
 | comp (l:List FY)
 deriving Inhabited
inductive kg where
 | pure
 | box (l:List vZ)
 | cM (row:List aR)
 | bq (row:List aR)
 | rx (row:List aR)
 | drop
 deriving Inhabited
structure pr where
 bI:List (Nat×Nat):=[]
 lz:Option (Nat×Nat):=none
 deriving DecidableEq
inductive Src where
 | row (r:Nat)
 | al (r k:Nat) (o:aR)
 deriving Inhabited
structure B4 where
 a3:List Src:=[]
 di:List kg:=[]
 ac:List n9
 r:aA
 eU:List (List aR):=[]
 f7:n9:= .a6 (.cr .id)
 gK:List kg:=[]
 en:List Nat:=[]
 d4:Bool:=true
inductive f8 where
 | none
 | qK (t:Bool)
 | cn (c:List aA)
 | hp (o:aR) (c:List aA)
 | eA
 | call (c:B4)
 | aw (m:Nat) (o:Option aR:=Option.none)
 | gb (t:Nat) (v:aA) (a:f8)
 | w2 (r:Nat) (a:f8)
 | v7 (r n:Nat) (a:f8)
structure jX where
 val:aA
 hN:List (Nat×List aR):=[]
 gV:List Prop:=[]
def HS (P:Program)(t:TypeId):Bool :=
 match P.underlying t with
 | some (.struct _)|some (.array _ _)=>true
 | _=>false
def wK (qL:ar):ByteArray:=qL.foldl (fun r n=>r.push (UInt8.ofNat n.toNat)) ByteArray.empty
def bytesOf:List (List aA)->Option ar
 | []=>some []
 | [.n .u8 n]::es=>(bytesOf es).map (n :: ·)
 | _=>none
def elemAt (es:List (List aA))(i:Nat):f8->Option (List aA×List Prop)
 | .cn c=>some (c,[es[i]? = some c])
 | .hp _ c=>some (c,[es[i]? = some c])
 | _=>match es[i]? with
  | some c=>some (c,[])
  | none=>none
def rK (row:Option (List aR))(k:Nat):f8->Option (aR×List Prop)
 | .hp o _=>match row with
  | some row=>some (o,[er (some row) k=some o])
  | none=>none
 | _=>match er row k with
  | some o=>some (o,[])
  | none=>none
def uR (P:Program)(t:TypeId)(c:List aA)(off:Nat):Option aA :=
 if !((P.underlying t).isSome && (P.info? t).isSome) then none else
 if HS P t then (if off+P.cellsOf t<=c.length then some (.agg ((c.drop off).take (P.cellsOf t))) else none)
 else match c[off]? with
  | some x=>if x.one then some x else none
  | none=>none
def Qm (op:BinOp)(x y:aA):Option (aA×List Prop) :=
 match x,y with
 | .n k a,.n eh b =>
  match op with
  | .shl=>some (.n k (k.wrap (a*2 ^ (min b.toNat k.bits))),[0<=b])
  | .shr=>some (.n k (a.fdiv (2 ^ (min b.toNat k.bits))),[0<=b])
  | _=>if k≠eh then none else
   match op with
   | .add=>some (.n k (k.wrap (a+b)),[])
   | .sub=>some (.n k (k.wrap (a-b)),[])
   | .mul=>some (.n k (k.wrap (a*b)),[])
   | .quo=>some (.n k (k.wrap (a.tdiv b)),[b≠0])
   | .rem=>some (.n k (a.tmod b),[b≠0])
   | .and=>some (.n k (k.wrap ((BitVec.ofInt k.bits a &&& BitVec.ofInt k.bits b).toNat)),[])
   | .or=>some (.n k (k.wrap ((BitVec.ofInt k.bits a ||| BitVec.ofInt k.bits b).toNat)),[])
   | .xor=>some (.n k (k.wrap ((BitVec.ofInt k.bits a ^^^ BitVec.ofInt k.bits b).toNat)),[])
   | .eql=>some (.b (a == b),[])
   | .neq=>some (.b (a != b),[])
   | .lss=>some (.b (decide (a<b)),[])
   | .leq=>some (.b (decide (a<=b)),[])
   | .gtr=>some (.b (decide (b<a)),[])
   | .geq=>some (.b (decide (b<=a)),[])
   | _=>none
 | .s a,.s b =>
  match op with
  | .add=>some (.s (a++b),[a.size+b.size<9223372036854775808])
  | .eql=>some (.b (a.toList == b.toList),[])
  | .neq=>some (.b (!(a.toList == b.toList)),[])
  | _=>none
 | _,_=>none
def wM (P:Program)(t:TypeId)(x y:aA):Option Bool :=
 match P.underlying t,x,y with
 | some .bool,.b a,.b c=>some (a == c)
 | some (.pointer _),.kJ,.kJ=>some true
 | some (.pointer _),.gv ..,.kJ=>some false
 | some (.pointer _),.kJ,.gv .. => some false
 | some (.slice _),.fQ,.fQ=>some true
 | some (.slice _),.kM,.fQ=>some false
 | _,_,_=>none
def QI (op:UnOp)(x:aA):Option aA :=
 match op,x with
 | .neg,.n k a=>some (.n k (k.wrap (0-a)))
 | .not,.b a=>some (.b (!a))
 | _,_=>none
def fieldsOf (P:Program)(t:TypeId):Option (Array Field) :=
 match P.underlying t with
 | some (.struct nB)=>some nB
 | _=>none
def tL (P:Program)(t:TypeId):Option TypeId :=
 match P.underlying t with
 | some (.slice e)=>some e
 | _=>none
def uz (P:Program)(t:TypeId):Option (List aA) :=
 match P.info? t with
 | some i=>match i.zero with
  | some v=>if v.cells.toList.all (·.oneCell') then some (v.cells.toList.map ofValue) else none
  | none=>none
 | none=>none
def Io (P:Program)(t:TypeId):Option (Nat×TypeId) :=
 match P.underlying t with
 | some (.array n e)=>if (P.info? e).isSome/\P.cellsOf e≠0/\1<n then some (n,e) else none
 | _=>none
def tR (j:Int):List aA->List aA->Option (List aA)
 | [],[]=>some []
 | .n k x::a,.n eh y::b=>if k=eh then (tR j a b).map (.n k (if j=0 then x else y) :: ·) else none
 | _,_=>none
def PP (P:Program)(t:TypeId)(x mY:aA):Option jX :=
 match Io P t,x,mY with
 | some (2,e),.agg cs,.n _ j=>match uR P e cs (0*P.cellsOf e),uR P e cs (1*P.cellsOf e) with
  | some (.agg a),some (.agg b)=>(tR j a b).map fun c=>{val:= .agg c,gV:=[0<=j,j<2]}
  | _,_=>none
 | _,_,_=>none
def E5 (P:Program)(a7:Nat->Option (List aR))(t:TypeId)(x mY:aA)(dV:f8):Option jX :=
 match Io P t,x,mY with
 | some (n,e),.ref r k i off,.n _ j=>match rK (a7 r) k dV with
  | some (al,cf)=>match elemAt al.es i dV with
   | some (_,aU)=>some {val:= .ref r k i (off+j.toNat*P.cellsOf e),gV:=cf++aU++[0<=j,j<n]}
   | none=>none
  | none=>none
 | _,_,_=>none
def HT:aA->aA->aA
 | .fQ,.isl sz []=> .isl sz []
 | .kJ,.hr sz none=> .hr sz none
 | .fQ,.k8 r c sz none=> .k8 r c sz none
 | x,_=>x
def vz:List aA->List aA->List aA
 | x::z,y::c=>HT x y::vz z c
 | z,_=>z
def xA (z:List aA):f8->List aA
 | .cn c=>vz z c
 | _=>z
def setCells (c:List aA)(off:Nat)(vs:List aA):List aA:=c.take off++vs++c.drop (off+vs.length)
def wD:List aA->List (Nat×Nat×aA)->Option (List aA)
 | c,[]=>some c
 | c,(off,size,x)::rest =>
  if x.EF && x.cells.length=size && decide (off+size<=c.length) then wD (setCells c off x.cells) rest else none
def E6 (sz:Nat):List (List aA)->List (Nat×aA)->Option (List (List aA))
 | es,[]=>some es
 | es,(i,x)::rest=>if x.EF && x.cells.length=sz && decide (i<es.length) then E6 sz (es.set i x.cells) rest else none
def bJ:Option aA->Nat->Option (Nat×List Prop)
 | none,d=>some (d,[])
 | some (.n _ x),_=>some (x.toNat,[0<=x])
 | _,_=>none
def Pc (P:Program)(t:TypeId)(parts:List (Nat×aA)):Option jX :=
 match Io P t,uz P t with
 | some (_,e),some z=>(wD z (parts.map fun p=>(p.1*P.cellsOf e,P.cellsOf e,p.2))).map fun c=>{val:= .agg c}
 | _,_=>none
def gf (P:Program)(E:Nat->aA)(a7:Nat->Option (List aR))(a8:Nat)(o:Oper)(dV:f8):Option jX :=
 let j0:=ga E
 match o.op with
 | .move x | .assign x=>some {val:=j0 x}
 | .pick c a b =>
  match j0 c,dV with
  | .b x,.qK t=>some {val:=if t then j0 a else j0 b,gV:=[x=t]}
  | .b true,_=>some {val:=j0 a}
  | .b false,_=>some {val:=j0 b}
  | _,_=>none
 | .alloc t =>
  match uz P t with
  | some c=>some {val:= .ref a8 0 0 0,hN:=[(a8,[⟨c.length,[c],.live⟩])]}
  | none=>none
 | .box _ x =>
  match j0 x with
  | .agg c=>some {val:= .ref a8 0 0 0,hN:=[(a8,[⟨c.length,[c],.live⟩])]}
  | v=>if v.one then some {val:= .ref a8 0 0 0,hN:=[(a8,[⟨1,[[v]],.live⟩])]} else none
 | .load t x =>
  match j0 x with
  | .ref r k i off =>
   match rK (a7 r) k dV with
   | some (al,cf)=>match elemAt al.es i dV with
    | some (c,aU)=>match uR P t c off with
     | some v=>some {val:=v,gV:=cf++aU}
     | none=>none
    | none=>none
   | none=>none
  | .gv _ es i off =>
   match elemAt es i dV with
   | some (c,aU)=>match uR P t c off with
    | some v=>some {val:=v,gV:=aU}
    | none=>none
   | none=>none
  | _=>none
 | .store t x y =>
  match j0 x with
  | .ref r k i off =>
   match a7 r with
   | none=>none
   | some row =>
   match rK (some row) k dV with
   | some (al,cf) =>
    if al.cY≠ .live then none else
    let v:=j0 y
    if v.EF=false then none else
    if v.cells.length≠P.cellsOf t\/(P.info? t).isSome=false then none else
    match dV with
    | .eA=>if off=0 then some {val:= .dead,hN:=[(r,row.set k {al with es:=al.es.set i v.cells})],gV:=cf++[i<al.es.length,v.cells.length=al.sz]} else none
    | _=>match elemAt al.es i dV with
     | some (c,aU)=>if off+v.cells.length<=c.length then some {val:= .dead,hN:=[(r,row.set k {al with es:=al.es.set i (setCells c off v.cells)})],gV:=cf++aU} else none
     | none=>none
   | none=>none
  | _=>none
 | .nilCheck x =>
  match j0 x with
  | .ref r k i off=>match rK (a7 r) k dV with
   | some (al,cf)=>match elemAt al.es i dV with
    | some (_,aU)=>some {val:= .ref r k i off,gV:=cf++aU}
    | none=>none
   | none=>none
  | .gv sz es i off=>some {val:= .gv sz es i off}
  | .fn f c=>some {val:= .fn f c}
  | _=>none
 | .binOp op t x y _ =>
  match Qm op (j0 x) (j0 y) with
  | some (v,al)=>some {val:=v,gV:=al}
  | none=>match op with
   | .eql=>(wM P t (j0 x) (j0 y)).map fun r=>{val:= .b r}
   | .neq=>(wM P t (j0 x) (j0 y)).map fun r=>{val:= .b (!r)}
   | _=>none
 | .unOp op _ x=>(QI op (j0 x)).map fun v=>{val:=v}
 | .convert src dst x =>
  match P.underlying dst,j0 x with
  | some (.int k),.n _ a=>if (P.underlying src).isSome then some {val:= .n k (k.wrap a)} else none
  | some .string,.bw r k cj len =>
   match (tL P src).bind P.underlying,er (a7 r) k with
   | some (.int .u8),some al=>match bytesOf ((al.es.drop cj).take len) with
    | some qL=>if cj+len<=al.es.length/\al.sz=1 then some {val:= .s (wK qL)} else none
    | none=>none
   | _,_=>none
  | _,_=>none
 | .makeFunc (.func f) first captured =>
  if first.size=0 then some {val:= .fn f (captured.toList.map j0)} else none
 | .makeSlice t l c =>
  match tL P t,j0 l,j0 c with
  | some e,.n _ l,.n _ c =>
   match P.info? e,uz P e with
   | some i,some z=>if z.length=i.size then some {val:= .bw a8 0 0 l.toNat,hN:=[(a8,[⟨z.length,List.replicate l.toNat (xA z dV),.live⟩])],gV:=[0<=l,l<=c,(i.bytes:Int)*c<=281474976710656,c<9223372036854775808]} else none
   | _,_=>none
  | _,_,_=>none
 | .fieldAddr t x f =>
  match fieldsOf P t with
  | some nB=>match nB[f]? with
   | some fd=>if P.cellsOf fd.type=0 then none else
    match j0 x with
    | .ref r k i off=>match rK (a7 r) k dV with
     | some (al,cf)=>match elemAt al.es i dV with
      | some (_,aU)=>some {val:= .ref r k i (off+fd.offset),gV:=cf++aU}
      | none=>none
     | none=>none
    | .gv sz es i off=>some {val:= .gv sz es i (off+fd.offset)}
    | _=>none
   | none=>none
  | none=>none
 | .field t x f =>
  match fieldsOf P t with
  | some nB=>match nB[f]?,j0 x with
   | some fd,.agg c=>(uR P fd.type c fd.offset).map fun v=>{val:=v}
   | _,_=>none
  | none=>none
 | .indexAddr t x mY =>
  match tL P t,j0 mY with
  | some e,.n _ j =>
   match j0 x with
   | .isl sz es=>if sz=P.cellsOf e/\sz≠0 then some {val:= .gv sz es j.toNat 0,gV:=[0<=j,j<es.length]} else none
   | .bw r k cj len=>match a7 r with
    | some row=>match rK (some row) k dV with
     | some (al,cf)=>if al.sz=P.cellsOf e/\al.sz≠0 then some {val:= .ref r k (cj+j.toNat) 0,gV:=cf++[0<=j,j<len]} else none
     | none=>none
    | none=>none
   | _=>none
  | _,_=>E5 P a7 t (j0 x) (j0 mY) dV
 | .index t x mY =>
  match P.underlying t,j0 x,j0 mY with
  | some .string,.s s,.n _ j=>some {val:= .n .u8 (s.data.toList.getD j.toNat 0).toNat,gV:=[0<=j,j<s.size]}
  | _,_,_=>PP P t (j0 x) (j0 mY)
 | .extract x i =>
  match j0 x with
  | .et vs=>(vs[i]?).map fun v=>{val:=v}
  | _=>none
 | .slice t x cj aa none =>
  match P.underlying t,j0 x with
  | some (.slice e),.isl sz es =>
   match bJ (cj.map j0) 0,bJ (aa.map j0) es.length with
   | some (l,cf),some (h,aU)=>if sz=P.cellsOf e/\sz≠0 then some {val:= .isl sz ((es.drop l).take (h-l)),gV:=cf++aU++[l<=h,h<=es.length]} else none
   | _,_=>none
  | some (.slice e),.bw r k abt len =>
   match a7 r with
   | none=>none
   | some row=>match rK (some row) k dV with
    | none=>none
    | some (al,abu) =>
     match bJ (cj.map j0) 0,bJ (aa.map j0) len with
     | some (l,cf),some (h,aU)=>if al.sz=P.cellsOf e/\al.sz≠0 then some {val:= .bw r k (abt+l) (h-l),gV:=abu++cf++aU++[l<=h,h<=len]} else none
     | _,_=>none
  | some .string,.s s =>
   match bJ (cj.map j0) 0,bJ (aa.map j0) s.size with
   | some (l,cf),some (h,aU)=>some {val:= .s (s.extract l h),gV:=cf++aU++[l<=h,h<=s.size]}
   | _,_=>none
  | _,_=>none
 | .build t parts =>
  match fieldsOf P t,uz P t with
  | some nB,some z =>
   if nB.toList.all (fun f=>(P.info? f.type).isSome)=false then none else
   match parts.toList.mapM fun (p:Nat×Operand)=>(nB[p.1]?).map fun fd=>(fd.offset,P.cellsOf fd.type,j0 p.2) with
   | some l=>(wD z l).map fun c=>{val:= .agg c}
   | none=>none
  | _,_=>Pc P t (parts.toList.map fun p=>(p.1,j0 p.2))
 | .buildSlice t len parts =>
  match tL P t with
  | some e=>match uz P e with
   | some z =>
    if len*z.length>16777216\/z.length≠P.cellsOf e\/z.length=0 then none else
    match E6 z.length (List.replicate len z) (parts.toList.map fun p=>(p.1,j0 p.2)) with
    | some es=>some {val:= .bw a8 0 0 len,hN:=[(a8,[⟨z.length,es,.live⟩])]}
    | none=>none
   | none=>none
  | none=>none
 | .call {callee:= .builtin .len,args,argTypes} =>
  match args.toList.map j0,P.underlying (argTypes.getD 0 0),decide (argTypes.size=1) with
  | [.isl _ es],some (.slice _),true=>some {val:= .n .i64 es.length}
  | [.bw r k _ len],some (.slice _),true=>match a7 r with
   | some row=>match rK (some row) k dV with
    | some (_,cf)=>some {val:= .n .i64 len,gV:=cf}
    | none=>none
   | none=>none
  | [.fQ],some (.slice _),true=>some {val:= .n .i64 0}
  | [.s x],some .string,true=>some {val:= .n .i64 x.size}
  | _,_,_=>none
 | _=>none
theorem sT {α:Type}{sz:Nat}(bS:0<sz): ∀(es:List (List α)) (_ : ∀e∈es,e.length=sz) (j:Nat),
 es.flatten[j]? = (es[j / sz]?).bind (·[j % sz]?)
 | [],_,j=>by simp
 | e::es,h,j=>by
  have he:e.length=sz:=h e (by simp);rw[aru,List.getElem?_append];by_cases ap:j<sz
  ·rw[dz (by omega),Nat.div_eq_of_lt ap,Nat.mod_eq_of_lt ap];simp
  rw[dB (by omega),he,sT bS es (fun fA o2=>h fA (by simp[o2])) (j-sz)];have h1:j / sz=(j-sz) / sz+1:=Nat.div_eq_sub_div bS (by omega);have h2:j % sz=(j-sz) % sz:=Nat.mod_eq_sub_mod (by omega);rw[h1,h2];simp
theorem Hq {α:Type}{sz:Nat}{es:List (List α)}(aZ:∀e∈es,e.length=sz){i:Nat}{c:List α}(he:es[i]? = some c){j:Nat}(ap:j<sz):
 es.flatten[i*sz+j]? = c[j]? := by
 have bS:0<sz:=by omega
 rw[sT bS es aZ];have h1:(i*sz+j) / sz=i:=by rw[Nat.mul_comm,Nat.mul_add_div bS,Nat.div_eq_of_lt ap];omega
 have h2:(i*sz+j) % sz=j:=by rw[Nat.mul_comm,Nat.mul_add_mod,Nat.mod_eq_of_lt ap]
 rw[h1,h2,he];rfl
theorem Wl {α:Type}{sz:Nat}{es:List (List α)}(aZ:∀e∈es,e.length=sz){i:Nat}{c eG:List α}(he:es[i]? = some c)(a1:eG.length=sz)(j:Nat):
 (es.set i eG).flatten[j]? = if i*sz<=j/\j<i*sz+sz then eG[j-i*sz]? else es.flatten[j]? := by
 rcases Nat.eq_zero_or_pos sz with h0|bS
 ·subst h0
  have e1 : ∀(l:List (List α)),(∀e∈l,e.length=0)->l.flatten=[]:=by
   intro l aZ;induction l with
   | nil=>rfl
   | cons a l ih=>rw[aru,ih fun e he=>aZ e (by simp[he])];have:=aZ a (by simp);simp_all
  rw[e1 _ aZ,e1 (es.set i eG) (by
   intro e hm;rcases List.mem_or_eq_of_mem_set hm with h|h
   ·exact aZ e h
   exact h▸a1)]
  simp
 have QJ : ∀e∈es.set i eG,e.length=sz:=by
  intro e hm;rcases List.mem_or_eq_of_mem_set hm with h|h
  ·exact aZ e h
  exact h▸a1
 have aa:i<es.length:=by
  rcases Nat.lt_or_ge i es.length with h|h
  ·exact h
  rw[dT h] at he;simp at he
 rw[sT bS _ QJ,sT bS _ aZ];by_cases a0:j / sz=i
 ·have h1:i*sz<=j/\j<i*sz+sz:=by
   subst a0;constructor
   ·exact Nat.div_mul_le_self j sz
   ·have:=Nat.lt_div_mul_add (a:=j) bS;omega
  rw[dz h1,a0,List.getElem?_set_self aa];have:j % sz=j-i*sz:=(by subst a0;have:=Nat.div_add_mod j sz;rw[Nat.mul_comm] at this;omega);simp[this]
 have h1 : ¬(i*sz<=j/\j<i*sz+sz):=by rintro⟨a,b⟩;apply a0;obtain⟨d,rfl⟩ : ∃d,j=i*sz+d:=⟨j-i*sz,by omega⟩;rw[Nat.mul_comm i sz,Nat.mul_add_div bS,Nat.div_eq_of_lt (by omega)];omega
 rw[dB h1,List.getElem?_set_ne (Ne.symm a0)]
def r7 (w:World)(ok:Nat->Prop)(bi:ly)(bo:ln)(fv o sz:Nat)(es:List (List aA)):Prop :=
 (∀e∈es,e.length=sz)/\ ∀(j:Nat) x,es.flatten[j]? = some x-> ∃v,w.cell? ⟨fv,o+j,none⟩=some v/\mO v=true/\Rel w ok bi bo x v
theorem lr.rd {w:World}{ok:Nat->Prop}{bi:ly}{bo:ln}{o:aR}{fv m:Nat}(h:lr w ok bi bo o (some (fv,m))):r7 w ok bi bo fv 0 o.sz o.es:=by obtain⟨c,f6,h1,h2,R,aj⟩:=h;refine⟨R,fun j x U=> ?_⟩;obtain⟨v,e1,e2,bG⟩:=aj j x U;exact⟨v,by rw[cell_of_row w fv (0+j) c f6 (0,0) h1,dG];exact e1,e2,bG⟩
theorem Xa {P:Program}{t:TypeId}(h:(P.underlying t).isSome=true)(w:World):(isAgg t).run P w = .ok (HS P t) w:=by
 cases bI:P.underlying t with
 | none=>simp[bI] at h
 | some d=>cases d<;>simp[isAgg,HS,run_underlying bI,bI]
theorem xi {P:Program}{t:TypeId}(h:(P.info? t).isSome=true)(w:World):(sizeOf t).run P w = .ok (P.cellsOf t) w:=by
 cases aa:P.info? t with
 | none=>simp[aa] at h
 | some i=>simp[sizeOf,typeInfo,aa,Program.cellsOf]
theorem vv (b o n:Nat):(⟨b,o,none⟩:Addr).add n=⟨b,o+n,none⟩:=by unfold Addr.add;split<;>simp_all
theorem OQ {P:Program}{w:World}{ok:Nat->Prop}{bi:ly}{bo:ln}{fv o sz i off:Nat}{es:List (List aA)}{c:List aA}{t:TypeId}{x:aA}
 (kN:r7 w ok bi bo fv o sz es) (he:es[i]? = some c) (cv:uR P t c off=some x) :
 ∃v,(Instr.loadAt t (.pointer (some ⟨fv,o+(i*sz+off),none⟩))).run P w = .ok v w/\Rel w ok bi bo x v:=by
 have hlen:c.length=sz:=kN.1 c (dH he);unfold uR at cv;split at cv
 ·simp at cv
 rename_i aa;simp only[Bool.not_eq_true',Bool.not_eq_false,dO] at aa;have mB : ∀j,j<sz-> ∃y v,c[j]? = some y/\w.cell? ⟨fv,o+(i*sz+j),none⟩=some v/\mO v=true/\Rel w ok bi bo y v:=by intro j ap;have aY:c[j]? = some c[j]:=dy (by omega);obtain⟨v,e1,e2,bG⟩:=kN.2 (i*sz+j) c[j] (by rw[Hq kN.1 he ap,aY]);exact⟨_,v,aY,e1,e2,bG⟩
 simp only[Instr.loadAt,Instr.sureAddr,loadVar,Sem.run_bind,Sem.run_pure,Result.andThen,Xa aa.1,xi aa.2];split at cv;rotate_left
 ·rename_i vI
  have vI:HS P t=false:=(by simpa using vI);rw[vI];split at cv
  ·rename_i y aY
   split at cv
   ·simp at cv;subst cv
    have Fh:off<sz:=by
     rcases Nat.lt_or_ge off c.length with h|h
     ·omega
     rw[dT h] at aY;simp at aY
    obtain⟨oz,v,h0,e1,e2,bG⟩:=mB off Fh;rw[h0] at aY;simp at aY;subst aY;exact⟨v,by simp[e1],bG⟩
   simp at cv
  simp at cv
 rename_i vI;rw[vI];split at cv;rotate_left
 ·simp at cv
 rename_i hle;simp at cv;subst cv;have aZ:=run_loadCells (P:=P) w ⟨fv,o+(i*sz+off),none⟩ (P.cellsOf t) (fun j=>(w.cell? ⟨fv,o+(i*sz+(off+j)),none⟩).getD undef) (by intro j ap;obtain⟨y,v,-,e1,-,-⟩:=mB (off+j) (by omega);rw[vv,show o+(i*sz+off)+j=o+(i*sz+(off+j)) by omega,e1];rfl);refine⟨.agg (List.map (fun j=>(w.cell? ⟨fv,o+(i*sz+(off+j)),none⟩).getD undef) (List.range (P.cellsOf t))).toArray,by simp[aZ,Result.andThen,xi aa.2],?_⟩;refine .agg _ (by simp;omega) ?_ ?_
 ·intro j v bh;rw[dK,dP] at bh;obtain⟨q,oM,rfl⟩:=bh;obtain⟨rS,Fm⟩:=arr.1 oM;have a0:j<P.cellsOf t:=(by simpa using rS);obtain rfl:j=q:=(by simpa using Fm);obtain⟨y,v,-,e1,e2,-⟩:=mB (off+j) (by omega);rw[e1];exact e2
 intro j y v aY bh;rw[dK,dP] at bh;obtain⟨q,oM,rfl⟩:=bh;obtain⟨rS,Fm⟩:=arr.1 oM;have a0:j<P.cellsOf t:=by simpa using rS
 obtain rfl:j=q:=by simpa using Fm
 rw[dS,dz a0,arz] at aY;obtain⟨oz,v,h0,e1,e2,bG⟩:=mB (off+j) (by omega);rw[h0] at aY;simp at aY;subst aY;rw[e1];exact bG
theorem Vg {c:List aA}{off:Nat}{vs:List aA}(h:off+vs.length<=c.length):(setCells c off vs).length=c.length:=by simp[setCells];omega
theorem OH {c:List aA}{off:Nat}{vs:List aA}(h:off+vs.length<=c.length)(j:Nat):
 (setCells c off vs)[j]? = if off<=j/\j<off+vs.length then vs[j-off]? else c[j]? := by
 unfold setCells;rw[List.append_assoc,List.getElem?_append];have h1:(c.take off).length=off:=by simp;omega
 rw[h1];by_cases a:j<off
 ·rw[dz a,dB (by omega),dS,dz a]
 rw[dB a,List.getElem?_append];by_cases b:j<off+vs.length
 ·rw[dz (by omega),dz ⟨by omega,b⟩]
 rw[dB (by omega),dB (by omega),arz];congr 1;omega
theorem ak8 {c:Array Value}{p:Nat}{vs:List Value}(h:p+vs.length<=c.size)(j:Nat):
 (c.toList.take p++vs++c.toList.drop (p+vs.length)).toArray[j]? = if p<=j/\j<p+vs.length then vs[j-p]? else c[j]? := by
 rw[List.getElem?_toArray,List.append_assoc,List.getElem?_append];have h1:(c.toList.take p).length=p:=by simp;omega
 rw[h1];by_cases a:j<p
 ·rw[dz a,dB (by omega),dS,dz a,Array.getElem?_toList]
 rw[dB a,List.getElem?_append];by_cases b:j<p+vs.length
 ·rw[dz (by omega),dz ⟨by omega,b⟩]
 rw[dB (by omega),dB (by omega),arz,Array.getElem?_toList];congr 1;omega
theorem ag4 {P:Program}{g:G}{s:S}{aD:g9}{a:Act}{w:World}(h:dZ g s aD a w){r k b m i off:Nat}{l:List aR}{o:aR}{c:List aA}
 (ak:s.a7 r=some l) (an:s.al r k=some o) (a4:o.cY = .live) (ai:aD r k=some (b,m)) (he:o.es[i]? = some c)
 {t:TypeId} (QK:(P.info? t).isSome=true) {x:aA} {v:Value} (U:Rel w (s.ok g aD w) s.bi (s.bo aD) x v) (o0:x.one=true\/ ∃c,x = .agg c)
 (gh:x.cells.length=P.cellsOf t) (ke:off+x.cells.length<=c.length) :
 ∃b5,(Instr.storeAt t (.pointer (some ⟨b,i*o.sz+off,none⟩)) v).run P w = .ok () b5 /\
  dZ g (s.setRow r (l.set k {o with es:=o.es.set i (setCells c off x.cells)})) aD a b5:=by
 obtain⟨vs,bh,tW,mB,gO⟩:=U.cellsOf o0;have bC:=h.obj r k o an;rw[ai] at bC;obtain⟨c1,f6,h1,h2,R,aj⟩:=bC;have hlen:c.length=o.sz:=R c (dH he)
 have Fi:i*o.sz+off+vs.length<=c1.size:=by
  rcases Nat.eq_zero_or_pos o.sz with cK|cK
  ·have:off=0:=(by omega);have:vs.length=0:=(by omega);rw[cK];omega
  have aZ:o.es.flatten[i*o.sz+(o.sz-1)]? = some (c[o.sz-1]'(by omega)):=(by rw[Hq R he (by omega)];exact dy (by omega));obtain⟨abv,e1,-,-⟩:=aj _ _ aZ;have:=(arD.1 e1).1;omega
 have ps:=run_storeCells_at P b (i*o.sz+off) f6 vs 0 c1 w h1 (by simpa using Fi) (fun abv IP=>by obtain⟨q,a0⟩:=arB IP;exact mB q abv a0);simp only[Nat.add_zero] at ps
 have lh:(Instr.storeAt t (.pointer (some ⟨b,i*o.sz+off,none⟩)) v).run P w =
  .ok () (w.setRow b (c1.toList.take (i*o.sz+off)++vs++c1.toList.drop (i*o.sz+off+vs.length)).toArray):=by
  have bS:v.cells.size=P.cellsOf t:=(by rw[bh];simpa using tW.trans gh);simp only[Instr.storeAt,Instr.sureAddr,storeVar,Sem.run_bind,Sem.run_pure,Result.andThen,xi QK,bS,ne_eq,not_true_eq_false,if_false];rw[bh];simpa using ps
 refine⟨_,lh,?_⟩;have amk:(w.setRow b (c1.toList.take (i*o.sz+off)++vs++c1.toList.drop (i*o.sz+off+vs.length)).toArray).heap.size=w.heap.size:=size_setRow _ _ _;have wN:(setCells c off x.cells).length=o.sz:=by rw[Vg ke];exact hlen
 refine(h.write ak an a4 ai _ _ f6 (setRow_heap w b c1 _ f6 _ h1) amk (fun q a0=>setRow_other w b q _ a0) rfl rfl rfl ?_ ?_ ?_).1
 ·simp;omega
 ·intro e hm
  rcases List.mem_or_eq_of_mem_set hm with dc|dc
  ·exact R e dc
  exact dc▸wN
 intro j y aY;rw[ak8 Fi];rw[Wl R he wN] at aY;by_cases o3:i*o.sz<=j/\j<i*o.sz+o.sz
 ·rw[dz o3,OH ke] at aY
  by_cases ZY:off<=j-i*o.sz/\j-i*o.sz<off+x.cells.length
  ·rw[dz ZY] at aY;rw[dz ⟨by omega,by omega⟩];have a0:j-(i*o.sz+off)<vs.length:=(by omega);refine⟨vs[j-(i*o.sz+off)],dy a0,mB _ _ (dy a0),gO (j-i*o.sz-off) y _ aY ?_⟩;rw[show j-i*o.sz-off=j-(i*o.sz+off) by omega];exact dy a0
  rw[dB ZY] at aY;rw[dB (by omega)];refine aj j y ?_;rw[show j=i*o.sz+(j-i*o.sz) by omega,Hq R he (by omega)];exact aY
 rw[dB o3] at aY;rw[dB (by rw[tW];omega)];exact aj j y aY
def S.ko (s:S)(u:List (Nat×List aR)):S:=u.foldl (fun s p=>s.setRow p.1 p.2) s
@[simp] theorem S.apN (s:S):s.ko []=s:=rfl
@[simp] theorem S.apO (s:S) (p:Nat×List aR):s.ko [p]=s.setRow p.1 p.2:=rfl
section
variable {w:World} {ok:Nat->Prop} {bi:ly} {bo:ln} {v:Value}
theorem Rel.yZ {x:Bool}(h:Rel w ok bi bo (.b x) v):v = .bool x:=by cases h;rfl
theorem Rel.rH {k:IntKind}{x:Int}(h:Rel w ok bi bo (.n k x) v):v = .int k x:=by cases h;rfl
theorem Rel.E7 {x:ByteArray}(h:Rel w ok bi bo (.s x) v):v = .string x:=by cases h;rfl
theorem Rel.AG (h:Rel w ok bi bo .kJ v):v = .pointer none:=by cases h;rfl
theorem Rel.tB (h:Rel w ok bi bo .fQ v):v = .slice none 0 0:=by cases h;rfl
theorem Rel.Lj (h:Rel w ok bi bo .kM v): ∃a c,v = .slice (some a) 0 c:=by cases h;exact⟨_,_,rfl⟩
theorem Rel.XL {sz:Nat}(h:Rel w ok bi bo (.hr sz none) v):v = .pointer none:=by cases h;rfl
theorem Rel.Pd {sz:Nat}{c:List aA}(h:Rel w ok bi bo (.hr sz (some c)) v):Rel w ok bi bo (.gv sz [c] 0 0) v:=by cases h;assumption
theorem Rel.LF {f:Nat}{c:List aA}(h:Rel w ok bi bo (.fn f c) v): ∃vs:List Value,v = .func (.func f) #[] vs.toArray/\vs.length=c.length /\
 ∀(j:Nat) x u,c[j]? = some x->vs[j]? = some u->Rel w ok bi bo x u:=by
 cases h with|fn vs aZ ak=>exact⟨vs,rfl,aZ,ak⟩
theorem Rel.EO {c:List aA}(h:Rel w ok bi bo (.agg c) v): ∃vs:List Value,v = .agg vs.toArray/\vs.length=c.length/\(∀(j:Nat) u,vs[j]? = some u->VL.mO u=true) /\
 ∀(j:Nat) x u,c[j]? = some x->vs[j]? = some u->Rel w ok bi bo x u:=by
 cases h with|agg vs aZ a1 ak=>exact⟨vs,rfl,aZ,a1,ak⟩
theorem Rel.EP {c:List aA}(h:Rel w ok bi bo (.et c) v): ∃vs:List Value,v = .tuple vs.toArray/\vs.length=c.length /\
 ∀(j:Nat) x u,c[j]? = some x->vs[j]? = some u->Rel w ok bi bo x u:=by
 cases h with|et vs aZ ak=>exact⟨vs,rfl,aZ,ak⟩
theorem Rel.AQ {r k i off sz:Nat}{p:Option (Nat×Nat)}(h:Rel w ok bi bo (.ref r k i off) v)(cv:bo r k=some (sz,p)):
 p=none\/ ∃b m,p=some (b,m)/\v = .pointer (some ⟨b,i*sz+off,none⟩):=by
 cases h with
 | tD a hu a2 =>
  cases p with
  | none=>exact .inl rfl
  | some q=>exact absurd cv (a2 _ _)
 | ref hu h =>
  rw[cv] at h;simp only[dA,dF] at h;obtain⟨rfl,rfl⟩:=h;exact .inr ⟨_,_,rfl,rfl⟩
theorem Rel.Xb {r k i off sz b m:Nat}(h:Rel w ok bi bo (.ref r k i off) v)(cv:bo r k=some (sz,some (b,m)))(ZZ:Nat):
 Rel w ok bi bo (.ref r k i ZZ) (.pointer (some ⟨b,i*sz+ZZ,none⟩)):=by
 cases h with
 | tD a hu a2=>exact absurd cv (a2 _ _)
 | ref hu h=>exact .ref hu cv
theorem Rel.EQ {sz i off:Nat}{es:List (List aA)}(h:Rel w ok bi bo (.gv sz es i off) v): ∃fv o,(ok fv/\j3 es)/\v = .pointer (some ⟨fv,o+(i*sz+off),none⟩)/\r7 w ok bi bo fv o sz es:=by
 cases h with
 | gv cs aO ai aZ hw a1 ak=>exact⟨_,_,⟨aO,ai⟩,rfl,aZ,fun j x U=>⟨cs j,hw j x U,a1 j x U,ak j x U⟩⟩
theorem Rel.HJ {r k cj len sz:Nat}{p:Option (Nat×Nat)}(h:Rel w ok bi bo (.bw r k cj len) v)(cv:bo r k=some (sz,p)):
 (p=none/\cj=0/\len=0/\v = .slice none 0 0)\/ ∃b m a c,p=some (b,m)/\v = .slice a len c/\len<=c/\c<9223372036854775808/\(c=0\/(a=some ⟨b,cj*sz,none⟩/\(cj+c)*sz=m)):=by
 cases h with
 | qt a l c hu a2=>rw[cv] at a2;simp at a2
 | qQ hu h =>
  rw[cv] at h;simp only[dA,dF] at h;exact .inl ⟨h.2,rfl,rfl,rfl⟩
 | bw hu h aZ a1 hm =>
  rw[cv] at h;simp only[dA,dF] at h;obtain⟨rfl,rfl⟩:=h;exact .inr ⟨_,_,_,_,rfl,rfl,aZ,a1,hm.2.imp id fun e=>⟨e,hm.1⟩⟩
theorem Rel.AH {r k cj len sz:Nat}{p:Option (Nat×Nat)}(h:Rel w ok bi bo (.bw r k cj len) v)(cv:bo r k=some (sz,p)):
 (p=none/\cj=0/\len=0/\v = .slice none 0 0)\/ ∃b m a c,p=some (b,m)/\v = .slice a len c/\len<=c/\c<9223372036854775808/\(cj+c)*sz=m/\(c=0\/a=some ⟨b,cj*sz,none⟩):=by
 cases h with
 | qt a l c hu a2=>rw[cv] at a2;simp at a2
 | qQ hu h =>
  rw[cv] at h;simp only[dA,dF] at h;exact .inl ⟨h.2,rfl,rfl,rfl⟩
 | bw hu h aZ a1 hm =>
  rw[cv] at h;simp only[dA,dF] at h;obtain⟨rfl,rfl⟩:=h;exact .inr ⟨_,_,_,_,rfl,rfl,aZ,a1,hm⟩
theorem Rel.xr {sz:Nat}{es:List (List aA)}(h:Rel w ok bi bo (.isl sz es) v):
 (es=[]/\ ∃a c,v = .slice a 0 c/\(a=none->c=0))\/ ∃fv off c,(ok fv/\j3 es)/\v = .slice (some ⟨fv,off,none⟩) es.length c/\es.length<=c/\r7 w ok bi bo fv off sz es:=by
 cases h with
 | kT sz a c h=>exact .inl ⟨rfl,a,c,rfl,h⟩
 | isl cs aO ai aZ a1 hw jG ak=>exact .inr ⟨_,_,_,⟨aO,ai⟩,rfl,a1,aZ,fun j x U=>⟨cs j,hw j x U,jG j x U,ak j x U⟩⟩
theorem r7.isl {fv off c sz:Nat}{es:List (List aA)}(h:r7 w ok bi bo fv off sz es)(aO:ok fv/\j3 es)(a1:es.length<=c):Rel w ok bi bo (.isl sz es) (.slice (some ⟨fv,off,none⟩) es.length c):=by
 have U : ∀j:Nat,∃v,∀x,es.flatten[j]? = some x->w.cell? ⟨fv,off+j,none⟩=some v/\VL.mO v=true/\Rel w ok bi bo x v:=by
  intro j
  cases ap:es.flatten[j]? with
  | none=>exact⟨undef,fun x U=>by simp at U⟩
  | some y =>
   obtain⟨v,h1⟩:=h.2 j y ap;exact⟨v,fun x U=>by simp at U;subst U;exact h1⟩
 exact .isl (fun j=>(U j).choose) aO.1 aO.2 h.1 a1 (fun j x ap=>((U j).choose_spec x ap).1) (fun j x ap=>((U j).choose_spec x ap).2.1) (fun j x ap=>((U j).choose_spec x ap).2.2)
theorem r7.gv {fv o i off sz:Nat}{es:List (List aA)}(h:r7 w ok bi bo fv o sz es)(aO:ok fv/\j3 es):Rel w ok bi bo (.gv sz es i off) (.pointer (some ⟨fv,o+(i*sz+off),none⟩)):=by
 have U : ∀j:Nat,∃v,∀x,es.flatten[j]? = some x->w.cell? ⟨fv,o+j,none⟩=some v/\VL.mO v=true/\Rel w ok bi bo x v:=by
  intro j
  cases ap:es.flatten[j]? with
  | none=>exact⟨undef,fun x U=>by simp at U⟩
  | some y =>
   obtain⟨v,h1⟩:=h.2 j y ap;exact⟨v,fun x U=>by simp at U;subst U;exact h1⟩
 exact .gv (fun j=>(U j).choose) aO.1 aO.2 h.1 (fun j x ap=>((U j).choose_spec x ap).1) (fun j x ap=>((U j).choose_spec x ap).2.1) (fun j x ap=>((U j).choose_spec x ap).2.2)
end
def Fin (P:Program)(g:G)(s:S)(a:Act)(w:World)(o:Oper)(bM:jX):Prop :=
 ∃v b5 cc,((execOp a.eval o).run P w = .ok (.value v) b5\/((execOp a.eval o).run P w = .ok .skip b5/\v=undef)) /\
  dZ g (s.ko bM.hN) cc a b5/\Rel b5 ((s.ko bM.hN).ok g cc b5) (s.ko bM.hN).bi ((s.ko bM.hN).bo cc) bM.val v
section
variable {P:Program} {g:G} {s:S} {aD:g9} {a:Act} {w:World} {o:Oper} {dV:f8} {a8:Nat} {bM:jX}
theorem kj (h:dZ g s aD a w){v:Value}(lh:(execOp a.eval o).run P w = .ok (.value v) w)(hu:bM.hN=[])
 (ak:Rel w (s.ok g aD w) s.bi (s.bo aD) bM.val v):Fin P g s a w o bM :=
 ⟨v,w,aD,.inl lh,by rw[hu];exact h,by rw[hu];exact ak⟩
theorem Yp {x:Operand}(h:dZ g s aD a w)(an:o.op = .move x\/o.op = .assign x)(ay:gf P s.E s.a7 a8 o dV=some bM):Fin P g s a w o bM:=by
 have:bM={val:=ga s.E x}:=by rcases an with an|an<;>simp[gf,an] at ay<;>exact ay.symm
 subst this;refine kj (v:=a.eval x) h ?_ rfl (h.eval x);rcases an with an|an<;>simp[execOp,an]
theorem akp {c x y:Operand}(h:dZ g s aD a w)(an:o.op = .pick c x y)(ay:gf P s.E s.a7 a8 o dV=some bM)(da:∀p∈bM.gV,p):Fin P g s a w o bM:=by
 have a1:=h.eval c;simp only[gf,an] at ay
 have key : ∀t:Bool,ga s.E c = .b t->bM.hN=[]->bM.val=(if t then ga s.E x else ga s.E y)->Fin P g s a w o bM:=by
  intro t cv hu bh;rw[cv] at a1;have e:a.eval c = .bool t:=a1.yZ;refine kj (v:=if t then a.eval x else a.eval y) h (by simp[execOp,an,e,asBool]) hu ?_;rw[bh];cases t
  ·exact h.eval y
  exact h.eval x
 split at ay
 ·rename_i z t cK;simp at ay;subst ay;have e:z=t:=da _ (by simp);subst e;exact key z cK rfl rfl
 ·rename_i cK _;simp at ay;subst ay;exact key true cK rfl rfl
 ·rename_i cK _;simp at ay;subst ay;exact key false cK rfl rfl
 simp at ay
theorem Lk (h:dZ g s aD a w)(gi:s.a7 a8=none){v:Value}{al:aR}{c:Array Value}{f6:TypeId}(a4:al.cY = .live)
 (lh:(execOp a.eval o).run P w = .ok (.value v) (w.alloc (.cells c f6))) (hu:bM.hN=[(a8,[al])]) (hlen : ∀e∈al.es,e.length=al.sz)
 (a1 : ∀(j:Nat) x,al.es.flatten[j]? = some x-> ∃v,c[j]? = some v/\mO v=true/\Rel w (s.ok g aD w) s.bi (s.bo aD) x v)
 (hval : ∀(b5:World) (nL:Nat->Prop) (pY:ly) (pq:ln),pY a8 0->pq a8 0=some (al.sz,some (w.heap.size,c.size))->Rel b5 nL pY pq bM.val v):Fin P g s a w o bM:=by
 obtain⟨cc,ai,bS,-⟩:=h.alloc gi al a4 c f6 hlen a1;have h1:(s.setRow a8 [al]).bi a8 0:=by rw[qq];simp
 have h2:(s.setRow a8 [al]).bo cc a8 0=some (al.sz,some (w.heap.size,c.size)):=by simp[S.bo,oE,pb,a4,ai]
 exact⟨v,_,cc,.inl lh,by rw[hu];exact bS,by rw[hu];exact hval _ _ _ _ h1 h2⟩
theorem Hr {t:TypeId}{z:List aA}(cK:uz P t=some z): ∃i fO,P.info? t=some i/\i.zero=some fO/\z=fO.cells.toList.map ofValue /\
 ∀(j:Nat) x,z[j]? = some x-> ∃v,fO.cells[j]? = some v/\mO v=true/\ ∀(w:World) (ok:Nat->Prop) (bi:ly) (bo:ln),Rel w ok bi bo x v:=by
 unfold uz at cK
 cases aa:P.info? t with
 | none=>simp[aa] at cK
 | some i =>
  cases nv:i.zero with
  | none=>simp[aa,nv] at cK
  | some fO =>
   simp only[aa,nv] at cK;split at cK
   ·rename_i q9;simp only[dA] at cK;refine⟨i,fO,rfl,nv,cK.symm,fun j x U=> ?_⟩;subst cK;rw[dK,dP] at U;obtain⟨v,bh,rfl⟩:=U;refine⟨v,by rw[<- Array.getElem?_toList];exact bh,?_,fun w ok bi bo=>Wj v⟩;exact List.all_eq_true.1 q9 v (dH bh)
   simp at cK
theorem aji {t:TypeId}(h:dZ g s aD a w)(gi:s.a7 a8=none)(an:o.op = .alloc t)(ay:gf P s.E s.a7 a8 o dV=some bM):Fin P g s a w o bM:=by
 simp only[gf,an] at ay;split at ay
 ·rename_i z cK
  obtain⟨i,fO,aa,nv,e,mB⟩:=Hr cK;simp only[dA] at ay;subst ay;refine Lk (v:= .pointer (some ⟨w.heap.size,0,none⟩)) (c:=fO.cells) (f6:=t) (al:=⟨z.length,[z],.live⟩) h gi rfl ?_ rfl (by simp) ?_ ?_
  ·simp[execOp,an,Instr.alloc,zeroValue,typeInfo,aa,nv,newVar,newRow]
  ·intro j x U;simp only[aru,List.flatten_nil,List.append_nil] at U;obtain⟨v,h1,h2,R⟩:=mB j x U;exact⟨v,h1,h2,R _ _ _ _⟩
  intro b5 nL pY pq hu cv;have:=Rel.ref (w:=b5) (ok:=nL) (i:=0) (off:=0) hu cv;simpa using this
 simp at ay
theorem ak9 {t:TypeId}{x:Operand}(h:dZ g s aD a w)(gi:s.a7 a8=none)(an:o.op = .box t x)(ay:gf P s.E s.a7 a8 o dV=some bM):Fin P g s a w o bM:=by
 simp only[gf,an] at ay;have U:=h.eval x
 have key : ∀al:aR,al.cY = .live->al.es=[(ga s.E x).cells]->al.sz=(ga s.E x).cells.length->((ga s.E x).one=true\/ ∃c,ga s.E x = .agg c) ->
  bM.hN=[(a8,[al])]->bM.val = .ref a8 0 0 0->Fin P g s a w o bM:=by
  intro al a4 jP gh o0 hu bh;obtain⟨vs,e1,e2,bG,cR⟩:=U.cellsOf o0;refine Lk (v:= .pointer (some ⟨w.heap.size,0,none⟩)) (c:=(a.eval x).cells) (f6:=t) h gi a4 ?_ hu ?_ ?_ ?_
  ·simp[execOp,an,Instr.box,newVar,newRow]
  ·intro e he;rw[jP] at he;simp at he;rw[he,gh]
  ·intro j y aY
   rw[jP] at aY;simp only[aru,List.flatten_nil,List.append_nil] at aY
   have ap:j<vs.length:=by
    rcases Nat.lt_or_ge j (ga s.E x).cells.length with dc|dc
    ·omega
    rw[dT dc] at aY;simp at aY
   refine⟨vs[j],by rw[e1];simp[ap],bG j _ (dy ap),cR j y _ aY (dy ap)⟩
  intro b5 nL pY pq rT cv;have:=Rel.ref (w:=b5) (ok:=nL) (i:=0) (off:=0) rT cv;rw[bh];simpa using this
 split at ay
 ·rename_i c a1;simp only[dA] at ay;subst ay;exact key _ rfl (by rw[a1];rfl) (by rw[a1];rfl) (.inr ⟨c,a1⟩) rfl rfl
 split at ay
 ·rename_i o0
  simp only[dA] at ay;subst ay;have e:(ga s.E x).cells=[ga s.E x]:=by generalize ga s.E x=y at o0;cases y<;>first|rfl|simp[aA.one] at o0
  exact key _ rfl (by rw[e]) (by rw[e];rfl) (.inl o0) rfl rfl
 simp at ay
theorem kw {s:S}{aD:g9}{r k:Nat}{al:aR}(h:s.al r k=some al):s.bo aD r k=some (al.sz,aD r k):=by simp[S.bo,h]
theorem xt {row:Option (List aR)}{k:Nat}{al:aR}{cf:List Prop}(h:rK row k dV=some (al,cf))(da:∀p∈cf,p):er row k=some al:=by
 unfold rK at h;split at h
 ·split at h
  ·simp at h;obtain⟨rfl,rfl⟩:=h;exact da _ (by simp)
  simp at h
 split at h
 ·rename_i dc;simp at h;obtain⟨rfl,rfl⟩:=h;exact dc
 simp at h
theorem EB {es:List (List aA)}{i:Nat}{c:List aA}{cf:List Prop}(h:elemAt es i dV=some (c,cf))(da:∀p∈cf,p):es[i]? = some c:=by
 unfold elemAt at h;split at h
 ·simp at h;obtain⟨rfl,rfl⟩:=h;exact da _ (by simp)
 ·simp at h;obtain⟨rfl,rfl⟩:=h;exact da _ (by simp)
 split at h
 ·rename_i dc;simp at h;obtain⟨rfl,rfl⟩:=h;exact dc
 simp at h
theorem akq {t:TypeId}{x:Operand}(h:dZ g s aD a w)(an:o.op = .load t x)(ay:gf P s.E s.a7 a8 o dV=some bM)(da:∀p∈bM.gV,p):Fin P g s a w o bM:=by
 simp only[gf,an] at ay;have U:=h.eval x;split at ay
 ·rename_i r k i off jf
  rw[jf] at U;split at ay;rotate_left
  ·simp at ay
  rename_i al cf bC;split at ay;rotate_left
  ·simp at ay
  rename_i c aU pH;split at ay;rotate_left
  ·simp at ay
  rename_i v bh;simp only[dA] at ay;subst ay;have l3:s.al r k=some al:=xt bC fun p ai=>da p (by simp[ai]);have ta:=EB pH fun p ai=>da p (by simp[ai]);have gO:=h.obj r k al l3;rcases U.AQ (kw l3) with h0|⟨b,m,ai,hval⟩
  ·rw[h0] at gO;simp only[lr] at gO;rw[gO] at ta;simp at ta
  rw[ai] at gO;obtain⟨u,h1,h2⟩:=OQ (P:=P) gO.rd ta bh;refine kj (v:=u) h ?_ rfl h2;rw[dG] at h1;simp[execOp,an,hval,h1]
 ·rename_i sz es i off jf
  rw[jf] at U;split at ay
  ·rename_i c aU pH
   split at ay
   ·rename_i v bh;simp only[dA] at ay;subst ay;have ta:=EB pH fun p ai=>da p (by simp[ai]);obtain⟨fv,cD,aO,hval,kN⟩:=U.EQ;obtain⟨u,h1,h2⟩:=OQ (P:=P) kN ta bh;refine kj (v:=u) h ?_ rfl h2;simp[execOp,an,hval,h1]
   simp at ay
  simp at ay
 simp at ay
end
section
variable {P:Program} {g:G} {s:S} {aD:g9} {a:Act} {w:World} {o:Oper} {dV:f8} {a8:Nat} {bM:jX}
theorem Xc (h:dZ g s aD a w){r k i off:Nat}{row:List aR}{al:aR}{c:List aA}{t:TypeId}{x y:Operand}(an:o.op = .store t x y)
 (jf:ga s.E x = .ref r k i off) (eP:s.a7 r=some row) (bC:s.al r k=some al) (a4:al.cY = .live) (pH:al.es[i]? = some c)
 (o0:(ga s.E y).one=true\/ ∃c,ga s.E y = .agg c) (gh:(ga s.E y).cells.length=P.cellsOf t) (QK:(P.info? t).isSome=true)
 (ke:off+(ga s.E y).cells.length<=c.length) (ay:bM.val = .dead) (hu:bM.hN=[(r,row.set k {al with es:=al.es.set i (setCells c off (ga s.E y).cells)})]):Fin P g s a w o bM:=by
 have U:=h.eval x;rw[jf] at U;have gO:=h.obj r k al bC;rcases U.AQ (kw bC) with h0|⟨b,m,ai,hval⟩
 ·rw[h0] at gO;simp only[lr] at gO;rw[gO] at pH;simp at pH
 obtain⟨b5,h1,h2⟩:=ag4 (P:=P) h eP bC a4 ai pH QK (h.eval y) o0 gh ke;refine⟨undef,b5,aD,.inr ⟨?_,rfl⟩,by rw[hu];exact h2,by rw[ay];exact .dead _⟩;simp[execOp,an,hval,h1]
theorem ajj {t:TypeId}{x y:Operand}(h:dZ g s aD a w)(an:o.op = .store t x y)(ay:gf P s.E s.a7 a8 o dV=some bM)(da:∀p∈bM.gV,p):Fin P g s a w o bM:=by
 simp only[gf,an] at ay;split at ay;rotate_left
 ·simp at ay
 rename_i r k i off jf;split at ay
 ·simp at ay
 rename_i row eP;split at ay;rotate_left
 ·simp at ay
 rename_i al cf aml;split at ay
 ·simp at ay
 rename_i a4;have a4:al.cY = .live:=by simpa using a4
 split at ay
 ·simp at ay
 rename_i o0;have o0:=aA.Wk (by simpa using o0);split at ay
 ·simp at ay
 rename_i gh;simp only[not_or,Decidable.not_not,Bool.not_eq_false] at gh;have l3:(∀p∈cf,p)->s.al r k=some al:=fun bH=>by have:=xt aml bH;unfold S.al;rw[eP];exact this
 split at ay
 ·split at ay
  ·rename_i Fh
   simp only[dA] at ay;subst ay;subst Fh;have eS:i<al.es.length:=da _ (by simp);have jG:(ga s.E y).cells.length=al.sz:=da _ (by simp);have Ip:=l3 fun p ai=>da p (by simp[ai])
   have hlen:(al.es[i]).length=al.sz:=by
    have gO:=h.obj r k al Ip
    cases ai:aD r k with
    | none=>rw[ai] at gO;simp only[lr] at gO;rw[gO] at eS;simp at eS
    | some q =>
     rw[ai] at gO;obtain⟨_,_,_,_,R,_⟩:=gO;exact R _ (List.getElem_mem eS)
   refine Xc h an jf eP Ip a4 (c:=al.es[i]) (dy eS) o0 gh.1 gh.2 (by omega) rfl ?_;have e:setCells al.es[i] 0 (ga s.E y).cells=(ga s.E y).cells:=(by simp[setCells,hlen,jG]);rw[e]
  simp at ay
 split at ay
 ·rename_i c aU pH
  split at ay
  ·rename_i ke;simp only[dA] at ay;subst ay;exact Xc h an jf eP (l3 fun p ai=>da p (by simp[ai])) a4 (EB pH fun p ai=>da p (by simp[ai])) o0 gh.1 gh.2 ke rfl rfl
  simp at ay
 simp at ay
theorem ag5 {x:Operand}(h:dZ g s aD a w)(an:o.op = .nilCheck x)(ay:gf P s.E s.a7 a8 o dV=some bM)(da:∀p∈bM.gV,p):Fin P g s a w o bM:=by
 simp only[gf,an] at ay;have U:=h.eval x;split at ay
 ·rename_i r k i off jf
  rw[jf] at U;split at ay
  ·rename_i al cf bC
   split at ay
   ·rename_i c aU pH
    simp only[dA] at ay;subst ay;have l3:s.al r k=some al:=xt bC fun p ai=>da p (by simp[ai]);have ta:=EB pH fun p ai=>da p (by simp[ai]);have gO:=h.obj r k al l3;rcases U.AQ (kw l3) with h0|⟨b,m,ai,hval⟩
    ·rw[h0] at gO;simp only[lr] at gO;rw[gO] at ta;simp at ta
    refine kj (v:=a.eval x) h ?_ rfl U;simp[execOp,an,hval]
   simp at ay
  simp at ay
 ·rename_i sz es i off jf;rw[jf] at U;simp only[dA] at ay;subst ay;obtain⟨fv,cD,aO,hval,kN⟩:=U.EQ;refine kj (v:=a.eval x) h ?_ rfl U;simp[execOp,an,hval]
 ·rename_i f c jf;rw[jf] at U;simp only[dA] at ay;subst ay;obtain⟨vs,hval,-⟩:=U.LF;refine kj (v:=a.eval x) h ?_ rfl U;simp[execOp,an,hval]
 simp at ay
theorem aik {op:BinOp}{t:TypeId}{x y z:aA}{al:List Prop}(ay:Qm op x y=some (z,al))(da:∀p∈al,p)
 {ok:Nat->Prop} {bi:ly} {bo:ln} {oa ob:Value} (U:Rel w ok bi bo x oa) (aY:Rel w ok bi bo y ob) (p q:Operand) :
 ∃v,((do eqGuard op t p q oa ob;binOp op t oa ob):Sem Value).run P w = .ok v w/\Rel w ok bi bo z v:=by
 unfold Qm at ay;split at ay
 ·rename_i k n eh qh
  have j1:=U.rH;have kZ:=aY.rH;subst j1;subst kZ;have d6 : ∀op,eqGuard op t p q (.int k n) (.int eh qh)=pure ():=fun op=>eqGuard_at_int ..;simp only[Sem.run_bind,d6,Sem.run_pure,Result.andThen_ok];split at ay
  ·simp only[dA,dF] at ay;obtain⟨rfl,rfl⟩:=ay;have h0:0<=qh:=da _ (by simp);exact⟨_,by simp[binOp,Op.shift,show ¬qh<0 by omega],.n _ _⟩
  ·simp only[dA,dF] at ay;obtain⟨rfl,rfl⟩:=ay;have h0:0<=qh:=da _ (by simp);exact⟨_,by simp[binOp,Op.shift,show ¬qh<0 by omega],.n _ _⟩
  split at ay
  ·simp at ay
  rename_i a4;have a4:k=eh:=(by simpa using a4);subst a4;split at ay<;>simp only[dA,dF,reduceCtorEq] at ay
  all_goals (obtain⟨rfl,rfl⟩:=ay)
  case h_4|h_5 =>
   have h0:qh≠0:=da _ (by simp);exact⟨_,by simp[binOp,Op.intDiv,h0],.n _ _⟩
  all_goals first
   | (refine⟨_,?_,.n _ _⟩;rw[binOp_add];rfl)
   | (refine⟨_,?_,.n _ _⟩;rw[binOp_sub];rfl)
   | (refine⟨_,?_,.n _ _⟩;rw[binOp_mul];rfl)
   | (refine⟨_,?_,.n _ _⟩;rw[binOp_and];rfl)
   | (refine⟨_,?_,.n _ _⟩;rw[binOp_or];rfl)
   | (refine⟨_,?_,.n _ _⟩;rw[binOp_xor];rfl)
   | (refine⟨_,?_,.b _⟩;simp[binOp,Op.intCmp];done)
 ·rename_i dY oz
  have j1:=U.E7;have kZ:=aY.E7;subst j1;subst kZ;have d6 : ∀op,eqGuard op t p q (.string dY) (.string oz)=pure ():=fun op=>eqGuard_at_string ..;simp only[Sem.run_bind,d6,Sem.run_pure,Result.andThen_ok];split at ay<;>simp only[dA,dF,reduceCtorEq] at ay
  all_goals (obtain⟨rfl,rfl⟩:=ay)
  ·have h0:dY.size+oz.size<9223372036854775808:=da _ (by simp);refine⟨_,?_,.s _⟩;have h1 : ¬((dY.size+oz.size:Nat):Int)>IntKind.i64.max:=(by rw[IntKind.max_i64];omega);rw[IntKind.max_i64] at h1;simp[binOp,Op.stringOp];omega
  ·exact⟨_,by simp[binOp,Op.stringOp],.b _⟩
  exact⟨_,by simp[binOp,Op.stringOp],.b _⟩
 simp at ay
theorem Av (t:TypeId)(x y:Value):Op.equal t x y=Op.equalIn (9999+1) t x y:=rfl
theorem Ha {t:TypeId}{a b:Bool}(d:Nat)(bI:P.underlying t=some .bool):(Op.equalIn (d+1) t (.bool a) (.bool b)).run P w = .ok (a == b) w:=by unfold Op.equalIn;simp[run_underlying bI]
theorem Hs {t e:TypeId}(d:Nat)(bI:P.underlying t=some (.pointer e)):(Op.equalIn (d+1) t (.pointer none) (.pointer none)).run P w = .ok true w:=by unfold Op.equalIn;simp[run_underlying bI]
theorem Ht {t e:TypeId}{a:Addr}(d:Nat)(bI:P.underlying t=some (.pointer e)):(Op.equalIn (d+1) t (.pointer (some a)) (.pointer none)).run P w = .ok false w:=by unfold Op.equalIn;simp[run_underlying bI]
theorem Hu {t e:TypeId}{a:Addr}(d:Nat)(bI:P.underlying t=some (.pointer e)):(Op.equalIn (d+1) t (.pointer none) (.pointer (some a))).run P w = .ok false w:=by unfold Op.equalIn;simp[run_underlying bI]
theorem Hv {t e:TypeId}(d:Nat)(bI:P.underlying t=some (.slice e)):(Op.equalIn (d+1) t (.slice none 0 0) (.slice none 0 0)).run P w = .ok true w:=by unfold Op.equalIn;simp[run_underlying bI]
theorem WD {t e:TypeId}{a:Addr}{c:Nat}(d:Nat)(bI:P.underlying t=some (.slice e))(n:Nat):(Op.equalIn (d+1) t (.slice (some a) n c) (.slice none 0 0)).run P w = .ok false w:=by unfold Op.equalIn;simp[run_underlying bI]
theorem EI {t:TypeId}{x y:aA}{r:Bool}(ay:wM P t x y=some r)
 {ok:Nat->Prop} {bi:ly} {bo:ln} {oa ob:Value} (U:Rel w ok bi bo x oa) (aY:Rel w ok bi bo y ob) (p q:Operand) :
 ((do eqGuard .eql t p q oa ob;binOp .eql t oa ob):Sem Value).run P w = .ok (.bool r) w /\
 ((do eqGuard .neq t p q oa ob;binOp .neq t oa ob):Sem Value).run P w = .ok (.bool !r) w:=by
 have key : ∀b:Bool,(∀op,eqGuard op t p q oa ob=pure ())->binOp .eql t oa ob=(do pure (.bool (<- Op.equal t oa ob)))->binOp .neq t oa ob=(do pure (.bool (!(<- Op.equal t oa ob)))) ->
  (Op.equal t oa ob).run P w = .ok b w->((do eqGuard .eql t p q oa ob;binOp .eql t oa ob):Sem Value).run P w = .ok (.bool b) w /\
  ((do eqGuard .neq t p q oa ob;binOp .neq t oa ob):Sem Value).run P w = .ok (.bool !b) w:=by
  intro b d6 h1 h2 R;constructor
  ·rw[d6,h1];simp[R]
  rw[d6,h2];simp[R]
 unfold wM at ay;split at ay
 ·rename_i dY oz bI;simp only[dA] at ay;subst ay;have j1:=U.yZ;have kZ:=aY.yZ;subst j1;subst kZ;exact key _ (fun op=>eqGuard_at_bool ..) rfl rfl (by rw[Av];first|exact Ha _ bI|exact Hs _ bI|exact Ht _ bI|exact Hu _ bI|exact Hv _ bI)
 ·rename_i e bI;simp only[dA] at ay;subst ay;have j1:=U.AG;have kZ:=aY.AG;subst j1;subst kZ;exact key _ (fun op=>eqGuard_at_pointer ..) rfl rfl (by rw[Av];first|exact Ha _ bI|exact Hs _ bI|exact Ht _ bI|exact Hu _ bI|exact Hv _ bI)
 ·rename_i e sz es i off bI;simp only[dA] at ay;subst ay;obtain⟨fv,cD,-,j1,-⟩:=U.EQ;have kZ:=aY.AG;subst j1;subst kZ;exact key _ (fun op=>eqGuard_at_pointer ..) rfl rfl (by rw[Av];first|exact Ha _ bI|exact Hs _ bI|exact Ht _ bI|exact Hu _ bI|exact Hv _ bI)
 ·rename_i e sz es i off bI;simp only[dA] at ay;subst ay;obtain⟨fv,cD,-,kZ,-⟩:=aY.EQ;have j1:=U.AG;subst j1;subst kZ;exact key _ (fun op=>eqGuard_at_pointer ..) rfl rfl (by rw[Av];first|exact Ha _ bI|exact Hs _ bI|exact Ht _ bI|exact Hu _ bI|exact Hv _ bI)
 ·rename_i e bI;simp only[dA] at ay;subst ay;have j1:=U.tB;have kZ:=aY.tB;subst j1;subst kZ;exact key _ (fun op=>eqGuard_at_slice ..) rfl rfl (by rw[Av];first|exact Ha _ bI|exact Hs _ bI|exact Ht _ bI|exact Hu _ bI|exact Hv _ bI)
 ·rename_i e bI;simp only[dA] at ay;subst ay;obtain⟨B5,c,j1⟩:=U.Lj;have kZ:=aY.tB;subst j1;subst kZ;exact key _ (fun op=>eqGuard_at_slice ..) rfl rfl (by rw[Av];exact WD _ bI 0)
 simp at ay
theorem Y2 {t e:TypeId}(bI:P.underlying t=some (.slice e)){sz:Nat}{es:List (List aA)}(dX:es≠[])
 {ok:Nat->Prop} {bi:ly} {bo:ln} {oa ob:Value} (U:Rel w ok bi bo (.isl sz es) oa) (aY:Rel w ok bi bo .fQ ob) (p q:Operand) :
 ((do eqGuard .eql t p q oa ob;binOp .eql t oa ob):Sem Value).run P w = .ok (.bool false) w /\
 ((do eqGuard .neq t p q oa ob;binOp .neq t oa ob):Sem Value).run P w = .ok (.bool true) w:=by
 rcases U.xr with ⟨h0,-⟩|⟨fv,off,c,-,j1,-⟩
 ·exact absurd h0 dX
 have kZ:=aY.tB;subst j1;subst kZ;have R:(Op.equal t (.slice (some ⟨fv,off,none⟩) es.length c) (.slice none 0 0)).run P w = .ok false w:=by rw[Av];exact WD _ bI _
 have d6 : ∀op,eqGuard op t p q (.slice (some ⟨fv,off,none⟩) es.length c) (.slice none 0 0)=pure ():=fun op=>eqGuard_at_slice ..;have h1:binOp .eql t (.slice (some ⟨fv,off,none⟩) es.length c) (.slice none 0 0)=(do pure (.bool (<- Op.equal t (.slice (some ⟨fv,off,none⟩) es.length c) (.slice none 0 0)))):=rfl;have h2:binOp .neq t (.slice (some ⟨fv,off,none⟩) es.length c) (.slice none 0 0)=(do pure (.bool (!(<- Op.equal t (.slice (some ⟨fv,off,none⟩) es.length c) (.slice none 0 0))))):=rfl;constructor
 ·rw[d6,h1];simp[R]
 rw[d6,h2];simp[R]
theorem ajk {op:BinOp}{t cW:TypeId}{x y:Operand}(h:dZ g s aD a w)(an:o.op = .binOp op t x y cW)(ay:gf P s.E s.a7 a8 o dV=some bM)(da:∀p∈bM.gV,p):Fin P g s a w o bM:=by
 simp only[gf,an] at ay;have U:=h.eval x;have aY:=h.eval y;split at ay
 ·rename_i v al aO;simp only[dA] at ay;subst ay;obtain⟨u,h1,h2⟩:=aik (P:=P) (t:=t) aO da U aY x y;refine kj (v:=u) h ?_ rfl h2;simp only[execOp,an];rw[Sem.run_bind,h1];rfl
 split at ay
 ·cases he:wM P t (ga s.E x) (ga s.E y) with
  | none=>simp[he] at ay
  | some r =>
   simp[he] at ay;subst ay;refine kj (v:= .bool r) h ?_ rfl (.b r);simp only[execOp,an];rw[Sem.run_bind,(EI (w:=w) he U aY x y).1];rfl
 ·cases he:wM P t (ga s.E x) (ga s.E y) with
  | none=>simp[he] at ay
  | some r =>
   simp[he] at ay;subst ay;refine kj (v:= .bool !r) h ?_ rfl (.b _);simp only[execOp,an];rw[Sem.run_bind,(EI (w:=w) he U aY x y).2];rfl
 simp at ay
theorem akr {op:UnOp}{t:TypeId}{x:Operand}(h:dZ g s aD a w)(an:o.op = .unOp op t x)(ay:gf P s.E s.a7 a8 o dV=some bM):Fin P g s a w o bM:=by
 simp only[gf,an] at ay;have U:=h.eval x
 cases he:QI op (ga s.E x) with
 | none=>simp[he] at ay
 | some v =>
  simp[he] at ay;subst ay;unfold QI at he;split at he
  ·rename_i k n jf;rw[jf] at U;simp only[dA] at he;subst he;refine kj (v:= .int k (k.wrap (0-n))) h ?_ rfl (.n _ _);simp[execOp,an,U.rH,Op.unary,Op.intArith]
  ·rename_i b jf;rw[jf] at U;simp only[dA] at he;subst he;refine kj (v:= .bool !b) h ?_ rfl (.b _);simp[execOp,an,U.yZ,Op.unary]
  simp at he
theorem ahz {t cW:TypeId}{x:Operand}(h:dZ g s aD a w)(an:o.op = .convert t cW x)(ay:gf P s.E s.a7 a8 o dV=some bM):Fin P g s a w o bM:=by
 simp only[gf,an] at ay;have U:=h.eval x;split at ay
 ·rename_i k eh n bI jf
  rw[jf] at U;split at ay
  case isFalse=>simp at ay
  rename_i bS;simp only[dA] at ay;subst ay;refine kj (v:= .int k (k.wrap n)) h ?_ rfl (.n _ _)
  cases aao:P.underlying t with
  | none=>simp[aao] at bS
  | some d=>simp[execOp,an,U.rH,convert,run_underlying bI,run_underlying aao,Conv.intToInt]
 ·rename_i r k cj len bI jf
  rw[jf] at U;split at ay;rotate_left
  ·simp at ay
  rename_i al L7 bC;split at ay;rotate_left
  ·simp at ay
  rename_i qL IQ;split at ay;rotate_left
  ·simp at ay
  rename_i a1;simp only[dA] at ay;subst ay
  obtain⟨e,bS,he⟩ : ∃e,P.underlying t=some (.slice e)/\P.underlying e=some (.int .u8):=by
   unfold tL at L7;split at L7
   ·rename_i e bS;exact⟨e,bS,L7⟩
   simp at L7
  have fj:s.al r k=some al:=bC;have gO:=h.obj r k al fj
  have hzero : ∀(lA:Option Addr) (c:Nat),len=0->(convert t cW (.slice lA 0 c)).run P w = .ok (.string (wK qL)) w:=by
   intro lA c h0;subst h0;have:qL=[]:=(by simpa [bytesOf] using IQ);subst this
   cases lA with
   | none=>rw[run_convert_bytes_string w t cW e none 0 c bS he bI];simp[Conv.bytesToString,wK]
   | some lA =>
    rw[run_convert_bytes_string w t cW e (some lA) 0 c bS he bI,run_bytesToString w lA 0 c [] (by have:=run_loadCells_list (P:=P) w lA [] (fun j v ap=>by simp at ap);simpa using this)];rfl
  rcases U.HJ (kw fj) with ⟨ai,rfl,rfl,hval⟩|⟨b,m,A,c,ai,hval,vL,xW,hm⟩
  ·refine kj (v:= .string (wK qL)) h ?_ rfl (.s _);simp[execOp,an,hval,hzero none 0 rfl]
  refine kj (v:= .string (wK qL)) h ?_ rfl (.s _);by_cases h0:len=0
  ·subst h0;simp[execOp,an,hval,hzero A c rfl]
  rcases hm with hm|⟨hA,hm⟩
  ·omega
  subst hA;rw[ai] at gO;have kN:=gO.rd
  have Fo : ∀(es:List (List aA)) (qL:ar),bytesOf es=some qL->es.length=qL.length/\ ∀(i:Nat) n,qL[i]? = some n->es[i]? = some [.n .u8 n]:=by
   intro es
   induction es with
   | nil=>intro qL h;simp[bytesOf] at h;subst h;exact⟨rfl,fun i n aa=>by simp at aa⟩
   | cons x es ih =>
    intro qL h;unfold bytesOf at h;split at h
    ·simp at *
    ·rename_i na aqj Fp
     simp only[List.cons.injEq] at Fp;obtain⟨rfl,rfl⟩:=Fp;rw[dP] at h;obtain⟨ha,Mp,rfl⟩:=h;obtain⟨e1,e2⟩:=ih ha Mp;refine⟨by simp[e1],fun i n aa=> ?_⟩
     cases i with
     | zero=>simp at aa;subst aa;rfl
     | succ i=>simpa using e2 i n (by simpa using aa)
    simp at h
  obtain⟨e1,e2⟩:=Fo _ _ IQ;have hlen:qL.length=len:=(by rw[<- e1];simp;omega);have alV:(loadCells ⟨b,cj*al.sz,none⟩ len).run P w = .ok (qL.map (Value.int .u8)).toArray w:=(by have:=run_loadCells_list (P:=P) w ⟨b,cj*al.sz,none⟩ (qL.map (Value.int .u8)) (fun j v ap=>by rw[dK,dP] at ap;obtain⟨n,a2,rfl⟩:=ap;have o3:=e2 j n a2;have BA:j<len:=(by rw[<- hlen];exact(arr.1 a2).1);rw[List.getElem?_take_of_lt BA,arz] at o3;obtain⟨v,v1,v2,v3⟩:=kN.2 ((cj+j)*al.sz+0) (.n .u8 n) (by rw[Hq kN.1 o3 (by omega)];rfl);have bh:=v3.rH;subst bh;rw[vv,<- v1,a1.2];congr 2;omega);rw[arC,hlen] at this;exact this);have h2:=run_bytesToString w ⟨b,cj*al.sz,none⟩ len c qL alV;rw[<- run_convert_bytes_string w t cW e _ len c bS he bI] at h2;simp[execOp,an,hval,h2,wK]
 simp at ay
theorem ag6 {f:Fn}{JJ c1:Array Operand}(h:dZ g s aD a w)(an:o.op = .makeFunc f JJ c1)(ay:gf P s.E s.a7 a8 o dV=some bM):Fin P g s a w o bM:=by
 cases f with
 | func n =>
  simp only[gf,an] at ay;split at ay;rotate_left
  ·simp at ay
  rename_i am2;simp only[dA] at ay;subst ay;refine kj (v:= .func (.func n) #[] (c1.map a.eval)) h ?_ rfl ?_
  ·have:JJ = #[]:=(by simpa using am2);subst this;simp[execOp,an,Instr.makeFunc]
  have:=Rel.fn (f:=n) (c:=c1.toList.map (ga s.E)) (w:=w) (ok:=s.ok g aD w) (bi:=s.bi) (bo:=s.bo aD) (c1.toList.map a.eval) (by simp) (by intro j x v U bh;rw[dK,dP] at U bh;obtain⟨p,ai,rfl⟩:=U;obtain⟨q,a0,rfl⟩:=bh;rw[ai] at a0;simp at a0;subst a0;exact h.eval p);have e:(c1.toList.map a.eval).toArray=c1.map a.eval:=(by apply Array.ext';rw[Array.toList_map]);rw[e] at this;exact this
 | _=>simp[gf,an] at ay
theorem ahA {i:Nat}{x:Operand}(h:dZ g s aD a w)(an:o.op = .extract x i)(ay:gf P s.E s.a7 a8 o dV=some bM):Fin P g s a w o bM:=by
 simp only[gf,an] at ay;have U:=h.eval x;split at ay;rotate_left
 ·simp at ay
 rename_i vs jf;rw[jf] at U
 cases aa:vs[i]? with
 | none=>simp[aa] at ay
 | some v =>
  simp[aa] at ay;subst ay;obtain⟨bi,hval,aZ,ak⟩:=U.EP
  have eS:i<bi.length:=by
   rcases Nat.lt_or_ge i vs.length with dc|dc
   ·omega
   rw[dT dc] at aa;simp at aa
  have hu:bi[i]? = some bi[i]:=dy eS;refine kj (v:=bi[i]) h ?_ rfl (ak i v _ aa hu);simp[execOp,an,hval,Instr.extract,hu]
end
section
variable {P:Program} {g:G} {s:S} {aD:g9} {a:Act} {w:World} {o:Oper} {dV:f8} {a8:Nat} {bM:jX}
theorem wo {t e:TypeId}(h:tL P t=some e):P.underlying t=some (.slice e):=by
 unfold tL at h;split at h
 ·rename_i fA he;simp at h;subst h;exact he
 simp at h
theorem OI {t:TypeId}{nB:Array Field}(h:fieldsOf P t=some nB):P.underlying t=some (.struct nB):=by
 unfold fieldsOf at h;split at h
 ·rename_i fA he;simp at h;subst h;exact he
 simp at h
theorem VZ : ∀(z c:List aA),(vz z c).length=z.length
 | x::z,y::c=>by simp[vz,VZ z c]
 | [],_=>by simp[vz]
 | _::_,[]=>by simp[vz]
theorem agL (z:List aA)(dV:f8):(xA z dV).length=z.length:=by
 unfold xA;split
 ·exact VZ z _
 rfl
theorem ahB (x y:aA){w:World}{ok:Nat->Prop}{bi:ly}{bo:ln}{v:Value}(h:Rel w ok bi bo x v):Rel w ok bi bo (HT x y) v:=by
 unfold HT;split
 ·rw[h.tB];exact .kT _ _ _ (fun _=>rfl)
 ·rw[h.AG];exact .s9 _
 ·rw[h.tB];exact .pU (.kT _ _ _ (fun _=>rfl))
 exact h
theorem Xd : ∀(z c:List aA) (j:Nat) q,(vz z c)[j]? = some q-> ∃x,z[j]? = some x/\(q=x\/ ∃y,q=HT x y)
 | x::z,y::c,0,q,h=>by simp[vz] at h;exact⟨x,rfl,.inr ⟨y,h.symm⟩⟩
 | x::z,y::c,j+1,q,h=>by simp only[vz,List.getElem?_cons_succ] at h;simpa using Xd z c j q h
 | [],c,j,q,h=>by simp[vz] at h
 | x::z,[],j,q,h=>⟨q,by simpa [vz] using h,.inl rfl⟩
theorem ajl (z:List aA)(dV:f8)(j:Nat)(q:aA)(h:(xA z dV)[j]? = some q): ∃x,z[j]? = some x/\(q=x\/ ∃y,q=HT x y):=by
 unfold xA at h;split at h
 ·exact Xd z _ j q h
 exact⟨q,h,.inl rfl⟩
theorem agM {t:TypeId}{x y:Operand}(h:dZ g s aD a w)(gi:s.a7 a8=none)(an:o.op = .makeSlice t x y)(ay:gf P s.E s.a7 a8 o dV=some bM)(da:∀p∈bM.gV,p):Fin P g s a w o bM:=by
 simp only[gf,an] at ay;have U:=h.eval x;have aY:=h.eval y;split at ay;rotate_left
 ·simp at ay
 rename_i e k0 l kh c he amm amn;rw[amm] at U;rw[amn] at aY;split at ay;rotate_left
 ·simp at ay
 rename_i i z aa cK;obtain⟨fU,fO,lj,nv,uj,Y3⟩:=Hr cK;rw[aa] at lj;simp at lj;subst lj;simp only[Option.ite_none_right_eq_some,dA] at ay;obtain⟨gh,ay⟩:=ay;subst ay;have pH:=agL z dV
 have mB : ∀(j:Nat) q,(xA z dV)[j]? = some q-> ∃v,fO.cells[j]? = some v/\VL.mO v=true/\ ∀w ok bi bo,Rel w ok bi bo q v:=by
  intro j q a0;obtain⟨x,fa,qE⟩:=ajl z dV j q a0;obtain⟨v,v1,v2,v3⟩:=Y3 j x fa;refine⟨v,v1,v2,fun w ok bi bo=> ?_⟩;rcases qE with rfl|⟨y,rfl⟩
  ·exact v3 w ok bi bo
  exact ahB x y (v3 w ok bi bo)
 clear Y3;have h0:0<=l:=da _ (by simp);have h1:l<=c:=da _ (by simp);have h2:(i.bytes:Int)*c<=281474976710656:=da _ (by simp);have R:c<9223372036854775808:=da _ (by simp);have qF:z.length=fO.cells.size:=by rw[uj];simp
 have lh:=run_make (P:=P) w t e i fO (wo he) aa nv k0 kh l c h0 h1 h2 (by omega);refine Lk (v:= .slice (some ⟨w.heap.size,0,none⟩) l.toNat c.toNat) (al:=⟨z.length,List.replicate l.toNat (xA z dV),.live⟩) (c:=madeCells fO.cells (c.toNat*i.size)) (f6:=e) h gi rfl ?_ rfl ?_ ?_ ?_
 ·simp[execOp,an,U.rH,aY.rH,lh]
 ·intro fA o2;rw[List.eq_of_mem_replicate o2];exact pH
 ·intro j q a0
  have aZ : ∀fA∈List.replicate l.toNat (xA z dV),fA.length=z.length:=fun fA o2=>(by rw[List.eq_of_mem_replicate o2];exact pH);rcases Nat.eq_zero_or_pos z.length with vM|Mq
  ·have:xA z dV=[]:=dM.1 (by omega);rw[this] at a0;simp at a0
  rw[sT Mq _ aZ,List.getElem?_replicate] at a0;by_cases ap:j / z.length<l.toNat;rotate_left
  ·rw[dB ap] at a0;simp at a0
  rw[dz ap] at a0;simp only[dx] at a0;obtain⟨v,e1,e2,bG⟩:=mB _ _ a0;refine⟨v,?_,e2,bG _ _ _ _⟩;have eS:j<c.toNat*i.size:=(by rw[<- gh];have:j<l.toNat*z.length:=(Nat.div_lt_iff_lt_mul Mq).1 ap;exact Nat.lt_of_lt_of_le this (arn _ (by omega)));simp only[madeCells];rw[Array.getElem?_map,Array.getElem?_range];simp only[eS,if_true,arq];rw[qF] at e1;have hm:j % fO.cells.size<fO.cells.size:=Nat.mod_lt _ (by omega);rw[aro hm] at e1;rw[getElem!_pos fO.cells _ hm];exact e1
 intro b5 nL pY pq hu cv;refine Rel.bw hu cv (by omega) (by omega) ⟨?_,.inr (by simp)⟩;rw[size_madeCells];simp only[dG,gh]
theorem agN {t:TypeId}{x:Operand}{f:Nat}(h:dZ g s aD a w)(an:o.op = .fieldAddr t x f)(ay:gf P s.E s.a7 a8 o dV=some bM)(da:∀p∈bM.gV,p):Fin P g s a w o bM:=by
 simp only[gf,an] at ay;have U:=h.eval x;split at ay;rotate_left
 ·simp at ay
 rename_i nB IR;split at ay;rotate_left
 ·simp at ay
 rename_i fd zj;split at ay
 ·simp at ay
 rename_i aap
 have aa:(P.info? fd.type).isSome=true:=by
  cases aa:P.info? fd.type with
  | none=>simp[Program.cellsOf,aa] at aap
  | some i=>rfl
 have lh : ∀A:Addr,A.spot=none->(Instr.fieldAt t (.pointer (some A)) f).run P w = .ok (.pointer (some ⟨A.block,A.off+fd.offset,none⟩)) w:=by intro A hA;have e:A.add fd.offset=⟨A.block,A.off+fd.offset,none⟩:=(by obtain⟨b,o,sp⟩:=A;simp only at hA;subst hA;exact vv b o _);simp[Instr.fieldAt,run_underlying (OI IR),zj,Instr.sureAddr,fieldPlace,xi aa,aap,e]
 split at ay
 ·rename_i r k i off jf
  rw[jf] at U;split at ay
  ·rename_i al cf bC
   split at ay
   ·rename_i c aU pH
    simp only[dA] at ay;subst ay;have l3:s.al r k=some al:=xt bC fun p ai=>da p (by simp[ai]);have ta:=EB pH fun p ai=>da p (by simp[ai]);have gO:=h.obj r k al l3;rcases U.AQ (kw l3) with h0|⟨b,m,ai,hval⟩
    ·rw[h0] at gO;simp only[lr] at gO;rw[gO] at ta;simp at ta
    refine kj (v:= .pointer (some ⟨b,i*al.sz+(off+fd.offset),none⟩)) h ?_ rfl ?_
    ·simp[execOp,an,hval,lh,Nat.add_assoc]
    exact U.Xb ((kw l3).trans (by rw[ai])) _
   simp at ay
  simp at ay
 ·rename_i sz es i off jf;rw[jf] at U;simp only[dA] at ay;subst ay;obtain⟨fv,cD,aO,hval,kN⟩:=U.EQ;refine kj (v:= .pointer (some ⟨fv,cD+(i*sz+(off+fd.offset)),none⟩)) h ?_ rfl (kN.gv aO);simp[execOp,an,hval,lh,Nat.add_assoc]
 simp at ay
theorem PA {t e:TypeId}{n:Nat}(h:Io P t=some (n,e)):P.underlying t=some (.array n e)/\(P.info? e).isSome=true/\P.cellsOf e≠0/\1<n:=by
 unfold Io at h;split at h
 ·rename_i qh fA hu
  split at h
  ·rename_i a1;simp only[dA,dF] at h;obtain⟨rfl,rfl⟩:=h;exact⟨hu,a1⟩
  simp at h
 simp at h
theorem ajm {t:TypeId}{x y:Operand}(h:dZ g s aD a w)(an:o.op = .indexAddr t x y)(ay:E5 P s.a7 t (ga s.E x) (ga s.E y) dV=some bM)(da:∀p∈bM.gV,p):Fin P g s a w o bM:=by
 unfold E5 at ay;have U:=h.eval x;have aY:=h.eval y;split at ay;rotate_left
 ·simp at ay
 rename_i n e r k i off cY j iz xO Iq;rw[xO] at U;rw[Iq] at aY;obtain⟨hu,aa,a1,a2⟩:=PA iz;split at ay;rotate_left
 ·simp at ay
 rename_i al cf bC;split at ay
 ·rename_i c aU pH
  simp only[dA] at ay;subst ay;have l3:s.al r k=some al:=xt bC fun p ai=>da p (by simp[ai]);have ta:=EB pH fun p ai=>da p (by simp[ai]);have h0:0<=j:=da _ (by simp);have h1:j<n:=da _ (by simp);have gO:=h.obj r k al l3;rcases U.AQ (kw l3) with cK|⟨b,m,ai,hval⟩
  ·rw[cK] at gO;simp only[lr] at gO;rw[gO] at ta;simp at ta
  refine kj (v:= .pointer (some ⟨b,i*al.sz+(off+j.toNat*P.cellsOf e),none⟩)) h ?_ rfl ?_
  ·simp[execOp,an,hval,aY.rH,Instr.indexAt,asIntOf,run_underlying hu,Instr.sureAddr,h0,h1,xi aa,vv,Nat.add_assoc]
  exact U.Xb ((kw l3).trans (by rw[ai])) _
 simp at ay
theorem agO {t:TypeId}{x y:Operand}(h:dZ g s aD a w)(an:o.op = .indexAddr t x y)(ay:gf P s.E s.a7 a8 o dV=some bM)(da:∀p∈bM.gV,p):Fin P g s a w o bM:=by
 simp only[gf,an] at ay;have U:=h.eval x;have aY:=h.eval y;split at ay;rotate_left
 ·exact ajm h an ay da
 rename_i e k j he jf;rw[jf] at aY;have hu:=wo he
 have lh : ∀(b o len cap:Nat),0<=j->j<len->(P.info? e).isSome=true ->
  (Instr.indexAt t (.slice (some ⟨b,o,none⟩) len cap) (.int k j)).run P w = .ok (.pointer (some ⟨b,o+j.toNat*P.cellsOf e,none⟩)) w:=by
  intro b o len cap h0 h1 aa;have fA:=vv b o (j.toNat*P.cellsOf e);simp[Instr.indexAt,asIntOf,run_underlying hu,h0,h1,xi aa,fA]
 have Bb : ∀sz,sz=P.cellsOf e->sz≠0->(P.info? e).isSome=true:=by
  intro sz bS cK
  cases aa:P.info? e with
  | none=>simp[Program.cellsOf,aa] at bS;exact absurd bS cK
  | some i=>rfl
 split at ay
 ·rename_i sz es xO
  rw[xO] at U;simp only[Option.ite_none_right_eq_some,dA] at ay;obtain⟨⟨bS,cK⟩,ay⟩:=ay;subst ay;have h0:0<=j:=da _ (by simp);have h1:j<es.length:=da _ (by simp);rcases U.xr with ⟨IU,-⟩|⟨fv,off,c,aO,hval,a1,kN⟩
  ·subst IU;simp at h1;omega
  refine kj (v:= .pointer (some ⟨fv,off+(j.toNat*sz+0),none⟩)) h ?_ rfl (kN.gv aO);simp[execOp,an,hval,aY.rH,lh _ _ _ _ h0 h1 (Bb sz bS cK),bS]
 ·rename_i r q cj len xO
  rw[xO] at U;split at ay;rotate_left
  ·simp at ay
  rename_i row eP;split at ay;rotate_left
  ·simp at ay
  rename_i al cf bC;simp only[Option.ite_none_right_eq_some,dA] at ay;obtain⟨⟨bS,cK⟩,ay⟩:=ay;subst ay;have l3:s.al r q=some al:=(by unfold S.al;rw[eP];exact xt bC fun p ai=>da p (by simp[ai]));have h0:0<=j:=da _ (by simp);have h1:j<len:=da _ (by simp);rcases U.HJ (kw l3) with ⟨-,-,h2,-⟩|⟨b,m,A,c,ai,hval,aZ,-,hm⟩
  ·subst h2;simp at h1;omega
  rcases hm with hm|⟨hA,hm⟩
  ·omega
  subst hA;have lJ:=K3 l3;refine kj (v:= .pointer (some ⟨b,(cj+j.toNat)*al.sz+0,none⟩)) h ?_ rfl (.ref lJ ((kw l3).trans (by rw[ai])));simp[execOp,an,hval,aY.rH,lh _ _ _ _ h0 h1 (Bb _ bS cK),bS,Nat.add_mul]
 simp at ay
theorem ala {c:Call}(h:dZ g s aD a w)(an:o.op = .call c)(a1:c.callee = .builtin .len)(ay:gf P s.E s.a7 a8 o dV=some bM)(da:∀p∈bM.gV,p):Fin P g s a w o bM:=by
 obtain⟨Mr,args,p4⟩:=c;simp only at a1;subst a1;simp only[gf,an] at ay
 have key : ∀(x:Operand) (n:Nat) (t:TypeId) (v:Value),args.toList=[x]->p4 = #[t]->bM.val = .n .i64 n->bM.hN=[]->a.eval x=v ->
  (Builtin.len_ #[t] o.type #[v]).run P w = .ok (goInt n) w->Fin P g s a w o bM:=by
  intro x n t v hargs o4 ak jQ bh lh;subst o4;refine kj (v:=goInt n) h ?_ jQ (by rw[ak];exact .n _ _);have bH:args = #[x]:=(by apply Array.ext';simpa using hargs);subst bH;simp[execOp,an,resolve,invoke,builtin,bh,lh]
 have hargs : ∀y,args.toList.map (ga s.E)=[y]-> ∃x,args.toList=[x]/\ga s.E x=y:=by
  intro y aY
  match aZ:args.toList,aY with
  | [x],aY=>simp at aY;exact⟨x,rfl,aY⟩
 have rL:decide (p4.size=1)=true-> ∃t,p4 = #[t]/\p4.getD 0 0=t:=by
  intro gh;have gh:p4.size=1:=(by simpa using gh);obtain⟨l⟩:=p4
  match l,gh with
  | [t],_=>exact⟨t,rfl,rfl⟩
 split at ay
 ·rename_i sz es e hm hu gh
  obtain⟨x,U,jf⟩:=hargs _ hm;obtain⟨t,cv,pt⟩:=rL gh;rw[pt] at hu;simp only[dA] at ay;have ak:=h.eval x;rw[jf] at ak;rcases ak.xr with ⟨IU,A,c,hval,hA⟩|⟨fv,off,c,aO,hval,-⟩
  ·exact key x es.length t _ U cv (by rw[<- ay]) (by rw[<- ay]) hval (by subst IU;simp[Builtin.len_,run_underlying hu])
  exact key x es.length t _ U cv (by rw[<- ay]) (by rw[<- ay]) hval (by simp[Builtin.len_,run_underlying hu])
 ·rename_i r k cj len e hm hu gh
  obtain⟨x,U,jf⟩:=hargs _ hm;obtain⟨t,cv,pt⟩:=rL gh;rw[pt] at hu;split at ay
  ·rename_i row eP
   split at ay
   ·rename_i al cf bC
    simp only[dA] at ay;have ak:=h.eval x;rw[jf] at ak;have l3:s.al r k=some al:=(by unfold S.al;rw[eP];exact xt bC fun p ai=>da p (by rw[<- ay];exact ai));rcases ak.HJ (kw l3) with ⟨-,-,h2,hval⟩|⟨b,m,A,c,ai,hval,-⟩
    ·exact key x len t _ U cv (by rw[<- ay]) (by rw[<- ay]) hval (by subst h2;simp[Builtin.len_,run_underlying hu])
    exact key x len t _ U cv (by rw[<- ay]) (by rw[<- ay]) hval (by simp[Builtin.len_,run_underlying hu])
   simp at ay
  simp at ay
 ·rename_i e hm hu gh;obtain⟨x,U,jf⟩:=hargs _ hm;obtain⟨t,cv,pt⟩:=rL gh;rw[pt] at hu;simp only[dA] at ay;have ak:=h.eval x;rw[jf] at ak;exact key x 0 t _ U cv (by rw[<- ay];rfl) (by rw[<- ay]) ak.tB (by simp[Builtin.len_,run_underlying hu])
 ·rename_i b hm hu gh;obtain⟨x,U,jf⟩:=hargs _ hm;obtain⟨t,cv,pt⟩:=rL gh;rw[pt] at hu;simp only[dA] at ay;have ak:=h.eval x;rw[jf] at ak;exact key x b.size t _ U cv (by rw[<- ay]) (by rw[<- ay]) ak.E7 (by simp[Builtin.len_,run_underlying hu])
 simp at ay
theorem KB {ok:Nat->Prop}{bi:ly}{bo:ln}{fv off sz:Nat}{es:List (List aA)}(h:r7 w ok bi bo fv off sz es)(l n:Nat)(aZ:l<=es.length):
 r7 w ok bi bo fv (off+l*sz) sz ((es.drop l).take n):=by
 have wL : ∀e∈(es.drop l).take n,e.length=sz:=fun e he=>h.1 e (List.mem_of_mem_drop (List.mem_of_mem_take he));refine⟨wL,fun j x U=> ?_⟩;rcases Nat.eq_zero_or_pos sz with h0|bS
 ·have e1 : ∀(l:List (List aA)),(∀e∈l,e.length=0)->l.flatten=[]:=by
   intro l aZ;induction l with
   | nil=>rfl
   | cons a l ih=>rw[aru,ih fun e he=>aZ e (by simp[he])];have:=aZ a (by simp);simp_all
  rw[e1 _ (fun e he=>(wL e he).trans h0)] at U;simp at U
 rw[sT bS _ wL] at U
 have ap:j / sz<n:=by
  rcases Nat.lt_or_ge (j / sz) n with dc|dc
  ·exact dc
  rw[dT (by simp;omega)] at U;simp at U
 rw[dS,dz ap,arz] at U;obtain⟨v,e1,e2,bG⟩:=h.2 (l*sz+j) x (by rw[sT bS es h.1];have fw:(l*sz+j) / sz=l+j / sz:=(by rw[Nat.mul_comm,Nat.mul_add_div bS]);have fo:(l*sz+j) % sz=j % sz:=(by rw[Nat.mul_comm,Nat.mul_add_mod]);rw[fw,fo];exact U);exact⟨v,by rw[Nat.add_assoc];exact e1,e2,bG⟩
theorem Ku {t e:TypeId}(hu:P.underlying t=some (.slice e))(aa:(P.info? e).isSome=true)(A:Option Addr)(len cap:Nat)(cj lj:Option Value)(l h:Nat)
 (aaq:(cj=none/\l=0)\/ ∃k,cj=some (.int k l)) (aar:(lj=none/\h=len)\/ ∃k,lj=some (.int k h)) (h1:l<=h) (h2:h<=len) (R:len<=cap) :
 (Instr.sliceAt t (.slice A len cap) cj lj none).run P w = .ok (.slice (if cap=l then A else A.map (·.add (l*P.cellsOf e))) (h-l) (cap-l)) w:=by
 have aO : ∀(k:IntKind) (n y:Nat) (code:BoundsCode),n<=y->(Instr.sliceBound (.int k n) y code).run P w = .ok n w:=by intro k n y code a2;simp[Instr.sliceBound,asIntOf,a2]
 rcases aaq with ⟨rfl,rfl⟩|⟨k0,rfl⟩<;>rcases aar with ⟨rfl,rfl⟩|⟨kh,rfl⟩ <;>
  simp[Instr.sliceAt,Instr.slice,run_underlying hu,Instr.sliceBounds,xi aa,aO,h1,h2,R,Nat.le_trans h2 R]
theorem EY {x:Option Operand}(h:dZ g s aD a w){d n:Nat}{al:List Prop}(aO:bJ (x.map (ga s.E)) d=some (n,al))(da:∀p∈al,p):
 (x.map a.eval=none/\n=d)\/ ∃k,x.map a.eval=some (.int k n):=by
 cases x with
 | none=>simp[bJ] at aO;exact .inl ⟨rfl,aO.1.symm⟩
 | some x =>
  have U:=h.eval x;simp only[arq] at aO ⊢;unfold bJ at aO;split at aO
  ·rename_i he;simp at he
  ·rename_i _ k y he;simp only[dA] at he;rw[he] at U;simp only[dA,dF] at aO;obtain⟨rfl,rfl⟩:=aO;have h0:0<=y:=da _ (by simp);refine .inr ⟨k,?_⟩;rw[U.rH,Int.toNat_of_nonneg h0]
  simp at aO
theorem ajn {t:TypeId}{x:Operand}{cj aa:Option Operand}(h:dZ g s aD a w)(an:o.op = .slice t x cj aa none)(ay:gf P s.E s.a7 a8 o dV=some bM)(da:∀p∈bM.gV,p):Fin P g s a w o bM:=by
 simp only[gf,an] at ay;have U:=h.eval x
 have Bb : ∀sz e,sz=P.cellsOf e->sz≠0->(P.info? e).isSome=true:=by
  intro sz e bS cK
  cases aa:P.info? e with
  | none=>simp[Program.cellsOf,aa] at bS;exact absurd bS cK
  | some i=>rfl
 split at ay
 ·rename_i e sz es hu jf
  rw[jf] at U;split at ay;rotate_left
  ·simp at ay
  rename_i l cf n aU aZ a2;simp only[Option.ite_none_right_eq_some,dA] at ay;obtain⟨⟨bS,cK⟩,ay⟩:=ay;subst ay;have jw:=EY h aZ fun p ai=>da p (by simp[ai]);have kE:=EY h a2 fun p ai=>da p (by simp[ai]);have h1:l<=n:=da _ (by simp);have h2:n<=es.length:=da _ (by simp);rcases U.xr with ⟨IU,A,c,hval,hA⟩|⟨fv,off,c,aO,hval,a1,kN⟩
  ·subst IU
   have IV:n=0:=(by simpa using h2);subst IV;have qG:l=0:=(by omega);subst qG;refine kj (v:= .slice (if c=0 then A else A.map (·.add (0*P.cellsOf e))) (0-0) (c-0)) h ?_ rfl ?_
   ·have:=Ku (w:=w) hu (Bb sz e bS cK) A 0 c (cj.map a.eval) (aa.map a.eval) 0 0 jw kE (dE _) (dE _) (Nat.zero_le _);simp only[execOp,an,hval];simp only[Option.map_none,Sem.run_bind,this];rfl
   refine .kT sz _ _ fun a2=> ?_;split at a2
   ·rename_i pI;omega
   have:=hA (by simpa using a2);omega
  have hlen:((es.drop l).take (n-l)).length=n-l:=(by simp;omega);refine kj (v:= .slice (if c=l then some ⟨fv,off,none⟩ else (some (⟨fv,off,none⟩:Addr)).map (·.add (l*P.cellsOf e))) (n-l) (c-l)) h ?_ rfl ?_
  ·have:=Ku (w:=w) hu (Bb sz e bS cK) (some ⟨fv,off,none⟩) es.length c (cj.map a.eval) (aa.map a.eval) l n jw kE h1 h2 a1;simp only[execOp,an,hval];simp only[Option.map_none,Sem.run_bind,this];rfl
  by_cases jG:c=l
  ·have:n-l=0:=(by omega);rw[this];show Rel _ _ _ _ (.isl sz ((es.drop l).take 0)) _;rw[List.take_zero];exact .kT sz _ _ (fun _=>by omega)
  rw[dB jG];simp only[arq,vv,<- bS];have ak:=(KB kN l (n-l) (by omega)).isl (c:=c-l) ⟨aO.1,fun e he=>aO.2 e (List.mem_of_mem_drop (List.mem_of_mem_take he))⟩ (by rw[hlen];omega);rw[hlen] at ak;exact ak
 ·rename_i e r k abt len hu jf
  rw[jf] at U;split at ay
  ·simp at ay
  rename_i row eP;split at ay
  ·simp at ay
  rename_i al abu bC;split at ay;rotate_left
  ·simp at ay
  rename_i l cf n aU aZ a2;simp only[Option.ite_none_right_eq_some,dA] at ay;obtain⟨⟨bS,cK⟩,ay⟩:=ay;subst ay;have l3:s.al r k=some al:=(by unfold S.al;rw[eP];exact xt bC fun p ai=>da p (by simp[ai]));have jw:=EY h aZ fun p ai=>da p (by simp[ai]);have kE:=EY h a2 fun p ai=>da p (by simp[ai]);have h1:l<=n:=da _ (by simp);have h2:n<=len:=da _ (by simp);have lJ:=K3 l3;rcases U.AH (kw l3) with ⟨ai,rfl,rfl,hval⟩|⟨b,m,A,c,ai,hval,vL,xW,pu,hm⟩
  ·have IV:n=0:=(by omega);subst IV;have qG:l=0:=(by omega);subst qG;refine kj (v:= .slice none 0 0) h ?_ rfl (.qQ lJ ((kw l3).trans (by rw[ai])));have:=Ku (w:=w) hu (Bb _ e bS cK) none 0 0 (cj.map a.eval) (aa.map a.eval) 0 0 jw kE (dE _) (dE _) (dE _);simp only[execOp,an,hval];simp only[Option.map_none,Sem.run_bind,this];rfl
  refine kj (v:= .slice (if c=l then A else A.map (·.add (l*P.cellsOf e))) (n-l) (c-l)) h ?_ rfl ?_
  ·have:=Ku (w:=w) hu (Bb _ e bS cK) A len c (cj.map a.eval) (aa.map a.eval) l n jw kE h1 h2 vL;simp only[execOp,an,hval];simp only[Option.map_none,Sem.run_bind,this];rfl
  refine Rel.bw lJ ((kw l3).trans (by rw[ai])) (by omega) (by omega) ?_;refine⟨by rw[<- pu];congr 1;omega,?_⟩;by_cases jG:c=l
  ·exact .inl (by omega)
  rcases hm with hm|hA
  ·exact .inl (by omega)
  refine .inr ?_;rw[dB jG,hA];simp only[arq,vv,<- bS,Nat.add_mul]
 ·rename_i b hu jf
  rw[jf] at U;split at ay;rotate_left
  ·simp at ay
  rename_i l cf n aU aZ a2;simp only[dA] at ay;subst ay;have jw:=EY h aZ fun p ai=>da p (by simp[ai]);have kE:=EY h a2 fun p ai=>da p (by simp[ai]);have h1:l<=n:=da _ (by simp);have h2:n<=b.size:=da _ (by simp);refine kj (v:= .string (b.extract l n)) h ?_ rfl (.s _);have aO : ∀(k:IntKind) (n y:Nat) (code:BoundsCode),n<=y->(Instr.sliceBound (.int k n) y code).run P w = .ok n w:=(by intro k n y code a2;simp[Instr.sliceBound,asIntOf,a2]);simp only[execOp,an,U.E7,Option.map_none]
  rcases jw with ⟨e1,rfl⟩|⟨k0,e1⟩<;>rcases kE with ⟨e2,rfl⟩|⟨kh,e2⟩<;>rw[e1,e2] <;>
   simp[Instr.sliceAt,Instr.slice,run_underlying hu,Instr.sliceBounds,aO,h1,h2]
 simp at ay
end
section
variable {P:Program} {g:G} {s:S} {aD:g9} {a:Act} {w:World} {o:Oper} {dV:f8} {a8:Nat} {bM:jX}
theorem WE {ok:Nat->Prop}{bi:ly}{bo:ln}{t:TypeId}{c:List aA}{off:Nat}{x:aA}{vs:List Value}(aZ:vs.length=c.length)
 (mB : ∀(j:Nat) u,vs[j]? = some u->mO u=true) (ak : ∀(j:Nat) x u,c[j]? = some x->vs[j]? = some u->Rel w ok bi bo x u)
 (cv:uR P t c off=some x) : ∃v,(part t vs.toArray off).run P w = .ok v w/\Rel w ok bi bo x v:=by
 unfold uR at cv;split at cv
 ·simp at cv
 rename_i aa;simp only[Bool.not_eq_true',Bool.not_eq_false,dO] at aa;simp only[part,Sem.run_bind,Xa aa.1,Result.andThen];split at cv
 ·rename_i vI
  rw[vI];split at cv;rotate_left
  ·simp at cv
  rename_i hle;simp at cv;subst cv;have e:(vs.toArray.extract off (off+P.cellsOf t))=((vs.drop off).take (P.cellsOf t)).toArray:=(by apply Array.ext';simp[List.extract_eq_take_drop]);refine⟨.agg ((vs.drop off).take (P.cellsOf t)).toArray,by simp[xi aa.2],?_⟩;refine .agg _ (by simp;omega) ?_ ?_
  ·intro j v bh
   rw[dS] at bh;split at bh
   ·rw[arz] at bh;exact mB _ _ bh
   simp at bh
  intro j y v aY bh;rw[dS] at bh aY;split at bh
  ·rename_i ap;rw[dz ap] at aY;rw[arz] at bh aY;exact ak _ _ _ aY bh
  simp at bh
 rename_i vI;have vI:HS P t=false:=by simpa using vI
 rw[vI];split at cv
 ·rename_i y aY
  split at cv
  ·simp at cv;subst cv
   have Fh:off<vs.length:=by
    rcases Nat.lt_or_ge off c.length with h|h
    ·omega
    rw[dT h] at aY;simp at aY
   exact⟨vs[off],by simp[Fh],ak off y _ aY (dy Fh)⟩
  simp at cv
 simp at cv
theorem ajo {t:TypeId}{x:Operand}{f:Nat}(h:dZ g s aD a w)(an:o.op = .field t x f)(ay:gf P s.E s.a7 a8 o dV=some bM):Fin P g s a w o bM:=by
 simp only[gf,an] at ay;have U:=h.eval x;split at ay
 ·rename_i nB IR
  split at ay
  ·rename_i fd c zj jf
   rw[jf] at U
   cases cv:uR P fd.type c fd.offset with
   | none=>simp[cv] at ay
   | some v =>
    simp[cv] at ay;subst ay;obtain⟨vs,hval,aZ,a1,ak⟩:=U.EO;obtain⟨u,h1,h2⟩:=WE aZ a1 ak cv;refine kj (v:=u) h ?_ rfl h2;simp[execOp,an,hval,Instr.field,run_underlying (OI IR),zj,asAgg,h1]
  simp at ay
 simp at ay
theorem Xe : ∀ {a b c:List aA},tR 0 a b=some c->c=a
 | [],[],c,h=>by simp[tR] at h;exact h
 | .n k x::a,.n eh y::b,c,h=>by
  unfold tR at h;split at h
  ·cases hm:tR 0 a b with
   | none=>simp[hm] at h
   | some d=>simp[hm] at h;rw[<- h,Xe hm]
  simp at h
 | [],_::_,_,h=>by simp[tR] at h
theorem XM {j:Int}(ap:j≠0): ∀ {a b c:List aA},tR j a b=some c->c=b
 | [],[],c,h=>by simp[tR] at h;exact h
 | .n k x::a,.n eh y::b,c,h=>by
  unfold tR at h;split at h
  ·rename_i a4
   subst a4
   cases hm:tR j a b with
   | none=>simp[hm] at h
   | some d=>simp[hm,ap] at h;rw[<- h,XM ap hm]
  simp at h
 | [],_::_,_,h=>by simp[tR] at h
theorem ail {t:TypeId}{x y:Operand}(h:dZ g s aD a w)(an:o.op = .index t x y)(ay:PP P t (ga s.E x) (ga s.E y)=some bM)(da:∀p∈bM.gV,p):Fin P g s a w o bM:=by
 unfold PP at ay;have U:=h.eval x;have aY:=h.eval y;split at ay;rotate_left
 ·simp at ay
 rename_i e cs cY j iz xO Iq;rw[xO] at U;rw[Iq] at aY;obtain⟨hu,aa,-,-⟩:=PA iz;split at ay;rotate_left
 ·simp at ay
 rename_i eK kD bH aO
 cases hm:tR j eK kD with
 | none=>simp[hm] at ay
 | some c =>
  simp only[hm,arq,dA] at ay;subst ay;have h0:0<=j:=da _ (by simp);have h1:j<2:=da _ (by simp);obtain⟨vs,hval,aZ,a1,ak⟩:=U.EO
  have key:uR P e cs (j.toNat*P.cellsOf e)=some (.agg c):=by
   have:j=0\/j=1:=(by omega);rcases this with rfl|rfl
   ·rw[Xe hm];exact bH
   rw[XM (by decide) hm];exact aO
  obtain⟨u,k0,kh⟩:=WE aZ a1 ak key;refine kj (v:=u) h ?_ rfl kh;simp[execOp,an,hval,aY.rH,Instr.index,asIntOf,run_underlying hu,h0,h1,xi aa,k0]
theorem ajp {t:TypeId}{x y:Operand}(h:dZ g s aD a w)(an:o.op = .index t x y)(ay:gf P s.E s.a7 a8 o dV=some bM)(da:∀p∈bM.gV,p):Fin P g s a w o bM:=by
 simp only[gf,an] at ay;have U:=h.eval x;have aY:=h.eval y;split at ay
 ·rename_i b k j hu xO Iq
  rw[xO] at U;rw[Iq] at aY;simp only[dA] at ay;subst ay;have h0:0<=j:=da _ (by simp);have h1:j<b.size:=da _ (by simp);have h2:j.toNat<b.size:=(by omega);refine kj (v:= .int .u8 (b[j.toNat]).toNat) h ?_ rfl ?_
  ·simp[execOp,an,U.E7,aY.rH,Instr.index,asIntOf,run_underlying hu,h0,h2]
  have e:b.data.toList.getD j.toNat 0=b[j.toNat]:=(by rw[dN,Array.getElem?_toList,aro (by simpa using h2)];rfl);show Rel _ _ _ _ (.n .u8 _) _;rw[e];exact .n _ _
 exact ail h an ay da
theorem aim (off:Nat): ∀(vs:List Value) (n:Nat) (cs:Array Value) (j:Nat),off+n+vs.length<=cs.size ->
 ((vs.zipIdx n).foldl (fun cs (x:Value×Nat)=>cs.setIfInBounds (off+x.2) x.1) cs)[j]? = if off+n<=j/\j<off+n+vs.length then vs[j-(off+n)]? else cs[j]? := by
 intro vs
 induction vs with
 | nil=>intro n cs j h;simp;intro h1 h2;omega
 | cons v vs ih =>
  intro n cs j h;simp only[dI] at h;simp only[List.zipIdx_cons,List.foldl_cons];rw[ih (n+1) _ j (by simp;omega)];simp only[dI,Array.getElem?_setIfInBounds];by_cases h1:j=off+n
  ·subst h1;rw[dB (by omega),dz rfl,dz (by omega),dz (by omega)];simp
  by_cases h2:off+(n+1)<=j/\j<off+(n+1)+vs.length
  ·rw[dz h2,dz (by omega)];rw[show j-(off+n)=(j-(off+(n+1)))+1 by omega];rfl
  rw[dB h2,dB (fun e=>h1 e.symm),dB (by omega)]
theorem af3 (off:Nat): ∀(vs:List (Value×Nat)) (cs:Array Value),(vs.foldl (fun cs (x:Value×Nat)=>cs.setIfInBounds (off+x.2) x.1) cs).size=cs.size:=by
 intro vs
 induction vs with
 | nil=>intro cs;rfl
 | cons v vs ih=>intro cs;simp only[List.foldl_cons];rw[ih];simp
def FZ (w:World)(ok:Nat->Prop)(bi:ly)(bo:ln)(c:List aA)(cs:Array Value):Prop :=
 cs.size=c.length/\(∀(j:Nat) u,cs[j]? = some u->mO u=true)/\ ∀(j:Nat) x u,c[j]? = some x->cs[j]? = some u->Rel w ok bi bo x u
theorem ajq {ok:Nat->Prop}{bi:ly}{bo:ln}{c:List aA}{cs:Array Value}(h:FZ w ok bi bo c cs){x:aA}{v:Value}{off:Nat}(U:Rel w ok bi bo x v)(a1:x.EF=true)
 (ke:off+x.cells.length<=c.length):v.cells.size=x.cells.length /\
   FZ w ok bi bo (setCells c off x.cells) (v.cells.zipIdx.foldl (fun cs (y:Value×Nat)=>cs.setIfInBounds (off+y.2) y.1) cs):=by
 obtain⟨vs,bh,aZ,mB,ak⟩:=U.cellsOf (aA.Wk a1);have o4 : ∀j,(v.cells.zipIdx.foldl (fun cs (y:Value×Nat)=>cs.setIfInBounds (off+y.2) y.1) cs)[j]? = if off<=j/\j<off+vs.length then vs[j-off]? else cs[j]? := by intro j;rw[bh];have:=aim off vs 0 cs j (by rw[h.1];omega);simp only[Nat.add_zero] at this;rw[<- this,<- Array.foldl_toList,Array.toList_zipIdx]
 refine⟨by rw[bh];simpa using aZ,?_,?_,?_⟩
 ·rw[Vg ke,<- h.1,<- Array.foldl_toList,af3]
 ·intro j u hu
  rw[o4] at hu;split at hu
  ·exact mB _ _ hu
  exact h.2.1 _ _ hu
 intro j y u aY hu;rw[o4] at hu;rw[OH ke] at aY;by_cases o3:off<=j/\j<off+x.cells.length
 ·rw[dz o3] at aY;rw[dz (by rw[aZ];exact o3)] at hu;exact ak _ _ _ aY hu
 rw[dB o3] at aY;rw[dB (by rw[aZ];exact o3)] at hu;exact h.2.2 _ _ _ aY hu
theorem OR {ok:Nat->Prop}{bi:ly}{bo:ln}(place:Nat->Option (Nat×Nat)): ∀(l:List (Nat×Nat×aA)) (lP:List (Nat×Value)) (c:List aA) (cs:Array Value) (eG:List aA),
 FZ w ok bi bo c cs->l.length=lP.length ->
 (∀(j:Nat) off size x i v,l[j]? = some (off,size,x)->lP[j]? = some (i,v)->place i=some (off,size)/\Rel w ok bi bo x v) ->
 wD c l=some eG-> ∃om,Instr.fill place cs lP=some om/\FZ w ok bi bo eG om:=by
 intro l
 induction l with
 | nil =>
  intro lP c cs eG h aZ _ cp;have:lP=[]:=dM.1 (by simpa using aZ.symm);subst this;simp[wD] at cp;subst cp;exact⟨cs,rfl,h⟩
 | cons q l ih =>
  intro lP c cs eG h aZ ai cp;obtain⟨off,size,x⟩:=q
  match lP,aZ with
  | (i,v)::lP,aZ =>
   obtain⟨QL,U⟩:=ai 0 off size x i v rfl rfl;simp only[wD] at cp;split at cp
   ·rename_i a1;simp only[dO,decide_eq_true_eq] at a1;obtain⟨⟨h1,h2⟩,R⟩:=a1;obtain⟨e1,e2⟩:=ajq h U h1 (off:=off) (by omega);obtain⟨om,f1,f2⟩:=ih lP _ _ eG e2 (by simpa using aZ) (fun j off size x i v a b=>ai (j+1) off size x i v a b) cp;refine⟨om,?_,f2⟩;rw[Instr.fill];simp only[QL];have iD : ¬(decide (v.cells.size≠size) || decide (off+v.cells.size>cs.size))=true:=(by simp;rw[e1,h.1];omega);rw[dB iD];exact f1
   simp at cp
theorem mapM_some {α β:Type}(f:α->β)(p:α->Option β): ∀(l:List α),(∀x∈l,p x=some (f x))->l.mapM p=some (l.map f)
 | [],_=>rfl
 | x::l,h=>by rw[List.mapM_cons,h x (by simp),mapM_some f p l fun y aY=>h y (by simp[aY])];rfl
theorem Yq {α β:Type}(p:α->Option β): ∀(l:List α) (gW:List β),l.mapM p=some gW->gW.length=l.length/\ ∀(j:Nat) x y,l[j]? = some x->gW[j]? = some y->p x=some y
 | [],gW,h=>by simp at h;subst h;exact⟨rfl,fun j x y U=>by simp at U⟩
 | a::l,gW,h=>by
  rw[List.mapM_cons] at h
  cases bH:p a with
  | none=>simp[bH] at h
  | some b =>
   cases aZ:l.mapM p with
   | none=>simp[bH,aZ] at h
   | some r =>
    simp[bH,aZ] at h;subst h;obtain⟨h1,h2⟩:=Yq p l r aZ;refine⟨by simp[h1],fun j x y U aY=> ?_⟩
    cases j with
    | zero=>simp at U aY;subst U;subst aY;exact bH
    | succ j=>simp at U aY;exact h2 j x y U aY
theorem PB {t:TypeId}{z:List aA}(cK:uz P t=some z): ∃i fO,P.info? t=some i/\i.zero=some fO/\fO.cells.size=z.length/\FZ w (s.ok g aD w) s.bi (s.bo aD) z fO.cells:=by
 obtain⟨i,fO,aa,nv,uj,mB⟩:=Hr cK;have bS:fO.cells.size=z.length:=by rw[uj];simp
 refine⟨i,fO,aa,nv,bS,bS,fun j u hu=> ?_,fun j x u U hu=> ?_⟩
 ·have ap:j<z.length:=by
   have:=(arD.1 hu).1;omega
  obtain⟨v,e1,e2,-⟩:=mB j z[j] (dy ap);rw[hu] at e1;simp at e1;subst e1;exact e2
 obtain⟨v,e1,-,bG⟩:=mB j x U;rw[hu] at e1;simp at e1;subst e1;exact bG _ _ _ _
theorem ag7 {t:TypeId}{parts:Array (Nat×Operand)}(h:dZ g s aD a w)(an:o.op = .build t parts)(ay:Pc P t (parts.toList.map fun p=>(p.1,ga s.E p.2))=some bM):Fin P g s a w o bM:=by
 unfold Pc at ay;split at ay;rotate_left
 ·simp at ay
 rename_i n e z iz cK;obtain⟨hu,aa,-,-⟩:=PA iz;rw[List.map_map] at ay
 cases cp:wD z (parts.toList.map ((fun p:Nat×aA=>(p.1*P.cellsOf e,P.cellsOf e,p.2))∘fun p=>(p.1,ga s.E p.2))) with
 | none=>rw[cp] at ay;simp at ay
 | some c =>
  rw[cp] at ay;simp only[arq,dA] at ay;subst ay;obtain⟨it,fO,BB,nv,gh,hcs⟩:=PB (w:=w) (s:=s) (g:=g) (aD:=aD) cK;obtain⟨RE,Fq⟩:=Option.isSome_iff_exists.1 aa;have alW:P.cellsOf e=RE.size:=(by simp[Program.cellsOf,Fq]);obtain⟨om,f1,f2⟩:=OR (w:=w) (ok:=s.ok g aD w) (bi:=s.bi) (bo:=s.bo aD) (fun i=>some (i*RE.size,RE.size)) _ (parts.map fun (i,x)=>(i,a.eval x)).toList z fO.cells c hcs (by simp) (by intro j off size x i v ap bh;simp only[dK,dP,Function.comp,dF] at ap;simp only[Array.toList_map,dK,dP] at bh;obtain⟨p,ai,e1,e2,bG⟩:=ap;obtain⟨⟨fU,dY⟩,nX,bh⟩:=bh;simp only[dF] at bh;obtain⟨rfl,rfl⟩:=bh;rw[ai] at nX;have:=dJ nX;subst this;refine⟨by rw[<- e1,<- e2,alW],?_⟩;rw[<- bG];exact h.eval _) cp;have aO:P.built t (parts.map fun (i,x)=>(i,a.eval x)).toList=some om:=(by unfold Program.built;simp only[BB,hu,nv,Fq];exact f1);refine kj (v:= .agg om) h ?_ rfl ?_
  ·have:=run_build w t _ om aO;simp[execOp,an,this]
  have:=Rel.agg (w:=w) (ok:=s.ok g aD w) (bi:=s.bi) (bo:=s.bo aD) (c:=c) om.toList (by simpa using f2.1) (fun j u hu=>f2.2.1 j u (by simpa using hu)) (fun j x u U hu=>f2.2.2 j x u U (by simpa using hu));simpa using this
theorem ajr {t:TypeId}{parts:Array (Nat×Operand)}(h:dZ g s aD a w)(an:o.op = .build t parts)(ay:gf P s.E s.a7 a8 o dV=some bM):Fin P g s a w o bM:=by
 simp only[gf,an] at ay;split at ay;rotate_left
 ·exact ag7 h an ay
 rename_i nB z IR cK;split at ay
 ·simp at ay
 rename_i q9;have q9 : ∀f∈nB.toList,(P.info? f.type).isSome=true:=by rw[Bool.not_eq_false] at q9;exact List.all_eq_true.1 q9
 split at ay;rotate_left
 ·simp at ay
 rename_i l aZ
 cases cp:wD z l with
 | none=>simp[cp] at ay
 | some c =>
  simp[cp] at ay;subst ay;obtain⟨it,fO,BB,nv,gh,hcs⟩:=PB (w:=w) (s:=s) (g:=g) (aD:=aD) cK;obtain⟨lo,lQ⟩:=Yq _ _ _ aZ
  have amo:nB.toList.mapM (fun f=>(P.info? f.type).map fun i=>(f.offset,i.size))=some (nB.toList.map fun f=>(f.offset,P.cellsOf f.type)):=by
   refine mapM_some (fun f:Field=>(f.offset,P.cellsOf f.type)) _ _ fun f cp=> ?_;have:=q9 f cp
   cases aa:P.info? f.type with
   | none=>simp[aa] at this
   | some i=>simp[Program.cellsOf,aa]
  obtain⟨om,f1,f2⟩:=OR (w:=w) (ok:=s.ok g aD w) (bi:=s.bi) (bo:=s.bo aD) ((nB.toList.map fun f=>(f.offset,P.cellsOf f.type)).toArray[·]?) l (parts.map fun (i,x)=>(i,a.eval x)).toList z fO.cells c hcs (by simpa using lo) (by intro j off size x i v ap bh;simp only[Array.toList_map,dK,dP] at bh;obtain⟨⟨fU,dY⟩,ai,bh⟩:=bh;simp only[dF] at bh;obtain⟨rfl,rfl⟩:=bh;have:=lQ j _ _ ai ap;simp only[dP,dF] at this;obtain⟨fd,h1,h2,R,aj⟩:=this;subst h2;subst R;subst aj;refine⟨?_,h.eval dY⟩;rw[List.getElem?_toArray,dK,Array.getElem?_toList,h1];rfl) cp;have aO:P.built t (parts.map fun (i,x)=>(i,a.eval x)).toList=some om:=(by unfold Program.built;simp only[BB,OI IR,nv,amo];exact f1);refine kj (v:= .agg om) h ?_ rfl ?_
  ·have:=run_build w t _ om aO;simp[execOp,an,this]
  have:=Rel.agg (w:=w) (ok:=s.ok g aD w) (bi:=s.bi) (bo:=s.bo aD) (c:=c) om.toList (by simpa using f2.1) (fun j u hu=>f2.2.1 j u (by simpa using hu)) (fun j x u U hu=>f2.2.2 j x u U (by simpa using hu));simpa using this
theorem ae4 {sz:Nat}{es:List (List aA)}(aZ:∀e∈es,e.length=sz){i:Nat}(aa:i<es.length){c:List aA}(a1:c.length=sz):
 setCells es.flatten (i*sz) c=(es.set i c).flatten:=by
 have hlen : ∀(es:List (List aA)),(∀e∈es,e.length=sz)->es.flatten.length=es.length*sz:=by
  intro es
  induction es with
  | nil=>simp
  | cons e es ih =>
   intro h;rw[aru,dD,ih fun x U=>h x (by simp[U]),h e (by simp),dI,Nat.add_mul];omega
 have ke:i*sz+c.length<=es.flatten.length:=by rw[hlen es aZ,a1];have:=arn sz (show i+1<=es.length by omega);rw[Nat.add_mul] at this;omega
 apply arw;intro j;rw[OH ke,Wl aZ (dy aa) a1,a1]
theorem WG {sz:Nat}: ∀(l:List (Nat×aA)) (es iE:List (List aA)),(∀e∈es,e.length=sz)->E6 sz es l=some iE ->
 wD es.flatten (l.map fun p=>(p.1*sz,sz,p.2))=some iE.flatten/\(∀e∈iE,e.length=sz)/\iE.length=es.length
 | [],es,iE,aZ,h=>by simp[E6] at h;subst h;exact⟨rfl,aZ,rfl⟩
 | (i,x)::l,es,iE,aZ,h=>by
  simp only[E6] at h;split at h;rotate_left
  ·simp at h
  rename_i a1;simp only[dO,decide_eq_true_eq] at a1;obtain⟨⟨h1,h2⟩,R⟩:=a1
  have QJ : ∀e∈es.set i x.cells,e.length=sz:=by
   intro e hm;rcases List.mem_or_eq_of_mem_set hm with dc|dc
   ·exact aZ e dc
   exact dc▸h2
  obtain⟨fw,fo,bA⟩:=WG l (es.set i x.cells) iE QJ h;have e:=ae4 aZ R h2
  have ke:i*sz+sz<=es.flatten.length:=by
   have:(setCells es.flatten (i*sz) x.cells).length=(es.set i x.cells).flatten.length:=by rw[e]
   have a0 : ∀(es:List (List aA)),(∀e∈es,e.length=sz)->es.flatten.length=es.length*sz:=by
    intro es
    induction es with
    | nil=>simp
    | cons e es ih =>
     intro h;rw[aru,dD,ih fun x U=>h x (by simp[U]),h e (by simp),dI,Nat.add_mul];omega
   rw[a0 es aZ];have:=arn sz (show i+1<=es.length by omega);rw[Nat.add_mul] at this;omega
  refine⟨?_,fo,by simpa using bA⟩;simp only[List.map_cons,wD,h1,h2,ke,decide_true,Bool.and_self,if_true];rw[e];exact fw
theorem ago {t:TypeId}{len:Nat}{parts:Array (Nat×Operand)}(h:dZ g s aD a w)(gi:s.a7 a8=none)(an:o.op = .buildSlice t len parts)(ay:gf P s.E s.a7 a8 o dV=some bM):Fin P g s a w o bM:=by
 simp only[gf,an] at ay;split at ay;rotate_left
 ·simp at ay
 rename_i e he;split at ay;rotate_left
 ·simp at ay
 rename_i z cK;split at ay
 ·simp at ay
 rename_i a1;simp only[not_or,Nat.not_lt,Decidable.not_not] at a1;obtain⟨p5,Fs,Ft⟩:=a1;split at ay;rotate_left
 ·simp at ay
 rename_i es jP;simp only[dA] at ay;subst ay;obtain⟨it,fO,BB,nv,gh,hcs⟩:=PB (w:=w) (s:=s) (g:=g) (aD:=aD) cK;have mB:P.cellsOf e=it.size:=by simp[Program.cellsOf,BB]
 have Z0 : ∀x∈List.replicate len z,x.length=z.length:=fun x U=>by rw[List.eq_of_mem_replicate U]
 obtain⟨f1,f2,f3⟩:=WG _ _ _ Z0 jP
 have vM:FZ w (s.ok g aD w) s.bi (s.bo aD) (List.replicate len z).flatten ((Array.range (len*it.size)).map (fO.cells[· % fO.cells.size]!)):=by
  have Mq:0<z.length:=(by omega);have o4 : ∀j,j<len*it.size->((Array.range (len*it.size)).map (fO.cells[· % fO.cells.size]!))[j]? = fO.cells[j % z.length]? := (by intro j ap;rw[Array.getElem?_map,Array.getElem?_range];simp only[ap,if_true,arq];have hm:j % fO.cells.size<fO.cells.size:=Nat.mod_lt _ (by omega);rw[getElem!_pos fO.cells _ hm,<- gh,aro hm]);have eS : ∀(j:Nat) u,((Array.range (len*it.size)).map (fO.cells[· % fO.cells.size]!))[j]? = some u->j<len*it.size:=(by intro j u hu;have:=(arD.1 hu).1;simpa using this);refine⟨by simp[<- mB,<- Fs],fun j u hu=> ?_,fun j x u U hu=> ?_⟩
  ·have ap:=eS j u hu;rw[o4 j ap] at hu;exact hcs.2.1 _ _ hu
  have ap:=eS j u hu;rw[o4 j ap] at hu;rw[sT Mq _ Z0,List.getElem?_replicate] at U;split at U
  ·exact hcs.2.2 _ _ _ U hu
  simp at U
 obtain⟨om,g1,g2⟩:=OR (w:=w) (ok:=s.ok g aD w) (bi:=s.bi) (bo:=s.bo aD) (fun i=>some (i*it.size,it.size)) ((parts.toList.map fun p=>(p.1,ga s.E p.2)).map fun p=>(p.1*z.length,z.length,p.2)) (parts.map fun (i,x)=>(i,a.eval x)).toList _ _ es.flatten vM (by simp) (by intro j off size x i v ap bh;simp only[Array.toList_map,dK,dP,List.map_map] at bh ap;obtain⟨⟨fU,dY⟩,ai,bh⟩:=bh;obtain⟨⟨i2,x2⟩,IM,ap⟩:=ap;rw[ai] at IM;simp only[dA,dF] at IM bh;obtain⟨rfl,rfl⟩:=IM;obtain⟨rfl,rfl⟩:=bh;simp only[Function.comp,dF] at ap;obtain⟨rfl,rfl,rfl⟩:=ap;exact⟨by rw[<- mB,<- Fs],h.eval dY⟩) f1
 have lh:(Instr.buildSlice t len (parts.map fun (i,x)=>(i,a.eval x))).run P w = .ok (.slice (some ⟨w.heap.size,0,none⟩) len len) (w.alloc (.cells om e)):=by
  have h1 : ¬len*it.size>2 ^ 24:=(by rw[<- mB,<- Fs];omega);by_cases h0:len*it.size=0;rotate_left
  ·simp only[Instr.buildSlice,run_underlying (wo he),sizeOf,typeInfo,BB,newRow,zeroValue,nv,Sem.run_bind,Result.andThen_ok,run_program,Sem.run_pure,Sem.run_ite,h1,h0,if_false];rw[g1];rfl
  have qG:len=0:=by
   rcases Nat.eq_zero_or_pos len with dc|dc
   ·exact dc
   have:0<len*it.size:=Nat.mul_pos dc (by omega);omega
  subst qG;have e0:((Array.range (0*it.size)).map (fO.cells[· % fO.cells.size]!)) = #[]:=(by simp);rw[e0] at g1
  have ai:parts = #[]:=by
   obtain⟨l⟩:=parts
   match l,jP with
   | [],_=>rfl
   | p::l,jP=>simp[E6] at jP
  subst ai;have amp:om = #[]:=(by simpa [Instr.fill] using g1.symm);subst amp;simp[Instr.buildSlice,run_underlying (wo he),sizeOf,typeInfo,BB,newRow,Instr.fill];rw[Array.range_zero',Array.map_empty]
 refine Lk (v:= .slice (some ⟨w.heap.size,0,none⟩) len len) (al:=⟨z.length,es,.live⟩) (c:=om) (f6:=e) h gi rfl ?_ rfl f2 ?_ ?_
 ·simp[execOp,an,lh]
 ·intro j x U
  have ap:j<om.size:=by
   rw[g2.1];rcases Nat.lt_or_ge j es.flatten.length with dc|dc
   ·exact dc
   rw[dT dc] at U;simp at U
  have hu:om[j]? = some om[j]:=aro ap;exact⟨_,hu,g2.2.1 _ _ hu,g2.2.2 _ _ _ U hu⟩
 intro b5 nL pY pq hu cv;refine Rel.bw hu cv (dE _) ?_ ⟨?_,.inr (by simp)⟩
 ·have:len<=len*z.length:=Nat.le_mul_of_pos_right _ (by omega);omega
 rw[g2.1]
 have a0 : ∀(es:List (List aA)),(∀e∈es,e.length=z.length)->es.flatten.length=es.length*z.length:=by
  intro es
  induction es with
  | nil=>simp
  | cons e es ih =>
   intro h;rw[aru,dD,ih fun x U=>h x (by simp[U]),h e (by simp),dI,Nat.add_mul];omega
 rw[a0 es f2,f3];simp
theorem KU (h:dZ g s aD a w)(gi:s.a7 a8=none)(ay:gf P s.E s.a7 a8 o dV=some bM)(da:∀p∈bM.gV,p):Fin P g s a w o bM:=by
 cases an:o.op with
 | move x=>exact Yp h (.inl an) ay
 | assign x=>exact Yp h (.inr an) ay
 | pick c x y=>exact akp h an ay da
 | alloc t=>exact aji h gi an ay
 | box t x=>exact ak9 h gi an ay
 | load t x=>exact akq h an ay da
 | store t x y=>exact ajj h an ay da
 | nilCheck x=>exact ag5 h an ay da
 | binOp op t x y cW=>exact ajk h an ay da
 | unOp op t x=>exact akr h an ay
 | convert t cW x=>exact ahz h an ay
 | makeFunc f JJ c1=>exact ag6 h an ay
 | makeSlice t x y=>exact agM h gi an ay da
 | fieldAddr t x f=>exact agN h an ay da
 | field t x f=>exact ajo h an ay
 | indexAddr t x y=>exact agO h an ay da
 | index t x y=>exact ajp h an ay da
 | extract x i=>exact ahA h an ay
 | slice t x cj aa RF =>
  cases RF with
  | none=>exact ajn h an ay da
  | some m=>simp[gf,an] at ay
 | build t lP=>exact ajr h an ay
 | buildSlice t n lP=>exact ago h gi an ay
 | call c =>
  obtain⟨Mr,args,p4⟩:=c
  cases Mr with
  | builtin b=>cases b<;>first|exact ala h an rfl ay da|simp[gf,an] at ay
  | value f=>simp[gf,an] at ay
  | invoke r m=>simp[gf,an] at ay
 | _=>simp[gf,an] at ay
end
def alb:Option aR->f8
 | some o=> .hp o []
 | none=> .none
def vD (sz:Nat)(a7:Nat->Option (List aR))(a:f8):aA->Option (List (List aA)×List Prop)
 | .isl Ms es=>if Ms=sz then some (es,[]) else none
 | .bw r k cj len=>match rK (a7 r) k a with
  | some (al,cf)=>if al.sz=sz then some ((al.es.drop cj).take len,cf++[cj+len<=al.es.length]) else none
  | none=>none
 | .fQ=>some ([],[])
 | .kM=>some ([],[])
 | _=>none
def AZ (P:Program)(sz:Nat)(z:List aA)(a7:Nat->Option (List aR))(a:f8)(t cW:TypeId)(y:aA):Option (List (List aA)×List Prop) :=
 if t=cW then vD sz a7 a y else
 match P.underlying cW,y with
 | some (.int _),.n .i64 n=>some (List.replicate n.toNat z,[0<=n,n<9223372036854775808])
 | _,_=>none
def rf (P:Program)(E:Nat->aA)(a7:Nat->Option (List aR))(a8:Nat)(b:Builtin)(args:List aA)(p4:List TypeId)(dV:f8):Option jX :=
 match b,args,p4,dV with
 | .append,[x,y],[t,cW],.aw m o =>
  match tL P t with
  | none=>none
  | some e=>match P.info? e,uz P e with
   | some i,some z =>
    if z.length≠i.size\/i.size=0\/i.bytes=0 then none else
    match AZ P i.size z a7 (alb o) t cW y with
    | none=>none
    | some (bW,cf)=>match x with
     | .fQ=>some {val:= .bw a8 0 0 m,hN:=[(a8,[⟨i.size,bW,.live⟩])],gV:=cf++[m=bW.length,m*i.bytes<=140737488355328]}
     | .bw r k 0 len=>match a7 r with
      | none=>none
      | some row=>match er (some row) k with
       | none=>none
       | some al=>if al.cY = .live/\al.sz=i.size/\a8≠r then
        some {val:= .bw a8 0 0 m,hN:=[(a8,[⟨i.size,al.es.take len++bW,.live⟩]),(r,row.set k {al with cY:= .gone})],gV:=cf++[len<=al.es.length,m=len+bW.length,m*i.bytes<=140737488355328]} else none
     | _=>none
   | _,_=>none
 | .append,[x,y],[t,cW],.eA =>
  match tL P t with
  | none=>none
  | some e=>match P.info? e,uz P e with
   | some i,some z =>
    if z.length≠i.size\/i.size=0\/i.bytes=0 then none else
    match AZ P i.size z a7 .none t cW y with
    | none=>none
    | some (bW,cf)=>match x with
     | .bw r k 0 len=>match a7 r with
      | none=>none
      | some row=>match er (some row) k with
       | none=>none
       | some al=>if al.cY = .live/\al.sz=i.size then
        some {val:= .bw r k 0 (len+bW.length),hN:=[(r,row.set k {al with es:=al.es.take len++bW})],gV:=cf++[len+bW.length<=al.es.length,bW.length*i.bytes<=140737488355328]} else none
     | _=>none
   | _,_=>none
 | .copy,[.bw r k 0 len,y],[t,_],_ =>
  match tL P t with
  | none=>none
  | some e=>match P.info? e with
   | none=>none
   | some i=>match vD i.size a7 .none y with
    | none=>none
    | some (bW,cf)=>match a7 r with
     | none=>none
     | some row=>match er (some row) k with
      | none=>none
      | some al=>if al.cY = .live/\al.sz=i.size/\i.size≠0 then
       some {val:= .n .i64 bW.length,hN:=[(r,row.set k {al with es:=bW++al.es.drop bW.length})],gV:=cf++[bW.length<=len,len<=al.es.length]} else none
 | .clear,[.bw r k 0 len],[t],_ =>
  match tL P t with
  | none=>none
  | some e=>match P.info? e,uz P e with
   | some i,some z=>match a7 r with
    | none=>none
    | some row=>match er (some row) k with
     | none=>none
     | some al=>if al.cY = .live/\al.sz=i.size/\z.length=i.size/\i.size≠0 then
      some {val:= .et [],hN:=[(r,row.set k {al with es:=List.replicate len z})],gV:=[al.es.length=len]} else none
   | _,_=>none
 | .min,[.n k x,.n eh y],_,_=>if k=eh then some {val:= .n k (if y<x then y else x)} else none
 | _,_,_,_=>none
section
variable {g:G} {s:S} {aD:g9} {a:Act} {w b5:World}
theorem dZ.gone (h:dZ g s aD a w){r k:Nat}{l:List aR}{o:aR}(ak:s.a7 r=some l)(an:s.al r k=some o):
 dZ g (s.setRow r (l.set k {o with cY:= .gone})) aD a w /\
  ∀x v,Rel w (s.ok g aD w) s.bi (s.bo aD) x v->Rel w ((s.setRow r (l.set k {o with cY:= .gone})).ok g aD w) (s.setRow r (l.set k {o with cY:= .gone})).bi ((s.setRow r (l.set k {o with cY:= .gone})).bo aD) x v:=by
 have bC : ∀q j p,(s.setRow r (l.set k {o with cY:= .gone})).al q j=some p->s.al q j=some p/\ ¬(q=r/\j=k):=by
  intro q j p ai;rw[oE] at ai;by_cases e:q=r
  ·subst e
   rw[dz rfl] at ai;unfold er at ai;simp only[art] at ai;by_cases e2:k=j
   ·subst e2
    by_cases a4:k<l.length
    ·simp[a4] at ai
    simp[a4] at ai
   rw[dB e2] at ai;refine⟨?_,fun hn=>e2 hn.2.symm⟩;unfold S.al;rw[ak];exact ai
  rw[dB e] at ai;exact⟨ai,fun hn=>e hn.1⟩
 have du:Step g s aD w (s.setRow r (l.set k {o with cY:= .gone})) aD w:=by
  refine⟨KA s ak (by simp),fun q j a0=> ?_,fun b aZ=> ?_,fun _ _ _=>rfl,dE _⟩
  ·cases ai:(s.setRow r (l.set k {o with cY:= .gone})).al q j with
   | none=>right;simp[S.bo,ai]
   | some p=>left;simp[S.bo,ai,(bC q j p ai).1]
  obtain⟨q,j,p,m,h1,h2,R⟩:=aZ;exact .inl ⟨q,j,p,m,(bC q j p h1).1,h2,R⟩
 refine⟨{toky:=⟨?_,?_,?_,h.i3,h.mlt,h.qD,du.stay h.stay,h.low⟩,env:=fun t=>du.rel (h.env t),defers:=h.defers,mf:=h.mf},fun x v=>du.rel⟩
 ·intro q j p ai;exact du.obj (fun b m _=>rfl) (h.obj q j p (bC q j p ai).1)
 ·intro q j p jY jZ mX b m aF h1 h2 R aj;exact h.inj q j p jY jZ mX b m aF (bC q j p h1).1 (bC jY jZ mX h2).1 R aj
 intro q j p b m h1 h2;exact h.own q j p b m (bC q j p h1).1 h2
theorem dZ.Yr (h:dZ g s aD a w){a8 sz:Nat}(gi:s.a7 a8=none):
 ∃cc,cc a8 0=none/\dZ g (s.setRow a8 [⟨sz,[],.live⟩]) cc a w:=by
 have bC : ∀q k,q≠a8->(s.setRow a8 [⟨sz,[],.live⟩]).al q k=s.al q k:=fun q k a0=>by rw[oE,dB a0]
 let cc:g9:=fun q k=>if q=a8 then none else aD q k
 have dX : ∀q k,s.bi q k->q≠a8:=by rintro q k a0 rfl;exact Ea gi k a0
 have Qn : ∀k o,(s.setRow a8 [⟨sz,[],.live⟩]).al a8 k=some o->o=⟨sz,[],.live⟩:=by
  intro k o an;rw[oE,dz rfl,pb] at an;split at an
  ·simp at an;exact an.symm
  simp at an
 have du:Step g s aD w (s.setRow a8 [⟨sz,[],.live⟩]) cc w:=by
  refine⟨fun q k a0=>(qq _ _ _ _ _).2 (by rw[dB (dX q k a0)];exact a0),fun q k a0=> .inl ?_,fun b aZ=> ?_,fun _ _ _=>rfl,dE _⟩
  ·simp[S.bo,bC q k (dX q k a0),cc,dX q k a0]
  obtain⟨q,k,o,m,h1,h2,R⟩:=aZ;by_cases e:q=a8
  ·subst e;simp[cc] at R
  rw[bC q k e] at h1;simp only[cc,dB e] at R;exact .inl ⟨q,k,o,m,h1,h2,R⟩
 refine⟨cc,by simp[cc],{toky:=⟨?_,?_,?_,h.i3,h.mlt,h.qD,du.stay h.stay,h.low⟩,env:=fun t=>du.rel (h.env t),defers:=h.defers,mf:=h.mf}⟩
 ·intro q k o an
  by_cases e:q=a8
  ·subst e;rw[Qn k o an];simp[cc,lr]
  rw[bC q k e] at an;have:=du.obj (fun b m _=>rfl) (h.obj q k o an);simpa [cc,e] using this
 ·intro q k o jY eh cD b m aF h1 h2 R aj;have e:q≠a8:=(by rintro rfl;simp[cc] at R);have fA:jY≠a8:=(by rintro rfl;simp[cc] at aj);rw[bC q k e] at h1;rw[bC jY eh fA] at h2;simp only[cc,dB e] at R;simp only[cc,dB fA] at aj;exact h.inj q k o jY eh cD b m aF h1 h2 R aj
 intro q k o b m h1 h2;have e:q≠a8:=by rintro rfl;simp[cc] at h2
 rw[bC q k e] at h1;simp only[cc,dB e] at h2;exact h.own q k o b m h1 h2
theorem dZ.turn (h:dZ g s aD a w){r k b m a8:Nat}{l:List aR}{o:aR}(ak:s.a7 r=some l)(an:s.al r k=some o)(a4:o.cY = .live)(ai:aD r k=some (b,m))
 (gi:s.a7 a8=none) (cD:aR) (p6:cD.cY = .live) (c:Array Value) (f6:TypeId)
 (hw:b5.heap[b]? = some (.cells c f6 (0,0))) (gh:b5.heap.size=w.heap.size) (AY : ∀q,q≠b->b5.heap[q]? = w.heap[q]?)
 (u1:b5.os=w.os) (QH:b5.tape=w.tape) (Ql:b5.output=w.output) (hm:c.size=m) (hlen : ∀e∈cD.es,e.length=cD.sz)
 (a1 : ∀(j:Nat) x,cD.es.flatten[j]? = some x-> ∃v,c[j]? = some v/\mO v=true/\Rel w (s.ok g aD w) s.bi (s.bo aD) x v) :
 ∃cc,cc a8 0=some (b,m)/\dZ g ((s.setRow a8 [cD]).setRow r (l.set k {o with cY:= .gone})) cc a b5:=by
 have dX:r≠a8:=by rintro rfl;rw[gi] at ak;simp at ak
 have Z1 : ∀k,¬s.bi a8 k:=Ea gi
 let cg:=(s.setRow a8 [cD]).setRow r (l.set k {o with cY:= .gone})
 let cc:g9:=aD.set a8 0 (some (b,m))
 have bC : ∀q j p,cg.al q j=some p->(q=a8/\j=0/\p=cD)\/(q≠a8/\s.al q j=some p/\ ¬(q=r/\j=k)):=by
  intro q j p a0;rw[oE] at a0;by_cases e:q=r
  ·subst e
   rw[dz rfl] at a0;unfold er at a0;simp only[art] at a0;by_cases e2:k=j
   ·subst e2;by_cases a4:k<l.length<;>simp[a4] at a0
   rw[dB e2] at a0;refine .inr ⟨dX,?_,fun hn=>e2 hn.2.symm⟩;unfold S.al;rw[ak];exact a0
  rw[dB e,oE] at a0;by_cases e2:q=a8
  ·subst e2
   rw[dz rfl,pb] at a0;split at a0
   ·rename_i h0;simp at a0;exact .inl ⟨rfl,h0.1,a0.symm⟩
   simp at a0
  rw[dB e2] at a0;exact .inr ⟨e2,a0,fun hn=>e hn.1⟩
 have oR : ∀q j,q≠a8->cc q j=aD q j:=fun q j a0=>by simp[cc,g9.set,a0]
 have Fu:cc a8 0=some (b,m):=by simp[cc,g9.set]
 have tK:s.oW aD b:=⟨r,k,o,m,an,a4,ai⟩
 have lJ : ∀q j,s.bi q j->cg.bi q j:=fun q j a0=>by
  have e:q≠a8:=fun e=>Z1 j (e▸a0);rw[qq,qq,dB e];by_cases e2:q=r
  ·subst e2;rw[dz rfl];simpa [S.bi,ak] using a0
  rw[dB e2];exact a0
 have du:Step g s aD w cg cc b5:=by
  refine⟨lJ,fun q j a0=> ?_,fun q aZ=> ?_,fun q a0 aZ=>AY q fun e=>aZ (e▸tK),Nat.le_of_eq gh.symm⟩
  ·have qE:q≠a8:=fun e=>Z1 j (e▸a0)
   cases m5:cg.al q j with
   | none=>right;simp[S.bo,m5]
   | some p =>
    left;rcases bC q j p m5 with ⟨e,-⟩|⟨-,e2,-⟩
    ·exact absurd e qE
    simp[S.bo,m5,e2,oR q j qE]
  obtain⟨jY,j,p,aF,h1,h2,R⟩:=aZ;rcases bC jY j p h1 with ⟨rfl,rfl,rfl⟩|⟨e1,e2,-⟩
  ·rw[Fu] at R;simp at R;exact .inl (R.1▸tK)
  rw[oR jY j e1] at R;exact .inl ⟨jY,j,p,aF,e2,h2,R⟩
 refine⟨cc,Fu,{toky:=⟨?_,?_,?_,?_,h.mlt,h.qD,du.stay h.stay,h.low⟩,env:=fun t=>du.rel (h.env t),defers:=h.defers,mf:=h.mf}⟩
 ·intro q j p m5
  rcases bC q j p m5 with ⟨rfl,rfl,rfl⟩|⟨e1,e2,bG⟩
  ·rw[Fu];exact⟨c,f6,hw,hm,hlen,fun i x U=>let ⟨v,f1,f2,f3⟩:=a1 i x U;⟨v,f1,f2,du.rel f3⟩⟩
  rw[oR q j e1];refine du.obj (fun kD aF mE=>AY kD ?_) (h.obj q j p e2);rintro rfl;exact bG (h.inj q j p r k o kD aF m e2 an mE ai)
 ·intro q j p jY jZ mX kD jS iV h1 h2 R aj
  rcases bC q j p h1 with ⟨rfl,rfl,rfl⟩|⟨e1,e2,bG⟩<;>rcases bC jY jZ mX h2 with ⟨rfl,rfl,rfl⟩|⟨p7,td,zk⟩
  ·exact⟨rfl,rfl⟩
  ·rw[Fu] at R;simp at R;rw[oR jY jZ p7] at aj;obtain⟨rfl,rfl⟩:=R;exact absurd (h.inj jY jZ mX r k o b iV m td an aj ai) zk
  ·rw[Fu] at aj;simp at aj;rw[oR q j e1] at R;obtain⟨rfl,rfl⟩:=aj;exact absurd (h.inj q j p r k o b jS m e2 an R ai) bG
  rw[oR q j e1] at R;rw[oR jY jZ p7] at aj;exact h.inj q j p jY jZ mX kD jS iV e2 td R aj
 ·intro q j p kD aF h1 h2
  rcases bC q j p h1 with ⟨rfl,rfl,rfl⟩|⟨e1,e2,-⟩
  ·rw[Fu] at h2;simp at h2;rw[<- h2.1];exact h.own r k o b m an ai
  rw[oR q j e1] at h2;exact h.own q j p kD aF e2 h2
 refine h.i3.step u1 QH Ql (Nat.le_of_eq gh.symm) fun kD p3 mE=>AY kD ?_;rintro rfl;rcases h.own r k o kD m an ai with h1|h1
 ·omega
 exact mE h1
theorem r7.ra {ok:Nat->Prop}{bi:ly}{bo:ln}{fv o sz:Nat}{es:List (List aA)}(h:r7 w ok bi bo fv o sz es):
 ∃vs:List Value,vs.length=es.length*sz/\(∀(j:Nat) u,vs[j]? = some u->w.cell? ((⟨fv,o,none⟩:Addr).add j)=some u)/\(∀u∈vs,u.oneCell'=true) /\
  ∀(j:Nat) x u,es.flatten[j]? = some x->vs[j]? = some u->Rel w ok bi bo x u:=by
 have mg:es.flatten.length=es.length*sz:=by
  have : ∀(es:List (List aA)),(∀e∈es,e.length=sz)->es.flatten.length=es.length*sz:=by
   intro es
   induction es with
   | nil=>intro _;simp
   | cons e es ih =>
    intro hn;rw[aru,dD,ih fun x U=>hn x (by simp[U]),hn e (by simp),dI,Nat.add_mul];omega
  exact this es h.1
 have U : ∀i,i<es.length*sz-> ∃v,∀x,es.flatten[i]? = some x->w.cell? ⟨fv,o+i,none⟩=some v/\mO v=true/\Rel w ok bi bo x v:=by intro i aa;have ap:=dy (l:=es.flatten) (i:=i) (by omega);obtain⟨v,h1⟩:=h.2 i _ ap;exact⟨v,fun x U=>by rw[ap] at U;simp at U;subst U;exact h1⟩
 let vs:List Value:=(List.range (es.length*sz)).map fun i=>if aa:i<es.length*sz then (U i aa).choose else undef
 have tW:vs.length=es.length*sz:=by simp[vs]
 have o4 : ∀(i:Nat) u x,vs[i]? = some u->es.flatten[i]? = some x->w.cell? ⟨fv,o+i,none⟩=some u/\mO u=true/\Rel w ok bi bo x u:=by
  intro i u x hu IW
  have aa:i<es.length*sz:=by
   rcases Nat.lt_or_ge i vs.length with dc|dc
   ·omega
   rw[dT dc] at hu;simp at hu
  simp only[vs,dK,List.getElem?_range aa,arq,dif_pos aa,dA] at hu;subst hu;exact(U i aa).choose_spec x IW
 have hex : ∀(i:Nat) u,vs[i]? = some u-> ∃x,es.flatten[i]? = some x:=by
  intro i u hu
  have aa:i<es.flatten.length:=by
   rcases Nat.lt_or_ge i vs.length with dc|dc
   ·omega
   rw[dT dc] at hu;simp at hu
  exact⟨_,dy aa⟩
 refine⟨vs,tW,fun j u hu=> ?_,fun u hu=> ?_,fun j x u fa hu=>(o4 j u x hu fa).2.2⟩
 ·obtain⟨x,IW⟩:=hex j u hu;rw[vv];exact(o4 j u x hu IW).1
 obtain⟨j,ap⟩:=arB hu;obtain⟨x,IW⟩:=hex j u ap;exact(o4 j u x ap IW).2.1
theorem af4 {es bW:List (List aA)}{sz:Nat}{xs news:List Value}(U:xs.length=es.length*sz)(he:∀e∈es,e.length=sz){j:Nat}{x:aA}(h:(es++bW).flatten[j]? = some x)
 {ok:Nat->Prop} {bi:ly} {bo:ln} (h1 : ∀(j:Nat) x u,es.flatten[j]? = some x->xs[j]? = some u->Rel w ok bi bo x u) (h2 : ∀(j:Nat) x u,bW.flatten[j]? = some x->news[j]? = some u->Rel w ok bi bo x u)
 {u:Value} (hu:(xs++news)[j]? = some u):Rel w ok bi bo x u:=by
 have mg:es.flatten.length=es.length*sz:=by
  have : ∀(es:List (List aA)),(∀e∈es,e.length=sz)->es.flatten.length=es.length*sz:=by
   intro es
   induction es with
   | nil=>intro _;simp
   | cons e es ih =>
    intro hn;rw[aru,dD,ih fun x U=>hn x (by simp[U]),hn e (by simp),dI,Nat.add_mul];omega
  exact this es he
 rw[List.flatten_append,List.getElem?_append] at h;rw[List.getElem?_append] at hu;by_cases ap:j<es.flatten.length
 ·rw[dz ap] at h;rw[dz (by omega)] at hu;exact h1 j x u h hu
 rw[dB ap] at h;rw[dB (by omega)] at hu;rw[mg] at h;rw[U] at hu;exact h2 _ x u h hu
variable {P:Program}
theorem XN (h:dZ g s aD a w){sz:Nat}{x:aA}{hg:f8}{bW:List (List aA)}{al:List Prop}(he:vD sz s.a7 hg x=some (bW,al))(bC:∀p∈al,p){v:Value}(bh:Rel w (s.ok g aD w) s.bi (s.bo aD) x v):
 ∃A c,v = .slice A bW.length c/\(∀e∈bW,e.length=sz)/\(bW.length=0\/ ∃fv off,A=some ⟨fv,off,none⟩/\r7 w (s.ok g aD w) s.bi (s.bo aD) fv off sz bW):=by
 cases x with
 | isl Ms es =>
  simp only[vD] at he;split at he
  ·rename_i bS
   subst bS;simp only[dA,dF] at he;obtain⟨rfl,rfl⟩:=he;rcases bh.xr with ⟨rfl,A,c,rfl,-⟩|⟨fv,off,c,-,rfl,-,kN⟩
   ·exact⟨A,c,rfl,by simp,.inl rfl⟩
   exact⟨_,c,rfl,kN.1,.inr ⟨fv,off,rfl,kN⟩⟩
  simp at he
 | bw r k cj len =>
  simp only[vD] at he;split at he;rotate_left
  ·simp at he
  rename_i qH cf l3;split at he;rotate_left
  ·simp at he
  rename_i bS;simp only[dA,dF] at he;obtain⟨rfl,rfl⟩:=he;have ke:cj+len<=qH.es.length:=bC _ (by simp);have an:s.al r k=some qH:=xt l3 (fun p ai=>bC p (by simp[ai]));have gO:=h.obj r k qH an;have aZ:((qH.es.drop cj).take len).length=len:=(by simp;omega);rcases bh.HJ (kw an) with ⟨-,rfl,rfl,rfl⟩|⟨b,m,A,c,ai,rfl,vL,-,hm⟩
  ·exact⟨none,0,by simp,by simp,.inl (by simp)⟩
  rw[ai] at gO;have kN:=gO.rd;subst bS;have Bs:=KB kN cj len (by omega);refine⟨A,c,by rw[aZ],Bs.1,?_⟩;rcases hm with rfl|⟨rfl,-⟩
  ·left;rw[aZ];omega
  right;rw[dG] at Bs;exact⟨b,_,rfl,Bs⟩
 | fQ =>
  simp only[vD,dA,dF] at he;obtain⟨rfl,rfl⟩:=he;rw[bh.tB];exact⟨none,0,rfl,by simp,.inl rfl⟩
 | kM =>
  simp only[vD,dA,dF] at he;obtain⟨rfl,rfl⟩:=he;obtain⟨A,c,rfl⟩:=bh.Lj;exact⟨some A,c,rfl,by simp,.inl rfl⟩
 | _=>simp[vD] at he
structure Qo (P:Program) (w:World) (t cW f6 e:TypeId) (i:TypeInfo) (fO qM:Value) (n:Nat) (vs:List Value):Prop where
 zero:n=0-> ∀(B:Option Addr) (len cap:Nat),len<=cap->(Builtin.append_ #[t,cW] f6 #[.slice B len cap,qM]).run P w = .ok (.slice B len cap) w
 nil:0<n->(n:Int)<=9223372036854775807->n*i.bytes<=140737488355328 ->
  (Builtin.append_ #[t,cW] f6 #[.slice none 0 0,qM]).run P w = .ok (.slice (some ⟨w.heap.size,0,none⟩) n (grownCap w n 0 e)) (w.drew.alloc (.cells (vs.toArray++Builtin.zeroCells fO.cells (grownCap w n 0 e-n)) e))
 room:0<n-> ∀(g k7 o1:Nat) (oN:Array Value) (fA:TypeId),w.heap[g]? = some (.cells oN fA (0,0))->k7+n<=o1->k7*i.size+vs.length<=oN.size->n*i.bytes<=140737488355328 ->
  (Builtin.append_ #[t,cW] f6 #[.slice (some ⟨g,0,none⟩) k7 o1,qM]).run P w = .ok (.slice (some ⟨g,0,none⟩) (k7+n) o1) (w.setRow g (oN.toList.take (k7*i.size)++vs++oN.toList.drop (k7*i.size+vs.length)).toArray)
 grow:0<n-> ∀(b:Addr) (k7 o1:Nat) (Bt:List Value),Bt.length=k7*i.size->(∀(j:Nat) v,Bt[j]? = some v->w.cell? (b.add j)=some v)->o1<k7+n->((k7+n:Nat):Int)<=9223372036854775807->Builtin.nextslicecap (k7+n) o1*i.bytes<=281474976710656->n*i.bytes<=140737488355328 ->
  (Builtin.append_ #[t,cW] f6 #[.slice (some b) k7 o1,qM]).run P w = .ok (.slice (some ⟨w.heap.size,0,none⟩) (k7+n) (grownCap w (k7+n) o1 e))
    (w.drew.alloc (.cells (Bt.toArray++vs.toArray++Builtin.zeroCells fO.cells (grownCap w (k7+n) o1 e-(k7+n))) e))
theorem ae5 (t f6 e:TypeId)(i:TypeInfo)(cv:P.underlying t=some (.slice e))(aa:P.info? e=some i)
 (g k7 o1:Nat) (oN:Array Value) (fA:TypeId) (d6:w.heap[g]? = some (.cells oN fA (0,0)))
 (a:Addr) (m c:Nat) (news:List Value) (aZ:news.length=m*i.size) (alX : ∀j u,news[j]? = some u->w.cell? (a.add j)=some u) (h1 : ∀u∈news,u.oneCell'=true)
 (xB:k7+m<=o1) (ke:k7*i.size+news.length<=oN.size) :
 (Builtin.append_ #[t,t] f6 #[.slice (some ⟨g,0,none⟩) k7 o1,.slice (some a) m c]).run P w =
   .ok (.slice (some ⟨g,0,none⟩) (k7+m) o1) (w.setRow g (oN.toList.take (k7*i.size)++news++oN.toList.drop (k7*i.size+news.length)).toArray):=by
 have cp:=run_firstCells_some (P:=P) w i.size m a m c news aZ alX;have ps:=run_storeCells_at P g (k7*i.size) fA news 0 oN w d6 (by simpa using ke) h1;simp only[Nat.add_zero] at ps;simp[Builtin.append_,run_underlying cv,sizeOf,typeInfo,aa,Builtin.lenOf,xB,cp,Addr.add_lit,ps]
theorem WH {t f6 e:TypeId}{i:TypeInfo}{fO:Value}(cv:P.underlying t=some (.slice e))(aa:P.info? e=some i)(cK:i.zero=some fO){A:Option Addr}{n c:Nat}{vs:List Value}(aZ:vs.length=n*i.size)
 (hA:n=0\/ ∃a,A=some a/\ ∀(j:Nat) u,vs[j]? = some u->w.cell? (a.add j)=some u) (h1 : ∀u∈vs,u.oneCell'=true):Qo P w t t f6 e i fO (.slice A n c) n vs where
 zero:=fun h0 B len cap Ir=>by subst h0;cases A<;>cases B<;>simp[Builtin.append_,run_underlying cv,sizeOf,typeInfo,aa,Builtin.lenOf,Ir,Builtin.firstCells,loadCells,loadCellsFrom,storeCells]
 nil:=fun h0 BC u2=>by obtain⟨a,rfl,bH⟩:=hA.resolve_left (by omega);exact run_append_nil (P:=P) w t f6 e i fO cv aa cK a n c vs aZ bH h0 BC (by omega)
 room:=fun a2 g k7 o1 oN fA d6 xB ke _=>by obtain⟨a,rfl,bH⟩:=hA.resolve_left (by omega);exact ae5 t f6 e i cv aa g k7 o1 oN fA d6 a n c vs aZ bH h1 xB ke
 grow:=fun a2 b k7 o1 Bt an hold d6 BC ke _=>by obtain⟨a,rfl,bH⟩:=hA.resolve_left (by omega);exact run_append_grow (P:=P) w t f6 e i fO cv aa cK b k7 o1 Bt an hold a n c vs aZ bH d6 BC ke
theorem ahC {t cW f6 e:TypeId}{i:TypeInfo}{fO:Value}{k:IntKind}(cv:P.underlying t=some (.slice e))(pt:P.underlying cW=some (.int k))(aa:P.info? e=some i)(cK:i.zero=some fO)(oO:fO.cells.size=i.size){m:Nat}(aqc:(m:Int)<9223372036854775808)
 (h1 : ∀u∈(Builtin.zeroCells fO.cells m).toList,u.oneCell'=true):Qo P w t cW f6 e i fO (.int .i64 m) m (Builtin.zeroCells fO.cells m).toList:=by
 have hw:IntKind.i64.wrap (m:Int)=m:=by simp[IntKind.wrap,IntKind.bits,IntKind.signed];omega
 have qB : ¬((m:Int)<0):=by omega
 have vM : ∀aF,aF*i.size=0->Builtin.zeroCells fO.cells aF = #[]:=fun aF hm=>by apply Array.eq_empty_of_size_eq_zero;rw[size_zeroCells,oO,hm]
 have Mt : ∀b5:World,(if m*i.size=0 then (pure #[]:Sem (Array Value)) else do pure (Builtin.zeroCells (<- zeroValue e).cells m)).run P b5 = .ok (Builtin.zeroCells fO.cells m) b5:=fun b5=>by
  split
  ·rename_i hm;rw[vM _ hm];rfl
  simp[zeroValue,typeInfo,aa,cK]
 have Qp : ∀b:Nat,m*b<=140737488355328-> ¬(281474976710656<(m:Int)*(b:Int)):=fun b aO=>by have:((m*b:Nat):Int)<=140737488355328:=(by omega);rw[Int.natCast_mul] at this;omega
 refine⟨fun a2 B len cap Ir=> ?_,fun a2 BC u2=> ?_,fun a2 g k7 o1 oN fA d6 xB ke u2=> ?_,fun a2 b k7 o1 Bt an hold d6 BC ke u2=> ?_⟩
 ·subst a2;have QM:IntKind.i64.wrap 0=0:=(by simpa using hw);cases B<;>simp[Builtin.append_,run_underlying cv,run_underlying pt,sizeOf,typeInfo,aa,Ir,asInt,asIntOf,QM,storeCells]
 ·have Mu : ¬m=0:=by omega
  have Is : ¬(9223372036854775807<(m:Int)):=(by omega);have za:=Qp _ u2;have It : ¬(281474976710656<Builtin.nextslicecap m 0*i.bytes):=(by rw[nextslicecap_zero a2];omega);have h2:=Mt w.drew;by_cases hm:m*i.size=0
  ·simp[Builtin.append_,run_underlying cv,run_underlying pt,sizeOf,typeInfo,zeroValue,aa,cK,asInt,asIntOf,hw,qB,za,Mu,Is,It,Question.forced,run_firstCells_none,newRow,grownCap,hm,vM _ hm]
  simp[Builtin.append_,run_underlying cv,run_underlying pt,sizeOf,typeInfo,zeroValue,aa,cK,asInt,asIntOf,hw,qB,za,Mu,Is,It,Question.forced,run_firstCells_none,newRow,grownCap,hm]
 ·have za:=Qp _ u2
  have ps:=run_storeCells_at P g (k7*i.size) fA (Builtin.zeroCells fO.cells m).toList 0 oN w d6 (by simpa using ke) h1;simp only[Nat.add_zero] at ps;by_cases hm:m*i.size=0
  ·rw[vM _ hm] at ps;have amq:(storeCells ⟨g,k7*i.size,none⟩ []).run P w = .ok () (w.setRow g oN):=(by simpa using ps);simp[Builtin.append_,run_underlying cv,run_underlying pt,sizeOf,typeInfo,zeroValue,aa,cK,asInt,asIntOf,hw,qB,za,xB,hm,vM _ hm,Addr.add_lit,amq]
  simp[Builtin.append_,run_underlying cv,run_underlying pt,sizeOf,typeInfo,zeroValue,aa,cK,asInt,asIntOf,hw,qB,za,xB,hm,Addr.add_lit,ps]
 have za:=Qp _ u2;have te : ¬(k7+m<=o1):=by omega
 have Is : ¬(9223372036854775807<((k7:Int)+(m:Int))):=by omega
 have It : ¬(281474976710656<Builtin.nextslicecap (k7+m) o1*i.bytes):=by omega
 have aas:=run_firstCells_some (P:=P) w.drew i.size k7 b k7 o1 Bt an (by simpa using hold);by_cases hm:m*i.size=0
 ·simp[Builtin.append_,run_underlying cv,run_underlying pt,sizeOf,typeInfo,zeroValue,aa,cK,asInt,asIntOf,hw,qB,za,te,Is,It,Question.forced,aas,newRow,grownCap,hm,vM _ hm]
 simp[Builtin.append_,run_underlying cv,run_underlying pt,sizeOf,typeInfo,zeroValue,aa,cK,asInt,asIntOf,hw,qB,za,te,Is,It,Question.forced,aas,newRow,grownCap,hm]
theorem Om {a8:Nat}{e:TypeId}{v:Value}{i:TypeInfo}{m:Nat}(h:dZ g s aD a w)(gi:s.a7 a8=none){es:List (List aA)}(hlen:∀x∈es,x.length=i.size)(hm:m=es.length)
 {ra:List Value} {yh:Array Value} {cap:Nat} (tW:ra.length=es.length*i.size) (o0 : ∀u∈ra,u.oneCell'=true) (am3:yh.size=(cap-m)*i.size) (Ir:m<=cap) (amr:cap<9223372036854775808)
 (gO : ∀(j:Nat) x u,es.flatten[j]? = some x->ra[j]? = some u->Rel w (s.ok g aD w) s.bi (s.bo aD) x u)
 (bh:v = .slice (some ⟨w.heap.size,0,none⟩) m cap) :
 ∃cc,dZ g (s.setRow a8 [⟨i.size,es,.live⟩]) cc a (w.drew.alloc (.cells (ra.toArray++yh) e)) /\
  Rel (w.drew.alloc (.cells (ra.toArray++yh) e)) ((s.setRow a8 [⟨i.size,es,.live⟩]).ok g cc (w.drew.alloc (.cells (ra.toArray++yh) e))) (s.setRow a8 [⟨i.size,es,.live⟩]).bi ((s.setRow a8 [⟨i.size,es,.live⟩]).bo cc) (.bw a8 0 0 m) v:=by
 have bI:=h.drew
 have mg:es.flatten.length=es.length*i.size:=by
  have : ∀(es:List (List aA)),(∀e∈es,e.length=i.size)->es.flatten.length=es.length*i.size:=by
   intro es
   induction es with
   | nil=>intro _;simp
   | cons e es ih =>
    intro hn;rw[aru,dD,ih fun x U=>hn x (by simp[U]),hn e (by simp),dI,Nat.add_mul];omega
  exact this es hlen
 obtain⟨cc,p1,p2,-⟩:=bI.alloc gi ⟨i.size,es,.live⟩ rfl (ra.toArray++yh) e hlen (fun j x U=>by
  have ap:j<ra.length:=by
   rcases Nat.lt_or_ge j es.flatten.length with dc|dc
   ·omega
   rw[dT dc] at U;simp at U
  refine⟨ra[j],?_,o0 _ (List.getElem_mem ap),?_⟩
  ·rw[Array.getElem?_append_left (by simpa using ap)];simp[ap]
  exact(gO j x _ U (dy ap)).drew)
 refine⟨cc,p2,?_⟩;subst bh;have an:(s.setRow a8 [⟨i.size,es,.live⟩]).al a8 0=some ⟨i.size,es,.live⟩:=by rw[oE,dz rfl,pb];simp
 refine Rel.bw (sz:=i.size) (fv:=w.heap.size) (m:=(ra.toArray++yh).size) ((qq _ _ _ _ _).2 (by simp)) ?_ Ir amr ⟨?_,.inr (by simp)⟩
 ·rw[kw an,p1];rfl
 simp only[Array.size_append,List.size_toArray,am3,tW,dG];rw[<- hm,<- Nat.add_mul];congr 1;omega
section
variable {o:Oper} {dV:f8} {a8:Nat} {bM:jX}
theorem Xf (h:dZ g s aD a w){t cW f6 e:TypeId}{i:TypeInfo}{z:List aA}(hu:P.underlying t=some (.slice e))(aa:P.info? e=some i)(cK:uz P e=some z)(qF:z.length=i.size)(mC:i.size≠0)
 {y:aA} {hg:f8} {bW:List (List aA)} {al:List Prop} (he:AZ P i.size z s.a7 hg t cW y=some (bW,al)) (bC : ∀p∈al,p) {qM:Value} (aY:Rel w (s.ok g aD w) s.bi (s.bo aD) y qM) :
 ∃fO vs,i.zero=some fO/\fO.cells.size=i.size/\Qo P w t cW f6 e i fO qM bW.length vs/\(∀x∈bW,x.length=i.size)/\vs.length=bW.length*i.size/\(∀u∈vs,u.oneCell'=true) /\
  ∀(j:Nat) x u,bW.flatten[j]? = some x->vs[j]? = some u->Rel w (s.ok g aD w) s.bi (s.bo aD) x u:=by
 obtain⟨fU,fO,lj,nv,uj,zl⟩:=Hr cK;rw[aa] at lj;simp at lj;subst lj;have oO:fO.cells.size=i.size:=by rw[<- qF,uj];simp
 unfold AZ at he;split at he
 ·rename_i am4
  subst am4;obtain⟨A,c,rfl,hlen,QN⟩:=XN h he bC aY;rcases QN with h0|⟨fv,off,rfl,kN⟩
  ·have:bW=[]:=dM.1 h0;subst this;exact⟨fO,[],nv,oO,WH hu aa nv (by simp) (.inl rfl) (by simp),hlen,by simp,by simp,by simp⟩
  obtain⟨vs,v1,v2,v3,v4⟩:=kN.ra;exact⟨fO,vs,nv,oO,WH hu aa nv v1 (.inr ⟨_,rfl,v2⟩) v3,hlen,v1,v3,v4⟩
 split at he;rotate_left
 ·simp at he
 rename_i k n a4;simp only[dA,dF] at he;obtain⟨rfl,rfl⟩:=he;have h0:0<=n:=bC _ (by simp);have BC:n<9223372036854775808:=bC _ (by simp);obtain⟨m,rfl⟩:=Int.eq_ofNat_of_zero_le h0;have am5:qM = .int .i64 m:=by cases aY;rfl
 subst am5;have o4 : ∀(j:Nat) u,(Builtin.zeroCells fO.cells m).toList[j]? = some u->fO.cells[j % i.size]? = some u:=by intro j u rh;have ap:=(arr.1 rh).1;rw[Array.length_toList,size_zeroCells,oO] at ap;have eS:j % i.size<fO.cells.size:=(by rw[oO];exact Nat.mod_lt _ (by omega));rw[Array.getElem?_toList,Builtin.zeroCells,Array.getElem?_map,oO,Array.getElem?_range] at rh;rw[dz ap] at rh;simp only[arq,dA] at rh;rw[<- rh,aro eS,getElem!_pos fO.cells _ eS]
 refine⟨fO,(Builtin.zeroCells fO.cells m).toList,nv,oO,?_,?_,?_,?_,?_⟩
 ·simp only[List.length_replicate,dw];refine ahC hu a4 aa nv oO (by omega) fun u vN=> ?_;obtain⟨j,ap⟩:=arB vN;have h1:=o4 j u ap;have eS:j % i.size<z.length:=(by rw[qF];exact Nat.mod_lt _ (by omega));obtain⟨v,v1,v2,-⟩:=zl _ _ (dy eS);rw[h1] at v1;obtain rfl:=dJ v1;exact v2
 ·intro x U;rw[List.mem_replicate] at U;rw[U.2,qF]
 ·rw[Array.length_toList,size_zeroCells,oO];simp
 ·intro u vN;obtain⟨j,ap⟩:=arB vN;have h1:=o4 j u ap;have eS:j % i.size<z.length:=(by rw[qF];exact Nat.mod_lt _ (by omega));obtain⟨v,v1,v2,-⟩:=zl _ _ (dy eS);rw[h1] at v1;obtain rfl:=dJ v1;exact v2
 intro j x u U rh;rw[sT (sz:=i.size) (by omega) _ (fun fA o2=>by rw[List.mem_replicate] at o2;rw[o2.2,qF])] at U;have h1:=o4 j u rh
 cases a0:(List.replicate (Int.toNat (m:Int)) z)[j / i.size]? with
 | none=>rw[a0] at U;simp at U
 | some fA =>
  have:=dH a0;rw[List.mem_replicate] at this;rw[a0,this.2] at U;simp only[dx] at U;obtain⟨v,v1,-,v3⟩:=zl _ _ U;rw[h1] at v1;obtain rfl:=dJ v1;exact v3 _ _ _ _
theorem ahD (h:dZ g s aD a w)(gi:s.a7 a8=none){x y:aA}{v8 qM:Value}{t cW:TypeId}{m:Nat}{RG:Option aR}{f6:TypeId}(ay:rf P s.E s.a7 a8 .append [x,y] [t,cW] (.aw m RG)=some bM)(da:∀p∈bM.gV,p)
 (U:Rel w (s.ok g aD w) s.bi (s.bo aD) x v8) (aY:Rel w (s.ok g aD w) s.bi (s.bo aD) y qM) :
 ∃v b5 cc,(Builtin.append_ #[t,cW] f6 #[v8,qM]).run P w = .ok v b5/\dZ g (s.ko bM.hN) cc a b5/\Rel b5 ((s.ko bM.hN).ok g cc b5) (s.ko bM.hN).bi ((s.ko bM.hN).bo cc) bM.val v:=by
 simp only[rf] at ay;split at ay
 ·simp at ay
 rename_i e he;have hu:=wo he;split at ay;rotate_left
 ·simp at ay
 rename_i i z aa cK;split at ay
 ·simp at ay
 rename_i a1;simp only[not_or,Decidable.not_not] at a1;obtain⟨qF,mC,Fo⟩:=a1;split at ay
 ·simp at ay
 rename_i bW cf vJ;have Mv:=fun ai=>Xf (f6:=f6) h hu aa cK qF mC vJ ai aY;by_cases alc:True
 ·
  split at ay
  ·
   simp only[dA] at ay;subst ay;have hm:m=bW.length:=da _ (by simp);have zm:m*i.bytes<=140737488355328:=da _ (by simp);obtain⟨fO,vs,nv,oO,hA,hlen,v1,v3,v4⟩:=Mv (fun p ai=>da p (by simp[ai]));clear Mv;rw[U.tB];by_cases h0:bW.length=0
   ·have:bW=[]:=dM.1 h0;subst this;obtain⟨cc,p1,p2⟩:=h.Yr (sz:=i.size) gi;refine⟨_,w,cc,hA.zero h0 none 0 0 (dE _),p2,?_⟩;subst hm;have an:(s.setRow a8 [⟨i.size,[],.live⟩]).al a8 0=some ⟨i.size,[],.live⟩:=(by rw[oE,dz rfl,pb];simp);exact .qQ (sz:=i.size) ((qq _ _ _ _ _).2 (by simp)) (by show (s.setRow a8 [⟨i.size,[],.live⟩]).bo cc a8 0=_;rw[kw an,p1])
   ··have zn:bW.length*1<=bW.length*i.bytes:=Nat.mul_le_mul_left _ (by omega)
     rw[hm] at zm;have lh:=hA.nil (by omega) (by omega) (by omega);have aat:=grownCap_ge w bW.length 0 e;have hle:=grownCap_le_maxLen w bW.length 0 e (by simp only[maxLen];omega);simp only[maxLen] at hle
     obtain⟨cc,q1,q2⟩:=Om (e:=e) (i:=i) (m:=m) (ra:=vs) (yh:=Builtin.zeroCells fO.cells (grownCap w bW.length 0 e-bW.length)) (cap:=grownCap w bW.length 0 e) h gi hlen hm v1 v3
      (by rw[size_zeroCells,oO,hm]) (by omega) (by omega) v4 rfl
     refine⟨.slice (some ⟨w.heap.size,0,none⟩) m (grownCap w bW.length 0 e),_,cc,?_,q1,q2⟩;rw[hm];exact lh
  ·
   rename_i r k len;split at ay
   ·simp at ay
   rename_i row eP;split at ay
   ·simp at ay
   rename_i al bC;split at ay;rotate_left
   ·simp at ay
   rename_i BD;obtain⟨ri,gh,dX⟩:=BD;simp only[dA] at ay;subst ay;have an:s.al r k=some al:=(by unfold S.al;rw[eP];exact bC);have ke:len<=al.es.length:=da _ (by simp);have hm:m=len+bW.length:=da _ (by simp);have zm:m*i.bytes<=140737488355328:=da _ (by simp);have zn:m*1<=m*i.bytes:=Nat.mul_le_mul_left _ (Nat.one_le_iff_ne_zero.2 Fo);obtain⟨fO,vs,nv,oO,hA,hlen,v1,v3,v4⟩:=Mv (fun p ai=>da p (by simp[ai]));clear Mv;have aqk:bW.length*i.bytes<=m*i.bytes:=arn _ (by omega);have gO:=h.obj r k al an;have QO:(al.es.take len).length=len:=(by simp;omega);have wE:(s.setRow a8 [⟨i.size,al.es.take len++bW,.live⟩]).a7 r=some row:=(by simp[S.setRow,Ne.symm dX,eP]);have tX : ∀cc:g9,((s.setRow a8 [⟨i.size,al.es.take len++bW,.live⟩]).setRow r (row.set k {al with cY:= .gone})).al a8 0=some ⟨i.size,al.es.take len++bW,.live⟩:=(by intro _;rw[oE,dB dX,oE,dz rfl,pb];simp);have Iu:((s.setRow a8 [⟨i.size,al.es.take len++bW,.live⟩]).setRow r (row.set k {al with cY:= .gone})).bi a8 0:=(by rw[qq,dB dX,qq,dz rfl];simp);show ∃v b5 cc,_/\dZ g ((s.setRow a8 [⟨i.size,al.es.take len++bW,.live⟩]).setRow r (row.set k {al with cY:= .gone})) cc a b5/\_;rcases U.AH (kw an) with ⟨ai,-,rfl,rfl⟩|⟨b,M,iA,nb,ai,rfl,vL,xW,eY,pu⟩
   ·
    rw[ai] at gO;simp only[lr] at gO;have jP:al.es.take 0++bW=bW:=(by simp);by_cases h0:bW.length=0
    ·have:bW=[]:=dM.1 h0;subst this;obtain⟨cc,p1,p2⟩:=h.Yr (sz:=i.size) gi;have tY:(s.setRow a8 [⟨i.size,[],.live⟩]).al r k=some al:=(by rw[oE,dB (Ne.symm dX)];exact an);have alY:(s.setRow a8 [⟨i.size,[],.live⟩]).a7 r=some row:=(by simp[S.setRow,Ne.symm dX,eP]);obtain⟨w3,-⟩:=p2.gone alY tY;have Iv:al.es.take 0++([]:List (List aA))=[]:=(by simp);rw[Iv];rw[Iv] at Iu tX;refine⟨_,w,cc,hA.zero h0 none 0 0 (dE _),w3,?_⟩;subst hm;exact .qQ (sz:=i.size) Iu ((kw (tX cc)).trans (by rw[p1]))
    ··have mE:m=bW.length:=by omega
      have lh:=hA.nil (by omega) (by omega) (by omega);have aat:=grownCap_ge w bW.length 0 e;have hle:=grownCap_le_maxLen w bW.length 0 e (by simp only[maxLen];omega);simp only[maxLen] at hle
      obtain⟨cc,q1,q2⟩:=Om (e:=e) (i:=i) (m:=m) (ra:=vs) (yh:=Builtin.zeroCells fO.cells (grownCap w bW.length 0 e-bW.length)) (cap:=grownCap w bW.length 0 e) h gi hlen mE v1 v3
       (by rw[size_zeroCells,oO,mE]) (by omega) (by omega) v4 rfl
      rw[jP];rw[jP] at wE;have tY:(s.setRow a8 [⟨i.size,bW,.live⟩]).al r k=some al:=(by rw[oE,dB (Ne.symm dX)];exact an);obtain⟨w3,JK⟩:=q1.gone wE tY;refine⟨.slice (some ⟨w.heap.size,0,none⟩) m (grownCap w bW.length 0 e),_,cc,?_,w3,JK _ _ q2⟩;rw[mE];exact lh
   ·
    rw[ai] at gO;have alZ:=gO;obtain⟨c1,pG,g1,g2,g3,g4⟩:=gO
    have Iw : ∀e∈al.es.take len++bW,e.length=i.size:=by
     intro fA o2;rw[List.mem_append] at o2;rcases o2 with dc|dc
     ·rw[g3 fA (List.mem_of_mem_take dc),gh]
     exact hlen fA dc
    have mg : ∀(es:List (List aA)),(∀e∈es,e.length=i.size)->es.flatten.length=es.length*i.size:=by
     intro es
     induction es with
     | nil=>intro _;simp
     | cons e es ih =>
      intro hn;rw[aru,dD,ih fun x U=>hn x (by simp[U]),hn e (by simp),dI,Nat.add_mul];omega
    by_cases h0:bW.length=0
    ·
     have:bW=[]:=dM.1 h0;subst this;have Iv:al.es.take len++([]:List (List aA))=al.es.take len:=(by simp);rw[Iv];rw[Iv] at Iu tX Iw
     obtain⟨cc,p1,p2⟩:=h.turn eP an ri ai gi ⟨i.size,al.es.take len,.live⟩ rfl c1 pG g1 rfl (fun _ _=>rfl) rfl rfl rfl g2 Iw (fun j q a0=>by
      refine g4 j q ?_
      have ap:j<(al.es.take len).flatten.length:=by
       rcases Nat.lt_or_ge j (al.es.take len).flatten.length with dc|dc
       ·exact dc
       rw[dT dc] at a0;simp at a0
      have aau:al.es.flatten=(al.es.take len).flatten++(al.es.drop len).flatten:=(by rw[<- List.flatten_append,List.take_append_drop]);rw[aau,ars ap];exact a0)
     refine⟨_,w,cc,hA.zero h0 iA len nb vL,p2,?_⟩;have mE:m=len:=(by simpa using hm);subst mE;refine .bw (sz:=i.size) (fv:=b) (m:=M) Iu ((kw (tX cc)).trans (by rw[p1])) vL xW ?_;rw[<- gh];exact⟨eY,pu⟩
    ··
      have hold : ∃xs:List Value,xs.length=len*i.size/\(∀(j:Nat) u,xs[j]? = some u->w.cell? ((⟨b,0,none⟩:Addr).add j)=some u)/\(∀u∈xs,u.oneCell'=true) /\
       ∀(j:Nat) x u,(al.es.take len).flatten[j]? = some x->xs[j]? = some u->Rel w (s.ok g aD w) s.bi (s.bo aD) x u:=by
       have Z2:=KB alZ.rd 0 len (by omega);simp only[List.drop_zero,Nat.zero_mul,Nat.add_zero] at Z2;obtain⟨xs,x1,x2,ag,hb⟩:=Z2.ra;exact⟨xs,by rw[x1,QO,gh],x2,ag,hb⟩
      obtain⟨xs,x1,x2,ag,hb⟩:=hold;have am6:xs.length=(al.es.take len).length*i.size:=by rw[QO];exact x1
      have Ys : ∀(j:Nat) x u,(al.es.take len++bW).flatten[j]? = some x->(xs++vs)[j]? = some u->Rel w (s.ok g aD w) s.bi (s.bo aD) x u :=
       fun j x u am7 rh=>af4 am6 (fun fA o2=>by rw[g3 fA (List.mem_of_mem_take o2),gh]) am7 hb v4 rh
      have Ix:(al.es.take len++bW).length=m:=(by rw[dD,QO];exact hm.symm);by_cases xB:len+bW.length<=nb
      ·
       rcases pu with rfl|rfl
       ·omega
       rw[Nat.zero_mul] at *;rw[dG] at eY;have ald:len*i.size+vs.length<=c1.size:=(by rw[v1,g2,<- eY,gh,<- Nat.add_mul];exact arn _ xB);have lh:=hA.room (by omega) b len nb c1 pG g1 xB ald (by omega);have ams:(w.setRow b (c1.toList.take (len*i.size)++vs++c1.toList.drop (len*i.size+vs.length)).toArray).heap.size=w.heap.size:=size_setRow _ _ _
       have aav:xs=c1.toList.take (len*i.size):=by
        apply arw;intro j;rw[dS];by_cases ap:j<len*i.size
        ·rw[dz ap];have wO:j<xs.length:=(by omega);have:=x2 j _ (dy wO);rw[vv,cell_of_row w b (0+j) c1 pG (0,0) g1,dG] at this;rw[dy wO,<- this,Array.getElem?_toList]
        rw[dB ap,dT (by omega)]
       obtain⟨cc,p1,p2⟩:=h.turn eP an ri ai gi ⟨i.size,al.es.take len++bW,.live⟩ rfl _ pG (setRow_heap w b c1 _ pG _ g1) ams (fun q a0=>setRow_other w b q _ a0) rfl rfl rfl
        (by rw[<- g2];simp;omega) Iw (fun j q a0=>by
          have ap:j<(xs++vs).length:=by
           have:j<(al.es.take len++bW).flatten.length:=by
            rcases Nat.lt_or_ge j (al.es.take len++bW).flatten.length with dc|dc
            ·exact dc
            rw[dT dc] at a0;simp at a0
           rw[mg _ Iw,Ix] at this;rw[dD,x1,v1,<- Nat.add_mul,<- hm];exact this
          refine⟨(xs++vs)[j],?_,?_,Ys j q _ a0 (dy ap)⟩
          ·rw[List.getElem?_toArray,ars (by rw[<- aav];exact ap),<- aav];exact dy ap
          have:=List.getElem_mem ap;rw[List.mem_append] at this;rcases this with dc|dc
          ·exact ag _ dc
          exact v3 _ dc)
       refine⟨_,_,cc,lh,p2,?_⟩;rw[<- hm];refine .bw (sz:=i.size) (fv:=b) (m:=M) Iu ((kw (tX cc)).trans (by rw[p1])) (by omega) xW ⟨?_,.inr (by simp)⟩;rw[dG,<- gh];exact eY
      ·
       have hA : ∃B5:Addr,(iA=some B5/\ ∀(j:Nat) u,xs[j]? = some u->w.cell? (B5.add j)=some u)\/(iA=none/\len=0/\nb=0):=by
        cases iA with
        | none =>
         refine⟨⟨0,0,none⟩,.inr ⟨rfl,?_⟩⟩;rcases pu with dc|dc
         ·omega
         simp at dc
        | some B5 =>
         refine⟨B5,.inl ⟨rfl,?_⟩⟩;rcases pu with dc|dc
         ·have:len=0:=(by omega);have:xs=[]:=dM.1 (by rw[x1,this];simp);intro j u ap;rw[this] at ap;simp at ap
         simp at dc;subst dc;exact x2
       have aat:=grownCap_ge w (len+bW.length) nb e;have hle:=grownCap_le_maxLen w (len+bW.length) nb e (by simp only[maxLen];omega);simp only[maxLen] at hle
       have lh:(Builtin.append_ #[t,cW] f6 #[.slice iA len nb,qM]).run P w = .ok (.slice (some ⟨w.heap.size,0,none⟩) (len+bW.length) (grownCap w (len+bW.length) nb e))
        (w.drew.alloc (.cells ((xs++vs).toArray++Builtin.zeroCells fO.cells (grownCap w (len+bW.length) nb e-(len+bW.length))) e)):=by
        have amt:(xs++vs).toArray=xs.toArray++vs.toArray:=(by apply Array.ext';simp);rw[amt];obtain⟨B5,⟨rfl,am8⟩|⟨rfl,qG,pI⟩⟩:=hA
        ·exact hA.grow (by omega) B5 len nb xs x1 am8 (by omega) (by omega) (growslice_fits (by omega) (by rw[<- hm];exact zm)) (by omega)
        subst qG;subst pI;have am9:xs=[]:=dM.1 (by rw[x1];simp);subst am9;have:=hA.nil (by omega) (by omega) (by omega);simpa using this
       obtain⟨cc,q1,q2⟩:=Om (e:=e) (i:=i) (m:=m) (ra:=xs++vs) (yh:=Builtin.zeroCells fO.cells (grownCap w (len+bW.length) nb e-(len+bW.length))) (cap:=grownCap w (len+bW.length) nb e) h gi Iw Ix.symm
        (by rw[dD,x1,v1,Ix,hm,Nat.add_mul]) (fun u hu=>by
          rw[List.mem_append] at hu;rcases hu with dc|dc
          ·exact ag _ dc
          exact v3 _ dc) (by rw[size_zeroCells,oO,hm]) (by omega) (by omega) Ys rfl
       have tY:(s.setRow a8 [⟨i.size,al.es.take len++bW,.live⟩]).al r k=some al:=(by rw[oE,dB (Ne.symm dX)];exact an);obtain⟨w3,JK⟩:=q1.gone wE tY;refine⟨.slice (some ⟨w.heap.size,0,none⟩) m (grownCap w (len+bW.length) nb e),_,cc,?_,w3,JK _ _ q2⟩;rw[hm];exact lh
  simp at ay
 exact absurd trivial alc
end
end
section
variable {P:Program} {g:G} {s:S} {aD:g9} {a:Act} {w:World}
theorem HC {sz:Nat}: ∀ {es:List (List aA)},(∀e∈es,e.length=sz)->es.flatten.length=es.length*sz
 | [],_=>by simp
 | e::es,h=>by rw[aru,dD,HC fun x U=>h x (by simp[U]),h e (by simp),dI,Nat.add_mul];omega
theorem dZ.putAt (h:dZ g s aD a w){r k p b M:Nat}{row:List aR}{al:aR}(ak:s.a7 r=some row)(an:s.al r k=some al)(a4:al.cY = .live)(oR:aD r k=some (b,M)){bW iE:List (List aA)}{vs:List Value}
 (hlen : ∀x∈bW,x.length=al.sz) (v1:vs.length=bW.length*al.sz) (v3 : ∀u∈vs,u.oneCell'=true) (v4 : ∀(j:Nat) x u,bW.flatten[j]? = some x->vs[j]? = some u->Rel w (s.ok g aD w) s.bi (s.bo aD) x u)
 (ai:p+bW.length<=al.es.length) (q:Nat) (jP:iE=(al.es.take p++bW++al.es.drop (p+bW.length)).take q) :
 ∃c1 pG,w.heap[b]? = some (.cells c1 pG (0,0))/\c1.size=M/\al.es.length*al.sz<=M/\p*al.sz+vs.length<=c1.size /\
  dZ g (s.setRow r (row.set k {al with es:=iE})) aD a (w.setRow b (c1.toList.take (p*al.sz)++vs++c1.toList.drop (p*al.sz+vs.length)).toArray) /\
  ∀x v,Rel w (s.ok g aD w) s.bi (s.bo aD) x v->Rel (w.setRow b (c1.toList.take (p*al.sz)++vs++c1.toList.drop (p*al.sz+vs.length)).toArray) ((s.setRow r (row.set k {al with es:=iE})).ok g aD (w.setRow b (c1.toList.take (p*al.sz)++vs++c1.toList.drop (p*al.sz+vs.length)).toArray)) (s.setRow r (row.set k {al with es:=iE})).bi ((s.setRow r (row.set k {al with es:=iE})).bo aD) x v:=by
 have gO:=h.obj r k al an;rw[oR] at gO;obtain⟨c1,pG,g1,g2,g3,g4⟩:=gO;have mg:=HC g3
 have eY:al.es.length*al.sz<=M:=by
  rcases Nat.eq_zero_or_pos al.es.flatten.length with h0|mC
  ·omega
  obtain⟨v,e1,-⟩:=g4 (al.es.flatten.length-1) _ (dy (by omega));have:=(arD.1 e1).1;omega
 have hmul:p*al.sz+bW.length*al.sz<=al.es.length*al.sz:=by rw[<- Nat.add_mul];exact arn _ ai
 have ke:p*al.sz+vs.length<=c1.size:=by omega
 refine⟨c1,pG,g1,g2,eY,ke,?_⟩
 have amu : ∀e∈al.es.take p++bW++al.es.drop (p+bW.length),e.length=al.sz:=by
  intro e he;simp only[List.mem_append] at he;rcases he with (he|he)|he
  ·exact g3 e (List.mem_of_mem_take he)
  ·exact hlen e he
  exact g3 e (List.mem_of_mem_drop he)
 have hA:(al.es.take p).flatten.length=p*al.sz:=by rw[HC fun e he=>g3 e (List.mem_of_mem_take he),List.length_take];congr 1;omega
 have gx:(al.es.take (p+bW.length)).flatten.length=p*al.sz+bW.length*al.sz:=by rw[HC fun e he=>g3 e (List.mem_of_mem_take he),List.length_take,<- Nat.add_mul];congr 1;omega
 have aoH:bW.flatten.length=bW.length*al.sz:=HC hlen
 have h1 : ∀j,j<p*al.sz->(al.es.take p).flatten[j]? = al.es.flatten[j]? := fun j ap=>by
  conv=>rhs;rw[<- List.take_append_drop p al.es,List.flatten_append,ars (by omega)]
 have h2 : ∀j,(al.es.drop (p+bW.length)).flatten[j]? = al.es.flatten[p*al.sz+bW.length*al.sz+j]? := fun j=>by
  conv=>rhs;rw[<- List.take_append_drop (p+bW.length) al.es,List.flatten_append,arx (by omega),gx]
  congr 1;omega
 refine h.write ak an a4 oR iE _ pG (setRow_heap w b c1 _ pG _ g1) (size_setRow _ _ _) (fun q a0=>setRow_other w b q _ a0) rfl rfl rfl (by rw[<- g2];simp;omega) ?_ ?_
 ·intro e he;rw[jP] at he;exact amu e (List.mem_of_mem_take he)
 intro j x U
 have fa:(al.es.take p++bW++al.es.drop (p+bW.length)).flatten[j]? = some x:=by
  rw[jP] at U;have ap:=(arr.1 U).1
  conv=>lhs;rw[<- List.take_append_drop q (al.es.take p++bW++al.es.drop (p+bW.length)),List.flatten_append,ars ap]
  exact U
 rw[List.flatten_append,List.flatten_append] at fa;simp only[List.getElem?_toArray];have jG:(c1.toList.take (p*al.sz)).length=p*al.sz:=by rw[List.length_take,Array.length_toList];omega
 by_cases a6:j<p*al.sz
 ·rw[List.append_assoc,ars (by omega),h1 j a6] at fa;obtain⟨v,e1,e2,bG⟩:=g4 j x fa;refine⟨v,?_,e2,bG⟩;rw[List.append_assoc,ars (by omega),dS,dz a6,Array.getElem?_toList];exact e1
 by_cases cw:j<p*al.sz+vs.length
 ·rw[List.append_assoc,arx (by omega),hA,ars (by omega)] at fa;have bh:j-p*al.sz<vs.length:=(by omega);refine⟨vs[j-p*al.sz],?_,v3 _ (List.getElem_mem bh),v4 _ _ _ fa (dy bh)⟩;rw[List.append_assoc,arx (by omega),jG,ars (by omega)];exact dy bh
 rw[arx (by rw[dD];omega),dD,hA,aoH,h2] at fa;rw[show p*al.sz+bW.length*al.sz+(j-(p*al.sz+bW.length*al.sz))=j by omega] at fa;obtain⟨v,e1,e2,bG⟩:=g4 j x fa;refine⟨v,?_,e2,bG⟩;rw[arx (by rw[dD];omega),dD,jG,arz,Array.getElem?_toList];rw[show p*al.sz+vs.length+(j-(p*al.sz+vs.length))=j by omega];exact e1
end
section
variable {P:Program} {g:G} {s:S} {aD:g9} {a:Act} {w:World} {a8:Nat} {bM:jX}
theorem aks (h:dZ g s aD a w){x y:aA}{v8 qM:Value}{t cW f6:TypeId}(ay:rf P s.E s.a7 a8 .append [x,y] [t,cW] .eA=some bM)(da:∀p∈bM.gV,p)
 (U:Rel w (s.ok g aD w) s.bi (s.bo aD) x v8) (aY:Rel w (s.ok g aD w) s.bi (s.bo aD) y qM) :
 ∃v b5,(Builtin.append_ #[t,cW] f6 #[v8,qM]).run P w = .ok v b5/\dZ g (s.ko bM.hN) aD a b5/\Rel b5 ((s.ko bM.hN).ok g aD b5) (s.ko bM.hN).bi ((s.ko bM.hN).bo aD) bM.val v:=by
 simp only[rf] at ay;split at ay
 ·simp at ay
 rename_i e he;have hu:=wo he;split at ay;rotate_left
 ·simp at ay
 rename_i i z aa cK;split at ay
 ·simp at ay
 rename_i a1;simp only[not_or,Decidable.not_not] at a1;obtain⟨qF,mC,Fo⟩:=a1;split at ay
 ·simp at ay
 rename_i bW cf vJ;split at ay;rotate_left
 ·simp at ay
 rename_i r k len;split at ay
 ·simp at ay
 rename_i row eP;split at ay
 ·simp at ay
 rename_i al bC;split at ay;rotate_left
 ·simp at ay
 rename_i BD;obtain⟨ri,gh⟩:=BD;simp only[dA] at ay;subst ay;have an:s.al r k=some al:=by unfold S.al;rw[eP];exact bC
 have ke:len+bW.length<=al.es.length:=da _ (by simp);have zm:bW.length*i.bytes<=140737488355328:=da _ (by simp);obtain⟨fO,vs,nv,oO,hA,hlen,v1,v3,v4⟩:=Xf (f6:=f6) h hu aa cK qF mC vJ (fun p ai=>da p (by simp[ai])) aY;rw[<- gh] at v1;have ZE : ∀x∈bW,x.length=al.sz:=fun x U=>by rw[hlen x U,gh]
 have jP:al.es.take len++bW=(al.es.take len++bW++al.es.drop (len+bW.length)).take (len+bW.length) :=
  (List.take_left' (by rw[dD,List.length_take];omega)).symm
 rcases U.AH (kw an) with ⟨ai,-,rfl,rfl⟩|⟨b,M,iA,nb,ai,rfl,vL,xW,eY,pu⟩
 ·have gO:=h.obj r k al an
  rw[ai] at gO;simp only[lr] at gO;rw[gO] at ke;have h0:bW.length=0:=(by simp at ke;exact dM.2 ke);have BE:bW=[]:=dM.1 h0;subst BE
  have oi:row.set k {al with es:=al.es.take 0++[]}=row:=by
   have h1:({al with es:=al.es.take 0++[]}:aR)=al:=(by cases al;simp only[] at gO;subst gO;rfl);rw[h1]
   have h2:row[k]? = some al:=by
    unfold er at bC;simp only at bC;split at bC
    ·rename_i cD fj
     split at bC
     ·simp at bC
     simp at bC;rw[<- bC];exact fj
    simp at bC
   exact arw fun j=>by
    rw[art];split
    ·rename_i e;subst e;have:=(arr.1 h2).1;rw[dz this,h2]
    rfl
  refine⟨_,w,hA.zero h0 none 0 0 (dE _),?_⟩
  have fl:s.setRow r row=s:=by
   have:(fun q=>if q=r then some row else s.a7 q)=s.a7:=by
    funext q;split
    ·rename_i e;rw[e,eP]
    rfl
   show ({s with a7:=_}:S)=s;rw[this]
  show dZ g (s.setRow r (row.set k {al with es:=al.es.take 0++[]})) aD a w/\Rel w ((s.setRow r (row.set k {al with es:=al.es.take 0++[]})).ok g aD w) (s.setRow r (row.set k {al with es:=al.es.take 0++[]})).bi ((s.setRow r (row.set k {al with es:=al.es.take 0++[]})).bo aD) (.bw r k 0 0) (.slice none 0 0);rw[oi,fl];exact⟨h,U⟩
 obtain⟨c1,pG,a6,cw,j8,uk,r8,yi⟩:=h.putAt eP an ri ai ZE v1 v3 v4 ke (len+bW.length) jP;have hle:al.es.length<=nb:=by rw[dG] at eY;rw[<- eY] at j8;exact Nat.le_of_mul_le_mul_right j8 (by omega)
 by_cases pI:nb=0
 ·have h0:bW.length=0:=(by omega);have qG:len=0:=(by omega);subst qG;have BE:bW=[]:=dM.1 h0;subst BE;have QP:vs=[]:=dM.1 (by simpa using v1);subst QP;have hw:w.setRow b (c1.toList.take (0*al.sz)++[]++c1.toList.drop (0*al.sz+0)).toArray=w:=(by simp only[Nat.zero_mul,List.take_zero,List.nil_append,dG,List.drop_zero,Array.toArray_toList];exact setRow_self w b c1 pG (0,0) a6);simp only[dQ] at r8 yi;rw[hw] at r8 yi;exact⟨_,w,hA.zero h0 iA 0 nb (Nat.zero_le _),r8,yi _ _ U⟩
 have IX:iA=some ⟨b,0,none⟩:=by
  rcases pu with dc|dc
  ·exact absurd dc pI
  simpa using dc
 subst IX;by_cases h0:bW.length=0
 ·have BE:bW=[]:=dM.1 h0;subst BE;have QP:vs=[]:=dM.1 (by simpa using v1);subst QP;have hw:w.setRow b (c1.toList.take (len*al.sz)++[]++c1.toList.drop (len*al.sz+0)).toArray=w:=(by simp only[List.append_nil,Nat.add_zero,List.take_append_drop,Array.toArray_toList];exact setRow_self w b c1 pG (0,0) a6);simp only[dQ] at r8 yi;rw[hw] at r8 yi;exact⟨_,w,hA.zero h0 _ len nb vL,r8,yi _ _ U⟩
 have lh:=hA.room (by omega) b len nb c1 pG a6 (by omega) (by rw[<- gh];exact uk) zm;rw[<- gh] at lh;refine⟨_,_,lh,r8,?_⟩;have Ip:(s.setRow r (row.set k {al with es:=al.es.take len++bW})).al r k=some {al with es:=al.es.take len++bW}:=by rw[oE,dz rfl,XK row k al _ bC (by simp[ri]),dz rfl]
 show Rel _ ((s.setRow r (row.set k {al with es:=al.es.take len++bW})).ok g aD _) (s.setRow r (row.set k {al with es:=al.es.take len++bW})).bi ((s.setRow r (row.set k {al with es:=al.es.take len++bW})).bo aD) (.bw r k 0 (len+bW.length)) _;refine .bw (sz:=al.sz) (fv:=b) (m:=M) (K3 Ip) ((kw Ip).trans (by rw[ai])) (by omega) xW ⟨eY,.inr (by simp)⟩
end
section
variable {P:Program} {g:G} {s:S} {aD:g9} {a:Act} {w:World} {a8:Nat} {bM:jX}
theorem Wm {s:S}{r k:Nat}{row:List aR}{al:aR}(ak:s.a7 r=some row)(an:er (some row) k=some al):s.setRow r (row.set k al)=s:=by
 have h2:row[k]? = some al:=by
  unfold er at an;simp only at an;split at an
  ·rename_i cD fj
   split at an
   ·simp at an
   simp at an;rw[<- an];exact fj
  simp at an
 have R:row.set k al=row:=arw fun j=>by
  rw[art];split
  ·rename_i e;subst e;have:=(arr.1 h2).1;rw[dz this,h2]
  rfl
 rw[R]
 have:(fun q=>if q=r then some row else s.a7 q)=s.a7:=by
  funext q;split
  ·rename_i e;rw[e,ak]
  rfl
 show ({s with a7:=_}:S)=s;rw[this]
theorem ahE {e:TypeId}{i:TypeInfo}{z:List aA}{fO:Value}(oO:fO.cells.size=i.size)(qF:z.length=i.size)(mC:i.size≠0)
 (zl : ∀(j:Nat) x,z[j]? = some x-> ∃v,fO.cells[j]? = some v/\mO v=true/\ ∀(w:World) (ok:Nat->Prop) (bi:ly) (bo:ln),Rel w ok bi bo x v) (m:Nat) :
 (Builtin.zeroCells fO.cells m).toList.length=m*i.size/\(∀u∈(Builtin.zeroCells fO.cells m).toList,u.oneCell'=true) /\
   ∀(j:Nat) x u,(List.replicate m z).flatten[j]? = some x->(Builtin.zeroCells fO.cells m).toList[j]? = some u-> ∀(w:World) (ok:Nat->Prop) (bi:ly) (bo:ln),Rel w ok bi bo x u:=by
 have o4 : ∀(j:Nat) u,(Builtin.zeroCells fO.cells m).toList[j]? = some u->fO.cells[j % i.size]? = some u:=by intro j u rh;have ap:=(arr.1 rh).1;rw[Array.length_toList,size_zeroCells,oO] at ap;have eS:j % i.size<fO.cells.size:=(by rw[oO];exact Nat.mod_lt _ (by omega));rw[Array.getElem?_toList,Builtin.zeroCells,Array.getElem?_map,oO,Array.getElem?_range] at rh;rw[dz ap] at rh;simp only[arq,dA] at rh;rw[<- rh,aro eS,getElem!_pos fO.cells _ eS]
 refine⟨?_,?_,?_⟩
 ·rw[Array.length_toList,size_zeroCells,oO]
 ·intro u vN;obtain⟨j,ap⟩:=arB vN;have h1:=o4 j u ap;have eS:j % i.size<z.length:=(by rw[qF];exact Nat.mod_lt _ (by omega));obtain⟨v,v1,v2,-⟩:=zl _ _ (dy eS);rw[h1] at v1;obtain rfl:=dJ v1;exact v2
 intro j x u U rh;rw[sT (sz:=i.size) (by omega) _ (fun fA o2=>by rw[List.mem_replicate] at o2;rw[o2.2,qF])] at U;have h1:=o4 j u rh
 cases a0:(List.replicate m z)[j / i.size]? with
 | none=>rw[a0] at U;simp at U
 | some fA =>
  have:=dH a0;rw[List.mem_replicate] at this;rw[a0,this.2] at U;simp only[dx] at U;obtain⟨v,v1,-,v3⟩:=zl _ _ U;rw[h1] at v1;obtain rfl:=dJ v1;exact v3
theorem ajs (h:dZ g s aD a w){r k len:Nat}{y:aA}{v8 qM:Value}{t cW f6:TypeId}{dV:f8}(ay:rf P s.E s.a7 a8 .copy [.bw r k 0 len,y] [t,cW] dV=some bM)(da:∀p∈bM.gV,p)
 (U:Rel w (s.ok g aD w) s.bi (s.bo aD) (.bw r k 0 len) v8) (aY:Rel w (s.ok g aD w) s.bi (s.bo aD) y qM) :
 ∃n b5,(Builtin.copy_ #[t,cW] f6 #[v8,qM]).run P w = .ok (goInt n) b5/\dZ g (s.ko bM.hN) aD a b5/\bM.val = .n .i64 n:=by
 simp only[rf] at ay;split at ay
 ·simp at ay
 rename_i e he;have hu:=wo he;split at ay
 ·simp at ay
 rename_i i aa;split at ay
 ·simp at ay
 rename_i bW cf vJ;split at ay
 ·simp at ay
 rename_i row eP;split at ay
 ·simp at ay
 rename_i al bC;split at ay;rotate_left
 ·simp at ay
 rename_i BD;obtain⟨ri,gh,mC⟩:=BD;simp only[dA] at ay;subst ay;have an:s.al r k=some al:=by unfold S.al;rw[eP];exact bC
 have ke:bW.length<=len:=da _ (by simp);have hle:len<=al.es.length:=da _ (by simp);obtain⟨A,c,rfl,hlen,QN⟩:=XN h vJ (fun p ai=>da p (by simp[ai])) aY;show ∃n b5,_/\dZ g (s.setRow r (row.set k {al with es:=bW++al.es.drop bW.length})) aD a b5/\_;by_cases h0:bW.length=0
 ·have BE:bW=[]:=dM.1 h0
  subst BE;refine⟨0,w,?_,?_,rfl⟩
  ·rcases U.AH (kw an) with ⟨-,-,rfl,rfl⟩|⟨b,M,iA,nb,-,rfl,-,-,-,-⟩
   ·cases A<;>simp[Builtin.copy_,run_underlying hu,sizeOf,typeInfo,aa,Builtin.lenOf,Builtin.firstCells,loadCells,loadCellsFrom]
   cases A<;>cases iA<;>simp[Builtin.copy_,run_underlying hu,sizeOf,typeInfo,aa,Builtin.lenOf,Builtin.firstCells,loadCells,loadCellsFrom,storeCells]
  rw[show ({al with es:=[]++al.es.drop ([]:List (List aA)).length}:aR)=al from rfl,Wm eP bC];exact h
 obtain⟨fv,off,rfl,kN⟩:=QN.resolve_left h0;obtain⟨vs,v1,v2,v3,v4⟩:=kN.ra;rw[<- gh] at v1;rcases U.AH (kw an) with ⟨-,-,rfl,-⟩|⟨b,M,iA,nb,ai,rfl,vL,xW,eY,pu⟩
 ·exact absurd (Nat.le_zero.1 ke) h0
 have IX:iA=some ⟨b,0,none⟩:=by
  rcases pu with dc|dc
  ·exact absurd (show bW.length=0 by omega) h0
  simpa using dc
 subst IX
 obtain⟨c1,pG,a6,cw,j8,uk,r8,-⟩:=h.putAt (p:=0) eP an ri ai (fun x U=>by rw[hlen x U,gh]) v1 v3 v4 (by omega) al.es.length (iE:=bW++al.es.drop bW.length)
  (by rw[List.take_zero,List.nil_append,dG];exact(arp (by simp;omega)).symm)
 simp only[Nat.zero_mul,dG,List.take_zero,List.nil_append] at uk r8;have aZ:=run_firstCells_some (P:=P) w i.size bW.length ⟨fv,off,none⟩ bW.length c vs (by rw[v1,gh]) v2;have ps:=run_storeCells_at P b 0 pG vs 0 c1 w a6 (by simpa using uk) v3;simp only[Nat.add_zero,List.take_zero,List.nil_append,dG] at ps;refine⟨bW.length,_,?_,r8,rfl⟩;simp[Builtin.copy_,run_underlying hu,sizeOf,typeInfo,aa,Builtin.lenOf,Nat.min_eq_left ke,aZ,ps]
theorem ain (h:dZ g s aD a w){r k len:Nat}{v8:Value}{t f6:TypeId}{dV:f8}(ay:rf P s.E s.a7 a8 .clear [.bw r k 0 len] [t] dV=some bM)(da:∀p∈bM.gV,p)
 (U:Rel w (s.ok g aD w) s.bi (s.bo aD) (.bw r k 0 len) v8) :
 ∃b5,(Builtin.clear_ #[t] f6 #[v8]).run P w = .ok (.tuple #[]) b5/\dZ g (s.ko bM.hN) aD a b5/\bM.val = .et []:=by
 simp only[rf] at ay;split at ay
 ·simp at ay
 rename_i e he;have hu:=wo he;split at ay;rotate_left
 ·simp at ay
 rename_i i z aa cK;split at ay
 ·simp at ay
 rename_i row eP;split at ay
 ·simp at ay
 rename_i al bC;split at ay;rotate_left
 ·simp at ay
 rename_i BD;obtain⟨ri,gh,qF,mC⟩:=BD;simp only[dA] at ay;subst ay;have an:s.al r k=some al:=by unfold S.al;rw[eP];exact bC
 have hle:al.es.length=len:=da _ (by simp);show ∃b5,_/\dZ g (s.setRow r (row.set k {al with es:=List.replicate len z})) aD a b5/\_;by_cases h0:len=0
 ·subst h0
  refine⟨w,?_,?_,rfl⟩
  ·rcases U.AH (kw an) with ⟨-,-,-,rfl⟩|⟨b,M,iA,nb,-,rfl,-,-,-,-⟩
   ·simp[Builtin.clear_,run_underlying hu]
   cases iA<;>simp[Builtin.clear_,run_underlying hu]
  rw[show ({al with es:=List.replicate 0 z}:aR)=al by rw[List.replicate_zero,<- dM.1 hle],Wm eP bC];exact h
 obtain⟨fU,fO,lj,nv,uj,zl⟩:=Hr cK;rw[aa] at lj;simp at lj;subst lj;have oO:fO.cells.size=i.size:=by rw[<- qF,uj];simp
 rcases U.AH (kw an) with ⟨-,-,rfl,-⟩|⟨b,M,iA,nb,ai,rfl,vL,xW,eY,pu⟩
 ·exact absurd rfl h0
 have IX:iA=some ⟨b,0,none⟩:=by
  rcases pu with dc|dc
  ·exact absurd (show len=0 by omega) h0
  simpa using dc
 subst IX;obtain⟨v1,v3,v4⟩:=ahE (e:=e) oO qF mC zl len;rw[<- gh] at v1
 obtain⟨c1,pG,a6,cw,j8,uk,r8,-⟩:=h.putAt (p:=0) (bW:=List.replicate len z) eP an ri ai (fun x U=>by rw[List.mem_replicate] at U;rw[U.2,qF,gh]) (by simpa using v1) v3 (fun j x u h1 h2=>v4 j x u h1 h2 _ _ _ _)
  (by simp;omega) len (iE:=List.replicate len z)
  (by simp[hle])
 simp only[Nat.zero_mul,dG,List.take_zero,List.nil_append] at uk r8;have ps:=run_storeCells_at P b 0 pG (Builtin.zeroCells fO.cells len).toList 0 c1 w a6 (by simpa using uk) v3;simp only[Nat.add_zero,List.take_zero,List.nil_append,dG] at ps;refine⟨_,?_,r8,rfl⟩
 cases len with
 | zero=>exact absurd rfl h0
 | succ n=>simp[Builtin.clear_,run_underlying hu,zeroValue,typeInfo,aa,nv,ps]
end
section
variable {g:G} {s:S} {aD:g9} {a:Act} {w:World}
def oX (row:List aR):List aR:=row.map fun o=>if o.cY = .live then {o with cY:= .li} else o
theorem XO (row:List aR)(k:Nat):er (some (oX row)) k=(er (some row) k).map fun o=>if o.cY = .live then {o with cY:= .li} else o:=by
 simp only[er,oX,dK]
 cases row[k]? with
 | none=>rfl
 | some o =>
  obtain⟨sz,es,cY⟩:=o;cases cY<;>simp
theorem dZ.freeze (h:dZ g s aD a w){r:Nat}{row:List aR}(ak:s.a7 r=some row):dZ g (s.setRow r (oX row)) aD a w:=by
 have bC : ∀q k o,(s.setRow r (oX row)).al q k=some o-> ∃p,s.al q k=some p/\o.sz=p.sz/\o.es=p.es/\(o.cY = .live->p.cY = .live/\q≠r):=by
  intro q k o an;by_cases e:q=r
  ·subst e;have:(s.setRow q (oX row)).a7 q=some (oX row):=(by simp[S.setRow]);unfold S.al at an;rw[this,XO] at an;rw[dP] at an;obtain⟨p,ai,rfl⟩:=an;refine⟨p,by unfold S.al;rw[ak];exact ai,?_⟩;split<;>simp_all
  have:(s.setRow r (oX row)).a7 q=s.a7 q:=(by simp[S.setRow,e]);unfold S.al at an;rw[this] at an;exact⟨o,an,rfl,rfl,fun aZ=>⟨aZ,e⟩⟩
 have lJ : ∀q k,s.bi q k->(s.setRow r (oX row)).bi q k:=KA s ak (by simp[oX])
 have ol : ∀q k,(s.setRow r (oX row)).bo aD q k=s.bo aD q k:=by
  intro q k;by_cases e:q=r
  ·subst e
   simp only[S.bo,S.al];have:(s.setRow q (oX row)).a7 q=some (oX row):=(by simp[S.setRow]);rw[this,XO,ak]
   cases er (some row) k with
   | none=>rfl
   | some o=>simp only[arq,dA,dF,and_true];split<;>rfl
  have:(s.setRow r (oX row)).a7 q=s.a7 q:=(by simp[S.setRow,e]);simp[S.bo,S.al,this]
 have du:Step g s aD w (s.setRow r (oX row)) aD w:=⟨lJ,fun q k _=> .inl (ol q k),fun b aZ=>by obtain⟨q,k,o,m,h1,h2,R⟩:=aZ;obtain⟨p,p1,p2,w3,JK⟩:=bC q k o h1;exact .inl ⟨q,k,p,m,p1,(JK h2).1,R⟩,fun _ _ _=>rfl,dE _⟩;refine {toky:=⟨?_,?_,?_,h.i3,h.mlt,h.qD,?_,h.low⟩,env:=fun t=>du.rel (h.env t),defers:=h.defers,mf:=h.mf}
 ·intro q k o an
  obtain⟨p,p1,p2,w3,-⟩:=bC q k o an;have ai:=du.obj (fun b m _=>rfl) (h.obj q k p p1)
  cases oR:aD q k with
  | none=>rw[oR] at ai;simp only[lr] at ai ⊢;rw[w3];exact ai
  | some x =>
   obtain⟨b,m⟩:=x;rw[oR] at ai;obtain⟨c,f6,e1,e2,bG,cR⟩:=ai;exact⟨c,f6,e1,e2,by rw[p2,w3];exact bG,by rw[w3];exact cR⟩
 ·intro q k o jY eh cD b m aF h1 h2 R aj;obtain⟨p,p1,-⟩:=bC q k o h1;obtain⟨mX,ana,-⟩:=bC jY eh cD h2;exact h.inj q k p jY eh mX b m aF p1 ana R aj
 ·intro q k o b m h1 h2;obtain⟨p,p1,-⟩:=bC q k o h1;exact h.own q k p b m p1 h2
 intro j k ap;obtain⟨e1,e2⟩:=h.stay j k ap;exact⟨lJ j k e1,by rw[ol];exact e2⟩
end
def EZ (P:Program)(t:TypeId):Bool :=
 match P.underlying t with
 | some (.pointer _)=>true
 | _=>false
def Fv (P:Program)(E:Nat->aA)(a7:Nat->Option (List aR))(a8:Nat)(o:Oper)(dV:f8):Option jX :=
 match o.op with
 | .call {callee:= .builtin b,args,argTypes}=>match b with
  | .len=>gf P E a7 a8 o dV
  | b=>rf P E a7 a8 b (args.toList.map (ga E)) argTypes.toList dV
 | .binOp op t x y _=>match dV,op,ga E x,ga E y with
  | .eA,.eql,.isl _ es,.fQ=>if (tL P t).isSome then some {val:= .b false,gV:=[es≠[]]} else none
  | .eA,.neq,.isl _ es,.fQ=>if (tL P t).isSome then some {val:= .b true,gV:=[es≠[]]} else none
  | .eA,.eql,.hr _ none,.kJ=>if EZ P t then some {val:= .b true} else none
  | .eA,.neq,.hr _ none,.kJ=>if EZ P t then some {val:= .b false} else none
  | .eA,.eql,.hr _ (some _),.kJ=>if EZ P t then some {val:= .b false} else none
  | .eA,.neq,.hr _ (some _),.kJ=>if EZ P t then some {val:= .b true} else none
  | .eA,_,_,_=>none
  | _,_,_,_=>gf P E a7 a8 o dV
 | .nilCheck x=>match dV,ga E x with
  | .eA,.hr sz (some c)=>some {val:= .gv sz [c] 0 0}
  | .eA,_=>none
  | _,_=>gf P E a7 a8 o dV
 | _=>gf P E a7 a8 o dV
section
variable {P:Program} {g:G} {s:S} {aD:g9} {a:Act} {w:World} {o:Oper} {dV:f8} {a8:Nat} {bM:jX}
theorem Ll {args:Array Operand}{E:Nat->aA}{x y:aA}(h:args.toList.map (ga E)=[x,y]): ∃p q,args = #[p,q]/\ga E p=x/\ga E q=y:=by
 obtain⟨l⟩:=args
 match l,h with
 | [p,q],h=>simp at h;exact⟨p,q,rfl,h.1,h.2⟩
theorem akt {args:Array Operand}{E:Nat->aA}{x:aA}(h:args.toList.map (ga E)=[x]): ∃p,args = #[p]/\ga E p=x:=by
 obtain⟨l⟩:=args
 match l,h with
 | [p],h=>simp at h;exact⟨p,rfl,h⟩
theorem KV {t:TypeId}(h:EZ P t=true): ∃e,P.underlying t=some (.pointer e):=by
 unfold EZ at h;split at h
 ·rename_i e he;exact⟨e,he⟩
 simp at h
theorem aio (h:dZ g s aD a w)(gi:s.a7 a8=none)(ay:Fv P s.E s.a7 a8 o dV=some bM)(da:∀p∈bM.gV,p):Fin P g s a w o bM:=by
 unfold Fv at ay;split at ay
 ·rename_i b args p4 an
  split at ay
  ·exact KU h gi ay da
  rename_i b aO;unfold rf at ay;split at ay
  ·rename_i x y t cW m RG hargs rL;have Bc:rf P s.E s.a7 a8 .append [x,y] [t,cW] (.aw m RG)=some bM:=ay;obtain⟨p,q,rfl,rfl,rfl⟩:=Ll hargs;obtain⟨l⟩:=p4;simp only at rL;subst rL;obtain⟨v,b5,cc,h1,h2,R⟩:=ahD (f6:=o.type) h gi Bc da (h.eval p) (h.eval q);exact⟨v,b5,cc,.inl (by simp[execOp,an,resolve,invoke,builtin,h1]),h2,R⟩
  ·rename_i x y t cW hargs rL;have Bc:rf P s.E s.a7 a8 .append [x,y] [t,cW] .eA=some bM:=ay;obtain⟨p,q,rfl,rfl,rfl⟩:=Ll hargs;obtain⟨l⟩:=p4;simp only at rL;subst rL;obtain⟨v,b5,h1,h2,R⟩:=aks (f6:=o.type) h Bc da (h.eval p) (h.eval q);exact⟨v,b5,aD,.inl (by simp[execOp,an,resolve,invoke,builtin,h1]),h2,R⟩
  ·rename_i dV r k len y t cW hargs rL;have Bc:rf P s.E s.a7 a8 .copy [.bw r k 0 len,y] [t,cW] dV=some bM:=ay;obtain⟨p,q,rfl,ai,rfl⟩:=Ll hargs;obtain⟨l⟩:=p4;simp only at rL;subst rL;have U:=h.eval p;rw[ai] at U;obtain⟨n,b5,h1,h2,R⟩:=ajs (f6:=o.type) h Bc da U (h.eval q);refine⟨goInt n,b5,aD,.inl (by simp[execOp,an,resolve,invoke,builtin,h1]),h2,?_⟩;rw[R];exact .n _ _
  ·rename_i dV r k len t hargs rL;have Bc:rf P s.E s.a7 a8 .clear [.bw r k 0 len] [t] dV=some bM:=ay;obtain⟨p,rfl,ai⟩:=akt hargs;obtain⟨l⟩:=p4;simp only at rL;subst rL;have U:=h.eval p;rw[ai] at U;obtain⟨b5,h1,h2,R⟩:=ain (f6:=o.type) h Bc da U;refine⟨.tuple #[],b5,aD,.inl (by simp[execOp,an,resolve,invoke,builtin,h1]),h2,?_⟩;rw[R];exact .et [] rfl (fun j x u ap=>by simp at ap)
  ·rename_i k x eh y hargs
   split at ay
   ·rename_i a4;simp only[dA] at ay;subst ay;subst a4;obtain⟨p,q,rfl,ai,a0⟩:=Ll hargs;have U:=h.eval p;have aY:=h.eval q;rw[ai] at U;rw[a0] at aY;refine kj (v:= .int k (if y<x then y else x)) h ?_ rfl (.n _ _);simp[execOp,an,resolve,invoke,builtin,Builtin.min_,U.rH,aY.rH,Builtin.min2]
   simp at ay
  simp at ay
 ·rename_i op t x y cW an
  split at ay
  ·rename_i sz es U aY
   split at ay
   ·rename_i he;obtain⟨e,he⟩:=Option.isSome_iff_exists.1 he;simp only[dA] at ay;subst ay;have h1:=h.eval x;have h2:=h.eval y;rw[U] at h1;rw[aY] at h2;have dX:es≠[]:=da _ (by simp);refine kj (v:= .bool false) h ?_ rfl (.b _);simp only[execOp,an];rw[Sem.run_bind,(Y2 (w:=w) (wo he) dX h1 h2 x y).1];rfl
   simp at ay
  ·rename_i sz es U aY
   split at ay
   ·rename_i he;obtain⟨e,he⟩:=Option.isSome_iff_exists.1 he;simp only[dA] at ay;subst ay;have h1:=h.eval x;have h2:=h.eval y;rw[U] at h1;rw[aY] at h2;have dX:es≠[]:=da _ (by simp);refine kj (v:= .bool true) h ?_ rfl (.b _);simp only[execOp,an];rw[Sem.run_bind,(Y2 (w:=w) (wo he) dX h1 h2 x y).2];rfl
   simp at ay
  ·rename_i sz U aY
   split at ay
   ·rename_i cv;obtain⟨e,he⟩:=KV cv;simp only[dA] at ay;subst ay;have h1:=h.eval x;have h2:=h.eval y;rw[U] at h1;rw[aY] at h2;have u3:Rel w (s.ok g aD w) s.bi (s.bo aD) .kJ (a.eval x):=(by rw[h1.XL];exact .kJ);refine kj (v:= .bool true) h ?_ rfl (.b _);simp only[execOp,an];rw[Sem.run_bind,(EI (w:=w) (r:=true) (by simp[wM,he]) u3 h2 x y).1];rfl
   simp at ay
  ·rename_i sz U aY
   split at ay
   ·rename_i cv;obtain⟨e,he⟩:=KV cv;simp only[dA] at ay;subst ay;have h1:=h.eval x;have h2:=h.eval y;rw[U] at h1;rw[aY] at h2;have u3:Rel w (s.ok g aD w) s.bi (s.bo aD) .kJ (a.eval x):=(by rw[h1.XL];exact .kJ);refine kj (v:= .bool false) h ?_ rfl (.b _);simp only[execOp,an];rw[Sem.run_bind,(EI (w:=w) (r:=true) (by simp[wM,he]) u3 h2 x y).2];rfl
   simp at ay
  ·rename_i sz c U aY
   split at ay
   ·rename_i cv;obtain⟨e,he⟩:=KV cv;simp only[dA] at ay;subst ay;have h1:=h.eval x;have h2:=h.eval y;rw[U] at h1;rw[aY] at h2;refine kj (v:= .bool false) h ?_ rfl (.b _);simp only[execOp,an];rw[Sem.run_bind,(EI (w:=w) (r:=false) (by simp[wM,he]) h1.Pd h2 x y).1];rfl
   simp at ay
  ·rename_i sz c U aY
   split at ay
   ·rename_i cv;obtain⟨e,he⟩:=KV cv;simp only[dA] at ay;subst ay;have h1:=h.eval x;have h2:=h.eval y;rw[U] at h1;rw[aY] at h2;refine kj (v:= .bool true) h ?_ rfl (.b _);simp only[execOp,an];rw[Sem.run_bind,(EI (w:=w) (r:=false) (by simp[wM,he]) h1.Pd h2 x y).2];rfl
   simp at ay
  ·simp at ay
  exact KU h gi ay da
 ·rename_i x an
  split at ay
  ·rename_i sz c U;simp only[dA] at ay;subst ay;have h1:=h.eval x;rw[U] at h1;have h2:=h1.Pd;obtain⟨fv,off,aO,hval,kN⟩:=h2.EQ;refine kj (v:=a.eval x) h ?_ rfl h2;rw[hval];simp only[execOp,an,hval];rfl
  ·simp at ay
  exact KU h gi ay da
 exact KU h gi ay da
end
theorem xc {es:List (List aA)}{j:Nat}{x:aA}(h:es.flatten[j]? = some x): ∃e∈es,x∈e:=by have:=dH h;rw[List.mem_flatten] at this;obtain⟨e,he,U⟩:=this;exact⟨e,he,U⟩
theorem Rel.pure {w:World}{ok nL:Nat->Prop}{bi pY:ly}{bo pq:ln}{x:aA}{v:Value}(h:Rel w ok bi bo x v)(ai:Pure x)(pZ:∀b,ok b->nL b):Rel w nL pY pq x v:=by
 induction h with
 | dead v=>exact .dead v
 | b x=>exact .b x
 | n k x=>exact .n k x
 | s x=>exact .s x
 | kJ=>exact .kJ
 | fQ=>exact .fQ
 | kM a c=>exact .kM a c
 | tD=>cases ai
 | ref=>cases ai
 | qt=>cases ai
 | qQ=>cases ai
 | bw=>cases ai
 | pU=>cases ai
 | q8=>cases ai
 | kT sz a c h=>exact .kT sz a c h
 | isl cs aO nX aZ a1 hw jG ak ih =>
  cases ai with
  | isl h=>exact .isl cs (pZ _ aO) nX aZ a1 hw jG fun j x U=>ih j x U (by obtain⟨e,he,u4⟩:=xc U;exact h e he x u4)
 | gv cs aO nX aZ hw jG ak ih =>
  cases ai with
  | gv h=>exact .gv cs (pZ _ aO) nX aZ hw jG fun j x U=>ih j x U (by obtain⟨e,he,u4⟩:=xc U;exact h e he x u4)
 | s9 sz=>exact .s9 sz
 | sw h ih =>
  cases ai with
  | sw ai=>exact .sw (ih (.gv fun e he x U=>by rw[List.mem_singleton] at he;subst he;exact ai x U))
 | agg vs aZ jG ak ih =>
  cases ai with
  | agg h=>exact .agg vs aZ jG fun j x v U bh=>ih j x v U bh (h x (dH U))
 | et vs aZ ak ih =>
  cases ai with
  | et h=>exact .et vs aZ fun j x v U bh=>ih j x v U bh (h x (dH U))
 | fn vs aZ ak ih =>
  cases ai with
  | fn h=>exact .fn vs aZ fun j x v U bh=>ih j x v U bh (h x (dH U))
abbrev iP:=Nat->Nat->Option (Nat×Nat)
structure Down (q:aA->Prop):Prop where
 agg : ∀c x,q (.agg c)->x∈c->q x
 et : ∀c x,q (.et c)->x∈c->q x
 fn : ∀f c x,q (.fn f c)->x∈c->q x
inductive j2 (s:S) (a3:iP) (bN:hU->Bool) (q:aA->Prop):aA->aA->Prop
 | dead (x:aA):j2 s a3 bN q x .dead
 | pure {x:aA} (h:Pure x) (a0:q x):j2 s a3 bN q x x
 | fQ (sz:Nat):j2 s a3 bN q .fQ (.isl sz [])
 | kM (sz:Nat):j2 s a3 bN q .kM (.isl sz [])
 | LU (sz:Nat):j2 s a3 bN q .kJ (.hr sz none)
 | hr {sz:Nat} {x:aA} {c:List aA} (h:j2 s a3 bN q x (.gv sz [c] 0 0)):j2 s a3 bN q x (.hr sz (some c))
 | ref {r k j fU:Nat} (i off:Nat) (h:a3 j fU=some (r,k)) (hu:s.bi r k):j2 s a3 bN q (.ref r k i off) (.ref j fU i off)
 | bw {r k j fU:Nat} (cj len:Nat) (h:a3 j fU=some (r,k)) (hu:s.bi r k):j2 s a3 bN q (.bw r k cj len) (.bw j fU cj len)
 | pU (r c sz:Nat):j2 s a3 bN q (.k8 r c sz none) (.isl sz [])
 | q8 {r c sz k n:Nat} {dY:aA} (h:j2 s a3 bN q (.bw r (k+c) 0 n) dY):j2 s a3 bN q (.k8 r c sz (some (k,n))) dY
 | k8 {r fN c eG sz:Nat} (h:Option (Nat×Nat)) (hm : ∀k,a3 fN (k+eG)=some (r,k+c)):j2 s a3 bN q (.k8 r c sz h) (.k8 fN eG sz h)
 | gv {r k:Nat} {o:aR} {iE:List (List aA)} (i off:Nat) (an:s.al r k=some o) (bH:bN o.cY=true) (ak:(∀j i,a3 j i≠some (r,k))) (dX:o.es≠[]) (ai:j3 iE) (hle : ∀e∈iE,e.length=o.sz) (aZ:iE.length=o.es.length)
  (h : ∀(j:Nat) x dY,o.es.flatten[j]? = some x->iE.flatten[j]? = some dY->j2 s a3 bN q x dY):j2 s a3 bN q (.ref r k i off) (.gv o.sz iE i off)
 | isl {r k cj len:Nat} {o:aR} {iE:List (List aA)} (an:s.al r k=some o) (bH:bN o.cY=true) (ak:(∀j i,a3 j i≠some (r,k))) (ke:cj+len<=o.es.length) (ai:j3 iE) (hle : ∀e∈iE,e.length=o.sz) (aZ:iE.length=len)
  (h : ∀(j:Nat) x dY,((o.es.drop cj).take len).flatten[j]? = some x->iE.flatten[j]? = some dY->j2 s a3 bN q x dY):j2 s a3 bN q (.bw r k cj len) (.isl o.sz iE)
 | agg {c eG:List aA} (aZ:eG.length=c.length) (h : ∀(j:Nat) x dY,c[j]? = some x->eG[j]? = some dY->j2 s a3 bN q x dY):j2 s a3 bN q (.agg c) (.agg eG)
 | et {c eG:List aA} (aZ:eG.length=c.length) (h : ∀(j:Nat) x dY,c[j]? = some x->eG[j]? = some dY->j2 s a3 bN q x dY):j2 s a3 bN q (.et c) (.et eG)
 | fn {f:Nat} {c eG:List aA} (aZ:eG.length=c.length) (h : ∀(j:Nat) x dY,c[j]? = some x->eG[j]? = some dY->j2 s a3 bN q x dY):j2 s a3 bN q (.fn f c) (.fn f eG)
theorem we {sz:Nat}: ∀(es:List (List aA)),(∀e∈es,e.length=sz)->es.flatten.length=es.length*sz
 | [],_=>by simp
 | e::es,h=>by rw[aru,dD,we es fun x U=>h x (by simp[U]),h e (by simp),dI,Nat.add_mul];omega
theorem gD {α:Type}{l:List α}{j:Nat}{x:α}(h:l[j]? = some x):j<l.length:=by
 rcases Nat.lt_or_ge j l.length with dc|dc
 ·exact dc
 rw[dT dc] at h;simp at h
theorem j2.rel {g:G}{s:S}{aD:g9}{w:World}{a3:iP}{bN:hU->Bool}{q:aA->Prop}(eY:ky g s aD w){nL:Nat->Prop}{pY:ly}{pq:ln}
 (H1 : ∀x v,q x->Pure x->Rel w (s.ok g aD w) s.bi (s.bo aD) x v->Rel w nL pY pq x v)
 (M3 : ∀r k o b m,s.al r k=some o->bN o.cY=true->(∀j i,a3 j i≠some (r,k))->aD r k=some (b,m)->nL b)
 (JL : ∀j i r k,a3 j i=some (r,k)->s.bi r k->pY j i/\(pq j i=s.bo aD r k\/pq j i=none)) {x dY:aA} (bS:j2 s a3 bN q x dY) :
 ∀ {v:Value},Rel w (s.ok g aD w) s.bi (s.bo aD) x v->Rel w nL pY pq dY v:=by
 induction bS with
 | dead x=>intro v _;exact .dead v
 | pure ai a0=>intro v ak;exact H1 _ v a0 ai ak
 | fQ sz=>intro v ak;rw[ak.tB];exact .kT sz none 0 (fun _=>rfl)
 | kM sz=>intro v ak;obtain⟨a,c,rfl⟩:=ak.Lj;exact .kT sz (some a) c (fun h=>by simp at h)
 | LU sz=>intro v ak;rw[ak.AG];exact .s9 sz
 | hr h ih=>intro v ak;exact .sw (ih ak)
 | @ref r k j fU i off ap hu =>
  intro v ak;obtain⟨h1,h2⟩:=JL j fU r k ap hu
  cases ak with
  | tD a rT a2 =>
   refine .tD a h1 fun sz p=> ?_;rcases h2 with e|e<;>rw[e]
   ·exact a2 sz p
   simp
  | ref rT cv =>
   rcases h2 with e|e
   ·exact .ref h1 (e.trans cv)
   exact .tD _ h1 fun sz p=>by rw[e];simp
 | @bw r k j fU cj len ap hu =>
  intro v ak;obtain⟨h1,h2⟩:=JL j fU r k ap hu
  cases ak with
  | qt a l c rT a2 =>
   refine .qt a l c h1 ?_;rcases h2 with e|e<;>rw[e];exact a2
  | qQ rT cv =>
   rcases h2 with e|e
   ·exact .qQ h1 (e.trans cv)
   exact .qt _ _ _ h1 e
  | bw rT cv aZ a1 hm =>
   rcases h2 with e|e
   ·exact .bw h1 (e.trans cv) aZ a1 hm
   exact .qt _ _ _ h1 e
 | pU r c sz =>
  intro v ak
  cases ak with
  | pU h0 =>
   rcases h0.xr with ⟨-,a,c,rfl,bH⟩|⟨fv,off,c,-,rfl,-⟩
   ·exact .kT sz a c bH
   exact .kT sz _ c (fun h=>by simp at h)
 | q8 h ih =>
  intro v ak
  cases ak with
  | q8 h0=>exact ih h0
 | @k8 r fN c eG sz h hm =>
  intro v ak
  cases ak with
  | pU h0 =>
   rcases h0.xr with ⟨-,a,c,rfl,bH⟩|⟨fv,off,c,-,rfl,-⟩
   ·exact .pU (.kT sz a c bH)
   exact .pU (.kT sz _ c (fun h=>by simp at h))
  | @q8 _ _ _ k n _ h0 =>
   refine .q8 ?_
   cases h0 with
   | qt a l a6 rT a2 =>
    obtain⟨h1,h2⟩:=JL _ _ _ _ (hm k) rT;refine .qt a l a6 h1 ?_;rcases h2 with e|e<;>rw[e];exact a2
   | qQ rT cv =>
    obtain⟨h1,h2⟩:=JL _ _ _ _ (hm k) rT;rcases h2 with e|e
    ·exact .qQ h1 (e.trans cv)
    exact .qt _ _ _ h1 e
   | bw rT cv aZ a1 pu =>
    obtain⟨h1,h2⟩:=JL _ _ _ _ (hm k) rT;rcases h2 with e|e
    ·exact .bw h1 (e.trans cv) aZ a1 pu
    exact .qt _ _ _ h1 e
 | @gv r k o iE i off an bH ak dX QQ hle aZ h ih =>
  intro v bh;have gO:=eY.obj r k o an;rcases bh.AQ (kw an) with h0|⟨b,m,ai,hval⟩
  ·rw[h0] at gO;exact absurd gO dX
  rw[ai] at gO;have kN:=gO.rd;rw[hval];have mg:iE.flatten.length=o.es.flatten.length:=(by rw[we iE hle,we o.es kN.1,aZ]);have Bs:r7 w nL pY pq b 0 o.sz iE:=(by refine⟨hle,fun j dY fa=> ?_⟩;have eS:j<o.es.flatten.length:=(by rw[<- mg];exact gD fa);have U:o.es.flatten[j]? = some o.es.flatten[j]:=dy eS;obtain⟨u,e1,e2,bG⟩:=kN.2 j _ U;exact⟨u,e1,e2,ih j _ dY U fa bG⟩);have:=Bs.gv (i:=i) (off:=off) ⟨M3 r k o b m an bH ak ai,QQ⟩;rw[dG] at this;exact this
 | @isl r k cj len o iE an bH ak ke QQ hle aZ h ih =>
  intro v bh;have gO:=eY.obj r k o an;rcases bh.HJ (kw an) with ⟨ai,rfl,rfl,hval⟩|⟨b,m,A,c,ai,hval,vL,xW,hm⟩
  ·have:iE=[]:=dM.1 aZ;subst this;rw[hval];exact .kT _ none 0 (fun _=>rfl)
  rw[ai] at gO;rw[hval];rcases Nat.eq_zero_or_pos len with h0|mC
  ·subst h0;have:iE=[]:=dM.1 aZ;subst this;exact .kT _ A c (fun a2=>by rcases hm with h1|⟨h1,-⟩<;>simp_all)
  rcases hm with hm|⟨hA,hm⟩
  ·omega
  subst hA;have kN:=KB gO.rd cj len (by omega);rw[dG] at kN;have mg:iE.flatten.length=((o.es.drop cj).take len).flatten.length:=(by rw[we iE hle,we _ kN.1,aZ,List.length_take,List.length_drop,Nat.min_eq_left (by omega)]);have Bs:r7 w nL pY pq b (cj*o.sz) o.sz iE:=(by refine⟨hle,fun j dY fa=> ?_⟩;have eS:j<((o.es.drop cj).take len).flatten.length:=(by rw[<- mg];exact gD fa);have U:=dy eS;obtain⟨u,e1,e2,bG⟩:=kN.2 j _ U;exact⟨u,e1,e2,ih j _ dY U fa bG⟩);have:=Bs.isl (c:=c) ⟨M3 r k o b m an bH ak ai,QQ⟩ (by omega);rw[aZ] at this;exact this
 | @agg c eG aZ h ih =>
  intro v bh;obtain⟨vs,rfl,h1,h2,R⟩:=bh.EO;refine .agg vs (by omega) h2 fun j dY u fa hu=> ?_;have eS:j<c.length:=(by have:=gD fa;omega);exact ih j _ dY (dy eS) fa (R j _ u (dy eS) hu)
 | @et c eG aZ h ih =>
  intro v bh;obtain⟨vs,rfl,h1,R⟩:=bh.EP;refine .et vs (by omega) fun j dY u fa hu=> ?_;have eS:j<c.length:=(by have:=gD fa;omega);exact ih j _ dY (dy eS) fa (R j _ u (dy eS) hu)
 | @fn f c eG aZ h ih =>
  intro v bh;obtain⟨vs,rfl,h1,R⟩:=bh.LF;refine .fn vs (by omega) fun j dY u fa hu=> ?_;have eS:j<c.length:=(by have:=gD fa;omega);exact ih j _ dY (dy eS) fa (R j _ u (dy eS) hu)
structure rU (s:S) (a3:iP) (bN:hU->Bool) (q:aA->Prop) (o cD:aR):Prop where
 sz:cD.sz=o.sz
 cY:cD.cY=o.cY\/(cD.cY = .li/\o.cY = .live)\/cD.cY = .gone
 len:cD.es.length=o.es.length
 each : ∀e∈cD.es,e.length=o.sz
 at_ : ∀(j:Nat) x dY,o.es.flatten[j]? = some x->cD.es.flatten[j]? = some dY->j2 s a3 bN q x dY
structure tZ (s:S) (a3:iP) (bN:hU->Bool) (q:aA->Prop) (jH:Nat->Option (List aR)):Prop where
 inj : ∀j i jZ fU p,a3 j i=some p->a3 jZ fU=some p->j=jZ/\i=fU
 at_ : ∀j i cD,er (jH j) i=some cD-> ∃r k o,a3 j i=some (r,k)/\s.al r k=some o/\rU s a3 bN q o cD
 bi : ∀j i r k,a3 j i=some (r,k)->s.bi r k->i<((jH j).getD []).length
def mh (aD:g9)(a3:iP):g9:=fun j i=>match a3 j i with
 | some (r,k)=>aD r k
 | none=>none
theorem E0 {aD:g9}{a3:iP}{j i r k:Nat}(h:a3 j i=some (r,k)):mh aD a3 j i=aD r k:=by simp[mh,h]
def o5 (_:aA):Prop:=True
theorem al0:Down o5:=⟨fun _ _ _ _=>trivial,fun _ _ _ _=>trivial,fun _ _ _ _ _=>trivial⟩
section
variable {g:G} {s:S} {aD:g9} {w:World} {a3:iP} {bN:hU->Bool} {q:aA->Prop} {cg:S}
theorem tZ.al (h:tZ s a3 bN q cg.a7){j i:Nat}{cD:aR}(an:cg.al j i=some cD): ∃r k o,a3 j i=some (r,k)/\s.al r k=some o/\rU s a3 bN q o cD:=h.at_ j i cD an
theorem Yt {o cD:aR}(h:rU s a3 bN q o cD)(aZ:cD.cY = .live):o.cY = .live:=by
 rcases h.cY with e|⟨e,-⟩|e
 ·exact e.symm.trans aZ
 ·rw[e] at aZ;simp at aZ
 rw[e] at aZ;simp at aZ
theorem tZ.live (h:tZ s a3 bN q cg.a7)(b:Nat)(aZ:cg.oW (mh aD a3) b): ∃r k o m,s.al r k=some o/\o.cY = .live/\aD r k=some (b,m)/\ ∃j i,a3 j i=some (r,k):=by obtain⟨j,i,cD,m,h1,h2,R⟩:=aZ;obtain⟨r,k,o,e1,e2,bG⟩:=h.al h1;rw[E0 e1] at R;exact⟨r,k,o,m,e2,Yt bG h2,R,j,i,e1⟩
theorem tZ.Mw (h:tZ s a3 bN q cg.a7){j i r k:Nat}(ap:a3 j i=some (r,k)):cg.bo (mh aD a3) j i=s.bo aD r k\/cg.bo (mh aD a3) j i=none:=by
 cases an:cg.al j i with
 | none=>right;simp[S.bo,an]
 | some cD =>
  obtain⟨fN,eh,o,e1,e2,bG⟩:=h.al an;rw[ap] at e1;simp only[dA,dF] at e1;obtain⟨rfl,rfl⟩:=e1;left;rw[kw an,kw e2,bG.sz,E0 ap]
theorem ky.RH (eY:ky g s aD w)(h:tZ s a3 bN q cg.a7){hs:G}(a4:Im hs w)(H7:∀j k,hs.sD j k->cg.bi j k/\(cg.bo (mh aD a3) j k=hs.vK j k\/cg.bo (mh aD a3) j k=none))(Bu:∀j k,hs.sD j k->j<hs.m)
 (amv : ∀b,hs.tn b->b<hs.pO.heap.size) (halt : ∀b,hs.A b->b<hs.pO.heap.size)
 (Qq : ∀r k o b m,(∃j i,a3 j i=some (r,k))->s.al r k=some o->aD r k=some (b,m)->hs.pO.heap.size<=b\/hs.tn b)
 (H1 : ∀b,s.ok g aD w b->cg.ok hs (mh aD a3) w b)
 (M3 : ∀r k o b m,s.al r k=some o->bN o.cY=true->(∀j i,a3 j i≠some (r,k))->aD r k=some (b,m)->cg.ok hs (mh aD a3) w b) :
 ky hs cg (mh aD a3) w/\ ∀ {x dY:aA} {v:Value},j2 s a3 bN q x dY->Rel w (s.ok g aD w) s.bi (s.bo aD) x v->Rel w (cg.ok hs (mh aD a3) w) cg.bi (cg.bo (mh aD a3)) dY v:=by
 have gO : ∀ {x dY:aA} {v:Value},j2 s a3 bN q x dY->Rel w (s.ok g aD w) s.bi (s.bo aD) x v->Rel w (cg.ok hs (mh aD a3) w) cg.bi (cg.bo (mh aD a3)) dY v :=
  fun bS ak=>bS.rel eY (fun x v _ ai ak=>ak.pure ai H1) M3 (fun j i r k ap hu=>⟨h.bi j i r k ap hu,h.Mw ap⟩) ak
 refine⟨⟨?_,?_,?_,a4,amv,halt,H7,Bu⟩,gO⟩
 ·intro j k cD fj
  obtain⟨r,eh,o,e1,e2,bG⟩:=h.al fj;have bC:=eY.obj r eh o e2;rw[E0 e1]
  cases ai:aD r eh with
  | none =>
   rw[ai] at bC;simp only[lr] at bC ⊢;apply dM.1;rw[bG.len,bC];rfl
  | some q =>
   obtain⟨b,m⟩:=q;rw[ai] at bC;obtain⟨c,f6,h1,h2,R,aj⟩:=bC;have mg:cD.es.flatten.length=o.es.flatten.length:=(by rw[we _ bG.each,we _ R,bG.len]);refine⟨c,f6,h1,h2,by rw[bG.sz];exact bG.each,fun i dY fa=> ?_⟩;have eS:i<o.es.flatten.length:=(by rw[<- mg];exact gD fa);have U:=dy eS;obtain⟨u,f1,f2,f3⟩:=aj i _ U;exact⟨u,f1,f2,gO (bG.at_ i _ dY U fa) f3⟩
 ·intro j k o jZ eh cD b m aF h1 h2 R aj;obtain⟨r,k0,p,e1,e2,-⟩:=h.al h1;obtain⟨fN,anb,mX,p7,td,-⟩:=h.al h2;rw[E0 e1] at R;rw[E0 p7] at aj;obtain⟨rfl,rfl⟩:=eY.inj r k0 p fN anb mX b m aF e2 td R aj;exact h.inj _ _ _ _ _ e1 p7
 intro j k o b m h1 h2;obtain⟨r,k0,p,e1,e2,-⟩:=h.al h1;rw[E0 e1] at h2;exact Qq r k0 p b m ⟨j,k,e1⟩ e2 h2
theorem dZ.Yu {a:Act}(h:dZ g s aD a w)(ee:tZ s a3 (fun _=>true) q cg.a7)(fl:∀t,j2 s a3 (fun _=>true) q (s.E t) (cg.E t))(Iy:∀j k,g.sD j k->a3 j k=some (j,k)):dZ g cg (mh aD a3) a w:=by
 have iD : ∀b,cg.oW (mh aD a3) b->s.oW aD b:=fun b aZ=>by obtain⟨r,k,o,m,h1,h2,R,-⟩:=ee.live b aZ;exact⟨r,k,o,m,h1,h2,R⟩
 have H7 : ∀j k,g.sD j k->cg.bi j k/\(cg.bo (mh aD a3) j k=g.vK j k\/cg.bo (mh aD a3) j k=none):=by
  intro j k ap;obtain⟨e1,e2⟩:=h.stay j k ap;refine⟨ee.bi j k j k (Iy j k ap) e1,?_⟩;rcases ee.Mw (aD:=aD) (Iy j k ap) with e|e
  ·rw[e];exact e2
  exact .inr e
 obtain⟨h1,h2⟩:=h.toky.RH ee h.i3 H7 h.low h.mlt h.qD (fun r k o b m _ an ai=>h.own r k o b m an ai)
  (fun b aO=>⟨aO.1,aO.2.1,fun aZ=>aO.2.2 (iD b aZ)⟩)
  (fun r k o b m an _ ak ai=>by
    have bC:=h.obj r k o an;rw[ai] at bC;obtain⟨c,f6,e1,-⟩:=bC;refine⟨(arD.1 e1).1,?_,fun aZ=> ?_⟩
    ·rcases h.own r k o b m an ai with e|e
     ·exact .inr (.inl e)
     exact .inr (.inr e)
    obtain⟨fN,eh,cD,aF,f1,f2,f3,⟨yj,JM,f4⟩⟩:=ee.live b aZ;obtain⟨rfl,rfl⟩:=h.inj r k o fN eh cD b m aF an f1 ai f3;exact ak yj JM f4)
 exact {toky:=h1,env:=fun t=>h2 (fl t) (h.env t),defers:=h.defers,mf:=h.mf}
end
def gr (T:List (List aR)):S:={E:=fun _=> .dead,a7:=fun r=>T[r]?}
def al1 (P:Program)(f:FuncId)(args:List aA)(T:List (List aR))(r:aA)(i5:List (List aR)):Prop :=
 ∀(g:G) (aD:g9) (w:World) (vs:Array Value),g.pO=w->g.m=T.length->g.sD=(gr T).bi->g.vK=(gr T).bo aD->ky g (gr T) aD w->vs.size=args.length ->
  (∀(j:Nat) x v,args[j]? = some x->vs[j]? = some v->Rel w ((gr T).ok g aD w) (gr T).bi ((gr T).bo aD) x v) ->
  Calls P f vs w fun e b5=> ∃v cc,e = .returned v/\ky g (gr i5) cc b5/\Rel b5 ((gr i5).ok g cc b5) (gr i5).bi ((gr i5).bo cc) r v
inductive bD:aA->Prop
 | dead:bD .dead
 | b (x:Bool):bD (.b x)
 | n (k:IntKind) (x:Int):bD (.n k x)
 | s (x:ByteArray):bD (.s x)
 | kJ:bD .kJ
 | fQ:bD .fQ
 | kM:bD .kM
 | kT (sz:Nat):bD (.isl sz [])
 | ref (r k i off:Nat):bD (.ref r k i off)
 | bw (r k cj len:Nat):bD (.bw r k cj len)
 | k8 (r c sz:Nat) (h:Option (Nat×Nat)):bD (.k8 r c sz h)
 | agg {c:List aA} (h : ∀x∈c,bD x):bD (.agg c)
 | et {c:List aA} (h : ∀x∈c,bD x):bD (.et c)
theorem al2:Down bD:=⟨fun _ _ h U=>by cases h with|agg h=>exact h _ U,fun _ _ h U=>by cases h with|et h=>exact h _ U,fun _ _ _ h=>by cases h⟩
theorem Rel.d4 {w b5:World}{ok nL:Nat->Prop}{bi pY:ly}{bo pq:ln}{x:aA}(bS:bD x): ∀ {v:Value},Pure x->Rel w ok bi bo x v->Rel b5 nL pY pq x v:=by
 induction bS with
 | dead=>intro v _ h;exact .dead v
 | b x=>intro v _ h;rw[h.yZ];exact .b x
 | n k x=>intro v _ h;rw[h.rH];exact .n k x
 | s x=>intro v _ h;rw[h.E7];exact .s x
 | kJ=>intro v _ h;rw[h.AG];exact .kJ
 | fQ=>intro v _ h;rw[h.tB];exact .fQ
 | kM=>intro v _ h;obtain⟨a,c,rfl⟩:=h.Lj;exact .kM a c
 | kT sz =>
  intro v _ h;rcases h.xr with ⟨-,a,c,rfl,bH⟩|⟨fv,off,c,-,rfl,-⟩
  ·exact .kT sz a c bH
  exact .kT sz _ c (fun h=>by simp at h)
 | ref=>intro v ai;cases ai
 | bw=>intro v ai;cases ai
 | k8=>intro v ai;cases ai
 | @agg c a1 ih =>
  intro v ai h;obtain⟨vs,rfl,h1,h2,R⟩:=h.EO
  cases ai with
  | agg ai=>exact .agg vs h1 h2 fun j x u U hu=>ih x (dH U) (ai x (dH U)) (R j x u U hu)
 | @et c a1 ih =>
  intro v ai h;obtain⟨vs,rfl,h1,R⟩:=h.EP
  cases ai with
  | et ai=>exact .et vs h1 fun j x u U hu=>ih x (dH U) (ai x (dH U)) (R j x u U hu)
section
variable {P:Program} {g:G} {s:S} {aD:g9} {a:Act} {w:World}
theorem HU (h:ky g s aD w){r k b m:Nat}{o:aR}(an:s.al r k=some o)(ai:aD r k=some (b,m)):b<w.heap.size:=by have:=h.obj r k o an;rw[ai] at this;obtain⟨c,f6,e,-⟩:=this;exact(arD.1 e).1
theorem ale (h:ky g s aD w){r k b m:Nat}{o:aR}(an:s.al r k=some o)(a4:o.cY = .li)(ai:aD r k=some (b,m)):s.ok g aD w b:=by
 refine⟨HU h an ai,?_,?_⟩
 ·rcases h.own r k o b m an ai with e|e
  ·exact .inr (.inl e)
  exact .inr (.inr e)
 rintro⟨fN,eh,cD,aF,h1,h2,R⟩;obtain⟨rfl,rfl⟩:=h.inj r k o fN eh cD b m aF an h1 ai R;rw[an] at h1;simp at h1;subst h1;rw[a4] at h2;simp at h2
theorem enter (h:ky g s aD w){a3:iP}{bN:hU->Bool}{q:aA->Prop}{T:List (List aR)}(A:Nat->Prop)
 (hA : ∀b,A b->b<w.heap.size) (QR : ∀b,s.ok g aD w b->A b)
 (QS : ∀r k o b m,s.al r k=some o->bN o.cY=true->aD r k=some (b,m)->A b)
 (ee:tZ s a3 bN q (gr T).a7) (tK : ∀r k o,(∃j i,a3 j i=some (r,k))->s.al r k=some o->o.cY = .live) :
 ∃hs:G,hs.pO=w/\hs.A=A/\hs.m=T.length/\hs.sD=(gr T).bi/\hs.vK=(gr T).bo (mh aD a3) /\
  (hs.tn=fun b=> ∃r k o m,(∃j i,a3 j i=some (r,k))/\s.al r k=some o/\aD r k=some (b,m))/\ky hs (gr T) (mh aD a3) w /\
  ∀ {x dY:aA} {v:Value},j2 s a3 bN q x dY->Rel w (s.ok g aD w) s.bi (s.bo aD) x v->Rel w ((gr T).ok hs (mh aD a3) w) (gr T).bi ((gr T).bo (mh aD a3)) dY v:=by
 let hs:G:={pO:=w,A:=A,tn:=fun b=> ∃r k o m,(∃j i,a3 j i=some (r,k))/\s.al r k=some o/\aD r k=some (b,m),N:=0,m:=T.length,sD:=(gr T).bi,vK:=(gr T).bo (mh aD a3)}
 refine⟨hs,rfl,rfl,rfl,rfl,rfl,rfl,?_⟩;have iD : ∀b,(gr T).oW (mh aD a3) b-> ∃r k o m,s.al r k=some o/\o.cY = .live/\aD r k=some (b,m)/\ ∃j i,a3 j i=some (r,k):=fun b aZ=>ee.live b aZ;refine ky.RH (cg:=gr T) (hs:=hs) h ee ⟨rfl,rfl,rfl,dE _,fun _ _ _=>rfl⟩ (fun j k ap=>⟨ap,.inl rfl⟩) ?_ ?_ hA ?_ ?_ ?_
 ·intro j k ap
  have ap:k<((T[j]?).getD []).length:=ap;rcases Nat.lt_or_ge j T.length with h1|h1
  ·exact h1
  rw[dT h1] at ap;simp at ap
 ·rintro b ⟨r,k,o,m,-,an,ai⟩;exact HU h an ai
 ·intro r k o b m hm an ai;exact .inr ⟨r,k,o,m,hm,an,ai⟩
 ·intro b aO;refine⟨aO.1,.inl (QR b aO),fun aZ=> ?_⟩;obtain⟨r,k,o,m,h1,h2,R,-⟩:=iD b aZ;exact aO.2.2 ⟨r,k,o,m,h1,h2,R⟩
 intro r k o b m an bH ak ai;refine⟨HU h an ai,.inl (QS r k o b m an bH ai),fun aZ=> ?_⟩;obtain⟨fN,eh,cD,aF,h1,h2,R,⟨j,i,ap⟩⟩:=iD b aZ;obtain⟨rfl,rfl⟩:=h.inj r k o fN eh cD b m aF an h1 ai R;exact ak j i ap
theorem leave (h:dZ g s aD a w){b5:World}{a3 nC:iP}{bN:hU->Bool}{q0 q:aA->Prop}{hs:G}{T eU:List (List aR)}{nO:g9}
 (d6:hs.pO=w) (hA:(∀b,hs.A b->s.ok g aD w b)\/(∀x,q x->bD x)) (BF:hs.sD=(gr T).bi) (ol:hs.vK=(gr T).bo (mh aD a3))
 (eY:hs.tn=fun b=> ∃r k o m,(∃j i,a3 j i=some (r,k))/\s.al r k=some o/\aD r k=some (b,m))
 (tK : ∀r k o,(∃j i,a3 j i=some (r,k))->s.al r k=some o->o.cY = .live)
 (ee:tZ s a3 bN q0 (gr T).a7) (h1:ky hs (gr eU) nO b5)
 (H8 : ∀j i r k,a3 j i=some (r,k)->nC r k=some (j,i)) (L8 : ∀r k j i,nC r k=some (j,i)->a3 j i=some (r,k)\/ ¬s.bi r k)
 (amw : ∀r k fN eh p,nC r k=some p->nC fN eh=some p->r=fN/\k=eh)
 {s2:S} (fl:s2.E=s.E)
 (bC : ∀r k o,s2.al r k=some o->(∃j i p,nC r k=some (j,i)/\(gr eU).al j i=some p/\rU (gr eU) nC (fun _=>false) q p o)\/(nC r k=none/\s.al r k=some o))
 (lJ : ∀r k,s.bi r k->s2.bi r k) (amx : ∀r k j i,nC r k=some (j,i)->(gr eU).bi j i->s2.bi r k)
 {x dY:aA} {v:Value} (U:j2 (gr eU) nC (fun _=>false) q x dY) (bh:Rel b5 ((gr eU).ok hs nO b5) (gr eU).bi ((gr eU).bo nO) x v) :
 ∃oA,dZ g s2 oA a b5/\Rel b5 (s2.ok g oA b5) s2.bi (s2.bo oA) dY v:=by
 let oA:g9:=fun r k=>match nC r k with|some (j,i)=>nO j i|none=>aD r k
 have p1 : ∀r k j i,nC r k=some (j,i)->oA r k=nO j i:=fun r k j i e=>by simp[oA,e]
 have p2 : ∀r k,nC r k=none->oA r k=aD r k:=fun r k e=>by simp[oA,e]
 have a4:=h1.i3;have gh:w.heap.size<=b5.heap.size:=by have:=a4.size;rw[d6] at this;exact this
 have xN : ∀b,b<w.heap.size-> ¬hs.tn b->b5.heap[b]? = w.heap[b]? := fun b aO mE=>by have:=a4.block b (by rw[d6];exact aO) mE;rw[d6] at this;exact this
 have Mx : ∀j k p b m,(gr eU).al j k=some p->nO j k=some (b,m)->w.heap.size<=b\/ ∃r eh o aF,(∃j i,a3 j i=some (r,eh))/\s.al r eh=some o/\aD r eh=some (b,aF):=by
  intro j k p b m ai aO;rcases h1.own j k p b m ai aO with e|e
  ·rw[d6] at e;exact .inl e
  rw[eY] at e;exact .inr e
 have hold : ∀q k o b m,nC q k=none->s.al q k=some o->aD q k=some (b,m)->b<w.heap.size/\ ¬hs.tn b:=by intro q k o b m a0 an ai;refine⟨HU h.toky an ai,fun mE=> ?_⟩;rw[eY] at mE;obtain⟨r,eh,cD,aF,⟨j,i,ak⟩,fj,nX⟩:=mE;obtain⟨rfl,rfl⟩:=h.inj q k o r eh cD b m aF an fj ai nX;rw[H8 _ _ _ _ ak] at a0;simp at a0
 have Y4 : ∀b,s2.oW oA b->(gr eU).oW nO b\/(∃q k o m,nC q k=none/\s.al q k=some o/\o.cY = .live/\aD q k=some (b,m)):=by
  rintro b ⟨q,k,o,m,an,ri,ai⟩;rcases bC q k o an with ⟨j,i,p,e1,e2,bG⟩|⟨e1,e2⟩
  ·rw[p1 _ _ _ _ e1] at ai;exact .inl ⟨j,i,p,m,e2,Yt bG ri,ai⟩
  rw[p2 _ _ e1] at ai;exact .inr ⟨q,k,o,m,e1,e2,ri,ai⟩
 have pZ : ∀b,s.ok g aD w b->s2.ok g oA b5 b:=by
  intro b aO;refine⟨Nat.lt_of_lt_of_le aO.1 gh,aO.2.1,fun aZ=> ?_⟩;rcases Y4 b aZ with ⟨j,k,p,m,e1,e2,bG⟩|⟨q,k,o,m,e1,e2,bG,cR⟩
  ·rcases Mx j k p b m e1 bG with e|⟨r,eh,o,aF,ak,an,ai⟩
   ·have:=aO.1;omega
   exact aO.2.2 ⟨r,eh,o,aF,an,tK r eh o ak an,ai⟩
  exact aO.2.2 ⟨q,k,o,m,e2,bG,cR⟩
 have Z3 : ∀r k,s.bi r k->s2.bo oA r k=s.bo aD r k\/s2.bo oA r k=none:=by
  intro r k ak
  cases an:s2.al r k with
  | none=>right;simp[S.bo,an]
  | some o =>
   left;rcases bC r k o an with ⟨j,i,p,e1,e2,bG⟩|⟨e1,e2⟩;rotate_left
   ·rw[kw an,kw e2,p2 _ _ e1]
   rcases L8 r k j i e1 with ap|ap
   ·have ps:=(h1.stay j i (by rw[BF];exact ee.bi _ _ _ _ ap ak)).2
    rw[ol,kw e2] at ps
    have ps:some (p.sz,nO j i)=(gr T).bo (mh aD a3) j i:=by
     rcases ps with e|e
     ·exact e
     simp at e
    have:=ee.Mw (cg:=gr T) (aD:=aD) ap;rw[<- ps] at this;rw[kw an,bG.sz,p1 _ _ _ _ e1];rcases this with e|e
    ·exact e
    simp at e
   exact absurd ak ap
 have al3 : ∀b,s.ok g aD w b->b5.heap[b]? = w.heap[b]? := by intro b aO;refine xN b aO.1 fun mE=> ?_;rw[eY] at mE;obtain⟨r,eh,o,aF,ak,an,ai⟩:=mE;exact aO.2.2 ⟨r,eh,o,aF,an,tK r eh o ak an,ai⟩
 have gO : ∀ {y:aA} {u:Value},Rel w (s.ok g aD w) s.bi (s.bo aD) y u->Rel b5 (s2.ok g oA b5) s2.bi (s2.bo oA) y u :=
  fun ak=>ak.mono pZ al3 lJ Z3
 have amy:(∀b,hs.A b->s.ok g aD w b)-> ∀b,(gr eU).ok hs nO b5 b->s2.ok g oA b5 b:=by
  intro hA b aO
  have Qq:g.A b\/g.pO.heap.size<=b\/g.tn b:=by
   rcases aO.2.1 with e|e|e
   ·exact(hA b e).2.1
   ·rw[d6] at e;exact .inr (.inl (Nat.le_trans h.i3.size e))
   rw[eY] at e;obtain⟨r,k,o,m,-,an,ai⟩:=e;rcases h.own r k o b m an ai with e|e
   ·exact .inr (.inl e)
   exact .inr (.inr e)
  refine⟨aO.1,Qq,fun aZ=> ?_⟩;rcases Y4 b aZ with e|⟨q,k,o,m,e1,e2,bG,cR⟩
  ·exact aO.2.2 e
  have a0:=hold q k o b m e1 e2 cR;rcases aO.2.1 with e|e|e
  ·exact(hA b e).2.2 ⟨q,k,o,m,e2,bG,cR⟩
  ·rw[d6] at e;omega
  exact a0.2 e
 have ZF : ∀ {y oz:aA} {u:Value},j2 (gr eU) nC (fun _=>false) q y oz->Rel b5 ((gr eU).ok hs nO b5) (gr eU).bi ((gr eU).bo nO) y u->Rel b5 (s2.ok g oA b5) s2.bi (s2.bo oA) oz u:=by
  intro y oz u bS ak;refine bS.rel h1 (fun x v a0 ai ak=> ?_) (fun _ _ _ _ _ _ bH _ _=>by simp at bH) ?_ ak
  ·rcases hA with hA|hA
   ·exact ak.pure ai (amy hA)
   exact ak.d4 (hA x a0) ai
  intro r k j i a0 ap;refine⟨amx r k j i a0 ap,?_⟩
  cases an:s2.al r k with
  | none=>right;simp[S.bo,an]
  | some o =>
   left;rcases bC r k o an with ⟨jZ,fU,p,e1,e2,bG⟩|⟨e1,-⟩
   ·rw[a0] at e1;simp only[dA,dF] at e1;obtain⟨rfl,rfl⟩:=e1;rw[kw an,kw e2,bG.sz,p1 _ _ _ _ a0]
   rw[a0] at e1;simp at e1
 refine⟨oA,{toky:=⟨?_,?_,?_,?_,h.mlt,h.qD,?_,h.low⟩,env:=fun t=>by rw[fl];exact gO (h.env t),defers:=h.defers,mf:=h.mf},ZF U bh⟩
 ·intro q k o an
  rcases bC q k o an with ⟨j,i,p,e1,e2,bG⟩|⟨e1,e2⟩
  ·have ai:=h1.obj j i p e2
   rw[p1 _ _ _ _ e1]
   cases m5:nO j i with
   | none =>
    rw[m5] at ai;simp only[lr] at ai ⊢;apply dM.1;rw[bG.len,ai];rfl
   | some yk =>
    obtain⟨b,m⟩:=yk;rw[m5] at ai;obtain⟨c,f6,f1,f2,f3,f4⟩:=ai;have mg:o.es.flatten.length=p.es.flatten.length:=(by rw[we _ bG.each,we _ f3,bG.len]);refine⟨c,f6,f1,f2,by rw[bG.sz];exact bG.each,fun i dY fa=> ?_⟩;have eS:i<p.es.flatten.length:=(by rw[<- mg];exact gD fa);have ms:=dy eS;obtain⟨u,k9,nP,jh⟩:=f4 i _ ms;exact⟨u,k9,nP,ZF (bG.at_ i _ dY ms fa) jh⟩
  have ai:=h.obj q k o e2;rw[p2 _ _ e1]
  cases m5:aD q k with
  | none=>rw[m5] at ai;exact ai
  | some yk =>
   obtain⟨b,m⟩:=yk;rw[m5] at ai;obtain⟨c,f6,f1,f2,f3,f4⟩:=ai;obtain⟨zn,QT⟩:=hold q k o b m e1 e2 m5;refine⟨c,f6,(xN b zn QT).trans f1,f2,f3,fun i dY fa=> ?_⟩;obtain⟨u,k9,nP,jh⟩:=f4 i dY fa;exact⟨u,k9,nP,gO jh⟩
 ·intro q k o jY eh cD b m aF h2 R aj aq
  rcases bC q k o h2 with ⟨j,i,p,e1,e2,bG⟩|⟨e1,e2⟩<;>rcases bC jY eh cD R with ⟨jZ,fU,mX,p7,td,zk⟩|⟨p7,td⟩
  ·rw[p1 _ _ _ _ e1] at aj;rw[p1 _ _ _ _ p7] at aq;obtain⟨rfl,rfl⟩:=h1.inj j i p jZ fU mX b m aF e2 td aj aq;exact amw _ _ _ _ _ e1 p7
  ·rw[p1 _ _ _ _ e1] at aj;rw[p2 _ _ p7] at aq
   obtain⟨f1,f2⟩:=hold jY eh cD b aF p7 td aq;rcases Mx j i p b m e2 aj with e|e
   ·omega
   exact absurd (by rw[eY];exact e) f2
  ·rw[p2 _ _ e1] at aj;rw[p1 _ _ _ _ p7] at aq
   obtain⟨f1,f2⟩:=hold q k o b m e1 e2 aj;rcases Mx jZ fU mX b aF td aq with e|e
   ·omega
   exact absurd (by rw[eY];exact e) f2
  rw[p2 _ _ e1] at aj;rw[p2 _ _ p7] at aq;exact h.inj q k o jY eh cD b m aF e2 td aj aq
 ·intro q k o b m h2 aj
  rcases bC q k o h2 with ⟨j,i,p,e1,e2,bG⟩|⟨e1,e2⟩
  ·rw[p1 _ _ _ _ e1] at aj
   rcases Mx j i p b m e2 aj with e|⟨r,eh,cD,aF,ak,an,ai⟩
   ·exact .inl (Nat.le_trans h.i3.size e)
   exact h.own r eh cD b aF an ai
  rw[p2 _ _ e1] at aj;exact h.own q k o b m e2 aj
 ·have e1:=a4.os;have e2:=a4.tape;have bG:=a4.output
  rw[d6] at e1 e2 bG;refine h.i3.step e1 e2 bG gh fun b aO rj=>xN b (Nat.lt_of_lt_of_le aO h.i3.size) fun mE=> ?_;rw[eY] at mE;obtain⟨r,k,o,m,-,an,ai⟩:=mE;rcases h.own r k o b m an ai with e|e
  ·omega
  exact rj e
 intro j k ap;obtain⟨e1,e2⟩:=h.stay j k ap;refine⟨lJ j k e1,?_⟩;rcases Z3 j k e1 with e|e
 ·rw[e];exact e2
 exact .inr e
def nw (a b n:Nat):aA->aA
 | .ref r k i off=>if r=a then .ref b (n+k) i off else .ref r k i off
 | .bw r k cj len=>if r=a then .bw b (n+k) cj len else .bw r k cj len
 | .k8 r c sz h=>if r=a then .k8 b (n+c) sz h else .k8 r c sz h
 | .agg c=> .agg (Fw c)
 | .et c=> .et (Fw c)
 | x=>x
where Fw:List aA->List aA
 | []=>[]
 | x::l=>nw a b n x::Fw l
def pv (a b n:Nat)(o:aR):aR:={o with es:=o.es.map fun e=>e.map (nw a b n)}
def vE (o:aR):aR:=⟨0,[],.gone⟩
theorem LG (a b n:Nat): ∀l:List aA,nw.Fw a b n l=l.map (nw a b n)
 | []=>rfl
 | x::l=>by rw[nw.Fw,LG a b n l];rfl
theorem m3 (l:List aR)(k:Nat):er (some l) k=(l[k]?).bind fun o=>if o.cY = .gone then none else some o:=by unfold er;cases h:l[k]? <;> simp[h]
theorem map_flatten {es:List (List aA)}(f:aA->aA):(es.map fun e=>e.map f).flatten=es.flatten.map f:=by
 induction es with
 | nil=>rfl
 | cons e es ih=>rw[List.map_cons,aru,aru,List.map_append,ih]
theorem dZ.merge (h:dZ g s aD a w){r fN:Nat}{l gW:List aR}(ak:s.a7 r=some l)(jQ:s.a7 fN=some gW)(dX:fN≠r):
 ∃cc,dZ g ((s.setRow fN (gW.map vE)).setRow r (l++gW.map (pv fN r l.length))) cc a w /\
  ∀x v,Rel w (s.ok g aD w) s.bi (s.bo aD) x v->Rel w (((s.setRow fN (gW.map vE)).setRow r (l++gW.map (pv fN r l.length))).ok g cc w)
   ((s.setRow fN (gW.map vE)).setRow r (l++gW.map (pv fN r l.length))).bi (((s.setRow fN (gW.map vE)).setRow r (l++gW.map (pv fN r l.length))).bo cc) (nw fN r l.length x) v:=by
 generalize xX:(s.setRow fN (gW.map vE)).setRow r (l++gW.map (pv fN r l.length))=s2
 let cc:g9:=fun q k=>if q=r/\l.length<=k then aD fN (k-l.length) else aD q k
 have bC : ∀q k o,s2.al q k=some o->(q=r/\l.length<=k/\ ∃p,s.al fN (k-l.length)=some p/\o=pv fN r l.length p/\cc q k=aD fN (k-l.length)) \/
  (q≠fN/\s.al q k=some o/\cc q k=aD q k/\ ¬(q=r/\l.length<=k)):=by
  intro q k o an;subst xX;rw[oE] at an;by_cases e:q=r;rotate_left
  ·rw[dB e,oE] at an
   by_cases e2:q=fN
   ·subst e2
    rw[dz rfl,m3,dK] at an
    cases ai:gW[k]? with
    | none=>rw[ai] at an;simp at an
    | some p=>rw[ai] at an;simp[vE] at an
   rw[dB e2] at an;exact .inr ⟨e2,an,by simp[cc,e],fun hn=>e hn.1⟩
  subst e;rw[dz rfl] at an;by_cases a4:l.length<=k
  ·left
   refine⟨rfl,a4,?_⟩;rw[m3,arx a4,dK] at an
   cases ai:gW[k-l.length]? with
   | none=>rw[ai] at an;simp at an
   | some p =>
    rw[ai] at an;simp only[arq,dx] at an;split at an
    ·simp at an
    rename_i d6;simp only[dA] at an;refine⟨p,?_,an.symm,by simp[cc,a4]⟩;unfold S.al;rw[jQ,m3,ai,dx,dB (by simpa [pv] using d6)]
  right;refine⟨Ne.symm dX,?_,by simp[cc,a4],fun hn=>a4 hn.2⟩;unfold S.al;rw[ak,m3];rw[m3,ars (by omega)] at an;exact an
 have lJ : ∀q k,s.bi q k->s2.bi q k:=by
  intro q k a0;subst xX;rw[qq];by_cases e:q=r
  ·subst e;rw[dz rfl];simp[S.bi,ak] at a0;simp;omega
  rw[dB e,qq];by_cases e2:q=fN
  ·subst e2;rw[dz rfl];simpa [S.bi,jQ] using a0
  rw[dB e2];exact a0
 have Iz : ∀k,s.bi fN k->s2.bi r (l.length+k):=by intro k a0;subst xX;rw[qq,dz rfl];simp[S.bi,jQ] at a0;simp;omega
 have IA : ∀k,s2.bo cc r (l.length+k)=s.bo aD fN k:=by
  intro k;subst xX;simp only[S.bo];rw[oE,dz rfl];unfold S.al;rw[jQ,m3,m3,arx (by omega),dK,show l.length+k-l.length=k by omega]
  cases ai:gW[k]? with
  | none=>simp
  | some p =>
   simp only[arq,dx];by_cases d6:p.cY = .gone
   ·rw[dz d6,dz (by simpa [pv] using d6)];rfl
   rw[dB d6,dB (by simpa [pv] using d6)];simp[cc,pv]
 have ol : ∀q k,s.bi q k->s2.bo cc q k=s.bo aD q k\/s2.bo cc q k=none:=by
  intro q k a0
  cases an:s2.al q k with
  | none=>right;simp[S.bo,an]
  | some o =>
   left;rcases bC q k o an with ⟨rfl,e2,-⟩|⟨-,e2,bG,-⟩
   ·simp[S.bi,ak] at a0;omega
   rw[kw an,kw e2,bG]
 have tK : ∀b,s2.oW cc b->s.oW aD b:=by
  rintro b ⟨q,k,o,m,h1,h2,R⟩;rcases bC q k o h1 with ⟨-,-,p,e1,e2,bG⟩|⟨-,e1,e2,-⟩
  ·rw[bG] at R;subst e2;exact⟨fN,_,p,m,e1,h2,R⟩
  rw[e2] at R;exact⟨q,k,o,m,e1,h2,R⟩
 have du:Step g s aD w s2 cc w:=⟨lJ,ol,fun b aZ=> .inl (tK b aZ),fun _ _ _=>rfl,dE _⟩
 have IY : ∀x v,Rel w (s.ok g aD w) s.bi (s.bo aD) x v->Rel w (s2.ok g cc w) s2.bi (s2.bo cc) (nw fN r l.length x) v:=by
  intro x v oo
  induction oo with
  | dead v=>exact .dead v
  | b x=>exact .b x
  | n k x=>exact .n k x
  | s x=>exact .s x
  | kJ=>exact .kJ
  | fQ=>exact .fQ
  | kM a c=>exact .kM a c
  | @tD r1 k i off a hu hn =>
   unfold nw;split
   ·rename_i e;subst e;exact .tD a (Iz k hu) (by rw[IA];exact hn)
   exact du.rel (.tD a hu hn)
  | @ref r1 k i off sz fv m hu hn =>
   unfold nw;split
   ·rename_i e;subst e;exact .ref (Iz k hu) (by rw[IA];exact hn)
   exact du.rel (.ref hu hn)
  | @qt r1 k cj len a a6 cw hu hn =>
   unfold nw;split
   ·rename_i e;subst e;exact .qt a a6 cw (Iz k hu) (by rw[IA];exact hn)
   exact du.rel (.qt a a6 cw hu hn)
  | @qQ r1 k sz hu hn =>
   unfold nw;split
   ·rename_i e;subst e;exact .qQ (Iz k hu) (by rw[IA];exact hn)
   exact du.rel (.qQ hu hn)
  | @bw r1 k cj len sz fv m c a hu hn aZ a1 pu =>
   unfold nw;split
   ·rename_i e;subst e;exact .bw (Iz k hu) (by rw[IA];exact hn) aZ a1 pu
   exact du.rel (.bw hu hn aZ a1 pu)
  | @pU r1 c sz v h0 ih =>
   unfold nw;split
   ·exact .pU (du.rel h0)
   exact du.rel (.pU h0)
  | @q8 r1 c sz k n v h0 ih =>
   unfold nw;split
   ·rename_i e;subst e;unfold nw at ih;rw[dz rfl] at ih;exact .q8 (by rw[show k+(l.length+c)=l.length+(k+c) by omega];exact ih)
   exact du.rel (.q8 h0)
  | kT sz a c h=>exact .kT sz a c h
  | isl cs aO ai aZ a1 hw jG oo ih=>exact du.rel (.isl cs aO ai aZ a1 hw jG oo)
  | gv cs aO ai aZ hw jG oo ih=>exact du.rel (.gv cs aO ai aZ hw jG oo)
  | s9 sz=>exact .s9 sz
  | sw h0 ih=>exact du.rel (.sw h0)
  | agg vs aZ jG oo ih =>
   unfold nw;rw[LG];refine .agg vs (by simpa using aZ) jG fun j x v U bh=> ?_;rw[dK,dP] at U;obtain⟨y,aY,rfl⟩:=U;exact ih j y v aY bh
  | et vs aZ oo ih =>
   unfold nw;rw[LG];refine .et vs (by simpa using aZ) fun j x v U bh=> ?_;rw[dK,dP] at U;obtain⟨y,aY,rfl⟩:=U;exact ih j y v aY bh
  | fn vs aZ oo ih=>exact du.rel (.fn vs aZ oo)
 refine⟨cc,{toky:=⟨?_,?_,?_,h.i3,h.mlt,h.qD,?_,h.low⟩,env:=fun t=>by rw[show s2.E=s.E by rw[<- xX];rfl];exact du.rel (h.env t),defers:=h.defers,mf:=h.mf},IY⟩
 ·intro q k o an
  rcases bC q k o an with ⟨-,-,p,e1,e2,bG⟩|⟨-,e1,e2,-⟩;rotate_left
  ·rw[e2];exact du.obj (fun b m _=>rfl) (h.obj q k o e1)
  rw[bG];subst e2;have ai:=h.obj fN _ p e1
  cases m5:aD fN (k-l.length) with
  | none=>rw[m5] at ai;simp only[lr] at ai ⊢;simp[pv,ai]
  | some yk =>
   obtain⟨b,m⟩:=yk;rw[m5] at ai;obtain⟨c,f6,f1,f2,f3,f4⟩:=ai;refine⟨c,f6,f1,f2,?_,fun j x U=> ?_⟩
   ·intro e he;simp only[pv,List.mem_map] at he;obtain⟨fA,o2,rfl⟩:=he;simpa [pv] using f3 fA o2
   simp only[pv] at U;rw[map_flatten,dK,dP] at U;obtain⟨y,aY,rfl⟩:=U;obtain⟨u,k9,nP,jh⟩:=f4 j y aY;exact⟨u,k9,nP,IY y u jh⟩
 ·intro q k o q1 k0 cf b m aF h1 h2 R aj
  rcases bC q k o h1 with ⟨rfl,f1,p,e1,e2,bG⟩|⟨f1,e1,e2,f2⟩<;>rcases bC q1 k0 cf h2 with ⟨rfl,Fx,mX,p7,td,zk⟩|⟨Fx,p7,td,aql⟩
  ·rw[bG] at R;rw[zk] at aj;obtain⟨-,e⟩:=h.inj _ _ _ _ _ _ b m aF e1 p7 R aj;exact⟨rfl,by omega⟩
  ·rw[bG] at R;rw[td] at aj;obtain⟨e,-⟩:=h.inj _ _ _ _ _ _ b m aF e1 p7 R aj;exact absurd e.symm Fx
  ·rw[e2] at R;rw[zk] at aj;obtain⟨e,-⟩:=h.inj _ _ _ _ _ _ b m aF e1 p7 R aj;exact absurd e f1
  rw[e2] at R;rw[td] at aj;exact h.inj _ _ _ _ _ _ b m aF e1 p7 R aj
 ·intro q k o b m h1 h2
  rcases bC q k o h1 with ⟨-,-,p,e1,e2,bG⟩|⟨-,e1,e2,-⟩
  ·rw[bG] at h2;exact h.own fN _ p b m e1 h2
  rw[e2] at h2;exact h.own q k o b m e1 h2
 exact du.stay h.stay
end
def aA.kv:aA->Bool
 | .dead | .b _ | .n .. | .s _ | .kJ | .fQ | .kM | .isl .. | .gv .. | .hr .. => true
 | _=>false
def aA.HV:aA->Bool
 | .agg c=>c.all aA.kv
 | .fn _ c=>c.all aA.kv
 | x=>x.kv
def aA.ZG:aA->Bool
 | .et c=>c.all aA.HV
 | x=>x.HV
section
variable {w:World} {ok:Nat->Prop} {bi:ly} {bo:ln}
theorem Rel.E8 {x:aA}{v:Value}(h:Rel w ok bi bo x v)(a2:x.kv=true):Pure x:=by
 cases h with
 | dead=>exact .dead
 | b=>exact .b _
 | n=>exact .n _ _
 | s=>exact .s _
 | kJ=>exact .kJ
 | fQ=>exact .fQ
 | kM=>exact .kM
 | kT=>exact .isl (by simp)
 | isl cs aO ai=>exact .isl ai
 | gv cs aO ai=>exact .gv ai
 | s9 sz=>exact .s9 sz
 | sw h=>cases h with|gv cs aO ai=>exact .sw fun x U=>ai _ (List.mem_singleton.2 rfl) x U
 | _=>simp[aA.kv] at a2
theorem WI {c:List aA}{vs:List Value}(aZ:vs.length=c.length)(ak:∀(j:Nat) x u,c[j]? = some x->vs[j]? = some u->Rel w ok bi bo x u)
 (a2:c.all aA.kv=true) : ∀x∈c,Pure x:=by
 intro x U;obtain⟨j,ap⟩:=arB U;have eS:j<vs.length:=by have:=gD ap;omega
 exact(ak j x _ ap (dy eS)).E8 (List.all_eq_true.1 a2 x U)
theorem Rel.LV {x:aA}{v:Value}(h:Rel w ok bi bo x v)(a2:x.HV=true):Pure x:=by
 cases h with
 | agg vs aZ a1 ak=>exact .agg (WI aZ ak a2)
 | fn vs aZ ak=>exact .fn (WI aZ ak a2)
 | dead=>exact .dead
 | b=>exact .b _
 | n=>exact .n _ _
 | s=>exact .s _
 | kJ=>exact .kJ
 | fQ=>exact .fQ
 | kM=>exact .kM
 | kT=>exact .isl (by simp)
 | isl cs aO ai=>exact .isl ai
 | gv cs aO ai=>exact .gv ai
 | s9 sz=>exact .s9 sz
 | sw h=>cases h with|gv cs aO ai=>exact .sw fun x U=>ai _ (List.mem_singleton.2 rfl) x U
 | _=>simp[aA.HV,aA.kv] at a2
theorem Rel.al4 {x:aA}{v:Value}(h:Rel w ok bi bo x v)(a2:x.ZG=true):Pure x:=by
 by_cases cv : ∃c,x = .et c
 ·obtain⟨c,rfl⟩:=cv;obtain⟨vs,rfl,aZ,ak⟩:=h.EP;refine .et fun x U=> ?_;obtain⟨j,ap⟩:=arB U;have eS:j<vs.length:=(by have:=gD ap;omega);exact(ak j x _ ap (dy eS)).LV (List.all_eq_true.1 a2 x U)
 refine h.LV ?_;cases x<;>first|exact a2|exact absurd ⟨_,rfl⟩ cv
end
def bY:List Nat->Nat->Option Nat
 | [],_=>none
 | x::l,r=>if x=r then some 0 else (bY l r).map (· + 1)
theorem WJ : ∀ {l:List Nat} {r j:Nat},bY l r=some j->l[j]? = some r
 | x::l,r,j,h=>by
  unfold bY at h;split at h
  ·simp at h;subst h;simp[*]
  rw[dP] at h;obtain⟨i,aa,rfl⟩:=h;simpa using WJ aa
theorem WK : ∀ {l:List Nat} {r j:Nat},l.Nodup->l[j]? = some r->bY l r=some j
 | x::l,r,j,a2,h=>by
  rw[List.nodup_cons] at a2;unfold bY
  cases j with
  | zero=>simp at h;simp[h]
  | succ j =>
   simp at h;have:x≠r:=(by rintro rfl;exact a2.1 (dH h));rw[dB this,WK a2.2 h];rfl
def IZ (dU:Nat)(kK:List aR)(bN:hU->Bool)(x dY:aA):Prop :=
 (dY=x/\x.kv=true)\/(∃c sz,x = .k8 dU c sz none/\dY = .isl sz [])\/ ∃k cj len o,(x = .bw dU k cj len\/ ∃c sz lB,k=lB+c/\cj=0/\x = .k8 dU c sz (some (lB,len)))/\er (some kK) k=some o/\bN o.cY=true/\cj+len<=o.es.length /\
   j3 ((o.es.drop cj).take len)/\dY = .isl o.sz ((o.es.drop cj).take len)
def JN (dU:Nat)(kK:List aR)(bN:hU->Bool)(sz:Nat)(es iE:List (List aA)):Prop :=
 iE.length=es.length/\(∀e∈iE,e.length=sz)/\ ∀(j:Nat) x dY,es.flatten[j]? = some x->iE.flatten[j]? = some dY->IZ dU kK bN x dY
def oI (a7:Nat->Option (List aR))(b7:Nat->Option Nat)(a3:iP)(bN:hU->Bool):vZ->aA->Option (aA×List Prop)
 | .id,x=>if x.kv then some (x,[]) else
  match x with
  | .ref r k i off=>match b7 r with
   | some j=>some (.ref j k i off,[])
   | none=>none
  | .bw r k cj len=>match b7 r with
   | some j=>some (.bw j k cj len,[])
   | none=>none
  | .k8 r c sz h=>match b7 r with
   | some j=>some (.k8 j c sz h,[])
   | none=>none
  | _=>none
 | .hf sz,.fQ=>some (.isl sz [],[])
 | .hf sz,.kM=>some (.isl sz [],[])
 | .eJ iE,.bw r k cj len=>match er (a7 r) k with
  | some o=>if bN o.cY && (b7 r).isNone then some (.isl o.sz iE,[iE=(o.es.drop cj).take len,cj+len<=o.es.length,j3 iE]) else none
  | none=>none
 | .lP,_=>some (.dead,[])
 | .cM y,x=>if x.kv then some (y,[x=y]) else none
 | .len n,.bw r k cj len=>match b7 r with
  | some j=>some (.bw j k cj n,[len=n])
  | none=>none
 | .v5 sz,x=>match x with
  | .kJ=>some (.hr sz none,[])
  | .gv Ms [c] 0 0=>if Ms=sz then some (.hr sz (some c),[]) else none
  | _=>none
 | .at_ j i n,.bw r k cj len=>some (.bw j i cj n,[a3 j i=some (r,k),len=n])
 | .at_ j i _,.ref r k x y=>some (.ref j i x y,[a3 j i=some (r,k)])
 | .view dU o iE,.bw r k cj len=>match a7 r,a7 dU with
  | some row,some kK=>if (b7 r).isNone && (b7 dU).isNone then
   some (.isl o.sz iE,[er (some row) k=some o,bN o.cY=true,cj+len<=o.es.length,j3 iE,JN dU kK bN o.sz ((o.es.drop cj).take len) iE]) else none
  | _,_=>none
 | _,_=>none
def oJ {α β:Type}(f:α->β->Option (β×List Prop)):List α->List β->Option (List β×List Prop)
 | [],[]=>some ([],[])
 | a::l,b::m=>match f a b,oJ f l m with
  | some (kD,cf),some (aF,aU)=>some (kD::aF,cf++aU)
  | _,_=>none
 | _,_=>none
def rI (a7:Nat->Option (List aR))(b7:Nat->Option Nat)(a3:iP)(bN:hU->Bool):FY->aA->Option (aA×List Prop)
 | .cr c,x=>if x.HV then (match c with | .id=>some (x,[]) | .lP=>some (.dead,[]) | .cM y=>some (y,[x=y])|c=>oI a7 b7 a3 bN c x) else oI a7 b7 a3 bN c x
 | .agg l,.agg c=>match oJ (oI a7 b7 a3 bN) l c with
  | some (eG,al)=>some (.agg eG,al)
  | none=>none
 | .ptr l,.ref r k i off=>match er (a7 r) k with
  | some o=>match o.es with
   | [c]=>if bN o.cY && (b7 r).isNone then
    match oJ (oI a7 b7 a3 bN) l c with
    | some (eG,al)=>some (.gv o.sz [eG] i off,al++[j3 [eG]])
    | none=>none
    else none
   | _=>none
  | none=>none
 | .y9 l,x=>match x with
  | .ref r k 0 0=>match er (a7 r) k with
   | some o=>match o.es with
    | [c]=>if bN o.cY && (b7 r).isNone then
     match oJ (oI a7 b7 a3 bN) l c with
     | some (eG,al)=>some (.hr o.sz (some eG),al++[j3 [eG]])
     | none=>none
     else none
    | _=>none
   | none=>none
  | _=>none
 | _,_=>none
def qY (a7:Nat->Option (List aR))(b7:Nat->Option Nat)(a3:iP)(bN:hU->Bool):n9->aA->Option (aA×List Prop)
 | .a6 c,x=>if x.ZG then (match c with | .cr .id=>some (x,[])|c=>rI a7 b7 a3 bN c x) else rI a7 b7 a3 bN c x
 | .comp l,.et c=>match oJ (rI a7 b7 a3 bN) l c with
  | some (eG,al)=>some (.et eG,al)
  | none=>none
 | .comp l,.fn f c=>match oJ (rI a7 b7 a3 bN) l c with
  | some (eG,al)=>some (.fn f eG,al)
  | none=>none
 | _,_=>none
def yL (row:List aR):Prop:= ∀o∈row,j3 o.es/\o.cY = .live
def mP (row:List aR):Prop:= ∀o∈row,o.cY = .live\/o.cY = .gone
def p8 (b7:Nat->Option Nat):aA->aA
 | .ref r k i off=>match b7 r with|some j=> .ref j k i off|none=> .dead
 | .bw r k cj len=>match b7 r with|some j=> .bw j k cj len|none=> .dead
 | .k8 r c sz h=>match b7 r with|some j=> .k8 j c sz h|none=> .dead
 | x=>if x.kv then x else .dead
def lK (b7:Nat->Option Nat)(o:aR):aR:={o with es:=o.es.map fun e=>e.map (p8 b7)}
def ls (a7:Nat->Option (List aR))(b7:Nat->Option Nat)(a3:iP)(bN:hU->Bool):kg->List aR->Option (List aR×List Prop)
 | .pure,row=>some (row,[yL row])
 | .cM e8,row=>some (e8,[row=e8,yL e8])
 | .bq e8,row=>some (e8,[e8=row.map (lK b7),mP row])
 | .box l,[o]=>match o.es with
  | [c]=>if o.cY = .live then match oJ (oI a7 b7 a3 bN) l c with
   | some (eG,al)=>some ([{o with es:=[eG]}],al)
   | none=>none
   else none
  | _=>none
 | _,_=>none
structure yl (q:aA->Prop) (bN:hU->Bool):Prop extends Down q where
 all : ∀k,bN k=true-> ∀x,q x
theorem zo (bN:hU->Bool):yl o5 bN:={toDown:=al0,all:=fun _ _ _=>trivial}
theorem anc:yl bD (fun _=>false):={toDown:=al2,all:=fun _ h=>by simp at h}
structure pP (s:S) (a3:iP) (b7:Nat->Option Nat) (bN:hU->Bool):Prop where
 aa : ∀r j,b7 r=some j-> ∀k,a3 j k=some (r,k)
 a2 : ∀r,b7 r=none-> ∀k o,s.al r k=some o->bN o.cY=true-> ∀j i,a3 j i≠some (r,k)
section
variable {g:G} {s:S} {aD:g9} {w:World} {a3:iP} {b7:Nat->Option Nat} {bN:hU->Bool} {q:aA->Prop}
theorem K4 {α β:Type}(f:α->β->Option (β×List Prop)): ∀(l:List α) (m aF:List β) (al:List Prop),oJ f l m=some (aF,al) ->
 aF.length=m.length/\l.length=m.length/\ ∀(j:Nat) b kD,m[j]? = some b->aF[j]? = some kD-> ∃x cD,l[j]? = some x/\f x b=some (kD,cD)/\ ∀p∈cD,p∈al
 | [],[],aF,al,h=>by simp[oJ] at h;obtain⟨rfl,rfl⟩:=h;exact⟨rfl,rfl,fun j b kD aO=>by simp at aO⟩
 | [],_::_,_,_,h=>by simp[oJ] at h
 | _::_,[],_,_,h=>by simp[oJ] at h
 | x::l,b::m,aF,al,h=>by
  simp only[oJ] at h;split at h
  ·rename_i kD cf iV aU h1 h2
   simp only[dA,dF] at h;obtain⟨rfl,rfl⟩:=h;obtain⟨e1,e2,bG⟩:=K4 f l m iV aU h2;refine⟨by simp[e1],by simp[e2],fun j c eG a1 wN=> ?_⟩
   cases j with
   | zero =>
    simp at a1 wN;subst a1;subst wN;exact⟨x,cf,rfl,h1,fun p ai=>by simp[ai]⟩
   | succ j =>
    simp at a1 wN;obtain⟨y,cD,f1,f2,f3⟩:=bG j c eG a1 wN;exact⟨y,cD,by simpa using f1,f2,fun p ai=>by simp[f3 p ai]⟩
  simp at h
theorem Pe (eY:ky g s aD w)(H:pP s a3 b7 bN)(bI:yl q bN){c:vZ}{x dY:aA}{al:List Prop}(h:oI s.a7 b7 a3 bN c x=some (dY,al))(bC:∀p∈al,p)
 (a0:q x) {v:Value} (ak:Rel w (s.ok g aD w) s.bi (s.bo aD) x v):j2 s a3 bN q x dY:=by
 have lJ : ∀ {r k cj len:Nat},x = .bw r k cj len->s.bi r k:=by intro r k cj len e;subst e;cases ak<;>assumption
 cases c with
 | id =>
  simp only[oI] at h;split at h
  ·rename_i a2;simp only[dA,dF] at h;obtain⟨rfl,rfl⟩:=h;exact .pure (ak.E8 a2) a0
  split at h
  ·rename_i r k i off _
   split at h
   ·rename_i j ap;simp only[dA,dF] at h;obtain⟨rfl,rfl⟩:=h;exact .ref i off (H.aa r j ap k) (by cases ak<;>assumption)
   simp at h
  ·rename_i r k cj len _
   split at h
   ·rename_i j ap;simp only[dA,dF] at h;obtain⟨rfl,rfl⟩:=h;exact .bw cj len (H.aa r j ap k) (lJ rfl)
   simp at h
  ·rename_i r c sz hn _
   split at h
   ·rename_i j ap;simp only[dA,dF] at h;obtain⟨rfl,rfl⟩:=h;exact .k8 hn (fun k=>H.aa r j ap _)
   simp at h
  simp at h
 | hf sz =>
  cases x<;>simp[oI] at h
  ·obtain⟨rfl,rfl⟩:=h;exact .fQ sz
  obtain⟨rfl,rfl⟩:=h;exact .kM sz
 | eJ iE =>
  cases x<;>simp only[oI,reduceCtorEq] at h;rename_i r k cj len;split at h;rotate_left
  ·simp at h
  rename_i o an;split at h;rotate_left
  ·simp at h
  rename_i a1;simp only[dO,Option.isNone_iff_eq_none] at a1;simp only[dA,dF] at h;obtain⟨rfl,rfl⟩:=h;have h1:iE=(o.es.drop cj).take len:=bC _ (by simp);have h2:cj+len<=o.es.length:=bC _ (by simp);have R:j3 iE:=bC _ (by simp);have fj:s.al r k=some o:=an
  have hlen : ∀e∈o.es,e.length=o.sz:=by
   have hx:=eY.obj r k o fj
   cases ai:aD r k with
   | none=>rw[ai] at hx;simp only[lr] at hx;rw[hx];simp
   | some q=>rw[ai] at hx;obtain⟨_,_,_,_,e,_⟩:=hx;exact e
  refine .isl fj a1.1 (H.a2 r a1.2 k o fj a1.1) h2 R ?_ ?_ ?_
  ·rw[h1];exact fun e he=>hlen e (List.mem_of_mem_drop (List.mem_of_mem_take he))
  ·rw[h1];simp;omega
  intro j y oz aY rk;rw[h1] at rk;rw[aY] at rk;simp at rk;subst rk;rw[h1] at R;obtain⟨e,he,I0⟩:=xc aY;exact .pure (R e he y I0) (bI.all _ a1.1 y)
 | lP =>
  simp only[oI,dA,dF] at h;obtain⟨rfl,rfl⟩:=h;exact .dead x
 | cM y =>
  simp only[oI] at h;split at h
  ·rename_i a2;simp only[dA,dF] at h;obtain⟨rfl,rfl⟩:=h;have e:x=y:=bC _ (by simp);subst e;exact .pure (ak.E8 a2) a0
  simp at h
 | len n =>
  cases x<;>simp only[oI,reduceCtorEq] at h;rename_i r k cj len;split at h
  ·rename_i j ap;simp only[dA,dF] at h;obtain⟨rfl,rfl⟩:=h;have e:len=n:=bC _ (by simp);subst e;exact .bw cj len (H.aa r j ap k) (lJ rfl)
  simp at h
 | at_ j i n =>
  cases x<;>simp only[oI,reduceCtorEq] at h
  ·rename_i r k x y;simp only[dA,dF] at h;obtain⟨rfl,rfl⟩:=h;exact .ref x y (bC _ (List.mem_cons_self)) (by cases ak<;>assumption)
  rename_i r k cj len;simp only[dA,dF] at h;obtain⟨rfl,rfl⟩:=h;have e:len=n:=bC _ (by simp);subst e;exact .bw cj len (bC _ (List.mem_cons_self)) (lJ rfl)
 | view dU o iE =>
  cases x<;>simp only[oI,reduceCtorEq] at h;rename_i r k cj len;split at h;rotate_left
  ·simp at h
  rename_i row kK eP al5;split at h;rotate_left
  ·simp at h
  rename_i a1;simp only[dO,Option.isNone_iff_eq_none] at a1;simp only[dA,dF] at h;obtain⟨rfl,rfl⟩:=h;have h1:er (some row) k=some o:=bC _ (by simp);have h2:bN o.cY=true:=bC _ (by simp);have R:cj+len<=o.es.length:=bC _ (by simp);have aj:j3 iE:=bC _ (by simp);have aq:JN dU kK bN o.sz ((o.es.drop cj).take len) iE:=bC _ (by simp);have fj:s.al r k=some o:=(by unfold S.al;rw[eP];exact h1);obtain⟨d1,d2,d3⟩:=aq;refine .isl fj h2 (H.a2 r a1.1 k o fj h2) R aj d2 (by rw[d1];simp;omega) fun j y oz aY rk=> ?_;rcases d3 j y oz aY rk with ⟨rfl,a2⟩|⟨cw,aaw,rfl,rfl⟩|⟨kh,My,L9,p,I1,e1,e2,bG,cR,rfl⟩
  ·obtain⟨e,he,I0⟩:=xc rk;exact .pure (aj e he oz I0) (bI.all _ h2 _)
  ·exact .pU _ _ _
  have nX:s.al dU kh=some p:=by unfold S.al;rw[al5];exact e1
  have hlen : ∀e∈p.es,e.length=p.sz:=by
   have hx:=eY.obj dU kh p nX
   cases ai:aD dU kh with
   | none=>rw[ai] at hx;simp only[lr] at hx;rw[hx];simp
   | some q=>rw[ai] at hx;obtain⟨_,_,_,_,e,_⟩:=hx;exact e
  have ZH:j2 s a3 bN q (.bw dU kh My L9) (.isl p.sz ((p.es.drop My).take L9)):=(by refine .isl nX e2 (H.a2 dU a1.2 kh p nX e2) bG cR (fun e he=>hlen e (List.mem_of_mem_drop (List.mem_of_mem_take he))) (by simp;omega) fun j z arb cK wP=> ?_;rw[cK] at wP;simp at wP;subst wP;obtain⟨e,he,ane⟩:=xc cK;exact .pure (cR e he z ane) (bI.all _ e2 _));rcases I1 with rfl|⟨cr,aqm,lB,rfl,rfl,rfl⟩
  ·exact ZH
  exact .q8 ZH
 | v5 sz =>
  simp only[oI] at h;split at h
  ·simp only[dA,dF] at h;obtain⟨rfl,rfl⟩:=h;exact .LU _
  ·split at h
   ·rename_i e;subst e;simp only[dA,dF] at h;obtain⟨rfl,rfl⟩:=h;exact .hr (.pure (ak.E8 rfl) a0)
   simp at h
  simp at h
theorem Hx (eY:ky g s aD w)(H:pP s a3 b7 bN)(bI:yl q bN){l:List vZ}{c eG:List aA}{al:List Prop}(h:oJ (oI s.a7 b7 a3 bN) l c=some (eG,al))(bC:∀p∈al,p)
 (a0 : ∀x∈c,q x) {vs:List Value} (aZ:vs.length=c.length) (ak : ∀(j:Nat) x u,c[j]? = some x->vs[j]? = some u->Rel w (s.ok g aD w) s.bi (s.bo aD) x u) :
 eG.length=c.length/\ ∀(j:Nat) x dY,c[j]? = some x->eG[j]? = some dY->j2 s a3 bN q x dY:=by
 obtain⟨e1,e2,bG⟩:=K4 _ l c eG al h;refine⟨e1,fun j x dY U fa=> ?_⟩;obtain⟨y,cD,f1,f2,f3⟩:=bG j x dY U fa;have eS:j<vs.length:=by have:=gD U;omega
 exact Pe eY H bI f2 (fun p ai=>bC p (f3 p ai)) (a0 x (dH U)) (ak j x _ U (dy eS))
theorem Pf (eY:ky g s aD w)(H:pP s a3 b7 bN)(bI:yl q bN){c:FY}{x dY:aA}{al:List Prop}(h:rI s.a7 b7 a3 bN c x=some (dY,al))(bC:∀p∈al,p)
 (a0:q x) {v:Value} (ak:Rel w (s.ok g aD w) s.bi (s.bo aD) x v):j2 s a3 bN q x dY:=by
 cases c with
 | cr c =>
  simp only[rI] at h;split at h;rotate_left
  ·exact Pe eY H bI h bC a0 ak
  rename_i a2;split at h
  ·simp only[dA,dF] at h;obtain⟨rfl,rfl⟩:=h;exact .pure (ak.LV a2) a0
  ·simp only[dA,dF] at h;obtain⟨rfl,rfl⟩:=h;exact .dead _
  ·simp only[dA,dF] at h;obtain⟨rfl,rfl⟩:=h;have e:=bC _ (List.mem_singleton.2 rfl);subst e;exact .pure (ak.LV a2) a0
  exact Pe eY H bI h bC a0 ak
 | agg l =>
  cases x<;>simp only[rI,reduceCtorEq] at h;rename_i c;split at h
  ·rename_i eG qH a1;simp only[dA,dF] at h;obtain⟨rfl,rfl⟩:=h;obtain⟨vs,rfl,aZ,-,I2⟩:=ak.EO;obtain⟨e1,e2⟩:=Hx eY H bI a1 bC (fun y aY=>bI.agg _ _ a0 aY) aZ I2;exact .agg e1 e2
  simp at h
 | ptr l =>
  cases x<;>simp only[rI,reduceCtorEq] at h;rename_i r k i off;split at h;rotate_left
  ·simp at h
  rename_i o an;split at h;rotate_left
  ·simp at h
  rename_i c jP;split at h;rotate_left
  ·simp at h
  rename_i a1;simp only[dO,Option.isNone_iff_eq_none] at a1;split at h;rotate_left
  ·simp at h
  rename_i eG qH jG;simp only[dA,dF] at h;obtain⟨rfl,rfl⟩:=h;have fj:s.al r k=some o:=an;have hx:=eY.obj r k o fj
  cases ai:aD r k with
  | none=>rw[ai] at hx;simp only[lr] at hx;rw[jP] at hx;simp at hx
  | some q =>
   obtain⟨b,m⟩:=q;rw[ai] at hx;obtain⟨c1,f6,g1,g2,g3,g4⟩:=hx;have Qr:c.length=o.sz:=g3 c (by rw[jP];simp);have mg:o.es.flatten=c:=(by rw[jP];simp);have hcs : ∀j:Nat,j<c.length-> ∃u,c1[j]? = some u/\Rel w (s.ok g aD w) s.bi (s.bo aD) c[j]! u:=(by intro j ap;obtain⟨u,k9,-,jh⟩:=g4 j c[j] (by rw[mg];exact dy ap);exact⟨u,k9,by rw[getElem!_pos c j ap];exact jh⟩);obtain⟨e1,e2⟩:=Hx (vs:=(List.range c.length).map fun j=>(c1[j]?).getD undef) eY H bI jG (fun p ai=>bC p (by simp[ai])) (fun y _=>bI.all _ a1.1 y) (by simp) (by intro j y u aY hu;have ap:=gD aY;rw[dK,List.getElem?_range ap] at hu;simp only[arq,dA] at hu;obtain⟨oc,k9,jh⟩:=hcs j ap;rw[k9] at hu;simp at hu;subst hu;rw[dy ap] at aY;simp at aY;subst aY;rw[getElem!_pos c j ap] at jh;exact jh);have xC:j3 [eG]:=bC _ (by simp);refine .gv i off fj a1.1 (H.a2 r a1.2 k o fj a1.1) (by rw[jP];simp) xC (by simp;omega) (by rw[jP];rfl) ?_;intro j y oz aY rk;rw[mg] at aY;simp only[aru,List.flatten_nil,List.append_nil] at rk;exact e2 j y oz aY rk
 | y9 l =>
  simp only[rI] at h;split at h;rotate_left
  ·simp at h
  rename_i r k;split at h;rotate_left
  ·simp at h
  rename_i o an;split at h;rotate_left
  ·simp at h
  rename_i c jP;split at h;rotate_left
  ·simp at h
  rename_i a1;simp only[dO,Option.isNone_iff_eq_none] at a1;split at h;rotate_left
  ·simp at h
  rename_i eG qH jG;simp only[dA,dF] at h;obtain⟨rfl,rfl⟩:=h;have fj:s.al r k=some o:=an;have hx:=eY.obj r k o fj
  cases ai:aD r k with
  | none=>rw[ai] at hx;simp only[lr] at hx;rw[jP] at hx;simp at hx
  | some q =>
   obtain⟨b,m⟩:=q;rw[ai] at hx;obtain⟨c1,f6,g1,g2,g3,g4⟩:=hx;have Qr:c.length=o.sz:=g3 c (by rw[jP];simp);have mg:o.es.flatten=c:=(by rw[jP];simp);have hcs : ∀j:Nat,j<c.length-> ∃u,c1[j]? = some u/\Rel w (s.ok g aD w) s.bi (s.bo aD) c[j]! u:=(by intro j ap;obtain⟨u,k9,-,jh⟩:=g4 j c[j] (by rw[mg];exact dy ap);exact⟨u,k9,by rw[getElem!_pos c j ap];exact jh⟩);obtain⟨e1,e2⟩:=Hx (vs:=(List.range c.length).map fun j=>(c1[j]?).getD undef) eY H bI jG (fun p ai=>bC p (by simp[ai])) (fun y _=>bI.all _ a1.1 y) (by simp) (by intro j y u aY hu;have ap:=gD aY;rw[dK,List.getElem?_range ap] at hu;simp only[arq,dA] at hu;obtain⟨oc,k9,jh⟩:=hcs j ap;rw[k9] at hu;simp at hu;subst hu;rw[dy ap] at aY;simp at aY;subst aY;rw[getElem!_pos c j ap] at jh;exact jh);have xC:j3 [eG]:=bC _ (by simp);refine .hr (.gv 0 0 fj a1.1 (H.a2 r a1.2 k o fj a1.1) (by rw[jP];simp) xC (by simp;omega) (by rw[jP];rfl) ?_);intro j y oz aY rk;rw[mg] at aY;simp only[aru,List.flatten_nil,List.append_nil] at rk;exact e2 j y oz aY rk
theorem HD (eY:ky g s aD w)(H:pP s a3 b7 bN)(bI:yl q bN){c:n9}{x dY:aA}{al:List Prop}(h:qY s.a7 b7 a3 bN c x=some (dY,al))(bC:∀p∈al,p)
 (a0:q x) {v:Value} (ak:Rel w (s.ok g aD w) s.bi (s.bo aD) x v):j2 s a3 bN q x dY:=by
 have key : ∀(l:List FY) (c eG:List aA) (qH:List Prop) (vs:List Value),oJ (rI s.a7 b7 a3 bN) l c=some (eG,qH)->(∀p∈qH,p)->(∀x∈c,q x)->vs.length=c.length ->
  (∀(j:Nat) x u,c[j]? = some x->vs[j]? = some u->Rel w (s.ok g aD w) s.bi (s.bo aD) x u)->eG.length=c.length/\ ∀(j:Nat) x dY,c[j]? = some x->eG[j]? = some dY->j2 s a3 bN q x dY:=by
  intro l c eG qH vs h bC a0 aZ ak;obtain⟨e1,e2,bG⟩:=K4 _ l c eG qH h;refine⟨e1,fun j x dY U fa=> ?_⟩;obtain⟨y,cD,f1,f2,f3⟩:=bG j x dY U fa;have eS:j<vs.length:=(by have:=gD U;omega);exact Pf eY H bI f2 (fun p ai=>bC p (f3 p ai)) (a0 x (dH U)) (ak j x _ U (dy eS))
 cases c with
 | a6 c =>
  simp only[qY] at h;split at h
  ·rename_i a2
   split at h
   ·simp only[dA,dF] at h;obtain⟨rfl,rfl⟩:=h;exact .pure (ak.al4 a2) a0
   exact Pf eY H bI h bC a0 ak
  exact Pf eY H bI h bC a0 ak
 | comp l =>
  cases x<;>simp only[qY,reduceCtorEq] at h
  ·rename_i c
   split at h
   ·rename_i eG qH a1;simp only[dA,dF] at h;obtain⟨rfl,rfl⟩:=h;obtain⟨vs,rfl,aZ,I2⟩:=ak.EP;obtain⟨e1,e2⟩:=key l c eG qH vs a1 bC (fun y aY=>bI.et _ _ a0 aY) aZ I2;exact .et e1 e2
   simp at h
  rename_i f c;split at h
  ·rename_i eG qH a1;simp only[dA,dF] at h;obtain⟨rfl,rfl⟩:=h;obtain⟨vs,rfl,aZ,I2⟩:=ak.LF;obtain⟨e1,e2⟩:=key l c eG qH vs a1 bC (fun y aY=>bI.fn _ _ _ a0 aY) aZ I2;exact .fn e1 e2
  simp at h
theorem ZI (eY:ky g s aD w)(H:pP s a3 b7 bN){r:Nat}{mJ:Nat->Nat}{row:List aR}(eP:∀k o,er (some row) k=some o->s.al r (mJ k)=some o)
 (a0 : ∀k o,er (some row) k=some o-> ∀e∈o.es,∀x∈e,q x) :
 ∀(k:Nat) cD,er (some (row.map (lK b7))) k=some cD-> ∃o,er (some row) k=some o/\rU s a3 bN q o cD:=by
 intro k cD fj;rw[m3,dK] at fj
 cases a4:row[k]? with
 | none=>rw[a4] at fj;simp at fj
 | some o =>
  rw[a4] at fj;simp only[arq,dx] at fj;split at fj
  ·simp at fj
  rename_i d6;simp only[dA] at fj;subst fj;have an:er (some row) k=some o:=(by rw[m3,a4,dx,dB (by simpa [lK] using d6)]);have bS:s.al r (mJ k)=some o:=eP k o an;refine⟨o,an,?_⟩;have hx:=eY.obj r (mJ k) o bS
  have hlen : ∀e∈o.es,e.length=o.sz:=by
   cases ai:aD r (mJ k) with
   | none=>rw[ai] at hx;simp only[lr] at hx;rw[hx];simp
   | some q=>rw[ai] at hx;obtain⟨_,_,_,_,e,_⟩:=hx;exact e
  refine⟨rfl,.inl rfl,by simp[lK],?_,fun j x dY U fa=> ?_⟩
  ·intro e he;simp only[lK,List.mem_map] at he;obtain⟨fA,o2,rfl⟩:=he;simpa using hlen fA o2
  simp only[lK] at fa;rw[map_flatten,dK,U] at fa;simp only[arq,dA] at fa;subst fa;obtain⟨e,he,u4⟩:=xc U;have anf:=a0 k o an e he x u4
  cases ai:aD r (mJ k) with
  | none=>rw[ai] at hx;simp only[lr] at hx;rw[hx] at U;simp at U
  | some yk =>
   obtain⟨b,m⟩:=yk;rw[ai] at hx;obtain⟨c,f6,f1,f2,f3,f4⟩:=hx;obtain⟨u,k9,nP,jh⟩:=f4 j x U
   cases x with
   | ref r2 kh i2 amz =>
    cases cv:b7 r2 with
    | none=>simp only[p8,cv];exact .dead _
    | some rn=>simp only[p8,cv];exact .ref i2 amz (H.aa _ _ cv _) (by cases jh<;>assumption)
   | bw r2 kh My L9 =>
    cases cv:b7 r2 with
    | none=>simp only[p8,cv];exact .dead _
    | some rn=>simp only[p8,cv];exact .bw My L9 (H.aa _ _ cv _) (by cases jh<;>assumption)
   | k8 r2 cw aaw h2 =>
    cases cv:b7 r2 with
    | none=>simp only[p8,cv];exact .dead _
    | some rn=>simp only[p8,cv];exact .k8 h2 (fun k=>H.aa _ _ cv _)
   | _ =>
    simp only[p8];split
    ·rename_i a2;exact .pure (jh.E8 a2) anf
    exact .dead _
theorem K5 (eY:ky g s aD w)(H:pP s a3 b7 bN)(bI:yl q bN){c:kg}{r:Nat}{mJ:Nat->Nat}{row e8:List aR}{al:List Prop}(eP:∀k o,er (some row) k=some o->s.al r (mJ k)=some o)
 (h:ls s.a7 b7 a3 bN c row=some (e8,al)) (bC : ∀p∈al,p) (a0 : ∀k o,er (some row) k=some o-> ∀e∈o.es,∀x∈e,q x) :
 e8.length=row.length/\(∀k o,er (some row) k=some o->o.cY = .live) /\
 ∀(k:Nat) cD,er (some e8) k=some cD-> ∃o,er (some row) k=some o/\rU s a3 bN q o cD:=by
 have hlen : ∀k o,er (some row) k=some o-> ∀e∈o.es,e.length=o.sz:=by
  intro k o an;have fj:s.al r (mJ k)=some o:=eP k o an;have hx:=eY.obj r (mJ k) o fj
  cases ai:aD r (mJ k) with
  | none=>rw[ai] at hx;simp only[lr] at hx;rw[hx];simp
  | some q=>rw[ai] at hx;obtain⟨_,_,_,_,e,_⟩:=hx;exact e
 have xC:yL row->(∀k o,er (some row) k=some o->o.cY = .live) /\
  ∀(k:Nat) cD,er (some row) k=some cD-> ∃o,er (some row) k=some o/\rU s a3 bN q o cD:=by
  intro ai
  have wL : ∀k o,er (some row) k=some o->o∈row:=by
   intro k o an;unfold er at an;simp only at an;split at an
   ·rename_i cD fj
    split at an
    ·simp at an
    simp at an;subst an;exact dH fj
   simp at an
  refine⟨fun k o an=>(ai o (wL k o an)).2,fun k o an=>⟨o,an,rfl,.inl rfl,rfl,hlen k o an,fun j x dY U fa=> ?_⟩⟩;rw[U] at fa;simp at fa;subst fa;obtain⟨e,he,u4⟩:=xc U;exact .pure ((ai o (wL k o an)).1 e he x u4) (a0 k o an e he x u4)
 cases c with
 | pure =>
  simp only[ls,dA,dF] at h;obtain⟨rfl,rfl⟩:=h;exact⟨rfl,xC (bC _ (by simp))⟩
 | cM aJ =>
  simp only[ls,dA,dF] at h;obtain⟨rfl,rfl⟩:=h;have e:row=aJ:=bC _ (by simp);subst e;exact⟨rfl,xC (bC _ (by simp))⟩
 | bq aJ =>
  simp only[ls,dA,dF] at h;obtain⟨rfl,rfl⟩:=h;have e:aJ=row.map (lK b7):=bC _ (by simp);have QU:mP row:=bC _ (by simp);subst e
  refine⟨by simp,fun k o an=>by
   unfold er at an;simp only at an;split at an
   ·rename_i cD fj
    split at an
    ·simp at an
    rename_i d6;simp at an;subst an;exact(QU _ (dH fj)).resolve_right d6
   simp at an,ZI eY H eP a0⟩
 | rx aJ=>cases row with
  | nil=>simp[ls] at h
  | cons o l=>cases l<;>simp[ls] at h
 | drop=>cases row with
  | nil=>simp[ls] at h
  | cons o l=>cases l<;>simp[ls] at h
 | box l =>
  match row,h with
  | [o],h =>
   simp only[ls] at h;split at h;rotate_left
   ·simp at h
   rename_i c jP;split at h;rotate_left
   ·simp at h
   rename_i ri;split at h;rotate_left
   ·simp at h
   rename_i eG qH a1;simp only[dA,dF] at h;obtain⟨rfl,rfl⟩:=h;have h0:er (some [o]) 0=some o:=(by rw[pb];simp[ri]);refine⟨rfl,fun k p ai=> ?_,fun k p ai=> ?_⟩
   ·rw[pb] at ai
    split at ai
    ·simp at ai;subst ai;exact ri
    simp at ai
   rw[pb] at ai;split at ai;rotate_left
   ·simp at ai
   rename_i wQ;obtain⟨rfl,-⟩:=wQ;simp only[dA] at ai;subst ai;refine⟨o,h0,?_⟩;have fj:s.al r (mJ 0)=some o:=eP 0 o h0;have hx:=eY.obj r (mJ 0) o fj
   cases m5:aD r (mJ 0) with
   | none=>rw[m5] at hx;simp only[lr] at hx;rw[jP] at hx;simp at hx
   | some q =>
    obtain⟨b,m⟩:=q;rw[m5] at hx;obtain⟨c1,f6,g1,g2,g3,g4⟩:=hx;have Qr:c.length=o.sz:=g3 c (by rw[jP];simp);have mg:o.es.flatten=c:=(by rw[jP];simp);obtain⟨e1,e2⟩:=Hx (vs:=(List.range c.length).map fun j=>(c1[j]?).getD undef) eY H bI a1 bC (fun y aY=>a0 0 o h0 c (by rw[jP];simp) y aY) (by simp) (by intro j y u aY hu;have ap:=gD aY;rw[dK,List.getElem?_range ap] at hu;simp only[arq,dA] at hu;obtain⟨oc,k9,-,jh⟩:=g4 j y (by rw[mg];exact aY);rw[k9] at hu;simp at hu;subst hu;exact jh);refine⟨rfl,.inl rfl,by simp[jP],by simp;omega,fun j x dY U fa=> ?_⟩;rw[mg] at U;simp only[aru,List.flatten_nil,List.append_nil] at fa;exact e2 j x dY U fa
  | [],h=>simp[ls] at h
  | _::_::_,h=>simp[ls] at h
end
def K6 (P:Program)(f:FuncId):Prop:= ∃fn,P.funcs[f]? = some fn/\(fn.name == "runtime.NumGoroutine")=false/\fn.body.isSome=true
def Con (P:Program)(f:FuncId)(args:List aA)(T:List (List aR))(r:aA)(i5:List (List aR)):Prop:=K6 P f/\al1 P f args T r i5
def xD (k:hU):Bool:=k = .li
def k6 (_:hU):Bool:=true
def nI (_:hU):Bool:=false
def Src.r:Src->Nat
 | .row r=>r
 | .al r _ _=>r
def Src.has:Src->Nat->Nat->Prop
 | .row r,q,_=>q=r
 | .al r k _,q,eh=>q=r/\eh=k
def Src.mY:Src->Nat->Nat
 | .row _,k=>k
 | .al ..,_=>0
def lL (l:List Src):iP:=fun j i=>match l[j]? with
 | some (.row r)=>some (r,i)
 | some (.al r k _)=>if i=0 then some (r,k) else none
 | none=>none
def sx (n:Nat):List Src->Nat->Option Nat
 | [],_=>none
 | .row r::l,q=>if r=q then some n else sx (n+1) l q
 | .al .. :: l,q=>sx (n+1) l q
def lM (n:Nat):List Src->iP
 | [],_,_=>none
 | .row r::l,q,k=>if q=r then some (n,k) else lM (n+1) l q k
 | .al r eh _::l,q,k=>if q=r/\k=eh then some (n,0) else lM (n+1) l q k
def xE (l:List Src):Nat->Option Nat:=fun j=>match l[j]? with
 | some (.row r)=>some r
 | _=>none
def apart:Src->Src->Option (List Prop)
 | .al r k _,.al fN eh _=>if r=fN then some [k≠eh] else some []
 | a,b=>if a.r=b.r then none else some []
def LH (a:Src):List Src->Option (List Prop)
 | []=>some []
 | b::l=>match apart a b,LH a l with
  | some x,some y=>some (x++y)
  | _,_=>none
def LW:List Src->Option (List Prop)
 | []=>some []
 | a::l=>match LH a l,LW l with
  | some x,some y=>some (x++y)
  | _,_=>none
def IB (l:List Src):Prop:=l.Pairwise fun a b=> ∀r k,¬(a.has r k/\b.has r k)
theorem ajt {a b:Src}{al:List Prop}(h:apart a b=some al)(bC:∀p∈al,p): ∀r k,¬(a.has r k/\b.has r k):=by
 rintro r k ⟨h1,h2⟩
 have ak : ∀c:Src,c.has r k->c.r=r:=fun c a1=>by
  cases c with
  | row r0=>exact Eq.symm a1
  | al r0 lB oB=>exact Eq.symm a1.1
 have e:=(ak a h1).trans (ak b h2).symm
 cases a with
 | row r0=>simp only[apart] at h;rw[dz e] at h;simp at h
 | al r0 lB oB =>
  cases b with
  | row r1=>simp only[apart] at h;rw[dz e] at h;simp at h
  | al r1 k0 cf =>
   simp only[apart] at h;rw[dz (show r0=r1 from e)] at h;simp only[dA] at h;subst h;exact bC _ (List.mem_singleton.2 rfl) (h1.2.symm.trans h2.2)
theorem Xg {a:Src}: ∀ {l:List Src} {al:List Prop},LH a l=some al->(∀p∈al,p)-> ∀b∈l,∀r k,¬(a.has r k/\b.has r k)
 | [],_,_,_,_,aO=>by simp at aO
 | b::l,al,h,bC,c,a1=>by
  simp only[LH] at h;split at h
  ·rename_i x y h1 h2
   simp only[dA] at h;subst h;rcases dR.1 a1 with rfl|a1
   ·exact ajt h1 fun p ai=>bC p (by simp[ai])
   exact Xg h2 (fun p ai=>bC p (by simp[ai])) c a1
  simp at h
theorem XP : ∀ {l:List Src} {al:List Prop},LW l=some al->(∀p∈al,p)->IB l
 | [],_,_,_=>List.Pairwise.nil
 | a::l,al,h,bC=>by
  simp only[LW] at h;split at h
  ·rename_i x y h1 h2;simp only[dA] at h;subst h;exact List.pairwise_cons.2 ⟨Xg h1 fun p ai=>bC p (by simp[ai]),XP h2 fun p ai=>bC p (by simp[ai])⟩
  simp at h
theorem yM {l:List Src}{j i r k:Nat}:lL l j i=some (r,k)↔ ∃a,l[j]? = some a/\a.has r k/\i=a.mY k:=by
 unfold lL
 cases h:l[j]? with
 | none=>simp
 | some a =>
  cases a with
  | row r0 =>
   simp only[dA,dF,exists_eq_left',Src.has,Src.mY];constructor<;>rintro⟨a,b⟩<;>exact⟨a.symm,b⟩
  | al r0 lB o =>
   simp only[dA,exists_eq_left',Src.has,Src.mY];by_cases e:i=0
   ·rw[dz e];simp only[dA,dF,e,and_true];constructor<;>rintro⟨a,b⟩<;>exact⟨a.symm,b.symm⟩
   rw[dB e];simp[e]
theorem AJ : ∀ {l:List Src} {n r k j i:Nat},lM n l r k=some (j,i)-> ∃a,n<=j/\l[j-n]? = some a/\a.has r k/\i=a.mY k
 | [],_,_,_,_,_,h=>by simp[lM] at h
 | .row r0::l,n,r,k,j,i,h=>by
  simp only[lM] at h;split at h
  ·rename_i e;simp only[dA,dF] at h;obtain⟨rfl,rfl⟩:=h;exact⟨.row r0,dE _,by simp,e,rfl⟩
  obtain⟨a,h1,h2,R,aj⟩:=AJ h;exact⟨a,by omega,by rw[show j-n=(j-(n+1))+1 by omega,List.getElem?_cons_succ];exact h2,R,aj⟩
 | .al r0 lB o::l,n,r,k,j,i,h=>by
  simp only[lM] at h;split at h
  ·rename_i e;simp only[dA,dF] at h;obtain⟨rfl,rfl⟩:=h;exact⟨.al r0 lB o,dE _,by simp,e,rfl⟩
  obtain⟨a,h1,h2,R,aj⟩:=AJ h;exact⟨a,by omega,by rw[show j-n=(j-(n+1))+1 by omega,List.getElem?_cons_succ];exact h2,R,aj⟩
theorem wq (n:Nat)(a:Src)(l:List Src)(r k:Nat)(h:¬a.has r k):lM n (a::l) r k=lM (n+1) l r k:=by cases a<;>simp only[lM,Src.has] at h ⊢ <;> rw[dB h]
theorem aju (n:Nat)(a:Src)(l:List Src)(r k:Nat)(h:a.has r k):lM n (a::l) r k=some (n,a.mY k):=by cases a<;>simp only[lM,Src.has,Src.mY] at h ⊢ <;> rw[dz h]
theorem HW : ∀ {l:List Src} {n r k j:Nat} {a:Src},IB l->l[j]? = some a->a.has r k->lM n l r k=some (n+j,a.mY k)
 | b::l,n,r,k,0,a,_,h,bH=>by simp at h;subst h;exact aju n b l r k bH
 | b::l,n,r,k,j+1,a,bI,h,bH=>by simp at h;have bI:=List.pairwise_cons.1 bI;rw[wq n b l r k fun aO=>bI.1 a (dH h) r k ⟨aO,bH⟩,HW (j:=j) bI.2 h bH];congr 2;omega
theorem alg {a:Src}{r k fN eh:Nat}(h:a.has r k)(dc:a.has fN eh)(e:a.mY k=a.mY eh):r=fN/\k=eh:=by cases a<;>simp only[Src.has,Src.mY] at h dc e<;>omega
theorem aku {l:List Src}{n r k fN eh:Nat}{p:Nat×Nat}(h:lM n l r k=some p)(dc:lM n l fN eh=some p):r=fN/\k=eh:=by obtain⟨j,i⟩:=p;obtain⟨a,h1,h2,R,aj⟩:=AJ h;obtain⟨eK,u3,QV,ang,aqn⟩:=AJ dc;rw[h2] at QV;simp at QV;subst QV;exact alg R ang (by omega)
theorem O0 : ∀ {l:List Src} {n r j:Nat},sx n l r=some j->n<=j/\l[j-n]? = some (.row r)
 | [],_,_,_,h=>by simp[sx] at h
 | .row r0::l,n,r,j,h=>by
  simp only[sx] at h;split at h
  ·rename_i e;simp at h;subst h;subst e;exact⟨dE _,by simp⟩
  obtain⟨h1,h2⟩:=O0 h;exact⟨by omega,by rw[show j-n=(j-(n+1))+1 by omega,List.getElem?_cons_succ];exact h2⟩
 | .al r0 lB o::l,n,r,j,h=>by simp only[sx] at h;obtain⟨h1,h2⟩:=O0 h;exact⟨by omega,by rw[show j-n=(j-(n+1))+1 by omega,List.getElem?_cons_succ];exact h2⟩
def pf (a7:Nat->Option (List aR))(b7:Nat->Option Nat)(a3:iP):List Src->List kg->Option (List (List aR)×List Prop)
 | [],[]=>some ([],[])
 | .row r::l,c::di=>match a7 r with
  | some row=>match ls a7 b7 a3 xD c row,pf a7 b7 a3 l di with
   | some (e8,cf),some (T,aU)=>some (e8::T,cf++aU)
   | _,_=>none
  | none=>none
 | .al r k o::l,c::di=>match a7 r with
  | some row=>match ls a7 b7 a3 xD c [o],pf a7 b7 a3 l di with
   | some (e8,cf),some (T,aU)=>some (e8::T,(er (some row) k=some o)::(cf++aU))
   | _,_=>none
  | none=>none
 | _,_=>none
def nS (B6:Nat->Option (List aR))(b7:Nat->Option Nat)(nC:iP):(Nat->Option (List aR))->List Src->List kg->List (List aR)->Option (List (Nat×List aR)×List Prop)
 | _,[],[],[]=>some ([],[])
 | a7,.row q::l,c::di,row::T=>match ls B6 b7 nC nI c row with
  | some (e8,cf)=>match nS B6 b7 nC (fun x=>if x=q then some e8 else a7 x) l di T with
   | some (u,aU)=>some ((q,e8)::u,cf++aU)
   | none=>none
  | none=>none
 | a7,.al q k _::l,c::di,row::T=>match a7 q with
  | some oN=>match ls B6 b7 nC nI c row with
   | some ([cD],cf)=>match nS B6 b7 nC (fun x=>if x=q then some (oN.set k cD) else a7 x) l di T with
    | some (u,aU)=>some ((q,oN.set k cD)::u,cf++aU)
    | none=>none
   | _=>none
  | none=>none
 | _,_,_,_=>none
def nM (T:List (List aR)):Prop:= ∀row∈T,∀o∈row,∀e∈o.es,∀x∈e,bD x
def E9 (P:Program)(a7:Nat->Option (List aR))(a8:Nat)(f:FuncId)(args:List aA)(c1:B4):Option jX :=
 let l:=if c1.eU.length=c1.a3.length then c1.a3 else c1.a3++[.row a8]
 match LW c1.a3 with
 | none=>none
 | some oB =>
  if c1.a3.any (fun a=>decide (a.r=a8)) then none else
  if c1.d4 then
   match c1.a3 with
   | [] =>
    match oJ (qY a7 (fun _=>none) (lL []) k6) c1.ac args,qY (fun j=>c1.eU[j]?) (xE l) (lM 0 l) nI c1.f7 c1.r,
     nS (fun j=>c1.eU[j]?) (xE l) (lM 0 l) a7 l c1.gK c1.eU with
    | some (uS,cf),some (fN,e9),some (u,eV)=>some {val:=fN,hN:=u,gV:=cf++e9++eV++[Con P f uS [] c1.r c1.eU,bD c1.r]++(if c1.eU.isEmpty then [] else [nM c1.eU])}
    | _,_,_=>none
   | _=>none
  else
   match oJ (qY a7 (sx 0 c1.a3) (lL c1.a3) xD) c1.ac args,pf a7 (sx 0 c1.a3) (lL c1.a3) c1.a3 c1.di,
    qY (fun j=>c1.eU[j]?) (xE l) (lM 0 l) nI c1.f7 c1.r,nS (fun j=>c1.eU[j]?) (xE l) (lM 0 l) a7 l c1.gK c1.eU with
   | some (uS,cf),some (T,aU),some (fN,e9),some (u,eV) =>
    some {val:=fN,hN:=u,gV:=oB++cf++aU++e9++eV++[Con P f uS T c1.r c1.eU]}
   | _,_,_,_=>none
theorem WL {a7:Nat->Option (List aR)}{b7:Nat->Option Nat}{a3:iP}{bN:hU->Bool}{c:kg}{row e8:List aR}{al:List Prop}(h:ls a7 b7 a3 bN c row=some (e8,al))(bC:∀p∈al,p):
 ∀k o,er (some row) k=some o->o.cY = .live:=by
 have wL : ∀k o,er (some row) k=some o->o∈row/\o.cY≠ .gone:=by
  intro k o an;rw[m3] at an
  cases a4:row[k]? with
  | none=>rw[a4] at an;simp at an
  | some p =>
   rw[a4,dx] at an;split at an
   ·simp at an
   rename_i e;simp at an;subst an;exact⟨dH a4,e⟩
 intro k o an;obtain⟨h1,h2⟩:=wL k o an
 cases c with
 | pure =>
  simp only[ls,dA,dF] at h;obtain⟨rfl,rfl⟩:=h;exact((bC _ (List.mem_singleton.2 rfl):yL row) o h1).2
 | cM aJ =>
  simp only[ls,dA,dF] at h;obtain⟨rfl,rfl⟩:=h;have e:row=aJ:=bC _ (by simp);have ai:yL aJ:=bC _ (by simp);exact(ai o (e▸h1)).2
 | bq aJ =>
  simp only[ls,dA,dF] at h;obtain⟨rfl,rfl⟩:=h;have ai:mP row:=bC _ (by simp);exact(ai o h1).resolve_right h2
 | rx aJ=>cases row with
  | nil=>simp[ls] at h
  | cons o l=>cases l<;>simp[ls] at h
 | drop=>cases row with
  | nil=>simp[ls] at h
  | cons o l=>cases l<;>simp[ls] at h
 | box l =>
  match row,h,h1 with
  | [p],h,h1 =>
   simp only[ls] at h;rw[List.mem_singleton] at h1;subst h1;split at h
   ·split at h
    ·rename_i e;exact e
    simp at h
   simp at h
  | [],h,_=>simp[ls] at h
  | _::_::_,h,_=>simp[ls] at h
section
variable {P:Program} {g:G} {s:S} {aD:g9} {a:Act} {w:World}
theorem O1 (eY:ky g s aD w){a3:iP}{b7:Nat->Option Nat}(H:pP s a3 b7 xD): ∀(l:List Src) (di:List kg) (T:List (List aR)) (al:List Prop),
 pf s.a7 b7 a3 l di=some (T,al)->(∀p∈al,p)->T.length=l.length/\ ∀(j:Nat) e8 b,T[j]? = some e8->l[j]? = some b ->
  (∀r k o,b.has r k->s.al r k=some o->o.cY = .live)/\(∀r k,b.has r k->s.bi r k->b.mY k<e8.length) /\
  (∀r k o,b = .al r k o->s.al r k=some o) /\
  ∀(i:Nat) cD,er (some e8) i=some cD-> ∃r k o,b.has r k/\i=b.mY k/\s.al r k=some o/\rU s a3 xD o5 o cD
 | [],[],T,al,h,_=>by simp[pf] at h;obtain⟨rfl,rfl⟩:=h;exact⟨rfl,fun j e8 r ap=>by simp at ap⟩
 | .row r::l,c::di,T,al,h,bC=>by
  simp only[pf] at h;split at h;rotate_left
  ·simp at h
  rename_i row eP;split at h;rotate_left
  ·simp at h
  rename_i aB cf qi aU h1 h2;simp only[dA,dF] at h;obtain⟨rfl,rfl⟩:=h;obtain⟨e1,e2⟩:=O1 eY H l di qi aU h2 (fun p ai=>bC p (by simp[ai]));have l3 : ∀k,s.al r k=er (some row) k:=fun k=>(by unfold S.al;rw[eP]);obtain⟨f0,f1,f2⟩:=K5 (q:=o5) (mJ:=id) eY H (zo _) (fun k o an=>(l3 k).trans an) h1 (fun p ai=>bC p (by simp[ai])) (fun _ _ _ _ _ _ _=>trivial);refine⟨by simp[e1],fun j e8 b ap aO=> ?_⟩
  cases j with
  | zero =>
   simp at ap aO;subst ap;subst aO;refine⟨fun q k o a0 an=> ?_,fun q k a0 hu=> ?_,fun _ _ _ e=>by simp at e,fun i cD fj=> ?_⟩
   ·have a0:q=r:=a0;subst a0;rw[l3] at an;exact f1 k o an
   ·have a0:q=r:=a0;subst a0;rw[f0];simpa [S.bi,eP,Src.mY] using hu
   obtain⟨o,g1,g2⟩:=f2 i cD fj;exact⟨r,i,o,rfl,rfl,(l3 i).trans g1,g2⟩
  | succ j=>simp at ap aO;exact e2 j e8 b ap aO
 | .al r lB oB::l,c::di,T,al,h,bC=>by
  simp only[pf] at h;split at h;rotate_left
  ·simp at h
  rename_i row eP;split at h;rotate_left
  ·simp at h
  rename_i aB cf qi aU h1 h2;simp only[dA,dF] at h;obtain⟨rfl,rfl⟩:=h;obtain⟨e1,e2⟩:=O1 eY H l di qi aU h2 (fun p ai=>bC p (by simp[ai]));have an:s.al r lB=some oB:=by unfold S.al;rw[eP];exact bC _ (by simp)
  have o0 : ∀k o,er (some [oB]) k=some o->k=0/\o=oB:=fun k o a4=>by
   rw[pb] at a4;split at a4
   ·rename_i e;simp at a4;exact⟨e.1,a4.symm⟩
   simp at a4
  have QW:oB.cY≠ .gone:=by
   unfold S.al at an;rw[eP,m3] at an
   cases a4:row[lB]? with
   | none=>rw[a4] at an;simp at an
   | some p =>
    rw[a4,dx] at an;split at an
    ·simp at an
    rename_i e;simp at an;subst an;exact e
  obtain⟨f0,f1,f2⟩:=K5 (q:=o5) (mJ:=fun _=>lB) (r:=r) eY H (zo _) (fun k o a4=>by rw[(o0 k o a4).2];exact an) h1 (fun p ai=>bC p (by simp[ai])) (fun _ _ _ _ _ _ _=>trivial);refine⟨by simp[e1],fun j e8 b ap aO=> ?_⟩
  cases j with
  | zero =>
   simp at ap aO;subst ap;subst aO;refine⟨fun q k o a0 tY=> ?_,fun q k a0 hu=> ?_,fun fN eh cD e=> ?_,fun i cD fj=> ?_⟩
   ·obtain⟨rfl,rfl⟩:q=r/\k=lB:=a0;rw[an] at tY;simp at tY;subst tY;exact f1 0 oB (by rw[pb];simp[QW])
   ·rw[f0];simp[Src.mY]
   ·cases e;exact an
   obtain⟨o,g1,g2⟩:=f2 i cD fj;obtain⟨rfl,rfl⟩:=o0 i o g1;exact⟨r,lB,o,⟨rfl,rfl⟩,rfl,an,g2⟩
  | succ j=>simp at ap aO;exact e2 j e8 b ap aO
 | [],_::_,_,_,h,_=>by simp[pf] at h
 | .row _::_,[],_,_,h,_=>by simp[pf] at h
 | .al .. :: _,[],_,_,h,_=>by simp[pf] at h
theorem OS {hs:G}{s1:S}{nO:g9}{b5:World}(eY:ky hs s1 nO b5){nC:iP}{q:aA->Prop}{b7:Nat->Option Nat}(H:pP s1 nC b7 nI)(bI:yl q nI)
 (a0 : ∀j i o,s1.al j i=some o-> ∀e∈o.es,∀x∈e,q x) :
 ∀(l:List Src) (di:List kg) (T:List (List aR)) (u:List (Nat×List aR)) (al:List Prop) (n:Nat) (s:S),IB l->(∀j row,T[j]? = some row->s1.a7 (n+j)=some row) ->
 (∀r k j i,lM n l r k=some (j,i)->s.bi r k->s1.bi j i)->(∀r k o,Src.al r k o∈l->s.bi r k) ->
 nS s1.a7 b7 nC s.a7 l di T=some (u,al)->(∀p∈al,p)->T.length=l.length/\(s.ko u).E=s.E /\
  (∀r k o,(s.ko u).al r k=some o->(∃j i p,lM n l r k=some (j,i)/\s1.al j i=some p/\rU s1 nC nI q p o)\/(lM n l r k=none/\s.al r k=some o)) /\
  (∀r k,s.bi r k->(s.ko u).bi r k)/\(∀r k j i,lM n l r k=some (j,i)->s1.bi j i->(s.ko u).bi r k)
 | [],[],[],u,al,n,s,_,_,_,_,h,_=>by simp[nS] at h;obtain⟨rfl,rfl⟩:=h;exact⟨rfl,rfl,fun r k o an=> .inr ⟨rfl,an⟩,fun r k h=>h,fun r k j i h=>by simp[lM] at h⟩
 | .row q0::l,c::di,row::T,u,al,n,s,vf,iz,hu,vN,h,bC=>by
  simp only[nS] at h;split at h;rotate_left
  ·simp at h
  rename_i e8 cf h1;split at h;rotate_left
  ·simp at h
  rename_i nP aU h2;simp only[dA,dF] at h;obtain⟨rfl,rfl⟩:=h;have I3:=List.pairwise_cons.1 vf;have kq:s1.a7 n=some row:=iz 0 row rfl;have Bv : ∀k,s1.al n k=er (some row) k:=fun k=>(by unfold S.al;rw[kq]);obtain⟨f0,f1,f2⟩:=K5 (q:=q) (mJ:=id) (r:=n) eY H bI (fun k o an=>(Bv k).trans an) h1 (fun p ai=>bC p (by simp[ai])) (fun k o an=>a0 n k o ((Bv k).trans an));have iD : ∀k j i,lM (n+1) l q0 k≠some (j,i):=fun k j i hm=>by obtain⟨b,jS,iV,tp,RI⟩:=AJ hm;exact I3.1 b (dH iV) q0 k ⟨rfl,tp⟩
  have Fj : ∀r k,s.bi r k->(s.setRow q0 e8).bi r k:=fun r k a4=>by
   rw[qq];by_cases e:r=q0
   ·subst e;rw[dz rfl,f0];have:=hu r k n k (by simp[lM]) a4;simpa [S.bi,kq] using this
   rw[dB e];exact a4
  obtain⟨e1,e2,bG,cR,dd⟩:=OS eY H bI a0 l di T nP aU (n+1) (s.setRow q0 e8) I3.2 (fun j row ap=>by rw[Nat.add_assoc,Nat.add_comm 1 j];exact iz (j+1) row (by simpa using ap))
   (fun r k j i hm a4=>by have dX:r≠q0:=(by rintro rfl;exact iD _ _ _ hm);refine hu r k j i ?_ (by rw[qq,dB dX] at a4;exact a4);rw[wq n (.row q0) l r k dX];exact hm)
   (fun r k o hm=>Fj r k (vN r k o (by simp[hm]))) h2 (fun p ai=>bC p (by simp[ai]))
  refine⟨by simp[e1],e2,fun r k o an=> ?_,fun r k a4=>cR r k (Fj r k a4),fun r k j i hm a4=> ?_⟩
  ·rcases bG r k o an with ⟨j,i,p,jS,iV,tp⟩|⟨jS,iV⟩
   ·have dX:r≠q0:=(by rintro rfl;exact iD _ _ _ jS);exact .inl ⟨j,i,p,by rw[wq n (.row q0) l r k dX];exact jS,iV,tp⟩
   rw[oE] at iV;by_cases e:r=q0
   ·subst e;rw[dz rfl] at iV;obtain⟨p,g1,g2⟩:=f2 k o iV;exact .inl ⟨n,k,p,by simp[lM],(Bv k).trans g1,g2⟩
   rw[dB e] at iV;exact .inr ⟨by rw[wq n (.row q0) l r k e];exact jS,iV⟩
  by_cases e:r=q0
  ·subst e;simp only[lM,if_true] at hm;simp only[dA,dF] at hm;obtain⟨rfl,rfl⟩:=hm;refine cR r k ?_;rw[qq,dz rfl,f0];simpa [S.bi,kq] using a4
  rw[wq n (.row q0) l r k e] at hm;exact dd r k j i hm a4
 | .al q0 lB oB::l,c::di,row::T,u,al,n,s,vf,iz,hu,vN,h,bC=>by
  simp only[nS] at h;split at h;rotate_left
  ·simp at h
  rename_i oN Ma;split at h;rotate_left
  ·simp at h
  rename_i cD cf h1;split at h;rotate_left
  ·simp at h
  rename_i nP aU h2;simp only[dA,dF] at h;obtain⟨rfl,rfl⟩:=h;have I3:=List.pairwise_cons.1 vf;have kq:s1.a7 n=some row:=iz 0 row rfl;have Bv : ∀k,s1.al n k=er (some row) k:=fun k=>(by unfold S.al;rw[kq]);obtain⟨f0,f1,f2⟩:=K5 (q:=q) (mJ:=id) (r:=n) eY H bI (fun k o an=>(Bv k).trans an) h1 (fun p ai=>bC p (by simp[ai])) (fun k o an=>a0 n k o ((Bv k).trans an));have iD : ∀j i,lM (n+1) l q0 lB≠some (j,i):=fun j i hm=>(by obtain⟨b,jS,iV,tp,RI⟩:=AJ hm;exact I3.1 b (dH iV) q0 lB ⟨⟨rfl,rfl⟩,tp⟩);have Fj : ∀r k,s.bi r k->(s.setRow q0 (oN.set lB cD)).bi r k:=KA s Ma (by simp);have wQ:lB<oN.length:=by have:=vN q0 lB oB (by simp);simpa [S.bi,Ma] using this
  obtain⟨e1,e2,bG,cR,dd⟩:=OS eY H bI a0 l di T nP aU (n+1) (s.setRow q0 (oN.set lB cD)) I3.2 (fun j row ap=>by rw[Nat.add_assoc,Nat.add_comm 1 j];exact iz (j+1) row (by simpa using ap))
   (fun r k j i hm a4=>by
     have dX : ¬(Src.al q0 lB oB).has r k:=(by rintro⟨rfl,rfl⟩;exact iD _ _ hm);refine hu r k j i (by rw[wq n _ l r k dX];exact hm) ?_;rw[qq] at a4;split at a4
     ·rename_i e;subst e;simpa [S.bi,Ma] using a4
     exact a4)
   (fun r k o hm=>Fj r k (vN r k o (by simp[hm]))) h2 (fun p ai=>bC p (by simp[ai]))
  refine⟨by simp[e1],e2,fun r k o an=> ?_,fun r k a4=>cR r k (Fj r k a4),fun r k j i hm a4=> ?_⟩
  ·rcases bG r k o an with ⟨j,i,p,jS,iV,tp⟩|⟨jS,iV⟩
   ·have dX : ¬(Src.al q0 lB oB).has r k:=(by rintro⟨rfl,rfl⟩;exact iD _ _ jS);exact .inl ⟨j,i,p,by rw[wq n _ l r k dX];exact jS,iV,tp⟩
   rw[oE] at iV;by_cases e:r=q0
   ·subst e
    rw[dz rfl,m3,art] at iV;by_cases e2:lB=k
    ·subst e2;rw[dz rfl,dz wQ,dx] at iV;have tp:er (some [cD]) 0=some o:=(by rw[m3];exact iV);obtain⟨p,g1,g2⟩:=f2 0 o tp;exact .inl ⟨n,0,p,by simp[lM],(Bv 0).trans g1,g2⟩
    rw[dB e2] at iV;have dX : ¬(Src.al r lB oB).has r k:=(by rintro⟨-,rfl⟩;exact e2 rfl);exact .inr ⟨by rw[wq n _ l r k dX];exact jS,by unfold S.al;rw[Ma,m3];exact iV⟩
   rw[dB e] at iV;have dX : ¬(Src.al q0 lB oB).has r k:=(by rintro⟨rfl,-⟩;exact e rfl);exact .inr ⟨by rw[wq n _ l r k dX];exact jS,iV⟩
  by_cases e:(Src.al q0 lB oB).has r k
  ·obtain⟨rfl,rfl⟩:=e;exact cR r k (Fj r k (vN r k oB (by simp)))
  rw[wq n _ l r k e] at hm;exact dd r k j i hm a4
 | [],[],_::_,_,_,_,_,_,_,_,_,h,_=>by simp[nS] at h
 | [],_::_,_,_,_,_,_,_,_,_,_,h,_=>by simp[nS] at h
 | .row _::_,[],_,_,_,_,_,_,_,_,_,h,_=>by simp[nS] at h
 | .al .. :: _,[],_,_,_,_,_,_,_,_,_,h,_=>by simp[nS] at h
 | .row _::_,_::_,[],_,_,_,_,_,_,_,_,h,_=>by simp[nS] at h
 | .al .. :: _,_::_,[],_,_,_,_,_,_,_,_,h,_=>by simp[nS] at h
theorem XQ (h:dZ g s aD a w){a8:Nat}(gi:s.a7 a8=none){f:FuncId}{args:List aA}{c1:B4}{l:List Src}(qG:l=if c1.eU.length=c1.a3.length then c1.a3 else c1.a3++[.row a8])
 (vf:IB c1.a3) (BG : ∀a∈c1.a3,a.r≠a8) {bN:hU->Bool} {A:Nat->Prop} {q:aA->Prop} {T:List (List aR)} {b7:Nat->Option Nat}
 (hA : ∀b,A b->b<w.heap.size) (QR : ∀b,s.ok g aD w b->A b) (QS : ∀r k o b m,s.al r k=some o->bN o.cY=true->aD r k=some (b,m)->A b)
 (anh:(∀b,A b->s.ok g aD w b)\/(∀x,q x->bD x)) (bI:yl q nI) (M4:pP s (lL c1.a3) b7 bN)
 (ee:tZ s (lL c1.a3) bN o5 (gr T).a7) (tK : ∀r k o,(∃j i,lL c1.a3 j i=some (r,k))->s.al r k=some o->o.cY = .live) (hex : ∀r k o,Src.al r k o∈c1.a3->s.bi r k)
 {uS:List aA} {cf:List Prop} (p5:oJ (qY s.a7 b7 (lL c1.a3) bN) c1.ac args=some (uS,cf)) (vO : ∀p∈cf,p)
 {fN:aA} {e9:List Prop} (Ft:qY (fun j=>c1.eU[j]?) (xE l) (lM 0 l) nI c1.f7 c1.r=some (fN,e9)) (QX : ∀p∈e9,p)
 {u:List (Nat×List aR)} {eV:List Prop} (I4:nS (fun j=>c1.eU[j]?) (xE l) (lM 0 l) s.a7 l c1.gK c1.eU=some (u,eV)) (ani : ∀p∈eV,p)
 (Fk:Con P f uS T c1.r c1.eU) (anj:q c1.r) (ank : ∀j i o,(gr c1.eU).al j i=some o-> ∀e∈o.es,∀x∈e,q x)
 {vs:List Value} (aZ:vs.length=args.length) (hargs : ∀(j:Nat) x v,args[j]? = some x->vs[j]? = some v->Rel w (s.ok g aD w) s.bi (s.bo aD) x v) :
 K6 P f/\Calls P f vs.toArray w fun e b5=> ∃v cc,e = .returned v/\dZ g (s.ko u) cc a b5/\Rel b5 ((s.ko u).ok g cc b5) (s.ko u).bi ((s.ko u).bo cc) fN v:=by
 have QY:IB l:=by
  subst qG;split
  ·exact vf
  refine List.pairwise_append.2 ⟨vf,List.pairwise_singleton _ _,fun b aO c a1 r k hn=> ?_⟩;rw[List.mem_singleton] at a1;subst a1;have h1:r=a8:=hn.2;subst h1
  cases b with
  | row r0=>exact BG _ aO (Eq.symm hn.1)
  | al r0 lB oB=>exact BG _ aO (Eq.symm hn.1.1)
 have aax : ∀(j:Nat) b,c1.a3[j]? = some b->l[j]? = some b:=by
  intro j b ap;subst qG;split
  ·exact ap
  rw[ars (gD ap)];exact ap
 have I5 : ∀(j:Nat) b,l[j]? = some b->c1.a3[j]? = some b\/b = .row a8:=by
  intro j b ap;subst qG;split at ap
  ·exact .inl ap
  rw[List.getElem?_append] at ap;split at ap
  ·exact .inl ap
  right;have:=gD ap;simp at this;rw[show j-c1.a3.length=0 by omega] at ap;simpa using ap.symm
 refine⟨Fk.1,?_⟩;obtain⟨hs,q1,q2,bB,RJ,cu,dn,e3,ht⟩:=enter h.toky A hA QR QS ee tK;obtain⟨e1,e2,bG⟩:=K4 _ _ _ _ _ p5;have:=Fk.2 hs (mh aD (lL c1.a3)) w vs.toArray q1 bB RJ cu e3 (by simp[aZ,e1]) (by intro j dY v fa bh;have ap:j<args.length:=(by have:=gD fa;omega);have U:=dy ap;obtain⟨c,cD,f1,f2,f3⟩:=bG j _ dY U fa;have IP:vs[j]? = some v:=(by simpa using bh);exact ht (HD h.toky M4 (zo _) f2 (fun p ai=>vO p (f3 p ai)) trivial (hargs j _ v U IP)) (hargs j _ v U IP));refine this.mono fun e b5 IL=> ?_;obtain⟨v,nO,rfl,Fy,bh⟩:=IL
 have abw:pP (gr c1.eU) (lM 0 l) (xE l) nI:=by
  refine⟨fun j r ap k=> ?_,fun _ _ _ _ _ bH=>by simp[nI] at bH⟩;unfold xE at ap;split at ap
  ·rename_i r0 oo;simp at ap;subst ap;have:=HW (n:=0) (r:=r0) (k:=k) QY oo rfl;simpa [Src.mY] using this
  simp at ap
 have H8 : ∀j i r k,lL c1.a3 j i=some (r,k)->lM 0 l r k=some (j,i):=fun j i r k hm=>by obtain⟨b,jS,iV,rfl⟩:=yM.1 hm;have:=HW (n:=0) QY (aax j b jS) iV;simpa using this
 have L8 : ∀r k j i,lM 0 l r k=some (j,i)->lL c1.a3 j i=some (r,k)\/ ¬s.bi r k:=fun r k j i hm=>by
  obtain⟨b,-,iV,tp,RI⟩:=AJ hm;rcases I5 j b (by simpa using iV) with e|e
  ·exact .inl (yM.2 ⟨b,e,tp,RI⟩)
  subst e;have:r=a8:=tp;subst this;exact .inr (Ea gi k)
 obtain⟨k9,nP,jh,aoI,aoJ⟩:=OS (s1:=gr c1.eU) Fy abw bI ank l c1.gK c1.eU u eV 0 s QY (fun j row ap=>by simpa [gr] using ap)
  (fun r k j i hm a4=>by
    rcases L8 r k j i hm with e|e
    ·exact(Fy.stay j i (by rw[RJ];exact ee.bi _ _ _ _ e a4)).1
    exact absurd a4 e)
  (fun r k o hm=>by
    obtain⟨j,ap⟩:=arB hm;rcases I5 j _ ap with e|e
    ·exact hex r k o (dH e)
    cases e) I4 ani
 obtain⟨oA,f1,f2⟩:=leave (q0:=o5) (q:=q) h q1 (by rw[q2];exact anh) RJ cu dn tK ee Fy H8 L8 (fun r k fN eh p=>aku) (s2:=s.ko u) nP jh aoI aoJ
  (HD Fy abw bI Ft QX anj bh) bh
 exact⟨v,oA,rfl,f1,f2⟩
theorem ag8 (h:dZ g s aD a w){a8:Nat}(gi:s.a7 a8=none){f:FuncId}{args:List aA}{c1:B4}{bM:jX}(ay:E9 P s.a7 a8 f args c1=some bM)(da:∀p∈bM.gV,p)
 {vs:List Value} (aZ:vs.length=args.length) (hargs : ∀(j:Nat) x v,args[j]? = some x->vs[j]? = some v->Rel w (s.ok g aD w) s.bi (s.bo aD) x v) :
 K6 P f/\Calls P f vs.toArray w fun e b5=> ∃v cc,e = .returned v/\dZ g (s.ko bM.hN) cc a b5/\Rel b5 ((s.ko bM.hN).ok g cc b5) (s.ko bM.hN).bi ((s.ko bM.hN).bo cc) bM.val v:=by
 unfold E9 at ay;simp only at ay;generalize qG:(if c1.eU.length=c1.a3.length then c1.a3 else c1.a3++[.row a8])=l at ay;split at ay
 ·simp at ay
 rename_i oB xY;split at ay
 ·simp at ay
 rename_i amA;have BG : ∀a∈c1.a3,a.r≠a8:=fun b aO e=>amA (List.any_eq_true.2 ⟨b,aO,by simpa using e⟩);split at ay
 ·
  split at ay;rotate_left
  ·simp at ay
  rename_i zp;split at ay;rotate_left
  ·simp at ay
  rename_i uS cf fN e9 u eV p5 Ft I4;simp only[dA] at ay;subst ay;have Fk:Con P f uS [] c1.r c1.eU:=da _ (by simp);have I6:bD c1.r:=da _ (by simp)
  have amB:nM c1.eU:=by
   by_cases e:c1.eU=[]
   ·rw[e];intro row eP;simp at eP
   exact da _ (by have:c1.eU.isEmpty=false:=(by simpa [List.isEmpty_iff] using e);simp[this])
  refine XQ (bN:=k6) (A:=fun b=>b<w.heap.size) (q:=bD) (T:=[]) (b7:=fun _=>none) h gi qG.symm (by rw[zp];exact List.Pairwise.nil) BG (fun _ aO=>aO) (fun b aO=>aO.1)
   (fun r k o b m an _ ai=>HU h.toky an ai) (.inr fun _ U=>U) anc ?_ ?_ ?_ ?_ (by rw[zp];exact p5) (fun p ai=>da p (by simp[ai])) Ft (fun p ai=>da p (by simp[ai])) I4 (fun p ai=>da p (by simp[ai])) Fk I6 ?_ aZ hargs
  ·refine⟨fun _ _ e=>by simp at e,fun r _ k o _ _ j i e=> ?_⟩;rw[zp] at e;simp[lL] at e
  ·refine⟨fun j i jZ fU p e=> ?_,fun j i cD e=> ?_,fun j i r k e=> ?_⟩
   ·rw[zp] at e;simp[lL] at e
   ·simp[gr,er] at e
   rw[zp] at e;simp[lL] at e
  ·rintro r k o ⟨j,i,e⟩;rw[zp] at e;simp[lL] at e
  ·rintro r k o e;rw[zp] at e;simp at e
  intro j i o an e he x U;have an:er (c1.eU[j]?) i=some o:=an
  cases ak:c1.eU[j]? with
  | none=>rw[ak] at an;simp[er] at an
  | some row =>
   rw[ak,m3] at an
   cases a4:row[i]? with
   | none=>rw[a4] at an;simp at an
   | some p =>
    rw[a4,dx] at an;split at an
    ·simp at an
    simp at an;subst an;exact amB row (dH ak) p (dH a4) e he x U
 split at ay;rotate_left
 ·simp at ay
 rename_i uS cf T aU fN e9 u eV p5 Fs Ft I4;simp only[dA] at ay;subst ay;have vf:=XP xY fun p ai=>da p (by simp[ai]);have Fk:Con P f uS T c1.r c1.eU:=da _ (by simp);have aa : ∀r j,sx 0 c1.a3 r=some j-> ∀k,lL c1.a3 j k=some (r,k):=fun r j ap k=>by obtain⟨-,h2⟩:=O0 ap;simp only[lL,show c1.a3[j]? = some (.row r) by simpa using h2]
 have QU : ∀(l:List Src) (di:List kg) (T:List (List aR)) (al:List Prop),pf s.a7 (sx 0 c1.a3) (lL c1.a3) l di=some (T,al)->(∀p∈al,p) ->
  ∀b∈l,∀r k o,b.has r k->s.al r k=some o->o.cY≠ .li:=by
  intro l
  induction l with
  | nil=>intro _ _ _ _ _ b aO;simp at aO
  | cons b l ih =>
   intro di T al h0 bC c a1 r k o hn an
   cases di with
   | nil=>cases b<;>simp[pf] at h0
   | cons cr di =>
    cases b with
    | row r0 =>
     simp only[pf] at h0;split at h0
     ·rename_i row eP
      split at h0
      ·rename_i aB p1 qi p2 h1 h2
       simp only[dA,dF] at h0;obtain⟨rfl,rfl⟩:=h0;rcases dR.1 a1 with rfl|a1
       ·have e:r=r0:=hn;subst e;have fj:er (some row) k=some o:=(by unfold S.al at an;rw[eP] at an;exact an);have:=WL h1 (fun p ai=>bC p (by simp[ai])) k o fj;rw[this];simp
       exact ih di qi p2 h2 (fun p ai=>bC p (by simp[ai])) c a1 r k o hn an
      simp at h0
     simp at h0
    | al r0 lB oB =>
     simp only[pf] at h0;split at h0;rotate_left
     ·simp at h0
     rename_i row eP;split at h0;rotate_left
     ·simp at h0
     rename_i aB p1 qi p2 h1 h2;simp only[dA,dF] at h0;obtain⟨rfl,rfl⟩:=h0;rcases dR.1 a1 with rfl|a1;rotate_left
     ·exact ih di qi p2 h2 (fun p ai=>bC p (by simp[ai])) c a1 r k o hn an
     obtain⟨rfl,rfl⟩:=hn;have vO:er (some row) k=some oB:=bC _ (by simp);have fj:er (some row) k=some o:=(by unfold S.al at an;rw[eP] at an;exact an);rw[vO] at fj;simp at fj;subst fj
     have QW:oB.cY≠ .gone:=by
      rw[m3] at vO
      cases a4:row[k]? with
      | none=>rw[a4] at vO;simp at vO
      | some p =>
       rw[a4,dx] at vO;split at vO
       ·simp at vO
       rename_i e;simp at vO;subst vO;exact e
     have:=WL h1 (fun p ai=>bC p (by simp[ai])) 0 oB (by rw[pb];simp[QW]);rw[this];simp
 have M4:pP s (lL c1.a3) (sx 0 c1.a3) xD:=by refine⟨aa,fun r ak k o an bH j i hm=> ?_⟩;obtain⟨b,jS,iV,-⟩:=yM.1 hm;exact QU c1.a3 c1.di T aU Fs (fun p ai=>da p (by simp[ai])) b (dH jS) r k o iV an (by simpa [xD] using bH)
 obtain⟨t1,t2⟩:=O1 h.toky M4 c1.a3 c1.di T aU Fs (fun p ai=>da p (by simp[ai]));have o4 : ∀j b,c1.a3[j]? = some b-> ∃e8,T[j]? = some e8:=fun j b ap=>by have:j<T.length:=(by have:=gD ap;omega);exact⟨_,dy this⟩
 refine XQ (bN:=xD) (A:=s.ok g aD w) (q:=o5) (T:=T) h gi qG.symm vf BG (fun b aO=>aO.1) (fun b aO=>aO)
  (fun r k o b m an a4 ai=>ale h.toky an (by simpa [xD] using a4) ai) (.inl fun _ aO=>aO) (zo _) M4 ?_ ?_ ?_ p5 (fun p ai=>da p (by simp[ai])) Ft (fun p ai=>da p (by simp[ai])) I4
  (fun p ai=>da p (by simp[ai])) Fk trivial (fun _ _ _ _ _ _ _ _=>trivial) aZ hargs
 ·refine⟨fun j i jZ fU p e fA=> ?_,fun j i cD fj=> ?_,fun j i r k e hu=> ?_⟩
  ·obtain⟨r,k⟩:=p;obtain⟨b,jS,iV,rfl⟩:=yM.1 e;obtain⟨kD,anl,anm,rfl⟩:=yM.1 fA;have e1:=HW (n:=0) vf jS iV;have e2:=HW (n:=0) vf anl anm;rw[e1] at e2;simpa using e2
  ·have ap:j<T.length:=by
    rcases Nat.lt_or_ge j T.length with e|e
    ·exact e
    ·have:(gr T).a7 j=none:=dT e;rw[this] at fj;simp[er] at fj
   have aay:T[j]? = some T[j]:=dy ap;have aaz:c1.a3[j]? = some (c1.a3[j]'(by omega)):=dy (by omega);have tY:er (some T[j]) i=some cD:=(by have:(gr T).a7 j=some T[j]:=aay;rw[this] at fj;exact fj);obtain⟨r,k,o,n1,n2,RK,abx⟩:=(t2 j _ _ aay aaz).2.2.2 i cD tY;exact⟨r,k,o,yM.2 ⟨_,aaz,n1,n2⟩,RK,abx⟩
  obtain⟨b,jS,iV,rfl⟩:=yM.1 e;obtain⟨e8,wE⟩:=o4 j b jS;have:=(t2 j e8 b wE jS).2.1 r k iV hu;show b.mY k<((T[j]?).getD []).length;rw[wE];exact this
 ·rintro r k o ⟨j,i,e⟩ an;obtain⟨b,jS,iV,-⟩:=yM.1 e;obtain⟨e8,wE⟩:=o4 j b jS;exact(t2 j e8 b wE jS).1 r k o iV an
 intro r k o hm;obtain⟨j,ap⟩:=arB hm;obtain⟨e8,wE⟩:=o4 j _ ap;exact K3 ((t2 j e8 _ wE ap).2.2.1 r k o rfl)
end
def E1 (P:Program)(s:S)(a8:Nat)(o:Oper)(dV:f8):Option jX :=
 match dV with
 | .call c1=>match o.op with
  | .call {callee:= .value f,args,..}=>match ga s.E f with
   | .fn id cap=>E9 P s.a7 a8 id (args.toList.map (ga s.E)++cap) c1
   | _=>none
  | _=>none
 | hg=>Fv P s.E s.a7 a8 o hg
def Fz:List (Nat×List aR)->(Nat->Option (List aR))->Nat->Option (List aR)
 | [],a7,q=>a7 q
 | (r,row)::u,a7,q=>Fz u (fun x=>if x=r then some row else a7 x) q
theorem Pg : ∀(u:List (Nat×List aR)) (s:S) (q:Nat),(s.ko u).a7 q=Fz u s.a7 q
 | [],_,_=>rfl
 | (r,row)::u,s,q=>Pg u (s.setRow r row) q
def AK (a7:Nat->Option (List aR))(a8 r n:Nat)(bM:jX):Option jX :=
 match Fz bM.hN a7 a8,Fz bM.hN a7 r with
 | some gW,some l=>if a8=r then none else
  some {val:=nw a8 r n bM.val,hN:=bM.hN++[(a8,gW.map vE),(r,l++gW.map (pv a8 r n))],gV:=bM.gV++[l.length=n]}
 | _,_=>none
def Y5 (o:Oper)(t:Nat):Bool:=o.op.operands.toList.any fun | .tmp u=>u == t|_=>false
inductive lI:aA->aA->Prop
 | refl (x:aA):lI x x
 | n1 (r c sz:Nat):lI (.k8 r c sz none) (.isl sz [])
 | n2 (r c sz:Nat):lI (.isl sz []) (.k8 r c sz none)
 | s1 (r c sz k n:Nat):lI (.k8 r c sz (some (k,n))) (.bw r (k+c) 0 n)
 | s2 (r c sz k n:Nat):lI (.bw r (k+c) 0 n) (.k8 r c sz (some (k,n)))
 | agg {c eG:List aA} (aZ:eG.length=c.length) (h : ∀(j:Nat) x dY,c[j]? = some x->eG[j]? = some dY->lI x dY):lI (.agg c) (.agg eG)
theorem lI.symm {x v:aA}(h:lI x v):lI v x:=by
 induction h with
 | refl x=>exact .refl x
 | n1 r c sz=>exact .n2 r c sz
 | n2 r c sz=>exact .n1 r c sz
 | s1 r c sz k n=>exact .s2 r c sz k n
 | s2 r c sz k n=>exact .s1 r c sz k n
 | agg aZ h ih=>exact .agg aZ.symm fun j x dY U fa=>ih j dY x fa U
theorem lI.rel {x v:aA}(h:lI x v){w:World}{ok:Nat->Prop}{bi:ly}{bo:ln}: ∀ {u:Value},Rel w ok bi bo x u->Rel w ok bi bo v u:=by
 induction h with
 | refl x=>exact fun h=>h
 | n1 r c sz=>intro u h;cases h with|pU h=>exact h
 | n2 r c sz=>exact fun h=> .pU h
 | s1 r c sz k n=>intro u h;cases h with|q8 h=>exact h
 | s2 r c sz k n=>exact fun h=> .q8 h
 | @agg c eG aZ h ih =>
  intro u hu;obtain⟨vs,rfl,h1,h2,R⟩:=hu.EO;refine .agg vs (by omega) h2 fun j dY u fa hu=> ?_;have eS:j<c.length:=(by have:=gD fa;omega);exact ih j _ dY (dy eS) fa (R j _ u (dy eS) hu)
def nr (P:Program)(a8:Nat)(o:Oper):f8->S->Option jX
 | .gb t v hg,s=>if Y5 o t then
  match nr P a8 o hg {E:=fun u=>if u=t then v else s.E u,a7:=s.a7} with
  | some r=>some {r with gV:=lI (s.E t) v::r.gV}
  | none=>none
  else none
 | .w2 r hg,s=>match s.a7 r with
  | some row=>match nr P a8 o hg (s.setRow r (oX row)) with
   | some bM=>some {bM with hN:=(r,oX row)::bM.hN}
   | none=>none
  | none=>none
 | .v7 r n hg,s=>match nr P a8 o hg s with
  | some bM=>AK s.a7 a8 r n bM
  | none=>none
 | hg,s=>E1 P s a8 o hg
def LI (P:Program)(s:S)(a8:Nat)(o:Oper)(dV:f8):Option jX:=nr P a8 o dV s
def xF (P:Program)(s:S)(a8:Nat)(o:Oper)(dV:f8):Option jX :=
 match LI P s a8 o dV with
 | some r=>if r.hN.all (fun p=>decide (p.1=a8) || (s.a7 p.1).isSome) then some r else none
 | none=>none
def ZJ (N:Nat)(o:Oper):Bool :=
 match o.dst with
 | some d=>decide (d<N)
 | none=>true
def uT (P:Program)(N:Nat)(ops:Array Oper)(s:S)(a8:Nat)(o:Oper)(hg:f8×Bool):Option jX :=
 if ZJ N o=false then none else
 match o.guard with
 | none=>xF P s a8 o hg.1
 | some (j,want)=>match (ops[j]?).bind (·.dst) with
  | none=>none
  | some d=>match s.E d with
   | .b x=>if hg.2 then (match xF P s a8 o hg.1 with
    | some r=>some {r with gV:=(x=want)::r.gV}
    | none=>none)
    else some {val:= .et [],gV:=[x = !want]}
   | .et []=>some {val:= .et []}
   | _=>none
def S.aw (s:S)(o:Oper)(r:jX):S:=(s.ko r.hN).put o.dst r.val
section
variable {P:Program} {g:G} {s:S} {aD:g9} {a:Act} {w:World}
theorem aip {o:Oper}{bM:jX}(h:Fin P g s a w o bM)(bI:∀d,o.dst=some d->d<g.N){K:Act->World->Prop}{Q:Exit->Act->World->Prop}
 (jI : ∀cc eK b5,dZ g (s.aw o bM) cc eK b5->K eK b5):o.wp P a w K Q:=by
 obtain⟨v,b5,cc,lh,bS,ak⟩:=h;unfold Oper.wp;rcases lh with lh|⟨lh,rfl⟩
 ·rw[lh];exact jI cc _ _ (bS.put o.dst bI ak)
 rw[lh];exact jI cc _ _ (bS.put o.dst bI ak)
theorem ahF {o:Oper}{f:Operand}{args:Array Operand}{qj:Array TypeId}(an:o.op = .call ⟨.value f,args,qj⟩){id:Nat}{cap:List Value}(cp:a.eval f = .func (.func id) #[] cap.toArray)
 (a1:K6 P id) {K:Act->World->Prop} {Q:Exit->Act->World->Prop}
 (h:Calls P id (args.toList.map a.eval++cap).toArray w fun
   | .returned v,QZ=>K (a.put o.dst v) QZ
   | .panicked chain,QZ=>Q (.panic chain) a QZ
   | .outgrown,_=>LetsOut Q):o.wp P a w K Q:=by
 obtain⟨fn,h1,h2,R⟩:=a1;have e:args.map a.eval++cap.toArray=(args.toList.map a.eval++cap).toArray:=by apply Array.ext';simp
 have lh:(execOp a.eval o).run P w = .ok (.enter id (args.toList.map a.eval++cap).toArray) w:=by have a2:fn.name ≠ "runtime.NumGoroutine" := (by simpa using h2);have p3:fn.body≠none:=(by intro e;simp[e] at R);simp only[execOp,an,resolve,cp,Deferred.ofValue,invoke,callFunc];simp[h1,a2,p3,e]
 unfold Oper.wp;rw[lh];exact h
theorem Ak (h:dZ g s aD a w){a8:Nat}(gi:s.a7 a8=none){o:Oper}{dV:f8}{bM:jX}(ay:E1 P s a8 o dV=some bM)(da:∀p∈bM.gV,p)
 (bI : ∀d,o.dst=some d->d<g.N) {K:Act->World->Prop} {Q:Exit->Act->World->Prop} (jI : ∀cc eK b5,dZ g (s.aw o bM) cc eK b5->K eK b5):o.wp P a w K Q:=by
 unfold E1 at ay;split at ay;rotate_left
 ·exact aip (aio h gi ay da) bI jI
 rename_i c1;split at ay;rotate_left
 ·simp at ay
 rename_i f args qj an;split at ay;rotate_left
 ·simp at ay
 rename_i id cap jf;have cp:=h.eval f;rw[jf] at cp;obtain⟨vs,hval,aZ,ak⟩:=cp.LF
 obtain⟨a1,alh⟩:=ag8 (vs:=args.toList.map a.eval++vs) h gi ay da (by simp[aZ]) (by
  intro j x v U bh;rw[List.getElem?_append] at U bh;simp only[arC] at U bh;split at U
  ·rename_i ap;rw[dz ap] at bh;rw[dK,dP] at U bh;obtain⟨p,ai,rfl⟩:=U;obtain⟨q,a0,rfl⟩:=bh;rw[ai] at a0;simp at a0;subst a0;exact h.eval p
  rename_i ap;rw[dB ap] at bh;exact ak _ x v U bh)
 refine ahF an hval a1 (alh.mono fun e b5 hw=> ?_);obtain⟨v,cc,rfl,h1,h2⟩:=hw;exact jI cc _ _ (h1.put o.dst bI h2)
theorem dZ.P9 {s:S}(h:dZ g s aD a w)(dst:Option Tmp){x:aA}(ak:∀d,dst=some d->Rel w (s.ok g aD w) s.bi (s.bo aD) x (a.tmps.getD d undef)):dZ g (s.put dst x) aD a w where
 toky:=h.toky.congr (S.yY s dst x)
 env:=by
  have e:=S.yY s dst x;rw[HB e,EG e,EH e];intro t
  cases dst with
  | none=>simpa [S.put] using h.env t
  | some d =>
   simp only[S.put];by_cases e:t=d
   ·subst e;simpa using ak t rfl
   rw[dB e];exact h.env t
 defers:=h.defers
 mf:=h.mf
theorem Yv (s:S)(dst:Option Tmp)(x y:aA):(s.put dst x).put dst y=s.put dst y:=by
 cases dst with
 | none=>rfl
 | some d =>
  simp only[S.put,S.mk.injEq,and_true];funext u;split<;>rfl
theorem WM (s:S)(dst:Option Tmp)(x:aA)(r:Nat)(row:List aR):(s.put dst x).setRow r row=(s.setRow r row).put dst x:=by cases dst<;>rfl
theorem HX : ∀(u:List (Nat×List aR)) (s:S),(s.ko u).E=s.E
 | [],_=>rfl
 | (r,row)::u,s=>HX u (s.setRow r row)
theorem K7 : ∀(u:List (Nat×List aR)) (s:S) (dst:Option Tmp) (x:aA),(s.put dst x).ko u=(s.ko u).put dst x
 | [],_,_,_=>rfl
 | (r,row)::u,s,dst,x=>by show ((s.put dst x).setRow r row).ko u=_;rw[WM,K7 u];rfl
theorem ag9 {s:S}{a8 r n:Nat}{o:Oper}{bM tb:jX}(hm:AK s.a7 a8 r n bM=some tb)(da:∀p∈tb.gV,p){aD:g9}{a:Act}{w:World}(h:dZ g (s.aw o bM) aD a w):
 ∃cc,dZ g (s.aw o tb) cc a w:=by
 unfold AK at hm;split at hm;rotate_left
 ·simp at hm
 rename_i gW l h1 h2;split at hm
 ·simp at hm
 rename_i dX;simp only[dA] at hm;subst hm;have a2:l.length=n:=da _ (by simp);subst a2;have e1:(s.aw o bM).a7 a8=some gW:=by rw[S.aw,S.yY,Pg];exact h1
 have e2:(s.aw o bM).a7 r=some l:=by rw[S.aw,S.yY,Pg];exact h2
 obtain⟨cc,f1,f2⟩:=h.merge e2 e1 dX;refine⟨cc,?_⟩;have:=f1.P9 o.dst (x:=nw a8 r l.length bM.val) (fun d bI=>f2 _ _ (by have:=h.env d;simpa [S.aw,S.put,bI] using this))
 have he:s.aw o {val:=nw a8 r l.length bM.val,hN:=bM.hN++[(a8,gW.map vE),(r,l++gW.map (pv a8 r l.length))],gV:=bM.gV++[l.length=l.length]} =
  ((s.aw o bM).setRow a8 (gW.map vE) |>.setRow r (l++gW.map (pv a8 r l.length))).put o.dst (nw a8 r l.length bM.val):=by
  simp only[S.aw,WM,Yv];simp only[S.ko,List.foldl_append,List.foldl_cons,List.foldl_nil]
 rw[he];exact this
theorem KL {a8:Nat}{o:Oper}(bI:∀d,o.dst=some d->d<g.N){K:Act->World->Prop}{Q:Exit->Act->World->Prop}:
 ∀(dV:f8) (s:S) (h:dZ g s aD a w) (gi:s.a7 a8=none) (bM:jX),nr P a8 o dV s=some bM->(∀p∈bM.gV,p)->(∀cc eK b5,dZ g (s.aw o bM) cc eK b5->K eK b5)->o.wp P a w K Q
 | .w2 r hg,s,h,gi,bM,ay,da,jI=>by
  unfold nr at ay;split at ay
  ·rename_i row eP
   split at ay
   ·rename_i tb ak;simp only[dA] at ay;subst ay;have dX:a8≠r:=(by rintro rfl;rw[gi] at eP;simp at eP);exact KL bI hg (s.setRow r (oX row)) (h.freeze eP) (by simp[S.setRow,dX,gi]) tb ak da jI
   simp at ay
  simp at ay
 | .gb t v hg,s,h,gi,bM,ay,da,jI=>by
  unfold nr at ay;split at ay;rotate_left
  ·simp at ay
  split at ay;rotate_left
  ·simp at ay
  rename_i r ak;simp only[dA] at ay;subst ay;have e:lI (s.E t) v:=da _ (by simp);have bh:Rel w (s.ok g aD w) s.bi (s.bo aD) v (a.tmps.getD t undef):=(by exact e.rel (h.env t));have h2:=h.P9 (some t) (x:=v) (fun d bI=>by simp at bI;subst bI;exact bh);refine KL bI hg (s.put (some t) v) h2 gi r ak (fun p ai=>da p (by simp[ai])) fun cc eK b5 bS=>jI cc eK b5 ?_;have U:Rel b5 (((s.put (some t) v).aw o r).ok g cc b5) ((s.put (some t) v).aw o r).bi (((s.put (some t) v).aw o r).bo cc) v (eK.tmps.getD t undef)->Rel b5 (((s.put (some t) v).aw o r).ok g cc b5) ((s.put (some t) v).aw o r).bi (((s.put (some t) v).aw o r).bo cc) (s.E t) (eK.tmps.getD t undef):=(by exact fun h0=>e.symm.rel h0);by_cases Q0:o.dst=some t
  ·have:s.aw o {r with gV:=lI (s.E t) v::r.gV}=(s.put (some t) v).aw o r:=by
    simp only[S.aw,K7,Q0,Yv]
   rw[this];exact bS
  have fl:((s.put (some t) v).aw o r).E t=v:=by
   simp only[S.aw,K7]
   cases BH:o.dst with
   | none=>simp[S.put]
   | some d =>
    have:t≠d:=(by rintro rfl;exact Q0 BH);simp[S.put,this]
  have:s.aw o {r with gV:=lI (s.E t) v::r.gV}=((s.put (some t) v).aw o r).put (some t) (s.E t):=by
   simp only[S.aw,K7]
   cases BH:o.dst with
   | none =>
    have key : ∀(s1:S) (x y:aA),s1.E t=y->s1=(s1.put (some t) x).put (some t) y:=by
     intro s1 x y aY
     cases s1 with
     | mk E a7 =>
      simp only[S.put,S.mk.injEq,and_true];funext u;split
      ·rename_i hu;rw[hu];exact aY
      rfl
    exact key (s.ko r.hN) v _ (by rw[HX])
   | some d =>
    have:t≠d:=(by rintro rfl;exact Q0 BH);simp only[S.put,S.mk.injEq,and_true];funext u;by_cases h1:u=t
    ·subst h1;simp[this,HX]
    simp[h1]
  rw[this];exact bS.P9 (some t) (fun d bI=>by simp at bI;subst bI;exact U (by have:=bS.env t;rw[fl] at this;exact this))
 | .v7 r n hg,s,h,gi,bM,ay,da,jI=>by
  unfold nr at ay;split at ay
  ·rename_i tb ak
   refine KL bI hg s h gi tb ak (fun p ai=>da p ?_) fun cc eK b5 bS=> ?_
   ·unfold AK at ay
    split at ay
    ·split at ay
     ·simp at ay
     simp only[dA] at ay;subst ay;simp[ai]
    simp at ay
   obtain⟨oA,h2⟩:=ag9 ay da bS;exact jI oA eK b5 h2
  simp at ay
 | .none,s,h,gi,bM,ay,da,jI=>Ak h gi (by unfold nr at ay;exact ay) da bI jI
 | .qK b,s,h,gi,bM,ay,da,jI=>Ak h gi (by unfold nr at ay;exact ay) da bI jI
 | .cn c,s,h,gi,bM,ay,da,jI=>Ak h gi (by unfold nr at ay;exact ay) da bI jI
 | .hp al c,s,h,gi,bM,ay,da,jI=>Ak h gi (by unfold nr at ay;exact ay) da bI jI
 | .eA,s,h,gi,bM,ay,da,jI=>Ak h gi (by unfold nr at ay;exact ay) da bI jI
 | .call c,s,h,gi,bM,ay,da,jI=>Ak h gi (by unfold nr at ay;exact ay) da bI jI
 | .aw m cD,s,h,gi,bM,ay,da,jI=>Ak h gi (by unfold nr at ay;exact ay) da bI jI
theorem agP (h:dZ g s aD a w){a8:Nat}(gi:s.a7 a8=none){o:Oper}{dV:f8}{bM:jX}(ay:LI P s a8 o dV=some bM)(da:∀p∈bM.gV,p)
 (bI : ∀d,o.dst=some d->d<g.N) {K:Act->World->Prop} {Q:Exit->Act->World->Prop} (jI : ∀cc eK b5,dZ g (s.aw o bM) cc eK b5->K eK b5):o.wp P a w K Q :=
 KL bI dV s h gi bM ay da jI
theorem Wn (h:dZ g s aD a w){a8:Nat}(gi:s.a7 a8=none){o:Oper}{dV:f8}{bM:jX}(ay:xF P s a8 o dV=some bM)(da:∀p∈bM.gV,p)
 (bI : ∀d,o.dst=some d->d<g.N) {K:Act->World->Prop} {Q:Exit->Act->World->Prop} (jI : ∀cc eK b5,dZ g (s.aw o bM) cc eK b5->K eK b5):o.wp P a w K Q:=by
 unfold xF at ay;split at ay
 ·rename_i r ak
  split at ay
  ·simp only[dA] at ay;subst ay;exact agP h gi ak da bI jI
  simp at ay
 simp at ay
theorem Xi {ok:Nat->Prop}{bi:ly}{bo:ln}:Rel w ok bi bo (.et []) undef:=by have:=Rel.et (w:=w) (ok:=ok) (bi:=bi) (bo:=bo) (c:=[]) [] rfl (by simp);exact this
theorem Wo (h:dZ g s aD a w){ops:Array Oper}{i a8:Nat}(gi:s.a7 a8=none){o:Oper}(aa:ops[i]? = some o){hg:f8×Bool}{bM:jX}(ay:uT P g.N ops s a8 o hg=some bM)
 (da : ∀p∈bM.gV,p) {K:Act->World->Prop} {Q:Exit->Act->World->Prop} (jI : ∀cc eK b5,dZ g (s.aw o bM) cc eK b5->K eK b5):wpOp P ops Q i K a w:=by
 unfold uT at ay;split at ay
 ·simp at ay
 rename_i IC;have bI : ∀d,o.dst=some d->d<g.N:=by intro d bI;unfold ZJ at IC;rw[bI] at IC;simpa using IC
 unfold wpOp;simp only[aa];have Z4 : ∀r:jX,r={val:= .et [],gV:=r.gV}->(∀cc eK b5,dZ g (s.aw o r) cc eK b5->K eK b5)->K (a.put o.dst undef) w:=by intro r ak ann;refine ann aD _ _ ?_;rw[ak];exact h.put o.dst bI Xi
 split at ay
 ·rename_i d6;have hw:Region.wanted o (yielded ops a.tmps)=true:=(by simp[Region.wanted,d6]);rw[dz hw];exact .inl (Wn h gi ay da bI jI)
 rename_i j want d6;split at ay
 ·simp at ay
 rename_i d aaA;have hval:=h.env d;split at ay
 ·rename_i x U
  rw[U] at hval;have bh:=hval.yZ
  have eS:d<a.tmps.size:=by
   rcases Nat.lt_or_ge d a.tmps.size with dc|dc
   ·exact dc
   rw[ary,Array.getElem?_eq_none dc] at bh;simp[undef] at bh
  have aY:yielded ops a.tmps j=some x:=(by unfold yielded;rw[aaA];rw[ary,aro eS] at bh;simp only[Option.getD_some] at bh;simp[aro eS,bh]);split at ay
  ·split at ay
   ·rename_i r ak;simp only[dA] at ay;subst ay;have Q1:x=want:=da _ (by simp);have hw:Region.wanted o (yielded ops a.tmps)=true:=(by simp[Region.wanted,d6,aY,Q1]);rw[dz hw];exact .inl (Wn h gi ak (fun p ai=>da p (by simp[ai])) bI jI)
   simp at ay
  simp only[dA] at ay;subst ay;have Q1:x = !want:=da _ (by simp);have hw:Region.wanted o (yielded ops a.tmps)=false:=(by simp[Region.wanted,d6,aY,Q1]);rw[hw];exact Z4 _ rfl jI
 ·rename_i U
  simp only[dA] at ay;subst ay;rw[U] at hval;obtain⟨vs,bh,aZ,-⟩:=hval.EP;have:vs=[]:=dM.1 (by simpa using aZ);subst this
  have aY:yielded ops a.tmps j=none:=by
   unfold yielded;rw[aaA];rw[ary] at bh
   cases a0:a.tmps[d]? with
   | none=>simp[a0]
   | some v=>rw[a0] at bh;simp only[Option.getD_some] at bh;simp[a0,bh]
  have hw:Region.wanted o (yielded ops a.tmps)=false:=(by simp[Region.wanted,d6,aY]);rw[hw];exact Z4 _ rfl jI
 simp at ay
end
def uL (P:Program)(N:Nat)(ops:Array Oper):List Oper->List (f8×Bool)->S->Nat->Option (S×List Prop)
 | [],[],s,_=>some (s,[])
 | o::l,hg::dV,s,a8=>match uT P N ops s a8 o hg with
  | some bM=>match uL P N ops l dV (s.aw o bM) (a8+1) with
   | some (cg,al)=>some (cg,bM.gV++al)
   | none=>none
  | none=>none
 | _,_,_,_=>none
def S.nk (s:S)(n:Nat):Prop:= ∀r,n<=r->s.a7 r=none
theorem Xj : ∀(u:List (Nat×List aR)) (s:S) (q:Nat),(∀p∈u,p.1≠q)->(s.ko u).a7 q=s.a7 q
 | [],s,q,_=>rfl
 | (r,row)::u,s,q,h=>by show ((s.setRow r row).ko u).a7 q=_;rw[Xj u (s.setRow r row) q fun p ai=>h p (by simp[ai])];have:=h (r,row) (by simp);simp[S.setRow,Ne.symm this]
theorem KR {P:Program}{N:Nat}{ops:Array Oper}{s:S}{a8:Nat}{o:Oper}{hg:f8×Bool}{bM:jX}(h:uT P N ops s a8 o hg=some bM)(cp:s.nk a8):(s.aw o bM).nk (a8+1):=by
 have key : ∀r,(∀p∈r.hN,p.1=a8\/(s.a7 p.1).isSome=true)->(s.aw o r).nk (a8+1):=by
  intro r ak q a0;unfold S.aw;rw[S.yY,Xj]
  ·exact cp q (by omega)
  rintro p ai rfl;rcases ak p ai with e|e
  ·omega
  rw[cp _ (by omega)] at e;simp at e
 have aaB : ∀r,xF P s a8 o hg.1=some r-> ∀p∈r.hN,p.1=a8\/(s.a7 p.1).isSome=true:=by
  intro r ak;unfold xF at ak;split at ak
  ·split at ak
   ·rename_i a1;simp only[dA] at ak;subst ak;intro p ai;have:=List.all_eq_true.1 a1 p ai;simpa using this
   simp at ak
  simp at ak
 unfold uT at h;split at h
 ·simp at h
 split at h
 ·exact key bM (aaB bM h)
 split at h
 ·simp at h
 split at h
 ·split at h
  ·split at h
   ·rename_i r ak;simp only[dA] at h;subst h;exact key _ (aaB r ak)
   simp at h
  simp only[dA] at h;subst h;exact key _ (by simp)
 ·simp only[dA] at h;subst h;exact key _ (by simp)
 simp at h
theorem V9 {P:Program}{ops:Array Oper}{Q:Exit->Act->World->Prop}{g:G}: ∀(l:List Oper) (dV:List (f8×Bool)) (s cg:S) (a8 i:Nat) (al:List Prop),
 (∀j o,l[j]? = some o->ops[i+j]? = some o)->uL P g.N ops l dV s a8=some (cg,al)->(∀p∈al,p)->s.nk a8 ->
 (∀cc eK b5,dZ g cg cc eK b5->Q .normal eK b5)-> ∀aD a w,dZ g s aD a w->wpOps P ops Q ((List.range l.length).map (i + ·)) a w
 | [],[],s,cg,a8,i,al,_,h,_,_,zE,aD,a,w,ak=>by simp[uL] at h;obtain⟨rfl,rfl⟩:=h;exact zE aD a w ak
 | o::l,hg::dV,s,cg,a8,i,al,aZ,h,bC,cp,zE,aD,a,w,ak=>by
  simp only[uL] at h;split at h;rotate_left
  ·simp at h
  rename_i bM ay;split at h
  ·rename_i s2 I7 h2
   simp only[dA,dF] at h;obtain⟨rfl,rfl⟩:=h;have e:(List.range (o::l).length).map (i + ·)=i::(List.range l.length).map (i+1 + ·):=(by rw[dI,List.range_succ_eq_map,List.map_cons,List.map_map];congr 1;apply arE;intro x _;simp[Function.comp];omega);rw[e,wpOps_cons];refine Wo ak (cp a8 (dE _)) (by simpa using aZ 0 o rfl) ay (fun p ai=>bC p (by simp[ai])) fun cc eK b5 jQ=> ?_
   exact V9 l dV (s.aw o bM) s2 (a8+1) (i+1) I7 (fun j cD ap=>by rw[show i+1+j=i+(j+1) by omega];exact aZ (j+1) cD (by simpa using ap)) h2 (fun p ai=>bC p (by simp[ai]))
    (KR ay cp) zE cc eK b5 jQ
  simp at h
 | [],_::_,_,_,_,_,_,_,h,_,_,_,_,_,_,_=>by simp[uL] at h
 | _::_,[],_,_,_,_,_,_,h,_,_,_,_,_,_,_=>by simp[uL] at h
end Go.VL
