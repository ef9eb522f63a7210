/- Lemmas, plain functions of the program, and what they answer. No condition. -/
import Derived.Below
import Derived.Eval
import Derived.KernelRfl
import Derived.Laws.Append
import Derived.Laws.AppendOwn
import Derived.Laws.BytesString
import Derived.Laws.Cells
import Derived.Laws.CopyRow
import Derived.Laws.Entries
import Derived.Laws.MakeOwn
import Derived.Laws.OwnMore
import Derived.Laws.Rows
import Derived.Laws.Slices
import Derived.Laws.Tables
import Derived.Orders
namespace Go.VL
set_option linter.unusedVariables false
set_option linter.unusedSimpArgs false
open Go
abbrev ar:=List Int
theorem dw{c:Prop}{h:Decidable c}(i:c){α:Sort _}{t e:α}:ite c t e=t:=if_pos i
theorem dx{α β:Type _}(a:α)(f:α->Option β):(some a).bind f=f a:=rfl
theorem dy(n:Nat):(n:Int).toNat=n:=rfl
theorem dz{α:Type _}{l:List α}{i:Nat}(h:i<l.length):l[i]? = some l[i]:=List.getElem?_eq_getElem h
theorem dA{c:Prop}{h:Decidable c}(i:¬c){α:Sort _}{t e:α}:ite c t e=e:=if_neg i
theorem dB{α:Type _}(a b:α):(some a=some b)=(a=b):=Option.some.injEq a b
theorem dC{α β:Type _}:bind=@Option.bind α β:=rfl
theorem dD(n:Nat):n<=n:=Nat.le_refl n
theorem dE{α:Type _}{a b:List α}:(a++b).length=a.length+b.length:=List.length_append
theorem dF{α β:Type _}(a:α)(b:β)(c:α)(d:β):((a,b)=(c,d))=(a=c/\b=d):=Prod.mk.injEq a b c d
theorem dG(n:Nat):0+n=n:=Nat.zero_add n
theorem dH{α:Type _}{l:List α}{i:Nat}{a:α}(e:l[i]? = some a):a∈l:=List.mem_of_getElem? e
theorem dI{α:Type _}{a:α}{l:List α}:(a::l).length=l.length+1:=rfl
theorem dJ{α:Type _}{a b:α}(h:some a=some b):a=b:=Option.some.inj h
theorem dK{α β:Type _}{f:α->β}{l:List α}{i:Nat}:(l.map f)[i]? =l[i]?.map f:=List.getElem?_map
theorem dL{a b c:Int}(h:a<=b)(i:0<=c):c*a<=c*b:=Int.mul_le_mul_of_nonneg_left h i
theorem dM{α:Type _}{l:List α}:l.length=0↔l=[]:=List.length_eq_zero_iff
theorem dN(a b:Bool):((a&&b)=true)=(a=true/\b=true):=Bool.and_eq_true a b
theorem dO{α:Type _}{l:List α}{i:Nat}{a:α}:l.getD i a=l[i]?.getD a:=List.getD_eq_getElem?_getD
theorem dP{α β:Type _}{b:α}{x:Option β}{f:β->α}:Option.map f x=some b↔∃a,x=some a/\f a=b:=Option.map_eq_some_iff
theorem dQ{α:Type _}:([]:List α).length=0:=rfl
theorem dR{α:Type _}{l:List α}{i:Nat}(h:l.length<=i):l[i]? =none:=List.getElem?_eq_none h
theorem dS{α:Type _}{b:α}{l:List α}{a:α}:a∈b::l↔a=b\/a∈l:=List.mem_cons
theorem dT{α:Type _}{l:List α}{i j:Nat}:(l.take i)[j]? =if j<i then l[j]? else none:=List.getElem?_take
theorem apR{α β:Type _}(a:α)(f:α->β):Option.map f (some a)=some (f a):=rfl
theorem apS :(false=true)=False:=Bool.false_eq_true
theorem apT{α:Type _}{l:List α}{i j:Nat}{a:α}:(l.set i a)[j]? =if i=j then if i<l.length then some a else none else l[j]?:=List.getElem?_set
theorem apU{α:Type _}{l:Array α}{i:Nat}(h:i<l.size):l[i]? =some l[i]:=Array.getElem?_eq_getElem h
theorem apV{n m:Nat}(k:Nat)(h:n<=m):n*k<=m*k:=Nat.mul_le_mul_right k h
theorem apW{α:Type _}{i:Nat}{l:List α}(h:l.length<=i):l.take i=l:=List.take_of_length_le h
theorem apX{α:Type _}{i:Nat}{a:α}{l:List α}:l[i]? =some a↔∃h:i<l.length,l[i]=a:=List.getElem?_eq_some_iff
theorem apY{α:Type _}{l m:List α}{i:Nat}(h:i<l.length):(l++m)[i]? =l[i]?:=List.getElem?_append_left h
theorem apZ{α:Type _}{l:List α}{m:List (List α)}:(l::m).flatten=l++m.flatten:=rfl
theorem ap0{α:Type _}{l m:List α}{i:Nat}(h:l.length<=i):(l++m)[i]? =m[i-l.length]?:=List.getElem?_append_right h
theorem ap1{α:Type _}{l m:List α}(h:∀(i:Nat),l[i]? =m[i]?):l=m:=List.ext_getElem? h
theorem ap2{α:Type _}{a:α}:¬a∈([]:List α):=List.not_mem_nil
theorem ap3{α:Type _}{l:Array α}{i:Nat}{d:α}:l.getD i d=l[i]?.getD d:=Array.getD_eq_getD_getElem?
theorem ap4{α β:Type _}{l:List α}(f:α->β):(l.map f).length=l.length:=List.length_map f
theorem ap5{α:Type _}{l:List α}{i j:Nat}:(l.drop i)[j]? =l[i+j]?:=List.getElem?_drop
theorem ap6{α:Type _}{a:α}{l:List α}(h:a∈l):∃i:Nat,l[i]? =some a:=List.getElem?_of_mem h
theorem ap7{α:Type _}{i:Nat}{b:α}{l:Array α}:l[i]? =some b↔∃h:i<l.size,l[i]=b:=Array.getElem?_eq_some_iff
theorem ap8{α β:Type _}{l:List α}{f g:α->β}(h:∀a,a∈l->f a=g a):l.map f=l.map g:=List.map_congr_left h
theorem ap9{α:Type _}{l:List α}:0<l.length↔l≠[]:=List.length_pos_iff
theorem aqa(a b:Int):((a*b:Int):Rat)=a*b:=Rat.intCast_mul a b
theorem aqb{a b:Rat}(h:0<=a)(i:0<=b):0<=a*b:=Rat.mul_nonneg h i
inductive aF where
 | dead
 | b (x:Bool)
 | n (k:IntKind) (x:Int)
 | s (x:ByteArray)
 | ka
 | fg
 | kd
 | ref (r k i off:Nat)
 | br (r k cb len:Nat)
 | kx (r c sz:Nat) (h:Option (Nat×Nat))
 | isl (sz:Nat) (es:List (List aF))
 | fX (sz:Nat) (es:List (List aF)) (i off:Nat)
 | f8 (sz:Nat) (c:Option (List aF))
 | agg (c:List aF)
 | dd (vs:List aF)
 | fn (f:Nat) (cap:List aF)
 deriving Inhabited
inductive hr where
 | live|ky|gone
 deriving DecidableEq,Inhabited
structure aS where
 sz:Nat
 es:List (List aF)
 cL:hr
 deriving Inhabited
structure S where
 E:Nat->aF
 a8:Nat->Option (List aS)
abbrev l8 (v:Value):Bool:=v.oneCell'
abbrev gE:=Nat->Nat->Option (Nat×Nat)
abbrev kL:=Nat->Nat->Option (Nat×Option (Nat×Nat))
abbrev kX:=Nat->Nat->Prop
inductive Pure:aF->Prop
 | dead:Pure .dead
 | b (x:Bool):Pure (.b x)
 | n (k:IntKind) (x:Int):Pure (.n k x)
 | s (x:ByteArray):Pure (.s x)
 | ka:Pure .ka
 | fg:Pure .fg
 | kd:Pure .kd
 | isl {sz:Nat} {es:List (List aF)} (h : ∀e∈es,∀x∈e,Pure x):Pure (.isl sz es)
 | fX {sz i off:Nat} {es:List (List aF)} (h : ∀e∈es,∀x∈e,Pure x):Pure (.fX sz es i off)
 | r9 (sz:Nat):Pure (.f8 sz none)
 | rq {sz:Nat} {c:List aF} (h : ∀x∈c,Pure x):Pure (.f8 sz (some c))
 | agg {c:List aF} (h : ∀x∈c,Pure x):Pure (.agg c)
 | dd {c:List aF} (h : ∀x∈c,Pure x):Pure (.dd c)
 | fn {f:Nat} {c:List aF} (h : ∀x∈c,Pure x):Pure (.fn f c)
def j6 (es:List (List aF)):Prop:= ∀e∈es,∀x∈e,Pure x
inductive Rel (w:World) (ok:Nat->Prop) (bg:kX) (bn:kL):aF->Value->Prop
 | dead (v:Value):Rel w ok bg bn .dead v
 | b (x:Bool):Rel w ok bg bn (.b x) (.bool x)
 | n (k:IntKind) (x:Int):Rel w ok bg bn (.n k x) (.int k x)
 | s (x:ByteArray):Rel w ok bg bn (.s x) (.string x)
 | ka:Rel w ok bg bn .ka (.pointer none)
 | fg:Rel w ok bg bn .fg (.slice none 0 0)
 | kd (a:Addr) (c:Nat):Rel w ok bg bn .kd (.slice (some a) 0 c)
 | sy {r k i off:Nat} (a:Option Addr) (hu:bg r k) (h : ∀sz p,bn r k≠some (sz,some p)):Rel w ok bg bn (.ref r k i off) (.pointer a)
 | ref {r k i off sz ff m:Nat} (hu:bg r k) (h:bn r k=some (sz,some (ff,m))):Rel w ok bg bn (.ref r k i off) (.pointer (some ⟨ff,i*sz+off,none⟩))
 | pu {r k cb len:Nat} (a:Option Addr) (l c:Nat) (hu:bg r k) (h:bn r k=none):Rel w ok bg bn (.br r k cb len) (.slice a l c)
 | pT {r k sz:Nat} (hu:bg r k) (h:bn r k=some (sz,none)):Rel w ok bg bn (.br r k 0 0) (.slice none 0 0)
 | br {r k cb len sz ff m c:Nat} {a:Option Addr} (hu:bg r k) (h:bn r k=some (sz,some (ff,m))) (aR:len<=c) (a0:c<9223372036854775808)
  (hm:(cb+c)*sz=m/\(c=0\/a=some ⟨ff,cb*sz,none⟩)):Rel w ok bg bn (.br r k cb len) (.slice a len c)
 | o0 {r c sz:Nat} {v:Value} (h:Rel w ok bg bn (.isl sz []) v):Rel w ok bg bn (.kx r c sz none) v
 | p7 {r c sz k n:Nat} {v:Value} (h:Rel w ok bg bn (.br r (k+c) 0 n) v):Rel w ok bg bn (.kx r c sz (some (k,n))) v
 | kk (sz:Nat) (a:Option Addr) (c:Nat) (h:a=none->c=0):Rel w ok bg bn (.isl sz []) (.slice a 0 c)
 | isl {sz:Nat} {es:List (List aF)} {ff off c:Nat} (cs:Nat->Value) (a3:ok ff) (ah:j6 es) (aR : ∀e∈es,e.length=sz) (a0:es.length<=c)
  (hw : ∀(j:Nat) x,es.flatten[j]? = some x->w.cell? ⟨ff,off+j,none⟩=some (cs j)) (lW : ∀(j:Nat) x,es.flatten[j]? = some x->l8 (cs j)=true)
  (aj : ∀(j:Nat) x,es.flatten[j]? = some x->Rel w ok bg bn x (cs j)):Rel w ok bg bn (.isl sz es) (.slice (some ⟨ff,off,none⟩) es.length c)
 | fX {sz:Nat} {es:List (List aF)} {ff o i off:Nat} (cs:Nat->Value) (a3:ok ff) (ah:j6 es) (aR : ∀e∈es,e.length=sz)
  (hw : ∀(j:Nat) x,es.flatten[j]? = some x->w.cell? ⟨ff,o+j,none⟩=some (cs j)) (lW : ∀(j:Nat) x,es.flatten[j]? = some x->l8 (cs j)=true)
  (aj : ∀(j:Nat) x,es.flatten[j]? = some x->Rel w ok bg bn x (cs j)):Rel w ok bg bn (.fX sz es i off) (.pointer (some ⟨ff,o+(i*sz+off),none⟩))
 | r9 (sz:Nat):Rel w ok bg bn (.f8 sz none) (.pointer none)
 | rq {sz:Nat} {c:List aF} {v:Value} (h:Rel w ok bg bn (.fX sz [c] 0 0) v):Rel w ok bg bn (.f8 sz (some c)) v
 | agg {c:List aF} (vs:List Value) (aR:vs.length=c.length) (lW : ∀(j:Nat) v,vs[j]? = some v->l8 v=true)
  (aj : ∀(j:Nat) x v,c[j]? = some x->vs[j]? = some v->Rel w ok bg bn x v):Rel w ok bg bn (.agg c) (.agg vs.toArray)
 | dd {c:List aF} (vs:List Value) (aR:vs.length=c.length)
  (aj : ∀(j:Nat) x v,c[j]? = some x->vs[j]? = some v->Rel w ok bg bn x v):Rel w ok bg bn (.dd c) (.tuple vs.toArray)
 | fn {f:Nat} {c:List aF} (vs:List Value) (aR:vs.length=c.length)
  (aj : ∀(j:Nat) x v,c[j]? = some x->vs[j]? = some v->Rel w ok bg bn x v):Rel w ok bg bn (.fn f c) (.func (.func f) #[] vs.toArray)
theorem Rel.mono {w bZ:World}{ok mV:Nat->Prop}{bg o6:kX}{bn ox:kL}{a:aF}{v:Value}(h:Rel w ok bg bn a v)
 (mb : ∀b,ok b->mV b) (hw : ∀b,ok b->bZ.heap[b]? = w.heap[b]?)
 (k5 : ∀r k,bg r k->o6 r k) (nt : ∀r k,bg r k->ox r k=bn r k\/ox r k=none):Rel bZ mV o6 ox a v:=by
 have lW : ∀b o,ok b->bZ.cell? ⟨b,o,none⟩=w.cell? ⟨b,o,none⟩:=fun b o a3=>World.cell?_of_block (hw b a3)
 induction h with
 | dead v=>exact .dead v
 | b x=>exact .b x
 | n k x=>exact .n k x
 | s x=>exact .s x
 | ka=>exact .ka
 | fg=>exact .fg
 | kd a c=>exact .kd a c
 | @sy r k i off a hu h =>
  refine .sy a (k5 r k hu) fun sz p=> ?_;rcases nt r k hu with e|e<;>rw[e]
  ·exact h sz p
  simp
 | @ref r k i off sz ff m hu h =>
  rcases nt r k hu with e|e
  ·exact .ref (k5 r k hu) (e.trans h)
  exact .sy _ (k5 r k hu) fun sz p=>by rw[e];simp
 | @pu r k cb len a l c hu h=>exact .pu a l c (k5 r k hu) (by rcases nt r k hu with e|e<;>rw[e];exact h)
 | @pT r k sz hu h =>
  rcases nt r k hu with e|e
  ·exact .pT (k5 r k hu) (e.trans h)
  exact .pu _ _ _ (k5 r k hu) e
 | @br r k cb len sz ff m c a hu h aR a0 hm =>
  rcases nt r k hu with e|e
  ·exact .br (k5 r k hu) (e.trans h) aR a0 hm
  exact .pu _ _ _ (k5 r k hu) e
 | o0 h ih=>exact .o0 ih
 | p7 h ih=>exact .p7 ih
 | kk sz a c h=>exact .kk sz a c h
 | isl cs a3 ah aR a0 HV jJ aj ih=>exact .isl cs (mb _ a3) ah aR a0 (fun j x U=>(lW _ _ a3).trans (HV j x U)) jJ ih
 | fX cs a3 ah aR HV jJ aj ih=>exact .fX cs (mb _ a3) ah aR (fun j x U=>(lW _ _ a3).trans (HV j x U)) jJ ih
 | r9 sz=>exact .r9 sz
 | rq h ih=>exact .rq ih
 | agg vs aR jJ aj ih=>exact .agg vs aR jJ ih
 | dd vs aR aj ih=>exact .dd vs aR ih
 | fn vs aR aj ih=>exact .fn vs aR ih
structure G where
 og:World
 A:Nat->Prop
 sj:Nat->Prop
 N:Nat
 m:Nat
 rA:kX
 uL:kL
def S.bg (s:S)(r k:Nat):Prop:=k<((s.a8 r).getD []).length
def d8 (row:Option (List aS))(k:Nat):Option aS :=
 match row with
 | some l=>match l[k]? with
  | some o=>if o.cL = .gone then none else some o
  | none=>none
 | none=>none
def S.ao (s:S)(r k:Nat):Option aS:=d8 (s.a8 r) k
def S.bn (s:S)(aG:gE):kL:=fun r k=>(s.ao r k).map fun o=>(o.sz,aG r k)
def S.n5 (s:S)(aG:gE)(b:Nat):Prop:= ∃r k o m,s.ao r k=some o/\o.cL = .live/\aG r k=some (b,m)
def S.ok (s:S)(g:G)(aG:gE)(w:World)(b:Nat):Prop :=
 b<w.heap.size/\(g.A b\/g.og.heap.size<=b\/g.sj b)/\ ¬s.n5 aG b
def kS (w:World)(ok:Nat->Prop)(bg:kX)(bn:kL)(o:aS):Option (Nat×Nat)->Prop
 | none=>o.es=[]
 | some (ff,m)=> ∃c fG,w.heap[ff]? = some (.cells c fG (0,0))/\c.size=m/\(∀e∈o.es,e.length=o.sz) /\
  ∀(j:Nat) x,o.es.flatten[j]? = some x-> ∃v,c[j]? = some v/\l8 v=true/\Rel w ok bg bn x v
structure Hx (g:G) (w:World):Prop where
 os:w.os=g.og.os
 tape:w.tape=g.og.tape
 output:w.output=g.og.output
 size:g.og.heap.size<=w.heap.size
 block : ∀b,b<g.og.heap.size-> ¬g.sj b->w.heap[b]? = g.og.heap[b]?
structure jX (g:G) (s:S) (aG:gE) (w:World):Prop where
 obj : ∀r k o,s.ao r k=some o->kS w (s.ok g aG w) s.bg (s.bn aG) o (aG r k)
 inj : ∀r k o fH ea cp b m aH,s.ao r k=some o->s.ao fH ea=some cp->aG r k=some (b,m)->aG fH ea=some (b,aH)->r=fH/\k=ea
 own : ∀r k o b m,s.ao r k=some o->aG r k=some (b,m)->g.og.heap.size<=b\/g.sj b
 iC:Hx g w
 mlt : ∀b,g.sj b->b<g.og.heap.size
 pE : ∀b,g.A b->b<g.og.heap.size
 stay : ∀j k,g.rA j k->s.bg j k/\(s.bn aG j k=g.uL j k\/s.bn aG j k=none)
 low : ∀j k,g.rA j k->j<g.m
structure dh (g:G) (s:S) (aG:gE) (a:Act) (w:World):Prop extends jX g s aG w where
 env : ∀t,Rel w (s.ok g aG w) s.bg (s.bn aG) (s.E t) (a.tmps.getD t undef)
 defers:a.defers=[]
 lz:g.N<=a.tmps.size
def ofValue:Value->aF
 | .bool x=> .b x
 | .int k x=> .n k x
 | .string x=> .s x
 | .pointer none=> .ka
 | .slice none 0 0=> .fg
 | _=> .dead
theorem Vn {w:World}{ok:Nat->Prop}{bg:kX}{bn:kL}(v:Value):Rel w ok bg bn (ofValue v) v:=by unfold ofValue;split<;>constructor
def fN (E:Nat->aF):Operand->aF
 | .tmp t=>E t
 | .const v=>ofValue v
 | .global _=> .dead
 | .func f=> .fn f []
theorem dh.eval {g:G}{s:S}{aG:gE}{a:Act}{w:World}(h:dh g s aG a w)(x:Operand):
 Rel w (s.ok g aG w) s.bg (s.bn aG) (fN s.E x) (a.eval x):=by
 cases x with
 | tmp t=>exact h.env t
 | const v=>exact Vn v
 | global g=>exact .dead _
 | func f=>exact .fn [] rfl (fun j x v U=>by simp at U)
def aF.cells:aF->List aF
 | .agg c=>c
 | x=>[x]
def aF.one:aF->Bool
 | .dead | .agg _ | .dd _=>false
 | _=>true
def aF.DH:aF->Bool
 | .dead | .dd _=>false
 | _=>true
theorem aF.Vo {v:aF}(h:v.DH=true):v.one=true\/ ∃c,v = .agg c:=by cases v<;>first|exact .inl rfl|exact .inr ⟨_,rfl⟩|simp[aF.DH] at h
theorem Rel.l8 {w:World}{ok:Nat->Prop}{bg:kX}{bn:kL}{a:aF}{v:Value}(h:Rel w ok bg bn a v)(bF:a.one=true):l8 v=true:=by
 cases h with
 | rq h=>cases h;rfl
 | o0 h=>cases h<;>rfl
 | p7 h=>cases h<;>rfl
 | _=>first|rfl|simp[aF.one] at bF
theorem Rel.cellsOf {w:World}{ok:Nat->Prop}{bg:kX}{bn:kL}{a:aF}{v:Value}(h:Rel w ok bg bn a v)(bF:a.one=true\/ ∃c,a = .agg c):
 ∃vs:List Value,v.cells=vs.toArray/\vs.length=a.cells.length/\(∀(j:Nat) x,vs[j]? = some x->VL.l8 x=true) /\
  ∀(j:Nat) x u,a.cells[j]? = some x->vs[j]? = some u->Rel w ok bg bn x u:=by
 rcases bF with bF|⟨c,rfl⟩
 ·have a0:=h.l8 bF
  refine⟨[v],?_,?_,?_,?_⟩
  ·cases v<;>first|rfl|simp[VL.l8,Value.oneCell'] at a0
  ·cases a<;>first|rfl|simp[aF.one] at bF
  ·intro j x U
   cases j with
   | zero=>simp at U;subst U;exact a0
   | succ j=>simp at U
  intro j x u U hu;have e:a.cells=[a]:=by cases a<;>first|rfl|simp[aF.one] at bF
  rw[e] at U
  cases j with
  | zero=>simp at U hu;subst U;subst hu;exact h
  | succ j=>simp at U
 cases h with
 | agg vs aR lW aj=>exact⟨vs,rfl,aR,lW,aj⟩
def S.put (s:S)(dst:Option Tmp)(v:aF):S :=
 match dst with
 | some t=>{s with E:=fun u=>if u=t then v else s.E u}
 | none=>s
def S.setRow (s:S)(r:Nat)(row:List aS):S:={s with a8:=fun q=>if q=r then some row else s.a8 q}
@[simp] theorem S.x6 (s:S) (dst:Option Tmp) (v:aF):(s.put dst v).a8=s.a8:=by cases dst<;>rfl
@[simp] theorem S.aoo (s:S) (r:Nat) (row:List aS):(s.setRow r row).E=s.E:=rfl
theorem GK {s b8:S}(h:b8.a8=s.a8):b8.ao=s.ao:=by funext r k;simp[S.ao,h]
theorem DI {s b8:S}(h:b8.a8=s.a8):b8.bg=s.bg:=by funext r k;simp[S.bg,h]
theorem DJ {s b8:S}(h:b8.a8=s.a8)(aG:gE):b8.bn aG=s.bn aG:=by unfold S.bn;rw[GK h]
theorem afF {s b8:S}(h:b8.a8=s.a8)(aG:gE):b8.n5 aG=s.n5 aG:=by unfold S.n5;rw[GK h]
theorem GL {s b8:S}(h:b8.a8=s.a8)(g:G)(aG:gE)(w:World):b8.ok g aG w=s.ok g aG w:=by funext b;unfold S.ok;rw[afF h]
theorem jX.congr {g:G}{s b8:S}{aG:gE}{w:World}(h:jX g s aG w)(e:b8.a8=s.a8):jX g b8 aG w where
 obj:=by rw[GK e,DI e,DJ e,GL e];exact h.obj
 inj:=by rw[GK e];exact h.inj
 own:=by rw[GK e];exact h.own
 iC:=h.iC
 mlt:=h.mlt
 pE:=h.pE
 stay:=by rw[DI e,DJ e];exact h.stay
 low:=h.low
theorem ah7 (a:Act)(dst:Option Tmp)(v:Value)(t:Nat)(fU:∀d,dst=some d->d<a.tmps.size):
 (a.put dst v).tmps.getD t undef=if dst=some t then v else a.tmps.getD t undef:=by
 cases dst with
 | none=>simp[Act.put]
 | some d =>
  have:=fU d rfl;simp only[Act.put,ap3,Array.getElem?_setIfInBounds,dB];by_cases e:d=t
  ·subst e;simp[this]
  simp[e]
theorem dh.put {g:G}{s:S}{aG:gE}{a:Act}{w:World}(h:dh g s aG a w)(dst:Option Tmp){x:aF}{v:Value}
 (bD : ∀d,dst=some d->d<g.N) (aj:Rel w (s.ok g aG w) s.bg (s.bn aG) x v):dh g (s.put dst x) aG (a.put dst v) w where
 tojX:=h.tojX.congr (S.x6 s dst x)
 env:=by
  have e:=S.x6 s dst x;rw[GL e,DI e,DJ e];intro t;rw[ah7 a dst v t fun d sR=>Nat.lt_of_lt_of_le (bD d sR) h.lz]
  cases dst with
  | none=>simpa [S.put] using h.env t
  | some d =>
   simp only[S.put,dB];by_cases e:t=d
   ·subst e;simpa using aj
   rw[dA e,dA (Ne.symm e)];exact h.env t
 defers:=by cases dst<;>exact h.defers
 lz:=by cases dst<;>simpa [Act.put] using h.lz
structure Step (g:G) (s:S) (aG:gE) (w:World) (b8:S) (b6:gE) (bZ:World):Prop where
 bg : ∀r k,s.bg r k->b8.bg r k
 bn : ∀r k,s.bg r k->b8.bn b6 r k=s.bn aG r k\/b8.bn b6 r k=none
 live : ∀b,b8.n5 b6 b->s.n5 aG b\/w.heap.size<=b
 heap : ∀b,b<w.heap.size-> ¬s.n5 aG b->bZ.heap[b]? = w.heap[b]?
 size:w.heap.size<=bZ.heap.size
theorem Step.ok {g:G}{s b8:S}{aG b6:gE}{w bZ:World}(h:Step g s aG w b8 b6 bZ)(b:Nat)(a3:s.ok g aG w b):b8.ok g b6 bZ b :=
 ⟨Nat.lt_of_lt_of_le a3.1 h.size,a3.2.1,fun aR=>by
  rcases h.live b aR with h1|h1
  ·exact a3.2.2 h1
  exact absurd a3.1 (by omega)⟩
theorem Step.rel {g:G}{s b8:S}{aG b6:gE}{w bZ:World}(h:Step g s aG w b8 b6 bZ){x:aF}{v:Value}
 (aj:Rel w (s.ok g aG w) s.bg (s.bn aG) x v):Rel bZ (b8.ok g b6 bZ) b8.bg (b8.bn b6) x v :=
 aj.mono h.ok (fun b a3=>h.heap b a3.1 a3.2.2) h.bg h.bn
theorem Step.obj {g:G}{s b8:S}{aG b6:gE}{w bZ:World}(h:Step g s aG w b8 b6 bZ){o:aS}{p:Option (Nat×Nat)}
 (ah : ∀b m,p=some (b,m)->bZ.heap[b]? = w.heap[b]?) (ap:kS w (s.ok g aG w) s.bg (s.bn aG) o p) :
 kS bZ (b8.ok g b6 bZ) b8.bg (b8.bn b6) o p:=by
 cases p with
 | none=>exact ap
 | some q =>
  obtain⟨b,m⟩:=q;obtain⟨c,fG,h1,h2,J,ak⟩:=ap;refine⟨c,fG,(ah b m rfl).trans h1,h2,J,fun j x U=> ?_⟩;obtain⟨v,e1,e2,bG⟩:=ak j x U;exact⟨v,e1,e2,h.rel bG⟩
theorem Step.stay {g:G}{s b8:S}{aG b6:gE}{w bZ:World}(h:Step g s aG w b8 b6 bZ)
 (bM : ∀j k,g.rA j k->s.bg j k/\(s.bn aG j k=g.uL j k\/s.bn aG j k=none)) : ∀j k,g.rA j k->b8.bg j k/\(b8.bn b6 j k=g.uL j k\/b8.bn b6 j k=none):=by
 intro j k ay;obtain⟨h1,h2⟩:=bM j k ay;refine⟨h.bg j k h1,?_⟩;rcases h.bn j k h1 with e|e
 ·rw[e];exact h2
 exact .inr e
theorem Hx.step {g:G}{w bZ:World}(h:Hx g w)(h1:bZ.os=w.os)(h2:bZ.tape=w.tape)(J:bZ.output=w.output)(ak:w.heap.size<=bZ.heap.size)
 (ax : ∀b,b<g.og.heap.size-> ¬g.sj b->bZ.heap[b]? = w.heap[b]?):Hx g bZ :=
 ⟨h1.trans h.os,h2.trans h.tape,J.trans h.output,Nat.le_trans h.size ak,fun b a3 hm=>(ax b a3 hm).trans (h.block b a3 hm)⟩
theorem nI (s:S)(r:Nat)(row:List aS)(q k:Nat):(s.setRow r row).ao q k=if q=r then d8 (some row) k else s.ao q k:=by unfold S.ao S.setRow;by_cases e:q=r<;>simp[e]
theorem ps (s:S)(r:Nat)(row:List aS)(q k:Nat):(s.setRow r row).bg q k↔(if q=r then k<row.length else s.bg q k):=by unfold S.bg S.setRow;by_cases e:q=r<;>simp[e]
theorem Kd {s:S}{r k:Nat}{o:aS}(h:s.ao r k=some o):s.bg r k:=by
 unfold S.ao d8 at h;unfold S.bg
 cases aj:s.a8 r with
 | none=>rw[aj] at h;simp at h
 | some l =>
  rw[aj] at h;simp only at h;rcases Nat.lt_or_ge k l.length with h1|h1
  ·simpa using h1
  rw[dR h1] at h;simp at h
theorem C8 {s:S}{r:Nat}(h:s.a8 r=none)(k:Nat): ¬s.bg r k:=by simp[S.bg,h]
theorem JM (s:S){r:Nat}{l row:List aS}(aj:s.a8 r=some l)(aR:l.length<=row.length)(q k:Nat)(h:s.bg q k):(s.setRow r row).bg q k:=by
 rw[ps];by_cases e:q=r
 ·subst e;rw[dw rfl];simp[S.bg,aj] at h;omega
 rw[dA e];exact h
def gE.set (aG:gE)(r k:Nat)(p:Option (Nat×Nat)):gE:=fun q j=>if q=r/\j=k then p else aG q j
theorem oj (o:aS)(k:Nat):d8 (some [o]) k=if k=0/\o.cL≠ .gone then some o else none:=by
 unfold d8
 cases k with
 | zero=>by_cases h:o.cL = .gone<;>simp[h]
 | succ k=>simp
theorem Rel.drew {w:World}{ok:Nat->Prop}{bg:kX}{bn:kL}{x:aF}{v:Value}(h:Rel w ok bg bn x v):Rel w.drew ok bg bn x v :=
 h.mono (fun _ h=>h) (fun _ _=>rfl) (fun _ _ h=>h) (fun _ _ _=> .inl rfl)
theorem kS.drew {w:World}{ok:Nat->Prop}{bg:kX}{bn:kL}{o:aS}{p:Option (Nat×Nat)}(h:kS w ok bg bn o p):kS w.drew ok bg bn o p:=by
 cases p with
 | none=>exact h
 | some q =>
  obtain⟨c,fG,h1,h2,J,ak⟩:=h;exact⟨c,fG,h1,h2,J,fun j x U=>let ⟨v,a,b,c⟩:=ak j x U;⟨v,a,b,c.drew⟩⟩
theorem jX.drew {g:G}{s:S}{aG:gE}{w:World}(h:jX g s aG w):jX g s aG w.drew :=
 {obj:=fun r k o ap=>(h.obj r k o ap).drew,inj:=h.inj,own:=h.own,iC:=⟨h.iC.os,h.iC.tape,h.iC.output,h.iC.size,h.iC.block⟩,mlt:=h.mlt,pE:=h.pE,stay:=h.stay,low:=h.low}
theorem dh.drew {g:G}{s:S}{aG:gE}{a:Act}{w:World}(h:dh g s aG a w):dh g s aG a w.drew where
 tojX:=h.tojX.drew
 env:=fun t=>(h.env t).drew
 defers:=h.defers
 lz:=h.lz
theorem dh.alloc {g:G}{s:S}{aG:gE}{a:Act}{w:World}(h:dh g s aG a w){r:Nat}(aj:s.a8 r=none)(o:aS)(a2:o.cL = .live)
 (c:Array Value) (fG:TypeId) (hlen : ∀e∈o.es,e.length=o.sz)
 (a0 : ∀(j:Nat) x,o.es.flatten[j]? = some x-> ∃v,c[j]? = some v/\l8 v=true/\Rel w (s.ok g aG w) s.bg (s.bn aG) x v) :
 ∃b6,b6 r 0=some (w.heap.size,c.size)/\dh g (s.setRow r [o]) b6 a (w.alloc (.cells c fG)) /\
  ∀x v,Rel w (s.ok g aG w) s.bg (s.bn aG) x v->Rel (w.alloc (.cells c fG)) ((s.setRow r [o]).ok g b6 (w.alloc (.cells c fG))) (s.setRow r [o]).bg ((s.setRow r [o]).bn b6) x v:=by
 have nY : ∀q k,q≠r->(aG.set r 0 (some (w.heap.size,c.size))) q k=aG q k:=fun q k a1=>by simp[gE.set,a1]
 have bt : ∀q k,q≠r->(s.setRow r [o]).ao q k=s.ao q k:=fun q k a1=>by rw[nI,dA a1]
 have Em : ∀k,(s.setRow r [o]).ao r k=if k=0 then some o else none:=fun k=>by rw[nI,dw rfl,oj];simp[a2]
 have wZ : ∀q k p b m,s.ao q k=some p->aG q k=some (b,m)->b<w.heap.size:=fun q k p b m ah a1=>by have:=h.obj q k p ah;rw[a1] at this;obtain⟨ez,oM,gQ,_⟩:=this;exact(ap7.1 gQ).1
 have da:Step g s aG w (s.setRow r [o]) (aG.set r 0 (some (w.heap.size,c.size))) (w.alloc (.cells c fG)):=by
  refine⟨fun q k a1=>(ps _ _ _ _ _).2 (by rw[dA (by rintro rfl;exact C8 aj k a1)];exact a1),fun q k a1=> ?_,fun b a3=> ?_,fun b a3 _=>heap_alloc_old w _ b a3,by simp⟩
  ·have di:q≠r:=(by rintro rfl;exact C8 aj k a1);left;simp only[S.bn,bt q k di,nY q k di]
  obtain⟨q,k,p,m,h1,h2,J⟩:=a3;by_cases e:q=r
  ·subst e
   rw[Em] at h1;by_cases e0:k=0
   ·subst e0;simp[gE.set] at J;right;omega
   simp[e0] at h1
  rw[bt q k e] at h1;rw[nY q k e] at J;exact .inl ⟨q,k,p,m,h1,h2,J⟩
 refine⟨aG.set r 0 (some (w.heap.size,c.size)),by simp[gE.set],?_,fun x v=>da.rel⟩;refine {tojX:=⟨?_,?_,?_,?_,h.mlt,h.pE,da.stay h.stay,h.low⟩,env:=fun t=>da.rel (h.env t),defers:=h.defers,lz:=h.lz}
 ·intro q k p ah
  by_cases e:q=r
  ·subst e
   rw[Em] at ah;by_cases e0:k=0
   ·subst e0;simp at ah;subst ah;simp only[gE.set,and_self,if_true];exact⟨c,fG,heap_alloc_new w _,rfl,hlen,fun j x U=>let ⟨v,e1,e2,bG⟩:=a0 j x U;⟨v,e1,e2,da.rel bG⟩⟩
   simp[e0] at ah
  rw[bt q k e] at ah;rw[nY q k e];exact da.obj (fun b m hm=>heap_alloc_old w _ b (wZ q k p b m ah hm)) (h.obj q k p ah)
 ·intro q k p jw ea mf b m aH h1 h2 J ak
  by_cases e:q=r<;>by_cases fl:jw=r
  ·subst e;subst fl;rw[Em] at h1 h2;by_cases e0:k=0<;>by_cases e1:ea=0<;>simp[e0,e1] at h1 h2;exact⟨rfl,by omega⟩
  ·subst e;rw[Em] at h1;rw[bt _ _ fl] at h2;rw[nY _ _ fl] at ak;by_cases e0:k=0<;>simp[e0] at h1;subst e0;simp[gE.set] at J;have:=wZ jw ea mf b aH h2 ak;omega
  ·subst fl;rw[bt _ _ e] at h1;rw[Em] at h2;rw[nY _ _ e] at J;by_cases e0:ea=0<;>simp[e0] at h2;subst e0;simp[gE.set] at ak;have:=wZ q k p b m h1 J;omega
  rw[bt _ _ e] at h1;rw[bt _ _ fl] at h2;rw[nY _ _ e] at J;rw[nY _ _ fl] at ak;exact h.inj q k p jw ea mf b m aH h1 h2 J ak
 ·intro q k p b m h1 h2
  by_cases e:q=r
  ·subst e;rw[Em] at h1;by_cases e0:k=0<;>simp[e0] at h1;subst e0;simp[gE.set] at h2;left;have:=h.iC.size;omega
  rw[bt _ _ e] at h1;rw[nY _ _ e] at h2;exact h.own q k p b m h1 h2
 exact h.iC.step rfl rfl rfl (by simp) fun b a3 _=>heap_alloc_old w _ b (Nat.lt_of_lt_of_le a3 h.iC.size)
theorem WX (l:List aS)(k:Nat)(o cp:aS)(h:d8 (some l) k=some o)(a2:cp.cL≠ .gone)(j:Nat):
 d8 (some (l.set k cp)) j=if j=k then some cp else d8 (some l) j:=by
 unfold d8 at *
 have eN:k<l.length:=by
  rcases Nat.lt_or_ge k l.length with h1|h1
  ·exact h1
  simp[dR h1] at h
 by_cases e:j=k
 ·subst e;simp[eN,a2]
 simp only[apT,dA (Ne.symm e),dA e]
theorem dh.write {g:G}{s:S}{aG:gE}{a:Act}{w bZ:World}(h:dh g s aG a w){r k b m:Nat}{l:List aS}{o:aS}(aj:s.a8 r=some l)(ap:s.ao r k=some o)
 (a2:o.cL = .live) (ah:aG r k=some (b,m)) (es:List (List aF)) (c:Array Value) (fG:TypeId)
 (hw:bZ.heap[b]? = some (.cells c fG (0,0))) (fU:bZ.heap.size=w.heap.size) (zX : ∀q,q≠b->bZ.heap[q]? = w.heap[q]?)
 (qM:bZ.os=w.os) (PO:bZ.tape=w.tape) (Pr:bZ.output=w.output) (hm:c.size=m)
 (hlen : ∀e∈es,e.length=o.sz)
 (a0 : ∀(j:Nat) x,es.flatten[j]? = some x-> ∃v,c[j]? = some v/\l8 v=true/\Rel w (s.ok g aG w) s.bg (s.bn aG) x v) :
 dh g (s.setRow r (l.set k {o with es})) aG a bZ /\
  ∀x v,Rel w (s.ok g aG w) s.bg (s.bn aG) x v->Rel bZ ((s.setRow r (l.set k {o with es})).ok g aG bZ) (s.setRow r (l.set k {o with es})).bg ((s.setRow r (l.set k {o with es})).bn aG) x v:=by
 have hR:({o with es}:aS).cL≠ .gone:=by rw[a2];simp
 have bt : ∀q j,(s.setRow r (l.set k {o with es})).ao q j=if q=r/\j=k then some {o with es} else s.ao q j:=by
  intro q j;rw[nI];by_cases e:q=r
  ·subst e;have e6:d8 (some l) k=some o:=(by rw[<- aj];exact ap);rw[dw rfl,WX l k o _ e6 hR];by_cases e2:j=k<;>simp[e2,S.ao,aj]
  simp[e]
 have sG:s.n5 aG b:=⟨r,k,o,m,ap,a2,ah⟩
 have da:Step g s aG w (s.setRow r (l.set k {o with es})) aG bZ:=by
  refine⟨JM s aj (by simp),fun q j a1=> .inl ?_,fun q a1=> ?_,fun q a1 aR=>zX q fun e=>aR (e▸sG),Nat.le_of_eq fU.symm⟩
  ·simp only[S.bn,bt]
   by_cases e:q=r/\j=k
   ·obtain⟨rfl,rfl⟩:=e;simp[ap]
   rw[dA e]
  obtain⟨jw,j,p,aH,h1,h2,J⟩:=a1;rw[bt] at h1;by_cases e:jw=r/\j=k
  ·obtain⟨rfl,rfl⟩:=e;exact .inl ⟨jw,j,o,aH,ap,a2,J⟩
  rw[dA e] at h1;exact .inl ⟨jw,j,p,aH,h1,h2,J⟩
 refine⟨{tojX:=⟨?_,?_,?_,?_,h.mlt,h.pE,da.stay h.stay,h.low⟩,env:=fun t=>da.rel (h.env t),defers:=h.defers,lz:=h.lz},fun x v=>da.rel⟩
 ·intro q j p mn
  rw[bt] at mn;by_cases e:q=r/\j=k
  ·obtain⟨rfl,rfl⟩:=e;simp at mn;subst mn;rw[ah];exact⟨c,fG,hw,hm,hlen,fun j x U=>let ⟨v,e1,e2,bG⟩:=a0 j x U;⟨v,e1,e2,da.rel bG⟩⟩
  rw[dA e] at mn;refine da.obj (fun lR aH lY=>zX lR ?_) (h.obj q j p mn);rintro rfl;exact e (h.inj q j p r k o lR aH m mn ap lY ah)
 ·intro q j p jw jx mf lR js iw h1 h2 J ak
  have key : ∀q j p,(s.setRow r (l.set k {o with es})).ao q j=some p-> ∃mf,s.ao q j=some mf:=by
   intro q j p a1;rw[bt] at a1;by_cases e:q=r/\j=k
   ·obtain⟨rfl,rfl⟩:=e;exact⟨o,ap⟩
   rw[dA e] at a1;exact⟨p,a1⟩
  obtain⟨p1,Zy⟩:=key q j p h1;obtain⟨p2,HW⟩:=key jw jx mf h2;exact h.inj q j p1 jw jx p2 lR js iw Zy HW J ak
 ·intro q j p lR aH h1 h2
  rw[bt] at h1;by_cases e:q=r/\j=k
  ·obtain⟨rfl,rfl⟩:=e;exact h.own q j o lR aH ap h2
  rw[dA e] at h1;exact h.own q j p lR aH h1 h2
 refine h.iC.step qM PO Pr (Nat.le_of_eq fU.symm) fun lR pF lY=>zX lR ?_;rintro rfl;rcases h.own r k o lR m ap ah with h1|h1
 ·omega
 exact lY h1
inductive u5 where
 | id
 | ep (es:List (List aF))
 | fv (sz:Nat)
 | kz
 | cE (x:aF)
 | len (n:Nat)
 | sk (sz:Nat)
 | at_ (j i n:Nat)
 | view (c8:Nat) (o:aS) (es:List (List aF))
 deriving Inhabited
inductive E4 where
 | bV (c:u5)
 | ptr (l:List u5)
 | w0 (l:List u5)
 | agg (l:List u5)
 deriving Inhabited
inductive ni where
 | bf (c:E4)
 | comp (l:List E4)
 deriving Inhabited
inductive j2 where
 | pure
 | box (l:List u5)
 | cE (row:List aS)
 | bq (row:List aS)
 | rx (row:List aS)
 | drop
 deriving Inhabited
structure oy where
 bD:List (Nat×Nat):=[]
 kY:Option (Nat×Nat):=none
 deriving DecidableEq
inductive Src where
 | row (r:Nat)
 | ao (r k:Nat) (o:aS)
 deriving Inhabited
structure A7 where
 a4:List Src:=[]
 c9:List j2:=[]
 ac:List ni
 r:aF
 eP:List (List aS):=[]
 f9:ni:= .bf (.bV .id)
 gT:List j2:=[]
 ex:List Nat:=[]
 ef:Bool:=true
inductive fY where
 | none
 | ab (t:Bool)
 | cf (c:List aF)
 | gS (o:aS) (c:List aF)
 | eb
 | call (c:A7)
 | aB (m:Nat) (o:Option aS:=Option.none)
 | fm (t:Nat) (v:aF) (a:fY)
 | s8 (r:Nat) (a:fY)
 | u6 (r n:Nat) (a:fY)
structure jv where
 val:aF
 hj:List (Nat×List aS):=[]
 gz:List Prop:=[]
def G5 (P:Program)(t:TypeId):Bool :=
 match P.underlying t with
 | some (.struct _)|some (.array _ _)=>true
 | _=>false
def vI (pN:ar):ByteArray:=pN.foldl (fun r n=>r.push (UInt8.ofNat n.toNat)) ByteArray.empty
def bytesOf:List (List aF)->Option ar
 | []=>some []
 | [.n .u8 n]::es=>(bytesOf es).map (n :: ·)
 | _=>none
def elemAt (es:List (List aF))(i:Nat):fY->Option (List aF×List Prop)
 | .cf c=>some (c,[es[i]? = some c])
 | .gS _ c=>some (c,[es[i]? = some c])
 | _=>match es[i]? with
  | some c=>some (c,[])
  | none=>none
def qE (row:Option (List aS))(k:Nat):fY->Option (aS×List Prop)
 | .gS o _=>match row with
  | some row=>some (o,[d8 (some row) k=some o])
  | none=>none
 | _=>match d8 row k with
  | some o=>some (o,[])
  | none=>none
def tJ (P:Program)(t:TypeId)(c:List aF)(off:Nat):Option aF :=
 if !((P.underlying t).isSome && (P.info? t).isSome) then none else
 if G5 P t then (if off+P.cellsOf t<=c.length then some (.agg ((c.drop off).take (P.cellsOf t))) else none)
 else match c[off]? with
  | some x=>if x.one then some x else none
  | none=>none
def Ps (op:BinOp)(x y:aF):Option (aF×List Prop) :=
 match x,y with
 | .n k a,.n ea b =>
  match op with
  | .shl=>some (.n k (k.wrap (a*2 ^ (min b.toNat k.bits))),[0<=b])
  | .shr=>some (.n k (a.fdiv (2 ^ (min b.toNat k.bits))),[0<=b])
  | _=>if k≠ea then none else
   match op with
   | .add=>some (.n k (k.wrap (a+b)),[])
   | .sub=>some (.n k (k.wrap (a-b)),[])
   | .mul=>some (.n k (k.wrap (a*b)),[])
   | .quo=>some (.n k (k.wrap (a.tdiv b)),[b≠0])
   | .rem=>some (.n k (a.tmod b),[b≠0])
   | .and=>some (.n k (k.wrap ((BitVec.ofInt k.bits a &&& BitVec.ofInt k.bits b).toNat)),[])
   | .or=>some (.n k (k.wrap ((BitVec.ofInt k.bits a ||| BitVec.ofInt k.bits b).toNat)),[])
   | .xor=>some (.n k (k.wrap ((BitVec.ofInt k.bits a ^^^ BitVec.ofInt k.bits b).toNat)),[])
   | .eql=>some (.b (a == b),[])
   | .neq=>some (.b (a != b),[])
   | .lss=>some (.b (decide (a<b)),[])
   | .leq=>some (.b (decide (a<=b)),[])
   | .gtr=>some (.b (decide (b<a)),[])
   | .geq=>some (.b (decide (b<=a)),[])
   | _=>none
 | .s a,.s b =>
  match op with
  | .add=>some (.s (a++b),[a.size+b.size<9223372036854775808])
  | .eql=>some (.b (a.toList == b.toList),[])
  | .neq=>some (.b (!(a.toList == b.toList)),[])
  | _=>none
 | _,_=>none
def vL (P:Program)(t:TypeId)(x y:aF):Option Bool :=
 match P.underlying t,x,y with
 | some .bool,.b a,.b c=>some (a == c)
 | some (.pointer _),.ka,.ka=>some true
 | some (.pointer _),.fX ..,.ka=>some false
 | some (.pointer _),.ka,.fX .. => some false
 | some (.slice _),.fg,.fg=>some true
 | some (.slice _),.kd,.fg=>some false
 | _,_,_=>none
def PP (op:UnOp)(x:aF):Option aF :=
 match op,x with
 | .neg,.n k a=>some (.n k (k.wrap (0-a)))
 | .not,.b a=>some (.b (!a))
 | _,_=>none
def fieldsOf (P:Program)(t:TypeId):Option (Array Field) :=
 match P.underlying t with
 | some (.struct mO)=>some mO
 | _=>none
def sH (P:Program)(t:TypeId):Option TypeId :=
 match P.underlying t with
 | some (.slice e)=>some e
 | _=>none
def tn (P:Program)(t:TypeId):Option (List aF) :=
 match P.info? t with
 | some i=>match i.zero with
  | some v=>if v.cells.toList.all (·.oneCell') then some (v.cells.toList.map ofValue) else none
  | none=>none
 | none=>none
def Hy (P:Program)(t:TypeId):Option (Nat×TypeId) :=
 match P.underlying t with
 | some (.array n e)=>if (P.info? e).isSome/\P.cellsOf e≠0/\1<n then some (n,e) else none
 | _=>none
def sN (j:Int):List aF->List aF->Option (List aF)
 | [],[]=>some []
 | .n k x::a,.n ea y::b=>if k=ea then (sN j a b).map (.n k (if j=0 then x else y) :: ·) else none
 | _,_=>none
def OT (P:Program)(t:TypeId)(x mg:aF):Option jv :=
 match Hy P t,x,mg with
 | some (2,e),.agg cs,.n _ j=>match tJ P e cs (0*P.cellsOf e),tJ P e cs (1*P.cellsOf e) with
  | some (.agg a),some (.agg b)=>(sN j a b).map fun c=>{val:= .agg c,gz:=[0<=j,j<2]}
  | _,_=>none
 | _,_,_=>none
def Eb (P:Program)(a8:Nat->Option (List aS))(t:TypeId)(x mg:aF)(dc:fY):Option jv :=
 match Hy P t,x,mg with
 | some (n,e),.ref r k i off,.n _ j=>match qE (a8 r) k dc with
  | some (ao,bX)=>match elemAt ao.es i dc with
   | some (_,aK)=>some {val:= .ref r k i (off+j.toNat*P.cellsOf e),gz:=bX++aK++[0<=j,j<n]}
   | none=>none
  | none=>none
 | _,_,_=>none
def G6:aF->aF->aF
 | .fg,.isl sz []=> .isl sz []
 | .ka,.f8 sz none=> .f8 sz none
 | .fg,.kx r c sz none=> .kx r c sz none
 | x,_=>x
def uz:List aF->List aF->List aF
 | x::z,y::c=>G6 x y::uz z c
 | z,_=>z
def wO (z:List aF):fY->List aF
 | .cf c=>uz z c
 | _=>z
def setCells (c:List aF)(off:Nat)(vs:List aF):List aF:=c.take off++vs++c.drop (off+vs.length)
def vA:List aF->List (Nat×Nat×aF)->Option (List aF)
 | c,[]=>some c
 | c,(off,size,x)::rest =>
  if x.DH && x.cells.length=size && decide (off+size<=c.length) then vA (setCells c off x.cells) rest else none
def Ec (sz:Nat):List (List aF)->List (Nat×aF)->Option (List (List aF))
 | es,[]=>some es
 | es,(i,x)::rest=>if x.DH && x.cells.length=sz && decide (i<es.length) then Ec sz (es.set i x.cells) rest else none
def ae:Option aF->Nat->Option (Nat×List Prop)
 | none,d=>some (d,[])
 | some (.n _ x),_=>some (x.toNat,[0<=x])
 | _,_=>none
def Oh (P:Program)(t:TypeId)(parts:List (Nat×aF)):Option jv :=
 match Hy P t,tn P t with
 | some (_,e),some z=>(vA z (parts.map fun p=>(p.1*P.cellsOf e,P.cellsOf e,p.2))).map fun c=>{val:= .agg c}
 | _,_=>none
def fR (P:Program)(E:Nat->aF)(a8:Nat->Option (List aS))(ba:Nat)(o:Oper)(dc:fY):Option jv :=
 let jy:=fN E
 match o.op with
 | .move x | .assign x=>some {val:=jy x}
 | .pick c a b =>
  match jy c,dc with
  | .b x,.ab t=>some {val:=if t then jy a else jy b,gz:=[x=t]}
  | .b true,_=>some {val:=jy a}
  | .b false,_=>some {val:=jy b}
  | _,_=>none
 | .alloc t =>
  match tn P t with
  | some c=>some {val:= .ref ba 0 0 0,hj:=[(ba,[⟨c.length,[c],.live⟩])]}
  | none=>none
 | .box _ x =>
  match jy x with
  | .agg c=>some {val:= .ref ba 0 0 0,hj:=[(ba,[⟨c.length,[c],.live⟩])]}
  | v=>if v.one then some {val:= .ref ba 0 0 0,hj:=[(ba,[⟨1,[[v]],.live⟩])]} else none
 | .load t x =>
  match jy x with
  | .ref r k i off =>
   match qE (a8 r) k dc with
   | some (ao,bX)=>match elemAt ao.es i dc with
    | some (c,aK)=>match tJ P t c off with
     | some v=>some {val:=v,gz:=bX++aK}
     | none=>none
    | none=>none
   | none=>none
  | .fX _ es i off =>
   match elemAt es i dc with
   | some (c,aK)=>match tJ P t c off with
    | some v=>some {val:=v,gz:=aK}
    | none=>none
   | none=>none
  | _=>none
 | .store t x y =>
  match jy x with
  | .ref r k i off =>
   match a8 r with
   | none=>none
   | some row =>
   match qE (some row) k dc with
   | some (ao,bX) =>
    if ao.cL≠ .live then none else
    let v:=jy y
    if v.DH=false then none else
    if v.cells.length≠P.cellsOf t\/(P.info? t).isSome=false then none else
    match dc with
    | .eb=>if off=0 then some {val:= .dead,hj:=[(r,row.set k {ao with es:=ao.es.set i v.cells})],gz:=bX++[i<ao.es.length,v.cells.length=ao.sz]} else none
    | _=>match elemAt ao.es i dc with
     | some (c,aK)=>if off+v.cells.length<=c.length then some {val:= .dead,hj:=[(r,row.set k {ao with es:=ao.es.set i (setCells c off v.cells)})],gz:=bX++aK} else none
     | none=>none
   | none=>none
  | _=>none
 | .nilCheck x =>
  match jy x with
  | .ref r k i off=>match qE (a8 r) k dc with
   | some (ao,bX)=>match elemAt ao.es i dc with
    | some (_,aK)=>some {val:= .ref r k i off,gz:=bX++aK}
    | none=>none
   | none=>none
  | .fX sz es i off=>some {val:= .fX sz es i off}
  | .fn f c=>some {val:= .fn f c}
  | _=>none
 | .binOp op t x y _ =>
  match Ps op (jy x) (jy y) with
  | some (v,ao)=>some {val:=v,gz:=ao}
  | none=>match op with
   | .eql=>(vL P t (jy x) (jy y)).map fun r=>{val:= .b r}
   | .neq=>(vL P t (jy x) (jy y)).map fun r=>{val:= .b (!r)}
   | _=>none
 | .unOp op _ x=>(PP op (jy x)).map fun v=>{val:=v}
 | .convert src dst x =>
  match P.underlying dst,jy x with
  | some (.int k),.n _ a=>if (P.underlying src).isSome then some {val:= .n k (k.wrap a)} else none
  | some .string,.br r k cb len =>
   match (sH P src).bind P.underlying,d8 (a8 r) k with
   | some (.int .u8),some ao=>match bytesOf ((ao.es.drop cb).take len) with
    | some pN=>if cb+len<=ao.es.length/\ao.sz=1 then some {val:= .s (vI pN)} else none
    | none=>none
   | _,_=>none
  | _,_=>none
 | .makeFunc (.func f) first captured =>
  if first.size=0 then some {val:= .fn f (captured.toList.map jy)} else none
 | .makeSlice t l c =>
  match sH P t,jy l,jy c with
  | some e,.n _ l,.n _ c =>
   match P.info? e,tn P e with
   | some i,some z=>if z.length=i.size then some {val:= .br ba 0 0 l.toNat,hj:=[(ba,[⟨z.length,List.replicate l.toNat (wO z dc),.live⟩])],gz:=[0<=l,l<=c,(i.bytes:Int)*c<=281474976710656,c<9223372036854775808]} else none
   | _,_=>none
  | _,_,_=>none
 | .fieldAddr t x f =>
  match fieldsOf P t with
  | some mO=>match mO[f]? with
   | some fd=>if P.cellsOf fd.type=0 then none else
    match jy x with
    | .ref r k i off=>match qE (a8 r) k dc with
     | some (ao,bX)=>match elemAt ao.es i dc with
      | some (_,aK)=>some {val:= .ref r k i (off+fd.offset),gz:=bX++aK}
      | none=>none
     | none=>none
    | .fX sz es i off=>some {val:= .fX sz es i (off+fd.offset)}
    | _=>none
   | none=>none
  | none=>none
 | .field t x f =>
  match fieldsOf P t with
  | some mO=>match mO[f]?,jy x with
   | some fd,.agg c=>(tJ P fd.type c fd.offset).map fun v=>{val:=v}
   | _,_=>none
  | none=>none
 | .indexAddr t x mg =>
  match sH P t,jy mg with
  | some e,.n _ j =>
   match jy x with
   | .isl sz es=>if sz=P.cellsOf e/\sz≠0 then some {val:= .fX sz es j.toNat 0,gz:=[0<=j,j<es.length]} else none
   | .br r k cb len=>match a8 r with
    | some row=>match qE (some row) k dc with
     | some (ao,bX)=>if ao.sz=P.cellsOf e/\ao.sz≠0 then some {val:= .ref r k (cb+j.toNat) 0,gz:=bX++[0<=j,j<len]} else none
     | none=>none
    | none=>none
   | _=>none
  | _,_=>Eb P a8 t (jy x) (jy mg) dc
 | .index t x mg =>
  match P.underlying t,jy x,jy mg with
  | some .string,.s s,.n _ j=>some {val:= .n .u8 (s.data.toList.getD j.toNat 0).toNat,gz:=[0<=j,j<s.size]}
  | _,_,_=>OT P t (jy x) (jy mg)
 | .extract x i =>
  match jy x with
  | .dd vs=>(vs[i]?).map fun v=>{val:=v}
  | _=>none
 | .slice t x cb aa none =>
  match P.underlying t,jy x with
  | some (.slice e),.isl sz es =>
   match ae (cb.map jy) 0,ae (aa.map jy) es.length with
   | some (l,bX),some (h,aK)=>if sz=P.cellsOf e/\sz≠0 then some {val:= .isl sz ((es.drop l).take (h-l)),gz:=bX++aK++[l<=h,h<=es.length]} else none
   | _,_=>none
  | some (.slice e),.br r k aaD len =>
   match a8 r with
   | none=>none
   | some row=>match qE (some row) k dc with
    | none=>none
    | some (ao,aaE) =>
     match ae (cb.map jy) 0,ae (aa.map jy) len with
     | some (l,bX),some (h,aK)=>if ao.sz=P.cellsOf e/\ao.sz≠0 then some {val:= .br r k (aaD+l) (h-l),gz:=aaE++bX++aK++[l<=h,h<=len]} else none
     | _,_=>none
  | some .string,.s s =>
   match ae (cb.map jy) 0,ae (aa.map jy) s.size with
   | some (l,bX),some (h,aK)=>some {val:= .s (s.extract l h),gz:=bX++aK++[l<=h,h<=s.size]}
   | _,_=>none
  | _,_=>none
 | .build t parts =>
  match fieldsOf P t,tn P t with
  | some mO,some z =>
   if mO.toList.all (fun f=>(P.info? f.type).isSome)=false then none else
   match parts.toList.mapM fun (p:Nat×Operand)=>(mO[p.1]?).map fun fd=>(fd.offset,P.cellsOf fd.type,jy p.2) with
   | some l=>(vA z l).map fun c=>{val:= .agg c}
   | none=>none
  | _,_=>Oh P t (parts.toList.map fun p=>(p.1,jy p.2))
 | .buildSlice t len parts =>
  match sH P t with
  | some e=>match tn P e with
   | some z =>
    if len*z.length>16777216\/z.length≠P.cellsOf e\/z.length=0 then none else
    match Ec z.length (List.replicate len z) (parts.toList.map fun p=>(p.1,jy p.2)) with
    | some es=>some {val:= .br ba 0 0 len,hj:=[(ba,[⟨z.length,es,.live⟩])]}
    | none=>none
   | none=>none
  | none=>none
 | .call {callee:= .builtin .len,args,argTypes} =>
  match args.toList.map jy,P.underlying (argTypes.getD 0 0),decide (argTypes.size=1) with
  | [.isl _ es],some (.slice _),true=>some {val:= .n .i64 es.length}
  | [.br r k _ len],some (.slice _),true=>match a8 r with
   | some row=>match qE (some row) k dc with
    | some (_,bX)=>some {val:= .n .i64 len,gz:=bX}
    | none=>none
   | none=>none
  | [.fg],some (.slice _),true=>some {val:= .n .i64 0}
  | [.s x],some .string,true=>some {val:= .n .i64 x.size}
  | _,_,_=>none
 | _=>none
theorem rS {α:Type}{sz:Nat}(bM:0<sz): ∀(es:List (List α)) (_ : ∀e∈es,e.length=sz) (j:Nat),
 es.flatten[j]? = (es[j / sz]?).bind (·[j % sz]?)
 | [],_,j=>by simp
 | e::es,h,j=>by
  have he:e.length=sz:=h e (by simp);rw[apZ,List.getElem?_append];by_cases ay:j<sz
  ·rw[dw (by omega),Nat.div_eq_of_lt ay,Nat.mod_eq_of_lt ay];simp
  rw[dA (by omega),he,rS bM es (fun fl oa=>h fl (by simp[oa])) (j-sz)];have h1:j / sz=(j-sz) / sz+1:=Nat.div_eq_sub_div bM (by omega);have h2:j % sz=(j-sz) % sz:=Nat.mod_eq_sub_mod (by omega);rw[h1,h2];simp
theorem Gx {α:Type}{sz:Nat}{es:List (List α)}(aR:∀e∈es,e.length=sz){i:Nat}{c:List α}(he:es[i]? = some c){j:Nat}(ay:j<sz):
 es.flatten[i*sz+j]? = c[j]? := by
 have bM:0<sz:=by omega
 rw[rS bM es aR];have h1:(i*sz+j) / sz=i:=by rw[Nat.mul_comm,Nat.mul_add_div bM,Nat.div_eq_of_lt ay];omega
 have h2:(i*sz+j) % sz=j:=by rw[Nat.mul_comm,Nat.mul_add_mod,Nat.mod_eq_of_lt ay]
 rw[h1,h2,he];rfl
theorem Vp {α:Type}{sz:Nat}{es:List (List α)}(aR:∀e∈es,e.length=sz){i:Nat}{c ez:List α}(he:es[i]? = some c)(a0:ez.length=sz)(j:Nat):
 (es.set i ez).flatten[j]? = if i*sz<=j/\j<i*sz+sz then ez[j-i*sz]? else es.flatten[j]? := by
 rcases Nat.eq_zero_or_pos sz with h0|bM
 ·subst h0
  have e1 : ∀(l:List (List α)),(∀e∈l,e.length=0)->l.flatten=[]:=by
   intro l aR;induction l with
   | nil=>rfl
   | cons a l ih=>rw[apZ,ih fun e he=>aR e (by simp[he])];have:=aR a (by simp);simp_all
  rw[e1 _ aR,e1 (es.set i ez) (by
   intro e hm;rcases List.mem_or_eq_of_mem_set hm with h|h
   ·exact aR e h
   exact h▸a0)]
  simp
 have PQ : ∀e∈es.set i ez,e.length=sz:=by
  intro e hm;rcases List.mem_or_eq_of_mem_set hm with h|h
  ·exact aR e h
  exact h▸a0
 have aa:i<es.length:=by
  rcases Nat.lt_or_ge i es.length with h|h
  ·exact h
  rw[dR h] at he;simp at he
 rw[rS bM _ PQ,rS bM _ aR];by_cases a1:j / sz=i
 ·have h1:i*sz<=j/\j<i*sz+sz:=by
   subst a1;constructor
   ·exact Nat.div_mul_le_self j sz
   ·have:=Nat.lt_div_mul_add (a:=j) bM;omega
  rw[dw h1,a1,List.getElem?_set_self aa];have:j % sz=j-i*sz:=(by subst a1;have:=Nat.div_add_mod j sz;rw[Nat.mul_comm] at this;omega);simp[this]
 have h1 : ¬(i*sz<=j/\j<i*sz+sz):=by rintro⟨a,b⟩;apply a1;obtain⟨d,rfl⟩ : ∃d,j=i*sz+d:=⟨j-i*sz,by omega⟩;rw[Nat.mul_comm i sz,Nat.mul_add_div bM,Nat.div_eq_of_lt (by omega)];omega
 rw[dA h1,List.getElem?_set_ne (Ne.symm a1)]
def qZ (w:World)(ok:Nat->Prop)(bg:kX)(bn:kL)(ff o sz:Nat)(es:List (List aF)):Prop :=
 (∀e∈es,e.length=sz)/\ ∀(j:Nat) x,es.flatten[j]? = some x-> ∃v,w.cell? ⟨ff,o+j,none⟩=some v/\l8 v=true/\Rel w ok bg bn x v
theorem kS.rd {w:World}{ok:Nat->Prop}{bg:kX}{bn:kL}{o:aS}{ff m:Nat}(h:kS w ok bg bn o (some (ff,m))):qZ w ok bg bn ff 0 o.sz o.es:=by obtain⟨c,fG,h1,h2,J,ak⟩:=h;refine⟨J,fun j x U=> ?_⟩;obtain⟨v,e1,e2,bG⟩:=ak j x U;exact⟨v,by rw[cell_of_row w ff (0+j) c fG (0,0) h1,dG];exact e1,e2,bG⟩
theorem Wj {P:Program}{t:TypeId}(h:(P.underlying t).isSome=true)(w:World):(isAgg t).run P w = .ok (G5 P t) w:=by
 cases bD:P.underlying t with
 | none=>simp[bD] at h
 | some d=>cases d<;>simp[isAgg,G5,run_underlying bD,bD]
theorem wv {P:Program}{t:TypeId}(h:(P.info? t).isSome=true)(w:World):(sizeOf t).run P w = .ok (P.cellsOf t) w:=by
 cases aa:P.info? t with
 | none=>simp[aa] at h
 | some i=>simp[sizeOf,typeInfo,aa,Program.cellsOf]
theorem uu (b o n:Nat):(⟨b,o,none⟩:Addr).add n=⟨b,o+n,none⟩:=by unfold Addr.add;split<;>simp_all
theorem NS {P:Program}{w:World}{ok:Nat->Prop}{bg:kX}{bn:kL}{ff o sz i off:Nat}{es:List (List aF)}{c:List aF}{t:TypeId}{x:aF}
 (ke:qZ w ok bg bn ff o sz es) (he:es[i]? = some c) (cl:tJ P t c off=some x) :
 ∃v,(Instr.loadAt t (.pointer (some ⟨ff,o+(i*sz+off),none⟩))).run P w = .ok v w/\Rel w ok bg bn x v:=by
 have hlen:c.length=sz:=ke.1 c (dH he);unfold tJ at cl;split at cl
 ·simp at cl
 rename_i aa;simp only[Bool.not_eq_true',Bool.not_eq_false,dN] at aa;have lW : ∀j,j<sz-> ∃y v,c[j]? = some y/\w.cell? ⟨ff,o+(i*sz+j),none⟩=some v/\l8 v=true/\Rel w ok bg bn y v:=by intro j ay;have aV:c[j]? = some c[j]:=dz (by omega);obtain⟨v,e1,e2,bG⟩:=ke.2 (i*sz+j) c[j] (by rw[Gx ke.1 he ay,aV]);exact⟨_,v,aV,e1,e2,bG⟩
 simp only[Instr.loadAt,Instr.sureAddr,loadVar,Sem.run_bind,Sem.run_pure,Result.andThen,Wj aa.1,wv aa.2];split at cl;rotate_left
 ·rename_i uJ
  have uJ:G5 P t=false:=(by simpa using uJ);rw[uJ];split at cl
  ·rename_i y aV
   split at cl
   ·simp at cl;subst cl
    have En:off<sz:=by
     rcases Nat.lt_or_ge off c.length with h|h
     ·omega
     rw[dR h] at aV;simp at aV
    obtain⟨nA,v,h0,e1,e2,bG⟩:=lW off En;rw[h0] at aV;simp at aV;subst aV;exact⟨v,by simp[e1],bG⟩
   simp at cl
  simp at cl
 rename_i uJ;rw[uJ];split at cl;rotate_left
 ·simp at cl
 rename_i hle;simp at cl;subst cl;have aR:=run_loadCells (P:=P) w ⟨ff,o+(i*sz+off),none⟩ (P.cellsOf t) (fun j=>(w.cell? ⟨ff,o+(i*sz+(off+j)),none⟩).getD undef) (by intro j ay;obtain⟨y,v,-,e1,-,-⟩:=lW (off+j) (by omega);rw[uu,show o+(i*sz+off)+j=o+(i*sz+(off+j)) by omega,e1];rfl);refine⟨.agg (List.map (fun j=>(w.cell? ⟨ff,o+(i*sz+(off+j)),none⟩).getD undef) (List.range (P.cellsOf t))).toArray,by simp[aR,Result.andThen,wv aa.2],?_⟩;refine .agg _ (by simp;omega) ?_ ?_
 ·intro j v bh;rw[dK,dP] at bh;obtain⟨q,nu,rfl⟩:=bh;obtain⟨qN,Eu⟩:=apX.1 nu;have a1:j<P.cellsOf t:=(by simpa using qN);obtain rfl:j=q:=(by simpa using Eu);obtain⟨y,v,-,e1,e2,-⟩:=lW (off+j) (by omega);rw[e1];exact e2
 intro j y v aV bh;rw[dK,dP] at bh;obtain⟨q,nu,rfl⟩:=bh;obtain⟨qN,Eu⟩:=apX.1 nu;have a1:j<P.cellsOf t:=by simpa using qN
 obtain rfl:j=q:=by simpa using Eu
 rw[dT,dw a1,ap5] at aV;obtain⟨nA,v,h0,e1,e2,bG⟩:=lW (off+j) (by omega);rw[h0] at aV;simp at aV;subst aV;rw[e1];exact bG
theorem Uk {c:List aF}{off:Nat}{vs:List aF}(h:off+vs.length<=c.length):(setCells c off vs).length=c.length:=by simp[setCells];omega
theorem NJ {c:List aF}{off:Nat}{vs:List aF}(h:off+vs.length<=c.length)(j:Nat):
 (setCells c off vs)[j]? = if off<=j/\j<off+vs.length then vs[j-off]? else c[j]? := by
 unfold setCells;rw[List.append_assoc,List.getElem?_append];have h1:(c.take off).length=off:=by simp;omega
 rw[h1];by_cases a:j<off
 ·rw[dw a,dA (by omega),dT,dw a]
 rw[dA a,List.getElem?_append];by_cases b:j<off+vs.length
 ·rw[dw (by omega),dw ⟨by omega,b⟩]
 rw[dA (by omega),dA (by omega),ap5];congr 1;omega
theorem ajU {c:Array Value}{p:Nat}{vs:List Value}(h:p+vs.length<=c.size)(j:Nat):
 (c.toList.take p++vs++c.toList.drop (p+vs.length)).toArray[j]? = if p<=j/\j<p+vs.length then vs[j-p]? else c[j]? := by
 rw[List.getElem?_toArray,List.append_assoc,List.getElem?_append];have h1:(c.toList.take p).length=p:=by simp;omega
 rw[h1];by_cases a:j<p
 ·rw[dw a,dA (by omega),dT,dw a,Array.getElem?_toList]
 rw[dA a,List.getElem?_append];by_cases b:j<p+vs.length
 ·rw[dw (by omega),dw ⟨by omega,b⟩]
 rw[dA (by omega),dA (by omega),ap5,Array.getElem?_toList];congr 1;omega
theorem af0 {P:Program}{g:G}{s:S}{aG:gE}{a:Act}{w:World}(h:dh g s aG a w){r k b m i off:Nat}{l:List aS}{o:aS}{c:List aF}
 (aj:s.a8 r=some l) (ap:s.ao r k=some o) (a2:o.cL = .live) (ah:aG r k=some (b,m)) (he:o.es[i]? = some c)
 {t:TypeId} (PR:(P.info? t).isSome=true) {x:aF} {v:Value} (U:Rel w (s.ok g aG w) s.bg (s.bn aG) x v) (n8:x.one=true\/ ∃c,x = .agg c)
 (fU:x.cells.length=P.cellsOf t) (iT:off+x.cells.length<=c.length) :
 ∃bZ,(Instr.storeAt t (.pointer (some ⟨b,i*o.sz+off,none⟩)) v).run P w = .ok () bZ /\
  dh g (s.setRow r (l.set k {o with es:=o.es.set i (setCells c off x.cells)})) aG a bZ:=by
 obtain⟨vs,bh,sS,lW,gv⟩:=U.cellsOf n8;have bt:=h.obj r k o ap;rw[ah] at bt;obtain⟨cO,fG,h1,h2,J,ak⟩:=bt;have hlen:c.length=o.sz:=J c (dH he)
 have Eo:i*o.sz+off+vs.length<=cO.size:=by
  rcases Nat.eq_zero_or_pos o.sz with cB|cB
  ·have:off=0:=(by omega);have:vs.length=0:=(by omega);rw[cB];omega
  have aR:o.es.flatten[i*o.sz+(o.sz-1)]? = some (c[o.sz-1]'(by omega)):=(by rw[Gx J he (by omega)];exact dz (by omega));obtain⟨aaF,e1,-,-⟩:=ak _ _ aR;have:=(ap7.1 e1).1;omega
 have oz:=run_storeCells_at P b (i*o.sz+off) fG vs 0 cO w h1 (by simpa using Eo) (fun aaF HX=>by obtain⟨q,a1⟩:=ap6 HX;exact lW q aaF a1);simp only[Nat.add_zero] at oz
 have kF:(Instr.storeAt t (.pointer (some ⟨b,i*o.sz+off,none⟩)) v).run P w =
  .ok () (w.setRow b (cO.toList.take (i*o.sz+off)++vs++cO.toList.drop (i*o.sz+off+vs.length)).toArray):=by
  have bM:v.cells.size=P.cellsOf t:=(by rw[bh];simpa using sS.trans fU);simp only[Instr.storeAt,Instr.sureAddr,storeVar,Sem.run_bind,Sem.run_pure,Result.andThen,wv PR,bM,ne_eq,not_true_eq_false,if_false];rw[bh];simpa using oz
 refine⟨_,kF,?_⟩;have ak6:(w.setRow b (cO.toList.take (i*o.sz+off)++vs++cO.toList.drop (i*o.sz+off+vs.length)).toArray).heap.size=w.heap.size:=size_setRow _ _ _;have vM:(setCells c off x.cells).length=o.sz:=by rw[Uk iT];exact hlen
 refine(h.write aj ap a2 ah _ _ fG (setRow_heap w b cO _ fG _ h1) ak6 (fun q a1=>setRow_other w b q _ a1) rfl rfl rfl ?_ ?_ ?_).1
 ·simp;omega
 ·intro e hm
  rcases List.mem_or_eq_of_mem_set hm with c1|c1
  ·exact J e c1
  exact c1▸vM
 intro j y aV;rw[ajU Eo];rw[Vp J he vM] at aV;by_cases lZ:i*o.sz<=j/\j<i*o.sz+o.sz
 ·rw[dw lZ,NJ iT] at aV
  by_cases Y8:off<=j-i*o.sz/\j-i*o.sz<off+x.cells.length
  ·rw[dw Y8] at aV;rw[dw ⟨by omega,by omega⟩];have a1:j-(i*o.sz+off)<vs.length:=(by omega);refine⟨vs[j-(i*o.sz+off)],dz a1,lW _ _ (dz a1),gv (j-i*o.sz-off) y _ aV ?_⟩;rw[show j-i*o.sz-off=j-(i*o.sz+off) by omega];exact dz a1
  rw[dA Y8] at aV;rw[dA (by omega)];refine ak j y ?_;rw[show j=i*o.sz+(j-i*o.sz) by omega,Gx J he (by omega)];exact aV
 rw[dA lZ] at aV;rw[dA (by rw[sS];omega)];exact ak j y aV
def S.jQ (s:S)(u:List (Nat×List aS)):S:=u.foldl (fun s p=>s.setRow p.1 p.2) s
@[simp] theorem S.aop (s:S):s.jQ []=s:=rfl
@[simp] theorem S.aoq (s:S) (p:Nat×List aS):s.jQ [p]=s.setRow p.1 p.2:=rfl
section
variable {w:World} {ok:Nat->Prop} {bg:kX} {bn:kL} {v:Value}
theorem Rel.x7 {x:Bool}(h:Rel w ok bg bn (.b x) v):v = .bool x:=by cases h;rfl
theorem Rel.qB {k:IntKind}{x:Int}(h:Rel w ok bg bn (.n k x) v):v = .int k x:=by cases h;rfl
theorem Rel.Ed {x:ByteArray}(h:Rel w ok bg bn (.s x) v):v = .string x:=by cases h;rfl
theorem Rel.zH (h:Rel w ok bg bn .ka v):v = .pointer none:=by cases h;rfl
theorem Rel.sx (h:Rel w ok bg bn .fg v):v = .slice none 0 0:=by cases h;rfl
theorem Rel.Ku (h:Rel w ok bg bn .kd v): ∃a c,v = .slice (some a) 0 c:=by cases h;exact⟨_,_,rfl⟩
theorem Rel.WY {sz:Nat}(h:Rel w ok bg bn (.f8 sz none) v):v = .pointer none:=by cases h;rfl
theorem Rel.Oi {sz:Nat}{c:List aF}(h:Rel w ok bg bn (.f8 sz (some c)) v):Rel w ok bg bn (.fX sz [c] 0 0) v:=by cases h;assumption
theorem Rel.KO {f:Nat}{c:List aF}(h:Rel w ok bg bn (.fn f c) v): ∃vs:List Value,v = .func (.func f) #[] vs.toArray/\vs.length=c.length /\
 ∀(j:Nat) x u,c[j]? = some x->vs[j]? = some u->Rel w ok bg bn x u:=by
 cases h with|fn vs aR aj=>exact⟨vs,rfl,aR,aj⟩
theorem Rel.DQ {c:List aF}(h:Rel w ok bg bn (.agg c) v): ∃vs:List Value,v = .agg vs.toArray/\vs.length=c.length/\(∀(j:Nat) u,vs[j]? = some u->VL.l8 u=true) /\
 ∀(j:Nat) x u,c[j]? = some x->vs[j]? = some u->Rel w ok bg bn x u:=by
 cases h with|agg vs aR a0 aj=>exact⟨vs,rfl,aR,a0,aj⟩
theorem Rel.DR {c:List aF}(h:Rel w ok bg bn (.dd c) v): ∃vs:List Value,v = .tuple vs.toArray/\vs.length=c.length /\
 ∀(j:Nat) x u,c[j]? = some x->vs[j]? = some u->Rel w ok bg bn x u:=by
 cases h with|dd vs aR aj=>exact⟨vs,rfl,aR,aj⟩
theorem Rel.zR {r k i off sz:Nat}{p:Option (Nat×Nat)}(h:Rel w ok bg bn (.ref r k i off) v)(cl:bn r k=some (sz,p)):
 p=none\/ ∃b m,p=some (b,m)/\v = .pointer (some ⟨b,i*sz+off,none⟩):=by
 cases h with
 | sy a hu aU =>
  cases p with
  | none=>exact .inl rfl
  | some q=>exact absurd cl (aU _ _)
 | ref hu h =>
  rw[cl] at h;simp only[dB,dF] at h;obtain⟨rfl,rfl⟩:=h;exact .inr ⟨_,_,rfl,rfl⟩
theorem Rel.Wk {r k i off sz b m:Nat}(h:Rel w ok bg bn (.ref r k i off) v)(cl:bn r k=some (sz,some (b,m)))(Y9:Nat):
 Rel w ok bg bn (.ref r k i Y9) (.pointer (some ⟨b,i*sz+Y9,none⟩)):=by
 cases h with
 | sy a hu aU=>exact absurd cl (aU _ _)
 | ref hu h=>exact .ref hu cl
theorem Rel.DS {sz i off:Nat}{es:List (List aF)}(h:Rel w ok bg bn (.fX sz es i off) v): ∃ff o,(ok ff/\j6 es)/\v = .pointer (some ⟨ff,o+(i*sz+off),none⟩)/\qZ w ok bg bn ff o sz es:=by
 cases h with
 | fX cs a3 ah aR hw a0 aj=>exact⟨_,_,⟨a3,ah⟩,rfl,aR,fun j x U=>⟨cs j,hw j x U,a0 j x U,aj j x U⟩⟩
theorem Rel.GW {r k cb len sz:Nat}{p:Option (Nat×Nat)}(h:Rel w ok bg bn (.br r k cb len) v)(cl:bn r k=some (sz,p)):
 (p=none/\cb=0/\len=0/\v = .slice none 0 0)\/ ∃b m a c,p=some (b,m)/\v = .slice a len c/\len<=c/\c<9223372036854775808/\(c=0\/(a=some ⟨b,cb*sz,none⟩/\(cb+c)*sz=m)):=by
 cases h with
 | pu a l c hu aU=>rw[cl] at aU;simp at aU
 | pT hu h =>
  rw[cl] at h;simp only[dB,dF] at h;exact .inl ⟨h.2,rfl,rfl,rfl⟩
 | br hu h aR a0 hm =>
  rw[cl] at h;simp only[dB,dF] at h;obtain⟨rfl,rfl⟩:=h;exact .inr ⟨_,_,_,_,rfl,rfl,aR,a0,hm.2.imp id fun e=>⟨e,hm.1⟩⟩
theorem Rel.zI {r k cb len sz:Nat}{p:Option (Nat×Nat)}(h:Rel w ok bg bn (.br r k cb len) v)(cl:bn r k=some (sz,p)):
 (p=none/\cb=0/\len=0/\v = .slice none 0 0)\/ ∃b m a c,p=some (b,m)/\v = .slice a len c/\len<=c/\c<9223372036854775808/\(cb+c)*sz=m/\(c=0\/a=some ⟨b,cb*sz,none⟩):=by
 cases h with
 | pu a l c hu aU=>rw[cl] at aU;simp at aU
 | pT hu h =>
  rw[cl] at h;simp only[dB,dF] at h;exact .inl ⟨h.2,rfl,rfl,rfl⟩
 | br hu h aR a0 hm =>
  rw[cl] at h;simp only[dB,dF] at h;obtain⟨rfl,rfl⟩:=h;exact .inr ⟨_,_,_,_,rfl,rfl,aR,a0,hm⟩
theorem Rel.wG {sz:Nat}{es:List (List aF)}(h:Rel w ok bg bn (.isl sz es) v):
 (es=[]/\ ∃a c,v = .slice a 0 c/\(a=none->c=0))\/ ∃ff off c,(ok ff/\j6 es)/\v = .slice (some ⟨ff,off,none⟩) es.length c/\es.length<=c/\qZ w ok bg bn ff off sz es:=by
 cases h with
 | kk sz a c h=>exact .inl ⟨rfl,a,c,rfl,h⟩
 | isl cs a3 ah aR a0 hw jJ aj=>exact .inr ⟨_,_,_,⟨a3,ah⟩,rfl,a0,aR,fun j x U=>⟨cs j,hw j x U,jJ j x U,aj j x U⟩⟩
theorem qZ.isl {ff off c sz:Nat}{es:List (List aF)}(h:qZ w ok bg bn ff off sz es)(a3:ok ff/\j6 es)(a0:es.length<=c):Rel w ok bg bn (.isl sz es) (.slice (some ⟨ff,off,none⟩) es.length c):=by
 have U : ∀j:Nat,∃v,∀x,es.flatten[j]? = some x->w.cell? ⟨ff,off+j,none⟩=some v/\VL.l8 v=true/\Rel w ok bg bn x v:=by
  intro j
  cases ay:es.flatten[j]? with
  | none=>exact⟨undef,fun x U=>by simp at U⟩
  | some y =>
   obtain⟨v,h1⟩:=h.2 j y ay;exact⟨v,fun x U=>by simp at U;subst U;exact h1⟩
 exact .isl (fun j=>(U j).choose) a3.1 a3.2 h.1 a0 (fun j x ay=>((U j).choose_spec x ay).1) (fun j x ay=>((U j).choose_spec x ay).2.1) (fun j x ay=>((U j).choose_spec x ay).2.2)
theorem qZ.fX {ff o i off sz:Nat}{es:List (List aF)}(h:qZ w ok bg bn ff o sz es)(a3:ok ff/\j6 es):Rel w ok bg bn (.fX sz es i off) (.pointer (some ⟨ff,o+(i*sz+off),none⟩)):=by
 have U : ∀j:Nat,∃v,∀x,es.flatten[j]? = some x->w.cell? ⟨ff,o+j,none⟩=some v/\VL.l8 v=true/\Rel w ok bg bn x v:=by
  intro j
  cases ay:es.flatten[j]? with
  | none=>exact⟨undef,fun x U=>by simp at U⟩
  | some y =>
   obtain⟨v,h1⟩:=h.2 j y ay;exact⟨v,fun x U=>by simp at U;subst U;exact h1⟩
 exact .fX (fun j=>(U j).choose) a3.1 a3.2 h.1 (fun j x ay=>((U j).choose_spec x ay).1) (fun j x ay=>((U j).choose_spec x ay).2.1) (fun j x ay=>((U j).choose_spec x ay).2.2)
end
def Fin (P:Program)(g:G)(s:S)(a:Act)(w:World)(o:Oper)(bK:jv):Prop :=
 ∃v bZ b6,((execOp a.eval o).run P w = .ok (.value v) bZ\/((execOp a.eval o).run P w = .ok .skip bZ/\v=undef)) /\
  dh g (s.jQ bK.hj) b6 a bZ/\Rel bZ ((s.jQ bK.hj).ok g b6 bZ) (s.jQ bK.hj).bg ((s.jQ bK.hj).bn b6) bK.val v
section
variable {P:Program} {g:G} {s:S} {aG:gE} {a:Act} {w:World} {o:Oper} {dc:fY} {ba:Nat} {bK:jv}
theorem jO (h:dh g s aG a w){v:Value}(kF:(execOp a.eval o).run P w = .ok (.value v) w)(hu:bK.hj=[])
 (aj:Rel w (s.ok g aG w) s.bg (s.bn aG) bK.val v):Fin P g s a w o bK :=
 ⟨v,w,aG,.inl kF,by rw[hu];exact h,by rw[hu];exact aj⟩
theorem Xz {x:Operand}(h:dh g s aG a w)(ap:o.op = .move x\/o.op = .assign x)(aC:fR P s.E s.a8 ba o dc=some bK):Fin P g s a w o bK:=by
 have:bK={val:=fN s.E x}:=by rcases ap with ap|ap<;>simp[fR,ap] at aC<;>exact aC.symm
 subst this;refine jO (v:=a.eval x) h ?_ rfl (h.eval x);rcases ap with ap|ap<;>simp[execOp,ap]
theorem aje {c x y:Operand}(h:dh g s aG a w)(ap:o.op = .pick c x y)(aC:fR P s.E s.a8 ba o dc=some bK)(cW:∀p∈bK.gz,p):Fin P g s a w o bK:=by
 have a0:=h.eval c;simp only[fR,ap] at aC
 have key : ∀t:Bool,fN s.E c = .b t->bK.hj=[]->bK.val=(if t then fN s.E x else fN s.E y)->Fin P g s a w o bK:=by
  intro t cl hu bh;rw[cl] at a0;have e:a.eval c = .bool t:=a0.x7;refine jO (v:=if t then a.eval x else a.eval y) h (by simp[execOp,ap,e,asBool]) hu ?_;rw[bh];cases t
  ·exact h.eval y
  exact h.eval x
 split at aC
 ·rename_i z t cB;simp at aC;subst aC;have e:z=t:=cW _ (by simp);subst e;exact key z cB rfl rfl
 ·rename_i cB _;simp at aC;subst aC;exact key true cB rfl rfl
 ·rename_i cB _;simp at aC;subst aC;exact key false cB rfl rfl
 simp at aC
theorem Kv (h:dh g s aG a w)(fV:s.a8 ba=none){v:Value}{ao:aS}{c:Array Value}{fG:TypeId}(a2:ao.cL = .live)
 (kF:(execOp a.eval o).run P w = .ok (.value v) (w.alloc (.cells c fG))) (hu:bK.hj=[(ba,[ao])]) (hlen : ∀e∈ao.es,e.length=ao.sz)
 (a0 : ∀(j:Nat) x,ao.es.flatten[j]? = some x-> ∃v,c[j]? = some v/\l8 v=true/\Rel w (s.ok g aG w) s.bg (s.bn aG) x v)
 (hval : ∀(bZ:World) (mV:Nat->Prop) (o6:kX) (ox:kL),o6 ba 0->ox ba 0=some (ao.sz,some (w.heap.size,c.size))->Rel bZ mV o6 ox bK.val v):Fin P g s a w o bK:=by
 obtain⟨b6,ah,bM,-⟩:=h.alloc fV ao a2 c fG hlen a0;have h1:(s.setRow ba [ao]).bg ba 0:=by rw[ps];simp
 have h2:(s.setRow ba [ao]).bn b6 ba 0=some (ao.sz,some (w.heap.size,c.size)):=by simp[S.bn,nI,oj,a2,ah]
 exact⟨v,_,b6,.inl kF,by rw[hu];exact bM,by rw[hu];exact hval _ _ _ _ h1 h2⟩
theorem Gy {t:TypeId}{z:List aF}(cB:tn P t=some z): ∃i fx,P.info? t=some i/\i.zero=some fx/\z=fx.cells.toList.map ofValue /\
 ∀(j:Nat) x,z[j]? = some x-> ∃v,fx.cells[j]? = some v/\l8 v=true/\ ∀(w:World) (ok:Nat->Prop) (bg:kX) (bn:kL),Rel w ok bg bn x v:=by
 unfold tn at cB
 cases aa:P.info? t with
 | none=>simp[aa] at cB
 | some i =>
  cases mH:i.zero with
  | none=>simp[aa,mH] at cB
  | some fx =>
   simp only[aa,mH] at cB;split at cB
   ·rename_i kG;simp only[dB] at cB;refine⟨i,fx,rfl,mH,cB.symm,fun j x U=> ?_⟩;subst cB;rw[dK,dP] at U;obtain⟨v,bh,rfl⟩:=U;refine⟨v,by rw[<- Array.getElem?_toList];exact bh,?_,fun w ok bg bn=>Vn v⟩;exact List.all_eq_true.1 kG v (dH bh)
   simp at cB
theorem ah8 {t:TypeId}(h:dh g s aG a w)(fV:s.a8 ba=none)(ap:o.op = .alloc t)(aC:fR P s.E s.a8 ba o dc=some bK):Fin P g s a w o bK:=by
 simp only[fR,ap] at aC;split at aC
 ·rename_i z cB
  obtain⟨i,fx,aa,mH,e,lW⟩:=Gy cB;simp only[dB] at aC;subst aC;refine Kv (v:= .pointer (some ⟨w.heap.size,0,none⟩)) (c:=fx.cells) (fG:=t) (ao:=⟨z.length,[z],.live⟩) h fV rfl ?_ rfl (by simp) ?_ ?_
  ·simp[execOp,ap,Instr.alloc,zeroValue,typeInfo,aa,mH,newVar,newRow]
  ·intro j x U;simp only[apZ,List.flatten_nil,List.append_nil] at U;obtain⟨v,h1,h2,J⟩:=lW j x U;exact⟨v,h1,h2,J _ _ _ _⟩
  intro bZ mV o6 ox hu cl;have:=Rel.ref (w:=bZ) (ok:=mV) (i:=0) (off:=0) hu cl;simpa using this
 simp at aC
theorem ajV {t:TypeId}{x:Operand}(h:dh g s aG a w)(fV:s.a8 ba=none)(ap:o.op = .box t x)(aC:fR P s.E s.a8 ba o dc=some bK):Fin P g s a w o bK:=by
 simp only[fR,ap] at aC;have U:=h.eval x
 have key : ∀ao:aS,ao.cL = .live->ao.es=[(fN s.E x).cells]->ao.sz=(fN s.E x).cells.length->((fN s.E x).one=true\/ ∃c,fN s.E x = .agg c) ->
  bK.hj=[(ba,[ao])]->bK.val = .ref ba 0 0 0->Fin P g s a w o bK:=by
  intro ao a2 jn fU n8 hu bh;obtain⟨vs,e1,e2,bG,cM⟩:=U.cellsOf n8;refine Kv (v:= .pointer (some ⟨w.heap.size,0,none⟩)) (c:=(a.eval x).cells) (fG:=t) h fV a2 ?_ hu ?_ ?_ ?_
  ·simp[execOp,ap,Instr.box,newVar,newRow]
  ·intro e he;rw[jn] at he;simp at he;rw[he,fU]
  ·intro j y aV
   rw[jn] at aV;simp only[apZ,List.flatten_nil,List.append_nil] at aV
   have ay:j<vs.length:=by
    rcases Nat.lt_or_ge j (fN s.E x).cells.length with c1|c1
    ·omega
    rw[dR c1] at aV;simp at aV
   refine⟨vs[j],by rw[e1];simp[ay],bG j _ (dz ay),cM j y _ aV (dz ay)⟩
  intro bZ mV o6 ox qO cl;have:=Rel.ref (w:=bZ) (ok:=mV) (i:=0) (off:=0) qO cl;rw[bh];simpa using this
 split at aC
 ·rename_i c a0;simp only[dB] at aC;subst aC;exact key _ rfl (by rw[a0];rfl) (by rw[a0];rfl) (.inr ⟨c,a0⟩) rfl rfl
 split at aC
 ·rename_i n8
  simp only[dB] at aC;subst aC;have e:(fN s.E x).cells=[fN s.E x]:=by generalize fN s.E x=y at n8;cases y<;>first|rfl|simp[aF.one] at n8
  exact key _ rfl (by rw[e]) (by rw[e];rfl) (.inl n8) rfl rfl
 simp at aC
theorem jV {s:S}{aG:gE}{r k:Nat}{ao:aS}(h:s.ao r k=some ao):s.bn aG r k=some (ao.sz,aG r k):=by simp[S.bn,h]
theorem wH {row:Option (List aS)}{k:Nat}{ao:aS}{bX:List Prop}(h:qE row k dc=some (ao,bX))(cW:∀p∈bX,p):d8 row k=some ao:=by
 unfold qE at h;split at h
 ·split at h
  ·simp at h;obtain⟨rfl,rfl⟩:=h;exact cW _ (by simp)
  simp at h
 split at h
 ·rename_i c1;simp at h;obtain⟨rfl,rfl⟩:=h;exact c1
 simp at h
theorem DE {es:List (List aF)}{i:Nat}{c:List aF}{bX:List Prop}(h:elemAt es i dc=some (c,bX))(cW:∀p∈bX,p):es[i]? = some c:=by
 unfold elemAt at h;split at h
 ·simp at h;obtain⟨rfl,rfl⟩:=h;exact cW _ (by simp)
 ·simp at h;obtain⟨rfl,rfl⟩:=h;exact cW _ (by simp)
 split at h
 ·rename_i c1;simp at h;obtain⟨rfl,rfl⟩:=h;exact c1
 simp at h
theorem ajf {t:TypeId}{x:Operand}(h:dh g s aG a w)(ap:o.op = .load t x)(aC:fR P s.E s.a8 ba o dc=some bK)(cW:∀p∈bK.gz,p):Fin P g s a w o bK:=by
 simp only[fR,ap] at aC;have U:=h.eval x;split at aC
 ·rename_i r k i off iL
  rw[iL] at U;split at aC;rotate_left
  ·simp at aC
  rename_i ao bX bt;split at aC;rotate_left
  ·simp at aC
  rename_i c aK na;split at aC;rotate_left
  ·simp at aC
  rename_i v bh;simp only[dB] at aC;subst aC;have ll:s.ao r k=some ao:=wH bt fun p ah=>cW p (by simp[ah]);have sa:=DE na fun p ah=>cW p (by simp[ah]);have gv:=h.obj r k ao ll;rcases U.zR (jV ll) with h0|⟨b,m,ah,hval⟩
  ·rw[h0] at gv;simp only[kS] at gv;rw[gv] at sa;simp at sa
  rw[ah] at gv;obtain⟨u,h1,h2⟩:=NS (P:=P) gv.rd sa bh;refine jO (v:=u) h ?_ rfl h2;rw[dG] at h1;simp[execOp,ap,hval,h1]
 ·rename_i sz es i off iL
  rw[iL] at U;split at aC
  ·rename_i c aK na
   split at aC
   ·rename_i v bh;simp only[dB] at aC;subst aC;have sa:=DE na fun p ah=>cW p (by simp[ah]);obtain⟨ff,cp,a3,hval,ke⟩:=U.DS;obtain⟨u,h1,h2⟩:=NS (P:=P) ke sa bh;refine jO (v:=u) h ?_ rfl h2;simp[execOp,ap,hval,h1]
   simp at aC
  simp at aC
 simp at aC
end
section
variable {P:Program} {g:G} {s:S} {aG:gE} {a:Act} {w:World} {o:Oper} {dc:fY} {ba:Nat} {bK:jv}
theorem Wl (h:dh g s aG a w){r k i off:Nat}{row:List aS}{ao:aS}{c:List aF}{t:TypeId}{x y:Operand}(ap:o.op = .store t x y)
 (iL:fN s.E x = .ref r k i off) (ev:s.a8 r=some row) (bt:s.ao r k=some ao) (a2:ao.cL = .live) (na:ao.es[i]? = some c)
 (n8:(fN s.E y).one=true\/ ∃c,fN s.E y = .agg c) (fU:(fN s.E y).cells.length=P.cellsOf t) (PR:(P.info? t).isSome=true)
 (iT:off+(fN s.E y).cells.length<=c.length) (aC:bK.val = .dead) (hu:bK.hj=[(r,row.set k {ao with es:=ao.es.set i (setCells c off (fN s.E y).cells)})]):Fin P g s a w o bK:=by
 have U:=h.eval x;rw[iL] at U;have gv:=h.obj r k ao bt;rcases U.zR (jV bt) with h0|⟨b,m,ah,hval⟩
 ·rw[h0] at gv;simp only[kS] at gv;rw[gv] at na;simp at na
 obtain⟨bZ,h1,h2⟩:=af0 (P:=P) h ev bt a2 ah na PR (h.eval y) n8 fU iT;refine⟨undef,bZ,aG,.inr ⟨?_,rfl⟩,by rw[hu];exact h2,by rw[aC];exact .dead _⟩;simp[execOp,ap,hval,h1]
theorem ah9 {t:TypeId}{x y:Operand}(h:dh g s aG a w)(ap:o.op = .store t x y)(aC:fR P s.E s.a8 ba o dc=some bK)(cW:∀p∈bK.gz,p):Fin P g s a w o bK:=by
 simp only[fR,ap] at aC;split at aC;rotate_left
 ·simp at aC
 rename_i r k i off iL;split at aC
 ·simp at aC
 rename_i row ev;split at aC;rotate_left
 ·simp at aC
 rename_i ao bX ak7;split at aC
 ·simp at aC
 rename_i a2;have a2:ao.cL = .live:=by simpa using a2
 split at aC
 ·simp at aC
 rename_i n8;have n8:=aF.Vo (by simpa using n8);split at aC
 ·simp at aC
 rename_i fU;simp only[not_or,Decidable.not_not,Bool.not_eq_false] at fU;have ll:(∀p∈bX,p)->s.ao r k=some ao:=fun bF=>by have:=wH ak7 bF;unfold S.ao;rw[ev];exact this
 split at aC
 ·split at aC
  ·rename_i En
   simp only[dB] at aC;subst aC;subst En;have eN:i<ao.es.length:=cW _ (by simp);have jJ:(fN s.E y).cells.length=ao.sz:=cW _ (by simp);have Hz:=ll fun p ah=>cW p (by simp[ah])
   have hlen:(ao.es[i]).length=ao.sz:=by
    have gv:=h.obj r k ao Hz
    cases ah:aG r k with
    | none=>rw[ah] at gv;simp only[kS] at gv;rw[gv] at eN;simp at eN
    | some q =>
     rw[ah] at gv;obtain⟨_,_,_,_,J,_⟩:=gv;exact J _ (List.getElem_mem eN)
   refine Wl h ap iL ev Hz a2 (c:=ao.es[i]) (dz eN) n8 fU.1 fU.2 (by omega) rfl ?_;have e:setCells ao.es[i] 0 (fN s.E y).cells=(fN s.E y).cells:=(by simp[setCells,hlen,jJ]);rw[e]
  simp at aC
 split at aC
 ·rename_i c aK na
  split at aC
  ·rename_i iT;simp only[dB] at aC;subst aC;exact Wl h ap iL ev (ll fun p ah=>cW p (by simp[ah])) a2 (DE na fun p ah=>cW p (by simp[ah])) n8 fU.1 fU.2 iT rfl rfl
  simp at aC
 simp at aC
theorem af1 {x:Operand}(h:dh g s aG a w)(ap:o.op = .nilCheck x)(aC:fR P s.E s.a8 ba o dc=some bK)(cW:∀p∈bK.gz,p):Fin P g s a w o bK:=by
 simp only[fR,ap] at aC;have U:=h.eval x;split at aC
 ·rename_i r k i off iL
  rw[iL] at U;split at aC
  ·rename_i ao bX bt
   split at aC
   ·rename_i c aK na
    simp only[dB] at aC;subst aC;have ll:s.ao r k=some ao:=wH bt fun p ah=>cW p (by simp[ah]);have sa:=DE na fun p ah=>cW p (by simp[ah]);have gv:=h.obj r k ao ll;rcases U.zR (jV ll) with h0|⟨b,m,ah,hval⟩
    ·rw[h0] at gv;simp only[kS] at gv;rw[gv] at sa;simp at sa
    refine jO (v:=a.eval x) h ?_ rfl U;simp[execOp,ap,hval]
   simp at aC
  simp at aC
 ·rename_i sz es i off iL;rw[iL] at U;simp only[dB] at aC;subst aC;obtain⟨ff,cp,a3,hval,ke⟩:=U.DS;refine jO (v:=a.eval x) h ?_ rfl U;simp[execOp,ap,hval]
 ·rename_i f c iL;rw[iL] at U;simp only[dB] at aC;subst aC;obtain⟨vs,hval,-⟩:=U.KO;refine jO (v:=a.eval x) h ?_ rfl U;simp[execOp,ap,hval]
 simp at aC
theorem ahf {op:BinOp}{t:TypeId}{x y z:aF}{ao:List Prop}(aC:Ps op x y=some (z,ao))(cW:∀p∈ao,p)
 {ok:Nat->Prop} {bg:kX} {bn:kL} {nj nk:Value} (U:Rel w ok bg bn x nj) (aV:Rel w ok bg bn y nk) (p q:Operand) :
 ∃v,((do eqGuard op t p q nj nk;binOp op t nj nk):Sem Value).run P w = .ok v w/\Rel w ok bg bn z v:=by
 unfold Ps at aC;split at aC
 ·rename_i k n ea pi
  have jL:=U.qB;have kM:=aV.qB;subst jL;subst kM;have du : ∀op,eqGuard op t p q (.int k n) (.int ea pi)=pure ():=fun op=>eqGuard_at_int ..;simp only[Sem.run_bind,du,Sem.run_pure,Result.andThen_ok];split at aC
  ·simp only[dB,dF] at aC;obtain⟨rfl,rfl⟩:=aC;have h0:0<=pi:=cW _ (by simp);exact⟨_,by simp[binOp,Op.shift,show ¬pi<0 by omega],.n _ _⟩
  ·simp only[dB,dF] at aC;obtain⟨rfl,rfl⟩:=aC;have h0:0<=pi:=cW _ (by simp);exact⟨_,by simp[binOp,Op.shift,show ¬pi<0 by omega],.n _ _⟩
  split at aC
  ·simp at aC
  rename_i a2;have a2:k=ea:=(by simpa using a2);subst a2;split at aC<;>simp only[dB,dF,reduceCtorEq] at aC
  all_goals (obtain⟨rfl,rfl⟩:=aC)
  case h_4|h_5 =>
   have h0:pi≠0:=cW _ (by simp);exact⟨_,by simp[binOp,Op.intDiv,h0],.n _ _⟩
  all_goals first
   | (refine⟨_,?_,.n _ _⟩;rw[binOp_add];rfl)
   | (refine⟨_,?_,.n _ _⟩;rw[binOp_sub];rfl)
   | (refine⟨_,?_,.n _ _⟩;rw[binOp_mul];rfl)
   | (refine⟨_,?_,.n _ _⟩;rw[binOp_and];rfl)
   | (refine⟨_,?_,.n _ _⟩;rw[binOp_or];rfl)
   | (refine⟨_,?_,.n _ _⟩;rw[binOp_xor];rfl)
   | (refine⟨_,?_,.b _⟩;simp[binOp,Op.intCmp];done)
 ·rename_i de nA
  have jL:=U.Ed;have kM:=aV.Ed;subst jL;subst kM;have du : ∀op,eqGuard op t p q (.string de) (.string nA)=pure ():=fun op=>eqGuard_at_string ..;simp only[Sem.run_bind,du,Sem.run_pure,Result.andThen_ok];split at aC<;>simp only[dB,dF,reduceCtorEq] at aC
  all_goals (obtain⟨rfl,rfl⟩:=aC)
  ·have h0:de.size+nA.size<9223372036854775808:=cW _ (by simp);refine⟨_,?_,.s _⟩;have h1 : ¬((de.size+nA.size:Nat):Int)>IntKind.i64.max:=(by rw[IntKind.max_i64];omega);rw[IntKind.max_i64] at h1;simp[binOp,Op.stringOp];omega
  ·exact⟨_,by simp[binOp,Op.stringOp],.b _⟩
  exact⟨_,by simp[binOp,Op.stringOp],.b _⟩
 simp at aC
theorem zv (t:TypeId)(x y:Value):Op.equal t x y=Op.equalIn (9999+1) t x y:=rfl
theorem Gf {t:TypeId}{a b:Bool}(d:Nat)(bD:P.underlying t=some .bool):(Op.equalIn (d+1) t (.bool a) (.bool b)).run P w = .ok (a == b) w:=by unfold Op.equalIn;simp[run_underlying bD]
theorem Gz {t e:TypeId}(d:Nat)(bD:P.underlying t=some (.pointer e)):(Op.equalIn (d+1) t (.pointer none) (.pointer none)).run P w = .ok true w:=by unfold Op.equalIn;simp[run_underlying bD]
theorem GA {t e:TypeId}{a:Addr}(d:Nat)(bD:P.underlying t=some (.pointer e)):(Op.equalIn (d+1) t (.pointer (some a)) (.pointer none)).run P w = .ok false w:=by unfold Op.equalIn;simp[run_underlying bD]
theorem GB {t e:TypeId}{a:Addr}(d:Nat)(bD:P.underlying t=some (.pointer e)):(Op.equalIn (d+1) t (.pointer none) (.pointer (some a))).run P w = .ok false w:=by unfold Op.equalIn;simp[run_underlying bD]
theorem GC {t e:TypeId}(d:Nat)(bD:P.underlying t=some (.slice e)):(Op.equalIn (d+1) t (.slice none 0 0) (.slice none 0 0)).run P w = .ok true w:=by unfold Op.equalIn;simp[run_underlying bD]
theorem VM {t e:TypeId}{a:Addr}{c:Nat}(d:Nat)(bD:P.underlying t=some (.slice e))(n:Nat):(Op.equalIn (d+1) t (.slice (some a) n c) (.slice none 0 0)).run P w = .ok false w:=by unfold Op.equalIn;simp[run_underlying bD]
theorem DK {t:TypeId}{x y:aF}{r:Bool}(aC:vL P t x y=some r)
 {ok:Nat->Prop} {bg:kX} {bn:kL} {nj nk:Value} (U:Rel w ok bg bn x nj) (aV:Rel w ok bg bn y nk) (p q:Operand) :
 ((do eqGuard .eql t p q nj nk;binOp .eql t nj nk):Sem Value).run P w = .ok (.bool r) w /\
 ((do eqGuard .neq t p q nj nk;binOp .neq t nj nk):Sem Value).run P w = .ok (.bool !r) w:=by
 have key : ∀b:Bool,(∀op,eqGuard op t p q nj nk=pure ())->binOp .eql t nj nk=(do pure (.bool (<- Op.equal t nj nk)))->binOp .neq t nj nk=(do pure (.bool (!(<- Op.equal t nj nk)))) ->
  (Op.equal t nj nk).run P w = .ok b w->((do eqGuard .eql t p q nj nk;binOp .eql t nj nk):Sem Value).run P w = .ok (.bool b) w /\
  ((do eqGuard .neq t p q nj nk;binOp .neq t nj nk):Sem Value).run P w = .ok (.bool !b) w:=by
  intro b du h1 h2 J;constructor
  ·rw[du,h1];simp[J]
  rw[du,h2];simp[J]
 unfold vL at aC;split at aC
 ·rename_i de nA bD;simp only[dB] at aC;subst aC;have jL:=U.x7;have kM:=aV.x7;subst jL;subst kM;exact key _ (fun op=>eqGuard_at_bool ..) rfl rfl (by rw[zv];first|exact Gf _ bD|exact Gz _ bD|exact GA _ bD|exact GB _ bD|exact GC _ bD)
 ·rename_i e bD;simp only[dB] at aC;subst aC;have jL:=U.zH;have kM:=aV.zH;subst jL;subst kM;exact key _ (fun op=>eqGuard_at_pointer ..) rfl rfl (by rw[zv];first|exact Gf _ bD|exact Gz _ bD|exact GA _ bD|exact GB _ bD|exact GC _ bD)
 ·rename_i e sz es i off bD;simp only[dB] at aC;subst aC;obtain⟨ff,cp,-,jL,-⟩:=U.DS;have kM:=aV.zH;subst jL;subst kM;exact key _ (fun op=>eqGuard_at_pointer ..) rfl rfl (by rw[zv];first|exact Gf _ bD|exact Gz _ bD|exact GA _ bD|exact GB _ bD|exact GC _ bD)
 ·rename_i e sz es i off bD;simp only[dB] at aC;subst aC;obtain⟨ff,cp,-,kM,-⟩:=aV.DS;have jL:=U.zH;subst jL;subst kM;exact key _ (fun op=>eqGuard_at_pointer ..) rfl rfl (by rw[zv];first|exact Gf _ bD|exact Gz _ bD|exact GA _ bD|exact GB _ bD|exact GC _ bD)
 ·rename_i e bD;simp only[dB] at aC;subst aC;have jL:=U.sx;have kM:=aV.sx;subst jL;subst kM;exact key _ (fun op=>eqGuard_at_slice ..) rfl rfl (by rw[zv];first|exact Gf _ bD|exact Gz _ bD|exact GA _ bD|exact GB _ bD|exact GC _ bD)
 ·rename_i e bD;simp only[dB] at aC;subst aC;obtain⟨A8,c,jL⟩:=U.Ku;have kM:=aV.sx;subst jL;subst kM;exact key _ (fun op=>eqGuard_at_slice ..) rfl rfl (by rw[zv];exact VM _ bD 0)
 simp at aC
theorem Yd {t e:TypeId}(bD:P.underlying t=some (.slice e)){sz:Nat}{es:List (List aF)}(di:es≠[])
 {ok:Nat->Prop} {bg:kX} {bn:kL} {nj nk:Value} (U:Rel w ok bg bn (.isl sz es) nj) (aV:Rel w ok bg bn .fg nk) (p q:Operand) :
 ((do eqGuard .eql t p q nj nk;binOp .eql t nj nk):Sem Value).run P w = .ok (.bool false) w /\
 ((do eqGuard .neq t p q nj nk;binOp .neq t nj nk):Sem Value).run P w = .ok (.bool true) w:=by
 rcases U.wG with ⟨h0,-⟩|⟨ff,off,c,-,jL,-⟩
 ·exact absurd h0 di
 have kM:=aV.sx;subst jL;subst kM;have J:(Op.equal t (.slice (some ⟨ff,off,none⟩) es.length c) (.slice none 0 0)).run P w = .ok false w:=by rw[zv];exact VM _ bD _
 have du : ∀op,eqGuard op t p q (.slice (some ⟨ff,off,none⟩) es.length c) (.slice none 0 0)=pure ():=fun op=>eqGuard_at_slice ..;have h1:binOp .eql t (.slice (some ⟨ff,off,none⟩) es.length c) (.slice none 0 0)=(do pure (.bool (<- Op.equal t (.slice (some ⟨ff,off,none⟩) es.length c) (.slice none 0 0)))):=rfl;have h2:binOp .neq t (.slice (some ⟨ff,off,none⟩) es.length c) (.slice none 0 0)=(do pure (.bool (!(<- Op.equal t (.slice (some ⟨ff,off,none⟩) es.length c) (.slice none 0 0))))):=rfl;constructor
 ·rw[du,h1];simp[J]
 rw[du,h2];simp[J]
theorem aia {op:BinOp}{t cI:TypeId}{x y:Operand}(h:dh g s aG a w)(ap:o.op = .binOp op t x y cI)(aC:fR P s.E s.a8 ba o dc=some bK)(cW:∀p∈bK.gz,p):Fin P g s a w o bK:=by
 simp only[fR,ap] at aC;have U:=h.eval x;have aV:=h.eval y;split at aC
 ·rename_i v ao a3;simp only[dB] at aC;subst aC;obtain⟨u,h1,h2⟩:=ahf (P:=P) (t:=t) a3 cW U aV x y;refine jO (v:=u) h ?_ rfl h2;simp only[execOp,ap];rw[Sem.run_bind,h1];rfl
 split at aC
 ·cases he:vL P t (fN s.E x) (fN s.E y) with
  | none=>simp[he] at aC
  | some r =>
   simp[he] at aC;subst aC;refine jO (v:= .bool r) h ?_ rfl (.b r);simp only[execOp,ap];rw[Sem.run_bind,(DK (w:=w) he U aV x y).1];rfl
 ·cases he:vL P t (fN s.E x) (fN s.E y) with
  | none=>simp[he] at aC
  | some r =>
   simp[he] at aC;subst aC;refine jO (v:= .bool !r) h ?_ rfl (.b _);simp only[execOp,ap];rw[Sem.run_bind,(DK (w:=w) he U aV x y).2];rfl
 simp at aC
theorem ajg {op:UnOp}{t:TypeId}{x:Operand}(h:dh g s aG a w)(ap:o.op = .unOp op t x)(aC:fR P s.E s.a8 ba o dc=some bK):Fin P g s a w o bK:=by
 simp only[fR,ap] at aC;have U:=h.eval x
 cases he:PP op (fN s.E x) with
 | none=>simp[he] at aC
 | some v =>
  simp[he] at aC;subst aC;unfold PP at he;split at he
  ·rename_i k n iL;rw[iL] at U;simp only[dB] at he;subst he;refine jO (v:= .int k (k.wrap (0-n))) h ?_ rfl (.n _ _);simp[execOp,ap,U.qB,Op.unary,Op.intArith]
  ·rename_i b iL;rw[iL] at U;simp only[dB] at he;subst he;refine jO (v:= .bool !b) h ?_ rfl (.b _);simp[execOp,ap,U.x7,Op.unary]
  simp at he
theorem agt {t cI:TypeId}{x:Operand}(h:dh g s aG a w)(ap:o.op = .convert t cI x)(aC:fR P s.E s.a8 ba o dc=some bK):Fin P g s a w o bK:=by
 simp only[fR,ap] at aC;have U:=h.eval x;split at aC
 ·rename_i k ea n bD iL
  rw[iL] at U;split at aC
  case isFalse=>simp at aC
  rename_i bM;simp only[dB] at aC;subst aC;refine jO (v:= .int k (k.wrap n)) h ?_ rfl (.n _ _)
  cases Zz:P.underlying t with
  | none=>simp[Zz] at bM
  | some d=>simp[execOp,ap,U.qB,convert,run_underlying bD,run_underlying Zz,Conv.intToInt]
 ·rename_i r k cb len bD iL
  rw[iL] at U;split at aC;rotate_left
  ·simp at aC
  rename_i ao Lf bt;split at aC;rotate_left
  ·simp at aC
  rename_i pN HY;split at aC;rotate_left
  ·simp at aC
  rename_i a0;simp only[dB] at aC;subst aC
  obtain⟨e,bM,he⟩ : ∃e,P.underlying t=some (.slice e)/\P.underlying e=some (.int .u8):=by
   unfold sH at Lf;split at Lf
   ·rename_i e bM;exact⟨e,bM,Lf⟩
   simp at Lf
  have e6:s.ao r k=some ao:=bt;have gv:=h.obj r k ao e6
  have hzero : ∀(lp:Option Addr) (c:Nat),len=0->(convert t cI (.slice lp 0 c)).run P w = .ok (.string (vI pN)) w:=by
   intro lp c h0;subst h0;have:pN=[]:=(by simpa [bytesOf] using HY);subst this
   cases lp with
   | none=>rw[run_convert_bytes_string w t cI e none 0 c bM he bD];simp[Conv.bytesToString,vI]
   | some lp =>
    rw[run_convert_bytes_string w t cI e (some lp) 0 c bM he bD,run_bytesToString w lp 0 c [] (by have:=run_loadCells_list (P:=P) w lp [] (fun j v ay=>by simp at ay);simpa using this)];rfl
  rcases U.GW (jV e6) with ⟨ah,rfl,rfl,hval⟩|⟨b,m,A,c,ah,hval,uM,w9,hm⟩
  ·refine jO (v:= .string (vI pN)) h ?_ rfl (.s _);simp[execOp,ap,hval,hzero none 0 rfl]
  refine jO (v:= .string (vI pN)) h ?_ rfl (.s _);by_cases h0:len=0
  ·subst h0;simp[execOp,ap,hval,hzero A c rfl]
  rcases hm with hm|⟨hA,hm⟩
  ·omega
  subst hA;rw[ah] at gv;have ke:=gv.rd
  have Ev : ∀(es:List (List aF)) (pN:ar),bytesOf es=some pN->es.length=pN.length/\ ∀(i:Nat) n,pN[i]? = some n->es[i]? = some [.n .u8 n]:=by
   intro es
   induction es with
   | nil=>intro pN h;simp[bytesOf] at h;subst h;exact⟨rfl,fun i n aa=>by simp at aa⟩
   | cons x es ih =>
    intro pN h;unfold bytesOf at h;split at h
    ·simp at *
    ·rename_i mu aoW Ew
     simp only[List.cons.injEq] at Ew;obtain⟨rfl,rfl⟩:=Ew;rw[dP] at h;obtain⟨gG,Lx,rfl⟩:=h;obtain⟨e1,e2⟩:=ih gG Lx;refine⟨by simp[e1],fun i n aa=> ?_⟩
     cases i with
     | zero=>simp at aa;subst aa;rfl
     | succ i=>simpa using e2 i n (by simpa using aa)
    simp at h
  obtain⟨e1,e2⟩:=Ev _ _ HY;have hlen:pN.length=len:=(by rw[<- e1];simp;omega);have akH:(loadCells ⟨b,cb*ao.sz,none⟩ len).run P w = .ok (pN.map (Value.int .u8)).toArray w:=(by have:=run_loadCells_list (P:=P) w ⟨b,cb*ao.sz,none⟩ (pN.map (Value.int .u8)) (fun j v ay=>by rw[dK,dP] at ay;obtain⟨n,aU,rfl⟩:=ay;have lZ:=e2 j n aU;have AA:j<len:=(by rw[<- hlen];exact(apX.1 aU).1);rw[List.getElem?_take_of_lt AA,ap5] at lZ;obtain⟨v,v1,v2,v3⟩:=ke.2 ((cb+j)*ao.sz+0) (.n .u8 n) (by rw[Gx ke.1 lZ (by omega)];rfl);have bh:=v3.qB;subst bh;rw[uu,<- v1,a0.2];congr 2;omega);rw[ap4,hlen] at this;exact this);have h2:=run_bytesToString w ⟨b,cb*ao.sz,none⟩ len c pN akH;rw[<- run_convert_bytes_string w t cI e _ len c bM he bD] at h2;simp[execOp,ap,hval,h2,vI]
 simp at aC
theorem af2 {f:Fn}{IU cO:Array Operand}(h:dh g s aG a w)(ap:o.op = .makeFunc f IU cO)(aC:fR P s.E s.a8 ba o dc=some bK):Fin P g s a w o bK:=by
 cases f with
 | func n =>
  simp only[fR,ap] at aC;split at aC;rotate_left
  ·simp at aC
  rename_i alN;simp only[dB] at aC;subst aC;refine jO (v:= .func (.func n) #[] (cO.map a.eval)) h ?_ rfl ?_
  ·have:IU = #[]:=(by simpa using alN);subst this;simp[execOp,ap,Instr.makeFunc]
  have:=Rel.fn (f:=n) (c:=cO.toList.map (fN s.E)) (w:=w) (ok:=s.ok g aG w) (bg:=s.bg) (bn:=s.bn aG) (cO.toList.map a.eval) (by simp) (by intro j x v U bh;rw[dK,dP] at U bh;obtain⟨p,ah,rfl⟩:=U;obtain⟨q,a1,rfl⟩:=bh;rw[ah] at a1;simp at a1;subst a1;exact h.eval p);have e:(cO.toList.map a.eval).toArray=cO.map a.eval:=(by apply Array.ext';rw[Array.toList_map]);rw[e] at this;exact this
 | _=>simp[fR,ap] at aC
theorem agu {i:Nat}{x:Operand}(h:dh g s aG a w)(ap:o.op = .extract x i)(aC:fR P s.E s.a8 ba o dc=some bK):Fin P g s a w o bK:=by
 simp only[fR,ap] at aC;have U:=h.eval x;split at aC;rotate_left
 ·simp at aC
 rename_i vs iL;rw[iL] at U
 cases aa:vs[i]? with
 | none=>simp[aa] at aC
 | some v =>
  simp[aa] at aC;subst aC;obtain⟨bg,hval,aR,aj⟩:=U.DR
  have eN:i<bg.length:=by
   rcases Nat.lt_or_ge i vs.length with c1|c1
   ·omega
   rw[dR c1] at aa;simp at aa
  have hu:bg[i]? = some bg[i]:=dz eN;refine jO (v:=bg[i]) h ?_ rfl (aj i v _ aa hu);simp[execOp,ap,hval,Instr.extract,hu]
end
section
variable {P:Program} {g:G} {s:S} {aG:gE} {a:Act} {w:World} {o:Oper} {dc:fY} {ba:Nat} {bK:jv}
theorem vq {t e:TypeId}(h:sH P t=some e):P.underlying t=some (.slice e):=by
 unfold sH at h;split at h
 ·rename_i fl he;simp at h;subst h;exact he
 simp at h
theorem NK {t:TypeId}{mO:Array Field}(h:fieldsOf P t=some mO):P.underlying t=some (.struct mO):=by
 unfold fieldsOf at h;split at h
 ·rename_i fl he;simp at h;subst h;exact he
 simp at h
theorem U2 : ∀(z c:List aF),(uz z c).length=z.length
 | x::z,y::c=>by simp[uz,U2 z c]
 | [],_=>by simp[uz]
 | _::_,[]=>by simp[uz]
theorem afG (z:List aF)(dc:fY):(wO z dc).length=z.length:=by
 unfold wO;split
 ·exact U2 z _
 rfl
theorem agv (x y:aF){w:World}{ok:Nat->Prop}{bg:kX}{bn:kL}{v:Value}(h:Rel w ok bg bn x v):Rel w ok bg bn (G6 x y) v:=by
 unfold G6;split
 ·rw[h.sx];exact .kk _ _ _ (fun _=>rfl)
 ·rw[h.zH];exact .r9 _
 ·rw[h.sx];exact .o0 (.kk _ _ _ (fun _=>rfl))
 exact h
theorem Wm : ∀(z c:List aF) (j:Nat) q,(uz z c)[j]? = some q-> ∃x,z[j]? = some x/\(q=x\/ ∃y,q=G6 x y)
 | x::z,y::c,0,q,h=>by simp[uz] at h;exact⟨x,rfl,.inr ⟨y,h.symm⟩⟩
 | x::z,y::c,j+1,q,h=>by simp only[uz,List.getElem?_cons_succ] at h;simpa using Wm z c j q h
 | [],c,j,q,h=>by simp[uz] at h
 | x::z,[],j,q,h=>⟨q,by simpa [uz] using h,.inl rfl⟩
theorem aib (z:List aF)(dc:fY)(j:Nat)(q:aF)(h:(wO z dc)[j]? = some q): ∃x,z[j]? = some x/\(q=x\/ ∃y,q=G6 x y):=by
 unfold wO at h;split at h
 ·exact Wm z _ j q h
 exact⟨q,h,.inl rfl⟩
theorem afH {t:TypeId}{x y:Operand}(h:dh g s aG a w)(fV:s.a8 ba=none)(ap:o.op = .makeSlice t x y)(aC:fR P s.E s.a8 ba o dc=some bK)(cW:∀p∈bK.gz,p):Fin P g s a w o bK:=by
 simp only[fR,ap] at aC;have U:=h.eval x;have aV:=h.eval y;split at aC;rotate_left
 ·simp at aC
 rename_i e kN l j3 c he ak8 ak9;rw[ak8] at U;rw[ak9] at aV;split at aC;rotate_left
 ·simp at aC
 rename_i i z aa cB;obtain⟨fA,fx,kH,mH,s9,Ye⟩:=Gy cB;rw[aa] at kH;simp at kH;subst kH;simp only[Option.ite_none_right_eq_some,dB] at aC;obtain⟨fU,aC⟩:=aC;subst aC;have na:=afG z dc
 have lW : ∀(j:Nat) q,(wO z dc)[j]? = some q-> ∃v,fx.cells[j]? = some v/\VL.l8 v=true/\ ∀w ok bg bn,Rel w ok bg bn q v:=by
  intro j q a1;obtain⟨x,eT,pG⟩:=aib z dc j q a1;obtain⟨v,v1,v2,v3⟩:=Ye j x eT;refine⟨v,v1,v2,fun w ok bg bn=> ?_⟩;rcases pG with rfl|⟨y,rfl⟩
  ·exact v3 w ok bg bn
  exact agv x y (v3 w ok bg bn)
 clear Ye;have h0:0<=l:=cW _ (by simp);have h1:l<=c:=cW _ (by simp);have h2:(i.bytes:Int)*c<=281474976710656:=cW _ (by simp);have J:c<9223372036854775808:=cW _ (by simp);have pH:z.length=fx.cells.size:=by rw[s9];simp
 have kF:=run_make (P:=P) w t e i fx (vq he) aa mH kN j3 l c h0 h1 h2 (by omega);refine Kv (v:= .slice (some ⟨w.heap.size,0,none⟩) l.toNat c.toNat) (ao:=⟨z.length,List.replicate l.toNat (wO z dc),.live⟩) (c:=madeCells fx.cells (c.toNat*i.size)) (fG:=e) h fV rfl ?_ rfl ?_ ?_ ?_
 ·simp[execOp,ap,U.qB,aV.qB,kF]
 ·intro fl oa;rw[List.eq_of_mem_replicate oa];exact na
 ·intro j q a1
  have aR : ∀fl∈List.replicate l.toNat (wO z dc),fl.length=z.length:=fun fl oa=>(by rw[List.eq_of_mem_replicate oa];exact na);rcases Nat.eq_zero_or_pos z.length with uN|Ly
  ·have:wO z dc=[]:=dM.1 (by omega);rw[this] at a1;simp at a1
  rw[rS Ly _ aR,List.getElem?_replicate] at a1;by_cases ay:j / z.length<l.toNat;rotate_left
  ·rw[dA ay] at a1;simp at a1
  rw[dw ay] at a1;simp only[dx] at a1;obtain⟨v,e1,e2,bG⟩:=lW _ _ a1;refine⟨v,?_,e2,bG _ _ _ _⟩;have eN:j<c.toNat*i.size:=(by rw[<- fU];have:j<l.toNat*z.length:=(Nat.div_lt_iff_lt_mul Ly).1 ay;exact Nat.lt_of_lt_of_le this (apV _ (by omega)));simp only[madeCells];rw[Array.getElem?_map,Array.getElem?_range];simp only[eN,if_true,apR];rw[pH] at e1;have hm:j % fx.cells.size<fx.cells.size:=Nat.mod_lt _ (by omega);rw[apU hm] at e1;rw[getElem!_pos fx.cells _ hm];exact e1
 intro bZ mV o6 ox hu cl;refine Rel.br hu cl (by omega) (by omega) ⟨?_,.inr (by simp)⟩;rw[size_madeCells];simp only[dG,fU]
theorem afI {t:TypeId}{x:Operand}{f:Nat}(h:dh g s aG a w)(ap:o.op = .fieldAddr t x f)(aC:fR P s.E s.a8 ba o dc=some bK)(cW:∀p∈bK.gz,p):Fin P g s a w o bK:=by
 simp only[fR,ap] at aC;have U:=h.eval x;split at aC;rotate_left
 ·simp at aC
 rename_i mO HZ;split at aC;rotate_left
 ·simp at aC
 rename_i fd yl;split at aC
 ·simp at aC
 rename_i ZA
 have aa:(P.info? fd.type).isSome=true:=by
  cases aa:P.info? fd.type with
  | none=>simp[Program.cellsOf,aa] at ZA
  | some i=>rfl
 have kF : ∀A:Addr,A.spot=none->(Instr.fieldAt t (.pointer (some A)) f).run P w = .ok (.pointer (some ⟨A.block,A.off+fd.offset,none⟩)) w:=by intro A hA;have e:A.add fd.offset=⟨A.block,A.off+fd.offset,none⟩:=(by obtain⟨b,o,sp⟩:=A;simp only at hA;subst hA;exact uu b o _);simp[Instr.fieldAt,run_underlying (NK HZ),yl,Instr.sureAddr,fieldPlace,wv aa,ZA,e]
 split at aC
 ·rename_i r k i off iL
  rw[iL] at U;split at aC
  ·rename_i ao bX bt
   split at aC
   ·rename_i c aK na
    simp only[dB] at aC;subst aC;have ll:s.ao r k=some ao:=wH bt fun p ah=>cW p (by simp[ah]);have sa:=DE na fun p ah=>cW p (by simp[ah]);have gv:=h.obj r k ao ll;rcases U.zR (jV ll) with h0|⟨b,m,ah,hval⟩
    ·rw[h0] at gv;simp only[kS] at gv;rw[gv] at sa;simp at sa
    refine jO (v:= .pointer (some ⟨b,i*ao.sz+(off+fd.offset),none⟩)) h ?_ rfl ?_
    ·simp[execOp,ap,hval,kF,Nat.add_assoc]
    exact U.Wk ((jV ll).trans (by rw[ah])) _
   simp at aC
  simp at aC
 ·rename_i sz es i off iL;rw[iL] at U;simp only[dB] at aC;subst aC;obtain⟨ff,cp,a3,hval,ke⟩:=U.DS;refine jO (v:= .pointer (some ⟨ff,cp+(i*sz+(off+fd.offset)),none⟩)) h ?_ rfl (ke.fX a3);simp[execOp,ap,hval,kF,Nat.add_assoc]
 simp at aC
theorem OG {t e:TypeId}{n:Nat}(h:Hy P t=some (n,e)):P.underlying t=some (.array n e)/\(P.info? e).isSome=true/\P.cellsOf e≠0/\1<n:=by
 unfold Hy at h;split at h
 ·rename_i pi fl hu
  split at h
  ·rename_i a0;simp only[dB,dF] at h;obtain⟨rfl,rfl⟩:=h;exact⟨hu,a0⟩
  simp at h
 simp at h
theorem aic {t:TypeId}{x y:Operand}(h:dh g s aG a w)(ap:o.op = .indexAddr t x y)(aC:Eb P s.a8 t (fN s.E x) (fN s.E y) dc=some bK)(cW:∀p∈bK.gz,p):Fin P g s a w o bK:=by
 unfold Eb at aC;have U:=h.eval x;have aV:=h.eval y;split at aC;rotate_left
 ·simp at aC
 rename_i n e r k i off cL j iE w1 HA;rw[w1] at U;rw[HA] at aV;obtain⟨hu,aa,a0,aU⟩:=OG iE;split at aC;rotate_left
 ·simp at aC
 rename_i ao bX bt;split at aC
 ·rename_i c aK na
  simp only[dB] at aC;subst aC;have ll:s.ao r k=some ao:=wH bt fun p ah=>cW p (by simp[ah]);have sa:=DE na fun p ah=>cW p (by simp[ah]);have h0:0<=j:=cW _ (by simp);have h1:j<n:=cW _ (by simp);have gv:=h.obj r k ao ll;rcases U.zR (jV ll) with cB|⟨b,m,ah,hval⟩
  ·rw[cB] at gv;simp only[kS] at gv;rw[gv] at sa;simp at sa
  refine jO (v:= .pointer (some ⟨b,i*ao.sz+(off+j.toNat*P.cellsOf e),none⟩)) h ?_ rfl ?_
  ·simp[execOp,ap,hval,aV.qB,Instr.indexAt,asIntOf,run_underlying hu,Instr.sureAddr,h0,h1,wv aa,uu,Nat.add_assoc]
  exact U.Wk ((jV ll).trans (by rw[ah])) _
 simp at aC
theorem afJ {t:TypeId}{x y:Operand}(h:dh g s aG a w)(ap:o.op = .indexAddr t x y)(aC:fR P s.E s.a8 ba o dc=some bK)(cW:∀p∈bK.gz,p):Fin P g s a w o bK:=by
 simp only[fR,ap] at aC;have U:=h.eval x;have aV:=h.eval y;split at aC;rotate_left
 ·exact aic h ap aC cW
 rename_i e k j he iL;rw[iL] at aV;have hu:=vq he
 have kF : ∀(b o len cap:Nat),0<=j->j<len->(P.info? e).isSome=true ->
  (Instr.indexAt t (.slice (some ⟨b,o,none⟩) len cap) (.int k j)).run P w = .ok (.pointer (some ⟨b,o+j.toNat*P.cellsOf e,none⟩)) w:=by
  intro b o len cap h0 h1 aa;have fl:=uu b o (j.toNat*P.cellsOf e);simp[Instr.indexAt,asIntOf,run_underlying hu,h0,h1,wv aa,fl]
 have Ac : ∀sz,sz=P.cellsOf e->sz≠0->(P.info? e).isSome=true:=by
  intro sz bM cB
  cases aa:P.info? e with
  | none=>simp[Program.cellsOf,aa] at bM;exact absurd bM cB
  | some i=>rfl
 split at aC
 ·rename_i sz es w1
  rw[w1] at U;simp only[Option.ite_none_right_eq_some,dB] at aC;obtain⟨⟨bM,cB⟩,aC⟩:=aC;subst aC;have h0:0<=j:=cW _ (by simp);have h1:j<es.length:=cW _ (by simp);rcases U.wG with ⟨H0,-⟩|⟨ff,off,c,a3,hval,a0,ke⟩
  ·subst H0;simp at h1;omega
  refine jO (v:= .pointer (some ⟨ff,off+(j.toNat*sz+0),none⟩)) h ?_ rfl (ke.fX a3);simp[execOp,ap,hval,aV.qB,kF _ _ _ _ h0 h1 (Ac sz bM cB),bM]
 ·rename_i r q cb len w1
  rw[w1] at U;split at aC;rotate_left
  ·simp at aC
  rename_i row ev;split at aC;rotate_left
  ·simp at aC
  rename_i ao bX bt;simp only[Option.ite_none_right_eq_some,dB] at aC;obtain⟨⟨bM,cB⟩,aC⟩:=aC;subst aC;have ll:s.ao r q=some ao:=(by unfold S.ao;rw[ev];exact wH bt fun p ah=>cW p (by simp[ah]));have h0:0<=j:=cW _ (by simp);have h1:j<len:=cW _ (by simp);rcases U.GW (jV ll) with ⟨-,-,h2,-⟩|⟨b,m,A,c,ah,hval,aR,-,hm⟩
  ·subst h2;simp at h1;omega
  rcases hm with hm|⟨hA,hm⟩
  ·omega
  subst hA;have k5:=Kd ll;refine jO (v:= .pointer (some ⟨b,(cb+j.toNat)*ao.sz+0,none⟩)) h ?_ rfl (.ref k5 ((jV ll).trans (by rw[ah])));simp[execOp,ap,hval,aV.qB,kF _ _ _ _ h0 h1 (Ac _ bM cB),bM,Nat.add_mul]
 simp at aC
theorem ajW {c:Call}(h:dh g s aG a w)(ap:o.op = .call c)(a0:c.callee = .builtin .len)(aC:fR P s.E s.a8 ba o dc=some bK)(cW:∀p∈bK.gz,p):Fin P g s a w o bK:=by
 obtain⟨Lz,args,o7⟩:=c;simp only at a0;subst a0;simp only[fR,ap] at aC
 have key : ∀(x:Operand) (n:Nat) (t:TypeId) (v:Value),args.toList=[x]->o7 = #[t]->bK.val = .n .i64 n->bK.hj=[]->a.eval x=v ->
  (Builtin.len_ #[t] o.type #[v]).run P w = .ok (goInt n) w->Fin P g s a w o bK:=by
  intro x n t v hargs ob aj jo bh kF;subst ob;refine jO (v:=goInt n) h ?_ jo (by rw[aj];exact .n _ _);have bF:args = #[x]:=(by apply Array.ext';simpa using hargs);subst bF;simp[execOp,ap,resolve,invoke,builtin,bh,kF]
 have hargs : ∀y,args.toList.map (fN s.E)=[y]-> ∃x,args.toList=[x]/\fN s.E x=y:=by
  intro y aV
  match aR:args.toList,aV with
  | [x],aV=>simp at aV;exact⟨x,rfl,aV⟩
 have qF:decide (o7.size=1)=true-> ∃t,o7 = #[t]/\o7.getD 0 0=t:=by
  intro fU;have fU:o7.size=1:=(by simpa using fU);obtain⟨l⟩:=o7
  match l,fU with
  | [t],_=>exact⟨t,rfl,rfl⟩
 split at aC
 ·rename_i sz es e hm hu fU
  obtain⟨x,U,iL⟩:=hargs _ hm;obtain⟨t,cl,oA⟩:=qF fU;rw[oA] at hu;simp only[dB] at aC;have aj:=h.eval x;rw[iL] at aj;rcases aj.wG with ⟨H0,A,c,hval,hA⟩|⟨ff,off,c,a3,hval,-⟩
  ·exact key x es.length t _ U cl (by rw[<- aC]) (by rw[<- aC]) hval (by subst H0;simp[Builtin.len_,run_underlying hu])
  exact key x es.length t _ U cl (by rw[<- aC]) (by rw[<- aC]) hval (by simp[Builtin.len_,run_underlying hu])
 ·rename_i r k cb len e hm hu fU
  obtain⟨x,U,iL⟩:=hargs _ hm;obtain⟨t,cl,oA⟩:=qF fU;rw[oA] at hu;split at aC
  ·rename_i row ev
   split at aC
   ·rename_i ao bX bt
    simp only[dB] at aC;have aj:=h.eval x;rw[iL] at aj;have ll:s.ao r k=some ao:=(by unfold S.ao;rw[ev];exact wH bt fun p ah=>cW p (by rw[<- aC];exact ah));rcases aj.GW (jV ll) with ⟨-,-,h2,hval⟩|⟨b,m,A,c,ah,hval,-⟩
    ·exact key x len t _ U cl (by rw[<- aC]) (by rw[<- aC]) hval (by subst h2;simp[Builtin.len_,run_underlying hu])
    exact key x len t _ U cl (by rw[<- aC]) (by rw[<- aC]) hval (by simp[Builtin.len_,run_underlying hu])
   simp at aC
  simp at aC
 ·rename_i e hm hu fU;obtain⟨x,U,iL⟩:=hargs _ hm;obtain⟨t,cl,oA⟩:=qF fU;rw[oA] at hu;simp only[dB] at aC;have aj:=h.eval x;rw[iL] at aj;exact key x 0 t _ U cl (by rw[<- aC];rfl) (by rw[<- aC]) aj.sx (by simp[Builtin.len_,run_underlying hu])
 ·rename_i b hm hu fU;obtain⟨x,U,iL⟩:=hargs _ hm;obtain⟨t,cl,oA⟩:=qF fU;rw[oA] at hu;simp only[dB] at aC;have aj:=h.eval x;rw[iL] at aj;exact key x b.size t _ U cl (by rw[<- aC]) (by rw[<- aC]) aj.Ed (by simp[Builtin.len_,run_underlying hu])
 simp at aC
theorem JN {ok:Nat->Prop}{bg:kX}{bn:kL}{ff off sz:Nat}{es:List (List aF)}(h:qZ w ok bg bn ff off sz es)(l n:Nat)(aR:l<=es.length):
 qZ w ok bg bn ff (off+l*sz) sz ((es.drop l).take n):=by
 have vJ : ∀e∈(es.drop l).take n,e.length=sz:=fun e he=>h.1 e (List.mem_of_mem_drop (List.mem_of_mem_take he));refine⟨vJ,fun j x U=> ?_⟩;rcases Nat.eq_zero_or_pos sz with h0|bM
 ·have e1 : ∀(l:List (List aF)),(∀e∈l,e.length=0)->l.flatten=[]:=by
   intro l aR;induction l with
   | nil=>rfl
   | cons a l ih=>rw[apZ,ih fun e he=>aR e (by simp[he])];have:=aR a (by simp);simp_all
  rw[e1 _ (fun e he=>(vJ e he).trans h0)] at U;simp at U
 rw[rS bM _ vJ] at U
 have ay:j / sz<n:=by
  rcases Nat.lt_or_ge (j / sz) n with c1|c1
  ·exact c1
  rw[dR (by simp;omega)] at U;simp at U
 rw[dT,dw ay,ap5] at U;obtain⟨v,e1,e2,bG⟩:=h.2 (l*sz+j) x (by rw[rS bM es h.1];have gh:(l*sz+j) / sz=l+j / sz:=(by rw[Nat.mul_comm,Nat.mul_add_div bM]);have gi:(l*sz+j) % sz=j % sz:=(by rw[Nat.mul_comm,Nat.mul_add_mod]);rw[gh,gi];exact U);exact⟨v,by rw[Nat.add_assoc];exact e1,e2,bG⟩
theorem JI {t e:TypeId}(hu:P.underlying t=some (.slice e))(aa:(P.info? e).isSome=true)(A:Option Addr)(len cap:Nat)(cb kH:Option Value)(l h:Nat)
 (ZB:(cb=none/\l=0)\/ ∃k,cb=some (.int k l)) (ZC:(kH=none/\h=len)\/ ∃k,kH=some (.int k h)) (h1:l<=h) (h2:h<=len) (J:len<=cap) :
 (Instr.sliceAt t (.slice A len cap) cb kH none).run P w = .ok (.slice (if cap=l then A else A.map (·.add (l*P.cellsOf e))) (h-l) (cap-l)) w:=by
 have a3 : ∀(k:IntKind) (n y:Nat) (code:BoundsCode),n<=y->(Instr.sliceBound (.int k n) y code).run P w = .ok n w:=by intro k n y code aU;simp[Instr.sliceBound,asIntOf,aU]
 rcases ZB with ⟨rfl,rfl⟩|⟨kN,rfl⟩<;>rcases ZC with ⟨rfl,rfl⟩|⟨j3,rfl⟩ <;>
  simp[Instr.sliceAt,Instr.slice,run_underlying hu,Instr.sliceBounds,wv aa,a3,h1,h2,J,Nat.le_trans h2 J]
theorem D2 {x:Option Operand}(h:dh g s aG a w){d n:Nat}{ao:List Prop}(a3:ae (x.map (fN s.E)) d=some (n,ao))(cW:∀p∈ao,p):
 (x.map a.eval=none/\n=d)\/ ∃k,x.map a.eval=some (.int k n):=by
 cases x with
 | none=>simp[ae] at a3;exact .inl ⟨rfl,a3.1.symm⟩
 | some x =>
  have U:=h.eval x;simp only[apR] at a3 ⊢;unfold ae at a3;split at a3
  ·rename_i he;simp at he
  ·rename_i _ k y he;simp only[dB] at he;rw[he] at U;simp only[dB,dF] at a3;obtain⟨rfl,rfl⟩:=a3;have h0:0<=y:=cW _ (by simp);refine .inr ⟨k,?_⟩;rw[U.qB,Int.toNat_of_nonneg h0]
  simp at a3
theorem aid {t:TypeId}{x:Operand}{cb aa:Option Operand}(h:dh g s aG a w)(ap:o.op = .slice t x cb aa none)(aC:fR P s.E s.a8 ba o dc=some bK)(cW:∀p∈bK.gz,p):Fin P g s a w o bK:=by
 simp only[fR,ap] at aC;have U:=h.eval x
 have Ac : ∀sz e,sz=P.cellsOf e->sz≠0->(P.info? e).isSome=true:=by
  intro sz e bM cB
  cases aa:P.info? e with
  | none=>simp[Program.cellsOf,aa] at bM;exact absurd bM cB
  | some i=>rfl
 split at aC
 ·rename_i e sz es hu iL
  rw[iL] at U;split at aC;rotate_left
  ·simp at aC
  rename_i l bX n aK aR aU;simp only[Option.ite_none_right_eq_some,dB] at aC;obtain⟨⟨bM,cB⟩,aC⟩:=aC;subst aC;have iW:=D2 h aR fun p ah=>cW p (by simp[ah]);have jM:=D2 h aU fun p ah=>cW p (by simp[ah]);have h1:l<=n:=cW _ (by simp);have h2:n<=es.length:=cW _ (by simp);rcases U.wG with ⟨H0,A,c,hval,hA⟩|⟨ff,off,c,a3,hval,a0,ke⟩
  ·subst H0
   have PS:n=0:=(by simpa using h2);subst PS;have pI:l=0:=(by omega);subst pI;refine jO (v:= .slice (if c=0 then A else A.map (·.add (0*P.cellsOf e))) (0-0) (c-0)) h ?_ rfl ?_
   ·have:=JI (w:=w) hu (Ac sz e bM cB) A 0 c (cb.map a.eval) (aa.map a.eval) 0 0 iW jM (dD _) (dD _) (Nat.zero_le _);simp only[execOp,ap,hval];simp only[Option.map_none,Sem.run_bind,this];rfl
   refine .kk sz _ _ fun aU=> ?_;split at aU
   ·rename_i oN;omega
   have:=hA (by simpa using aU);omega
  have hlen:((es.drop l).take (n-l)).length=n-l:=(by simp;omega);refine jO (v:= .slice (if c=l then some ⟨ff,off,none⟩ else (some (⟨ff,off,none⟩:Addr)).map (·.add (l*P.cellsOf e))) (n-l) (c-l)) h ?_ rfl ?_
  ·have:=JI (w:=w) hu (Ac sz e bM cB) (some ⟨ff,off,none⟩) es.length c (cb.map a.eval) (aa.map a.eval) l n iW jM h1 h2 a0;simp only[execOp,ap,hval];simp only[Option.map_none,Sem.run_bind,this];rfl
  by_cases jJ:c=l
  ·have:n-l=0:=(by omega);rw[this];show Rel _ _ _ _ (.isl sz ((es.drop l).take 0)) _;rw[List.take_zero];exact .kk sz _ _ (fun _=>by omega)
  rw[dA jJ];simp only[apR,uu,<- bM];have aj:=(JN ke l (n-l) (by omega)).isl (c:=c-l) ⟨a3.1,fun e he=>a3.2 e (List.mem_of_mem_drop (List.mem_of_mem_take he))⟩ (by rw[hlen];omega);rw[hlen] at aj;exact aj
 ·rename_i e r k aaD len hu iL
  rw[iL] at U;split at aC
  ·simp at aC
  rename_i row ev;split at aC
  ·simp at aC
  rename_i ao aaE bt;split at aC;rotate_left
  ·simp at aC
  rename_i l bX n aK aR aU;simp only[Option.ite_none_right_eq_some,dB] at aC;obtain⟨⟨bM,cB⟩,aC⟩:=aC;subst aC;have ll:s.ao r k=some ao:=(by unfold S.ao;rw[ev];exact wH bt fun p ah=>cW p (by simp[ah]));have iW:=D2 h aR fun p ah=>cW p (by simp[ah]);have jM:=D2 h aU fun p ah=>cW p (by simp[ah]);have h1:l<=n:=cW _ (by simp);have h2:n<=len:=cW _ (by simp);have k5:=Kd ll;rcases U.zI (jV ll) with ⟨ah,rfl,rfl,hval⟩|⟨b,m,A,c,ah,hval,uM,w9,oB,hm⟩
  ·have PS:n=0:=(by omega);subst PS;have pI:l=0:=(by omega);subst pI;refine jO (v:= .slice none 0 0) h ?_ rfl (.pT k5 ((jV ll).trans (by rw[ah])));have:=JI (w:=w) hu (Ac _ e bM cB) none 0 0 (cb.map a.eval) (aa.map a.eval) 0 0 iW jM (dD _) (dD _) (dD _);simp only[execOp,ap,hval];simp only[Option.map_none,Sem.run_bind,this];rfl
  refine jO (v:= .slice (if c=l then A else A.map (·.add (l*P.cellsOf e))) (n-l) (c-l)) h ?_ rfl ?_
  ·have:=JI (w:=w) hu (Ac _ e bM cB) A len c (cb.map a.eval) (aa.map a.eval) l n iW jM h1 h2 uM;simp only[execOp,ap,hval];simp only[Option.map_none,Sem.run_bind,this];rfl
  refine Rel.br k5 ((jV ll).trans (by rw[ah])) (by omega) (by omega) ?_;refine⟨by rw[<- oB];congr 1;omega,?_⟩;by_cases jJ:c=l
  ·exact .inl (by omega)
  rcases hm with hm|hA
  ·exact .inl (by omega)
  refine .inr ?_;rw[dA jJ,hA];simp only[apR,uu,<- bM,Nat.add_mul]
 ·rename_i b hu iL
  rw[iL] at U;split at aC;rotate_left
  ·simp at aC
  rename_i l bX n aK aR aU;simp only[dB] at aC;subst aC;have iW:=D2 h aR fun p ah=>cW p (by simp[ah]);have jM:=D2 h aU fun p ah=>cW p (by simp[ah]);have h1:l<=n:=cW _ (by simp);have h2:n<=b.size:=cW _ (by simp);refine jO (v:= .string (b.extract l n)) h ?_ rfl (.s _);have a3 : ∀(k:IntKind) (n y:Nat) (code:BoundsCode),n<=y->(Instr.sliceBound (.int k n) y code).run P w = .ok n w:=(by intro k n y code aU;simp[Instr.sliceBound,asIntOf,aU]);simp only[execOp,ap,U.Ed,Option.map_none]
  rcases iW with ⟨e1,rfl⟩|⟨kN,e1⟩<;>rcases jM with ⟨e2,rfl⟩|⟨j3,e2⟩<;>rw[e1,e2] <;>
   simp[Instr.sliceAt,Instr.slice,run_underlying hu,Instr.sliceBounds,a3,h1,h2]
 simp at aC
end
section
variable {P:Program} {g:G} {s:S} {aG:gE} {a:Act} {w:World} {o:Oper} {dc:fY} {ba:Nat} {bK:jv}
theorem VN {ok:Nat->Prop}{bg:kX}{bn:kL}{t:TypeId}{c:List aF}{off:Nat}{x:aF}{vs:List Value}(aR:vs.length=c.length)
 (lW : ∀(j:Nat) u,vs[j]? = some u->l8 u=true) (aj : ∀(j:Nat) x u,c[j]? = some x->vs[j]? = some u->Rel w ok bg bn x u)
 (cl:tJ P t c off=some x) : ∃v,(part t vs.toArray off).run P w = .ok v w/\Rel w ok bg bn x v:=by
 unfold tJ at cl;split at cl
 ·simp at cl
 rename_i aa;simp only[Bool.not_eq_true',Bool.not_eq_false,dN] at aa;simp only[part,Sem.run_bind,Wj aa.1,Result.andThen];split at cl
 ·rename_i uJ
  rw[uJ];split at cl;rotate_left
  ·simp at cl
  rename_i hle;simp at cl;subst cl;have e:(vs.toArray.extract off (off+P.cellsOf t))=((vs.drop off).take (P.cellsOf t)).toArray:=(by apply Array.ext';simp[List.extract_eq_take_drop]);refine⟨.agg ((vs.drop off).take (P.cellsOf t)).toArray,by simp[wv aa.2],?_⟩;refine .agg _ (by simp;omega) ?_ ?_
  ·intro j v bh
   rw[dT] at bh;split at bh
   ·rw[ap5] at bh;exact lW _ _ bh
   simp at bh
  intro j y v aV bh;rw[dT] at bh aV;split at bh
  ·rename_i ay;rw[dw ay] at aV;rw[ap5] at bh aV;exact aj _ _ _ aV bh
  simp at bh
 rename_i uJ;have uJ:G5 P t=false:=by simpa using uJ
 rw[uJ];split at cl
 ·rename_i y aV
  split at cl
  ·simp at cl;subst cl
   have En:off<vs.length:=by
    rcases Nat.lt_or_ge off c.length with h|h
    ·omega
    rw[dR h] at aV;simp at aV
   exact⟨vs[off],by simp[En],aj off y _ aV (dz En)⟩
  simp at cl
 simp at cl
theorem aie {t:TypeId}{x:Operand}{f:Nat}(h:dh g s aG a w)(ap:o.op = .field t x f)(aC:fR P s.E s.a8 ba o dc=some bK):Fin P g s a w o bK:=by
 simp only[fR,ap] at aC;have U:=h.eval x;split at aC
 ·rename_i mO HZ
  split at aC
  ·rename_i fd c yl iL
   rw[iL] at U
   cases cl:tJ P fd.type c fd.offset with
   | none=>simp[cl] at aC
   | some v =>
    simp[cl] at aC;subst aC;obtain⟨vs,hval,aR,a0,aj⟩:=U.DQ;obtain⟨u,h1,h2⟩:=VN aR a0 aj cl;refine jO (v:=u) h ?_ rfl h2;simp[execOp,ap,hval,Instr.field,run_underlying (NK HZ),yl,asAgg,h1]
  simp at aC
 simp at aC
theorem Wn : ∀ {a b c:List aF},sN 0 a b=some c->c=a
 | [],[],c,h=>by simp[sN] at h;exact h
 | .n k x::a,.n ea y::b,c,h=>by
  unfold sN at h;split at h
  ·cases hm:sN 0 a b with
   | none=>simp[hm] at h
   | some d=>simp[hm] at h;rw[<- h,Wn hm]
  simp at h
 | [],_::_,_,h=>by simp[sN] at h
theorem WZ {j:Int}(ay:j≠0): ∀ {a b c:List aF},sN j a b=some c->c=b
 | [],[],c,h=>by simp[sN] at h;exact h
 | .n k x::a,.n ea y::b,c,h=>by
  unfold sN at h;split at h
  ·rename_i a2
   subst a2
   cases hm:sN j a b with
   | none=>simp[hm] at h
   | some d=>simp[hm,ay] at h;rw[<- h,WZ ay hm]
  simp at h
 | [],_::_,_,h=>by simp[sN] at h
theorem ahg {t:TypeId}{x y:Operand}(h:dh g s aG a w)(ap:o.op = .index t x y)(aC:OT P t (fN s.E x) (fN s.E y)=some bK)(cW:∀p∈bK.gz,p):Fin P g s a w o bK:=by
 unfold OT at aC;have U:=h.eval x;have aV:=h.eval y;split at aC;rotate_left
 ·simp at aC
 rename_i e cs cL j iE w1 HA;rw[w1] at U;rw[HA] at aV;obtain⟨hu,aa,-,-⟩:=OG iE;split at aC;rotate_left
 ·simp at aC
 rename_i eF lR bF a3
 cases hm:sN j eF lR with
 | none=>simp[hm] at aC
 | some c =>
  simp only[hm,apR,dB] at aC;subst aC;have h0:0<=j:=cW _ (by simp);have h1:j<2:=cW _ (by simp);obtain⟨vs,hval,aR,a0,aj⟩:=U.DQ
  have key:tJ P e cs (j.toNat*P.cellsOf e)=some (.agg c):=by
   have:j=0\/j=1:=(by omega);rcases this with rfl|rfl
   ·rw[Wn hm];exact bF
   rw[WZ (by decide) hm];exact a3
  obtain⟨u,kN,j3⟩:=VN aR a0 aj key;refine jO (v:=u) h ?_ rfl j3;simp[execOp,ap,hval,aV.qB,Instr.index,asIntOf,run_underlying hu,h0,h1,wv aa,kN]
theorem aif {t:TypeId}{x y:Operand}(h:dh g s aG a w)(ap:o.op = .index t x y)(aC:fR P s.E s.a8 ba o dc=some bK)(cW:∀p∈bK.gz,p):Fin P g s a w o bK:=by
 simp only[fR,ap] at aC;have U:=h.eval x;have aV:=h.eval y;split at aC
 ·rename_i b k j hu w1 HA
  rw[w1] at U;rw[HA] at aV;simp only[dB] at aC;subst aC;have h0:0<=j:=cW _ (by simp);have h1:j<b.size:=cW _ (by simp);have h2:j.toNat<b.size:=(by omega);refine jO (v:= .int .u8 (b[j.toNat]).toNat) h ?_ rfl ?_
  ·simp[execOp,ap,U.Ed,aV.qB,Instr.index,asIntOf,run_underlying hu,h0,h2]
  have e:b.data.toList.getD j.toNat 0=b[j.toNat]:=(by rw[dO,Array.getElem?_toList,apU (by simpa using h2)];rfl);show Rel _ _ _ _ (.n .u8 _) _;rw[e];exact .n _ _
 exact ahg h ap aC cW
theorem ahh (off:Nat): ∀(vs:List Value) (n:Nat) (cs:Array Value) (j:Nat),off+n+vs.length<=cs.size ->
 ((vs.zipIdx n).foldl (fun cs (x:Value×Nat)=>cs.setIfInBounds (off+x.2) x.1) cs)[j]? = if off+n<=j/\j<off+n+vs.length then vs[j-(off+n)]? else cs[j]? := by
 intro vs
 induction vs with
 | nil=>intro n cs j h;simp;intro h1 h2;omega
 | cons v vs ih =>
  intro n cs j h;simp only[dI] at h;simp only[List.zipIdx_cons,List.foldl_cons];rw[ih (n+1) _ j (by simp;omega)];simp only[dI,Array.getElem?_setIfInBounds];by_cases h1:j=off+n
  ·subst h1;rw[dA (by omega),dw rfl,dw (by omega),dw (by omega)];simp
  by_cases h2:off+(n+1)<=j/\j<off+(n+1)+vs.length
  ·rw[dw h2,dw (by omega)];rw[show j-(off+n)=(j-(off+(n+1)))+1 by omega];rfl
  rw[dA h2,dA (fun e=>h1 e.symm),dA (by omega)]
theorem ae0 (off:Nat): ∀(vs:List (Value×Nat)) (cs:Array Value),(vs.foldl (fun cs (x:Value×Nat)=>cs.setIfInBounds (off+x.2) x.1) cs).size=cs.size:=by
 intro vs
 induction vs with
 | nil=>intro cs;rfl
 | cons v vs ih=>intro cs;simp only[List.foldl_cons];rw[ih];simp
def E5 (w:World)(ok:Nat->Prop)(bg:kX)(bn:kL)(c:List aF)(cs:Array Value):Prop :=
 cs.size=c.length/\(∀(j:Nat) u,cs[j]? = some u->l8 u=true)/\ ∀(j:Nat) x u,c[j]? = some x->cs[j]? = some u->Rel w ok bg bn x u
theorem aih {ok:Nat->Prop}{bg:kX}{bn:kL}{c:List aF}{cs:Array Value}(h:E5 w ok bg bn c cs){x:aF}{v:Value}{off:Nat}(U:Rel w ok bg bn x v)(a0:x.DH=true)
 (iT:off+x.cells.length<=c.length):v.cells.size=x.cells.length /\
   E5 w ok bg bn (setCells c off x.cells) (v.cells.zipIdx.foldl (fun cs (y:Value×Nat)=>cs.setIfInBounds (off+y.2) y.1) cs):=by
 obtain⟨vs,bh,aR,lW,aj⟩:=U.cellsOf (aF.Vo a0);have ob : ∀j,(v.cells.zipIdx.foldl (fun cs (y:Value×Nat)=>cs.setIfInBounds (off+y.2) y.1) cs)[j]? = if off<=j/\j<off+vs.length then vs[j-off]? else cs[j]? := by intro j;rw[bh];have:=ahh off vs 0 cs j (by rw[h.1];omega);simp only[Nat.add_zero] at this;rw[<- this,<- Array.foldl_toList,Array.toList_zipIdx]
 refine⟨by rw[bh];simpa using aR,?_,?_,?_⟩
 ·rw[Uk iT,<- h.1,<- Array.foldl_toList,ae0]
 ·intro j u hu
  rw[ob] at hu;split at hu
  ·exact lW _ _ hu
  exact h.2.1 _ _ hu
 intro j y u aV hu;rw[ob] at hu;rw[NJ iT] at aV;by_cases lZ:off<=j/\j<off+x.cells.length
 ·rw[dw lZ] at aV;rw[dw (by rw[aR];exact lZ)] at hu;exact aj _ _ _ aV hu
 rw[dA lZ] at aV;rw[dA (by rw[aR];exact lZ)] at hu;exact h.2.2 _ _ _ aV hu
theorem NT {ok:Nat->Prop}{bg:kX}{bn:kL}(place:Nat->Option (Nat×Nat)): ∀(l:List (Nat×Nat×aF)) (kz:List (Nat×Value)) (c:List aF) (cs:Array Value) (ez:List aF),
 E5 w ok bg bn c cs->l.length=kz.length ->
 (∀(j:Nat) off size x i v,l[j]? = some (off,size,x)->kz[j]? = some (i,v)->place i=some (off,size)/\Rel w ok bg bn x v) ->
 vA c l=some ez-> ∃nv,Instr.fill place cs kz=some nv/\E5 w ok bg bn ez nv:=by
 intro l
 induction l with
 | nil =>
  intro kz c cs ez h aR _ cq;have:kz=[]:=dM.1 (by simpa using aR.symm);subst this;simp[vA] at cq;subst cq;exact⟨cs,rfl,h⟩
 | cons q l ih =>
  intro kz c cs ez h aR ah cq;obtain⟨off,size,x⟩:=q
  match kz,aR with
  | (i,v)::kz,aR =>
   obtain⟨PT,U⟩:=ah 0 off size x i v rfl rfl;simp only[vA] at cq;split at cq
   ·rename_i a0;simp only[dN,decide_eq_true_eq] at a0;obtain⟨⟨h1,h2⟩,J⟩:=a0;obtain⟨e1,e2⟩:=aih h U h1 (off:=off) (by omega);obtain⟨nv,f1,f2⟩:=ih kz _ _ ez e2 (by simpa using aR) (fun j off size x i v a b=>ah (j+1) off size x i v a b) cq;refine⟨nv,?_,f2⟩;rw[Instr.fill];simp only[PT];have hR : ¬(decide (v.cells.size≠size) || decide (off+v.cells.size>cs.size))=true:=(by simp;rw[e1,h.1];omega);rw[dA hR];exact f1
   simp at cq
theorem mapM_some {α β:Type}(f:α->β)(p:α->Option β): ∀(l:List α),(∀x∈l,p x=some (f x))->l.mapM p=some (l.map f)
 | [],_=>rfl
 | x::l,h=>by rw[List.mapM_cons,h x (by simp),mapM_some f p l fun y aV=>h y (by simp[aV])];rfl
theorem XA {α β:Type}(p:α->Option β): ∀(l:List α) (gL:List β),l.mapM p=some gL->gL.length=l.length/\ ∀(j:Nat) x y,l[j]? = some x->gL[j]? = some y->p x=some y
 | [],gL,h=>by simp at h;subst h;exact⟨rfl,fun j x y U=>by simp at U⟩
 | a::l,gL,h=>by
  rw[List.mapM_cons] at h
  cases bF:p a with
  | none=>simp[bF] at h
  | some b =>
   cases aR:l.mapM p with
   | none=>simp[bF,aR] at h
   | some r =>
    simp[bF,aR] at h;subst h;obtain⟨h1,h2⟩:=XA p l r aR;refine⟨by simp[h1],fun j x y U aV=> ?_⟩
    cases j with
    | zero=>simp at U aV;subst U;subst aV;exact bF
    | succ j=>simp at U aV;exact h2 j x y U aV
theorem OH {t:TypeId}{z:List aF}(cB:tn P t=some z): ∃i fx,P.info? t=some i/\i.zero=some fx/\fx.cells.size=z.length/\E5 w (s.ok g aG w) s.bg (s.bn aG) z fx.cells:=by
 obtain⟨i,fx,aa,mH,s9,lW⟩:=Gy cB;have bM:fx.cells.size=z.length:=by rw[s9];simp
 refine⟨i,fx,aa,mH,bM,bM,fun j u hu=> ?_,fun j x u U hu=> ?_⟩
 ·have ay:j<z.length:=by
   have:=(ap7.1 hu).1;omega
  obtain⟨v,e1,e2,-⟩:=lW j z[j] (dz ay);rw[hu] at e1;simp at e1;subst e1;exact e2
 obtain⟨v,e1,-,bG⟩:=lW j x U;rw[hu] at e1;simp at e1;subst e1;exact bG _ _ _ _
theorem af3 {t:TypeId}{parts:Array (Nat×Operand)}(h:dh g s aG a w)(ap:o.op = .build t parts)(aC:Oh P t (parts.toList.map fun p=>(p.1,fN s.E p.2))=some bK):Fin P g s a w o bK:=by
 unfold Oh at aC;split at aC;rotate_left
 ·simp at aC
 rename_i n e z iE cB;obtain⟨hu,aa,-,-⟩:=OG iE;rw[List.map_map] at aC
 cases cq:vA z (parts.toList.map ((fun p:Nat×aF=>(p.1*P.cellsOf e,P.cellsOf e,p.2))∘fun p=>(p.1,fN s.E p.2))) with
 | none=>rw[cq] at aC;simp at aC
 | some c =>
  rw[cq] at aC;simp only[apR,dB] at aC;subst aC;obtain⟨it,fx,AB,mH,fU,hcs⟩:=OH (w:=w) (s:=s) (g:=g) (aG:=aG) cB;obtain⟨QN,Ex⟩:=Option.isSome_iff_exists.1 aa;have akI:P.cellsOf e=QN.size:=(by simp[Program.cellsOf,Ex]);obtain⟨nv,f1,f2⟩:=NT (w:=w) (ok:=s.ok g aG w) (bg:=s.bg) (bn:=s.bn aG) (fun i=>some (i*QN.size,QN.size)) _ (parts.map fun (i,x)=>(i,a.eval x)).toList z fx.cells c hcs (by simp) (by intro j off size x i v ay bh;simp only[dK,dP,Function.comp,dF] at ay;simp only[Array.toList_map,dK,dP] at bh;obtain⟨p,ah,e1,e2,bG⟩:=ay;obtain⟨⟨fA,de⟩,nb,bh⟩:=bh;simp only[dF] at bh;obtain⟨rfl,rfl⟩:=bh;rw[ah] at nb;have:=dJ nb;subst this;refine⟨by rw[<- e1,<- e2,akI],?_⟩;rw[<- bG];exact h.eval _) cq;have a3:P.built t (parts.map fun (i,x)=>(i,a.eval x)).toList=some nv:=(by unfold Program.built;simp only[AB,hu,mH,Ex];exact f1);refine jO (v:= .agg nv) h ?_ rfl ?_
  ·have:=run_build w t _ nv a3;simp[execOp,ap,this]
  have:=Rel.agg (w:=w) (ok:=s.ok g aG w) (bg:=s.bg) (bn:=s.bn aG) (c:=c) nv.toList (by simpa using f2.1) (fun j u hu=>f2.2.1 j u (by simpa using hu)) (fun j x u U hu=>f2.2.2 j x u U (by simpa using hu));simpa using this
theorem aii {t:TypeId}{parts:Array (Nat×Operand)}(h:dh g s aG a w)(ap:o.op = .build t parts)(aC:fR P s.E s.a8 ba o dc=some bK):Fin P g s a w o bK:=by
 simp only[fR,ap] at aC;split at aC;rotate_left
 ·exact af3 h ap aC
 rename_i mO z HZ cB;split at aC
 ·simp at aC
 rename_i kG;have kG : ∀f∈mO.toList,(P.info? f.type).isSome=true:=by rw[Bool.not_eq_false] at kG;exact List.all_eq_true.1 kG
 split at aC;rotate_left
 ·simp at aC
 rename_i l aR
 cases cq:vA z l with
 | none=>simp[cq] at aC
 | some c =>
  simp[cq] at aC;subst aC;obtain⟨it,fx,AB,mH,fU,hcs⟩:=OH (w:=w) (s:=s) (g:=g) (aG:=aG) cB;obtain⟨ko,lq⟩:=XA _ _ _ aR
  have ala:mO.toList.mapM (fun f=>(P.info? f.type).map fun i=>(f.offset,i.size))=some (mO.toList.map fun f=>(f.offset,P.cellsOf f.type)):=by
   refine mapM_some (fun f:Field=>(f.offset,P.cellsOf f.type)) _ _ fun f cq=> ?_;have:=kG f cq
   cases aa:P.info? f.type with
   | none=>simp[aa] at this
   | some i=>simp[Program.cellsOf,aa]
  obtain⟨nv,f1,f2⟩:=NT (w:=w) (ok:=s.ok g aG w) (bg:=s.bg) (bn:=s.bn aG) ((mO.toList.map fun f=>(f.offset,P.cellsOf f.type)).toArray[·]?) l (parts.map fun (i,x)=>(i,a.eval x)).toList z fx.cells c hcs (by simpa using ko) (by intro j off size x i v ay bh;simp only[Array.toList_map,dK,dP] at bh;obtain⟨⟨fA,de⟩,ah,bh⟩:=bh;simp only[dF] at bh;obtain⟨rfl,rfl⟩:=bh;have:=lq j _ _ ah ay;simp only[dP,dF] at this;obtain⟨fd,h1,h2,J,ak⟩:=this;subst h2;subst J;subst ak;refine⟨?_,h.eval de⟩;rw[List.getElem?_toArray,dK,Array.getElem?_toList,h1];rfl) cq;have a3:P.built t (parts.map fun (i,x)=>(i,a.eval x)).toList=some nv:=(by unfold Program.built;simp only[AB,NK HZ,mH,ala];exact f1);refine jO (v:= .agg nv) h ?_ rfl ?_
  ·have:=run_build w t _ nv a3;simp[execOp,ap,this]
  have:=Rel.agg (w:=w) (ok:=s.ok g aG w) (bg:=s.bg) (bn:=s.bn aG) (c:=c) nv.toList (by simpa using f2.1) (fun j u hu=>f2.2.1 j u (by simpa using hu)) (fun j x u U hu=>f2.2.2 j x u U (by simpa using hu));simpa using this
theorem ad6 {sz:Nat}{es:List (List aF)}(aR:∀e∈es,e.length=sz){i:Nat}(aa:i<es.length){c:List aF}(a0:c.length=sz):
 setCells es.flatten (i*sz) c=(es.set i c).flatten:=by
 have hlen : ∀(es:List (List aF)),(∀e∈es,e.length=sz)->es.flatten.length=es.length*sz:=by
  intro es
  induction es with
  | nil=>simp
  | cons e es ih =>
   intro h;rw[apZ,dE,ih fun x U=>h x (by simp[U]),h e (by simp),dI,Nat.add_mul];omega
 have iT:i*sz+c.length<=es.flatten.length:=by rw[hlen es aR,a0];have:=apV sz (show i+1<=es.length by omega);rw[Nat.add_mul] at this;omega
 apply ap1;intro j;rw[NJ iT,Vp aR (dz aa) a0,a0]
theorem VO {sz:Nat}: ∀(l:List (Nat×aF)) (es h4:List (List aF)),(∀e∈es,e.length=sz)->Ec sz es l=some h4 ->
 vA es.flatten (l.map fun p=>(p.1*sz,sz,p.2))=some h4.flatten/\(∀e∈h4,e.length=sz)/\h4.length=es.length
 | [],es,h4,aR,h=>by simp[Ec] at h;subst h;exact⟨rfl,aR,rfl⟩
 | (i,x)::l,es,h4,aR,h=>by
  simp only[Ec] at h;split at h;rotate_left
  ·simp at h
  rename_i a0;simp only[dN,decide_eq_true_eq] at a0;obtain⟨⟨h1,h2⟩,J⟩:=a0
  have PQ : ∀e∈es.set i x.cells,e.length=sz:=by
   intro e hm;rcases List.mem_or_eq_of_mem_set hm with c1|c1
   ·exact aR e c1
   exact c1▸h2
  obtain⟨gh,gi,bm⟩:=VO l (es.set i x.cells) h4 PQ h;have e:=ad6 aR J h2
  have iT:i*sz+sz<=es.flatten.length:=by
   have:(setCells es.flatten (i*sz) x.cells).length=(es.set i x.cells).flatten.length:=by rw[e]
   have a1 : ∀(es:List (List aF)),(∀e∈es,e.length=sz)->es.flatten.length=es.length*sz:=by
    intro es
    induction es with
    | nil=>simp
    | cons e es ih =>
     intro h;rw[apZ,dE,ih fun x U=>h x (by simp[U]),h e (by simp),dI,Nat.add_mul];omega
   rw[a1 es aR];have:=apV sz (show i+1<=es.length by omega);rw[Nat.add_mul] at this;omega
  refine⟨?_,gi,by simpa using bm⟩;simp only[List.map_cons,vA,h1,h2,iT,decide_true,Bool.and_self,if_true];rw[e];exact gh
theorem afk {t:TypeId}{len:Nat}{parts:Array (Nat×Operand)}(h:dh g s aG a w)(fV:s.a8 ba=none)(ap:o.op = .buildSlice t len parts)(aC:fR P s.E s.a8 ba o dc=some bK):Fin P g s a w o bK:=by
 simp only[fR,ap] at aC;split at aC;rotate_left
 ·simp at aC
 rename_i e he;split at aC;rotate_left
 ·simp at aC
 rename_i z cB;split at aC
 ·simp at aC
 rename_i a0;simp only[not_or,Nat.not_lt,Decidable.not_not] at a0;obtain⟨o8,Ey,Ez⟩:=a0;split at aC;rotate_left
 ·simp at aC
 rename_i es jn;simp only[dB] at aC;subst aC;obtain⟨it,fx,AB,mH,fU,hcs⟩:=OH (w:=w) (s:=s) (g:=g) (aG:=aG) cB;have lW:P.cellsOf e=it.size:=by simp[Program.cellsOf,AB]
 have Za : ∀x∈List.replicate len z,x.length=z.length:=fun x U=>by rw[List.eq_of_mem_replicate U]
 obtain⟨f1,f2,f3⟩:=VO _ _ _ Za jn
 have uN:E5 w (s.ok g aG w) s.bg (s.bn aG) (List.replicate len z).flatten ((Array.range (len*it.size)).map (fx.cells[· % fx.cells.size]!)):=by
  have Ly:0<z.length:=(by omega);have ob : ∀j,j<len*it.size->((Array.range (len*it.size)).map (fx.cells[· % fx.cells.size]!))[j]? = fx.cells[j % z.length]? := (by intro j ay;rw[Array.getElem?_map,Array.getElem?_range];simp only[ay,if_true,apR];have hm:j % fx.cells.size<fx.cells.size:=Nat.mod_lt _ (by omega);rw[getElem!_pos fx.cells _ hm,<- fU,apU hm]);have eN : ∀(j:Nat) u,((Array.range (len*it.size)).map (fx.cells[· % fx.cells.size]!))[j]? = some u->j<len*it.size:=(by intro j u hu;have:=(ap7.1 hu).1;simpa using this);refine⟨by simp[<- lW,<- Ey],fun j u hu=> ?_,fun j x u U hu=> ?_⟩
  ·have ay:=eN j u hu;rw[ob j ay] at hu;exact hcs.2.1 _ _ hu
  have ay:=eN j u hu;rw[ob j ay] at hu;rw[rS Ly _ Za,List.getElem?_replicate] at U;split at U
  ·exact hcs.2.2 _ _ _ U hu
  simp at U
 obtain⟨nv,g1,g2⟩:=NT (w:=w) (ok:=s.ok g aG w) (bg:=s.bg) (bn:=s.bn aG) (fun i=>some (i*it.size,it.size)) ((parts.toList.map fun p=>(p.1,fN s.E p.2)).map fun p=>(p.1*z.length,z.length,p.2)) (parts.map fun (i,x)=>(i,a.eval x)).toList _ _ es.flatten uN (by simp) (by intro j off size x i v ay bh;simp only[Array.toList_map,dK,dP,List.map_map] at bh ay;obtain⟨⟨fA,de⟩,ah,bh⟩:=bh;obtain⟨⟨i2,x2⟩,HW,ay⟩:=ay;rw[ah] at HW;simp only[dB,dF] at HW bh;obtain⟨rfl,rfl⟩:=HW;obtain⟨rfl,rfl⟩:=bh;simp only[Function.comp,dF] at ay;obtain⟨rfl,rfl,rfl⟩:=ay;exact⟨by rw[<- lW,<- Ey],h.eval de⟩) f1
 have kF:(Instr.buildSlice t len (parts.map fun (i,x)=>(i,a.eval x))).run P w = .ok (.slice (some ⟨w.heap.size,0,none⟩) len len) (w.alloc (.cells nv e)):=by
  have h1 : ¬len*it.size>2 ^ 24:=(by rw[<- lW,<- Ey];omega);by_cases h0:len*it.size=0;rotate_left
  ·simp only[Instr.buildSlice,run_underlying (vq he),sizeOf,typeInfo,AB,newRow,zeroValue,mH,Sem.run_bind,Result.andThen_ok,run_program,Sem.run_pure,Sem.run_ite,h1,h0,if_false];rw[g1];rfl
  have pI:len=0:=by
   rcases Nat.eq_zero_or_pos len with c1|c1
   ·exact c1
   have:0<len*it.size:=Nat.mul_pos c1 (by omega);omega
  subst pI;have e0:((Array.range (0*it.size)).map (fx.cells[· % fx.cells.size]!)) = #[]:=(by simp);rw[e0] at g1
  have ah:parts = #[]:=by
   obtain⟨l⟩:=parts
   match l,jn with
   | [],_=>rfl
   | p::l,jn=>simp[Ec] at jn
  subst ah;have alb:nv = #[]:=(by simpa [Instr.fill] using g1.symm);subst alb;simp[Instr.buildSlice,run_underlying (vq he),sizeOf,typeInfo,AB,newRow,Instr.fill];rw[Array.range_zero',Array.map_empty]
 refine Kv (v:= .slice (some ⟨w.heap.size,0,none⟩) len len) (ao:=⟨z.length,es,.live⟩) (c:=nv) (fG:=e) h fV rfl ?_ rfl f2 ?_ ?_
 ·simp[execOp,ap,kF]
 ·intro j x U
  have ay:j<nv.size:=by
   rw[g2.1];rcases Nat.lt_or_ge j es.flatten.length with c1|c1
   ·exact c1
   rw[dR c1] at U;simp at U
  have hu:nv[j]? = some nv[j]:=apU ay;exact⟨_,hu,g2.2.1 _ _ hu,g2.2.2 _ _ _ U hu⟩
 intro bZ mV o6 ox hu cl;refine Rel.br hu cl (dD _) ?_ ⟨?_,.inr (by simp)⟩
 ·have:len<=len*z.length:=Nat.le_mul_of_pos_right _ (by omega);omega
 rw[g2.1]
 have a1 : ∀(es:List (List aF)),(∀e∈es,e.length=z.length)->es.flatten.length=es.length*z.length:=by
  intro es
  induction es with
  | nil=>simp
  | cons e es ih =>
   intro h;rw[apZ,dE,ih fun x U=>h x (by simp[U]),h e (by simp),dI,Nat.add_mul];omega
 rw[a1 es f2,f3];simp
theorem J3 (h:dh g s aG a w)(fV:s.a8 ba=none)(aC:fR P s.E s.a8 ba o dc=some bK)(cW:∀p∈bK.gz,p):Fin P g s a w o bK:=by
 cases ap:o.op with
 | move x=>exact Xz h (.inl ap) aC
 | assign x=>exact Xz h (.inr ap) aC
 | pick c x y=>exact aje h ap aC cW
 | alloc t=>exact ah8 h fV ap aC
 | box t x=>exact ajV h fV ap aC
 | load t x=>exact ajf h ap aC cW
 | store t x y=>exact ah9 h ap aC cW
 | nilCheck x=>exact af1 h ap aC cW
 | binOp op t x y cI=>exact aia h ap aC cW
 | unOp op t x=>exact ajg h ap aC
 | convert t cI x=>exact agt h ap aC
 | makeFunc f IU cO=>exact af2 h ap aC
 | makeSlice t x y=>exact afH h fV ap aC cW
 | fieldAddr t x f=>exact afI h ap aC cW
 | field t x f=>exact aie h ap aC
 | indexAddr t x y=>exact afJ h ap aC cW
 | index t x y=>exact aif h ap aC cW
 | extract x i=>exact agu h ap aC
 | slice t x cb aa QO =>
  cases QO with
  | none=>exact aid h ap aC cW
  | some m=>simp[fR,ap] at aC
 | build t kz=>exact aii h ap aC
 | buildSlice t n kz=>exact afk h fV ap aC
 | call c =>
  obtain⟨Lz,args,o7⟩:=c
  cases Lz with
  | builtin b=>cases b<;>first|exact ajW h ap rfl aC cW|simp[fR,ap] at aC
  | value f=>simp[fR,ap] at aC
  | invoke r m=>simp[fR,ap] at aC
 | _=>simp[fR,ap] at aC
end
def ajX:Option aS->fY
 | some o=> .gS o []
 | none=> .none
def uF (sz:Nat)(a8:Nat->Option (List aS))(a:fY):aF->Option (List (List aF)×List Prop)
 | .isl LA es=>if LA=sz then some (es,[]) else none
 | .br r k cb len=>match qE (a8 r) k a with
  | some (ao,bX)=>if ao.sz=sz then some ((ao.es.drop cb).take len,bX++[cb+len<=ao.es.length]) else none
  | none=>none
 | .fg=>some ([],[])
 | .kd=>some ([],[])
 | _=>none
def zY (P:Program)(sz:Nat)(z:List aF)(a8:Nat->Option (List aS))(a:fY)(t cI:TypeId)(y:aF):Option (List (List aF)×List Prop) :=
 if t=cI then uF sz a8 a y else
 match P.underlying cI,y with
 | some (.int _),.n .i64 n=>some (List.replicate n.toNat z,[0<=n,n<9223372036854775808])
 | _,_=>none
def qa (P:Program)(E:Nat->aF)(a8:Nat->Option (List aS))(ba:Nat)(b:Builtin)(args:List aF)(o7:List TypeId)(dc:fY):Option jv :=
 match b,args,o7,dc with
 | .append,[x,y],[t,cI],.aB m o =>
  match sH P t with
  | none=>none
  | some e=>match P.info? e,tn P e with
   | some i,some z =>
    if z.length≠i.size\/i.size=0\/i.bytes=0 then none else
    match zY P i.size z a8 (ajX o) t cI y with
    | none=>none
    | some (bw,bX)=>match x with
     | .fg=>some {val:= .br ba 0 0 m,hj:=[(ba,[⟨i.size,bw,.live⟩])],gz:=bX++[m=bw.length,m*i.bytes<=140737488355328]}
     | .br r k 0 len=>match a8 r with
      | none=>none
      | some row=>match d8 (some row) k with
       | none=>none
       | some ao=>if ao.cL = .live/\ao.sz=i.size/\ba≠r then
        some {val:= .br ba 0 0 m,hj:=[(ba,[⟨i.size,ao.es.take len++bw,.live⟩]),(r,row.set k {ao with cL:= .gone})],gz:=bX++[len<=ao.es.length,m=len+bw.length,m*i.bytes<=140737488355328]} else none
     | _=>none
   | _,_=>none
 | .append,[x,y],[t,cI],.eb =>
  match sH P t with
  | none=>none
  | some e=>match P.info? e,tn P e with
   | some i,some z =>
    if z.length≠i.size\/i.size=0\/i.bytes=0 then none else
    match zY P i.size z a8 .none t cI y with
    | none=>none
    | some (bw,bX)=>match x with
     | .br r k 0 len=>match a8 r with
      | none=>none
      | some row=>match d8 (some row) k with
       | none=>none
       | some ao=>if ao.cL = .live/\ao.sz=i.size then
        some {val:= .br r k 0 (len+bw.length),hj:=[(r,row.set k {ao with es:=ao.es.take len++bw})],gz:=bX++[len+bw.length<=ao.es.length,bw.length*i.bytes<=140737488355328]} else none
     | _=>none
   | _,_=>none
 | .copy,[.br r k 0 len,y],[t,_],_ =>
  match sH P t with
  | none=>none
  | some e=>match P.info? e with
   | none=>none
   | some i=>match uF i.size a8 .none y with
    | none=>none
    | some (bw,bX)=>match a8 r with
     | none=>none
     | some row=>match d8 (some row) k with
      | none=>none
      | some ao=>if ao.cL = .live/\ao.sz=i.size/\i.size≠0 then
       some {val:= .n .i64 bw.length,hj:=[(r,row.set k {ao with es:=bw++ao.es.drop bw.length})],gz:=bX++[bw.length<=len,len<=ao.es.length]} else none
 | .clear,[.br r k 0 len],[t],_ =>
  match sH P t with
  | none=>none
  | some e=>match P.info? e,tn P e with
   | some i,some z=>match a8 r with
    | none=>none
    | some row=>match d8 (some row) k with
     | none=>none
     | some ao=>if ao.cL = .live/\ao.sz=i.size/\z.length=i.size/\i.size≠0 then
      some {val:= .dd [],hj:=[(r,row.set k {ao with es:=List.replicate len z})],gz:=[ao.es.length=len]} else none
   | _,_=>none
 | .min,[.n k x,.n ea y],_,_=>if k=ea then some {val:= .n k (if y<x then y else x)} else none
 | _,_,_,_=>none
section
variable {g:G} {s:S} {aG:gE} {a:Act} {w bZ:World}
theorem dh.gone (h:dh g s aG a w){r k:Nat}{l:List aS}{o:aS}(aj:s.a8 r=some l)(ap:s.ao r k=some o):
 dh g (s.setRow r (l.set k {o with cL:= .gone})) aG a w /\
  ∀x v,Rel w (s.ok g aG w) s.bg (s.bn aG) x v->Rel w ((s.setRow r (l.set k {o with cL:= .gone})).ok g aG w) (s.setRow r (l.set k {o with cL:= .gone})).bg ((s.setRow r (l.set k {o with cL:= .gone})).bn aG) x v:=by
 have bt : ∀q j p,(s.setRow r (l.set k {o with cL:= .gone})).ao q j=some p->s.ao q j=some p/\ ¬(q=r/\j=k):=by
  intro q j p ah;rw[nI] at ah;by_cases e:q=r
  ·subst e
   rw[dw rfl] at ah;unfold d8 at ah;simp only[apT] at ah;by_cases e2:k=j
   ·subst e2
    by_cases a2:k<l.length
    ·simp[a2] at ah
    simp[a2] at ah
   rw[dA e2] at ah;refine⟨?_,fun gQ=>e2 gQ.2.symm⟩;unfold S.ao;rw[aj];exact ah
  rw[dA e] at ah;exact⟨ah,fun gQ=>e gQ.1⟩
 have da:Step g s aG w (s.setRow r (l.set k {o with cL:= .gone})) aG w:=by
  refine⟨JM s aj (by simp),fun q j a1=> ?_,fun b aR=> ?_,fun _ _ _=>rfl,dD _⟩
  ·cases ah:(s.setRow r (l.set k {o with cL:= .gone})).ao q j with
   | none=>right;simp[S.bn,ah]
   | some p=>left;simp[S.bn,ah,(bt q j p ah).1]
  obtain⟨q,j,p,m,h1,h2,J⟩:=aR;exact .inl ⟨q,j,p,m,(bt q j p h1).1,h2,J⟩
 refine⟨{tojX:=⟨?_,?_,?_,h.iC,h.mlt,h.pE,da.stay h.stay,h.low⟩,env:=fun t=>da.rel (h.env t),defers:=h.defers,lz:=h.lz},fun x v=>da.rel⟩
 ·intro q j p ah;exact da.obj (fun b m _=>rfl) (h.obj q j p (bt q j p ah).1)
 ·intro q j p jw jx mf b m aH h1 h2 J ak;exact h.inj q j p jw jx mf b m aH (bt q j p h1).1 (bt jw jx mf h2).1 J ak
 intro q j p b m h1 h2;exact h.own q j p b m (bt q j p h1).1 h2
theorem dh.XB (h:dh g s aG a w){ba sz:Nat}(fV:s.a8 ba=none):
 ∃b6,b6 ba 0=none/\dh g (s.setRow ba [⟨sz,[],.live⟩]) b6 a w:=by
 have bt : ∀q k,q≠ba->(s.setRow ba [⟨sz,[],.live⟩]).ao q k=s.ao q k:=fun q k a1=>by rw[nI,dA a1]
 let b6:gE:=fun q k=>if q=ba then none else aG q k
 have di : ∀q k,s.bg q k->q≠ba:=by rintro q k a1 rfl;exact C8 fV k a1
 have Pt : ∀k o,(s.setRow ba [⟨sz,[],.live⟩]).ao ba k=some o->o=⟨sz,[],.live⟩:=by
  intro k o ap;rw[nI,dw rfl,oj] at ap;split at ap
  ·simp at ap;exact ap.symm
  simp at ap
 have da:Step g s aG w (s.setRow ba [⟨sz,[],.live⟩]) b6 w:=by
  refine⟨fun q k a1=>(ps _ _ _ _ _).2 (by rw[dA (di q k a1)];exact a1),fun q k a1=> .inl ?_,fun b aR=> ?_,fun _ _ _=>rfl,dD _⟩
  ·simp[S.bn,bt q k (di q k a1),b6,di q k a1]
  obtain⟨q,k,o,m,h1,h2,J⟩:=aR;by_cases e:q=ba
  ·subst e;simp[b6] at J
  rw[bt q k e] at h1;simp only[b6,dA e] at J;exact .inl ⟨q,k,o,m,h1,h2,J⟩
 refine⟨b6,by simp[b6],{tojX:=⟨?_,?_,?_,h.iC,h.mlt,h.pE,da.stay h.stay,h.low⟩,env:=fun t=>da.rel (h.env t),defers:=h.defers,lz:=h.lz}⟩
 ·intro q k o ap
  by_cases e:q=ba
  ·subst e;rw[Pt k o ap];simp[b6,kS]
  rw[bt q k e] at ap;have:=da.obj (fun b m _=>rfl) (h.obj q k o ap);simpa [b6,e] using this
 ·intro q k o jw ea cp b m aH h1 h2 J ak;have e:q≠ba:=(by rintro rfl;simp[b6] at J);have fl:jw≠ba:=(by rintro rfl;simp[b6] at ak);rw[bt q k e] at h1;rw[bt jw ea fl] at h2;simp only[b6,dA e] at J;simp only[b6,dA fl] at ak;exact h.inj q k o jw ea cp b m aH h1 h2 J ak
 intro q k o b m h1 h2;have e:q≠ba:=by rintro rfl;simp[b6] at h2
 rw[bt q k e] at h1;simp only[b6,dA e] at h2;exact h.own q k o b m h1 h2
theorem dh.turn (h:dh g s aG a w){r k b m ba:Nat}{l:List aS}{o:aS}(aj:s.a8 r=some l)(ap:s.ao r k=some o)(a2:o.cL = .live)(ah:aG r k=some (b,m))
 (fV:s.a8 ba=none) (cp:aS) (o9:cp.cL = .live) (c:Array Value) (fG:TypeId)
 (hw:bZ.heap[b]? = some (.cells c fG (0,0))) (fU:bZ.heap.size=w.heap.size) (zX : ∀q,q≠b->bZ.heap[q]? = w.heap[q]?)
 (qM:bZ.os=w.os) (PO:bZ.tape=w.tape) (Pr:bZ.output=w.output) (hm:c.size=m) (hlen : ∀e∈cp.es,e.length=cp.sz)
 (a0 : ∀(j:Nat) x,cp.es.flatten[j]? = some x-> ∃v,c[j]? = some v/\l8 v=true/\Rel w (s.ok g aG w) s.bg (s.bn aG) x v) :
 ∃b6,b6 ba 0=some (b,m)/\dh g ((s.setRow ba [cp]).setRow r (l.set k {o with cL:= .gone})) b6 a bZ:=by
 have di:r≠ba:=by rintro rfl;rw[fV] at aj;simp at aj
 have Zb : ∀k,¬s.bg ba k:=C8 fV
 let b8:=(s.setRow ba [cp]).setRow r (l.set k {o with cL:= .gone})
 let b6:gE:=aG.set ba 0 (some (b,m))
 have bt : ∀q j p,b8.ao q j=some p->(q=ba/\j=0/\p=cp)\/(q≠ba/\s.ao q j=some p/\ ¬(q=r/\j=k)):=by
  intro q j p a1;rw[nI] at a1;by_cases e:q=r
  ·subst e
   rw[dw rfl] at a1;unfold d8 at a1;simp only[apT] at a1;by_cases e2:k=j
   ·subst e2;by_cases a2:k<l.length<;>simp[a2] at a1
   rw[dA e2] at a1;refine .inr ⟨di,?_,fun gQ=>e2 gQ.2.symm⟩;unfold S.ao;rw[aj];exact a1
  rw[dA e,nI] at a1;by_cases e2:q=ba
  ·subst e2
   rw[dw rfl,oj] at a1;split at a1
   ·rename_i h0;simp at a1;exact .inl ⟨rfl,h0.1,a1.symm⟩
   simp at a1
  rw[dA e2] at a1;exact .inr ⟨e2,a1,fun gQ=>e gQ.1⟩
 have nY : ∀q j,q≠ba->b6 q j=aG q j:=fun q j a1=>by simp[b6,gE.set,a1]
 have EA:b6 ba 0=some (b,m):=by simp[b6,gE.set]
 have sG:s.n5 aG b:=⟨r,k,o,m,ap,a2,ah⟩
 have k5 : ∀q j,s.bg q j->b8.bg q j:=fun q j a1=>by
  have e:q≠ba:=fun e=>Zb j (e▸a1);rw[ps,ps,dA e];by_cases e2:q=r
  ·subst e2;rw[dw rfl];simpa [S.bg,aj] using a1
  rw[dA e2];exact a1
 have da:Step g s aG w b8 b6 bZ:=by
  refine⟨k5,fun q j a1=> ?_,fun q aR=> ?_,fun q a1 aR=>zX q fun e=>aR (e▸sG),Nat.le_of_eq fU.symm⟩
  ·have pG:q≠ba:=fun e=>Zb j (e▸a1)
   cases mn:b8.ao q j with
   | none=>right;simp[S.bn,mn]
   | some p =>
    left;rcases bt q j p mn with ⟨e,-⟩|⟨-,e2,-⟩
    ·exact absurd e pG
    simp[S.bn,mn,e2,nY q j pG]
  obtain⟨jw,j,p,aH,h1,h2,J⟩:=aR;rcases bt jw j p h1 with ⟨rfl,rfl,rfl⟩|⟨e1,e2,-⟩
  ·rw[EA] at J;simp at J;exact .inl (J.1▸sG)
  rw[nY jw j e1] at J;exact .inl ⟨jw,j,p,aH,e2,h2,J⟩
 refine⟨b6,EA,{tojX:=⟨?_,?_,?_,?_,h.mlt,h.pE,da.stay h.stay,h.low⟩,env:=fun t=>da.rel (h.env t),defers:=h.defers,lz:=h.lz}⟩
 ·intro q j p mn
  rcases bt q j p mn with ⟨rfl,rfl,rfl⟩|⟨e1,e2,bG⟩
  ·rw[EA];exact⟨c,fG,hw,hm,hlen,fun i x U=>let ⟨v,f1,f2,f3⟩:=a0 i x U;⟨v,f1,f2,da.rel f3⟩⟩
  rw[nY q j e1];refine da.obj (fun lR aH lY=>zX lR ?_) (h.obj q j p e2);rintro rfl;exact bG (h.inj q j p r k o lR aH m e2 ap lY ah)
 ·intro q j p jw jx mf lR js iw h1 h2 J ak
  rcases bt q j p h1 with ⟨rfl,rfl,rfl⟩|⟨e1,e2,bG⟩<;>rcases bt jw jx mf h2 with ⟨rfl,rfl,rfl⟩|⟨pa,sd,ym⟩
  ·exact⟨rfl,rfl⟩
  ·rw[EA] at J;simp at J;rw[nY jw jx pa] at ak;obtain⟨rfl,rfl⟩:=J;exact absurd (h.inj jw jx mf r k o b iw m sd ap ak ah) ym
  ·rw[EA] at ak;simp at ak;rw[nY q j e1] at J;obtain⟨rfl,rfl⟩:=ak;exact absurd (h.inj q j p r k o b js m e2 ap J ah) bG
  rw[nY q j e1] at J;rw[nY jw jx pa] at ak;exact h.inj q j p jw jx mf lR js iw e2 sd J ak
 ·intro q j p lR aH h1 h2
  rcases bt q j p h1 with ⟨rfl,rfl,rfl⟩|⟨e1,e2,-⟩
  ·rw[EA] at h2;simp at h2;rw[<- h2.1];exact h.own r k o b m ap ah
  rw[nY q j e1] at h2;exact h.own q j p lR aH e2 h2
 refine h.iC.step qM PO Pr (Nat.le_of_eq fU.symm) fun lR pF lY=>zX lR ?_;rintro rfl;rcases h.own r k o lR m ap ah with h1|h1
 ·omega
 exact lY h1
theorem qZ.p8 {ok:Nat->Prop}{bg:kX}{bn:kL}{ff o sz:Nat}{es:List (List aF)}(h:qZ w ok bg bn ff o sz es):
 ∃vs:List Value,vs.length=es.length*sz/\(∀(j:Nat) u,vs[j]? = some u->w.cell? ((⟨ff,o,none⟩:Addr).add j)=some u)/\(∀u∈vs,u.oneCell'=true) /\
  ∀(j:Nat) x u,es.flatten[j]? = some x->vs[j]? = some u->Rel w ok bg bn x u:=by
 have lA:es.flatten.length=es.length*sz:=by
  have : ∀(es:List (List aF)),(∀e∈es,e.length=sz)->es.flatten.length=es.length*sz:=by
   intro es
   induction es with
   | nil=>intro _;simp
   | cons e es ih =>
    intro gQ;rw[apZ,dE,ih fun x U=>gQ x (by simp[U]),gQ e (by simp),dI,Nat.add_mul];omega
  exact this es h.1
 have U : ∀i,i<es.length*sz-> ∃v,∀x,es.flatten[i]? = some x->w.cell? ⟨ff,o+i,none⟩=some v/\l8 v=true/\Rel w ok bg bn x v:=by intro i aa;have ay:=dz (l:=es.flatten) (i:=i) (by omega);obtain⟨v,h1⟩:=h.2 i _ ay;exact⟨v,fun x U=>by rw[ay] at U;simp at U;subst U;exact h1⟩
 let vs:List Value:=(List.range (es.length*sz)).map fun i=>if aa:i<es.length*sz then (U i aa).choose else undef
 have sS:vs.length=es.length*sz:=by simp[vs]
 have ob : ∀(i:Nat) u x,vs[i]? = some u->es.flatten[i]? = some x->w.cell? ⟨ff,o+i,none⟩=some u/\l8 u=true/\Rel w ok bg bn x u:=by
  intro i u x hu H2
  have aa:i<es.length*sz:=by
   rcases Nat.lt_or_ge i vs.length with c1|c1
   ·omega
   rw[dR c1] at hu;simp at hu
  simp only[vs,dK,List.getElem?_range aa,apR,dif_pos aa,dB] at hu;subst hu;exact(U i aa).choose_spec x H2
 have hex : ∀(i:Nat) u,vs[i]? = some u-> ∃x,es.flatten[i]? = some x:=by
  intro i u hu
  have aa:i<es.flatten.length:=by
   rcases Nat.lt_or_ge i vs.length with c1|c1
   ·omega
   rw[dR c1] at hu;simp at hu
  exact⟨_,dz aa⟩
 refine⟨vs,sS,fun j u hu=> ?_,fun u hu=> ?_,fun j x u eT hu=>(ob j u x hu eT).2.2⟩
 ·obtain⟨x,H2⟩:=hex j u hu;rw[uu];exact(ob j u x hu H2).1
 obtain⟨j,ay⟩:=ap6 hu;obtain⟨x,H2⟩:=hex j u ay;exact(ob j u x ay H2).2.1
theorem ae1 {es bw:List (List aF)}{sz:Nat}{xs news:List Value}(U:xs.length=es.length*sz)(he:∀e∈es,e.length=sz){j:Nat}{x:aF}(h:(es++bw).flatten[j]? = some x)
 {ok:Nat->Prop} {bg:kX} {bn:kL} (h1 : ∀(j:Nat) x u,es.flatten[j]? = some x->xs[j]? = some u->Rel w ok bg bn x u) (h2 : ∀(j:Nat) x u,bw.flatten[j]? = some x->news[j]? = some u->Rel w ok bg bn x u)
 {u:Value} (hu:(xs++news)[j]? = some u):Rel w ok bg bn x u:=by
 have lA:es.flatten.length=es.length*sz:=by
  have : ∀(es:List (List aF)),(∀e∈es,e.length=sz)->es.flatten.length=es.length*sz:=by
   intro es
   induction es with
   | nil=>intro _;simp
   | cons e es ih =>
    intro gQ;rw[apZ,dE,ih fun x U=>gQ x (by simp[U]),gQ e (by simp),dI,Nat.add_mul];omega
  exact this es he
 rw[List.flatten_append,List.getElem?_append] at h;rw[List.getElem?_append] at hu;by_cases ay:j<es.flatten.length
 ·rw[dw ay] at h;rw[dw (by omega)] at hu;exact h1 j x u h hu
 rw[dA ay] at h;rw[dA (by omega)] at hu;rw[lA] at h;rw[U] at hu;exact h2 _ x u h hu
variable {P:Program}
theorem W0 (h:dh g s aG a w){sz:Nat}{x:aF}{gM:fY}{bw:List (List aF)}{ao:List Prop}(he:uF sz s.a8 gM x=some (bw,ao))(bt:∀p∈ao,p){v:Value}(bh:Rel w (s.ok g aG w) s.bg (s.bn aG) x v):
 ∃A c,v = .slice A bw.length c/\(∀e∈bw,e.length=sz)/\(bw.length=0\/ ∃ff off,A=some ⟨ff,off,none⟩/\qZ w (s.ok g aG w) s.bg (s.bn aG) ff off sz bw):=by
 cases x with
 | isl LA es =>
  simp only[uF] at he;split at he
  ·rename_i bM
   subst bM;simp only[dB,dF] at he;obtain⟨rfl,rfl⟩:=he;rcases bh.wG with ⟨rfl,A,c,rfl,-⟩|⟨ff,off,c,-,rfl,-,ke⟩
   ·exact⟨A,c,rfl,by simp,.inl rfl⟩
   exact⟨_,c,rfl,ke.1,.inr ⟨ff,off,rfl,ke⟩⟩
  simp at he
 | br r k cb len =>
  simp only[uF] at he;split at he;rotate_left
  ·simp at he
  rename_i pJ bX ll;split at he;rotate_left
  ·simp at he
  rename_i bM;simp only[dB,dF] at he;obtain⟨rfl,rfl⟩:=he;have iT:cb+len<=pJ.es.length:=bt _ (by simp);have ap:s.ao r k=some pJ:=wH ll (fun p ah=>bt p (by simp[ah]));have gv:=h.obj r k pJ ap;have aR:((pJ.es.drop cb).take len).length=len:=(by simp;omega);rcases bh.GW (jV ap) with ⟨-,rfl,rfl,rfl⟩|⟨b,m,A,c,ah,rfl,uM,-,hm⟩
  ·exact⟨none,0,by simp,by simp,.inl (by simp)⟩
  rw[ah] at gv;have ke:=gv.rd;subst bM;have At:=JN ke cb len (by omega);refine⟨A,c,by rw[aR],At.1,?_⟩;rcases hm with rfl|⟨rfl,-⟩
  ·left;rw[aR];omega
  right;rw[dG] at At;exact⟨b,_,rfl,At⟩
 | fg =>
  simp only[uF,dB,dF] at he;obtain⟨rfl,rfl⟩:=he;rw[bh.sx];exact⟨none,0,rfl,by simp,.inl rfl⟩
 | kd =>
  simp only[uF,dB,dF] at he;obtain⟨rfl,rfl⟩:=he;obtain⟨A,c,rfl⟩:=bh.Ku;exact⟨some A,c,rfl,by simp,.inl rfl⟩
 | _=>simp[uF] at he
structure Pu (P:Program) (w:World) (t cI fG e:TypeId) (i:TypeInfo) (fx pO:Value) (n:Nat) (vs:List Value):Prop where
 zero:n=0-> ∀(B:Option Addr) (len cap:Nat),len<=cap->(Builtin.append_ #[t,cI] fG #[.slice B len cap,pO]).run P w = .ok (.slice B len cap) w
 nil:0<n->(n:Int)<=9223372036854775807->n*i.bytes<=140737488355328 ->
  (Builtin.append_ #[t,cI] fG #[.slice none 0 0,pO]).run P w = .ok (.slice (some ⟨w.heap.size,0,none⟩) n (grownCap w n 0 e)) (w.drew.alloc (.cells (vs.toArray++Builtin.zeroCells fx.cells (grownCap w n 0 e-n)) e))
 room:0<n-> ∀(g kw n9:Nat) (nT:Array Value) (fl:TypeId),w.heap[g]? = some (.cells nT fl (0,0))->kw+n<=n9->kw*i.size+vs.length<=nT.size->n*i.bytes<=140737488355328 ->
  (Builtin.append_ #[t,cI] fG #[.slice (some ⟨g,0,none⟩) kw n9,pO]).run P w = .ok (.slice (some ⟨g,0,none⟩) (kw+n) n9) (w.setRow g (nT.toList.take (kw*i.size)++vs++nT.toList.drop (kw*i.size+vs.length)).toArray)
 grow:0<n-> ∀(b:Addr) (kw n9:Nat) (Au:List Value),Au.length=kw*i.size->(∀(j:Nat) v,Au[j]? = some v->w.cell? (b.add j)=some v)->n9<kw+n->((kw+n:Nat):Int)<=9223372036854775807->Builtin.nextslicecap (kw+n) n9*i.bytes<=281474976710656->n*i.bytes<=140737488355328 ->
  (Builtin.append_ #[t,cI] fG #[.slice (some b) kw n9,pO]).run P w = .ok (.slice (some ⟨w.heap.size,0,none⟩) (kw+n) (grownCap w (kw+n) n9 e))
    (w.drew.alloc (.cells (Au.toArray++vs.toArray++Builtin.zeroCells fx.cells (grownCap w (kw+n) n9 e-(kw+n))) e))
theorem ad7 (t fG e:TypeId)(i:TypeInfo)(cl:P.underlying t=some (.slice e))(aa:P.info? e=some i)
 (g kw n9:Nat) (nT:Array Value) (fl:TypeId) (du:w.heap[g]? = some (.cells nT fl (0,0)))
 (a:Addr) (m c:Nat) (news:List Value) (aR:news.length=m*i.size) (akJ : ∀j u,news[j]? = some u->w.cell? (a.add j)=some u) (h1 : ∀u∈news,u.oneCell'=true)
 (wP:kw+m<=n9) (iT:kw*i.size+news.length<=nT.size) :
 (Builtin.append_ #[t,t] fG #[.slice (some ⟨g,0,none⟩) kw n9,.slice (some a) m c]).run P w =
   .ok (.slice (some ⟨g,0,none⟩) (kw+m) n9) (w.setRow g (nT.toList.take (kw*i.size)++news++nT.toList.drop (kw*i.size+news.length)).toArray):=by
 have cq:=run_firstCells_some (P:=P) w i.size m a m c news aR akJ;have oz:=run_storeCells_at P g (kw*i.size) fl news 0 nT w du (by simpa using iT) h1;simp only[Nat.add_zero] at oz;simp[Builtin.append_,run_underlying cl,sizeOf,typeInfo,aa,Builtin.lenOf,wP,cq,Addr.add_lit,oz]
theorem VP {t fG e:TypeId}{i:TypeInfo}{fx:Value}(cl:P.underlying t=some (.slice e))(aa:P.info? e=some i)(cB:i.zero=some fx){A:Option Addr}{n c:Nat}{vs:List Value}(aR:vs.length=n*i.size)
 (hA:n=0\/ ∃a,A=some a/\ ∀(j:Nat) u,vs[j]? = some u->w.cell? (a.add j)=some u) (h1 : ∀u∈vs,u.oneCell'=true):Pu P w t t fG e i fx (.slice A n c) n vs where
 zero:=fun h0 B len cap HB=>by subst h0;cases A<;>cases B<;>simp[Builtin.append_,run_underlying cl,sizeOf,typeInfo,aa,Builtin.lenOf,HB,Builtin.firstCells,loadCells,loadCellsFrom,storeCells]
 nil:=fun h0 AD EB=>by obtain⟨a,rfl,bF⟩:=hA.resolve_left (by omega);exact run_append_nil (P:=P) w t fG e i fx cl aa cB a n c vs aR bF h0 AD (by omega)
 room:=fun aU g kw n9 nT fl du wP iT _=>by obtain⟨a,rfl,bF⟩:=hA.resolve_left (by omega);exact ad7 t fG e i cl aa g kw n9 nT fl du a n c vs aR bF h1 wP iT
 grow:=fun aU b kw n9 Au ap hold du AD iT _=>by obtain⟨a,rfl,bF⟩:=hA.resolve_left (by omega);exact run_append_grow (P:=P) w t fG e i fx cl aa cB b kw n9 Au ap hold a n c vs aR bF du AD iT
theorem agw {t cI fG e:TypeId}{i:TypeInfo}{fx:Value}{k:IntKind}(cl:P.underlying t=some (.slice e))(oA:P.underlying cI=some (.int k))(aa:P.info? e=some i)(cB:i.zero=some fx)(nU:fx.cells.size=i.size){m:Nat}(aoN:(m:Int)<9223372036854775808)
 (h1 : ∀u∈(Builtin.zeroCells fx.cells m).toList,u.oneCell'=true):Pu P w t cI fG e i fx (.int .i64 m) m (Builtin.zeroCells fx.cells m).toList:=by
 have hw:IntKind.i64.wrap (m:Int)=m:=by simp[IntKind.wrap,IntKind.bits,IntKind.signed];omega
 have pC : ¬((m:Int)<0):=by omega
 have uN : ∀aH,aH*i.size=0->Builtin.zeroCells fx.cells aH = #[]:=fun aH hm=>by apply Array.eq_empty_of_size_eq_zero;rw[size_zeroCells,nU,hm]
 have LB : ∀bZ:World,(if m*i.size=0 then (pure #[]:Sem (Array Value)) else do pure (Builtin.zeroCells (<- zeroValue e).cells m)).run P bZ = .ok (Builtin.zeroCells fx.cells m) bZ:=fun bZ=>by
  split
  ·rename_i hm;rw[uN _ hm];rfl
  simp[zeroValue,typeInfo,aa,cB]
 have Pv : ∀b:Nat,m*b<=140737488355328-> ¬(281474976710656<(m:Int)*(b:Int)):=fun b a3=>by have:((m*b:Nat):Int)<=140737488355328:=(by omega);rw[Int.natCast_mul] at this;omega
 refine⟨fun aU B len cap HB=> ?_,fun aU AD EB=> ?_,fun aU g kw n9 nT fl du wP iT EB=> ?_,fun aU b kw n9 Au ap hold du AD iT EB=> ?_⟩
 ·subst aU;have PU:IntKind.i64.wrap 0=0:=(by simpa using hw);cases B<;>simp[Builtin.append_,run_underlying cl,run_underlying oA,sizeOf,typeInfo,aa,HB,asInt,asIntOf,PU,storeCells]
 ·have LC : ¬m=0:=by omega
  have HC : ¬(9223372036854775807<(m:Int)):=(by omega);have ye:=Pv _ EB;have HD : ¬(281474976710656<Builtin.nextslicecap m 0*i.bytes):=(by rw[nextslicecap_zero aU];omega);have h2:=LB w.drew;by_cases hm:m*i.size=0
  ·simp[Builtin.append_,run_underlying cl,run_underlying oA,sizeOf,typeInfo,zeroValue,aa,cB,asInt,asIntOf,hw,pC,ye,LC,HC,HD,Question.forced,run_firstCells_none,newRow,grownCap,hm,uN _ hm]
  simp[Builtin.append_,run_underlying cl,run_underlying oA,sizeOf,typeInfo,zeroValue,aa,cB,asInt,asIntOf,hw,pC,ye,LC,HC,HD,Question.forced,run_firstCells_none,newRow,grownCap,hm]
 ·have ye:=Pv _ EB
  have oz:=run_storeCells_at P g (kw*i.size) fl (Builtin.zeroCells fx.cells m).toList 0 nT w du (by simpa using iT) h1;simp only[Nat.add_zero] at oz;by_cases hm:m*i.size=0
  ·rw[uN _ hm] at oz;have alc:(storeCells ⟨g,kw*i.size,none⟩ []).run P w = .ok () (w.setRow g nT):=(by simpa using oz);simp[Builtin.append_,run_underlying cl,run_underlying oA,sizeOf,typeInfo,zeroValue,aa,cB,asInt,asIntOf,hw,pC,ye,wP,hm,uN _ hm,Addr.add_lit,alc]
  simp[Builtin.append_,run_underlying cl,run_underlying oA,sizeOf,typeInfo,zeroValue,aa,cB,asInt,asIntOf,hw,pC,ye,wP,hm,Addr.add_lit,oz]
 have ye:=Pv _ EB;have se : ¬(kw+m<=n9):=by omega
 have HC : ¬(9223372036854775807<((kw:Int)+(m:Int))):=by omega
 have HD : ¬(281474976710656<Builtin.nextslicecap (kw+m) n9*i.bytes):=by omega
 have ZD:=run_firstCells_some (P:=P) w.drew i.size kw b kw n9 Au ap (by simpa using hold);by_cases hm:m*i.size=0
 ·simp[Builtin.append_,run_underlying cl,run_underlying oA,sizeOf,typeInfo,zeroValue,aa,cB,asInt,asIntOf,hw,pC,ye,se,HC,HD,Question.forced,ZD,newRow,grownCap,hm,uN _ hm]
 simp[Builtin.append_,run_underlying cl,run_underlying oA,sizeOf,typeInfo,zeroValue,aa,cB,asInt,asIntOf,hw,pC,ye,se,HC,HD,Question.forced,ZD,newRow,grownCap,hm]
theorem Nt {ba:Nat}{e:TypeId}{v:Value}{i:TypeInfo}{m:Nat}(h:dh g s aG a w)(fV:s.a8 ba=none){es:List (List aF)}(hlen:∀x∈es,x.length=i.size)(hm:m=es.length)
 {p8:List Value} {xq:Array Value} {cap:Nat} (sS:p8.length=es.length*i.size) (n8 : ∀u∈p8,u.oneCell'=true) (alO:xq.size=(cap-m)*i.size) (HB:m<=cap) (ald:cap<9223372036854775808)
 (gv : ∀(j:Nat) x u,es.flatten[j]? = some x->p8[j]? = some u->Rel w (s.ok g aG w) s.bg (s.bn aG) x u)
 (bh:v = .slice (some ⟨w.heap.size,0,none⟩) m cap) :
 ∃b6,dh g (s.setRow ba [⟨i.size,es,.live⟩]) b6 a (w.drew.alloc (.cells (p8.toArray++xq) e)) /\
  Rel (w.drew.alloc (.cells (p8.toArray++xq) e)) ((s.setRow ba [⟨i.size,es,.live⟩]).ok g b6 (w.drew.alloc (.cells (p8.toArray++xq) e))) (s.setRow ba [⟨i.size,es,.live⟩]).bg ((s.setRow ba [⟨i.size,es,.live⟩]).bn b6) (.br ba 0 0 m) v:=by
 have bD:=h.drew
 have lA:es.flatten.length=es.length*i.size:=by
  have : ∀(es:List (List aF)),(∀e∈es,e.length=i.size)->es.flatten.length=es.length*i.size:=by
   intro es
   induction es with
   | nil=>intro _;simp
   | cons e es ih =>
    intro gQ;rw[apZ,dE,ih fun x U=>gQ x (by simp[U]),gQ e (by simp),dI,Nat.add_mul];omega
  exact this es hlen
 obtain⟨b6,p1,p2,-⟩:=bD.alloc fV ⟨i.size,es,.live⟩ rfl (p8.toArray++xq) e hlen (fun j x U=>by
  have ay:j<p8.length:=by
   rcases Nat.lt_or_ge j es.flatten.length with c1|c1
   ·omega
   rw[dR c1] at U;simp at U
  refine⟨p8[j],?_,n8 _ (List.getElem_mem ay),?_⟩
  ·rw[Array.getElem?_append_left (by simpa using ay)];simp[ay]
  exact(gv j x _ U (dz ay)).drew)
 refine⟨b6,p2,?_⟩;subst bh;have ap:(s.setRow ba [⟨i.size,es,.live⟩]).ao ba 0=some ⟨i.size,es,.live⟩:=by rw[nI,dw rfl,oj];simp
 refine Rel.br (sz:=i.size) (ff:=w.heap.size) (m:=(p8.toArray++xq).size) ((ps _ _ _ _ _).2 (by simp)) ?_ HB ald ⟨?_,.inr (by simp)⟩
 ·rw[jV ap,p1];rfl
 simp only[Array.size_append,List.size_toArray,alO,sS,dG];rw[<- hm,<- Nat.add_mul];congr 1;omega
section
variable {o:Oper} {dc:fY} {ba:Nat} {bK:jv}
theorem Wo (h:dh g s aG a w){t cI fG e:TypeId}{i:TypeInfo}{z:List aF}(hu:P.underlying t=some (.slice e))(aa:P.info? e=some i)(cB:tn P e=some z)(pH:z.length=i.size)(ly:i.size≠0)
 {y:aF} {gM:fY} {bw:List (List aF)} {ao:List Prop} (he:zY P i.size z s.a8 gM t cI y=some (bw,ao)) (bt : ∀p∈ao,p) {pO:Value} (aV:Rel w (s.ok g aG w) s.bg (s.bn aG) y pO) :
 ∃fx vs,i.zero=some fx/\fx.cells.size=i.size/\Pu P w t cI fG e i fx pO bw.length vs/\(∀x∈bw,x.length=i.size)/\vs.length=bw.length*i.size/\(∀u∈vs,u.oneCell'=true) /\
  ∀(j:Nat) x u,bw.flatten[j]? = some x->vs[j]? = some u->Rel w (s.ok g aG w) s.bg (s.bn aG) x u:=by
 obtain⟨fA,fx,kH,mH,s9,yn⟩:=Gy cB;rw[aa] at kH;simp at kH;subst kH;have nU:fx.cells.size=i.size:=by rw[<- pH,s9];simp
 unfold zY at he;split at he
 ·rename_i alP
  subst alP;obtain⟨A,c,rfl,hlen,PV⟩:=W0 h he bt aV;rcases PV with h0|⟨ff,off,rfl,ke⟩
  ·have:bw=[]:=dM.1 h0;subst this;exact⟨fx,[],mH,nU,VP hu aa mH (by simp) (.inl rfl) (by simp),hlen,by simp,by simp,by simp⟩
  obtain⟨vs,v1,v2,v3,v4⟩:=ke.p8;exact⟨fx,vs,mH,nU,VP hu aa mH v1 (.inr ⟨_,rfl,v2⟩) v3,hlen,v1,v3,v4⟩
 split at he;rotate_left
 ·simp at he
 rename_i k n a2;simp only[dB,dF] at he;obtain⟨rfl,rfl⟩:=he;have h0:0<=n:=bt _ (by simp);have AD:n<9223372036854775808:=bt _ (by simp);obtain⟨m,rfl⟩:=Int.eq_ofNat_of_zero_le h0;have alQ:pO = .int .i64 m:=by cases aV;rfl
 subst alQ;have ob : ∀(j:Nat) u,(Builtin.zeroCells fx.cells m).toList[j]? = some u->fx.cells[j % i.size]? = some u:=by intro j u qb;have ay:=(apX.1 qb).1;rw[Array.length_toList,size_zeroCells,nU] at ay;have eN:j % i.size<fx.cells.size:=(by rw[nU];exact Nat.mod_lt _ (by omega));rw[Array.getElem?_toList,Builtin.zeroCells,Array.getElem?_map,nU,Array.getElem?_range] at qb;rw[dw ay] at qb;simp only[apR,dB] at qb;rw[<- qb,apU eN,getElem!_pos fx.cells _ eN]
 refine⟨fx,(Builtin.zeroCells fx.cells m).toList,mH,nU,?_,?_,?_,?_,?_⟩
 ·simp only[List.length_replicate,dy];refine agw hu a2 aa mH nU (by omega) fun u uO=> ?_;obtain⟨j,ay⟩:=ap6 uO;have h1:=ob j u ay;have eN:j % i.size<z.length:=(by rw[pH];exact Nat.mod_lt _ (by omega));obtain⟨v,v1,v2,-⟩:=yn _ _ (dz eN);rw[h1] at v1;obtain rfl:=dJ v1;exact v2
 ·intro x U;rw[List.mem_replicate] at U;rw[U.2,pH]
 ·rw[Array.length_toList,size_zeroCells,nU];simp
 ·intro u uO;obtain⟨j,ay⟩:=ap6 uO;have h1:=ob j u ay;have eN:j % i.size<z.length:=(by rw[pH];exact Nat.mod_lt _ (by omega));obtain⟨v,v1,v2,-⟩:=yn _ _ (dz eN);rw[h1] at v1;obtain rfl:=dJ v1;exact v2
 intro j x u U qb;rw[rS (sz:=i.size) (by omega) _ (fun fl oa=>by rw[List.mem_replicate] at oa;rw[oa.2,pH])] at U;have h1:=ob j u qb
 cases a1:(List.replicate (Int.toNat (m:Int)) z)[j / i.size]? with
 | none=>rw[a1] at U;simp at U
 | some fl =>
  have:=dH a1;rw[List.mem_replicate] at this;rw[a1,this.2] at U;simp only[dx] at U;obtain⟨v,v1,-,v3⟩:=yn _ _ U;rw[h1] at v1;obtain rfl:=dJ v1;exact v3 _ _ _ _
theorem agx (h:dh g s aG a w)(fV:s.a8 ba=none){x y:aF}{u7 pO:Value}{t cI:TypeId}{m:Nat}{QP:Option aS}{fG:TypeId}(aC:qa P s.E s.a8 ba .append [x,y] [t,cI] (.aB m QP)=some bK)(cW:∀p∈bK.gz,p)
 (U:Rel w (s.ok g aG w) s.bg (s.bn aG) x u7) (aV:Rel w (s.ok g aG w) s.bg (s.bn aG) y pO) :
 ∃v bZ b6,(Builtin.append_ #[t,cI] fG #[u7,pO]).run P w = .ok v bZ/\dh g (s.jQ bK.hj) b6 a bZ/\Rel bZ ((s.jQ bK.hj).ok g b6 bZ) (s.jQ bK.hj).bg ((s.jQ bK.hj).bn b6) bK.val v:=by
 simp only[qa] at aC;split at aC
 ·simp at aC
 rename_i e he;have hu:=vq he;split at aC;rotate_left
 ·simp at aC
 rename_i i z aa cB;split at aC
 ·simp at aC
 rename_i a0;simp only[not_or,Decidable.not_not] at a0;obtain⟨pH,ly,Ev⟩:=a0;split at aC
 ·simp at aC
 rename_i bw bX uK;have LD:=fun ah=>Wo (fG:=fG) h hu aa cB pH ly uK ah aV;by_cases ajY:True
 ·
  split at aC
  ·
   simp only[dB] at aC;subst aC;have hm:m=bw.length:=cW _ (by simp);have vN:m*i.bytes<=140737488355328:=cW _ (by simp);obtain⟨fx,vs,mH,nU,hA,hlen,v1,v3,v4⟩:=LD (fun p ah=>cW p (by simp[ah]));clear LD;rw[U.sx];by_cases h0:bw.length=0
   ·have:bw=[]:=dM.1 h0;subst this;obtain⟨b6,p1,p2⟩:=h.XB (sz:=i.size) fV;refine⟨_,w,b6,hA.zero h0 none 0 0 (dD _),p2,?_⟩;subst hm;have ap:(s.setRow ba [⟨i.size,[],.live⟩]).ao ba 0=some ⟨i.size,[],.live⟩:=(by rw[nI,dw rfl,oj];simp);exact .pT (sz:=i.size) ((ps _ _ _ _ _).2 (by simp)) (by show (s.setRow ba [⟨i.size,[],.live⟩]).bn b6 ba 0=_;rw[jV ap,p1])
   ··have yo:bw.length*1<=bw.length*i.bytes:=Nat.mul_le_mul_left _ (by omega)
     rw[hm] at vN;have kF:=hA.nil (by omega) (by omega) (by omega);have ZE:=grownCap_ge w bw.length 0 e;have hle:=grownCap_le_maxLen w bw.length 0 e (by simp only[maxLen];omega);simp only[maxLen] at hle
     obtain⟨b6,q1,q2⟩:=Nt (e:=e) (i:=i) (m:=m) (p8:=vs) (xq:=Builtin.zeroCells fx.cells (grownCap w bw.length 0 e-bw.length)) (cap:=grownCap w bw.length 0 e) h fV hlen hm v1 v3
      (by rw[size_zeroCells,nU,hm]) (by omega) (by omega) v4 rfl
     refine⟨.slice (some ⟨w.heap.size,0,none⟩) m (grownCap w bw.length 0 e),_,b6,?_,q1,q2⟩;rw[hm];exact kF
  ·
   rename_i r k len;split at aC
   ·simp at aC
   rename_i row ev;split at aC
   ·simp at aC
   rename_i ao bt;split at aC;rotate_left
   ·simp at aC
   rename_i AE;obtain⟨qc,fU,di⟩:=AE;simp only[dB] at aC;subst aC;have ap:s.ao r k=some ao:=(by unfold S.ao;rw[ev];exact bt);have iT:len<=ao.es.length:=cW _ (by simp);have hm:m=len+bw.length:=cW _ (by simp);have vN:m*i.bytes<=140737488355328:=cW _ (by simp);have yo:m*1<=m*i.bytes:=Nat.mul_le_mul_left _ (Nat.one_le_iff_ne_zero.2 Ev);obtain⟨fx,vs,mH,nU,hA,hlen,v1,v3,v4⟩:=LD (fun p ah=>cW p (by simp[ah]));clear LD;have aoX:bw.length*i.bytes<=m*i.bytes:=apV _ (by omega);have gv:=h.obj r k ao ap;have PW:(ao.es.take len).length=len:=(by simp;omega);have vB:(s.setRow ba [⟨i.size,ao.es.take len++bw,.live⟩]).a8 r=some row:=(by simp[S.setRow,Ne.symm di,ev]);have sT : ∀b6:gE,((s.setRow ba [⟨i.size,ao.es.take len++bw,.live⟩]).setRow r (row.set k {ao with cL:= .gone})).ao ba 0=some ⟨i.size,ao.es.take len++bw,.live⟩:=(by intro _;rw[nI,dA di,nI,dw rfl,oj];simp);have HE:((s.setRow ba [⟨i.size,ao.es.take len++bw,.live⟩]).setRow r (row.set k {ao with cL:= .gone})).bg ba 0:=(by rw[ps,dA di,ps,dw rfl];simp);show ∃v bZ b6,_/\dh g ((s.setRow ba [⟨i.size,ao.es.take len++bw,.live⟩]).setRow r (row.set k {ao with cL:= .gone})) b6 a bZ/\_;rcases U.zI (jV ap) with ⟨ah,-,rfl,rfl⟩|⟨b,M,hZ,mv,ah,rfl,uM,w9,eG,oB⟩
   ·
    rw[ah] at gv;simp only[kS] at gv;have jn:ao.es.take 0++bw=bw:=(by simp);by_cases h0:bw.length=0
    ·have:bw=[]:=dM.1 h0;subst this;obtain⟨b6,p1,p2⟩:=h.XB (sz:=i.size) fV;have qd:(s.setRow ba [⟨i.size,[],.live⟩]).ao r k=some ao:=(by rw[nI,dA (Ne.symm di)];exact ap);have akK:(s.setRow ba [⟨i.size,[],.live⟩]).a8 r=some row:=(by simp[S.setRow,Ne.symm di,ev]);obtain⟨v7,-⟩:=p2.gone akK qd;have HF:ao.es.take 0++([]:List (List aF))=[]:=(by simp);rw[HF];rw[HF] at HE sT;refine⟨_,w,b6,hA.zero h0 none 0 0 (dD _),v7,?_⟩;subst hm;exact .pT (sz:=i.size) HE ((jV (sT b6)).trans (by rw[p1]))
    ··have lY:m=bw.length:=by omega
      have kF:=hA.nil (by omega) (by omega) (by omega);have ZE:=grownCap_ge w bw.length 0 e;have hle:=grownCap_le_maxLen w bw.length 0 e (by simp only[maxLen];omega);simp only[maxLen] at hle
      obtain⟨b6,q1,q2⟩:=Nt (e:=e) (i:=i) (m:=m) (p8:=vs) (xq:=Builtin.zeroCells fx.cells (grownCap w bw.length 0 e-bw.length)) (cap:=grownCap w bw.length 0 e) h fV hlen lY v1 v3
       (by rw[size_zeroCells,nU,lY]) (by omega) (by omega) v4 rfl
      rw[jn];rw[jn] at vB;have qd:(s.setRow ba [⟨i.size,bw,.live⟩]).ao r k=some ao:=(by rw[nI,dA (Ne.symm di)];exact ap);obtain⟨v7,IV⟩:=q1.gone vB qd;refine⟨.slice (some ⟨w.heap.size,0,none⟩) m (grownCap w bw.length 0 e),_,b6,?_,v7,IV _ _ q2⟩;rw[lY];exact kF
   ·
    rw[ah] at gv;have akL:=gv;obtain⟨cO,oM,g1,g2,g3,g4⟩:=gv
    have HG : ∀e∈ao.es.take len++bw,e.length=i.size:=by
     intro fl oa;rw[List.mem_append] at oa;rcases oa with c1|c1
     ·rw[g3 fl (List.mem_of_mem_take c1),fU]
     exact hlen fl c1
    have lA : ∀(es:List (List aF)),(∀e∈es,e.length=i.size)->es.flatten.length=es.length*i.size:=by
     intro es
     induction es with
     | nil=>intro _;simp
     | cons e es ih =>
      intro gQ;rw[apZ,dE,ih fun x U=>gQ x (by simp[U]),gQ e (by simp),dI,Nat.add_mul];omega
    by_cases h0:bw.length=0
    ·
     have:bw=[]:=dM.1 h0;subst this;have HF:ao.es.take len++([]:List (List aF))=ao.es.take len:=(by simp);rw[HF];rw[HF] at HE sT HG
     obtain⟨b6,p1,p2⟩:=h.turn ev ap qc ah fV ⟨i.size,ao.es.take len,.live⟩ rfl cO oM g1 rfl (fun _ _=>rfl) rfl rfl rfl g2 HG (fun j q a1=>by
      refine g4 j q ?_
      have ay:j<(ao.es.take len).flatten.length:=by
       rcases Nat.lt_or_ge j (ao.es.take len).flatten.length with c1|c1
       ·exact c1
       rw[dR c1] at a1;simp at a1
      have ZF:ao.es.flatten=(ao.es.take len).flatten++(ao.es.drop len).flatten:=(by rw[<- List.flatten_append,List.take_append_drop]);rw[ZF,apY ay];exact a1)
     refine⟨_,w,b6,hA.zero h0 hZ len mv uM,p2,?_⟩;have lY:m=len:=(by simpa using hm);subst lY;refine .br (sz:=i.size) (ff:=b) (m:=M) HE ((jV (sT b6)).trans (by rw[p1])) uM w9 ?_;rw[<- fU];exact⟨eG,oB⟩
    ··
      have hold : ∃xs:List Value,xs.length=len*i.size/\(∀(j:Nat) u,xs[j]? = some u->w.cell? ((⟨b,0,none⟩:Addr).add j)=some u)/\(∀u∈xs,u.oneCell'=true) /\
       ∀(j:Nat) x u,(ao.es.take len).flatten[j]? = some x->xs[j]? = some u->Rel w (s.ok g aG w) s.bg (s.bn aG) x u:=by
       have Zc:=JN akL.rd 0 len (by omega);simp only[List.drop_zero,Nat.zero_mul,Nat.add_zero] at Zc;obtain⟨xs,x1,x2,an,fZ⟩:=Zc.p8;exact⟨xs,by rw[x1,PW,fU],x2,an,fZ⟩
      obtain⟨xs,x1,x2,an,fZ⟩:=hold;have LF:xs.length=(ao.es.take len).length*i.size:=by rw[PW];exact x1
      have XC : ∀(j:Nat) x u,(ao.es.take len++bw).flatten[j]? = some x->(xs++vs)[j]? = some u->Rel w (s.ok g aG w) s.bg (s.bn aG) x u :=
       fun j x u alR qb=>ae1 LF (fun fl oa=>by rw[g3 fl (List.mem_of_mem_take oa),fU]) alR fZ v4 qb
      have HH:(ao.es.take len++bw).length=m:=(by rw[dE,PW];exact hm.symm);by_cases wP:len+bw.length<=mv
      ·
       rcases oB with rfl|rfl
       ·omega
       rw[Nat.zero_mul] at *;rw[dG] at eG;have ajZ:len*i.size+vs.length<=cO.size:=(by rw[v1,g2,<- eG,fU,<- Nat.add_mul];exact apV _ wP);have kF:=hA.room (by omega) b len mv cO oM g1 wP ajZ (by omega);have ale:(w.setRow b (cO.toList.take (len*i.size)++vs++cO.toList.drop (len*i.size+vs.length)).toArray).heap.size=w.heap.size:=size_setRow _ _ _
       have ZG:xs=cO.toList.take (len*i.size):=by
        apply ap1;intro j;rw[dT];by_cases ay:j<len*i.size
        ·rw[dw ay];have vO:j<xs.length:=(by omega);have:=x2 j _ (dz vO);rw[uu,cell_of_row w b (0+j) cO oM (0,0) g1,dG] at this;rw[dz vO,<- this,Array.getElem?_toList]
        rw[dA ay,dR (by omega)]
       obtain⟨b6,p1,p2⟩:=h.turn ev ap qc ah fV ⟨i.size,ao.es.take len++bw,.live⟩ rfl _ oM (setRow_heap w b cO _ oM _ g1) ale (fun q a1=>setRow_other w b q _ a1) rfl rfl rfl
        (by rw[<- g2];simp;omega) HG (fun j q a1=>by
          have ay:j<(xs++vs).length:=by
           have:j<(ao.es.take len++bw).flatten.length:=by
            rcases Nat.lt_or_ge j (ao.es.take len++bw).flatten.length with c1|c1
            ·exact c1
            rw[dR c1] at a1;simp at a1
           rw[lA _ HG,HH] at this;rw[dE,x1,v1,<- Nat.add_mul,<- hm];exact this
          refine⟨(xs++vs)[j],?_,?_,XC j q _ a1 (dz ay)⟩
          ·rw[List.getElem?_toArray,apY (by rw[<- ZG];exact ay),<- ZG];exact dz ay
          have:=List.getElem_mem ay;rw[List.mem_append] at this;rcases this with c1|c1
          ·exact an _ c1
          exact v3 _ c1)
       refine⟨_,_,b6,kF,p2,?_⟩;rw[<- hm];refine .br (sz:=i.size) (ff:=b) (m:=M) HE ((jV (sT b6)).trans (by rw[p1])) (by omega) w9 ⟨?_,.inr (by simp)⟩;rw[dG,<- fU];exact eG
      ·
       have hA : ∃A8:Addr,(hZ=some A8/\ ∀(j:Nat) u,xs[j]? = some u->w.cell? (A8.add j)=some u)\/(hZ=none/\len=0/\mv=0):=by
        cases hZ with
        | none =>
         refine⟨⟨0,0,none⟩,.inr ⟨rfl,?_⟩⟩;rcases oB with c1|c1
         ·omega
         simp at c1
        | some A8 =>
         refine⟨A8,.inl ⟨rfl,?_⟩⟩;rcases oB with c1|c1
         ·have:len=0:=(by omega);have:xs=[]:=dM.1 (by rw[x1,this];simp);intro j u ay;rw[this] at ay;simp at ay
         simp at c1;subst c1;exact x2
       have ZE:=grownCap_ge w (len+bw.length) mv e;have hle:=grownCap_le_maxLen w (len+bw.length) mv e (by simp only[maxLen];omega);simp only[maxLen] at hle
       have kF:(Builtin.append_ #[t,cI] fG #[.slice hZ len mv,pO]).run P w = .ok (.slice (some ⟨w.heap.size,0,none⟩) (len+bw.length) (grownCap w (len+bw.length) mv e))
        (w.drew.alloc (.cells ((xs++vs).toArray++Builtin.zeroCells fx.cells (grownCap w (len+bw.length) mv e-(len+bw.length))) e)):=by
        have alf:(xs++vs).toArray=xs.toArray++vs.toArray:=(by apply Array.ext';simp);rw[alf];obtain⟨A8,⟨rfl,alS⟩|⟨rfl,pI,oN⟩⟩:=hA
        ·exact hA.grow (by omega) A8 len mv xs x1 alS (by omega) (by omega) (growslice_fits (by omega) (by rw[<- hm];exact vN)) (by omega)
        subst pI;subst oN;have alT:xs=[]:=dM.1 (by rw[x1];simp);subst alT;have:=hA.nil (by omega) (by omega) (by omega);simpa using this
       obtain⟨b6,q1,q2⟩:=Nt (e:=e) (i:=i) (m:=m) (p8:=xs++vs) (xq:=Builtin.zeroCells fx.cells (grownCap w (len+bw.length) mv e-(len+bw.length))) (cap:=grownCap w (len+bw.length) mv e) h fV HG HH.symm
        (by rw[dE,x1,v1,HH,hm,Nat.add_mul]) (fun u hu=>by
          rw[List.mem_append] at hu;rcases hu with c1|c1
          ·exact an _ c1
          exact v3 _ c1) (by rw[size_zeroCells,nU,hm]) (by omega) (by omega) XC rfl
       have qd:(s.setRow ba [⟨i.size,ao.es.take len++bw,.live⟩]).ao r k=some ao:=(by rw[nI,dA (Ne.symm di)];exact ap);obtain⟨v7,IV⟩:=q1.gone vB qd;refine⟨.slice (some ⟨w.heap.size,0,none⟩) m (grownCap w (len+bw.length) mv e),_,b6,?_,v7,IV _ _ q2⟩;rw[hm];exact kF
  simp at aC
 exact absurd trivial ajY
end
end
section
variable {P:Program} {g:G} {s:S} {aG:gE} {a:Act} {w:World}
theorem GM {sz:Nat}: ∀ {es:List (List aF)},(∀e∈es,e.length=sz)->es.flatten.length=es.length*sz
 | [],_=>by simp
 | e::es,h=>by rw[apZ,dE,GM fun x U=>h x (by simp[U]),h e (by simp),dI,Nat.add_mul];omega
theorem dh.putAt (h:dh g s aG a w){r k p b M:Nat}{row:List aS}{ao:aS}(aj:s.a8 r=some row)(ap:s.ao r k=some ao)(a2:ao.cL = .live)(nY:aG r k=some (b,M)){bw h4:List (List aF)}{vs:List Value}
 (hlen : ∀x∈bw,x.length=ao.sz) (v1:vs.length=bw.length*ao.sz) (v3 : ∀u∈vs,u.oneCell'=true) (v4 : ∀(j:Nat) x u,bw.flatten[j]? = some x->vs[j]? = some u->Rel w (s.ok g aG w) s.bg (s.bn aG) x u)
 (ah:p+bw.length<=ao.es.length) (q:Nat) (jn:h4=(ao.es.take p++bw++ao.es.drop (p+bw.length)).take q) :
 ∃cO oM,w.heap[b]? = some (.cells cO oM (0,0))/\cO.size=M/\ao.es.length*ao.sz<=M/\p*ao.sz+vs.length<=cO.size /\
  dh g (s.setRow r (row.set k {ao with es:=h4})) aG a (w.setRow b (cO.toList.take (p*ao.sz)++vs++cO.toList.drop (p*ao.sz+vs.length)).toArray) /\
  ∀x v,Rel w (s.ok g aG w) s.bg (s.bn aG) x v->Rel (w.setRow b (cO.toList.take (p*ao.sz)++vs++cO.toList.drop (p*ao.sz+vs.length)).toArray) ((s.setRow r (row.set k {ao with es:=h4})).ok g aG (w.setRow b (cO.toList.take (p*ao.sz)++vs++cO.toList.drop (p*ao.sz+vs.length)).toArray)) (s.setRow r (row.set k {ao with es:=h4})).bg ((s.setRow r (row.set k {ao with es:=h4})).bn aG) x v:=by
 have gv:=h.obj r k ao ap;rw[nY] at gv;obtain⟨cO,oM,g1,g2,g3,g4⟩:=gv;have lA:=GM g3
 have eG:ao.es.length*ao.sz<=M:=by
  rcases Nat.eq_zero_or_pos ao.es.flatten.length with h0|ly
  ·omega
  obtain⟨v,e1,-⟩:=g4 (ao.es.flatten.length-1) _ (dz (by omega));have:=(ap7.1 e1).1;omega
 have hmul:p*ao.sz+bw.length*ao.sz<=ao.es.length*ao.sz:=by rw[<- Nat.add_mul];exact apV _ ah
 have iT:p*ao.sz+vs.length<=cO.size:=by omega
 refine⟨cO,oM,g1,g2,eG,iT,?_⟩
 have alg : ∀e∈ao.es.take p++bw++ao.es.drop (p+bw.length),e.length=ao.sz:=by
  intro e he;simp only[List.mem_append] at he;rcases he with (he|he)|he
  ·exact g3 e (List.mem_of_mem_take he)
  ·exact hlen e he
  exact g3 e (List.mem_of_mem_drop he)
 have hA:(ao.es.take p).flatten.length=p*ao.sz:=by rw[GM fun e he=>g3 e (List.mem_of_mem_take he),List.length_take];congr 1;omega
 have gN:(ao.es.take (p+bw.length)).flatten.length=p*ao.sz+bw.length*ao.sz:=by rw[GM fun e he=>g3 e (List.mem_of_mem_take he),List.length_take,<- Nat.add_mul];congr 1;omega
 have anl:bw.flatten.length=bw.length*ao.sz:=GM hlen
 have h1 : ∀j,j<p*ao.sz->(ao.es.take p).flatten[j]? = ao.es.flatten[j]? := fun j ay=>by
  conv=>rhs;rw[<- List.take_append_drop p ao.es,List.flatten_append,apY (by omega)]
 have h2 : ∀j,(ao.es.drop (p+bw.length)).flatten[j]? = ao.es.flatten[p*ao.sz+bw.length*ao.sz+j]? := fun j=>by
  conv=>rhs;rw[<- List.take_append_drop (p+bw.length) ao.es,List.flatten_append,ap0 (by omega),gN]
  congr 1;omega
 refine h.write aj ap a2 nY h4 _ oM (setRow_heap w b cO _ oM _ g1) (size_setRow _ _ _) (fun q a1=>setRow_other w b q _ a1) rfl rfl rfl (by rw[<- g2];simp;omega) ?_ ?_
 ·intro e he;rw[jn] at he;exact alg e (List.mem_of_mem_take he)
 intro j x U
 have eT:(ao.es.take p++bw++ao.es.drop (p+bw.length)).flatten[j]? = some x:=by
  rw[jn] at U;have ay:=(apX.1 U).1
  conv=>lhs;rw[<- List.take_append_drop q (ao.es.take p++bw++ao.es.drop (p+bw.length)),List.flatten_append,apY ay]
  exact U
 rw[List.flatten_append,List.flatten_append] at eT;simp only[List.getElem?_toArray];have jJ:(cO.toList.take (p*ao.sz)).length=p*ao.sz:=by rw[List.length_take,Array.length_toList];omega
 by_cases bf:j<p*ao.sz
 ·rw[List.append_assoc,apY (by omega),h1 j bf] at eT;obtain⟨v,e1,e2,bG⟩:=g4 j x eT;refine⟨v,?_,e2,bG⟩;rw[List.append_assoc,apY (by omega),dT,dw bf,Array.getElem?_toList];exact e1
 by_cases cx:j<p*ao.sz+vs.length
 ·rw[List.append_assoc,ap0 (by omega),hA,apY (by omega)] at eT;have bh:j-p*ao.sz<vs.length:=(by omega);refine⟨vs[j-p*ao.sz],?_,v3 _ (List.getElem_mem bh),v4 _ _ _ eT (dz bh)⟩;rw[List.append_assoc,ap0 (by omega),jJ,apY (by omega)];exact dz bh
 rw[ap0 (by rw[dE];omega),dE,hA,anl,h2] at eT;rw[show p*ao.sz+bw.length*ao.sz+(j-(p*ao.sz+bw.length*ao.sz))=j by omega] at eT;obtain⟨v,e1,e2,bG⟩:=g4 j x eT;refine⟨v,?_,e2,bG⟩;rw[ap0 (by rw[dE];omega),dE,jJ,ap5,Array.getElem?_toList];rw[show p*ao.sz+vs.length+(j-(p*ao.sz+vs.length))=j by omega];exact e1
end
section
variable {P:Program} {g:G} {s:S} {aG:gE} {a:Act} {w:World} {ba:Nat} {bK:jv}
theorem ajh (h:dh g s aG a w){x y:aF}{u7 pO:Value}{t cI fG:TypeId}(aC:qa P s.E s.a8 ba .append [x,y] [t,cI] .eb=some bK)(cW:∀p∈bK.gz,p)
 (U:Rel w (s.ok g aG w) s.bg (s.bn aG) x u7) (aV:Rel w (s.ok g aG w) s.bg (s.bn aG) y pO) :
 ∃v bZ,(Builtin.append_ #[t,cI] fG #[u7,pO]).run P w = .ok v bZ/\dh g (s.jQ bK.hj) aG a bZ/\Rel bZ ((s.jQ bK.hj).ok g aG bZ) (s.jQ bK.hj).bg ((s.jQ bK.hj).bn aG) bK.val v:=by
 simp only[qa] at aC;split at aC
 ·simp at aC
 rename_i e he;have hu:=vq he;split at aC;rotate_left
 ·simp at aC
 rename_i i z aa cB;split at aC
 ·simp at aC
 rename_i a0;simp only[not_or,Decidable.not_not] at a0;obtain⟨pH,ly,Ev⟩:=a0;split at aC
 ·simp at aC
 rename_i bw bX uK;split at aC;rotate_left
 ·simp at aC
 rename_i r k len;split at aC
 ·simp at aC
 rename_i row ev;split at aC
 ·simp at aC
 rename_i ao bt;split at aC;rotate_left
 ·simp at aC
 rename_i AE;obtain⟨qc,fU⟩:=AE;simp only[dB] at aC;subst aC;have ap:s.ao r k=some ao:=by unfold S.ao;rw[ev];exact bt
 have iT:len+bw.length<=ao.es.length:=cW _ (by simp);have vN:bw.length*i.bytes<=140737488355328:=cW _ (by simp);obtain⟨fx,vs,mH,nU,hA,hlen,v1,v3,v4⟩:=Wo (fG:=fG) h hu aa cB pH ly uK (fun p ah=>cW p (by simp[ah])) aV;rw[<- fU] at v1;have YN : ∀x∈bw,x.length=ao.sz:=fun x U=>by rw[hlen x U,fU]
 have jn:ao.es.take len++bw=(ao.es.take len++bw++ao.es.drop (len+bw.length)).take (len+bw.length) :=
  (List.take_left' (by rw[dE,List.length_take];omega)).symm
 rcases U.zI (jV ap) with ⟨ah,-,rfl,rfl⟩|⟨b,M,hZ,mv,ah,rfl,uM,w9,eG,oB⟩
 ·have gv:=h.obj r k ao ap
  rw[ah] at gv;simp only[kS] at gv;rw[gv] at iT;have h0:bw.length=0:=(by simp at iT;exact dM.2 iT);have AF:bw=[]:=dM.1 h0;subst AF
  have ns:row.set k {ao with es:=ao.es.take 0++[]}=row:=by
   have h1:({ao with es:=ao.es.take 0++[]}:aS)=ao:=(by cases ao;simp only[] at gv;subst gv;rfl);rw[h1]
   have h2:row[k]? = some ao:=by
    unfold d8 at bt;simp only at bt;split at bt
    ·rename_i cp e6
     split at bt
     ·simp at bt
     simp at bt;rw[<- bt];exact e6
    simp at bt
   exact ap1 fun j=>by
    rw[apT];split
    ·rename_i e;subst e;have:=(apX.1 h2).1;rw[dw this,h2]
    rfl
  refine⟨_,w,hA.zero h0 none 0 0 (dD _),?_⟩
  have e8:s.setRow r row=s:=by
   have:(fun q=>if q=r then some row else s.a8 q)=s.a8:=by
    funext q;split
    ·rename_i e;rw[e,ev]
    rfl
   show ({s with a8:=_}:S)=s;rw[this]
  show dh g (s.setRow r (row.set k {ao with es:=ao.es.take 0++[]})) aG a w/\Rel w ((s.setRow r (row.set k {ao with es:=ao.es.take 0++[]})).ok g aG w) (s.setRow r (row.set k {ao with es:=ao.es.take 0++[]})).bg ((s.setRow r (row.set k {ao with es:=ao.es.take 0++[]})).bn aG) (.br r k 0 0) (.slice none 0 0);rw[ns,e8];exact⟨h,U⟩
 obtain⟨cO,oM,bf,cx,kO,ta,q3,xr⟩:=h.putAt ev ap qc ah YN v1 v3 v4 iT (len+bw.length) jn;have hle:ao.es.length<=mv:=by rw[dG] at eG;rw[<- eG] at kO;exact Nat.le_of_mul_le_mul_right kO (by omega)
 by_cases oN:mv=0
 ·have h0:bw.length=0:=(by omega);have pI:len=0:=(by omega);subst pI;have AF:bw=[]:=dM.1 h0;subst AF;have PX:vs=[]:=dM.1 (by simpa using v1);subst PX;have hw:w.setRow b (cO.toList.take (0*ao.sz)++[]++cO.toList.drop (0*ao.sz+0)).toArray=w:=(by simp only[Nat.zero_mul,List.take_zero,List.nil_append,dG,List.drop_zero,Array.toArray_toList];exact setRow_self w b cO oM (0,0) bf);simp only[dQ] at q3 xr;rw[hw] at q3 xr;exact⟨_,w,hA.zero h0 hZ 0 mv (Nat.zero_le _),q3,xr _ _ U⟩
 have H3:hZ=some ⟨b,0,none⟩:=by
  rcases oB with c1|c1
  ·exact absurd c1 oN
  simpa using c1
 subst H3;by_cases h0:bw.length=0
 ·have AF:bw=[]:=dM.1 h0;subst AF;have PX:vs=[]:=dM.1 (by simpa using v1);subst PX;have hw:w.setRow b (cO.toList.take (len*ao.sz)++[]++cO.toList.drop (len*ao.sz+0)).toArray=w:=(by simp only[List.append_nil,Nat.add_zero,List.take_append_drop,Array.toArray_toList];exact setRow_self w b cO oM (0,0) bf);simp only[dQ] at q3 xr;rw[hw] at q3 xr;exact⟨_,w,hA.zero h0 _ len mv uM,q3,xr _ _ U⟩
 have kF:=hA.room (by omega) b len mv cO oM bf (by omega) (by rw[<- fU];exact ta) vN;rw[<- fU] at kF;refine⟨_,_,kF,q3,?_⟩;have Hz:(s.setRow r (row.set k {ao with es:=ao.es.take len++bw})).ao r k=some {ao with es:=ao.es.take len++bw}:=by rw[nI,dw rfl,WX row k ao _ bt (by simp[qc]),dw rfl]
 show Rel _ ((s.setRow r (row.set k {ao with es:=ao.es.take len++bw})).ok g aG _) (s.setRow r (row.set k {ao with es:=ao.es.take len++bw})).bg ((s.setRow r (row.set k {ao with es:=ao.es.take len++bw})).bn aG) (.br r k 0 (len+bw.length)) _;refine .br (sz:=ao.sz) (ff:=b) (m:=M) (Kd Hz) ((jV Hz).trans (by rw[ah])) (by omega) w9 ⟨eG,.inr (by simp)⟩
end
section
variable {P:Program} {g:G} {s:S} {aG:gE} {a:Act} {w:World} {ba:Nat} {bK:jv}
theorem Vq {s:S}{r k:Nat}{row:List aS}{ao:aS}(aj:s.a8 r=some row)(ap:d8 (some row) k=some ao):s.setRow r (row.set k ao)=s:=by
 have h2:row[k]? = some ao:=by
  unfold d8 at ap;simp only at ap;split at ap
  ·rename_i cp e6
   split at ap
   ·simp at ap
   simp at ap;rw[<- ap];exact e6
  simp at ap
 have J:row.set k ao=row:=ap1 fun j=>by
  rw[apT];split
  ·rename_i e;subst e;have:=(apX.1 h2).1;rw[dw this,h2]
  rfl
 rw[J]
 have:(fun q=>if q=r then some row else s.a8 q)=s.a8:=by
  funext q;split
  ·rename_i e;rw[e,aj]
  rfl
 show ({s with a8:=_}:S)=s;rw[this]
theorem agy {e:TypeId}{i:TypeInfo}{z:List aF}{fx:Value}(nU:fx.cells.size=i.size)(pH:z.length=i.size)(ly:i.size≠0)
 (yn : ∀(j:Nat) x,z[j]? = some x-> ∃v,fx.cells[j]? = some v/\l8 v=true/\ ∀(w:World) (ok:Nat->Prop) (bg:kX) (bn:kL),Rel w ok bg bn x v) (m:Nat) :
 (Builtin.zeroCells fx.cells m).toList.length=m*i.size/\(∀u∈(Builtin.zeroCells fx.cells m).toList,u.oneCell'=true) /\
   ∀(j:Nat) x u,(List.replicate m z).flatten[j]? = some x->(Builtin.zeroCells fx.cells m).toList[j]? = some u-> ∀(w:World) (ok:Nat->Prop) (bg:kX) (bn:kL),Rel w ok bg bn x u:=by
 have ob : ∀(j:Nat) u,(Builtin.zeroCells fx.cells m).toList[j]? = some u->fx.cells[j % i.size]? = some u:=by intro j u qb;have ay:=(apX.1 qb).1;rw[Array.length_toList,size_zeroCells,nU] at ay;have eN:j % i.size<fx.cells.size:=(by rw[nU];exact Nat.mod_lt _ (by omega));rw[Array.getElem?_toList,Builtin.zeroCells,Array.getElem?_map,nU,Array.getElem?_range] at qb;rw[dw ay] at qb;simp only[apR,dB] at qb;rw[<- qb,apU eN,getElem!_pos fx.cells _ eN]
 refine⟨?_,?_,?_⟩
 ·rw[Array.length_toList,size_zeroCells,nU]
 ·intro u uO;obtain⟨j,ay⟩:=ap6 uO;have h1:=ob j u ay;have eN:j % i.size<z.length:=(by rw[pH];exact Nat.mod_lt _ (by omega));obtain⟨v,v1,v2,-⟩:=yn _ _ (dz eN);rw[h1] at v1;obtain rfl:=dJ v1;exact v2
 intro j x u U qb;rw[rS (sz:=i.size) (by omega) _ (fun fl oa=>by rw[List.mem_replicate] at oa;rw[oa.2,pH])] at U;have h1:=ob j u qb
 cases a1:(List.replicate m z)[j / i.size]? with
 | none=>rw[a1] at U;simp at U
 | some fl =>
  have:=dH a1;rw[List.mem_replicate] at this;rw[a1,this.2] at U;simp only[dx] at U;obtain⟨v,v1,-,v3⟩:=yn _ _ U;rw[h1] at v1;obtain rfl:=dJ v1;exact v3
theorem aij (h:dh g s aG a w){r k len:Nat}{y:aF}{u7 pO:Value}{t cI fG:TypeId}{dc:fY}(aC:qa P s.E s.a8 ba .copy [.br r k 0 len,y] [t,cI] dc=some bK)(cW:∀p∈bK.gz,p)
 (U:Rel w (s.ok g aG w) s.bg (s.bn aG) (.br r k 0 len) u7) (aV:Rel w (s.ok g aG w) s.bg (s.bn aG) y pO) :
 ∃n bZ,(Builtin.copy_ #[t,cI] fG #[u7,pO]).run P w = .ok (goInt n) bZ/\dh g (s.jQ bK.hj) aG a bZ/\bK.val = .n .i64 n:=by
 simp only[qa] at aC;split at aC
 ·simp at aC
 rename_i e he;have hu:=vq he;split at aC
 ·simp at aC
 rename_i i aa;split at aC
 ·simp at aC
 rename_i bw bX uK;split at aC
 ·simp at aC
 rename_i row ev;split at aC
 ·simp at aC
 rename_i ao bt;split at aC;rotate_left
 ·simp at aC
 rename_i AE;obtain⟨qc,fU,ly⟩:=AE;simp only[dB] at aC;subst aC;have ap:s.ao r k=some ao:=by unfold S.ao;rw[ev];exact bt
 have iT:bw.length<=len:=cW _ (by simp);have hle:len<=ao.es.length:=cW _ (by simp);obtain⟨A,c,rfl,hlen,PV⟩:=W0 h uK (fun p ah=>cW p (by simp[ah])) aV;show ∃n bZ,_/\dh g (s.setRow r (row.set k {ao with es:=bw++ao.es.drop bw.length})) aG a bZ/\_;by_cases h0:bw.length=0
 ·have AF:bw=[]:=dM.1 h0
  subst AF;refine⟨0,w,?_,?_,rfl⟩
  ·rcases U.zI (jV ap) with ⟨-,-,rfl,rfl⟩|⟨b,M,hZ,mv,-,rfl,-,-,-,-⟩
   ·cases A<;>simp[Builtin.copy_,run_underlying hu,sizeOf,typeInfo,aa,Builtin.lenOf,Builtin.firstCells,loadCells,loadCellsFrom]
   cases A<;>cases hZ<;>simp[Builtin.copy_,run_underlying hu,sizeOf,typeInfo,aa,Builtin.lenOf,Builtin.firstCells,loadCells,loadCellsFrom,storeCells]
  rw[show ({ao with es:=[]++ao.es.drop ([]:List (List aF)).length}:aS)=ao from rfl,Vq ev bt];exact h
 obtain⟨ff,off,rfl,ke⟩:=PV.resolve_left h0;obtain⟨vs,v1,v2,v3,v4⟩:=ke.p8;rw[<- fU] at v1;rcases U.zI (jV ap) with ⟨-,-,rfl,-⟩|⟨b,M,hZ,mv,ah,rfl,uM,w9,eG,oB⟩
 ·exact absurd (Nat.le_zero.1 iT) h0
 have H3:hZ=some ⟨b,0,none⟩:=by
  rcases oB with c1|c1
  ·exact absurd (show bw.length=0 by omega) h0
  simpa using c1
 subst H3
 obtain⟨cO,oM,bf,cx,kO,ta,q3,-⟩:=h.putAt (p:=0) ev ap qc ah (fun x U=>by rw[hlen x U,fU]) v1 v3 v4 (by omega) ao.es.length (h4:=bw++ao.es.drop bw.length)
  (by rw[List.take_zero,List.nil_append,dG];exact(apW (by simp;omega)).symm)
 simp only[Nat.zero_mul,dG,List.take_zero,List.nil_append] at ta q3;have aR:=run_firstCells_some (P:=P) w i.size bw.length ⟨ff,off,none⟩ bw.length c vs (by rw[v1,fU]) v2;have oz:=run_storeCells_at P b 0 oM vs 0 cO w bf (by simpa using ta) v3;simp only[Nat.add_zero,List.take_zero,List.nil_append,dG] at oz;refine⟨bw.length,_,?_,q3,rfl⟩;simp[Builtin.copy_,run_underlying hu,sizeOf,typeInfo,aa,Builtin.lenOf,Nat.min_eq_left iT,aR,oz]
theorem ahi (h:dh g s aG a w){r k len:Nat}{u7:Value}{t fG:TypeId}{dc:fY}(aC:qa P s.E s.a8 ba .clear [.br r k 0 len] [t] dc=some bK)(cW:∀p∈bK.gz,p)
 (U:Rel w (s.ok g aG w) s.bg (s.bn aG) (.br r k 0 len) u7) :
 ∃bZ,(Builtin.clear_ #[t] fG #[u7]).run P w = .ok (.tuple #[]) bZ/\dh g (s.jQ bK.hj) aG a bZ/\bK.val = .dd []:=by
 simp only[qa] at aC;split at aC
 ·simp at aC
 rename_i e he;have hu:=vq he;split at aC;rotate_left
 ·simp at aC
 rename_i i z aa cB;split at aC
 ·simp at aC
 rename_i row ev;split at aC
 ·simp at aC
 rename_i ao bt;split at aC;rotate_left
 ·simp at aC
 rename_i AE;obtain⟨qc,fU,pH,ly⟩:=AE;simp only[dB] at aC;subst aC;have ap:s.ao r k=some ao:=by unfold S.ao;rw[ev];exact bt
 have hle:ao.es.length=len:=cW _ (by simp);show ∃bZ,_/\dh g (s.setRow r (row.set k {ao with es:=List.replicate len z})) aG a bZ/\_;by_cases h0:len=0
 ·subst h0
  refine⟨w,?_,?_,rfl⟩
  ·rcases U.zI (jV ap) with ⟨-,-,-,rfl⟩|⟨b,M,hZ,mv,-,rfl,-,-,-,-⟩
   ·simp[Builtin.clear_,run_underlying hu]
   cases hZ<;>simp[Builtin.clear_,run_underlying hu]
  rw[show ({ao with es:=List.replicate 0 z}:aS)=ao by rw[List.replicate_zero,<- dM.1 hle],Vq ev bt];exact h
 obtain⟨fA,fx,kH,mH,s9,yn⟩:=Gy cB;rw[aa] at kH;simp at kH;subst kH;have nU:fx.cells.size=i.size:=by rw[<- pH,s9];simp
 rcases U.zI (jV ap) with ⟨-,-,rfl,-⟩|⟨b,M,hZ,mv,ah,rfl,uM,w9,eG,oB⟩
 ·exact absurd rfl h0
 have H3:hZ=some ⟨b,0,none⟩:=by
  rcases oB with c1|c1
  ·exact absurd (show len=0 by omega) h0
  simpa using c1
 subst H3;obtain⟨v1,v3,v4⟩:=agy (e:=e) nU pH ly yn len;rw[<- fU] at v1
 obtain⟨cO,oM,bf,cx,kO,ta,q3,-⟩:=h.putAt (p:=0) (bw:=List.replicate len z) ev ap qc ah (fun x U=>by rw[List.mem_replicate] at U;rw[U.2,pH,fU]) (by simpa using v1) v3 (fun j x u h1 h2=>v4 j x u h1 h2 _ _ _ _)
  (by simp;omega) len (h4:=List.replicate len z)
  (by simp[hle])
 simp only[Nat.zero_mul,dG,List.take_zero,List.nil_append] at ta q3;have oz:=run_storeCells_at P b 0 oM (Builtin.zeroCells fx.cells len).toList 0 cO w bf (by simpa using ta) v3;simp only[Nat.add_zero,List.take_zero,List.nil_append,dG] at oz;refine⟨_,?_,q3,rfl⟩
 cases len with
 | zero=>exact absurd rfl h0
 | succ n=>simp[Builtin.clear_,run_underlying hu,zeroValue,typeInfo,aa,mH,oz]
end
section
variable {g:G} {s:S} {aG:gE} {a:Act} {w:World}
def n6 (row:List aS):List aS:=row.map fun o=>if o.cL = .live then {o with cL:= .ky} else o
theorem W1 (row:List aS)(k:Nat):d8 (some (n6 row)) k=(d8 (some row) k).map fun o=>if o.cL = .live then {o with cL:= .ky} else o:=by
 simp only[d8,n6,dK]
 cases row[k]? with
 | none=>rfl
 | some o =>
  obtain⟨sz,es,cL⟩:=o;cases cL<;>simp
theorem dh.freeze (h:dh g s aG a w){r:Nat}{row:List aS}(aj:s.a8 r=some row):dh g (s.setRow r (n6 row)) aG a w:=by
 have bt : ∀q k o,(s.setRow r (n6 row)).ao q k=some o-> ∃p,s.ao q k=some p/\o.sz=p.sz/\o.es=p.es/\(o.cL = .live->p.cL = .live/\q≠r):=by
  intro q k o ap;by_cases e:q=r
  ·subst e;have:(s.setRow q (n6 row)).a8 q=some (n6 row):=(by simp[S.setRow]);unfold S.ao at ap;rw[this,W1] at ap;rw[dP] at ap;obtain⟨p,ah,rfl⟩:=ap;refine⟨p,by unfold S.ao;rw[aj];exact ah,?_⟩;split<;>simp_all
  have:(s.setRow r (n6 row)).a8 q=s.a8 q:=(by simp[S.setRow,e]);unfold S.ao at ap;rw[this] at ap;exact⟨o,ap,rfl,rfl,fun aR=>⟨aR,e⟩⟩
 have k5 : ∀q k,s.bg q k->(s.setRow r (n6 row)).bg q k:=JM s aj (by simp[n6])
 have nt : ∀q k,(s.setRow r (n6 row)).bn aG q k=s.bn aG q k:=by
  intro q k;by_cases e:q=r
  ·subst e
   simp only[S.bn,S.ao];have:(s.setRow q (n6 row)).a8 q=some (n6 row):=(by simp[S.setRow]);rw[this,W1,aj]
   cases d8 (some row) k with
   | none=>rfl
   | some o=>simp only[apR,dB,dF,and_true];split<;>rfl
  have:(s.setRow r (n6 row)).a8 q=s.a8 q:=(by simp[S.setRow,e]);simp[S.bn,S.ao,this]
 have da:Step g s aG w (s.setRow r (n6 row)) aG w:=⟨k5,fun q k _=> .inl (nt q k),fun b aR=>by obtain⟨q,k,o,m,h1,h2,J⟩:=aR;obtain⟨p,p1,p2,v7,IV⟩:=bt q k o h1;exact .inl ⟨q,k,p,m,p1,(IV h2).1,J⟩,fun _ _ _=>rfl,dD _⟩;refine {tojX:=⟨?_,?_,?_,h.iC,h.mlt,h.pE,?_,h.low⟩,env:=fun t=>da.rel (h.env t),defers:=h.defers,lz:=h.lz}
 ·intro q k o ap
  obtain⟨p,p1,p2,v7,-⟩:=bt q k o ap;have ah:=da.obj (fun b m _=>rfl) (h.obj q k p p1)
  cases nY:aG q k with
  | none=>rw[nY] at ah;simp only[kS] at ah ⊢;rw[v7];exact ah
  | some x =>
   obtain⟨b,m⟩:=x;rw[nY] at ah;obtain⟨c,fG,e1,e2,bG,cM⟩:=ah;exact⟨c,fG,e1,e2,by rw[p2,v7];exact bG,by rw[v7];exact cM⟩
 ·intro q k o jw ea cp b m aH h1 h2 J ak;obtain⟨p,p1,-⟩:=bt q k o h1;obtain⟨mf,alU,-⟩:=bt jw ea cp h2;exact h.inj q k p jw ea mf b m aH p1 alU J ak
 ·intro q k o b m h1 h2;obtain⟨p,p1,-⟩:=bt q k o h1;exact h.own q k p b m p1 h2
 intro j k ay;obtain⟨e1,e2⟩:=h.stay j k ay;exact⟨k5 j k e1,by rw[nt];exact e2⟩
end
def D3 (P:Program)(t:TypeId):Bool :=
 match P.underlying t with
 | some (.pointer _)=>true
 | _=>false
def EC (P:Program)(E:Nat->aF)(a8:Nat->Option (List aS))(ba:Nat)(o:Oper)(dc:fY):Option jv :=
 match o.op with
 | .call {callee:= .builtin b,args,argTypes}=>match b with
  | .len=>fR P E a8 ba o dc
  | b=>qa P E a8 ba b (args.toList.map (fN E)) argTypes.toList dc
 | .binOp op t x y _=>match dc,op,fN E x,fN E y with
  | .eb,.eql,.isl _ es,.fg=>if (sH P t).isSome then some {val:= .b false,gz:=[es≠[]]} else none
  | .eb,.neq,.isl _ es,.fg=>if (sH P t).isSome then some {val:= .b true,gz:=[es≠[]]} else none
  | .eb,.eql,.f8 _ none,.ka=>if D3 P t then some {val:= .b true} else none
  | .eb,.neq,.f8 _ none,.ka=>if D3 P t then some {val:= .b false} else none
  | .eb,.eql,.f8 _ (some _),.ka=>if D3 P t then some {val:= .b false} else none
  | .eb,.neq,.f8 _ (some _),.ka=>if D3 P t then some {val:= .b true} else none
  | .eb,_,_,_=>none
  | _,_,_,_=>fR P E a8 ba o dc
 | .nilCheck x=>match dc,fN E x with
  | .eb,.f8 sz (some c)=>some {val:= .fX sz [c] 0 0}
  | .eb,_=>none
  | _,_=>fR P E a8 ba o dc
 | _=>fR P E a8 ba o dc
section
variable {P:Program} {g:G} {s:S} {aG:gE} {a:Act} {w:World} {o:Oper} {dc:fY} {ba:Nat} {bK:jv}
theorem Kw {args:Array Operand}{E:Nat->aF}{x y:aF}(h:args.toList.map (fN E)=[x,y]): ∃p q,args = #[p,q]/\fN E p=x/\fN E q=y:=by
 obtain⟨l⟩:=args
 match l,h with
 | [p,q],h=>simp at h;exact⟨p,q,rfl,h.1,h.2⟩
theorem aji {args:Array Operand}{E:Nat->aF}{x:aF}(h:args.toList.map (fN E)=[x]): ∃p,args = #[p]/\fN E p=x:=by
 obtain⟨l⟩:=args
 match l,h with
 | [p],h=>simp at h;exact⟨p,rfl,h⟩
theorem J4 {t:TypeId}(h:D3 P t=true): ∃e,P.underlying t=some (.pointer e):=by
 unfold D3 at h;split at h
 ·rename_i e he;exact⟨e,he⟩
 simp at h
theorem ahj (h:dh g s aG a w)(fV:s.a8 ba=none)(aC:EC P s.E s.a8 ba o dc=some bK)(cW:∀p∈bK.gz,p):Fin P g s a w o bK:=by
 unfold EC at aC;split at aC
 ·rename_i b args o7 ap
  split at aC
  ·exact J3 h fV aC cW
  rename_i b a3;unfold qa at aC;split at aC
  ·rename_i x y t cI m QP hargs qF;have Ad:qa P s.E s.a8 ba .append [x,y] [t,cI] (.aB m QP)=some bK:=aC;obtain⟨p,q,rfl,rfl,rfl⟩:=Kw hargs;obtain⟨l⟩:=o7;simp only at qF;subst qF;obtain⟨v,bZ,b6,h1,h2,J⟩:=agx (fG:=o.type) h fV Ad cW (h.eval p) (h.eval q);exact⟨v,bZ,b6,.inl (by simp[execOp,ap,resolve,invoke,builtin,h1]),h2,J⟩
  ·rename_i x y t cI hargs qF;have Ad:qa P s.E s.a8 ba .append [x,y] [t,cI] .eb=some bK:=aC;obtain⟨p,q,rfl,rfl,rfl⟩:=Kw hargs;obtain⟨l⟩:=o7;simp only at qF;subst qF;obtain⟨v,bZ,h1,h2,J⟩:=ajh (fG:=o.type) h Ad cW (h.eval p) (h.eval q);exact⟨v,bZ,aG,.inl (by simp[execOp,ap,resolve,invoke,builtin,h1]),h2,J⟩
  ·rename_i dc r k len y t cI hargs qF;have Ad:qa P s.E s.a8 ba .copy [.br r k 0 len,y] [t,cI] dc=some bK:=aC;obtain⟨p,q,rfl,ah,rfl⟩:=Kw hargs;obtain⟨l⟩:=o7;simp only at qF;subst qF;have U:=h.eval p;rw[ah] at U;obtain⟨n,bZ,h1,h2,J⟩:=aij (fG:=o.type) h Ad cW U (h.eval q);refine⟨goInt n,bZ,aG,.inl (by simp[execOp,ap,resolve,invoke,builtin,h1]),h2,?_⟩;rw[J];exact .n _ _
  ·rename_i dc r k len t hargs qF;have Ad:qa P s.E s.a8 ba .clear [.br r k 0 len] [t] dc=some bK:=aC;obtain⟨p,rfl,ah⟩:=aji hargs;obtain⟨l⟩:=o7;simp only at qF;subst qF;have U:=h.eval p;rw[ah] at U;obtain⟨bZ,h1,h2,J⟩:=ahi (fG:=o.type) h Ad cW U;refine⟨.tuple #[],bZ,aG,.inl (by simp[execOp,ap,resolve,invoke,builtin,h1]),h2,?_⟩;rw[J];exact .dd [] rfl (fun j x u ay=>by simp at ay)
  ·rename_i k x ea y hargs
   split at aC
   ·rename_i a2;simp only[dB] at aC;subst aC;subst a2;obtain⟨p,q,rfl,ah,a1⟩:=Kw hargs;have U:=h.eval p;have aV:=h.eval q;rw[ah] at U;rw[a1] at aV;refine jO (v:= .int k (if y<x then y else x)) h ?_ rfl (.n _ _);simp[execOp,ap,resolve,invoke,builtin,Builtin.min_,U.qB,aV.qB,Builtin.min2]
   simp at aC
  simp at aC
 ·rename_i op t x y cI ap
  split at aC
  ·rename_i sz es U aV
   split at aC
   ·rename_i he;obtain⟨e,he⟩:=Option.isSome_iff_exists.1 he;simp only[dB] at aC;subst aC;have h1:=h.eval x;have h2:=h.eval y;rw[U] at h1;rw[aV] at h2;have di:es≠[]:=cW _ (by simp);refine jO (v:= .bool false) h ?_ rfl (.b _);simp only[execOp,ap];rw[Sem.run_bind,(Yd (w:=w) (vq he) di h1 h2 x y).1];rfl
   simp at aC
  ·rename_i sz es U aV
   split at aC
   ·rename_i he;obtain⟨e,he⟩:=Option.isSome_iff_exists.1 he;simp only[dB] at aC;subst aC;have h1:=h.eval x;have h2:=h.eval y;rw[U] at h1;rw[aV] at h2;have di:es≠[]:=cW _ (by simp);refine jO (v:= .bool true) h ?_ rfl (.b _);simp only[execOp,ap];rw[Sem.run_bind,(Yd (w:=w) (vq he) di h1 h2 x y).2];rfl
   simp at aC
  ·rename_i sz U aV
   split at aC
   ·rename_i cl;obtain⟨e,he⟩:=J4 cl;simp only[dB] at aC;subst aC;have h1:=h.eval x;have h2:=h.eval y;rw[U] at h1;rw[aV] at h2;have tS:Rel w (s.ok g aG w) s.bg (s.bn aG) .ka (a.eval x):=(by rw[h1.WY];exact .ka);refine jO (v:= .bool true) h ?_ rfl (.b _);simp only[execOp,ap];rw[Sem.run_bind,(DK (w:=w) (r:=true) (by simp[vL,he]) tS h2 x y).1];rfl
   simp at aC
  ·rename_i sz U aV
   split at aC
   ·rename_i cl;obtain⟨e,he⟩:=J4 cl;simp only[dB] at aC;subst aC;have h1:=h.eval x;have h2:=h.eval y;rw[U] at h1;rw[aV] at h2;have tS:Rel w (s.ok g aG w) s.bg (s.bn aG) .ka (a.eval x):=(by rw[h1.WY];exact .ka);refine jO (v:= .bool false) h ?_ rfl (.b _);simp only[execOp,ap];rw[Sem.run_bind,(DK (w:=w) (r:=true) (by simp[vL,he]) tS h2 x y).2];rfl
   simp at aC
  ·rename_i sz c U aV
   split at aC
   ·rename_i cl;obtain⟨e,he⟩:=J4 cl;simp only[dB] at aC;subst aC;have h1:=h.eval x;have h2:=h.eval y;rw[U] at h1;rw[aV] at h2;refine jO (v:= .bool false) h ?_ rfl (.b _);simp only[execOp,ap];rw[Sem.run_bind,(DK (w:=w) (r:=false) (by simp[vL,he]) h1.Oi h2 x y).1];rfl
   simp at aC
  ·rename_i sz c U aV
   split at aC
   ·rename_i cl;obtain⟨e,he⟩:=J4 cl;simp only[dB] at aC;subst aC;have h1:=h.eval x;have h2:=h.eval y;rw[U] at h1;rw[aV] at h2;refine jO (v:= .bool true) h ?_ rfl (.b _);simp only[execOp,ap];rw[Sem.run_bind,(DK (w:=w) (r:=false) (by simp[vL,he]) h1.Oi h2 x y).2];rfl
   simp at aC
  ·simp at aC
  exact J3 h fV aC cW
 ·rename_i x ap
  split at aC
  ·rename_i sz c U;simp only[dB] at aC;subst aC;have h1:=h.eval x;rw[U] at h1;have h2:=h1.Oi;obtain⟨ff,off,a3,hval,ke⟩:=h2.DS;refine jO (v:=a.eval x) h ?_ rfl h2;rw[hval];simp only[execOp,ap,hval];rfl
  ·simp at aC
  exact J3 h fV aC cW
 exact J3 h fV aC cW
end
theorem wk {es:List (List aF)}{j:Nat}{x:aF}(h:es.flatten[j]? = some x): ∃e∈es,x∈e:=by have:=dH h;rw[List.mem_flatten] at this;obtain⟨e,he,U⟩:=this;exact⟨e,he,U⟩
theorem Rel.pure {w:World}{ok mV:Nat->Prop}{bg o6:kX}{bn ox:kL}{x:aF}{v:Value}(h:Rel w ok bg bn x v)(ah:Pure x)(mb:∀b,ok b->mV b):Rel w mV o6 ox x v:=by
 induction h with
 | dead v=>exact .dead v
 | b x=>exact .b x
 | n k x=>exact .n k x
 | s x=>exact .s x
 | ka=>exact .ka
 | fg=>exact .fg
 | kd a c=>exact .kd a c
 | sy=>cases ah
 | ref=>cases ah
 | pu=>cases ah
 | pT=>cases ah
 | br=>cases ah
 | o0=>cases ah
 | p7=>cases ah
 | kk sz a c h=>exact .kk sz a c h
 | isl cs a3 nb aR a0 hw jJ aj ih =>
  cases ah with
  | isl h=>exact .isl cs (mb _ a3) nb aR a0 hw jJ fun j x U=>ih j x U (by obtain⟨e,he,tT⟩:=wk U;exact h e he x tT)
 | fX cs a3 nb aR hw jJ aj ih =>
  cases ah with
  | fX h=>exact .fX cs (mb _ a3) nb aR hw jJ fun j x U=>ih j x U (by obtain⟨e,he,tT⟩:=wk U;exact h e he x tT)
 | r9 sz=>exact .r9 sz
 | rq h ih =>
  cases ah with
  | rq ah=>exact .rq (ih (.fX fun e he x U=>by rw[List.mem_singleton] at he;subst he;exact ah x U))
 | agg vs aR jJ aj ih =>
  cases ah with
  | agg h=>exact .agg vs aR jJ fun j x v U bh=>ih j x v U bh (h x (dH U))
 | dd vs aR aj ih =>
  cases ah with
  | dd h=>exact .dd vs aR fun j x v U bh=>ih j x v U bh (h x (dH U))
 | fn vs aR aj ih =>
  cases ah with
  | fn h=>exact .fn vs aR fun j x v U bh=>ih j x v U bh (h x (dH U))
abbrev iq:=Nat->Nat->Option (Nat×Nat)
structure Down (q:aF->Prop):Prop where
 agg : ∀c x,q (.agg c)->x∈c->q x
 dd : ∀c x,q (.dd c)->x∈c->q x
 fn : ∀f c x,q (.fn f c)->x∈c->q x
inductive jz (s:S) (a4:iq) (bJ:hr->Bool) (q:aF->Prop):aF->aF->Prop
 | dead (x:aF):jz s a4 bJ q x .dead
 | pure {x:aF} (h:Pure x) (a1:q x):jz s a4 bJ q x x
 | fg (sz:Nat):jz s a4 bJ q .fg (.isl sz [])
 | kd (sz:Nat):jz s a4 bJ q .kd (.isl sz [])
 | K3 (sz:Nat):jz s a4 bJ q .ka (.f8 sz none)
 | f8 {sz:Nat} {x:aF} {c:List aF} (h:jz s a4 bJ q x (.fX sz [c] 0 0)):jz s a4 bJ q x (.f8 sz (some c))
 | ref {r k j fA:Nat} (i off:Nat) (h:a4 j fA=some (r,k)) (hu:s.bg r k):jz s a4 bJ q (.ref r k i off) (.ref j fA i off)
 | br {r k j fA:Nat} (cb len:Nat) (h:a4 j fA=some (r,k)) (hu:s.bg r k):jz s a4 bJ q (.br r k cb len) (.br j fA cb len)
 | o0 (r c sz:Nat):jz s a4 bJ q (.kx r c sz none) (.isl sz [])
 | p7 {r c sz k n:Nat} {de:aF} (h:jz s a4 bJ q (.br r (k+c) 0 n) de):jz s a4 bJ q (.kx r c sz (some (k,n))) de
 | kx {r fH c ez sz:Nat} (h:Option (Nat×Nat)) (hm : ∀k,a4 fH (k+ez)=some (r,k+c)):jz s a4 bJ q (.kx r c sz h) (.kx fH ez sz h)
 | fX {r k:Nat} {o:aS} {h4:List (List aF)} (i off:Nat) (ap:s.ao r k=some o) (bF:bJ o.cL=true) (aj:(∀j i,a4 j i≠some (r,k))) (di:o.es≠[]) (ah:j6 h4) (hle : ∀e∈h4,e.length=o.sz) (aR:h4.length=o.es.length)
  (h : ∀(j:Nat) x de,o.es.flatten[j]? = some x->h4.flatten[j]? = some de->jz s a4 bJ q x de):jz s a4 bJ q (.ref r k i off) (.fX o.sz h4 i off)
 | isl {r k cb len:Nat} {o:aS} {h4:List (List aF)} (ap:s.ao r k=some o) (bF:bJ o.cL=true) (aj:(∀j i,a4 j i≠some (r,k))) (iT:cb+len<=o.es.length) (ah:j6 h4) (hle : ∀e∈h4,e.length=o.sz) (aR:h4.length=len)
  (h : ∀(j:Nat) x de,((o.es.drop cb).take len).flatten[j]? = some x->h4.flatten[j]? = some de->jz s a4 bJ q x de):jz s a4 bJ q (.br r k cb len) (.isl o.sz h4)
 | agg {c ez:List aF} (aR:ez.length=c.length) (h : ∀(j:Nat) x de,c[j]? = some x->ez[j]? = some de->jz s a4 bJ q x de):jz s a4 bJ q (.agg c) (.agg ez)
 | dd {c ez:List aF} (aR:ez.length=c.length) (h : ∀(j:Nat) x de,c[j]? = some x->ez[j]? = some de->jz s a4 bJ q x de):jz s a4 bJ q (.dd c) (.dd ez)
 | fn {f:Nat} {c ez:List aF} (aR:ez.length=c.length) (h : ∀(j:Nat) x de,c[j]? = some x->ez[j]? = some de->jz s a4 bJ q x de):jz s a4 bJ q (.fn f c) (.fn f ez)
theorem vh {sz:Nat}: ∀(es:List (List aF)),(∀e∈es,e.length=sz)->es.flatten.length=es.length*sz
 | [],_=>by simp
 | e::es,h=>by rw[apZ,dE,vh es fun x U=>h x (by simp[U]),h e (by simp),dI,Nat.add_mul];omega
theorem f6 {α:Type}{l:List α}{j:Nat}{x:α}(h:l[j]? = some x):j<l.length:=by
 rcases Nat.lt_or_ge j l.length with c1|c1
 ·exact c1
 rw[dR c1] at h;simp at h
theorem jz.rel {g:G}{s:S}{aG:gE}{w:World}{a4:iq}{bJ:hr->Bool}{q:aF->Prop}(eG:jX g s aG w){mV:Nat->Prop}{o6:kX}{ox:kL}
 (H1 : ∀x v,q x->Pure x->Rel w (s.ok g aG w) s.bg (s.bn aG) x v->Rel w mV o6 ox x v)
 (Mc : ∀r k o b m,s.ao r k=some o->bJ o.cL=true->(∀j i,a4 j i≠some (r,k))->aG r k=some (b,m)->mV b)
 (IW : ∀j i r k,a4 j i=some (r,k)->s.bg r k->o6 j i/\(ox j i=s.bn aG r k\/ox j i=none)) {x de:aF} (bM:jz s a4 bJ q x de) :
 ∀ {v:Value},Rel w (s.ok g aG w) s.bg (s.bn aG) x v->Rel w mV o6 ox de v:=by
 induction bM with
 | dead x=>intro v _;exact .dead v
 | pure ah a1=>intro v aj;exact H1 _ v a1 ah aj
 | fg sz=>intro v aj;rw[aj.sx];exact .kk sz none 0 (fun _=>rfl)
 | kd sz=>intro v aj;obtain⟨a,c,rfl⟩:=aj.Ku;exact .kk sz (some a) c (fun h=>by simp at h)
 | K3 sz=>intro v aj;rw[aj.zH];exact .r9 sz
 | f8 h ih=>intro v aj;exact .rq (ih aj)
 | @ref r k j fA i off ay hu =>
  intro v aj;obtain⟨h1,h2⟩:=IW j fA r k ay hu
  cases aj with
  | sy a qO aU =>
   refine .sy a h1 fun sz p=> ?_;rcases h2 with e|e<;>rw[e]
   ·exact aU sz p
   simp
  | ref qO cl =>
   rcases h2 with e|e
   ·exact .ref h1 (e.trans cl)
   exact .sy _ h1 fun sz p=>by rw[e];simp
 | @br r k j fA cb len ay hu =>
  intro v aj;obtain⟨h1,h2⟩:=IW j fA r k ay hu
  cases aj with
  | pu a l c qO aU =>
   refine .pu a l c h1 ?_;rcases h2 with e|e<;>rw[e];exact aU
  | pT qO cl =>
   rcases h2 with e|e
   ·exact .pT h1 (e.trans cl)
   exact .pu _ _ _ h1 e
  | br qO cl aR a0 hm =>
   rcases h2 with e|e
   ·exact .br h1 (e.trans cl) aR a0 hm
   exact .pu _ _ _ h1 e
 | o0 r c sz =>
  intro v aj
  cases aj with
  | o0 h0 =>
   rcases h0.wG with ⟨-,a,c,rfl,bF⟩|⟨ff,off,c,-,rfl,-⟩
   ·exact .kk sz a c bF
   exact .kk sz _ c (fun h=>by simp at h)
 | p7 h ih =>
  intro v aj
  cases aj with
  | p7 h0=>exact ih h0
 | @kx r fH c ez sz h hm =>
  intro v aj
  cases aj with
  | o0 h0 =>
   rcases h0.wG with ⟨-,a,c,rfl,bF⟩|⟨ff,off,c,-,rfl,-⟩
   ·exact .o0 (.kk sz a c bF)
   exact .o0 (.kk sz _ c (fun h=>by simp at h))
  | @p7 _ _ _ k n _ h0 =>
   refine .p7 ?_
   cases h0 with
   | pu a l bf qO aU =>
    obtain⟨h1,h2⟩:=IW _ _ _ _ (hm k) qO;refine .pu a l bf h1 ?_;rcases h2 with e|e<;>rw[e];exact aU
   | pT qO cl =>
    obtain⟨h1,h2⟩:=IW _ _ _ _ (hm k) qO;rcases h2 with e|e
    ·exact .pT h1 (e.trans cl)
    exact .pu _ _ _ h1 e
   | br qO cl aR a0 oB =>
    obtain⟨h1,h2⟩:=IW _ _ _ _ (hm k) qO;rcases h2 with e|e
    ·exact .br h1 (e.trans cl) aR a0 oB
    exact .pu _ _ _ h1 e
 | @fX r k o h4 i off ap bF aj di PY hle aR h ih =>
  intro v bh;have gv:=eG.obj r k o ap;rcases bh.zR (jV ap) with h0|⟨b,m,ah,hval⟩
  ·rw[h0] at gv;exact absurd gv di
  rw[ah] at gv;have ke:=gv.rd;rw[hval];have lA:h4.flatten.length=o.es.flatten.length:=(by rw[vh h4 hle,vh o.es ke.1,aR]);have At:qZ w mV o6 ox b 0 o.sz h4:=(by refine⟨hle,fun j de eT=> ?_⟩;have eN:j<o.es.flatten.length:=(by rw[<- lA];exact f6 eT);have U:o.es.flatten[j]? = some o.es.flatten[j]:=dz eN;obtain⟨u,e1,e2,bG⟩:=ke.2 j _ U;exact⟨u,e1,e2,ih j _ de U eT bG⟩);have:=At.fX (i:=i) (off:=off) ⟨Mc r k o b m ap bF aj ah,PY⟩;rw[dG] at this;exact this
 | @isl r k cb len o h4 ap bF aj iT PY hle aR h ih =>
  intro v bh;have gv:=eG.obj r k o ap;rcases bh.GW (jV ap) with ⟨ah,rfl,rfl,hval⟩|⟨b,m,A,c,ah,hval,uM,w9,hm⟩
  ·have:h4=[]:=dM.1 aR;subst this;rw[hval];exact .kk _ none 0 (fun _=>rfl)
  rw[ah] at gv;rw[hval];rcases Nat.eq_zero_or_pos len with h0|ly
  ·subst h0;have:h4=[]:=dM.1 aR;subst this;exact .kk _ A c (fun aU=>by rcases hm with h1|⟨h1,-⟩<;>simp_all)
  rcases hm with hm|⟨hA,hm⟩
  ·omega
  subst hA;have ke:=JN gv.rd cb len (by omega);rw[dG] at ke;have lA:h4.flatten.length=((o.es.drop cb).take len).flatten.length:=(by rw[vh h4 hle,vh _ ke.1,aR,List.length_take,List.length_drop,Nat.min_eq_left (by omega)]);have At:qZ w mV o6 ox b (cb*o.sz) o.sz h4:=(by refine⟨hle,fun j de eT=> ?_⟩;have eN:j<((o.es.drop cb).take len).flatten.length:=(by rw[<- lA];exact f6 eT);have U:=dz eN;obtain⟨u,e1,e2,bG⟩:=ke.2 j _ U;exact⟨u,e1,e2,ih j _ de U eT bG⟩);have:=At.isl (c:=c) ⟨Mc r k o b m ap bF aj ah,PY⟩ (by omega);rw[aR] at this;exact this
 | @agg c ez aR h ih =>
  intro v bh;obtain⟨vs,rfl,h1,h2,J⟩:=bh.DQ;refine .agg vs (by omega) h2 fun j de u eT hu=> ?_;have eN:j<c.length:=(by have:=f6 eT;omega);exact ih j _ de (dz eN) eT (J j _ u (dz eN) hu)
 | @dd c ez aR h ih =>
  intro v bh;obtain⟨vs,rfl,h1,J⟩:=bh.DR;refine .dd vs (by omega) fun j de u eT hu=> ?_;have eN:j<c.length:=(by have:=f6 eT;omega);exact ih j _ de (dz eN) eT (J j _ u (dz eN) hu)
 | @fn f c ez aR h ih =>
  intro v bh;obtain⟨vs,rfl,h1,J⟩:=bh.KO;refine .fn vs (by omega) fun j de u eT hu=> ?_;have eN:j<c.length:=(by have:=f6 eT;omega);exact ih j _ de (dz eN) eT (J j _ u (dz eN) hu)
structure qP (s:S) (a4:iq) (bJ:hr->Bool) (q:aF->Prop) (o cp:aS):Prop where
 sz:cp.sz=o.sz
 cL:cp.cL=o.cL\/(cp.cL = .ky/\o.cL = .live)\/cp.cL = .gone
 len:cp.es.length=o.es.length
 each : ∀e∈cp.es,e.length=o.sz
 at_ : ∀(j:Nat) x de,o.es.flatten[j]? = some x->cp.es.flatten[j]? = some de->jz s a4 bJ q x de
structure sU (s:S) (a4:iq) (bJ:hr->Bool) (q:aF->Prop) (jg:Nat->Option (List aS)):Prop where
 inj : ∀j i jx fA p,a4 j i=some p->a4 jx fA=some p->j=jx/\i=fA
 at_ : ∀j i cp,d8 (jg j) i=some cp-> ∃r k o,a4 j i=some (r,k)/\s.ao r k=some o/\qP s a4 bJ q o cp
 bg : ∀j i r k,a4 j i=some (r,k)->s.bg r k->i<((jg j).getD []).length
def lB (aG:gE)(a4:iq):gE:=fun j i=>match a4 j i with
 | some (r,k)=>aG r k
 | none=>none
theorem D4 {aG:gE}{a4:iq}{j i r k:Nat}(h:a4 j i=some (r,k)):lB aG a4 j i=aG r k:=by simp[lB,h]
def oc (_:aF):Prop:=True
theorem akM:Down oc:=⟨fun _ _ _ _=>trivial,fun _ _ _ _=>trivial,fun _ _ _ _ _=>trivial⟩
section
variable {g:G} {s:S} {aG:gE} {w:World} {a4:iq} {bJ:hr->Bool} {q:aF->Prop} {b8:S}
theorem sU.ao (h:sU s a4 bJ q b8.a8){j i:Nat}{cp:aS}(ap:b8.ao j i=some cp): ∃r k o,a4 j i=some (r,k)/\s.ao r k=some o/\qP s a4 bJ q o cp:=h.at_ j i cp ap
theorem XD {o cp:aS}(h:qP s a4 bJ q o cp)(aR:cp.cL = .live):o.cL = .live:=by
 rcases h.cL with e|⟨e,-⟩|e
 ·exact e.symm.trans aR
 ·rw[e] at aR;simp at aR
 rw[e] at aR;simp at aR
theorem sU.live (h:sU s a4 bJ q b8.a8)(b:Nat)(aR:b8.n5 (lB aG a4) b): ∃r k o m,s.ao r k=some o/\o.cL = .live/\aG r k=some (b,m)/\ ∃j i,a4 j i=some (r,k):=by obtain⟨j,i,cp,m,h1,h2,J⟩:=aR;obtain⟨r,k,o,e1,e2,bG⟩:=h.ao h1;rw[D4 e1] at J;exact⟨r,k,o,m,e2,XD bG h2,J,j,i,e1⟩
theorem sU.LG (h:sU s a4 bJ q b8.a8){j i r k:Nat}(ay:a4 j i=some (r,k)):b8.bn (lB aG a4) j i=s.bn aG r k\/b8.bn (lB aG a4) j i=none:=by
 cases ap:b8.ao j i with
 | none=>right;simp[S.bn,ap]
 | some cp =>
  obtain⟨fH,ea,o,e1,e2,bG⟩:=h.ao ap;rw[ay] at e1;simp only[dB,dF] at e1;obtain⟨rfl,rfl⟩:=e1;left;rw[jV ap,jV e2,bG.sz,D4 ay]
theorem jX.QQ (eG:jX g s aG w)(h:sU s a4 bJ q b8.a8){gV:G}(a2:Hx gV w)(Hi:∀j k,gV.rA j k->b8.bg j k/\(b8.bn (lB aG a4) j k=gV.uL j k\/b8.bn (lB aG a4) j k=none))(Av:∀j k,gV.rA j k->j<gV.m)
 (alh : ∀b,gV.sj b->b<gV.og.heap.size) (halt : ∀b,gV.A b->b<gV.og.heap.size)
 (Pw : ∀r k o b m,(∃j i,a4 j i=some (r,k))->s.ao r k=some o->aG r k=some (b,m)->gV.og.heap.size<=b\/gV.sj b)
 (H1 : ∀b,s.ok g aG w b->b8.ok gV (lB aG a4) w b)
 (Mc : ∀r k o b m,s.ao r k=some o->bJ o.cL=true->(∀j i,a4 j i≠some (r,k))->aG r k=some (b,m)->b8.ok gV (lB aG a4) w b) :
 jX gV b8 (lB aG a4) w/\ ∀ {x de:aF} {v:Value},jz s a4 bJ q x de->Rel w (s.ok g aG w) s.bg (s.bn aG) x v->Rel w (b8.ok gV (lB aG a4) w) b8.bg (b8.bn (lB aG a4)) de v:=by
 have gv : ∀ {x de:aF} {v:Value},jz s a4 bJ q x de->Rel w (s.ok g aG w) s.bg (s.bn aG) x v->Rel w (b8.ok gV (lB aG a4) w) b8.bg (b8.bn (lB aG a4)) de v :=
  fun bM aj=>bM.rel eG (fun x v _ ah aj=>aj.pure ah H1) Mc (fun j i r k ay hu=>⟨h.bg j i r k ay hu,h.LG ay⟩) aj
 refine⟨⟨?_,?_,?_,a2,alh,halt,Hi,Av⟩,gv⟩
 ·intro j k cp e6
  obtain⟨r,ea,o,e1,e2,bG⟩:=h.ao e6;have bt:=eG.obj r ea o e2;rw[D4 e1]
  cases ah:aG r ea with
  | none =>
   rw[ah] at bt;simp only[kS] at bt ⊢;apply dM.1;rw[bG.len,bt];rfl
  | some q =>
   obtain⟨b,m⟩:=q;rw[ah] at bt;obtain⟨c,fG,h1,h2,J,ak⟩:=bt;have lA:cp.es.flatten.length=o.es.flatten.length:=(by rw[vh _ bG.each,vh _ J,bG.len]);refine⟨c,fG,h1,h2,by rw[bG.sz];exact bG.each,fun i de eT=> ?_⟩;have eN:i<o.es.flatten.length:=(by rw[<- lA];exact f6 eT);have U:=dz eN;obtain⟨u,f1,f2,f3⟩:=ak i _ U;exact⟨u,f1,f2,gv (bG.at_ i _ de U eT) f3⟩
 ·intro j k o jx ea cp b m aH h1 h2 J ak;obtain⟨r,kN,p,e1,e2,-⟩:=h.ao h1;obtain⟨fH,alV,mf,pa,sd,-⟩:=h.ao h2;rw[D4 e1] at J;rw[D4 pa] at ak;obtain⟨rfl,rfl⟩:=eG.inj r kN p fH alV mf b m aH e2 sd J ak;exact h.inj _ _ _ _ _ e1 pa
 intro j k o b m h1 h2;obtain⟨r,kN,p,e1,e2,-⟩:=h.ao h1;rw[D4 e1] at h2;exact Pw r kN p b m ⟨j,k,e1⟩ e2 h2
theorem dh.XE {a:Act}(h:dh g s aG a w)(dv:sU s a4 (fun _=>true) q b8.a8)(e8:∀t,jz s a4 (fun _=>true) q (s.E t) (b8.E t))(HI:∀j k,g.rA j k->a4 j k=some (j,k)):dh g b8 (lB aG a4) a w:=by
 have hR : ∀b,b8.n5 (lB aG a4) b->s.n5 aG b:=fun b aR=>by obtain⟨r,k,o,m,h1,h2,J,-⟩:=dv.live b aR;exact⟨r,k,o,m,h1,h2,J⟩
 have Hi : ∀j k,g.rA j k->b8.bg j k/\(b8.bn (lB aG a4) j k=g.uL j k\/b8.bn (lB aG a4) j k=none):=by
  intro j k ay;obtain⟨e1,e2⟩:=h.stay j k ay;refine⟨dv.bg j k j k (HI j k ay) e1,?_⟩;rcases dv.LG (aG:=aG) (HI j k ay) with e|e
  ·rw[e];exact e2
  exact .inr e
 obtain⟨h1,h2⟩:=h.tojX.QQ dv h.iC Hi h.low h.mlt h.pE (fun r k o b m _ ap ah=>h.own r k o b m ap ah)
  (fun b a3=>⟨a3.1,a3.2.1,fun aR=>a3.2.2 (hR b aR)⟩)
  (fun r k o b m ap _ aj ah=>by
    have bt:=h.obj r k o ap;rw[ah] at bt;obtain⟨c,fG,e1,-⟩:=bt;refine⟨(ap7.1 e1).1,?_,fun aR=> ?_⟩
    ·rcases h.own r k o b m ap ah with e|e
     ·exact .inr (.inl e)
     exact .inr (.inr e)
    obtain⟨fH,ea,cp,aH,f1,f2,f3,⟨E6,IX,f4⟩⟩:=dv.live b aR;obtain⟨rfl,rfl⟩:=h.inj r k o fH ea cp b m aH ap f1 ah f3;exact aj E6 IX f4)
 exact {tojX:=h1,env:=fun t=>h2 (e8 t) (h.env t),defers:=h.defers,lz:=h.lz}
end
def f7 (T:List (List aS)):S:={E:=fun _=> .dead,a8:=fun r=>T[r]?}
def akN (P:Program)(f:FuncId)(args:List aF)(T:List (List aS))(r:aF)(iF:List (List aS)):Prop :=
 ∀(g:G) (aG:gE) (w:World) (vs:Array Value),g.og=w->g.m=T.length->g.rA=(f7 T).bg->g.uL=(f7 T).bn aG->jX g (f7 T) aG w->vs.size=args.length ->
  (∀(j:Nat) x v,args[j]? = some x->vs[j]? = some v->Rel w ((f7 T).ok g aG w) (f7 T).bg ((f7 T).bn aG) x v) ->
  Calls P f vs w fun e bZ=> ∃v b6,e = .returned v/\jX g (f7 iF) b6 bZ/\Rel bZ ((f7 iF).ok g b6 bZ) (f7 iF).bg ((f7 iF).bn b6) r v
inductive bx:aF->Prop
 | dead:bx .dead
 | b (x:Bool):bx (.b x)
 | n (k:IntKind) (x:Int):bx (.n k x)
 | s (x:ByteArray):bx (.s x)
 | ka:bx .ka
 | fg:bx .fg
 | kd:bx .kd
 | kk (sz:Nat):bx (.isl sz [])
 | ref (r k i off:Nat):bx (.ref r k i off)
 | br (r k cb len:Nat):bx (.br r k cb len)
 | kx (r c sz:Nat) (h:Option (Nat×Nat)):bx (.kx r c sz h)
 | agg {c:List aF} (h : ∀x∈c,bx x):bx (.agg c)
 | dd {c:List aF} (h : ∀x∈c,bx x):bx (.dd c)
theorem akO:Down bx:=⟨fun _ _ h U=>by cases h with|agg h=>exact h _ U,fun _ _ h U=>by cases h with|dd h=>exact h _ U,fun _ _ _ h=>by cases h⟩
theorem Rel.ef {w bZ:World}{ok mV:Nat->Prop}{bg o6:kX}{bn ox:kL}{x:aF}(bM:bx x): ∀ {v:Value},Pure x->Rel w ok bg bn x v->Rel bZ mV o6 ox x v:=by
 induction bM with
 | dead=>intro v _ h;exact .dead v
 | b x=>intro v _ h;rw[h.x7];exact .b x
 | n k x=>intro v _ h;rw[h.qB];exact .n k x
 | s x=>intro v _ h;rw[h.Ed];exact .s x
 | ka=>intro v _ h;rw[h.zH];exact .ka
 | fg=>intro v _ h;rw[h.sx];exact .fg
 | kd=>intro v _ h;obtain⟨a,c,rfl⟩:=h.Ku;exact .kd a c
 | kk sz =>
  intro v _ h;rcases h.wG with ⟨-,a,c,rfl,bF⟩|⟨ff,off,c,-,rfl,-⟩
  ·exact .kk sz a c bF
  exact .kk sz _ c (fun h=>by simp at h)
 | ref=>intro v ah;cases ah
 | br=>intro v ah;cases ah
 | kx=>intro v ah;cases ah
 | @agg c a0 ih =>
  intro v ah h;obtain⟨vs,rfl,h1,h2,J⟩:=h.DQ
  cases ah with
  | agg ah=>exact .agg vs h1 h2 fun j x u U hu=>ih x (dH U) (ah x (dH U)) (J j x u U hu)
 | @dd c a0 ih =>
  intro v ah h;obtain⟨vs,rfl,h1,J⟩:=h.DR
  cases ah with
  | dd ah=>exact .dd vs h1 fun j x u U hu=>ih x (dH U) (ah x (dH U)) (J j x u U hu)
section
variable {P:Program} {g:G} {s:S} {aG:gE} {a:Act} {w:World}
theorem G7 (h:jX g s aG w){r k b m:Nat}{o:aS}(ap:s.ao r k=some o)(ah:aG r k=some (b,m)):b<w.heap.size:=by have:=h.obj r k o ap;rw[ah] at this;obtain⟨c,fG,e,-⟩:=this;exact(ap7.1 e).1
theorem aj0 (h:jX g s aG w){r k b m:Nat}{o:aS}(ap:s.ao r k=some o)(a2:o.cL = .ky)(ah:aG r k=some (b,m)):s.ok g aG w b:=by
 refine⟨G7 h ap ah,?_,?_⟩
 ·rcases h.own r k o b m ap ah with e|e
  ·exact .inr (.inl e)
  exact .inr (.inr e)
 rintro⟨fH,ea,cp,aH,h1,h2,J⟩;obtain⟨rfl,rfl⟩:=h.inj r k o fH ea cp b m aH ap h1 ah J;rw[ap] at h1;simp at h1;subst h1;rw[a2] at h2;simp at h2
theorem enter (h:jX g s aG w){a4:iq}{bJ:hr->Bool}{q:aF->Prop}{T:List (List aS)}(A:Nat->Prop)
 (hA : ∀b,A b->b<w.heap.size) (PZ : ∀b,s.ok g aG w b->A b)
 (P0 : ∀r k o b m,s.ao r k=some o->bJ o.cL=true->aG r k=some (b,m)->A b)
 (dv:sU s a4 bJ q (f7 T).a8) (sG : ∀r k o,(∃j i,a4 j i=some (r,k))->s.ao r k=some o->o.cL = .live) :
 ∃gV:G,gV.og=w/\gV.A=A/\gV.m=T.length/\gV.rA=(f7 T).bg/\gV.uL=(f7 T).bn (lB aG a4) /\
  (gV.sj=fun b=> ∃r k o m,(∃j i,a4 j i=some (r,k))/\s.ao r k=some o/\aG r k=some (b,m))/\jX gV (f7 T) (lB aG a4) w /\
  ∀ {x de:aF} {v:Value},jz s a4 bJ q x de->Rel w (s.ok g aG w) s.bg (s.bn aG) x v->Rel w ((f7 T).ok gV (lB aG a4) w) (f7 T).bg ((f7 T).bn (lB aG a4)) de v:=by
 let gV:G:={og:=w,A:=A,sj:=fun b=> ∃r k o m,(∃j i,a4 j i=some (r,k))/\s.ao r k=some o/\aG r k=some (b,m),N:=0,m:=T.length,rA:=(f7 T).bg,uL:=(f7 T).bn (lB aG a4)}
 refine⟨gV,rfl,rfl,rfl,rfl,rfl,rfl,?_⟩;have hR : ∀b,(f7 T).n5 (lB aG a4) b-> ∃r k o m,s.ao r k=some o/\o.cL = .live/\aG r k=some (b,m)/\ ∃j i,a4 j i=some (r,k):=fun b aR=>dv.live b aR;refine jX.QQ (b8:=f7 T) (gV:=gV) h dv ⟨rfl,rfl,rfl,dD _,fun _ _ _=>rfl⟩ (fun j k ay=>⟨ay,.inl rfl⟩) ?_ ?_ hA ?_ ?_ ?_
 ·intro j k ay
  have ay:k<((T[j]?).getD []).length:=ay;rcases Nat.lt_or_ge j T.length with h1|h1
  ·exact h1
  rw[dR h1] at ay;simp at ay
 ·rintro b ⟨r,k,o,m,-,ap,ah⟩;exact G7 h ap ah
 ·intro r k o b m hm ap ah;exact .inr ⟨r,k,o,m,hm,ap,ah⟩
 ·intro b a3;refine⟨a3.1,.inl (PZ b a3),fun aR=> ?_⟩;obtain⟨r,k,o,m,h1,h2,J,-⟩:=hR b aR;exact a3.2.2 ⟨r,k,o,m,h1,h2,J⟩
 intro r k o b m ap bF aj ah;refine⟨G7 h ap ah,.inl (P0 r k o b m ap bF ah),fun aR=> ?_⟩;obtain⟨fH,ea,cp,aH,h1,h2,J,⟨j,i,ay⟩⟩:=hR b aR;obtain⟨rfl,rfl⟩:=h.inj r k o fH ea cp b m aH ap h1 ah J;exact aj j i ay
theorem leave (h:dh g s aG a w){bZ:World}{a4 mP:iq}{bJ:hr->Bool}{q0 q:aF->Prop}{gV:G}{T eP:List (List aS)}{mZ:gE}
 (du:gV.og=w) (hA:(∀b,gV.A b->s.ok g aG w b)\/(∀x,q x->bx x)) (AG:gV.rA=(f7 T).bg) (nt:gV.uL=(f7 T).bn (lB aG a4))
 (eG:gV.sj=fun b=> ∃r k o m,(∃j i,a4 j i=some (r,k))/\s.ao r k=some o/\aG r k=some (b,m))
 (sG : ∀r k o,(∃j i,a4 j i=some (r,k))->s.ao r k=some o->o.cL = .live)
 (dv:sU s a4 bJ q0 (f7 T).a8) (h1:jX gV (f7 eP) mZ bZ)
 (Hj : ∀j i r k,a4 j i=some (r,k)->mP r k=some (j,i)) (Lg : ∀r k j i,mP r k=some (j,i)->a4 j i=some (r,k)\/ ¬s.bg r k)
 (ali : ∀r k fH ea p,mP r k=some p->mP fH ea=some p->r=fH/\k=ea)
 {s2:S} (e8:s2.E=s.E)
 (bt : ∀r k o,s2.ao r k=some o->(∃j i p,mP r k=some (j,i)/\(f7 eP).ao j i=some p/\qP (f7 eP) mP (fun _=>false) q p o)\/(mP r k=none/\s.ao r k=some o))
 (k5 : ∀r k,s.bg r k->s2.bg r k) (alj : ∀r k j i,mP r k=some (j,i)->(f7 eP).bg j i->s2.bg r k)
 {x de:aF} {v:Value} (U:jz (f7 eP) mP (fun _=>false) q x de) (bh:Rel bZ ((f7 eP).ok gV mZ bZ) (f7 eP).bg ((f7 eP).bn mZ) x v) :
 ∃nB,dh g s2 nB a bZ/\Rel bZ (s2.ok g nB bZ) s2.bg (s2.bn nB) de v:=by
 let nB:gE:=fun r k=>match mP r k with|some (j,i)=>mZ j i|none=>aG r k
 have p1 : ∀r k j i,mP r k=some (j,i)->nB r k=mZ j i:=fun r k j i e=>by simp[nB,e]
 have p2 : ∀r k,mP r k=none->nB r k=aG r k:=fun r k e=>by simp[nB,e]
 have a2:=h1.iC;have fU:w.heap.size<=bZ.heap.size:=by have:=a2.size;rw[du] at this;exact this
 have wZ : ∀b,b<w.heap.size-> ¬gV.sj b->bZ.heap[b]? = w.heap[b]? := fun b a3 lY=>by have:=a2.block b (by rw[du];exact a3) lY;rw[du] at this;exact this
 have LH : ∀j k p b m,(f7 eP).ao j k=some p->mZ j k=some (b,m)->w.heap.size<=b\/ ∃r ea o aH,(∃j i,a4 j i=some (r,ea))/\s.ao r ea=some o/\aG r ea=some (b,aH):=by
  intro j k p b m ah a3;rcases h1.own j k p b m ah a3 with e|e
  ·rw[du] at e;exact .inl e
  rw[eG] at e;exact .inr e
 have hold : ∀q k o b m,mP q k=none->s.ao q k=some o->aG q k=some (b,m)->b<w.heap.size/\ ¬gV.sj b:=by intro q k o b m a1 ap ah;refine⟨G7 h.tojX ap ah,fun lY=> ?_⟩;rw[eG] at lY;obtain⟨r,ea,cp,aH,⟨j,i,aj⟩,e6,nb⟩:=lY;obtain⟨rfl,rfl⟩:=h.inj q k o r ea cp b m aH ap e6 ah nb;rw[Hj _ _ _ _ aj] at a1;simp at a1
 have Yf : ∀b,s2.n5 nB b->(f7 eP).n5 mZ b\/(∃q k o m,mP q k=none/\s.ao q k=some o/\o.cL = .live/\aG q k=some (b,m)):=by
  rintro b ⟨q,k,o,m,ap,qc,ah⟩;rcases bt q k o ap with ⟨j,i,p,e1,e2,bG⟩|⟨e1,e2⟩
  ·rw[p1 _ _ _ _ e1] at ah;exact .inl ⟨j,i,p,m,e2,XD bG qc,ah⟩
  rw[p2 _ _ e1] at ah;exact .inr ⟨q,k,o,m,e1,e2,qc,ah⟩
 have mb : ∀b,s.ok g aG w b->s2.ok g nB bZ b:=by
  intro b a3;refine⟨Nat.lt_of_lt_of_le a3.1 fU,a3.2.1,fun aR=> ?_⟩;rcases Yf b aR with ⟨j,k,p,m,e1,e2,bG⟩|⟨q,k,o,m,e1,e2,bG,cM⟩
  ·rcases LH j k p b m e1 bG with e|⟨r,ea,o,aH,aj,ap,ah⟩
   ·have:=a3.1;omega
   exact a3.2.2 ⟨r,ea,o,aH,ap,sG r ea o aj ap,ah⟩
  exact a3.2.2 ⟨q,k,o,m,e2,bG,cM⟩
 have Zd : ∀r k,s.bg r k->s2.bn nB r k=s.bn aG r k\/s2.bn nB r k=none:=by
  intro r k aj
  cases ap:s2.ao r k with
  | none=>right;simp[S.bn,ap]
  | some o =>
   left;rcases bt r k o ap with ⟨j,i,p,e1,e2,bG⟩|⟨e1,e2⟩;rotate_left
   ·rw[jV ap,jV e2,p2 _ _ e1]
   rcases Lg r k j i e1 with ay|ay
   ·have oz:=(h1.stay j i (by rw[AG];exact dv.bg _ _ _ _ ay aj)).2
    rw[nt,jV e2] at oz
    have oz:some (p.sz,mZ j i)=(f7 T).bn (lB aG a4) j i:=by
     rcases oz with e|e
     ·exact e
     simp at e
    have:=dv.LG (b8:=f7 T) (aG:=aG) ay;rw[<- oz] at this;rw[jV ap,bG.sz,p1 _ _ _ _ e1];rcases this with e|e
    ·exact e
    simp at e
   exact absurd aj ay
 have akP : ∀b,s.ok g aG w b->bZ.heap[b]? = w.heap[b]? := by intro b a3;refine wZ b a3.1 fun lY=> ?_;rw[eG] at lY;obtain⟨r,ea,o,aH,aj,ap,ah⟩:=lY;exact a3.2.2 ⟨r,ea,o,aH,ap,sG r ea o aj ap,ah⟩
 have gv : ∀ {y:aF} {u:Value},Rel w (s.ok g aG w) s.bg (s.bn aG) y u->Rel bZ (s2.ok g nB bZ) s2.bg (s2.bn nB) y u :=
  fun aj=>aj.mono mb akP k5 Zd
 have alk:(∀b,gV.A b->s.ok g aG w b)-> ∀b,(f7 eP).ok gV mZ bZ b->s2.ok g nB bZ b:=by
  intro hA b a3
  have Pw:g.A b\/g.og.heap.size<=b\/g.sj b:=by
   rcases a3.2.1 with e|e|e
   ·exact(hA b e).2.1
   ·rw[du] at e;exact .inr (.inl (Nat.le_trans h.iC.size e))
   rw[eG] at e;obtain⟨r,k,o,m,-,ap,ah⟩:=e;rcases h.own r k o b m ap ah with e|e
   ·exact .inr (.inl e)
   exact .inr (.inr e)
  refine⟨a3.1,Pw,fun aR=> ?_⟩;rcases Yf b aR with e|⟨q,k,o,m,e1,e2,bG,cM⟩
  ·exact a3.2.2 e
  have a1:=hold q k o b m e1 e2 cM;rcases a3.2.1 with e|e|e
  ·exact(hA b e).2.2 ⟨q,k,o,m,e2,bG,cM⟩
  ·rw[du] at e;omega
  exact a1.2 e
 have YO : ∀ {y nA:aF} {u:Value},jz (f7 eP) mP (fun _=>false) q y nA->Rel bZ ((f7 eP).ok gV mZ bZ) (f7 eP).bg ((f7 eP).bn mZ) y u->Rel bZ (s2.ok g nB bZ) s2.bg (s2.bn nB) nA u:=by
  intro y nA u bM aj;refine bM.rel h1 (fun x v a1 ah aj=> ?_) (fun _ _ _ _ _ _ bF _ _=>by simp at bF) ?_ aj
  ·rcases hA with hA|hA
   ·exact aj.pure ah (alk hA)
   exact aj.ef (hA x a1) ah
  intro r k j i a1 ay;refine⟨alj r k j i a1 ay,?_⟩
  cases ap:s2.ao r k with
  | none=>right;simp[S.bn,ap]
  | some o =>
   left;rcases bt r k o ap with ⟨jx,fA,p,e1,e2,bG⟩|⟨e1,-⟩
   ·rw[a1] at e1;simp only[dB,dF] at e1;obtain⟨rfl,rfl⟩:=e1;rw[jV ap,jV e2,bG.sz,p1 _ _ _ _ a1]
   rw[a1] at e1;simp at e1
 refine⟨nB,{tojX:=⟨?_,?_,?_,?_,h.mlt,h.pE,?_,h.low⟩,env:=fun t=>by rw[e8];exact gv (h.env t),defers:=h.defers,lz:=h.lz},YO U bh⟩
 ·intro q k o ap
  rcases bt q k o ap with ⟨j,i,p,e1,e2,bG⟩|⟨e1,e2⟩
  ·have ah:=h1.obj j i p e2
   rw[p1 _ _ _ _ e1]
   cases mn:mZ j i with
   | none =>
    rw[mn] at ah;simp only[kS] at ah ⊢;apply dM.1;rw[bG.len,ah];rfl
   | some xt =>
    obtain⟨b,m⟩:=xt;rw[mn] at ah;obtain⟨c,fG,f1,f2,f3,f4⟩:=ah;have lA:o.es.flatten.length=p.es.flatten.length:=(by rw[vh _ bG.each,vh _ f3,bG.len]);refine⟨c,fG,f1,f2,by rw[bG.sz];exact bG.each,fun i de eT=> ?_⟩;have eN:i<p.es.flatten.length:=(by rw[<- lA];exact f6 eT);have kI:=dz eN;obtain⟨u,kA,m0,iN⟩:=f4 i _ kI;exact⟨u,kA,m0,YO (bG.at_ i _ de kI eT) iN⟩
  have ah:=h.obj q k o e2;rw[p2 _ _ e1]
  cases mn:aG q k with
  | none=>rw[mn] at ah;exact ah
  | some xt =>
   obtain⟨b,m⟩:=xt;rw[mn] at ah;obtain⟨c,fG,f1,f2,f3,f4⟩:=ah;obtain⟨yo,P1⟩:=hold q k o b m e1 e2 mn;refine⟨c,fG,(wZ b yo P1).trans f1,f2,f3,fun i de eT=> ?_⟩;obtain⟨u,kA,m0,iN⟩:=f4 i de eT;exact⟨u,kA,m0,gv iN⟩
 ·intro q k o jw ea cp b m aH h2 J ak ax
  rcases bt q k o h2 with ⟨j,i,p,e1,e2,bG⟩|⟨e1,e2⟩<;>rcases bt jw ea cp J with ⟨jx,fA,mf,pa,sd,ym⟩|⟨pa,sd⟩
  ·rw[p1 _ _ _ _ e1] at ak;rw[p1 _ _ _ _ pa] at ax;obtain⟨rfl,rfl⟩:=h1.inj j i p jx fA mf b m aH e2 sd ak ax;exact ali _ _ _ _ _ e1 pa
  ·rw[p1 _ _ _ _ e1] at ak;rw[p2 _ _ pa] at ax
   obtain⟨f1,f2⟩:=hold jw ea cp b aH pa sd ax;rcases LH j i p b m e2 ak with e|e
   ·omega
   exact absurd (by rw[eG];exact e) f2
  ·rw[p2 _ _ e1] at ak;rw[p1 _ _ _ _ pa] at ax
   obtain⟨f1,f2⟩:=hold q k o b m e1 e2 ak;rcases LH jx fA mf b aH sd ax with e|e
   ·omega
   exact absurd (by rw[eG];exact e) f2
  rw[p2 _ _ e1] at ak;rw[p2 _ _ pa] at ax;exact h.inj q k o jw ea cp b m aH e2 sd ak ax
 ·intro q k o b m h2 ak
  rcases bt q k o h2 with ⟨j,i,p,e1,e2,bG⟩|⟨e1,e2⟩
  ·rw[p1 _ _ _ _ e1] at ak
   rcases LH j i p b m e2 ak with e|⟨r,ea,cp,aH,aj,ap,ah⟩
   ·exact .inl (Nat.le_trans h.iC.size e)
   exact h.own r ea cp b aH ap ah
  rw[p2 _ _ e1] at ak;exact h.own q k o b m e2 ak
 ·have e1:=a2.os;have e2:=a2.tape;have bG:=a2.output
  rw[du] at e1 e2 bG;refine h.iC.step e1 e2 bG fU fun b a3 qe=>wZ b (Nat.lt_of_lt_of_le a3 h.iC.size) fun lY=> ?_;rw[eG] at lY;obtain⟨r,k,o,m,-,ap,ah⟩:=lY;rcases h.own r k o b m ap ah with e|e
  ·omega
  exact qe e
 intro j k ay;obtain⟨e1,e2⟩:=h.stay j k ay;refine⟨k5 j k e1,?_⟩;rcases Zd j k e1 with e|e
 ·rw[e];exact e2
 exact .inr e
def mI (a b n:Nat):aF->aF
 | .ref r k i off=>if r=a then .ref b (n+k) i off else .ref r k i off
 | .br r k cb len=>if r=a then .br b (n+k) cb len else .br r k cb len
 | .kx r c sz h=>if r=a then .kx b (n+c) sz h else .kx r c sz h
 | .agg c=> .agg (ED c)
 | .dd c=> .dd (ED c)
 | x=>x
where ED:List aF->List aF
 | []=>[]
 | x::l=>mI a b n x::ED l
def oC (a b n:Nat)(o:aS):aS:={o with es:=o.es.map fun e=>e.map (mI a b n)}
def uG (o:aS):aS:=⟨0,[],.gone⟩
theorem KP (a b n:Nat): ∀l:List aF,mI.ED a b n l=l.map (mI a b n)
 | []=>rfl
 | x::l=>by rw[mI.ED,KP a b n l];rfl
theorem ml (l:List aS)(k:Nat):d8 (some l) k=(l[k]?).bind fun o=>if o.cL = .gone then none else some o:=by unfold d8;cases h:l[k]? <;> simp[h]
theorem map_flatten {es:List (List aF)}(f:aF->aF):(es.map fun e=>e.map f).flatten=es.flatten.map f:=by
 induction es with
 | nil=>rfl
 | cons e es ih=>rw[List.map_cons,apZ,apZ,List.map_append,ih]
theorem dh.merge (h:dh g s aG a w){r fH:Nat}{l gL:List aS}(aj:s.a8 r=some l)(jo:s.a8 fH=some gL)(di:fH≠r):
 ∃b6,dh g ((s.setRow fH (gL.map uG)).setRow r (l++gL.map (oC fH r l.length))) b6 a w /\
  ∀x v,Rel w (s.ok g aG w) s.bg (s.bn aG) x v->Rel w (((s.setRow fH (gL.map uG)).setRow r (l++gL.map (oC fH r l.length))).ok g b6 w)
   ((s.setRow fH (gL.map uG)).setRow r (l++gL.map (oC fH r l.length))).bg (((s.setRow fH (gL.map uG)).setRow r (l++gL.map (oC fH r l.length))).bn b6) (mI fH r l.length x) v:=by
 generalize xa:(s.setRow fH (gL.map uG)).setRow r (l++gL.map (oC fH r l.length))=s2
 let b6:gE:=fun q k=>if q=r/\l.length<=k then aG fH (k-l.length) else aG q k
 have bt : ∀q k o,s2.ao q k=some o->(q=r/\l.length<=k/\ ∃p,s.ao fH (k-l.length)=some p/\o=oC fH r l.length p/\b6 q k=aG fH (k-l.length)) \/
  (q≠fH/\s.ao q k=some o/\b6 q k=aG q k/\ ¬(q=r/\l.length<=k)):=by
  intro q k o ap;subst xa;rw[nI] at ap;by_cases e:q=r;rotate_left
  ·rw[dA e,nI] at ap
   by_cases e2:q=fH
   ·subst e2
    rw[dw rfl,ml,dK] at ap
    cases ah:gL[k]? with
    | none=>rw[ah] at ap;simp at ap
    | some p=>rw[ah] at ap;simp[uG] at ap
   rw[dA e2] at ap;exact .inr ⟨e2,ap,by simp[b6,e],fun gQ=>e gQ.1⟩
  subst e;rw[dw rfl] at ap;by_cases a2:l.length<=k
  ·left
   refine⟨rfl,a2,?_⟩;rw[ml,ap0 a2,dK] at ap
   cases ah:gL[k-l.length]? with
   | none=>rw[ah] at ap;simp at ap
   | some p =>
    rw[ah] at ap;simp only[apR,dx] at ap;split at ap
    ·simp at ap
    rename_i du;simp only[dB] at ap;refine⟨p,?_,ap.symm,by simp[b6,a2]⟩;unfold S.ao;rw[jo,ml,ah,dx,dA (by simpa [oC] using du)]
  right;refine⟨Ne.symm di,?_,by simp[b6,a2],fun gQ=>a2 gQ.2⟩;unfold S.ao;rw[aj,ml];rw[ml,apY (by omega)] at ap;exact ap
 have k5 : ∀q k,s.bg q k->s2.bg q k:=by
  intro q k a1;subst xa;rw[ps];by_cases e:q=r
  ·subst e;rw[dw rfl];simp[S.bg,aj] at a1;simp;omega
  rw[dA e,ps];by_cases e2:q=fH
  ·subst e2;rw[dw rfl];simpa [S.bg,jo] using a1
  rw[dA e2];exact a1
 have HJ : ∀k,s.bg fH k->s2.bg r (l.length+k):=by intro k a1;subst xa;rw[ps,dw rfl];simp[S.bg,jo] at a1;simp;omega
 have HK : ∀k,s2.bn b6 r (l.length+k)=s.bn aG fH k:=by
  intro k;subst xa;simp only[S.bn];rw[nI,dw rfl];unfold S.ao;rw[jo,ml,ml,ap0 (by omega),dK,show l.length+k-l.length=k by omega]
  cases ah:gL[k]? with
  | none=>simp
  | some p =>
   simp only[apR,dx];by_cases du:p.cL = .gone
   ·rw[dw du,dw (by simpa [oC] using du)];rfl
   rw[dA du,dA (by simpa [oC] using du)];simp[b6,oC]
 have nt : ∀q k,s.bg q k->s2.bn b6 q k=s.bn aG q k\/s2.bn b6 q k=none:=by
  intro q k a1
  cases ap:s2.ao q k with
  | none=>right;simp[S.bn,ap]
  | some o =>
   left;rcases bt q k o ap with ⟨rfl,e2,-⟩|⟨-,e2,bG,-⟩
   ·simp[S.bg,aj] at a1;omega
   rw[jV ap,jV e2,bG]
 have sG : ∀b,s2.n5 b6 b->s.n5 aG b:=by
  rintro b ⟨q,k,o,m,h1,h2,J⟩;rcases bt q k o h1 with ⟨-,-,p,e1,e2,bG⟩|⟨-,e1,e2,-⟩
  ·rw[bG] at J;subst e2;exact⟨fH,_,p,m,e1,h2,J⟩
  rw[e2] at J;exact⟨q,k,o,m,e1,h2,J⟩
 have da:Step g s aG w s2 b6 w:=⟨k5,nt,fun b aR=> .inl (sG b aR),fun _ _ _=>rfl,dD _⟩
 have H4 : ∀x v,Rel w (s.ok g aG w) s.bg (s.bn aG) x v->Rel w (s2.ok g b6 w) s2.bg (s2.bn b6) (mI fH r l.length x) v:=by
  intro x v nw
  induction nw with
  | dead v=>exact .dead v
  | b x=>exact .b x
  | n k x=>exact .n k x
  | s x=>exact .s x
  | ka=>exact .ka
  | fg=>exact .fg
  | kd a c=>exact .kd a c
  | @sy r1 k i off a hu gQ =>
   unfold mI;split
   ·rename_i e;subst e;exact .sy a (HJ k hu) (by rw[HK];exact gQ)
   exact da.rel (.sy a hu gQ)
  | @ref r1 k i off sz ff m hu gQ =>
   unfold mI;split
   ·rename_i e;subst e;exact .ref (HJ k hu) (by rw[HK];exact gQ)
   exact da.rel (.ref hu gQ)
  | @pu r1 k cb len a bf cx hu gQ =>
   unfold mI;split
   ·rename_i e;subst e;exact .pu a bf cx (HJ k hu) (by rw[HK];exact gQ)
   exact da.rel (.pu a bf cx hu gQ)
  | @pT r1 k sz hu gQ =>
   unfold mI;split
   ·rename_i e;subst e;exact .pT (HJ k hu) (by rw[HK];exact gQ)
   exact da.rel (.pT hu gQ)
  | @br r1 k cb len sz ff m c a hu gQ aR a0 oB =>
   unfold mI;split
   ·rename_i e;subst e;exact .br (HJ k hu) (by rw[HK];exact gQ) aR a0 oB
   exact da.rel (.br hu gQ aR a0 oB)
  | @o0 r1 c sz v h0 ih =>
   unfold mI;split
   ·exact .o0 (da.rel h0)
   exact da.rel (.o0 h0)
  | @p7 r1 c sz k n v h0 ih =>
   unfold mI;split
   ·rename_i e;subst e;unfold mI at ih;rw[dw rfl] at ih;exact .p7 (by rw[show k+(l.length+c)=l.length+(k+c) by omega];exact ih)
   exact da.rel (.p7 h0)
  | kk sz a c h=>exact .kk sz a c h
  | isl cs a3 ah aR a0 hw jJ nw ih=>exact da.rel (.isl cs a3 ah aR a0 hw jJ nw)
  | fX cs a3 ah aR hw jJ nw ih=>exact da.rel (.fX cs a3 ah aR hw jJ nw)
  | r9 sz=>exact .r9 sz
  | rq h0 ih=>exact da.rel (.rq h0)
  | agg vs aR jJ nw ih =>
   unfold mI;rw[KP];refine .agg vs (by simpa using aR) jJ fun j x v U bh=> ?_;rw[dK,dP] at U;obtain⟨y,aV,rfl⟩:=U;exact ih j y v aV bh
  | dd vs aR nw ih =>
   unfold mI;rw[KP];refine .dd vs (by simpa using aR) fun j x v U bh=> ?_;rw[dK,dP] at U;obtain⟨y,aV,rfl⟩:=U;exact ih j y v aV bh
  | fn vs aR nw ih=>exact da.rel (.fn vs aR nw)
 refine⟨b6,{tojX:=⟨?_,?_,?_,h.iC,h.mlt,h.pE,?_,h.low⟩,env:=fun t=>by rw[show s2.E=s.E by rw[<- xa];rfl];exact da.rel (h.env t),defers:=h.defers,lz:=h.lz},H4⟩
 ·intro q k o ap
  rcases bt q k o ap with ⟨-,-,p,e1,e2,bG⟩|⟨-,e1,e2,-⟩;rotate_left
  ·rw[e2];exact da.obj (fun b m _=>rfl) (h.obj q k o e1)
  rw[bG];subst e2;have ah:=h.obj fH _ p e1
  cases mn:aG fH (k-l.length) with
  | none=>rw[mn] at ah;simp only[kS] at ah ⊢;simp[oC,ah]
  | some xt =>
   obtain⟨b,m⟩:=xt;rw[mn] at ah;obtain⟨c,fG,f1,f2,f3,f4⟩:=ah;refine⟨c,fG,f1,f2,?_,fun j x U=> ?_⟩
   ·intro e he;simp only[oC,List.mem_map] at he;obtain⟨fl,oa,rfl⟩:=he;simpa [oC] using f3 fl oa
   simp only[oC] at U;rw[map_flatten,dK,dP] at U;obtain⟨y,aV,rfl⟩:=U;obtain⟨u,kA,m0,iN⟩:=f4 j y aV;exact⟨u,kA,m0,H4 y u iN⟩
 ·intro q k o q1 kN bX b m aH h1 h2 J ak
  rcases bt q k o h1 with ⟨rfl,f1,p,e1,e2,bG⟩|⟨f1,e1,e2,f2⟩<;>rcases bt q1 kN bX h2 with ⟨rfl,EE,mf,pa,sd,ym⟩|⟨EE,pa,sd,aoY⟩
  ·rw[bG] at J;rw[ym] at ak;obtain⟨-,e⟩:=h.inj _ _ _ _ _ _ b m aH e1 pa J ak;exact⟨rfl,by omega⟩
  ·rw[bG] at J;rw[sd] at ak;obtain⟨e,-⟩:=h.inj _ _ _ _ _ _ b m aH e1 pa J ak;exact absurd e.symm EE
  ·rw[e2] at J;rw[ym] at ak;obtain⟨e,-⟩:=h.inj _ _ _ _ _ _ b m aH e1 pa J ak;exact absurd e f1
  rw[e2] at J;rw[sd] at ak;exact h.inj _ _ _ _ _ _ b m aH e1 pa J ak
 ·intro q k o b m h1 h2
  rcases bt q k o h1 with ⟨-,-,p,e1,e2,bG⟩|⟨-,e1,e2,-⟩
  ·rw[bG] at h2;exact h.own fH _ p b m e1 h2
  rw[e2] at h2;exact h.own q k o b m e1 h2
 exact da.stay h.stay
end
def aF.j7:aF->Bool
 | .dead | .b _ | .n .. | .s _ | .ka | .fg | .kd | .isl .. | .fX .. | .f8 .. => true
 | _=>false
def aF.G8:aF->Bool
 | .agg c=>c.all aF.j7
 | .fn _ c=>c.all aF.j7
 | x=>x.j7
def aF.YP:aF->Bool
 | .dd c=>c.all aF.G8
 | x=>x.G8
section
variable {w:World} {ok:Nat->Prop} {bg:kX} {bn:kL}
theorem Rel.Ee {x:aF}{v:Value}(h:Rel w ok bg bn x v)(aU:x.j7=true):Pure x:=by
 cases h with
 | dead=>exact .dead
 | b=>exact .b _
 | n=>exact .n _ _
 | s=>exact .s _
 | ka=>exact .ka
 | fg=>exact .fg
 | kd=>exact .kd
 | kk=>exact .isl (by simp)
 | isl cs a3 ah=>exact .isl ah
 | fX cs a3 ah=>exact .fX ah
 | r9 sz=>exact .r9 sz
 | rq h=>cases h with|fX cs a3 ah=>exact .rq fun x U=>ah _ (List.mem_singleton.2 rfl) x U
 | _=>simp[aF.j7] at aU
theorem VQ {c:List aF}{vs:List Value}(aR:vs.length=c.length)(aj:∀(j:Nat) x u,c[j]? = some x->vs[j]? = some u->Rel w ok bg bn x u)
 (aU:c.all aF.j7=true) : ∀x∈c,Pure x:=by
 intro x U;obtain⟨j,ay⟩:=ap6 U;have eN:j<vs.length:=by have:=f6 ay;omega
 exact(aj j x _ ay (dz eN)).Ee (List.all_eq_true.1 aU x U)
theorem Rel.K4 {x:aF}{v:Value}(h:Rel w ok bg bn x v)(aU:x.G8=true):Pure x:=by
 cases h with
 | agg vs aR a0 aj=>exact .agg (VQ aR aj aU)
 | fn vs aR aj=>exact .fn (VQ aR aj aU)
 | dead=>exact .dead
 | b=>exact .b _
 | n=>exact .n _ _
 | s=>exact .s _
 | ka=>exact .ka
 | fg=>exact .fg
 | kd=>exact .kd
 | kk=>exact .isl (by simp)
 | isl cs a3 ah=>exact .isl ah
 | fX cs a3 ah=>exact .fX ah
 | r9 sz=>exact .r9 sz
 | rq h=>cases h with|fX cs a3 ah=>exact .rq fun x U=>ah _ (List.mem_singleton.2 rfl) x U
 | _=>simp[aF.G8,aF.j7] at aU
theorem Rel.akQ {x:aF}{v:Value}(h:Rel w ok bg bn x v)(aU:x.YP=true):Pure x:=by
 by_cases cl : ∃c,x = .dd c
 ·obtain⟨c,rfl⟩:=cl;obtain⟨vs,rfl,aR,aj⟩:=h.DR;refine .dd fun x U=> ?_;obtain⟨j,ay⟩:=ap6 U;have eN:j<vs.length:=(by have:=f6 ay;omega);exact(aj j x _ ay (dz eN)).K4 (List.all_eq_true.1 aU x U)
 refine h.K4 ?_;cases x<;>first|exact aU|exact absurd ⟨_,rfl⟩ cl
end
def b4:List Nat->Nat->Option Nat
 | [],_=>none
 | x::l,r=>if x=r then some 0 else (b4 l r).map (· + 1)
theorem VR : ∀ {l:List Nat} {r j:Nat},b4 l r=some j->l[j]? = some r
 | x::l,r,j,h=>by
  unfold b4 at h;split at h
  ·simp at h;subst h;simp[*]
  rw[dP] at h;obtain⟨i,aa,rfl⟩:=h;simpa using VR aa
theorem VS : ∀ {l:List Nat} {r j:Nat},l.Nodup->l[j]? = some r->b4 l r=some j
 | x::l,r,j,aU,h=>by
  rw[List.nodup_cons] at aU;unfold b4
  cases j with
  | zero=>simp at h;simp[h]
  | succ j =>
   simp at h;have:x≠r:=(by rintro rfl;exact aU.1 (dH h));rw[dA this,VS aU.2 h];rfl
def H5 (c8:Nat)(jY:List aS)(bJ:hr->Bool)(x de:aF):Prop :=
 (de=x/\x.j7=true)\/(∃c sz,x = .kx c8 c sz none/\de = .isl sz [])\/ ∃k cb len o,(x = .br c8 k cb len\/ ∃c sz kZ,k=kZ+c/\cb=0/\x = .kx c8 c sz (some (kZ,len)))/\d8 (some jY) k=some o/\bJ o.cL=true/\cb+len<=o.es.length /\
   j6 ((o.es.drop cb).take len)/\de = .isl o.sz ((o.es.drop cb).take len)
def IY (c8:Nat)(jY:List aS)(bJ:hr->Bool)(sz:Nat)(es h4:List (List aF)):Prop :=
 h4.length=es.length/\(∀e∈h4,e.length=sz)/\ ∀(j:Nat) x de,es.flatten[j]? = some x->h4.flatten[j]? = some de->H5 c8 jY bJ x de
def nL (a8:Nat->Option (List aS))(b1:Nat->Option Nat)(a4:iq)(bJ:hr->Bool):u5->aF->Option (aF×List Prop)
 | .id,x=>if x.j7 then some (x,[]) else
  match x with
  | .ref r k i off=>match b1 r with
   | some j=>some (.ref j k i off,[])
   | none=>none
  | .br r k cb len=>match b1 r with
   | some j=>some (.br j k cb len,[])
   | none=>none
  | .kx r c sz h=>match b1 r with
   | some j=>some (.kx j c sz h,[])
   | none=>none
  | _=>none
 | .fv sz,.fg=>some (.isl sz [],[])
 | .fv sz,.kd=>some (.isl sz [],[])
 | .ep h4,.br r k cb len=>match d8 (a8 r) k with
  | some o=>if bJ o.cL && (b1 r).isNone then some (.isl o.sz h4,[h4=(o.es.drop cb).take len,cb+len<=o.es.length,j6 h4]) else none
  | none=>none
 | .kz,_=>some (.dead,[])
 | .cE y,x=>if x.j7 then some (y,[x=y]) else none
 | .len n,.br r k cb len=>match b1 r with
  | some j=>some (.br j k cb n,[len=n])
  | none=>none
 | .sk sz,x=>match x with
  | .ka=>some (.f8 sz none,[])
  | .fX LA [c] 0 0=>if LA=sz then some (.f8 sz (some c),[]) else none
  | _=>none
 | .at_ j i n,.br r k cb len=>some (.br j i cb n,[a4 j i=some (r,k),len=n])
 | .at_ j i _,.ref r k x y=>some (.ref j i x y,[a4 j i=some (r,k)])
 | .view c8 o h4,.br r k cb len=>match a8 r,a8 c8 with
  | some row,some jY=>if (b1 r).isNone && (b1 c8).isNone then
   some (.isl o.sz h4,[d8 (some row) k=some o,bJ o.cL=true,cb+len<=o.es.length,j6 h4,IY c8 jY bJ o.sz ((o.es.drop cb).take len) h4]) else none
  | _,_=>none
 | _,_=>none
def nM {α β:Type}(f:α->β->Option (β×List Prop)):List α->List β->Option (List β×List Prop)
 | [],[]=>some ([],[])
 | a::l,b::m=>match f a b,nM f l m with
  | some (lR,bX),some (aH,aK)=>some (lR::aH,bX++aK)
  | _,_=>none
 | _,_=>none
def qC (a8:Nat->Option (List aS))(b1:Nat->Option Nat)(a4:iq)(bJ:hr->Bool):E4->aF->Option (aF×List Prop)
 | .bV c,x=>if x.G8 then (match c with | .id=>some (x,[]) | .kz=>some (.dead,[]) | .cE y=>some (y,[x=y])|c=>nL a8 b1 a4 bJ c x) else nL a8 b1 a4 bJ c x
 | .agg l,.agg c=>match nM (nL a8 b1 a4 bJ) l c with
  | some (ez,ao)=>some (.agg ez,ao)
  | none=>none
 | .ptr l,.ref r k i off=>match d8 (a8 r) k with
  | some o=>match o.es with
   | [c]=>if bJ o.cL && (b1 r).isNone then
    match nM (nL a8 b1 a4 bJ) l c with
    | some (ez,ao)=>some (.fX o.sz [ez] i off,ao++[j6 [ez]])
    | none=>none
    else none
   | _=>none
  | none=>none
 | .w0 l,x=>match x with
  | .ref r k 0 0=>match d8 (a8 r) k with
   | some o=>match o.es with
    | [c]=>if bJ o.cL && (b1 r).isNone then
     match nM (nL a8 b1 a4 bJ) l c with
     | some (ez,ao)=>some (.f8 o.sz (some ez),ao++[j6 [ez]])
     | none=>none
     else none
    | _=>none
   | none=>none
  | _=>none
 | _,_=>none
def pX (a8:Nat->Option (List aS))(b1:Nat->Option Nat)(a4:iq)(bJ:hr->Bool):ni->aF->Option (aF×List Prop)
 | .bf c,x=>if x.YP then (match c with | .bV .id=>some (x,[])|c=>qC a8 b1 a4 bJ c x) else qC a8 b1 a4 bJ c x
 | .comp l,.dd c=>match nM (qC a8 b1 a4 bJ) l c with
  | some (ez,ao)=>some (.dd ez,ao)
  | none=>none
 | .comp l,.fn f c=>match nM (qC a8 b1 a4 bJ) l c with
  | some (ez,ao)=>some (.fn f ez,ao)
  | none=>none
 | _,_=>none
def xQ (row:List aS):Prop:= ∀o∈row,j6 o.es/\o.cL = .live
def mE (row:List aS):Prop:= ∀o∈row,o.cL = .live\/o.cL = .gone
def pb (b1:Nat->Option Nat):aF->aF
 | .ref r k i off=>match b1 r with|some j=> .ref j k i off|none=> .dead
 | .br r k cb len=>match b1 r with|some j=> .br j k cb len|none=> .dead
 | .kx r c sz h=>match b1 r with|some j=> .kx j c sz h|none=> .dead
 | x=>if x.j7 then x else .dead
def k6 (b1:Nat->Option Nat)(o:aS):aS:={o with es:=o.es.map fun e=>e.map (pb b1)}
def kT (a8:Nat->Option (List aS))(b1:Nat->Option Nat)(a4:iq)(bJ:hr->Bool):j2->List aS->Option (List aS×List Prop)
 | .pure,row=>some (row,[xQ row])
 | .cE eM,row=>some (eM,[row=eM,xQ eM])
 | .bq eM,row=>some (eM,[eM=row.map (k6 b1),mE row])
 | .box l,[o]=>match o.es with
  | [c]=>if o.cL = .live then match nM (nL a8 b1 a4 bJ) l c with
   | some (ez,ao)=>some ([{o with es:=[ez]}],ao)
   | none=>none
   else none
  | _=>none
 | _,_=>none
structure xu (q:aF->Prop) (bJ:hr->Bool):Prop extends Down q where
 all : ∀k,bJ k=true-> ∀x,q x
theorem yp (bJ:hr->Bool):xu oc bJ:={toDown:=akM,all:=fun _ _ _=>trivial}
theorem alW:xu bx (fun _=>false):={toDown:=akO,all:=fun _ h=>by simp at h}
structure oT (s:S) (a4:iq) (b1:Nat->Option Nat) (bJ:hr->Bool):Prop where
 aa : ∀r j,b1 r=some j-> ∀k,a4 j k=some (r,k)
 aU : ∀r,b1 r=none-> ∀k o,s.ao r k=some o->bJ o.cL=true-> ∀j i,a4 j i≠some (r,k)
section
variable {g:G} {s:S} {aG:gE} {w:World} {a4:iq} {b1:Nat->Option Nat} {bJ:hr->Bool} {q:aF->Prop}
theorem Ke {α β:Type}(f:α->β->Option (β×List Prop)): ∀(l:List α) (m aH:List β) (ao:List Prop),nM f l m=some (aH,ao) ->
 aH.length=m.length/\l.length=m.length/\ ∀(j:Nat) b lR,m[j]? = some b->aH[j]? = some lR-> ∃x cp,l[j]? = some x/\f x b=some (lR,cp)/\ ∀p∈cp,p∈ao
 | [],[],aH,ao,h=>by simp[nM] at h;obtain⟨rfl,rfl⟩:=h;exact⟨rfl,rfl,fun j b lR a3=>by simp at a3⟩
 | [],_::_,_,_,h=>by simp[nM] at h
 | _::_,[],_,_,h=>by simp[nM] at h
 | x::l,b::m,aH,ao,h=>by
  simp only[nM] at h;split at h
  ·rename_i lR bX iw aK h1 h2
   simp only[dB,dF] at h;obtain⟨rfl,rfl⟩:=h;obtain⟨e1,e2,bG⟩:=Ke f l m iw aK h2;refine⟨by simp[e1],by simp[e2],fun j c ez a0 vM=> ?_⟩
   cases j with
   | zero =>
    simp at a0 vM;subst a0;subst vM;exact⟨x,bX,rfl,h1,fun p ah=>by simp[ah]⟩
   | succ j =>
    simp at a0 vM;obtain⟨y,cp,f1,f2,f3⟩:=bG j c ez a0 vM;exact⟨y,cp,by simpa using f1,f2,fun p ah=>by simp[f3 p ah]⟩
  simp at h
theorem Oj (eG:jX g s aG w)(H:oT s a4 b1 bJ)(bD:xu q bJ){c:u5}{x de:aF}{ao:List Prop}(h:nL s.a8 b1 a4 bJ c x=some (de,ao))(bt:∀p∈ao,p)
 (a1:q x) {v:Value} (aj:Rel w (s.ok g aG w) s.bg (s.bn aG) x v):jz s a4 bJ q x de:=by
 have k5 : ∀ {r k cb len:Nat},x = .br r k cb len->s.bg r k:=by intro r k cb len e;subst e;cases aj<;>assumption
 cases c with
 | id =>
  simp only[nL] at h;split at h
  ·rename_i aU;simp only[dB,dF] at h;obtain⟨rfl,rfl⟩:=h;exact .pure (aj.Ee aU) a1
  split at h
  ·rename_i r k i off _
   split at h
   ·rename_i j ay;simp only[dB,dF] at h;obtain⟨rfl,rfl⟩:=h;exact .ref i off (H.aa r j ay k) (by cases aj<;>assumption)
   simp at h
  ·rename_i r k cb len _
   split at h
   ·rename_i j ay;simp only[dB,dF] at h;obtain⟨rfl,rfl⟩:=h;exact .br cb len (H.aa r j ay k) (k5 rfl)
   simp at h
  ·rename_i r c sz gQ _
   split at h
   ·rename_i j ay;simp only[dB,dF] at h;obtain⟨rfl,rfl⟩:=h;exact .kx gQ (fun k=>H.aa r j ay _)
   simp at h
  simp at h
 | fv sz =>
  cases x<;>simp[nL] at h
  ·obtain⟨rfl,rfl⟩:=h;exact .fg sz
  obtain⟨rfl,rfl⟩:=h;exact .kd sz
 | ep h4 =>
  cases x<;>simp only[nL,reduceCtorEq] at h;rename_i r k cb len;split at h;rotate_left
  ·simp at h
  rename_i o ap;split at h;rotate_left
  ·simp at h
  rename_i a0;simp only[dN,Option.isNone_iff_eq_none] at a0;simp only[dB,dF] at h;obtain⟨rfl,rfl⟩:=h;have h1:h4=(o.es.drop cb).take len:=bt _ (by simp);have h2:cb+len<=o.es.length:=bt _ (by simp);have J:j6 h4:=bt _ (by simp);have e6:s.ao r k=some o:=ap
  have hlen : ∀e∈o.es,e.length=o.sz:=by
   have gX:=eG.obj r k o e6
   cases ah:aG r k with
   | none=>rw[ah] at gX;simp only[kS] at gX;rw[gX];simp
   | some q=>rw[ah] at gX;obtain⟨_,_,_,_,e,_⟩:=gX;exact e
  refine .isl e6 a0.1 (H.aU r a0.2 k o e6 a0.1) h2 J ?_ ?_ ?_
  ·rw[h1];exact fun e he=>hlen e (List.mem_of_mem_drop (List.mem_of_mem_take he))
  ·rw[h1];simp;omega
  intro j y nA aV qf;rw[h1] at qf;rw[aV] at qf;simp at qf;subst qf;rw[h1] at J;obtain⟨e,he,H6⟩:=wk aV;exact .pure (J e he y H6) (bD.all _ a0.1 y)
 | kz =>
  simp only[nL,dB,dF] at h;obtain⟨rfl,rfl⟩:=h;exact .dead x
 | cE y =>
  simp only[nL] at h;split at h
  ·rename_i aU;simp only[dB,dF] at h;obtain⟨rfl,rfl⟩:=h;have e:x=y:=bt _ (by simp);subst e;exact .pure (aj.Ee aU) a1
  simp at h
 | len n =>
  cases x<;>simp only[nL,reduceCtorEq] at h;rename_i r k cb len;split at h
  ·rename_i j ay;simp only[dB,dF] at h;obtain⟨rfl,rfl⟩:=h;have e:len=n:=bt _ (by simp);subst e;exact .br cb len (H.aa r j ay k) (k5 rfl)
  simp at h
 | at_ j i n =>
  cases x<;>simp only[nL,reduceCtorEq] at h
  ·rename_i r k x y;simp only[dB,dF] at h;obtain⟨rfl,rfl⟩:=h;exact .ref x y (bt _ (List.mem_cons_self)) (by cases aj<;>assumption)
  rename_i r k cb len;simp only[dB,dF] at h;obtain⟨rfl,rfl⟩:=h;have e:len=n:=bt _ (by simp);subst e;exact .br cb len (bt _ (List.mem_cons_self)) (k5 rfl)
 | view c8 o h4 =>
  cases x<;>simp only[nL,reduceCtorEq] at h;rename_i r k cb len;split at h;rotate_left
  ·simp at h
  rename_i row jY ev akR;split at h;rotate_left
  ·simp at h
  rename_i a0;simp only[dN,Option.isNone_iff_eq_none] at a0;simp only[dB,dF] at h;obtain⟨rfl,rfl⟩:=h;have h1:d8 (some row) k=some o:=bt _ (by simp);have h2:bJ o.cL=true:=bt _ (by simp);have J:cb+len<=o.es.length:=bt _ (by simp);have ak:j6 h4:=bt _ (by simp);have ax:IY c8 jY bJ o.sz ((o.es.drop cb).take len) h4:=bt _ (by simp);have e6:s.ao r k=some o:=(by unfold S.ao;rw[ev];exact h1);obtain⟨d1,d2,d3⟩:=ax;refine .isl e6 h2 (H.aU r a0.1 k o e6 h2) J ak d2 (by rw[d1];simp;omega) fun j y nA aV qf=> ?_;rcases d3 j y nA aV qf with ⟨rfl,aU⟩|⟨cx,ZH,rfl,rfl⟩|⟨j3,LI,Lh,p,uP,e1,e2,bG,cM,rfl⟩
  ·obtain⟨e,he,H6⟩:=wk qf;exact .pure (ak e he nA H6) (bD.all _ h2 _)
  ·exact .o0 _ _ _
  have nb:s.ao c8 j3=some p:=by unfold S.ao;rw[akR];exact e1
  have hlen : ∀e∈p.es,e.length=p.sz:=by
   have gX:=eG.obj c8 j3 p nb
   cases ah:aG c8 j3 with
   | none=>rw[ah] at gX;simp only[kS] at gX;rw[gX];simp
   | some q=>rw[ah] at gX;obtain⟨_,_,_,_,e,_⟩:=gX;exact e
  have YQ:jz s a4 bJ q (.br c8 j3 LI Lh) (.isl p.sz ((p.es.drop LI).take Lh)):=(by refine .isl nb e2 (H.aU c8 a0.2 j3 p nb e2) bG cM (fun e he=>hlen e (List.mem_of_mem_drop (List.mem_of_mem_take he))) (by simp;omega) fun j z apH cB vP=> ?_;rw[cB] at vP;simp at vP;subst vP;obtain⟨e,he,alX⟩:=wk cB;exact .pure (cM e he z alX) (bD.all _ e2 _));rcases uP with rfl|⟨bV,aoZ,kZ,rfl,rfl,rfl⟩
  ·exact YQ
  exact .p7 YQ
 | sk sz =>
  simp only[nL] at h;split at h
  ·simp only[dB,dF] at h;obtain⟨rfl,rfl⟩:=h;exact .K3 _
  ·split at h
   ·rename_i e;subst e;simp only[dB,dF] at h;obtain⟨rfl,rfl⟩:=h;exact .f8 (.pure (aj.Ee rfl) a1)
   simp at h
  simp at h
theorem GG (eG:jX g s aG w)(H:oT s a4 b1 bJ)(bD:xu q bJ){l:List u5}{c ez:List aF}{ao:List Prop}(h:nM (nL s.a8 b1 a4 bJ) l c=some (ez,ao))(bt:∀p∈ao,p)
 (a1 : ∀x∈c,q x) {vs:List Value} (aR:vs.length=c.length) (aj : ∀(j:Nat) x u,c[j]? = some x->vs[j]? = some u->Rel w (s.ok g aG w) s.bg (s.bn aG) x u) :
 ez.length=c.length/\ ∀(j:Nat) x de,c[j]? = some x->ez[j]? = some de->jz s a4 bJ q x de:=by
 obtain⟨e1,e2,bG⟩:=Ke _ l c ez ao h;refine⟨e1,fun j x de U eT=> ?_⟩;obtain⟨y,cp,f1,f2,f3⟩:=bG j x de U eT;have eN:j<vs.length:=by have:=f6 U;omega
 exact Oj eG H bD f2 (fun p ah=>bt p (f3 p ah)) (a1 x (dH U)) (aj j x _ U (dz eN))
theorem Ok (eG:jX g s aG w)(H:oT s a4 b1 bJ)(bD:xu q bJ){c:E4}{x de:aF}{ao:List Prop}(h:qC s.a8 b1 a4 bJ c x=some (de,ao))(bt:∀p∈ao,p)
 (a1:q x) {v:Value} (aj:Rel w (s.ok g aG w) s.bg (s.bn aG) x v):jz s a4 bJ q x de:=by
 cases c with
 | bV c =>
  simp only[qC] at h;split at h;rotate_left
  ·exact Oj eG H bD h bt a1 aj
  rename_i aU;split at h
  ·simp only[dB,dF] at h;obtain⟨rfl,rfl⟩:=h;exact .pure (aj.K4 aU) a1
  ·simp only[dB,dF] at h;obtain⟨rfl,rfl⟩:=h;exact .dead _
  ·simp only[dB,dF] at h;obtain⟨rfl,rfl⟩:=h;have e:=bt _ (List.mem_singleton.2 rfl);subst e;exact .pure (aj.K4 aU) a1
  exact Oj eG H bD h bt a1 aj
 | agg l =>
  cases x<;>simp only[qC,reduceCtorEq] at h;rename_i c;split at h
  ·rename_i ez pJ a0;simp only[dB,dF] at h;obtain⟨rfl,rfl⟩:=h;obtain⟨vs,rfl,aR,-,H7⟩:=aj.DQ;obtain⟨e1,e2⟩:=GG eG H bD a0 bt (fun y aV=>bD.agg _ _ a1 aV) aR H7;exact .agg e1 e2
  simp at h
 | ptr l =>
  cases x<;>simp only[qC,reduceCtorEq] at h;rename_i r k i off;split at h;rotate_left
  ·simp at h
  rename_i o ap;split at h;rotate_left
  ·simp at h
  rename_i c jn;split at h;rotate_left
  ·simp at h
  rename_i a0;simp only[dN,Option.isNone_iff_eq_none] at a0;split at h;rotate_left
  ·simp at h
  rename_i ez pJ jJ;simp only[dB,dF] at h;obtain⟨rfl,rfl⟩:=h;have e6:s.ao r k=some o:=ap;have gX:=eG.obj r k o e6
  cases ah:aG r k with
  | none=>rw[ah] at gX;simp only[kS] at gX;rw[jn] at gX;simp at gX
  | some q =>
   obtain⟨b,m⟩:=q;rw[ah] at gX;obtain⟨cO,fG,g1,g2,g3,g4⟩:=gX;have Px:c.length=o.sz:=g3 c (by rw[jn];simp);have lA:o.es.flatten=c:=(by rw[jn];simp);have hcs : ∀j:Nat,j<c.length-> ∃u,cO[j]? = some u/\Rel w (s.ok g aG w) s.bg (s.bn aG) c[j]! u:=(by intro j ay;obtain⟨u,kA,-,iN⟩:=g4 j c[j] (by rw[lA];exact dz ay);exact⟨u,kA,by rw[getElem!_pos c j ay];exact iN⟩);obtain⟨e1,e2⟩:=GG (vs:=(List.range c.length).map fun j=>(cO[j]?).getD undef) eG H bD jJ (fun p ah=>bt p (by simp[ah])) (fun y _=>bD.all _ a0.1 y) (by simp) (by intro j y u aV hu;have ay:=f6 aV;rw[dK,List.getElem?_range ay] at hu;simp only[apR,dB] at hu;obtain⟨nl,kA,iN⟩:=hcs j ay;rw[kA] at hu;simp at hu;subst hu;rw[dz ay] at aV;simp at aV;subst aV;rw[getElem!_pos c j ay] at iN;exact iN);have wQ:j6 [ez]:=bt _ (by simp);refine .fX i off e6 a0.1 (H.aU r a0.2 k o e6 a0.1) (by rw[jn];simp) wQ (by simp;omega) (by rw[jn];rfl) ?_;intro j y nA aV qf;rw[lA] at aV;simp only[apZ,List.flatten_nil,List.append_nil] at qf;exact e2 j y nA aV qf
 | w0 l =>
  simp only[qC] at h;split at h;rotate_left
  ·simp at h
  rename_i r k;split at h;rotate_left
  ·simp at h
  rename_i o ap;split at h;rotate_left
  ·simp at h
  rename_i c jn;split at h;rotate_left
  ·simp at h
  rename_i a0;simp only[dN,Option.isNone_iff_eq_none] at a0;split at h;rotate_left
  ·simp at h
  rename_i ez pJ jJ;simp only[dB,dF] at h;obtain⟨rfl,rfl⟩:=h;have e6:s.ao r k=some o:=ap;have gX:=eG.obj r k o e6
  cases ah:aG r k with
  | none=>rw[ah] at gX;simp only[kS] at gX;rw[jn] at gX;simp at gX
  | some q =>
   obtain⟨b,m⟩:=q;rw[ah] at gX;obtain⟨cO,fG,g1,g2,g3,g4⟩:=gX;have Px:c.length=o.sz:=g3 c (by rw[jn];simp);have lA:o.es.flatten=c:=(by rw[jn];simp);have hcs : ∀j:Nat,j<c.length-> ∃u,cO[j]? = some u/\Rel w (s.ok g aG w) s.bg (s.bn aG) c[j]! u:=(by intro j ay;obtain⟨u,kA,-,iN⟩:=g4 j c[j] (by rw[lA];exact dz ay);exact⟨u,kA,by rw[getElem!_pos c j ay];exact iN⟩);obtain⟨e1,e2⟩:=GG (vs:=(List.range c.length).map fun j=>(cO[j]?).getD undef) eG H bD jJ (fun p ah=>bt p (by simp[ah])) (fun y _=>bD.all _ a0.1 y) (by simp) (by intro j y u aV hu;have ay:=f6 aV;rw[dK,List.getElem?_range ay] at hu;simp only[apR,dB] at hu;obtain⟨nl,kA,iN⟩:=hcs j ay;rw[kA] at hu;simp at hu;subst hu;rw[dz ay] at aV;simp at aV;subst aV;rw[getElem!_pos c j ay] at iN;exact iN);have wQ:j6 [ez]:=bt _ (by simp);refine .f8 (.fX 0 0 e6 a0.1 (H.aU r a0.2 k o e6 a0.1) (by rw[jn];simp) wQ (by simp;omega) (by rw[jn];rfl) ?_);intro j y nA aV qf;rw[lA] at aV;simp only[apZ,List.flatten_nil,List.append_nil] at qf;exact e2 j y nA aV qf
theorem GN (eG:jX g s aG w)(H:oT s a4 b1 bJ)(bD:xu q bJ){c:ni}{x de:aF}{ao:List Prop}(h:pX s.a8 b1 a4 bJ c x=some (de,ao))(bt:∀p∈ao,p)
 (a1:q x) {v:Value} (aj:Rel w (s.ok g aG w) s.bg (s.bn aG) x v):jz s a4 bJ q x de:=by
 have key : ∀(l:List E4) (c ez:List aF) (pJ:List Prop) (vs:List Value),nM (qC s.a8 b1 a4 bJ) l c=some (ez,pJ)->(∀p∈pJ,p)->(∀x∈c,q x)->vs.length=c.length ->
  (∀(j:Nat) x u,c[j]? = some x->vs[j]? = some u->Rel w (s.ok g aG w) s.bg (s.bn aG) x u)->ez.length=c.length/\ ∀(j:Nat) x de,c[j]? = some x->ez[j]? = some de->jz s a4 bJ q x de:=by
  intro l c ez pJ vs h bt a1 aR aj;obtain⟨e1,e2,bG⟩:=Ke _ l c ez pJ h;refine⟨e1,fun j x de U eT=> ?_⟩;obtain⟨y,cp,f1,f2,f3⟩:=bG j x de U eT;have eN:j<vs.length:=(by have:=f6 U;omega);exact Ok eG H bD f2 (fun p ah=>bt p (f3 p ah)) (a1 x (dH U)) (aj j x _ U (dz eN))
 cases c with
 | bf c =>
  simp only[pX] at h;split at h
  ·rename_i aU
   split at h
   ·simp only[dB,dF] at h;obtain⟨rfl,rfl⟩:=h;exact .pure (aj.akQ aU) a1
   exact Ok eG H bD h bt a1 aj
  exact Ok eG H bD h bt a1 aj
 | comp l =>
  cases x<;>simp only[pX,reduceCtorEq] at h
  ·rename_i c
   split at h
   ·rename_i ez pJ a0;simp only[dB,dF] at h;obtain⟨rfl,rfl⟩:=h;obtain⟨vs,rfl,aR,H7⟩:=aj.DR;obtain⟨e1,e2⟩:=key l c ez pJ vs a0 bt (fun y aV=>bD.dd _ _ a1 aV) aR H7;exact .dd e1 e2
   simp at h
  rename_i f c;split at h
  ·rename_i ez pJ a0;simp only[dB,dF] at h;obtain⟨rfl,rfl⟩:=h;obtain⟨vs,rfl,aR,H7⟩:=aj.KO;obtain⟨e1,e2⟩:=key l c ez pJ vs a0 bt (fun y aV=>bD.fn _ _ _ a1 aV) aR H7;exact .fn e1 e2
  simp at h
theorem YR (eG:jX g s aG w)(H:oT s a4 b1 bJ){r:Nat}{l6:Nat->Nat}{row:List aS}(ev:∀k o,d8 (some row) k=some o->s.ao r (l6 k)=some o)
 (a1 : ∀k o,d8 (some row) k=some o-> ∀e∈o.es,∀x∈e,q x) :
 ∀(k:Nat) cp,d8 (some (row.map (k6 b1))) k=some cp-> ∃o,d8 (some row) k=some o/\qP s a4 bJ q o cp:=by
 intro k cp e6;rw[ml,dK] at e6
 cases a2:row[k]? with
 | none=>rw[a2] at e6;simp at e6
 | some o =>
  rw[a2] at e6;simp only[apR,dx] at e6;split at e6
  ·simp at e6
  rename_i du;simp only[dB] at e6;subst e6;have ap:d8 (some row) k=some o:=(by rw[ml,a2,dx,dA (by simpa [k6] using du)]);have bM:s.ao r (l6 k)=some o:=ev k o ap;refine⟨o,ap,?_⟩;have gX:=eG.obj r (l6 k) o bM
  have hlen : ∀e∈o.es,e.length=o.sz:=by
   cases ah:aG r (l6 k) with
   | none=>rw[ah] at gX;simp only[kS] at gX;rw[gX];simp
   | some q=>rw[ah] at gX;obtain⟨_,_,_,_,e,_⟩:=gX;exact e
  refine⟨rfl,.inl rfl,by simp[k6],?_,fun j x de U eT=> ?_⟩
  ·intro e he;simp only[k6,List.mem_map] at he;obtain⟨fl,oa,rfl⟩:=he;simpa using hlen fl oa
  simp only[k6] at eT;rw[map_flatten,dK,U] at eT;simp only[apR,dB] at eT;subst eT;obtain⟨e,he,tT⟩:=wk U;have alY:=a1 k o ap e he x tT
  cases ah:aG r (l6 k) with
  | none=>rw[ah] at gX;simp only[kS] at gX;rw[gX] at U;simp at U
  | some xt =>
   obtain⟨b,m⟩:=xt;rw[ah] at gX;obtain⟨c,fG,f1,f2,f3,f4⟩:=gX;obtain⟨u,kA,m0,iN⟩:=f4 j x U
   cases x with
   | ref r2 j3 i2 alm =>
    cases cl:b1 r2 with
    | none=>simp only[pb,cl];exact .dead _
    | some A9=>simp only[pb,cl];exact .ref i2 alm (H.aa _ _ cl _) (by cases iN<;>assumption)
   | br r2 j3 LI Lh =>
    cases cl:b1 r2 with
    | none=>simp only[pb,cl];exact .dead _
    | some A9=>simp only[pb,cl];exact .br LI Lh (H.aa _ _ cl _) (by cases iN<;>assumption)
   | kx r2 cx ZH h2 =>
    cases cl:b1 r2 with
    | none=>simp only[pb,cl];exact .dead _
    | some A9=>simp only[pb,cl];exact .kx h2 (fun k=>H.aa _ _ cl _)
   | _ =>
    simp only[pb];split
    ·rename_i aU;exact .pure (iN.Ee aU) alY
    exact .dead _
theorem Kf (eG:jX g s aG w)(H:oT s a4 b1 bJ)(bD:xu q bJ){c:j2}{r:Nat}{l6:Nat->Nat}{row eM:List aS}{ao:List Prop}(ev:∀k o,d8 (some row) k=some o->s.ao r (l6 k)=some o)
 (h:kT s.a8 b1 a4 bJ c row=some (eM,ao)) (bt : ∀p∈ao,p) (a1 : ∀k o,d8 (some row) k=some o-> ∀e∈o.es,∀x∈e,q x) :
 eM.length=row.length/\(∀k o,d8 (some row) k=some o->o.cL = .live) /\
 ∀(k:Nat) cp,d8 (some eM) k=some cp-> ∃o,d8 (some row) k=some o/\qP s a4 bJ q o cp:=by
 have hlen : ∀k o,d8 (some row) k=some o-> ∀e∈o.es,e.length=o.sz:=by
  intro k o ap;have e6:s.ao r (l6 k)=some o:=ev k o ap;have gX:=eG.obj r (l6 k) o e6
  cases ah:aG r (l6 k) with
  | none=>rw[ah] at gX;simp only[kS] at gX;rw[gX];simp
  | some q=>rw[ah] at gX;obtain⟨_,_,_,_,e,_⟩:=gX;exact e
 have wQ:xQ row->(∀k o,d8 (some row) k=some o->o.cL = .live) /\
  ∀(k:Nat) cp,d8 (some row) k=some cp-> ∃o,d8 (some row) k=some o/\qP s a4 bJ q o cp:=by
  intro ah
  have vJ : ∀k o,d8 (some row) k=some o->o∈row:=by
   intro k o ap;unfold d8 at ap;simp only at ap;split at ap
   ·rename_i cp e6
    split at ap
    ·simp at ap
    simp at ap;subst ap;exact dH e6
   simp at ap
  refine⟨fun k o ap=>(ah o (vJ k o ap)).2,fun k o ap=>⟨o,ap,rfl,.inl rfl,rfl,hlen k o ap,fun j x de U eT=> ?_⟩⟩;rw[U] at eT;simp at eT;subst eT;obtain⟨e,he,tT⟩:=wk U;exact .pure ((ah o (vJ k o ap)).1 e he x tT) (a1 k o ap e he x tT)
 cases c with
 | pure =>
  simp only[kT,dB,dF] at h;obtain⟨rfl,rfl⟩:=h;exact⟨rfl,wQ (bt _ (by simp))⟩
 | cE aO =>
  simp only[kT,dB,dF] at h;obtain⟨rfl,rfl⟩:=h;have e:row=aO:=bt _ (by simp);subst e;exact⟨rfl,wQ (bt _ (by simp))⟩
 | bq aO =>
  simp only[kT,dB,dF] at h;obtain⟨rfl,rfl⟩:=h;have e:aO=row.map (k6 b1):=bt _ (by simp);have P2:mE row:=bt _ (by simp);subst e
  refine⟨by simp,fun k o ap=>by
   unfold d8 at ap;simp only at ap;split at ap
   ·rename_i cp e6
    split at ap
    ·simp at ap
    rename_i du;simp at ap;subst ap;exact(P2 _ (dH e6)).resolve_right du
   simp at ap,YR eG H ev a1⟩
 | rx aO=>cases row with
  | nil=>simp[kT] at h
  | cons o l=>cases l<;>simp[kT] at h
 | drop=>cases row with
  | nil=>simp[kT] at h
  | cons o l=>cases l<;>simp[kT] at h
 | box l =>
  match row,h with
  | [o],h =>
   simp only[kT] at h;split at h;rotate_left
   ·simp at h
   rename_i c jn;split at h;rotate_left
   ·simp at h
   rename_i qc;split at h;rotate_left
   ·simp at h
   rename_i ez pJ a0;simp only[dB,dF] at h;obtain⟨rfl,rfl⟩:=h;have h0:d8 (some [o]) 0=some o:=(by rw[oj];simp[qc]);refine⟨rfl,fun k p ah=> ?_,fun k p ah=> ?_⟩
   ·rw[oj] at ah
    split at ah
    ·simp at ah;subst ah;exact qc
    simp at ah
   rw[oj] at ah;split at ah;rotate_left
   ·simp at ah
   rename_i xb;obtain⟨rfl,-⟩:=xb;simp only[dB] at ah;subst ah;refine⟨o,h0,?_⟩;have e6:s.ao r (l6 0)=some o:=ev 0 o h0;have gX:=eG.obj r (l6 0) o e6
   cases mn:aG r (l6 0) with
   | none=>rw[mn] at gX;simp only[kS] at gX;rw[jn] at gX;simp at gX
   | some q =>
    obtain⟨b,m⟩:=q;rw[mn] at gX;obtain⟨cO,fG,g1,g2,g3,g4⟩:=gX;have Px:c.length=o.sz:=g3 c (by rw[jn];simp);have lA:o.es.flatten=c:=(by rw[jn];simp);obtain⟨e1,e2⟩:=GG (vs:=(List.range c.length).map fun j=>(cO[j]?).getD undef) eG H bD a0 bt (fun y aV=>a1 0 o h0 c (by rw[jn];simp) y aV) (by simp) (by intro j y u aV hu;have ay:=f6 aV;rw[dK,List.getElem?_range ay] at hu;simp only[apR,dB] at hu;obtain⟨nl,kA,-,iN⟩:=g4 j y (by rw[lA];exact aV);rw[kA] at hu;simp at hu;subst hu;exact iN);refine⟨rfl,.inl rfl,by simp[jn],by simp;omega,fun j x de U eT=> ?_⟩;rw[lA] at U;simp only[apZ,List.flatten_nil,List.append_nil] at eT;exact e2 j x de U eT
  | [],h=>simp[kT] at h
  | _::_::_,h=>simp[kT] at h
end
def Kg (P:Program)(f:FuncId):Prop:= ∃fn,P.funcs[f]? = some fn/\(fn.name == "runtime.NumGoroutine")=false/\fn.body.isSome=true
def Con (P:Program)(f:FuncId)(args:List aF)(T:List (List aS))(r:aF)(iF:List (List aS)):Prop:=Kg P f/\akN P f args T r iF
def wR (k:hr):Bool:=k = .ky
def j8 (_:hr):Bool:=true
def mT (_:hr):Bool:=false
def Src.r:Src->Nat
 | .row r=>r
 | .ao r _ _=>r
def Src.has:Src->Nat->Nat->Prop
 | .row r,q,_=>q=r
 | .ao r k _,q,ea=>q=r/\ea=k
def Src.mg:Src->Nat->Nat
 | .row _,k=>k
 | .ao ..,_=>0
def k7 (l:List Src):iq:=fun j i=>match l[j]? with
 | some (.row r)=>some (r,i)
 | some (.ao r k _)=>if i=0 then some (r,k) else none
 | none=>none
def rr (n:Nat):List Src->Nat->Option Nat
 | [],_=>none
 | .row r::l,q=>if r=q then some n else rr (n+1) l q
 | .ao .. :: l,q=>rr (n+1) l q
def k8 (n:Nat):List Src->iq
 | [],_,_=>none
 | .row r::l,q,k=>if q=r then some (n,k) else k8 (n+1) l q k
 | .ao r ea _::l,q,k=>if q=r/\k=ea then some (n,0) else k8 (n+1) l q k
def wS (l:List Src):Nat->Option Nat:=fun j=>match l[j]? with
 | some (.row r)=>some r
 | _=>none
def apart:Src->Src->Option (List Prop)
 | .ao r k _,.ao fH ea _=>if r=fH then some [k≠ea] else some []
 | a,b=>if a.r=b.r then none else some []
def KQ (a:Src):List Src->Option (List Prop)
 | []=>some []
 | b::l=>match apart a b,KQ a l with
  | some x,some y=>some (x++y)
  | _,_=>none
def K5:List Src->Option (List Prop)
 | []=>some []
 | a::l=>match KQ a l,K5 l with
  | some x,some y=>some (x++y)
  | _,_=>none
def HL (l:List Src):Prop:=l.Pairwise fun a b=> ∀r k,¬(a.has r k/\b.has r k)
theorem aik {a b:Src}{ao:List Prop}(h:apart a b=some ao)(bt:∀p∈ao,p): ∀r k,¬(a.has r k/\b.has r k):=by
 rintro r k ⟨h1,h2⟩
 have aj : ∀c:Src,c.has r k->c.r=r:=fun c a0=>by
  cases c with
  | row r0=>exact Eq.symm a0
  | ao r0 kZ nC=>exact Eq.symm a0.1
 have e:=(aj a h1).trans (aj b h2).symm
 cases a with
 | row r0=>simp only[apart] at h;rw[dw e] at h;simp at h
 | ao r0 kZ nC =>
  cases b with
  | row r1=>simp only[apart] at h;rw[dw e] at h;simp at h
  | ao r1 kN bX =>
   simp only[apart] at h;rw[dw (show r0=r1 from e)] at h;simp only[dB] at h;subst h;exact bt _ (List.mem_singleton.2 rfl) (h1.2.symm.trans h2.2)
theorem Wp {a:Src}: ∀ {l:List Src} {ao:List Prop},KQ a l=some ao->(∀p∈ao,p)-> ∀b∈l,∀r k,¬(a.has r k/\b.has r k)
 | [],_,_,_,_,a3=>by simp at a3
 | b::l,ao,h,bt,c,a0=>by
  simp only[KQ] at h;split at h
  ·rename_i x y h1 h2
   simp only[dB] at h;subst h;rcases dS.1 a0 with rfl|a0
   ·exact aik h1 fun p ah=>bt p (by simp[ah])
   exact Wp h2 (fun p ah=>bt p (by simp[ah])) c a0
  simp at h
theorem W2 : ∀ {l:List Src} {ao:List Prop},K5 l=some ao->(∀p∈ao,p)->HL l
 | [],_,_,_=>List.Pairwise.nil
 | a::l,ao,h,bt=>by
  simp only[K5] at h;split at h
  ·rename_i x y h1 h2;simp only[dB] at h;subst h;exact List.pairwise_cons.2 ⟨Wp h1 fun p ah=>bt p (by simp[ah]),W2 h2 fun p ah=>bt p (by simp[ah])⟩
  simp at h
theorem xS {l:List Src}{j i r k:Nat}:k7 l j i=some (r,k)↔ ∃a,l[j]? = some a/\a.has r k/\i=a.mg k:=by
 unfold k7
 cases h:l[j]? with
 | none=>simp
 | some a =>
  cases a with
  | row r0 =>
   simp only[dB,dF,exists_eq_left',Src.has,Src.mg];constructor<;>rintro⟨a,b⟩<;>exact⟨a.symm,b⟩
  | ao r0 kZ o =>
   simp only[dB,exists_eq_left',Src.has,Src.mg];by_cases e:i=0
   ·rw[dw e];simp only[dB,dF,e,and_true];constructor<;>rintro⟨a,b⟩<;>exact⟨a.symm,b.symm⟩
   rw[dA e];simp[e]
theorem zJ : ∀ {l:List Src} {n r k j i:Nat},k8 n l r k=some (j,i)-> ∃a,n<=j/\l[j-n]? = some a/\a.has r k/\i=a.mg k
 | [],_,_,_,_,_,h=>by simp[k8] at h
 | .row r0::l,n,r,k,j,i,h=>by
  simp only[k8] at h;split at h
  ·rename_i e;simp only[dB,dF] at h;obtain⟨rfl,rfl⟩:=h;exact⟨.row r0,dD _,by simp,e,rfl⟩
  obtain⟨a,h1,h2,J,ak⟩:=zJ h;exact⟨a,by omega,by rw[show j-n=(j-(n+1))+1 by omega,List.getElem?_cons_succ];exact h2,J,ak⟩
 | .ao r0 kZ o::l,n,r,k,j,i,h=>by
  simp only[k8] at h;split at h
  ·rename_i e;simp only[dB,dF] at h;obtain⟨rfl,rfl⟩:=h;exact⟨.ao r0 kZ o,dD _,by simp,e,rfl⟩
  obtain⟨a,h1,h2,J,ak⟩:=zJ h;exact⟨a,by omega,by rw[show j-n=(j-(n+1))+1 by omega,List.getElem?_cons_succ];exact h2,J,ak⟩
theorem vr (n:Nat)(a:Src)(l:List Src)(r k:Nat)(h:¬a.has r k):k8 n (a::l) r k=k8 (n+1) l r k:=by cases a<;>simp only[k8,Src.has] at h ⊢ <;> rw[dA h]
theorem ail (n:Nat)(a:Src)(l:List Src)(r k:Nat)(h:a.has r k):k8 n (a::l) r k=some (n,a.mg k):=by cases a<;>simp only[k8,Src.has,Src.mg] at h ⊢ <;> rw[dw h]
theorem G9 : ∀ {l:List Src} {n r k j:Nat} {a:Src},HL l->l[j]? = some a->a.has r k->k8 n l r k=some (n+j,a.mg k)
 | b::l,n,r,k,0,a,_,h,bF=>by simp at h;subst h;exact ail n b l r k bF
 | b::l,n,r,k,j+1,a,bD,h,bF=>by simp at h;have bD:=List.pairwise_cons.1 bD;rw[vr n b l r k fun a3=>bD.1 a (dH h) r k ⟨a3,bF⟩,G9 (j:=j) bD.2 h bF];congr 2;omega
theorem aj2 {a:Src}{r k fH ea:Nat}(h:a.has r k)(c1:a.has fH ea)(e:a.mg k=a.mg ea):r=fH/\k=ea:=by cases a<;>simp only[Src.has,Src.mg] at h c1 e<;>omega
theorem ajj {l:List Src}{n r k fH ea:Nat}{p:Nat×Nat}(h:k8 n l r k=some p)(c1:k8 n l fH ea=some p):r=fH/\k=ea:=by obtain⟨j,i⟩:=p;obtain⟨a,h1,h2,J,ak⟩:=zJ h;obtain⟨eF,tS,H8,P3,ao0⟩:=zJ c1;rw[h2] at H8;simp at H8;subst H8;exact aj2 J P3 (by omega)
theorem N4 : ∀ {l:List Src} {n r j:Nat},rr n l r=some j->n<=j/\l[j-n]? = some (.row r)
 | [],_,_,_,h=>by simp[rr] at h
 | .row r0::l,n,r,j,h=>by
  simp only[rr] at h;split at h
  ·rename_i e;simp at h;subst h;subst e;exact⟨dD _,by simp⟩
  obtain⟨h1,h2⟩:=N4 h;exact⟨by omega,by rw[show j-n=(j-(n+1))+1 by omega,List.getElem?_cons_succ];exact h2⟩
 | .ao r0 kZ o::l,n,r,j,h=>by simp only[rr] at h;obtain⟨h1,h2⟩:=N4 h;exact⟨by omega,by rw[show j-n=(j-(n+1))+1 by omega,List.getElem?_cons_succ];exact h2⟩
def ol (a8:Nat->Option (List aS))(b1:Nat->Option Nat)(a4:iq):List Src->List j2->Option (List (List aS)×List Prop)
 | [],[]=>some ([],[])
 | .row r::l,c::c9=>match a8 r with
  | some row=>match kT a8 b1 a4 wR c row,ol a8 b1 a4 l c9 with
   | some (eM,bX),some (T,aK)=>some (eM::T,bX++aK)
   | _,_=>none
  | none=>none
 | .ao r k o::l,c::c9=>match a8 r with
  | some row=>match kT a8 b1 a4 wR c [o],ol a8 b1 a4 l c9 with
   | some (eM,bX),some (T,aK)=>some (eM::T,(d8 (some row) k=some o)::(bX++aK))
   | _,_=>none
  | none=>none
 | _,_=>none
def m5 (Ba:Nat->Option (List aS))(b1:Nat->Option Nat)(mP:iq):(Nat->Option (List aS))->List Src->List j2->List (List aS)->Option (List (Nat×List aS)×List Prop)
 | _,[],[],[]=>some ([],[])
 | a8,.row q::l,c::c9,row::T=>match kT Ba b1 mP mT c row with
  | some (eM,bX)=>match m5 Ba b1 mP (fun x=>if x=q then some eM else a8 x) l c9 T with
   | some (u,aK)=>some ((q,eM)::u,bX++aK)
   | none=>none
  | none=>none
 | a8,.ao q k _::l,c::c9,row::T=>match a8 q with
  | some nT=>match kT Ba b1 mP mT c row with
   | some ([cp],bX)=>match m5 Ba b1 mP (fun x=>if x=q then some (nT.set k cp) else a8 x) l c9 T with
    | some (u,aK)=>some ((q,nT.set k cp)::u,bX++aK)
    | none=>none
   | _=>none
  | none=>none
 | _,_,_,_=>none
def oO (T:List (List aS)):Prop:= ∀row∈T,∀o∈row,∀e∈o.es,∀x∈e,bx x
def Ef (P:Program)(a8:Nat->Option (List aS))(ba:Nat)(f:FuncId)(args:List aF)(cO:A7):Option jv :=
 let l:=if cO.eP.length=cO.a4.length then cO.a4 else cO.a4++[.row ba]
 match K5 cO.a4 with
 | none=>none
 | some nC =>
  if cO.a4.any (fun a=>decide (a.r=ba)) then none else
  if cO.ef then
   match cO.a4 with
   | [] =>
    match nM (pX a8 (fun _=>none) (k7 []) j8) cO.ac args,pX (fun j=>cO.eP[j]?) (wS l) (k8 0 l) mT cO.f9 cO.r,
     m5 (fun j=>cO.eP[j]?) (wS l) (k8 0 l) a8 l cO.gT cO.eP with
    | some (tK,bX),some (fH,eQ),some (u,ei)=>some {val:=fH,hj:=u,gz:=bX++eQ++ei++[Con P f tK [] cO.r cO.eP,bx cO.r]++(if cO.eP.isEmpty then [] else [oO cO.eP])}
    | _,_,_=>none
   | _=>none
  else
   match nM (pX a8 (rr 0 cO.a4) (k7 cO.a4) wR) cO.ac args,ol a8 (rr 0 cO.a4) (k7 cO.a4) cO.a4 cO.c9,
    pX (fun j=>cO.eP[j]?) (wS l) (k8 0 l) mT cO.f9 cO.r,m5 (fun j=>cO.eP[j]?) (wS l) (k8 0 l) a8 l cO.gT cO.eP with
   | some (tK,bX),some (T,aK),some (fH,eQ),some (u,ei) =>
    some {val:=fH,hj:=u,gz:=nC++bX++aK++eQ++ei++[Con P f tK T cO.r cO.eP]}
   | _,_,_,_=>none
theorem VT {a8:Nat->Option (List aS)}{b1:Nat->Option Nat}{a4:iq}{bJ:hr->Bool}{c:j2}{row eM:List aS}{ao:List Prop}(h:kT a8 b1 a4 bJ c row=some (eM,ao))(bt:∀p∈ao,p):
 ∀k o,d8 (some row) k=some o->o.cL = .live:=by
 have vJ : ∀k o,d8 (some row) k=some o->o∈row/\o.cL≠ .gone:=by
  intro k o ap;rw[ml] at ap
  cases a2:row[k]? with
  | none=>rw[a2] at ap;simp at ap
  | some p =>
   rw[a2,dx] at ap;split at ap
   ·simp at ap
   rename_i e;simp at ap;subst ap;exact⟨dH a2,e⟩
 intro k o ap;obtain⟨h1,h2⟩:=vJ k o ap
 cases c with
 | pure =>
  simp only[kT,dB,dF] at h;obtain⟨rfl,rfl⟩:=h;exact((bt _ (List.mem_singleton.2 rfl):xQ row) o h1).2
 | cE aO =>
  simp only[kT,dB,dF] at h;obtain⟨rfl,rfl⟩:=h;have e:row=aO:=bt _ (by simp);have ah:xQ aO:=bt _ (by simp);exact(ah o (e▸h1)).2
 | bq aO =>
  simp only[kT,dB,dF] at h;obtain⟨rfl,rfl⟩:=h;have ah:mE row:=bt _ (by simp);exact(ah o h1).resolve_right h2
 | rx aO=>cases row with
  | nil=>simp[kT] at h
  | cons o l=>cases l<;>simp[kT] at h
 | drop=>cases row with
  | nil=>simp[kT] at h
  | cons o l=>cases l<;>simp[kT] at h
 | box l =>
  match row,h,h1 with
  | [p],h,h1 =>
   simp only[kT] at h;rw[List.mem_singleton] at h1;subst h1;split at h
   ·split at h
    ·rename_i e;exact e
    simp at h
   simp at h
  | [],h,_=>simp[kT] at h
  | _::_::_,h,_=>simp[kT] at h
section
variable {P:Program} {g:G} {s:S} {aG:gE} {a:Act} {w:World}
theorem N5 (eG:jX g s aG w){a4:iq}{b1:Nat->Option Nat}(H:oT s a4 b1 wR): ∀(l:List Src) (c9:List j2) (T:List (List aS)) (ao:List Prop),
 ol s.a8 b1 a4 l c9=some (T,ao)->(∀p∈ao,p)->T.length=l.length/\ ∀(j:Nat) eM b,T[j]? = some eM->l[j]? = some b ->
  (∀r k o,b.has r k->s.ao r k=some o->o.cL = .live)/\(∀r k,b.has r k->s.bg r k->b.mg k<eM.length) /\
  (∀r k o,b = .ao r k o->s.ao r k=some o) /\
  ∀(i:Nat) cp,d8 (some eM) i=some cp-> ∃r k o,b.has r k/\i=b.mg k/\s.ao r k=some o/\qP s a4 wR oc o cp
 | [],[],T,ao,h,_=>by simp[ol] at h;obtain⟨rfl,rfl⟩:=h;exact⟨rfl,fun j eM r ay=>by simp at ay⟩
 | .row r::l,c::c9,T,ao,h,bt=>by
  simp only[ol] at h;split at h;rotate_left
  ·simp at h
  rename_i row ev;split at h;rotate_left
  ·simp at h
  rename_i aD bX pj aK h1 h2;simp only[dB,dF] at h;obtain⟨rfl,rfl⟩:=h;obtain⟨e1,e2⟩:=N5 eG H l c9 pj aK h2 (fun p ah=>bt p (by simp[ah]));have ll : ∀k,s.ao r k=d8 (some row) k:=fun k=>(by unfold S.ao;rw[ev]);obtain⟨f0,f1,f2⟩:=Kf (q:=oc) (l6:=id) eG H (yp _) (fun k o ap=>(ll k).trans ap) h1 (fun p ah=>bt p (by simp[ah])) (fun _ _ _ _ _ _ _=>trivial);refine⟨by simp[e1],fun j eM b ay a3=> ?_⟩
  cases j with
  | zero =>
   simp at ay a3;subst ay;subst a3;refine⟨fun q k o a1 ap=> ?_,fun q k a1 hu=> ?_,fun _ _ _ e=>by simp at e,fun i cp e6=> ?_⟩
   ·have a1:q=r:=a1;subst a1;rw[ll] at ap;exact f1 k o ap
   ·have a1:q=r:=a1;subst a1;rw[f0];simpa [S.bg,ev,Src.mg] using hu
   obtain⟨o,g1,g2⟩:=f2 i cp e6;exact⟨r,i,o,rfl,rfl,(ll i).trans g1,g2⟩
  | succ j=>simp at ay a3;exact e2 j eM b ay a3
 | .ao r kZ nC::l,c::c9,T,ao,h,bt=>by
  simp only[ol] at h;split at h;rotate_left
  ·simp at h
  rename_i row ev;split at h;rotate_left
  ·simp at h
  rename_i aD bX pj aK h1 h2;simp only[dB,dF] at h;obtain⟨rfl,rfl⟩:=h;obtain⟨e1,e2⟩:=N5 eG H l c9 pj aK h2 (fun p ah=>bt p (by simp[ah]));have ap:s.ao r kZ=some nC:=by unfold S.ao;rw[ev];exact bt _ (by simp)
  have n8 : ∀k o,d8 (some [nC]) k=some o->k=0/\o=nC:=fun k o a2=>by
   rw[oj] at a2;split at a2
   ·rename_i e;simp at a2;exact⟨e.1,a2.symm⟩
   simp at a2
  have P4:nC.cL≠ .gone:=by
   unfold S.ao at ap;rw[ev,ml] at ap
   cases a2:row[kZ]? with
   | none=>rw[a2] at ap;simp at ap
   | some p =>
    rw[a2,dx] at ap;split at ap
    ·simp at ap
    rename_i e;simp at ap;subst ap;exact e
  obtain⟨f0,f1,f2⟩:=Kf (q:=oc) (l6:=fun _=>kZ) (r:=r) eG H (yp _) (fun k o a2=>by rw[(n8 k o a2).2];exact ap) h1 (fun p ah=>bt p (by simp[ah])) (fun _ _ _ _ _ _ _=>trivial);refine⟨by simp[e1],fun j eM b ay a3=> ?_⟩
  cases j with
  | zero =>
   simp at ay a3;subst ay;subst a3;refine⟨fun q k o a1 qd=> ?_,fun q k a1 hu=> ?_,fun fH ea cp e=> ?_,fun i cp e6=> ?_⟩
   ·obtain⟨rfl,rfl⟩:q=r/\k=kZ:=a1;rw[ap] at qd;simp at qd;subst qd;exact f1 0 nC (by rw[oj];simp[P4])
   ·rw[f0];simp[Src.mg]
   ·cases e;exact ap
   obtain⟨o,g1,g2⟩:=f2 i cp e6;obtain⟨rfl,rfl⟩:=n8 i o g1;exact⟨r,kZ,o,⟨rfl,rfl⟩,rfl,ap,g2⟩
  | succ j=>simp at ay a3;exact e2 j eM b ay a3
 | [],_::_,_,_,h,_=>by simp[ol] at h
 | .row _::_,[],_,_,h,_=>by simp[ol] at h
 | .ao .. :: _,[],_,_,h,_=>by simp[ol] at h
theorem NU {gV:G}{s1:S}{mZ:gE}{bZ:World}(eG:jX gV s1 mZ bZ){mP:iq}{q:aF->Prop}{b1:Nat->Option Nat}(H:oT s1 mP b1 mT)(bD:xu q mT)
 (a1 : ∀j i o,s1.ao j i=some o-> ∀e∈o.es,∀x∈e,q x) :
 ∀(l:List Src) (c9:List j2) (T:List (List aS)) (u:List (Nat×List aS)) (ao:List Prop) (n:Nat) (s:S),HL l->(∀j row,T[j]? = some row->s1.a8 (n+j)=some row) ->
 (∀r k j i,k8 n l r k=some (j,i)->s.bg r k->s1.bg j i)->(∀r k o,Src.ao r k o∈l->s.bg r k) ->
 m5 s1.a8 b1 mP s.a8 l c9 T=some (u,ao)->(∀p∈ao,p)->T.length=l.length/\(s.jQ u).E=s.E /\
  (∀r k o,(s.jQ u).ao r k=some o->(∃j i p,k8 n l r k=some (j,i)/\s1.ao j i=some p/\qP s1 mP mT q p o)\/(k8 n l r k=none/\s.ao r k=some o)) /\
  (∀r k,s.bg r k->(s.jQ u).bg r k)/\(∀r k j i,k8 n l r k=some (j,i)->s1.bg j i->(s.jQ u).bg r k)
 | [],[],[],u,ao,n,s,_,_,_,_,h,_=>by simp[m5] at h;obtain⟨rfl,rfl⟩:=h;exact⟨rfl,rfl,fun r k o ap=> .inr ⟨rfl,ap⟩,fun r k h=>h,fun r k j i h=>by simp[k8] at h⟩
 | .row q0::l,c::c9,row::T,u,ao,n,s,ug,iE,hu,uO,h,bt=>by
  simp only[m5] at h;split at h;rotate_left
  ·simp at h
  rename_i eM bX h1;split at h;rotate_left
  ·simp at h
  rename_i m0 aK h2;simp only[dB,dF] at h;obtain⟨rfl,rfl⟩:=h;have H9:=List.pairwise_cons.1 ug;have jS:s1.a8 n=some row:=iE 0 row rfl;have Aw : ∀k,s1.ao n k=d8 (some row) k:=fun k=>(by unfold S.ao;rw[jS]);obtain⟨f0,f1,f2⟩:=Kf (q:=q) (l6:=id) (r:=n) eG H bD (fun k o ap=>(Aw k).trans ap) h1 (fun p ah=>bt p (by simp[ah])) (fun k o ap=>a1 n k o ((Aw k).trans ap));have hR : ∀k j i,k8 (n+1) l q0 k≠some (j,i):=fun k j i hm=>by obtain⟨b,js,iw,tb,QR⟩:=zJ hm;exact H9.1 b (dH iw) q0 k ⟨rfl,tb⟩
  have Ep : ∀r k,s.bg r k->(s.setRow q0 eM).bg r k:=fun r k a2=>by
   rw[ps];by_cases e:r=q0
   ·subst e;rw[dw rfl,f0];have:=hu r k n k (by simp[k8]) a2;simpa [S.bg,jS] using this
   rw[dA e];exact a2
  obtain⟨e1,e2,bG,cM,db⟩:=NU eG H bD a1 l c9 T m0 aK (n+1) (s.setRow q0 eM) H9.2 (fun j row ay=>by rw[Nat.add_assoc,Nat.add_comm 1 j];exact iE (j+1) row (by simpa using ay))
   (fun r k j i hm a2=>by have di:r≠q0:=(by rintro rfl;exact hR _ _ _ hm);refine hu r k j i ?_ (by rw[ps,dA di] at a2;exact a2);rw[vr n (.row q0) l r k di];exact hm)
   (fun r k o hm=>Ep r k (uO r k o (by simp[hm]))) h2 (fun p ah=>bt p (by simp[ah]))
  refine⟨by simp[e1],e2,fun r k o ap=> ?_,fun r k a2=>cM r k (Ep r k a2),fun r k j i hm a2=> ?_⟩
  ·rcases bG r k o ap with ⟨j,i,p,js,iw,tb⟩|⟨js,iw⟩
   ·have di:r≠q0:=(by rintro rfl;exact hR _ _ _ js);exact .inl ⟨j,i,p,by rw[vr n (.row q0) l r k di];exact js,iw,tb⟩
   rw[nI] at iw;by_cases e:r=q0
   ·subst e;rw[dw rfl] at iw;obtain⟨p,g1,g2⟩:=f2 k o iw;exact .inl ⟨n,k,p,by simp[k8],(Aw k).trans g1,g2⟩
   rw[dA e] at iw;exact .inr ⟨by rw[vr n (.row q0) l r k e];exact js,iw⟩
  by_cases e:r=q0
  ·subst e;simp only[k8,if_true] at hm;simp only[dB,dF] at hm;obtain⟨rfl,rfl⟩:=hm;refine cM r k ?_;rw[ps,dw rfl,f0];simpa [S.bg,jS] using a2
  rw[vr n (.row q0) l r k e] at hm;exact db r k j i hm a2
 | .ao q0 kZ nC::l,c::c9,row::T,u,ao,n,s,ug,iE,hu,uO,h,bt=>by
  simp only[m5] at h;split at h;rotate_left
  ·simp at h
  rename_i nT Li;split at h;rotate_left
  ·simp at h
  rename_i cp bX h1;split at h;rotate_left
  ·simp at h
  rename_i m0 aK h2;simp only[dB,dF] at h;obtain⟨rfl,rfl⟩:=h;have H9:=List.pairwise_cons.1 ug;have jS:s1.a8 n=some row:=iE 0 row rfl;have Aw : ∀k,s1.ao n k=d8 (some row) k:=fun k=>(by unfold S.ao;rw[jS]);obtain⟨f0,f1,f2⟩:=Kf (q:=q) (l6:=id) (r:=n) eG H bD (fun k o ap=>(Aw k).trans ap) h1 (fun p ah=>bt p (by simp[ah])) (fun k o ap=>a1 n k o ((Aw k).trans ap));have hR : ∀j i,k8 (n+1) l q0 kZ≠some (j,i):=fun j i hm=>(by obtain⟨b,js,iw,tb,QR⟩:=zJ hm;exact H9.1 b (dH iw) q0 kZ ⟨⟨rfl,rfl⟩,tb⟩);have Ep : ∀r k,s.bg r k->(s.setRow q0 (nT.set kZ cp)).bg r k:=JM s Li (by simp);have xb:kZ<nT.length:=by have:=uO q0 kZ nC (by simp);simpa [S.bg,Li] using this
  obtain⟨e1,e2,bG,cM,db⟩:=NU eG H bD a1 l c9 T m0 aK (n+1) (s.setRow q0 (nT.set kZ cp)) H9.2 (fun j row ay=>by rw[Nat.add_assoc,Nat.add_comm 1 j];exact iE (j+1) row (by simpa using ay))
   (fun r k j i hm a2=>by
     have di : ¬(Src.ao q0 kZ nC).has r k:=(by rintro⟨rfl,rfl⟩;exact hR _ _ hm);refine hu r k j i (by rw[vr n _ l r k di];exact hm) ?_;rw[ps] at a2;split at a2
     ·rename_i e;subst e;simpa [S.bg,Li] using a2
     exact a2)
   (fun r k o hm=>Ep r k (uO r k o (by simp[hm]))) h2 (fun p ah=>bt p (by simp[ah]))
  refine⟨by simp[e1],e2,fun r k o ap=> ?_,fun r k a2=>cM r k (Ep r k a2),fun r k j i hm a2=> ?_⟩
  ·rcases bG r k o ap with ⟨j,i,p,js,iw,tb⟩|⟨js,iw⟩
   ·have di : ¬(Src.ao q0 kZ nC).has r k:=(by rintro⟨rfl,rfl⟩;exact hR _ _ js);exact .inl ⟨j,i,p,by rw[vr n _ l r k di];exact js,iw,tb⟩
   rw[nI] at iw;by_cases e:r=q0
   ·subst e
    rw[dw rfl,ml,apT] at iw;by_cases e2:kZ=k
    ·subst e2;rw[dw rfl,dw xb,dx] at iw;have tb:d8 (some [cp]) 0=some o:=(by rw[ml];exact iw);obtain⟨p,g1,g2⟩:=f2 0 o tb;exact .inl ⟨n,0,p,by simp[k8],(Aw 0).trans g1,g2⟩
    rw[dA e2] at iw;have di : ¬(Src.ao r kZ nC).has r k:=(by rintro⟨-,rfl⟩;exact e2 rfl);exact .inr ⟨by rw[vr n _ l r k di];exact js,by unfold S.ao;rw[Li,ml];exact iw⟩
   rw[dA e] at iw;have di : ¬(Src.ao q0 kZ nC).has r k:=(by rintro⟨rfl,-⟩;exact e rfl);exact .inr ⟨by rw[vr n _ l r k di];exact js,iw⟩
  by_cases e:(Src.ao q0 kZ nC).has r k
  ·obtain⟨rfl,rfl⟩:=e;exact cM r k (Ep r k (uO r k nC (by simp)))
  rw[vr n _ l r k e] at hm;exact db r k j i hm a2
 | [],[],_::_,_,_,_,_,_,_,_,_,h,_=>by simp[m5] at h
 | [],_::_,_,_,_,_,_,_,_,_,_,h,_=>by simp[m5] at h
 | .row _::_,[],_,_,_,_,_,_,_,_,_,h,_=>by simp[m5] at h
 | .ao .. :: _,[],_,_,_,_,_,_,_,_,_,h,_=>by simp[m5] at h
 | .row _::_,_::_,[],_,_,_,_,_,_,_,_,h,_=>by simp[m5] at h
 | .ao .. :: _,_::_,[],_,_,_,_,_,_,_,_,h,_=>by simp[m5] at h
theorem W3 (h:dh g s aG a w){ba:Nat}(fV:s.a8 ba=none){f:FuncId}{args:List aF}{cO:A7}{l:List Src}(pI:l=if cO.eP.length=cO.a4.length then cO.a4 else cO.a4++[.row ba])
 (ug:HL cO.a4) (AH : ∀a∈cO.a4,a.r≠ba) {bJ:hr->Bool} {A:Nat->Prop} {q:aF->Prop} {T:List (List aS)} {b1:Nat->Option Nat}
 (hA : ∀b,A b->b<w.heap.size) (PZ : ∀b,s.ok g aG w b->A b) (P0 : ∀r k o b m,s.ao r k=some o->bJ o.cL=true->aG r k=some (b,m)->A b)
 (alZ:(∀b,A b->s.ok g aG w b)\/(∀x,q x->bx x)) (bD:xu q mT) (Md:oT s (k7 cO.a4) b1 bJ)
 (dv:sU s (k7 cO.a4) bJ oc (f7 T).a8) (sG : ∀r k o,(∃j i,k7 cO.a4 j i=some (r,k))->s.ao r k=some o->o.cL = .live) (hex : ∀r k o,Src.ao r k o∈cO.a4->s.bg r k)
 {tK:List aF} {bX:List Prop} (o8:nM (pX s.a8 b1 (k7 cO.a4) bJ) cO.ac args=some (tK,bX)) (uQ : ∀p∈bX,p)
 {fH:aF} {eQ:List Prop} (Ez:pX (fun j=>cO.eP[j]?) (wS l) (k8 0 l) mT cO.f9 cO.r=some (fH,eQ)) (P5 : ∀p∈eQ,p)
 {u:List (Nat×List aS)} {ei:List Prop} (Ia:m5 (fun j=>cO.eP[j]?) (wS l) (k8 0 l) s.a8 l cO.gT cO.eP=some (u,ei)) (al0 : ∀p∈ei,p)
 (Er:Con P f tK T cO.r cO.eP) (al1:q cO.r) (al2 : ∀j i o,(f7 cO.eP).ao j i=some o-> ∀e∈o.es,∀x∈e,q x)
 {vs:List Value} (aR:vs.length=args.length) (hargs : ∀(j:Nat) x v,args[j]? = some x->vs[j]? = some v->Rel w (s.ok g aG w) s.bg (s.bn aG) x v) :
 Kg P f/\Calls P f vs.toArray w fun e bZ=> ∃v b6,e = .returned v/\dh g (s.jQ u) b6 a bZ/\Rel bZ ((s.jQ u).ok g b6 bZ) (s.jQ u).bg ((s.jQ u).bn b6) fH v:=by
 have P6:HL l:=by
  subst pI;split
  ·exact ug
  refine List.pairwise_append.2 ⟨ug,List.pairwise_singleton _ _,fun b a3 c a0 r k gQ=> ?_⟩;rw[List.mem_singleton] at a0;subst a0;have h1:r=ba:=gQ.2;subst h1
  cases b with
  | row r0=>exact AH _ a3 (Eq.symm gQ.1)
  | ao r0 kZ nC=>exact AH _ a3 (Eq.symm gQ.1.1)
 have ZI : ∀(j:Nat) b,cO.a4[j]? = some b->l[j]? = some b:=by
  intro j b ay;subst pI;split
  ·exact ay
  rw[apY (f6 ay)];exact ay
 have AJ : ∀(j:Nat) b,l[j]? = some b->cO.a4[j]? = some b\/b = .row ba:=by
  intro j b ay;subst pI;split at ay
  ·exact .inl ay
  rw[List.getElem?_append] at ay;split at ay
  ·exact .inl ay
  right;have:=f6 ay;simp at this;rw[show j-cO.a4.length=0 by omega] at ay;simpa using ay.symm
 refine⟨Er.1,?_⟩;obtain⟨gV,q1,q2,bL,QS,cr,dq,eH,gW⟩:=enter h.tojX A hA PZ P0 dv sG;obtain⟨e1,e2,bG⟩:=Ke _ _ _ _ _ o8;have:=Er.2 gV (lB aG (k7 cO.a4)) w vs.toArray q1 bL QS cr eH (by simp[aR,e1]) (by intro j de v eT bh;have ay:j<args.length:=(by have:=f6 eT;omega);have U:=dz ay;obtain⟨c,cp,f1,f2,f3⟩:=bG j _ de U eT;have HX:vs[j]? = some v:=(by simpa using bh);exact gW (GN h.tojX Md (yp _) f2 (fun p ah=>uQ p (f3 p ah)) trivial (hargs j _ v U HX)) (hargs j _ v U HX));refine this.mono fun e bZ HV=> ?_;obtain⟨v,mZ,rfl,EF,bh⟩:=HV
 have aaG:oT (f7 cO.eP) (k8 0 l) (wS l) mT:=by
  refine⟨fun j r ay k=> ?_,fun _ _ _ _ _ bF=>by simp[mT] at bF⟩;unfold wS at ay;split at ay
  ·rename_i r0 nw;simp at ay;subst ay;have:=G9 (n:=0) (r:=r0) (k:=k) P6 nw rfl;simpa [Src.mg] using this
  simp at ay
 have Hj : ∀j i r k,k7 cO.a4 j i=some (r,k)->k8 0 l r k=some (j,i):=fun j i r k hm=>by obtain⟨b,js,iw,rfl⟩:=xS.1 hm;have:=G9 (n:=0) P6 (ZI j b js) iw;simpa using this
 have Lg : ∀r k j i,k8 0 l r k=some (j,i)->k7 cO.a4 j i=some (r,k)\/ ¬s.bg r k:=fun r k j i hm=>by
  obtain⟨b,-,iw,tb,QR⟩:=zJ hm;rcases AJ j b (by simpa using iw) with e|e
  ·exact .inl (xS.2 ⟨b,e,tb,QR⟩)
  subst e;have:r=ba:=tb;subst this;exact .inr (C8 fV k)
 obtain⟨kA,m0,iN,anm,ann⟩:=NU (s1:=f7 cO.eP) EF aaG bD al2 l cO.gT cO.eP u ei 0 s P6 (fun j row ay=>by simpa [f7] using ay)
  (fun r k j i hm a2=>by
    rcases Lg r k j i hm with e|e
    ·exact(EF.stay j i (by rw[QS];exact dv.bg _ _ _ _ e a2)).1
    exact absurd a2 e)
  (fun r k o hm=>by
    obtain⟨j,ay⟩:=ap6 hm;rcases AJ j _ ay with e|e
    ·exact hex r k o (dH e)
    cases e) Ia al0
 obtain⟨nB,f1,f2⟩:=leave (q0:=oc) (q:=q) h q1 (by rw[q2];exact alZ) QS cr dq sG dv EF Hj Lg (fun r k fH ea p=>ajj) (s2:=s.jQ u) m0 iN anm ann
  (GN EF aaG bD Ez P5 al1 bh) bh
 exact⟨v,nB,rfl,f1,f2⟩
theorem af4 (h:dh g s aG a w){ba:Nat}(fV:s.a8 ba=none){f:FuncId}{args:List aF}{cO:A7}{bK:jv}(aC:Ef P s.a8 ba f args cO=some bK)(cW:∀p∈bK.gz,p)
 {vs:List Value} (aR:vs.length=args.length) (hargs : ∀(j:Nat) x v,args[j]? = some x->vs[j]? = some v->Rel w (s.ok g aG w) s.bg (s.bn aG) x v) :
 Kg P f/\Calls P f vs.toArray w fun e bZ=> ∃v b6,e = .returned v/\dh g (s.jQ bK.hj) b6 a bZ/\Rel bZ ((s.jQ bK.hj).ok g b6 bZ) (s.jQ bK.hj).bg ((s.jQ bK.hj).bn b6) bK.val v:=by
 unfold Ef at aC;simp only at aC;generalize pI:(if cO.eP.length=cO.a4.length then cO.a4 else cO.a4++[.row ba])=l at aC;split at aC
 ·simp at aC
 rename_i nC tU;split at aC
 ·simp at aC
 rename_i aln;have AH : ∀a∈cO.a4,a.r≠ba:=fun b a3 e=>aln (List.any_eq_true.2 ⟨b,a3,by simpa using e⟩);split at aC
 ·
  split at aC;rotate_left
  ·simp at aC
  rename_i yq;split at aC;rotate_left
  ·simp at aC
  rename_i tK bX fH eQ u ei o8 Ez Ia;simp only[dB] at aC;subst aC;have Er:Con P f tK [] cO.r cO.eP:=cW _ (by simp);have Ib:bx cO.r:=cW _ (by simp)
  have alo:oO cO.eP:=by
   by_cases e:cO.eP=[]
   ·rw[e];intro row ev;simp at ev
   exact cW _ (by have:cO.eP.isEmpty=false:=(by simpa [List.isEmpty_iff] using e);simp[this])
  refine W3 (bJ:=j8) (A:=fun b=>b<w.heap.size) (q:=bx) (T:=[]) (b1:=fun _=>none) h fV pI.symm (by rw[yq];exact List.Pairwise.nil) AH (fun _ a3=>a3) (fun b a3=>a3.1)
   (fun r k o b m ap _ ah=>G7 h.tojX ap ah) (.inr fun _ U=>U) alW ?_ ?_ ?_ ?_ (by rw[yq];exact o8) (fun p ah=>cW p (by simp[ah])) Ez (fun p ah=>cW p (by simp[ah])) Ia (fun p ah=>cW p (by simp[ah])) Er Ib ?_ aR hargs
  ·refine⟨fun _ _ e=>by simp at e,fun r _ k o _ _ j i e=> ?_⟩;rw[yq] at e;simp[k7] at e
  ·refine⟨fun j i jx fA p e=> ?_,fun j i cp e=> ?_,fun j i r k e=> ?_⟩
   ·rw[yq] at e;simp[k7] at e
   ·simp[f7,d8] at e
   rw[yq] at e;simp[k7] at e
  ·rintro r k o ⟨j,i,e⟩;rw[yq] at e;simp[k7] at e
  ·rintro r k o e;rw[yq] at e;simp at e
  intro j i o ap e he x U;have ap:d8 (cO.eP[j]?) i=some o:=ap
  cases aj:cO.eP[j]? with
  | none=>rw[aj] at ap;simp[d8] at ap
  | some row =>
   rw[aj,ml] at ap
   cases a2:row[i]? with
   | none=>rw[a2] at ap;simp at ap
   | some p =>
    rw[a2,dx] at ap;split at ap
    ·simp at ap
    simp at ap;subst ap;exact alo row (dH aj) p (dH a2) e he x U
 split at aC;rotate_left
 ·simp at aC
 rename_i tK bX T aK fH eQ u ei o8 Ey Ez Ia;simp only[dB] at aC;subst aC;have ug:=W2 tU fun p ah=>cW p (by simp[ah]);have Er:Con P f tK T cO.r cO.eP:=cW _ (by simp);have aa : ∀r j,rr 0 cO.a4 r=some j-> ∀k,k7 cO.a4 j k=some (r,k):=fun r j ay k=>by obtain⟨-,h2⟩:=N4 ay;simp only[k7,show cO.a4[j]? = some (.row r) by simpa using h2]
 have P2 : ∀(l:List Src) (c9:List j2) (T:List (List aS)) (ao:List Prop),ol s.a8 (rr 0 cO.a4) (k7 cO.a4) l c9=some (T,ao)->(∀p∈ao,p) ->
  ∀b∈l,∀r k o,b.has r k->s.ao r k=some o->o.cL≠ .ky:=by
  intro l
  induction l with
  | nil=>intro _ _ _ _ _ b a3;simp at a3
  | cons b l ih =>
   intro c9 T ao h0 bt c a0 r k o gQ ap
   cases c9 with
   | nil=>cases b<;>simp[ol] at h0
   | cons bV c9 =>
    cases b with
    | row r0 =>
     simp only[ol] at h0;split at h0
     ·rename_i row ev
      split at h0
      ·rename_i aD p1 pj p2 h1 h2
       simp only[dB,dF] at h0;obtain⟨rfl,rfl⟩:=h0;rcases dS.1 a0 with rfl|a0
       ·have e:r=r0:=gQ;subst e;have e6:d8 (some row) k=some o:=(by unfold S.ao at ap;rw[ev] at ap;exact ap);have:=VT h1 (fun p ah=>bt p (by simp[ah])) k o e6;rw[this];simp
       exact ih c9 pj p2 h2 (fun p ah=>bt p (by simp[ah])) c a0 r k o gQ ap
      simp at h0
     simp at h0
    | ao r0 kZ nC =>
     simp only[ol] at h0;split at h0;rotate_left
     ·simp at h0
     rename_i row ev;split at h0;rotate_left
     ·simp at h0
     rename_i aD p1 pj p2 h1 h2;simp only[dB,dF] at h0;obtain⟨rfl,rfl⟩:=h0;rcases dS.1 a0 with rfl|a0;rotate_left
     ·exact ih c9 pj p2 h2 (fun p ah=>bt p (by simp[ah])) c a0 r k o gQ ap
     obtain⟨rfl,rfl⟩:=gQ;have uQ:d8 (some row) k=some nC:=bt _ (by simp);have e6:d8 (some row) k=some o:=(by unfold S.ao at ap;rw[ev] at ap;exact ap);rw[uQ] at e6;simp at e6;subst e6
     have P4:nC.cL≠ .gone:=by
      rw[ml] at uQ
      cases a2:row[k]? with
      | none=>rw[a2] at uQ;simp at uQ
      | some p =>
       rw[a2,dx] at uQ;split at uQ
       ·simp at uQ
       rename_i e;simp at uQ;subst uQ;exact e
     have:=VT h1 (fun p ah=>bt p (by simp[ah])) 0 nC (by rw[oj];simp[P4]);rw[this];simp
 have Md:oT s (k7 cO.a4) (rr 0 cO.a4) wR:=by refine⟨aa,fun r aj k o ap bF j i hm=> ?_⟩;obtain⟨b,js,iw,-⟩:=xS.1 hm;exact P2 cO.a4 cO.c9 T aK Ey (fun p ah=>cW p (by simp[ah])) b (dH js) r k o iw ap (by simpa [wR] using bF)
 obtain⟨t1,t2⟩:=N5 h.tojX Md cO.a4 cO.c9 T aK Ey (fun p ah=>cW p (by simp[ah]));have ob : ∀j b,cO.a4[j]? = some b-> ∃eM,T[j]? = some eM:=fun j b ay=>by have:j<T.length:=(by have:=f6 ay;omega);exact⟨_,dz this⟩
 refine W3 (bJ:=wR) (A:=s.ok g aG w) (q:=oc) (T:=T) h fV pI.symm ug AH (fun b a3=>a3.1) (fun b a3=>a3)
  (fun r k o b m ap a2 ah=>aj0 h.tojX ap (by simpa [wR] using a2) ah) (.inl fun _ a3=>a3) (yp _) Md ?_ ?_ ?_ o8 (fun p ah=>cW p (by simp[ah])) Ez (fun p ah=>cW p (by simp[ah])) Ia
  (fun p ah=>cW p (by simp[ah])) Er trivial (fun _ _ _ _ _ _ _ _=>trivial) aR hargs
 ·refine⟨fun j i jx fA p e fl=> ?_,fun j i cp e6=> ?_,fun j i r k e hu=> ?_⟩
  ·obtain⟨r,k⟩:=p;obtain⟨b,js,iw,rfl⟩:=xS.1 e;obtain⟨lR,al3,al4,rfl⟩:=xS.1 fl;have e1:=G9 (n:=0) ug js iw;have e2:=G9 (n:=0) ug al3 al4;rw[e1] at e2;simpa using e2
  ·have ay:j<T.length:=by
    rcases Nat.lt_or_ge j T.length with e|e
    ·exact e
    ·have:(f7 T).a8 j=none:=dR e;rw[this] at e6;simp[d8] at e6
   have ZJ:T[j]? = some T[j]:=dz ay;have ZK:cO.a4[j]? = some (cO.a4[j]'(by omega)):=dz (by omega);have qd:d8 (some T[j]) i=some cp:=(by have:(f7 T).a8 j=some T[j]:=ZJ;rw[this] at e6;exact e6);obtain⟨r,k,o,n1,n2,ano,anp⟩:=(t2 j _ _ ZJ ZK).2.2.2 i cp qd;exact⟨r,k,o,xS.2 ⟨_,ZK,n1,n2⟩,ano,anp⟩
  obtain⟨b,js,iw,rfl⟩:=xS.1 e;obtain⟨eM,vB⟩:=ob j b js;have:=(t2 j eM b vB js).2.1 r k iw hu;show b.mg k<((T[j]?).getD []).length;rw[vB];exact this
 ·rintro r k o ⟨j,i,e⟩ ap;obtain⟨b,js,iw,-⟩:=xS.1 e;obtain⟨eM,vB⟩:=ob j b js;exact(t2 j eM b vB js).1 r k o iw ap
 intro r k o hm;obtain⟨j,ay⟩:=ap6 hm;obtain⟨eM,vB⟩:=ob j _ ay;exact Kd ((t2 j eM _ vB ay).2.2.1 r k o rfl)
end
def D5 (P:Program)(s:S)(ba:Nat)(o:Oper)(dc:fY):Option jv :=
 match dc with
 | .call cO=>match o.op with
  | .call {callee:= .value f,args,..}=>match fN s.E f with
   | .fn id cap=>Ef P s.a8 ba id (args.toList.map (fN s.E)++cap) cO
   | _=>none
  | _=>none
 | gM=>EC P s.E s.a8 ba o gM
def EG:List (Nat×List aS)->(Nat->Option (List aS))->Nat->Option (List aS)
 | [],a8,q=>a8 q
 | (r,row)::u,a8,q=>EG u (fun x=>if x=r then some row else a8 x) q
theorem Ol : ∀(u:List (Nat×List aS)) (s:S) (q:Nat),(s.jQ u).a8 q=EG u s.a8 q
 | [],_,_=>rfl
 | (r,row)::u,s,q=>Ol u (s.setRow r row) q
def zK (a8:Nat->Option (List aS))(ba r n:Nat)(bK:jv):Option jv :=
 match EG bK.hj a8 ba,EG bK.hj a8 r with
 | some gL,some l=>if ba=r then none else
  some {val:=mI ba r n bK.val,hj:=bK.hj++[(ba,gL.map uG),(r,l++gL.map (oC ba r n))],gz:=bK.gz++[l.length=n]}
 | _,_=>none
def Yg (o:Oper)(t:Nat):Bool:=o.op.operands.toList.any fun | .tmp u=>u == t|_=>false
inductive k4:aF->aF->Prop
 | refl (x:aF):k4 x x
 | n1 (r c sz:Nat):k4 (.kx r c sz none) (.isl sz [])
 | n2 (r c sz:Nat):k4 (.isl sz []) (.kx r c sz none)
 | s1 (r c sz k n:Nat):k4 (.kx r c sz (some (k,n))) (.br r (k+c) 0 n)
 | s2 (r c sz k n:Nat):k4 (.br r (k+c) 0 n) (.kx r c sz (some (k,n)))
 | agg {c ez:List aF} (aR:ez.length=c.length) (h : ∀(j:Nat) x de,c[j]? = some x->ez[j]? = some de->k4 x de):k4 (.agg c) (.agg ez)
theorem k4.symm {x v:aF}(h:k4 x v):k4 v x:=by
 induction h with
 | refl x=>exact .refl x
 | n1 r c sz=>exact .n2 r c sz
 | n2 r c sz=>exact .n1 r c sz
 | s1 r c sz k n=>exact .s2 r c sz k n
 | s2 r c sz k n=>exact .s1 r c sz k n
 | agg aR h ih=>exact .agg aR.symm fun j x de U eT=>ih j de x eT U
theorem k4.rel {x v:aF}(h:k4 x v){w:World}{ok:Nat->Prop}{bg:kX}{bn:kL}: ∀ {u:Value},Rel w ok bg bn x u->Rel w ok bg bn v u:=by
 induction h with
 | refl x=>exact fun h=>h
 | n1 r c sz=>intro u h;cases h with|o0 h=>exact h
 | n2 r c sz=>exact fun h=> .o0 h
 | s1 r c sz k n=>intro u h;cases h with|p7 h=>exact h
 | s2 r c sz k n=>exact fun h=> .p7 h
 | @agg c ez aR h ih =>
  intro u hu;obtain⟨vs,rfl,h1,h2,J⟩:=hu.DQ;refine .agg vs (by omega) h2 fun j de u eT hu=> ?_;have eN:j<c.length:=(by have:=f6 eT;omega);exact ih j _ de (dz eN) eT (J j _ u (dz eN) hu)
def mF (P:Program)(ba:Nat)(o:Oper):fY->S->Option jv
 | .fm t v gM,s=>if Yg o t then
  match mF P ba o gM {E:=fun u=>if u=t then v else s.E u,a8:=s.a8} with
  | some r=>some {r with gz:=k4 (s.E t) v::r.gz}
  | none=>none
  else none
 | .s8 r gM,s=>match s.a8 r with
  | some row=>match mF P ba o gM (s.setRow r (n6 row)) with
   | some bK=>some {bK with hj:=(r,n6 row)::bK.hj}
   | none=>none
  | none=>none
 | .u6 r n gM,s=>match mF P ba o gM s with
  | some bK=>zK s.a8 ba r n bK
  | none=>none
 | gM,s=>D5 P s ba o gM
def KR (P:Program)(s:S)(ba:Nat)(o:Oper)(dc:fY):Option jv:=mF P ba o dc s
def wT (P:Program)(s:S)(ba:Nat)(o:Oper)(dc:fY):Option jv :=
 match KR P s ba o dc with
 | some r=>if r.hj.all (fun p=>decide (p.1=ba) || (s.a8 p.1).isSome) then some r else none
 | none=>none
def YS (N:Nat)(o:Oper):Bool :=
 match o.dst with
 | some d=>decide (d<N)
 | none=>true
def tL (P:Program)(N:Nat)(ops:Array Oper)(s:S)(ba:Nat)(o:Oper)(gM:fY×Bool):Option jv :=
 if YS N o=false then none else
 match o.guard with
 | none=>wT P s ba o gM.1
 | some (j,want)=>match (ops[j]?).bind (·.dst) with
  | none=>none
  | some d=>match s.E d with
   | .b x=>if gM.2 then (match wT P s ba o gM.1 with
    | some r=>some {r with gz:=(x=want)::r.gz}
    | none=>none)
    else some {val:= .dd [],gz:=[x = !want]}
   | .dd []=>some {val:= .dd []}
   | _=>none
def S.aB (s:S)(o:Oper)(r:jv):S:=(s.jQ r.hj).put o.dst r.val
section
variable {P:Program} {g:G} {s:S} {aG:gE} {a:Act} {w:World}
theorem ahk {o:Oper}{bK:jv}(h:Fin P g s a w o bK)(bD:∀d,o.dst=some d->d<g.N){K:Act->World->Prop}{Q:Exit->Act->World->Prop}
 (jh : ∀b6 eF bZ,dh g (s.aB o bK) b6 eF bZ->K eF bZ):o.wp P a w K Q:=by
 obtain⟨v,bZ,b6,kF,bM,aj⟩:=h;unfold Oper.wp;rcases kF with kF|⟨kF,rfl⟩
 ·rw[kF];exact jh b6 _ _ (bM.put o.dst bD aj)
 rw[kF];exact jh b6 _ _ (bM.put o.dst bD aj)
theorem agz {o:Oper}{f:Operand}{args:Array Operand}{pk:Array TypeId}(ap:o.op = .call ⟨.value f,args,pk⟩){id:Nat}{cap:List Value}(cq:a.eval f = .func (.func id) #[] cap.toArray)
 (a0:Kg P id) {K:Act->World->Prop} {Q:Exit->Act->World->Prop}
 (h:Calls P id (args.toList.map a.eval++cap).toArray w fun
   | .returned v,P7=>K (a.put o.dst v) P7
   | .panicked chain,P7=>Q (.panic chain) a P7
   | .outgrown,_=>LetsOut Q):o.wp P a w K Q:=by
 obtain⟨fn,h1,h2,J⟩:=a0;have e:args.map a.eval++cap.toArray=(args.toList.map a.eval++cap).toArray:=by apply Array.ext';simp
 have kF:(execOp a.eval o).run P w = .ok (.enter id (args.toList.map a.eval++cap).toArray) w:=by have aU:fn.name ≠ "runtime.NumGoroutine" := (by simpa using h2);have pF:fn.body≠none:=(by intro e;simp[e] at J);simp only[execOp,ap,resolve,cq,Deferred.ofValue,invoke,callFunc];simp[h1,aU,pF,e]
 unfold Oper.wp;rw[kF];exact h
theorem zl (h:dh g s aG a w){ba:Nat}(fV:s.a8 ba=none){o:Oper}{dc:fY}{bK:jv}(aC:D5 P s ba o dc=some bK)(cW:∀p∈bK.gz,p)
 (bD : ∀d,o.dst=some d->d<g.N) {K:Act->World->Prop} {Q:Exit->Act->World->Prop} (jh : ∀b6 eF bZ,dh g (s.aB o bK) b6 eF bZ->K eF bZ):o.wp P a w K Q:=by
 unfold D5 at aC;split at aC;rotate_left
 ·exact ahk (ahj h fV aC cW) bD jh
 rename_i cO;split at aC;rotate_left
 ·simp at aC
 rename_i f args pk ap;split at aC;rotate_left
 ·simp at aC
 rename_i id cap iL;have cq:=h.eval f;rw[iL] at cq;obtain⟨vs,hval,aR,aj⟩:=cq.KO
 obtain⟨a0,aj3⟩:=af4 (vs:=args.toList.map a.eval++vs) h fV aC cW (by simp[aR]) (by
  intro j x v U bh;rw[List.getElem?_append] at U bh;simp only[ap4] at U bh;split at U
  ·rename_i ay;rw[dw ay] at bh;rw[dK,dP] at U bh;obtain⟨p,ah,rfl⟩:=U;obtain⟨q,a1,rfl⟩:=bh;rw[ah] at a1;simp at a1;subst a1;exact h.eval p
  rename_i ay;rw[dA ay] at bh;exact aj _ x v U bh)
 refine agz ap hval a0 (aj3.mono fun e bZ hw=> ?_);obtain⟨v,b6,rfl,h1,h2⟩:=hw;exact jh b6 _ _ (h1.put o.dst bD h2)
theorem dh.Pd {s:S}(h:dh g s aG a w)(dst:Option Tmp){x:aF}(aj:∀d,dst=some d->Rel w (s.ok g aG w) s.bg (s.bn aG) x (a.tmps.getD d undef)):dh g (s.put dst x) aG a w where
 tojX:=h.tojX.congr (S.x6 s dst x)
 env:=by
  have e:=S.x6 s dst x;rw[GL e,DI e,DJ e];intro t
  cases dst with
  | none=>simpa [S.put] using h.env t
  | some d =>
   simp only[S.put];by_cases e:t=d
   ·subst e;simpa using aj t rfl
   rw[dA e];exact h.env t
 defers:=h.defers
 lz:=h.lz
theorem XF (s:S)(dst:Option Tmp)(x y:aF):(s.put dst x).put dst y=s.put dst y:=by
 cases dst with
 | none=>rfl
 | some d =>
  simp only[S.put,S.mk.injEq,and_true];funext u;split<;>rfl
theorem VU (s:S)(dst:Option Tmp)(x:aF)(r:Nat)(row:List aS):(s.put dst x).setRow r row=(s.setRow r row).put dst x:=by cases dst<;>rfl
theorem Ha : ∀(u:List (Nat×List aS)) (s:S),(s.jQ u).E=s.E
 | [],_=>rfl
 | (r,row)::u,s=>Ha u (s.setRow r row)
theorem Kh : ∀(u:List (Nat×List aS)) (s:S) (dst:Option Tmp) (x:aF),(s.put dst x).jQ u=(s.jQ u).put dst x
 | [],_,_,_=>rfl
 | (r,row)::u,s,dst,x=>by show ((s.put dst x).setRow r row).jQ u=_;rw[VU,Kh u];rfl
theorem af5 {s:S}{ba r n:Nat}{o:Oper}{bK sb:jv}(hm:zK s.a8 ba r n bK=some sb)(cW:∀p∈sb.gz,p){aG:gE}{a:Act}{w:World}(h:dh g (s.aB o bK) aG a w):
 ∃b6,dh g (s.aB o sb) b6 a w:=by
 unfold zK at hm;split at hm;rotate_left
 ·simp at hm
 rename_i gL l h1 h2;split at hm
 ·simp at hm
 rename_i di;simp only[dB] at hm;subst hm;have aU:l.length=n:=cW _ (by simp);subst aU;have e1:(s.aB o bK).a8 ba=some gL:=by rw[S.aB,S.x6,Ol];exact h1
 have e2:(s.aB o bK).a8 r=some l:=by rw[S.aB,S.x6,Ol];exact h2
 obtain⟨b6,f1,f2⟩:=h.merge e2 e1 di;refine⟨b6,?_⟩;have:=f1.Pd o.dst (x:=mI ba r l.length bK.val) (fun d bD=>f2 _ _ (by have:=h.env d;simpa [S.aB,S.put,bD] using this))
 have he:s.aB o {val:=mI ba r l.length bK.val,hj:=bK.hj++[(ba,gL.map uG),(r,l++gL.map (oC ba r l.length))],gz:=bK.gz++[l.length=l.length]} =
  ((s.aB o bK).setRow ba (gL.map uG) |>.setRow r (l++gL.map (oC ba r l.length))).put o.dst (mI ba r l.length bK.val):=by
  simp only[S.aB,VU,XF];simp only[S.jQ,List.foldl_append,List.foldl_cons,List.foldl_nil]
 rw[he];exact this
theorem JU {ba:Nat}{o:Oper}(bD:∀d,o.dst=some d->d<g.N){K:Act->World->Prop}{Q:Exit->Act->World->Prop}:
 ∀(dc:fY) (s:S) (h:dh g s aG a w) (fV:s.a8 ba=none) (bK:jv),mF P ba o dc s=some bK->(∀p∈bK.gz,p)->(∀b6 eF bZ,dh g (s.aB o bK) b6 eF bZ->K eF bZ)->o.wp P a w K Q
 | .s8 r gM,s,h,fV,bK,aC,cW,jh=>by
  unfold mF at aC;split at aC
  ·rename_i row ev
   split at aC
   ·rename_i sb aj;simp only[dB] at aC;subst aC;have di:ba≠r:=(by rintro rfl;rw[fV] at ev;simp at ev);exact JU bD gM (s.setRow r (n6 row)) (h.freeze ev) (by simp[S.setRow,di,fV]) sb aj cW jh
   simp at aC
  simp at aC
 | .fm t v gM,s,h,fV,bK,aC,cW,jh=>by
  unfold mF at aC;split at aC;rotate_left
  ·simp at aC
  split at aC;rotate_left
  ·simp at aC
  rename_i r aj;simp only[dB] at aC;subst aC;have e:k4 (s.E t) v:=cW _ (by simp);have bh:Rel w (s.ok g aG w) s.bg (s.bn aG) v (a.tmps.getD t undef):=(by exact e.rel (h.env t));have h2:=h.Pd (some t) (x:=v) (fun d bD=>by simp at bD;subst bD;exact bh);refine JU bD gM (s.put (some t) v) h2 fV r aj (fun p ah=>cW p (by simp[ah])) fun b6 eF bZ bM=>jh b6 eF bZ ?_;have U:Rel bZ (((s.put (some t) v).aB o r).ok g b6 bZ) ((s.put (some t) v).aB o r).bg (((s.put (some t) v).aB o r).bn b6) v (eF.tmps.getD t undef)->Rel bZ (((s.put (some t) v).aB o r).ok g b6 bZ) ((s.put (some t) v).aB o r).bg (((s.put (some t) v).aB o r).bn b6) (s.E t) (eF.tmps.getD t undef):=(by exact fun h0=>e.symm.rel h0);by_cases P8:o.dst=some t
  ·have:s.aB o {r with gz:=k4 (s.E t) v::r.gz}=(s.put (some t) v).aB o r:=by
    simp only[S.aB,Kh,P8,XF]
   rw[this];exact bM
  have e8:((s.put (some t) v).aB o r).E t=v:=by
   simp only[S.aB,Kh]
   cases AK:o.dst with
   | none=>simp[S.put]
   | some d =>
    have:t≠d:=(by rintro rfl;exact P8 AK);simp[S.put,this]
  have:s.aB o {r with gz:=k4 (s.E t) v::r.gz}=((s.put (some t) v).aB o r).put (some t) (s.E t):=by
   simp only[S.aB,Kh]
   cases AK:o.dst with
   | none =>
    have key : ∀(s1:S) (x y:aF),s1.E t=y->s1=(s1.put (some t) x).put (some t) y:=by
     intro s1 x y aV
     cases s1 with
     | mk E a8 =>
      simp only[S.put,S.mk.injEq,and_true];funext u;split
      ·rename_i hu;rw[hu];exact aV
      rfl
    exact key (s.jQ r.hj) v _ (by rw[Ha])
   | some d =>
    have:t≠d:=(by rintro rfl;exact P8 AK);simp only[S.put,S.mk.injEq,and_true];funext u;by_cases h1:u=t
    ·subst h1;simp[this,Ha]
    simp[h1]
  rw[this];exact bM.Pd (some t) (fun d bD=>by simp at bD;subst bD;exact U (by have:=bM.env t;rw[e8] at this;exact this))
 | .u6 r n gM,s,h,fV,bK,aC,cW,jh=>by
  unfold mF at aC;split at aC
  ·rename_i sb aj
   refine JU bD gM s h fV sb aj (fun p ah=>cW p ?_) fun b6 eF bZ bM=> ?_
   ·unfold zK at aC
    split at aC
    ·split at aC
     ·simp at aC
     simp only[dB] at aC;subst aC;simp[ah]
    simp at aC
   obtain⟨nB,h2⟩:=af5 aC cW bM;exact jh nB eF bZ h2
  simp at aC
 | .none,s,h,fV,bK,aC,cW,jh=>zl h fV (by unfold mF at aC;exact aC) cW bD jh
 | .ab b,s,h,fV,bK,aC,cW,jh=>zl h fV (by unfold mF at aC;exact aC) cW bD jh
 | .cf c,s,h,fV,bK,aC,cW,jh=>zl h fV (by unfold mF at aC;exact aC) cW bD jh
 | .gS ao c,s,h,fV,bK,aC,cW,jh=>zl h fV (by unfold mF at aC;exact aC) cW bD jh
 | .eb,s,h,fV,bK,aC,cW,jh=>zl h fV (by unfold mF at aC;exact aC) cW bD jh
 | .call c,s,h,fV,bK,aC,cW,jh=>zl h fV (by unfold mF at aC;exact aC) cW bD jh
 | .aB m cp,s,h,fV,bK,aC,cW,jh=>zl h fV (by unfold mF at aC;exact aC) cW bD jh
theorem afK (h:dh g s aG a w){ba:Nat}(fV:s.a8 ba=none){o:Oper}{dc:fY}{bK:jv}(aC:KR P s ba o dc=some bK)(cW:∀p∈bK.gz,p)
 (bD : ∀d,o.dst=some d->d<g.N) {K:Act->World->Prop} {Q:Exit->Act->World->Prop} (jh : ∀b6 eF bZ,dh g (s.aB o bK) b6 eF bZ->K eF bZ):o.wp P a w K Q :=
 JU bD dc s h fV bK aC cW jh
theorem Vr (h:dh g s aG a w){ba:Nat}(fV:s.a8 ba=none){o:Oper}{dc:fY}{bK:jv}(aC:wT P s ba o dc=some bK)(cW:∀p∈bK.gz,p)
 (bD : ∀d,o.dst=some d->d<g.N) {K:Act->World->Prop} {Q:Exit->Act->World->Prop} (jh : ∀b6 eF bZ,dh g (s.aB o bK) b6 eF bZ->K eF bZ):o.wp P a w K Q:=by
 unfold wT at aC;split at aC
 ·rename_i r aj
  split at aC
  ·simp only[dB] at aC;subst aC;exact afK h fV aj cW bD jh
  simp at aC
 simp at aC
theorem Wr {ok:Nat->Prop}{bg:kX}{bn:kL}:Rel w ok bg bn (.dd []) undef:=by have:=Rel.dd (w:=w) (ok:=ok) (bg:=bg) (bn:=bn) (c:=[]) [] rfl (by simp);exact this
theorem Vs (h:dh g s aG a w){ops:Array Oper}{i ba:Nat}(fV:s.a8 ba=none){o:Oper}(aa:ops[i]? = some o){gM:fY×Bool}{bK:jv}(aC:tL P g.N ops s ba o gM=some bK)
 (cW : ∀p∈bK.gz,p) {K:Act->World->Prop} {Q:Exit->Act->World->Prop} (jh : ∀b6 eF bZ,dh g (s.aB o bK) b6 eF bZ->K eF bZ):wpOp P ops Q i K a w:=by
 unfold tL at aC;split at aC
 ·simp at aC
 rename_i HM;have bD : ∀d,o.dst=some d->d<g.N:=by intro d bD;unfold YS at HM;rw[bD] at HM;simpa using HM
 unfold wpOp;simp only[aa];have Ze : ∀r:jv,r={val:= .dd [],gz:=r.gz}->(∀b6 eF bZ,dh g (s.aB o r) b6 eF bZ->K eF bZ)->K (a.put o.dst undef) w:=by intro r aj al5;refine al5 aG _ _ ?_;rw[aj];exact h.put o.dst bD Wr
 split at aC
 ·rename_i du;have hw:Region.wanted o (yielded ops a.tmps)=true:=(by simp[Region.wanted,du]);rw[dw hw];exact .inl (Vr h fV aC cW bD jh)
 rename_i j want du;split at aC
 ·simp at aC
 rename_i d ZL;have hval:=h.env d;split at aC
 ·rename_i x U
  rw[U] at hval;have bh:=hval.x7
  have eN:d<a.tmps.size:=by
   rcases Nat.lt_or_ge d a.tmps.size with c1|c1
   ·exact c1
   rw[ap3,Array.getElem?_eq_none c1] at bh;simp[undef] at bh
  have aV:yielded ops a.tmps j=some x:=(by unfold yielded;rw[ZL];rw[ap3,apU eN] at bh;simp only[Option.getD_some] at bh;simp[apU eN,bh]);split at aC
  ·split at aC
   ·rename_i r aj;simp only[dB] at aC;subst aC;have P9:x=want:=cW _ (by simp);have hw:Region.wanted o (yielded ops a.tmps)=true:=(by simp[Region.wanted,du,aV,P9]);rw[dw hw];exact .inl (Vr h fV aj (fun p ah=>cW p (by simp[ah])) bD jh)
   simp at aC
  simp only[dB] at aC;subst aC;have P9:x = !want:=cW _ (by simp);have hw:Region.wanted o (yielded ops a.tmps)=false:=(by simp[Region.wanted,du,aV,P9]);rw[hw];exact Ze _ rfl jh
 ·rename_i U
  simp only[dB] at aC;subst aC;rw[U] at hval;obtain⟨vs,bh,aR,-⟩:=hval.DR;have:vs=[]:=dM.1 (by simpa using aR);subst this
  have aV:yielded ops a.tmps j=none:=by
   unfold yielded;rw[ZL];rw[ap3] at bh
   cases a1:a.tmps[d]? with
   | none=>simp[a1]
   | some v=>rw[a1] at bh;simp only[Option.getD_some] at bh;simp[a1,bh]
  have hw:Region.wanted o (yielded ops a.tmps)=false:=(by simp[Region.wanted,du,aV]);rw[hw];exact Ze _ rfl jh
 simp at aC
end
def tC (P:Program)(N:Nat)(ops:Array Oper):List Oper->List (fY×Bool)->S->Nat->Option (S×List Prop)
 | [],[],s,_=>some (s,[])
 | o::l,gM::dc,s,ba=>match tL P N ops s ba o gM with
  | some bK=>match tC P N ops l dc (s.aB o bK) (ba+1) with
   | some (b8,ao)=>some (b8,bK.gz++ao)
   | none=>none
  | none=>none
 | _,_,_,_=>none
def S.mB (s:S)(n:Nat):Prop:= ∀r,n<=r->s.a8 r=none
theorem Ws : ∀(u:List (Nat×List aS)) (s:S) (q:Nat),(∀p∈u,p.1≠q)->(s.jQ u).a8 q=s.a8 q
 | [],s,q,_=>rfl
 | (r,row)::u,s,q,h=>by show ((s.setRow r row).jQ u).a8 q=_;rw[Ws u (s.setRow r row) q fun p ah=>h p (by simp[ah])];have:=h (r,row) (by simp);simp[S.setRow,Ne.symm this]
theorem JZ {P:Program}{N:Nat}{ops:Array Oper}{s:S}{ba:Nat}{o:Oper}{gM:fY×Bool}{bK:jv}(h:tL P N ops s ba o gM=some bK)(cq:s.mB ba):(s.aB o bK).mB (ba+1):=by
 have key : ∀r,(∀p∈r.hj,p.1=ba\/(s.a8 p.1).isSome=true)->(s.aB o r).mB (ba+1):=by
  intro r aj q a1;unfold S.aB;rw[S.x6,Ws]
  ·exact cq q (by omega)
  rintro p ah rfl;rcases aj p ah with e|e
  ·omega
  rw[cq _ (by omega)] at e;simp at e
 have ZM : ∀r,wT P s ba o gM.1=some r-> ∀p∈r.hj,p.1=ba\/(s.a8 p.1).isSome=true:=by
  intro r aj;unfold wT at aj;split at aj
  ·split at aj
   ·rename_i a0;simp only[dB] at aj;subst aj;intro p ah;have:=List.all_eq_true.1 a0 p ah;simpa using this
   simp at aj
  simp at aj
 unfold tL at h;split at h
 ·simp at h
 split at h
 ·exact key bK (ZM bK h)
 split at h
 ·simp at h
 split at h
 ·split at h
  ·split at h
   ·rename_i r aj;simp only[dB] at h;subst h;exact key _ (ZM r aj)
   simp at h
  simp only[dB] at h;subst h;exact key _ (by simp)
 ·simp only[dB] at h;subst h;exact key _ (by simp)
 simp at h
theorem Vd {P:Program}{ops:Array Oper}{Q:Exit->Act->World->Prop}{g:G}: ∀(l:List Oper) (dc:List (fY×Bool)) (s b8:S) (ba i:Nat) (ao:List Prop),
 (∀j o,l[j]? = some o->ops[i+j]? = some o)->tC P g.N ops l dc s ba=some (b8,ao)->(∀p∈ao,p)->s.mB ba ->
 (∀b6 eF bZ,dh g b8 b6 eF bZ->Q .normal eF bZ)-> ∀aG a w,dh g s aG a w->wpOps P ops Q ((List.range l.length).map (i + ·)) a w
 | [],[],s,b8,ba,i,ao,_,h,_,_,yD,aG,a,w,aj=>by simp[tC] at h;obtain⟨rfl,rfl⟩:=h;exact yD aG a w aj
 | o::l,gM::dc,s,b8,ba,i,ao,aR,h,bt,cq,yD,aG,a,w,aj=>by
  simp only[tC] at h;split at h;rotate_left
  ·simp at h
  rename_i bK aC;split at h
  ·rename_i s2 Ic h2
   simp only[dB,dF] at h;obtain⟨rfl,rfl⟩:=h;have e:(List.range (o::l).length).map (i + ·)=i::(List.range l.length).map (i+1 + ·):=(by rw[dI,List.range_succ_eq_map,List.map_cons,List.map_map];congr 1;apply ap8;intro x _;simp[Function.comp];omega);rw[e,wpOps_cons];refine Vs aj (cq ba (dD _)) (by simpa using aR 0 o rfl) aC (fun p ah=>bt p (by simp[ah])) fun b6 eF bZ jo=> ?_
   exact Vd l dc (s.aB o bK) s2 (ba+1) (i+1) Ic (fun j cp ay=>by rw[show i+1+j=i+(j+1) by omega];exact aR (j+1) cp (by simpa using ay)) h2 (fun p ah=>bt p (by simp[ah]))
    (JZ aC cq) yD b6 eF bZ jo
  simp at h
 | [],_::_,_,_,_,_,_,_,h,_,_,_,_,_,_,_=>by simp[tC] at h
 | _::_,[],_,_,_,_,_,_,h,_,_,_,_,_,_,_=>by simp[tC] at h
end Go.VL
