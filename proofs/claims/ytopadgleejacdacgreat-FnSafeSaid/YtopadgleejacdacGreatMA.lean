/- Lemmas, plain functions of the program, and what they answer. No condition. -/
import Derived.Below
import Derived.Eval
import Derived.KernelRfl
import Derived.Laws.Append
import Derived.Laws.AppendOwn
import Derived.Laws.BytesString
import Derived.Laws.Cells
import Derived.Laws.CopyRow
import Derived.Laws.Entries
import Derived.Laws.MakeOwn
import Derived.Laws.OwnMore
import Derived.Laws.Rows
import Derived.Laws.Slices
import Derived.Laws.Tables
import Derived.Orders
namespace Go.VL
set_option linter.unusedVariables false
set_option linter.unusedSimpArgs false
open Go
abbrev ar:=List Int
theorem dw{c:Prop}{h:Decidable c}(i:c){α:Sort _}{t e:α}:ite c t e=t:=if_pos i
theorem dx{α:Type _}{l:List α}{i:Nat}(h:i<l.length):l[i]? = some l[i]:=List.getElem?_eq_getElem h
theorem dy{α:Type _}(a b:α):(some a=some b)=(a=b):=Option.some.injEq a b
theorem dz(n:Nat):(n:Int).toNat=n:=rfl
theorem dA{c:Prop}{h:Decidable c}(i:¬c){α:Sort _}{t e:α}:ite c t e=e:=if_neg i
theorem dB{α β:Type _}(a:α)(f:α->Option β):(some a).bind f=f a:=rfl
theorem dC{α β:Type _}(a:α)(b:β)(c:α)(d:β):((a,b)=(c,d))=(a=c/\b=d):=Prod.mk.injEq a b c d
theorem dD{α β:Type _}:bind=@Option.bind α β:=rfl
theorem dE(n:Nat):n<=n:=Nat.le_refl n
theorem dF(n:Nat):0+n=n:=Nat.zero_add n
theorem dG{α:Type _}{l:List α}{i:Nat}{a:α}(e:l[i]? = some a):a∈l:=List.mem_of_getElem? e
theorem dH{α:Type _}{a b:List α}:(a++b).length=a.length+b.length:=List.length_append
theorem dI{α:Type _}{a b:α}(h:some a=some b):a=b:=Option.some.inj h
theorem dJ{α β:Type _}{f:α->β}{l:List α}{i:Nat}:(l.map f)[i]? =l[i]?.map f:=List.getElem?_map
theorem dK{α:Type _}{l:List α}:l.length=0↔l=[]:=List.length_eq_zero_iff
theorem dL{a b c:Int}(h:a<=b)(i:0<=c):c*a<=c*b:=Int.mul_le_mul_of_nonneg_left h i
theorem dM{α:Type _}{a:α}{l:List α}:(a::l).length=l.length+1:=rfl
theorem dN{α β:Type _}{b:α}{x:Option β}{f:β->α}:Option.map f x=some b↔∃a,x=some a/\f a=b:=Option.map_eq_some_iff
theorem dO{α:Type _}{b:α}{l:List α}{a:α}:a∈b::l↔a=b\/a∈l:=List.mem_cons
theorem dP{α:Type _}{l:List α}{i:Nat}(h:l.length<=i):l[i]? =none:=List.getElem?_eq_none h
theorem dQ{α β:Type _}(a:α)(f:α->β):Option.map f (some a)=some (f a):=rfl
theorem dR{α:Type _}{l:List α}{i j:Nat}:(l.take i)[j]? =if j<i then l[j]? else none:=List.getElem?_take
theorem dS{α:Type _}{l:Array α}{i:Nat}(h:i<l.size):l[i]? =some l[i]:=Array.getElem?_eq_getElem h
theorem dT{α:Type _}{i:Nat}{l:List α}(h:l.length<=i):l.take i=l:=List.take_of_length_le h
theorem afb{α:Type _}{l:List α}{m:List (List α)}:(l::m).flatten=l++m.flatten:=rfl
theorem afc{α:Type _}{l:List α}{i:Nat}{a:α}:l.getD i a=l[i]?.getD a:=List.getD_eq_getElem?_getD
theorem afd(a b:Bool):((a&&b)=true)=(a=true/\b=true):=Bool.and_eq_true a b
theorem afe{α:Type _}{l:Array α}{i:Nat}{d:α}:l.getD i d=l[i]?.getD d:=Array.getD_eq_getD_getElem?
theorem aff{α:Type _}{l:List α}{i j:Nat}{a:α}:(l.set i a)[j]? =if i=j then if i<l.length then some a else none else l[j]?:=List.getElem?_set
theorem afg{α:Type _}{a:α}:¬a∈([]:List α):=List.not_mem_nil
theorem afh{α:Type _}{l m:List α}{i:Nat}(h:i<l.length):(l++m)[i]? =l[i]?:=List.getElem?_append_left h
theorem afi{n m:Nat}(k:Nat)(h:n<=m):n*k<=m*k:=Nat.mul_le_mul_right k h
theorem afj{α:Type _}{i:Nat}{b:α}{l:Array α}:l[i]? =some b↔∃h:i<l.size,l[i]=b:=Array.getElem?_eq_some_iff
theorem afk :(false=true)=False:=Bool.false_eq_true
theorem afl{α:Type _}{i:Nat}{a:α}{l:List α}:l[i]? =some a↔∃h:i<l.length,l[i]=a:=List.getElem?_eq_some_iff
theorem afm{α:Type _}{l:List α}{i j:Nat}:(l.drop i)[j]? =l[i+j]?:=List.getElem?_drop
theorem afn{α:Type _}{l m:List α}{i:Nat}(h:l.length<=i):(l++m)[i]? =m[i-l.length]?:=List.getElem?_append_right h
theorem afo{α:Type _}{l m:List α}(h:∀(i:Nat),l[i]? =m[i]?):l=m:=List.ext_getElem? h
theorem afp{α:Type _}:([]:List α).length=0:=rfl
theorem afq{α β:Type _}{l:List α}{f g:α->β}(h:∀a,a∈l->f a=g a):l.map f=l.map g:=List.map_congr_left h
theorem afr{α:Type _}{a:α}{l:List α}(h:a∈l):∃i:Nat,l[i]? =some a:=List.getElem?_of_mem h
theorem afs{α:Type _}{l:List α}:0<l.length↔l≠[]:=List.length_pos_iff
theorem aft{α β:Type _}{l:List α}(f:α->β):(l.map f).length=l.length:=List.length_map f
theorem afu{a b:Rat}(h:0<=a)(i:0<=b):0<=a*b:=Rat.mul_nonneg h i
theorem afv(a b:Int):((a*b:Int):Rat)=a*b:=Rat.intCast_mul a b
inductive an where
 | dead
 | b (x:Bool)
 | n (k:IntKind) (x:Int)
 | s (x:ByteArray)
 | h2
 | fq
 | ic
 | ref (r k i off:Nat)
 | bK (r k bw len:Nat)
 | iA (r c sz:Nat) (h:Option (Nat×Nat))
 | isl (sz:Nat) (es:List (List an))
 | e4 (sz:Nat) (es:List (List an)) (i off:Nat)
 | eW (sz:Nat) (c:Option (List an))
 | agg (c:List an)
 | cZ (vs:List an)
 | fn (f:Nat) (cap:List an)
 deriving Inhabited
inductive fZ where
 | live|iB|gone
 deriving DecidableEq,Inhabited
structure aM where
 sz:Nat
 es:List (List an)
 cg:fZ
 deriving Inhabited
structure S where
 E:Nat->an
 aH:Nat->Option (List aM)
abbrev jL (v:Value):Bool:=v.oneCell'
abbrev fj:=Nat->Nat->Option (Nat×Nat)
abbrev iP:=Nat->Nat->Option (Nat×Option (Nat×Nat))
abbrev iY:=Nat->Nat->Prop
inductive Pure:an->Prop
 | dead:Pure .dead
 | b (x:Bool):Pure (.b x)
 | n (k:IntKind) (x:Int):Pure (.n k x)
 | s (x:ByteArray):Pure (.s x)
 | h2:Pure .h2
 | fq:Pure .fq
 | ic:Pure .ic
 | isl {sz:Nat} {es:List (List an)} (h : ∀e∈es,∀x∈e,Pure x):Pure (.isl sz es)
 | e4 {sz i off:Nat} {es:List (List an)} (h : ∀e∈es,∀x∈e,Pure x):Pure (.e4 sz es i off)
 | pk (sz:Nat):Pure (.eW sz none)
 | oN {sz:Nat} {c:List an} (h : ∀x∈c,Pure x):Pure (.eW sz (some c))
 | agg {c:List an} (h : ∀x∈c,Pure x):Pure (.agg c)
 | cZ {c:List an} (h : ∀x∈c,Pure x):Pure (.cZ c)
 | fn {f:Nat} {c:List an} (h : ∀x∈c,Pure x):Pure (.fn f c)
def ht (es:List (List an)):Prop:= ∀e∈es,∀x∈e,Pure x
inductive Rel (w:World) (ok:Nat->Prop) (aW:iY) (a0:iP):an->Value->Prop
 | dead (v:Value):Rel w ok aW a0 .dead v
 | b (x:Bool):Rel w ok aW a0 (.b x) (.bool x)
 | n (k:IntKind) (x:Int):Rel w ok aW a0 (.n k x) (.int k x)
 | s (x:ByteArray):Rel w ok aW a0 (.s x) (.string x)
 | h2:Rel w ok aW a0 .h2 (.pointer none)
 | fq:Rel w ok aW a0 .fq (.slice none 0 0)
 | ic (a:Addr) (c:Nat):Rel w ok aW a0 .ic (.slice (some a) 0 c)
 | pN {r k i off:Nat} (a:Option Addr) (hu:aW r k) (h : ∀sz p,a0 r k≠some (sz,some p)):Rel w ok aW a0 (.ref r k i off) (.pointer a)
 | ref {r k i off sz dZ m:Nat} (hu:aW r k) (h:a0 r k=some (sz,some (dZ,m))):Rel w ok aW a0 (.ref r k i off) (.pointer (some ⟨dZ,i*sz+off,none⟩))
 | m2 {r k bw len:Nat} (a:Option Addr) (l c:Nat) (hu:aW r k) (h:a0 r k=none):Rel w ok aW a0 (.bK r k bw len) (.slice a l c)
 | nt {r k sz:Nat} (hu:aW r k) (h:a0 r k=some (sz,none)):Rel w ok aW a0 (.bK r k 0 0) (.slice none 0 0)
 | bK {r k bw len sz dZ m c:Nat} {a:Option Addr} (hu:aW r k) (h:a0 r k=some (sz,some (dZ,m))) (aF:len<=c) (aL:c<9223372036854775808)
  (hm:(bw+c)*sz=m/\(c=0\/a=some ⟨dZ,bw*sz,none⟩)):Rel w ok aW a0 (.bK r k bw len) (.slice a len c)
 | mx {r c sz:Nat} {v:Value} (h:Rel w ok aW a0 (.isl sz []) v):Rel w ok aW a0 (.iA r c sz none) v
 | nA {r c sz k n:Nat} {v:Value} (h:Rel w ok aW a0 (.bK r (k+c) 0 n) v):Rel w ok aW a0 (.iA r c sz (some (k,n))) v
 | jC (sz:Nat) (a:Option Addr) (c:Nat) (h:a=none->c=0):Rel w ok aW a0 (.isl sz []) (.slice a 0 c)
 | isl {sz:Nat} {es:List (List an)} {dZ off c:Nat} (cs:Nat->Value) (aN:ok dZ) (ah:ht es) (aF : ∀e∈es,e.length=sz) (aL:es.length<=c)
  (hw : ∀(j:Nat) x,es.flatten[j]? = some x->w.cell? ⟨dZ,off+j,none⟩=some (cs j)) (jA : ∀(j:Nat) x,es.flatten[j]? = some x->jL (cs j)=true)
  (aj : ∀(j:Nat) x,es.flatten[j]? = some x->Rel w ok aW a0 x (cs j)):Rel w ok aW a0 (.isl sz es) (.slice (some ⟨dZ,off,none⟩) es.length c)
 | e4 {sz:Nat} {es:List (List an)} {dZ I i off:Nat} (cs:Nat->Value) (aN:ok dZ) (ah:ht es) (aF : ∀e∈es,e.length=sz)
  (hw : ∀(j:Nat) x,es.flatten[j]? = some x->w.cell? ⟨dZ,I+j,none⟩=some (cs j)) (jA : ∀(j:Nat) x,es.flatten[j]? = some x->jL (cs j)=true)
  (aj : ∀(j:Nat) x,es.flatten[j]? = some x->Rel w ok aW a0 x (cs j)):Rel w ok aW a0 (.e4 sz es i off) (.pointer (some ⟨dZ,I+(i*sz+off),none⟩))
 | pk (sz:Nat):Rel w ok aW a0 (.eW sz none) (.pointer none)
 | oN {sz:Nat} {c:List an} {v:Value} (h:Rel w ok aW a0 (.e4 sz [c] 0 0) v):Rel w ok aW a0 (.eW sz (some c)) v
 | agg {c:List an} (vs:List Value) (aF:vs.length=c.length) (jA : ∀(j:Nat) v,vs[j]? = some v->jL v=true)
  (aj : ∀(j:Nat) x v,c[j]? = some x->vs[j]? = some v->Rel w ok aW a0 x v):Rel w ok aW a0 (.agg c) (.agg vs.toArray)
 | cZ {c:List an} (vs:List Value) (aF:vs.length=c.length)
  (aj : ∀(j:Nat) x v,c[j]? = some x->vs[j]? = some v->Rel w ok aW a0 x v):Rel w ok aW a0 (.cZ c) (.tuple vs.toArray)
 | fn {f:Nat} {c:List an} (vs:List Value) (aF:vs.length=c.length)
  (aj : ∀(j:Nat) x v,c[j]? = some x->vs[j]? = some v->Rel w ok aW a0 x v):Rel w ok aW a0 (.fn f c) (.func (.func f) #[] vs.toArray)
theorem Rel.mono {w bx:World}{ok kl:Nat->Prop}{aW mD:iY}{a0 lV:iP}{a:an}{v:Value}(h:Rel w ok aW a0 a v)
 (mE : ∀b,ok b->kl b) (hw : ∀b,ok b->bx.heap[b]? = w.heap[b]?)
 (i4 : ∀r k,aW r k->mD r k) (kP : ∀r k,aW r k->lV r k=a0 r k\/lV r k=none):Rel bx kl mD lV a v:=by
 have jA : ∀b I,ok b->bx.cell? ⟨b,I,none⟩=w.cell? ⟨b,I,none⟩:=fun b I aN=>World.cell?_of_block (hw b aN)
 induction h with
 | dead v=>exact .dead v
 | b x=>exact .b x
 | n k x=>exact .n k x
 | s x=>exact .s x
 | h2=>exact .h2
 | fq=>exact .fq
 | ic a c=>exact .ic a c
 | @pN r k i off a hu h =>
  refine .pN a (i4 r k hu) fun sz p=> ?_;rcases kP r k hu with e|e<;>rw[e]
  ·exact h sz p
  simp
 | @ref r k i off sz dZ m hu h =>
  rcases kP r k hu with e|e
  ·exact .ref (i4 r k hu) (e.trans h)
  exact .pN _ (i4 r k hu) fun sz p=>by rw[e];simp
 | @m2 r k bw len a l c hu h=>exact .m2 a l c (i4 r k hu) (by rcases kP r k hu with e|e<;>rw[e];exact h)
 | @nt r k sz hu h =>
  rcases kP r k hu with e|e
  ·exact .nt (i4 r k hu) (e.trans h)
  exact .m2 _ _ _ (i4 r k hu) e
 | @bK r k bw len sz dZ m c a hu h aF aL hm =>
  rcases kP r k hu with e|e
  ·exact .bK (i4 r k hu) (e.trans h) aF aL hm
  exact .m2 _ _ _ (i4 r k hu) e
 | mx h ih=>exact .mx ih
 | nA h ih=>exact .nA ih
 | jC sz a c h=>exact .jC sz a c h
 | isl cs aN ah aF aL BG hy aj ih=>exact .isl cs (mE _ aN) ah aF aL (fun j x aa=>(jA _ _ aN).trans (BG j x aa)) hy ih
 | e4 cs aN ah aF BG hy aj ih=>exact .e4 cs (mE _ aN) ah aF (fun j x aa=>(jA _ _ aN).trans (BG j x aa)) hy ih
 | pk sz=>exact .pk sz
 | oN h ih=>exact .oN ih
 | agg vs aF hy aj ih=>exact .agg vs aF hy ih
 | cZ vs aF aj ih=>exact .cZ vs aF ih
 | fn vs aF aj ih=>exact .fn vs aF ih
structure G where
 mn:World
 A:Nat->Prop
 px:Nat->Prop
 N:Nat
 m:Nat
 oU:iY
 rs:iP
def S.aW (s:S)(r k:Nat):Prop:=k<((s.aH r).getD []).length
def cX (row:Option (List aM))(k:Nat):Option aM :=
 match row with
 | some l=>match l[k]? with
  | some I=>if I.cg = .gone then none else some I
  | none=>none
 | none=>none
def S.af (s:S)(r k:Nat):Option aM:=cX (s.aH r) k
def S.a0 (s:S)(al:fj):iP:=fun r k=>(s.af r k).map fun I=>(I.sz,al r k)
def S.lk (s:S)(al:fj)(b:Nat):Prop:= ∃r k I m,s.af r k=some I/\I.cg = .live/\al r k=some (b,m)
def S.ok (s:S)(g:G)(al:fj)(w:World)(b:Nat):Prop :=
 b<w.heap.size/\(g.A b\/g.mn.heap.size<=b\/g.px b)/\ ¬s.lk al b
def iJ (w:World)(ok:Nat->Prop)(aW:iY)(a0:iP)(I:aM):Option (Nat×Nat)->Prop
 | none=>I.es=[]
 | some (dZ,m)=> ∃c ef,w.heap[dZ]? = some (.cells c ef (0,0))/\c.size=m/\(∀e∈I.es,e.length=I.sz) /\
  ∀(j:Nat) x,I.es.flatten[j]? = some x-> ∃v,c[j]? = some v/\jL v=true/\Rel w ok aW a0 x v
structure Bi (g:G) (w:World):Prop where
 os:w.os=g.mn.os
 tape:w.tape=g.mn.tape
 output:w.output=g.mn.output
 size:g.mn.heap.size<=w.heap.size
 block : ∀b,b<g.mn.heap.size-> ¬g.px b->w.heap[b]? = g.mn.heap[b]?
structure h3 (g:G) (s:S) (al:fj) (w:World):Prop where
 obj : ∀r k I,s.af r k=some I->iJ w (s.ok g al w) s.aW (s.a0 al) I (al r k)
 inj : ∀r k I ep dn bX b m aU,s.af r k=some I->s.af ep dn=some bX->al r k=some (b,m)->al ep dn=some (b,aU)->r=ep/\k=dn
 own : ∀r k I b m,s.af r k=some I->al r k=some (b,m)->g.mn.heap.size<=b\/g.px b
 gZ:Bi g w
 mlt : ∀b,g.px b->b<g.mn.heap.size
 m9 : ∀b,g.A b->b<g.mn.heap.size
 stay : ∀j k,g.oU j k->s.aW j k/\(s.a0 al j k=g.rs j k\/s.a0 al j k=none)
 low : ∀j k,g.oU j k->j<g.m
structure cq (g:G) (s:S) (al:fj) (a:Act) (w:World):Prop extends h3 g s al w where
 env : ∀t,Rel w (s.ok g al w) s.aW (s.a0 al) (s.E t) (a.tmps.getD t undef)
 defers:a.defers=[]
 jj:g.N<=a.tmps.size
def ofValue:Value->an
 | .bool x=> .b x
 | .int k x=> .n k x
 | .string x=> .s x
 | .pointer none=> .h2
 | .slice none 0 0=> .fq
 | _=> .dead
theorem MO {w:World}{ok:Nat->Prop}{aW:iY}{a0:iP}(v:Value):Rel w ok aW a0 (ofValue v) v:=by unfold ofValue;split<;>constructor
def eh (E:Nat->an):Operand->an
 | .tmp t=>E t
 | .const v=>ofValue v
 | .global _=> .dead
 | .func f=> .fn f []
theorem cq.eval {g:G}{s:S}{al:fj}{a:Act}{w:World}(h:cq g s al a w)(x:Operand):
 Rel w (s.ok g al w) s.aW (s.a0 al) (eh s.E x) (a.eval x):=by
 cases x with
 | tmp t=>exact h.env t
 | const v=>exact MO v
 | global g=>exact .dead _
 | func f=>exact .fn [] rfl (fun j x v aa=>by simp at aa)
def an.cells:an->List an
 | .agg c=>c
 | x=>[x]
def an.one:an->Bool
 | .dead | .agg _ | .cZ _=>false
 | _=>true
def an.yf:an->Bool
 | .dead | .cZ _=>false
 | _=>true
theorem an.MP {v:an}(h:v.yf=true):v.one=true\/ ∃c,v = .agg c:=by cases v<;>first|exact .inl rfl|exact .inr ⟨_,rfl⟩|simp[an.yf] at h
theorem Rel.jL {w:World}{ok:Nat->Prop}{aW:iY}{a0:iP}{a:an}{v:Value}(h:Rel w ok aW a0 a v)(bA:a.one=true):jL v=true:=by
 cases h with
 | oN h=>cases h;rfl
 | mx h=>cases h<;>rfl
 | nA h=>cases h<;>rfl
 | _=>first|rfl|simp[an.one] at bA
theorem Rel.cellsOf {w:World}{ok:Nat->Prop}{aW:iY}{a0:iP}{a:an}{v:Value}(h:Rel w ok aW a0 a v)(bA:a.one=true\/ ∃c,a = .agg c):
 ∃vs:List Value,v.cells=vs.toArray/\vs.length=a.cells.length/\(∀(j:Nat) x,vs[j]? = some x->VL.jL x=true) /\
  ∀(j:Nat) x u,a.cells[j]? = some x->vs[j]? = some u->Rel w ok aW a0 x u:=by
 rcases bA with bA|⟨c,rfl⟩
 ·have aL:=h.jL bA
  refine⟨[v],?_,?_,?_,?_⟩
  ·cases v<;>first|rfl|simp[VL.jL,Value.oneCell'] at aL
  ·cases a<;>first|rfl|simp[an.one] at bA
  ·intro j x aa
   cases j with
   | zero=>simp at aa;subst aa;exact aL
   | succ j=>simp at aa
  intro j x u aa hu;have e:a.cells=[a]:=by cases a<;>first|rfl|simp[an.one] at bA
  rw[e] at aa
  cases j with
  | zero=>simp at aa hu;subst aa;subst hu;exact h
  | succ j=>simp at aa
 cases h with
 | agg vs aF jA aj=>exact⟨vs,rfl,aF,jA,aj⟩
def S.put (s:S)(dst:Option Tmp)(v:an):S :=
 match dst with
 | some t=>{s with E:=fun u=>if u=t then v else s.E u}
 | none=>s
def S.setRow (s:S)(r:Nat)(row:List aM):S:={s with aH:=fun q=>if q=r then some row else s.aH q}
@[simp] theorem S.t8 (s:S) (dst:Option Tmp) (v:an):(s.put dst v).aH=s.aH:=by cases dst<;>rfl
@[simp] theorem S.ads (s:S) (r:Nat) (row:List aM):(s.setRow r row).E=s.E:=rfl
theorem Ax {s bH:S}(h:bH.aH=s.aH):bH.af=s.af:=by funext r k;simp[S.af,h]
theorem yg {s bH:S}(h:bH.aH=s.aH):bH.aW=s.aW:=by funext r k;simp[S.aW,h]
theorem yh {s bH:S}(h:bH.aH=s.aH)(al:fj):bH.a0 al=s.a0 al:=by unfold S.a0;rw[Ax h]
theorem Uz {s bH:S}(h:bH.aH=s.aH)(al:fj):bH.lk al=s.lk al:=by unfold S.lk;rw[Ax h]
theorem Ay {s bH:S}(h:bH.aH=s.aH)(g:G)(al:fj)(w:World):bH.ok g al w=s.ok g al w:=by funext b;unfold S.ok;rw[Uz h]
theorem h3.congr {g:G}{s bH:S}{al:fj}{w:World}(h:h3 g s al w)(e:bH.aH=s.aH):h3 g bH al w where
 obj:=by rw[Ax e,yg e,yh e,Ay e];exact h.obj
 inj:=by rw[Ax e];exact h.inj
 own:=by rw[Ax e];exact h.own
 gZ:=h.gZ
 mlt:=h.mlt
 m9:=h.m9
 stay:=by rw[yg e,yh e];exact h.stay
 low:=h.low
theorem Wz (a:Act)(dst:Option Tmp)(v:Value)(t:Nat)(ev:∀d,dst=some d->d<a.tmps.size):
 (a.put dst v).tmps.getD t undef=if dst=some t then v else a.tmps.getD t undef:=by
 cases dst with
 | none=>simp[Act.put]
 | some d =>
  have:=ev d rfl;simp only[Act.put,afe,Array.getElem?_setIfInBounds,dy];by_cases e:d=t
  ·subst e;simp[this]
  simp[e]
theorem cq.put {g:G}{s:S}{al:fj}{a:Act}{w:World}(h:cq g s al a w)(dst:Option Tmp){x:an}{v:Value}
 (bz : ∀d,dst=some d->d<g.N) (aj:Rel w (s.ok g al w) s.aW (s.a0 al) x v):cq g (s.put dst x) al (a.put dst v) w where
 toh3:=h.toh3.congr (S.t8 s dst x)
 env:=by
  have e:=S.t8 s dst x;rw[Ay e,yg e,yh e];intro t;rw[Wz a dst v t fun d tj=>Nat.lt_of_lt_of_le (bz d tj) h.jj]
  cases dst with
  | none=>simpa [S.put] using h.env t
  | some d =>
   simp only[S.put,dy];by_cases e:t=d
   ·subst e;simpa using aj
   rw[dA e,dA (Ne.symm e)];exact h.env t
 defers:=by cases dst<;>exact h.defers
 jj:=by cases dst<;>simpa [Act.put] using h.jj
structure Step (g:G) (s:S) (al:fj) (w:World) (bH:S) (bG:fj) (bx:World):Prop where
 aW : ∀r k,s.aW r k->bH.aW r k
 a0 : ∀r k,s.aW r k->bH.a0 bG r k=s.a0 al r k\/bH.a0 bG r k=none
 live : ∀b,bH.lk bG b->s.lk al b\/w.heap.size<=b
 heap : ∀b,b<w.heap.size-> ¬s.lk al b->bx.heap[b]? = w.heap[b]?
 size:w.heap.size<=bx.heap.size
theorem Step.ok {g:G}{s bH:S}{al bG:fj}{w bx:World}(h:Step g s al w bH bG bx)(b:Nat)(aN:s.ok g al w b):bH.ok g bG bx b :=
 ⟨Nat.lt_of_lt_of_le aN.1 h.size,aN.2.1,fun aF=>by
  rcases h.live b aF with o|o
  ·exact aN.2.2 o
  exact absurd aN.1 (by omega)⟩
theorem Step.rel {g:G}{s bH:S}{al bG:fj}{w bx:World}(h:Step g s al w bH bG bx){x:an}{v:Value}
 (aj:Rel w (s.ok g al w) s.aW (s.a0 al) x v):Rel bx (bH.ok g bG bx) bH.aW (bH.a0 bG) x v :=
 aj.mono h.ok (fun b aN=>h.heap b aN.1 aN.2.2) h.aW h.a0
theorem Step.obj {g:G}{s bH:S}{al bG:fj}{w bx:World}(h:Step g s al w bH bG bx){I:aM}{p:Option (Nat×Nat)}
 (ah : ∀b m,p=some (b,m)->bx.heap[b]? = w.heap[b]?) (ai:iJ w (s.ok g al w) s.aW (s.a0 al) I p) :
 iJ bx (bH.ok g bG bx) bH.aW (bH.a0 bG) I p:=by
 cases p with
 | none=>exact ai
 | some q =>
  obtain⟨b,m⟩:=q;obtain⟨c,ef,o,J,ab,aA⟩:=ai;refine⟨c,ef,(ah b m rfl).trans o,J,ab,fun j x aa=> ?_⟩;obtain⟨v,ao,aB,bT⟩:=aA j x aa;exact⟨v,ao,aB,h.rel bT⟩
theorem Step.stay {g:G}{s bH:S}{al bG:fj}{w bx:World}(h:Step g s al w bH bG bx)
 (bO : ∀j k,g.oU j k->s.aW j k/\(s.a0 al j k=g.rs j k\/s.a0 al j k=none)) : ∀j k,g.oU j k->bH.aW j k/\(bH.a0 bG j k=g.rs j k\/bH.a0 bG j k=none):=by
 intro j k av;obtain⟨o,J⟩:=bO j k av;refine⟨h.aW j k o,?_⟩;rcases h.a0 j k o with e|e
 ·rw[e];exact J
 exact .inr e
theorem Bi.step {g:G}{w bx:World}(h:Bi g w)(o:bx.os=w.os)(J:bx.tape=w.tape)(ab:bx.output=w.output)(aA:w.heap.size<=bx.heap.size)
 (aJ : ∀b,b<g.mn.heap.size-> ¬g.px b->bx.heap[b]? = w.heap[b]?):Bi g bx :=
 ⟨o.trans h.os,J.trans h.tape,ab.trans h.output,Nat.le_trans h.size aA,fun b aN hm=>(aJ b aN hm).trans (h.block b aN hm)⟩
theorem kZ (s:S)(r:Nat)(row:List aM)(q k:Nat):(s.setRow r row).af q k=if q=r then cX (some row) k else s.af q k:=by unfold S.af S.setRow;by_cases e:q=r<;>simp[e]
theorem m1 (s:S)(r:Nat)(row:List aM)(q k:Nat):(s.setRow r row).aW q k↔(if q=r then k<row.length else s.aW q k):=by unfold S.aW S.setRow;by_cases e:q=r<;>simp[e]
theorem DG {s:S}{r k:Nat}{I:aM}(h:s.af r k=some I):s.aW r k:=by
 unfold S.af cX at h;unfold S.aW
 cases aj:s.aH r with
 | none=>rw[aj] at h;simp at h
 | some l =>
  rw[aj] at h;simp only at h;rcases Nat.lt_or_ge k l.length with o|o
  ·simpa using o
  rw[dP o] at h;simp at h
theorem xQ {s:S}{r:Nat}(h:s.aH r=none)(k:Nat): ¬s.aW r k:=by simp[S.aW,h]
theorem Dd (s:S){r:Nat}{l row:List aM}(aj:s.aH r=some l)(aF:l.length<=row.length)(q k:Nat)(h:s.aW q k):(s.setRow r row).aW q k:=by
 rw[m1];by_cases e:q=r
 ·subst e;rw[dw rfl];simp[S.aW,aj] at h;omega
 rw[dA e];exact h
theorem acV {s:S}{r:Nat}(h:s.aH r=none)(k:Nat):s.af r k=none:=by simp[S.af,h,cX]
def fj.set (al:fj)(r k:Nat)(p:Option (Nat×Nat)):fj:=fun q j=>if q=r/\j=k then p else al q j
theorem lM (I:aM)(k:Nat):cX (some [I]) k=if k=0/\I.cg≠ .gone then some I else none:=by
 unfold cX
 cases k with
 | zero=>by_cases h:I.cg = .gone<;>simp[h]
 | succ k=>simp
theorem Rel.drew {w:World}{ok:Nat->Prop}{aW:iY}{a0:iP}{x:an}{v:Value}(h:Rel w ok aW a0 x v):Rel w.drew ok aW a0 x v :=
 h.mono (fun _ h=>h) (fun _ _=>rfl) (fun _ _ h=>h) (fun _ _ _=> .inl rfl)
theorem iJ.drew {w:World}{ok:Nat->Prop}{aW:iY}{a0:iP}{I:aM}{p:Option (Nat×Nat)}(h:iJ w ok aW a0 I p):iJ w.drew ok aW a0 I p:=by
 cases p with
 | none=>exact h
 | some q =>
  obtain⟨c,ef,o,J,ab,aA⟩:=h;exact⟨c,ef,o,J,ab,fun j x aa=>let ⟨v,a,b,c⟩:=aA j x aa;⟨v,a,b,c.drew⟩⟩
theorem h3.drew {g:G}{s:S}{al:fj}{w:World}(h:h3 g s al w):h3 g s al w.drew :=
 {obj:=fun r k I ai=>(h.obj r k I ai).drew,inj:=h.inj,own:=h.own,gZ:=⟨h.gZ.os,h.gZ.tape,h.gZ.output,h.gZ.size,h.gZ.block⟩,mlt:=h.mlt,m9:=h.m9,stay:=h.stay,low:=h.low}
theorem cq.drew {g:G}{s:S}{al:fj}{a:Act}{w:World}(h:cq g s al a w):cq g s al a w.drew where
 toh3:=h.toh3.drew
 env:=fun t=>(h.env t).drew
 defers:=h.defers
 jj:=h.jj
theorem cq.alloc {g:G}{s:S}{al:fj}{a:Act}{w:World}(h:cq g s al a w){r:Nat}(aj:s.aH r=none)(I:aM)(aQ:I.cg = .live)
 (c:Array Value) (ef:TypeId) (hlen : ∀e∈I.es,e.length=I.sz)
 (aL : ∀(j:Nat) x,I.es.flatten[j]? = some x-> ∃v,c[j]? = some v/\jL v=true/\Rel w (s.ok g al w) s.aW (s.a0 al) x v) :
 ∃bG,bG r 0=some (w.heap.size,c.size)/\cq g (s.setRow r [I]) bG a (w.alloc (.cells c ef)) /\
  ∀x v,Rel w (s.ok g al w) s.aW (s.a0 al) x v->Rel (w.alloc (.cells c ef)) ((s.setRow r [I]).ok g bG (w.alloc (.cells c ef))) (s.setRow r [I]).aW ((s.setRow r [I]).a0 bG) x v:=by
 have kD : ∀q k,q≠r->(al.set r 0 (some (w.heap.size,c.size))) q k=al q k:=fun q k a2=>by simp[fj.set,a2]
 have a5 : ∀q k,q≠r->(s.setRow r [I]).af q k=s.af q k:=fun q k a2=>by rw[kZ,dA a2]
 have yN : ∀k,(s.setRow r [I]).af r k=if k=0 then some I else none:=fun k=>by rw[kZ,dw rfl,lM];simp[aQ]
 have ta : ∀q k p b m,s.af q k=some p->al q k=some (b,m)->b<w.heap.size:=fun q k p b m ah a2=>by have:=h.obj q k p ah;rw[a2] at this;obtain⟨dW,la,fH,_⟩:=this;exact(afj.1 fH).1
 have cO:Step g s al w (s.setRow r [I]) (al.set r 0 (some (w.heap.size,c.size))) (w.alloc (.cells c ef)):=by
  refine⟨fun q k a2=>(m1 _ _ _ _ _).2 (by rw[dA (by rintro rfl;exact xQ aj k a2)];exact a2),fun q k a2=> ?_,fun b aN=> ?_,fun b aN _=>heap_alloc_old w _ b aN,by simp⟩
  ·have cx:q≠r:=(by rintro rfl;exact xQ aj k a2);left;simp only[S.a0,a5 q k cx,kD q k cx]
  obtain⟨q,k,p,m,o,J,ab⟩:=aN;by_cases e:q=r
  ·subst e
   rw[yN] at o;by_cases e0:k=0
   ·subst e0;simp[fj.set] at ab;right;omega
   simp[e0] at o
  rw[a5 q k e] at o;rw[kD q k e] at ab;exact .inl ⟨q,k,p,m,o,J,ab⟩
 refine⟨al.set r 0 (some (w.heap.size,c.size)),by simp[fj.set],?_,fun x v=>cO.rel⟩;refine {toh3:=⟨?_,?_,?_,?_,h.mlt,h.m9,cO.stay h.stay,h.low⟩,env:=fun t=>cO.rel (h.env t),defers:=h.defers,jj:=h.jj}
 ·intro q k p ah
  by_cases e:q=r
  ·subst e
   rw[yN] at ah;by_cases e0:k=0
   ·subst e0;simp at ah;subst ah;simp only[fj.set,and_self,if_true];exact⟨c,ef,heap_alloc_new w _,rfl,hlen,fun j x aa=>let ⟨v,ao,aB,bT⟩:=aL j x aa;⟨v,ao,aB,cO.rel bT⟩⟩
   simp[e0] at ah
  rw[a5 q k e] at ah;rw[kD q k e];exact cO.obj (fun b m hm=>heap_alloc_old w _ b (ta q k p b m ah hm)) (h.obj q k p ah)
 ·intro q k p hC dn jS b m aU o J ab aA
  by_cases e:q=r<;>by_cases er:hC=r
  ·subst e;subst er;rw[yN] at o J;by_cases e0:k=0<;>by_cases ao:dn=0<;>simp[e0,ao] at o J;exact⟨rfl,by omega⟩
  ·subst e;rw[yN] at o;rw[a5 _ _ er] at J;rw[kD _ _ er] at aA;by_cases e0:k=0<;>simp[e0] at o;subst e0;simp[fj.set] at ab;have:=ta hC dn jS b aU J aA;omega
  ·subst er;rw[a5 _ _ e] at o;rw[yN] at J;rw[kD _ _ e] at ab;by_cases e0:dn=0<;>simp[e0] at J;subst e0;simp[fj.set] at aA;have:=ta q k p b m o ab;omega
  rw[a5 _ _ e] at o;rw[a5 _ _ er] at J;rw[kD _ _ e] at ab;rw[kD _ _ er] at aA;exact h.inj q k p hC dn jS b m aU o J ab aA
 ·intro q k p b m o J
  by_cases e:q=r
  ·subst e;rw[yN] at o;by_cases e0:k=0<;>simp[e0] at o;subst e0;simp[fj.set] at J;left;have:=h.gZ.size;omega
  rw[a5 _ _ e] at o;rw[kD _ _ e] at J;exact h.own q k p b m o J
 exact h.gZ.step rfl rfl rfl (by simp) fun b aN _=>heap_alloc_old w _ b (Nat.lt_of_lt_of_le aN h.gZ.size)
theorem N1 (l:List aM)(k:Nat)(I bX:aM)(h:cX (some l) k=some I)(aQ:bX.cg≠ .gone)(j:Nat):
 cX (some (l.set k bX)) j=if j=k then some bX else cX (some l) j:=by
 unfold cX at *
 have dq:k<l.length:=by
  rcases Nat.lt_or_ge k l.length with o|o
  ·exact o
  simp[dP o] at h
 by_cases e:j=k
 ·subst e;simp[dq,aQ]
 simp only[aff,dA (Ne.symm e),dA e]
theorem cq.write {g:G}{s:S}{al:fj}{a:Act}{w bx:World}(h:cq g s al a w){r k b m:Nat}{l:List aM}{I:aM}(aj:s.aH r=some l)(ai:s.af r k=some I)
 (aQ:I.cg = .live) (ah:al r k=some (b,m)) (es:List (List an)) (c:Array Value) (ef:TypeId)
 (hw:bx.heap[b]? = some (.cells c ef (0,0))) (ev:bx.heap.size=w.heap.size) (vt : ∀q,q≠b->bx.heap[q]? = w.heap[q]?)
 (qM:bx.os=w.os) (IP:bx.tape=w.tape) (Im:bx.output=w.output) (hm:c.size=m)
 (hlen : ∀e∈es,e.length=I.sz)
 (aL : ∀(j:Nat) x,es.flatten[j]? = some x-> ∃v,c[j]? = some v/\jL v=true/\Rel w (s.ok g al w) s.aW (s.a0 al) x v) :
 cq g (s.setRow r (l.set k {I with es})) al a bx /\
  ∀x v,Rel w (s.ok g al w) s.aW (s.a0 al) x v->Rel bx ((s.setRow r (l.set k {I with es})).ok g al bx) (s.setRow r (l.set k {I with es})).aW ((s.setRow r (l.set k {I with es})).a0 al) x v:=by
 have hc:({I with es}:aM).cg≠ .gone:=by rw[aQ];simp
 have a5 : ∀q j,(s.setRow r (l.set k {I with es})).af q j=if q=r/\j=k then some {I with es} else s.af q j:=by
  intro q j;rw[kZ];by_cases e:q=r
  ·subst e;have du:cX (some l) k=some I:=(by rw[<- aj];exact ai);rw[dw rfl,N1 l k I _ du hc];by_cases aB:j=k<;>simp[aB,S.af,aj]
  simp[e]
 have pS:s.lk al b:=⟨r,k,I,m,ai,aQ,ah⟩
 have cO:Step g s al w (s.setRow r (l.set k {I with es})) al bx:=by
  refine⟨Dd s aj (by simp),fun q j a2=> .inl ?_,fun q a2=> ?_,fun q a2 aF=>vt q fun e=>aF (e▸pS),Nat.le_of_eq ev.symm⟩
  ·simp only[S.a0,a5]
   by_cases e:q=r/\j=k
   ·obtain⟨rfl,rfl⟩:=e;simp[ai]
   rw[dA e]
  obtain⟨hC,j,p,aU,o,J,ab⟩:=a2;rw[a5] at o;by_cases e:hC=r/\j=k
  ·obtain⟨rfl,rfl⟩:=e;exact .inl ⟨hC,j,I,aU,ai,aQ,ab⟩
  rw[dA e] at o;exact .inl ⟨hC,j,p,aU,o,J,ab⟩
 refine⟨{toh3:=⟨?_,?_,?_,?_,h.mlt,h.m9,cO.stay h.stay,h.low⟩,env:=fun t=>cO.rel (h.env t),defers:=h.defers,jj:=h.jj},fun x v=>cO.rel⟩
 ·intro q j p jZ
  rw[a5] at jZ;by_cases e:q=r/\j=k
  ·obtain⟨rfl,rfl⟩:=e;simp at jZ;subst jZ;rw[ah];exact⟨c,ef,hw,hm,hlen,fun j x aa=>let ⟨v,ao,aB,bT⟩:=aL j x aa;⟨v,ao,aB,cO.rel bT⟩⟩
  rw[dA e] at jZ;refine cO.obj (fun jv aU km=>vt jv ?_) (h.obj q j p jZ);rintro rfl;exact e (h.inj q j p r k I jv aU m jZ ai km ah)
 ·intro q j p hC hP jS jv hZ gr o J ab aA
  have key : ∀q j p,(s.setRow r (l.set k {I with es})).af q j=some p-> ∃jS,s.af q j=some jS:=by
   intro q j p a2;rw[a5] at a2;by_cases e:q=r/\j=k
   ·obtain⟨rfl,rfl⟩:=e;exact⟨I,ai⟩
   rw[dA e] at a2;exact⟨p,a2⟩
  obtain⟨gN,aaz⟩:=key q j p o;obtain⟨hQ,yW⟩:=key hC hP jS J;exact h.inj q j gN hC hP hQ jv hZ gr aaz yW ab aA
 ·intro q j p jv aU o J
  rw[a5] at o;by_cases e:q=r/\j=k
  ·obtain⟨rfl,rfl⟩:=e;exact h.own q j I jv aU ai J
  rw[dA e] at o;exact h.own q j p jv aU o J
 refine h.gZ.step qM IP Im (Nat.le_of_eq ev.symm) fun jv ob km=>vt jv ?_;rintro rfl;rcases h.own r k I jv m ai ah with o|o
 ·omega
 exact km o
inductive rK where
 | id
 | fb (es:List (List an))
 | jF (sz:Nat)
 | i7
 | dp (x:an)
 | len (n:Nat)
 | py (sz:Nat)
 | at_ (j i n:Nat)
 | view (eg:Nat) (I:aM) (es:List (List an))
 deriving Inhabited
inductive zu where
 | cj (c:rK)
 | ptr (l:List rK)
 | tb (l:List rK)
 | agg (l:List rK)
 deriving Inhabited
inductive kE where
 | bB (c:zu)
 | comp (l:List zu)
 deriving Inhabited
inductive h6 where
 | pure
 | box (l:List rK)
 | dp (row:List aM)
 | b9 (row:List aM)
 | rx (row:List aM)
 | drop
 deriving Inhabited
structure lW where
 bz:List (Nat×Nat):=[]
 ke:Option (Nat×Nat):=none
 deriving DecidableEq
inductive Src where
 | row (r:Nat)
 | af (r k:Nat) (I:aM)
 deriving Inhabited
structure zv where
 aO:List Src:=[]
 cn:List h6:=[]
 ac:List kE
 r:an
 de:List (List aM):=[]
 eE:kE:= .bB (.cj .id)
 fo:List h6:=[]
 c8:List Nat:=[]
 c1:Bool:=true
inductive eG where
 | none
 | ay (t:Bool)
 | db (c:List an)
 | hn (I:aM) (c:List an)
 | df
 | uE
 | call (c:zv)
 | a1 (m:Nat) (I:Option aM:=Option.none)
 | fB (t:Nat) (v:an) (a:eG)
 | sx (r:Nat) (a:eG)
 | Ci (r n:Nat) (a:eG)
structure gM where
 val:an
 fz:List (Nat×List aM):=[]
 eX:List Prop:=[]
def AO (P:Program)(t:TypeId):Bool :=
 match P.underlying t with
 | some (.struct _)|some (.array _ _)=>true
 | _=>false
def yO (nj:ar):ByteArray:=nj.foldl (fun r n=>r.push (UInt8.ofNat n.toNat)) ByteArray.empty
def bytesOf:List (List an)->Option ar
 | []=>some []
 | [.n .u8 n]::es=>(bytesOf es).map (n :: ·)
 | _=>none
def elemAt (es:List (List an))(i:Nat):eG->Option (List an×List Prop)
 | .db c=>some (c,[es[i]? = some c])
 | .hn _ c=>some (c,[es[i]? = some c])
 | _=>match es[i]? with
  | some c=>some (c,[])
  | none=>none
def nB (row:Option (List aM))(k:Nat):eG->Option (aM×List Prop)
 | .hn I _=>match row with
  | some row=>some (I,[cX (some row) k=some I])
  | none=>none
 | _=>match cX row k with
  | some I=>some (I,[])
  | none=>none
def IQ (a:eG)(l h len tz n:Nat):List Prop:=match a with
 | .uE=>[l<=h,tz+h<=n]
 | _=>[l<=h,h<=len]
def qD (P:Program)(t:TypeId)(c:List an)(off:Nat):Option an :=
 if !((P.underlying t).isSome && (P.info? t).isSome) then none else
 if AO P t then (if off+P.cellsOf t<=c.length then some (.agg ((c.drop off).take (P.cellsOf t))) else none)
 else match c[off]? with
  | some x=>if x.one then some x else none
  | none=>none
def Io (op:BinOp)(x y:an):Option (an×List Prop) :=
 match x,y with
 | .n k a,.n dn b =>
  match op with
  | .shl=>some (.n k (k.wrap (a*2 ^ (min b.toNat k.bits))),[0<=b])
  | .shr=>some (.n k (a.fdiv (2 ^ (min b.toNat k.bits))),[0<=b])
  | _=>if k≠dn then none else
   match op with
   | .add=>some (.n k (k.wrap (a+b)),[])
   | .sub=>some (.n k (k.wrap (a-b)),[])
   | .mul=>some (.n k (k.wrap (a*b)),[])
   | .quo=>some (.n k (k.wrap (a.tdiv b)),[b≠0])
   | .rem=>some (.n k (a.tmod b),[b≠0])
   | .and=>some (.n k (k.wrap ((BitVec.ofInt k.bits a &&& BitVec.ofInt k.bits b).toNat)),[])
   | .or=>some (.n k (k.wrap ((BitVec.ofInt k.bits a ||| BitVec.ofInt k.bits b).toNat)),[])
   | .xor=>some (.n k (k.wrap ((BitVec.ofInt k.bits a ^^^ BitVec.ofInt k.bits b).toNat)),[])
   | .eql=>some (.b (a == b),[])
   | .neq=>some (.b (a != b),[])
   | .lss=>some (.b (decide (a<b)),[])
   | .leq=>some (.b (decide (a<=b)),[])
   | .gtr=>some (.b (decide (b<a)),[])
   | .geq=>some (.b (decide (b<=a)),[])
   | _=>none
 | .s a,.s b =>
  match op with
  | .add=>some (.s (a++b),[a.size+b.size<9223372036854775808])
  | .eql=>some (.b (a.toList == b.toList),[])
  | .neq=>some (.b (!(a.toList == b.toList)),[])
  | _=>none
 | _,_=>none
def sk (P:Program)(t:TypeId)(x y:an):Option Bool :=
 match P.underlying t,x,y with
 | some .bool,.b a,.b c=>some (a == c)
 | some (.pointer _),.h2,.h2=>some true
 | some (.pointer _),.e4 ..,.h2=>some false
 | some (.pointer _),.h2,.e4 .. => some false
 | some (.slice _),.fq,.fq=>some true
 | some (.slice _),.ic,.fq=>some false
 | _,_,_=>none
def IR (op:UnOp)(x:an):Option an :=
 match op,x with
 | .neg,.n k a=>some (.n k (k.wrap (0-a)))
 | .not,.b a=>some (.b (!a))
 | _,_=>none
def fieldsOf (P:Program)(t:TypeId):Option (Array Field) :=
 match P.underlying t with
 | some (.struct jG)=>some jG
 | _=>none
def ph (P:Program)(t:TypeId):Option TypeId :=
 match P.underlying t with
 | some (.slice e)=>some e
 | _=>none
def pK (P:Program)(t:TypeId):Option (List an) :=
 match P.info? t with
 | some i=>match i.zero with
  | some v=>if v.cells.toList.all (·.oneCell') then some (v.cells.toList.map ofValue) else none
  | none=>none
 | none=>none
def Bj (P:Program)(t:TypeId):Option (Nat×TypeId) :=
 match P.underlying t with
 | some (.array n e)=>if (P.info? e).isSome/\P.cellsOf e≠0/\1<n then some (n,e) else none
 | _=>none
def pY (j:Int):List an->List an->Option (List an)
 | [],[]=>some []
 | .n k x::a,.n dn y::b=>if k=dn then (pY j a b).map (.n k (if j=0 then x else y) :: ·) else none
 | _,_=>none
def HM (P:Program)(t:TypeId)(x jT:an):Option gM :=
 match Bj P t,x,jT with
 | some (2,e),.agg cs,.n _ j=>match qD P e cs (0*P.cellsOf e),qD P e cs (1*P.cellsOf e) with
  | some (.agg a),some (.agg b)=>(pY j a b).map fun c=>{val:= .agg c,eX:=[0<=j,j<2]}
  | _,_=>none
 | _,_,_=>none
def yF (P:Program)(aH:Nat->Option (List aM))(t:TypeId)(x jT:an)(cr:eG):Option gM :=
 match Bj P t,x,jT with
 | some (n,e),.ref r k i off,.n _ j=>match nB (aH r) k cr with
  | some (af,bS)=>match elemAt af.es i cr with
   | some (_,aY)=>some {val:= .ref r k i (off+j.toNat*P.cellsOf e),eX:=bS++aY++[0<=j,j<n]}
   | none=>none
  | none=>none
 | _,_,_=>none
def AP:an->an->an
 | .fq,.isl sz []=> .isl sz []
 | .h2,.eW sz none=> .eW sz none
 | .fq,.iA r c sz none=> .iA r c sz none
 | x,_=>x
def ri:List an->List an->List an
 | x::z,y::c=>AP x y::ri z c
 | z,_=>z
def sZ (z:List an):eG->List an
 | .db c=>ri z c
 | _=>z
def setCells (c:List an)(off:Nat)(vs:List an):List an:=c.take off++vs++c.drop (off+vs.length)
def sa:List an->List (Nat×Nat×an)->Option (List an)
 | c,[]=>some c
 | c,(off,size,x)::rest =>
  if x.yf && x.cells.length=size && decide (off+size<=c.length) then sa (setCells c off x.cells) rest else none
def yG (sz:Nat):List (List an)->List (Nat×an)->Option (List (List an))
 | es,[]=>some es
 | es,(i,x)::rest=>if x.yf && x.cells.length=sz && decide (i<es.length) then yG sz (es.set i x.cells) rest else none
def au:Option an->Nat->Option (Nat×List Prop)
 | none,d=>some (d,[])
 | some (.n _ x),_=>some (x.toNat,[0<=x])
 | _,_=>none
def Hb (P:Program)(t:TypeId)(parts:List (Nat×an)):Option gM :=
 match Bj P t,pK P t with
 | some (_,e),some z=>(sa z (parts.map fun p=>(p.1*P.cellsOf e,P.cellsOf e,p.2))).map fun c=>{val:= .agg c}
 | _,_=>none
def et (P:Program)(E:Nat->an)(aH:Nat->Option (List aM))(aR:Nat)(I:Oper)(cr:eG):Option gM :=
 let g9:=eh E
 match I.op with
 | .move x | .assign x=>some {val:=g9 x}
 | .pick c a b =>
  match g9 c,cr with
  | .b x,.ay t=>some {val:=if t then g9 a else g9 b,eX:=[x=t]}
  | .b true,_=>some {val:=g9 a}
  | .b false,_=>some {val:=g9 b}
  | _,_=>none
 | .alloc t =>
  match pK P t with
  | some c=>some {val:= .ref aR 0 0 0,fz:=[(aR,[⟨c.length,[c],.live⟩])]}
  | none=>none
 | .box _ x =>
  match g9 x with
  | .agg c=>some {val:= .ref aR 0 0 0,fz:=[(aR,[⟨c.length,[c],.live⟩])]}
  | v=>if v.one then some {val:= .ref aR 0 0 0,fz:=[(aR,[⟨1,[[v]],.live⟩])]} else none
 | .load t x =>
  match g9 x with
  | .ref r k i off =>
   match nB (aH r) k cr with
   | some (af,bS)=>match elemAt af.es i cr with
    | some (c,aY)=>match qD P t c off with
     | some v=>some {val:=v,eX:=bS++aY}
     | none=>none
    | none=>none
   | none=>none
  | .e4 _ es i off =>
   match elemAt es i cr with
   | some (c,aY)=>match qD P t c off with
    | some v=>some {val:=v,eX:=aY}
    | none=>none
   | none=>none
  | _=>none
 | .store t x y =>
  match g9 x with
  | .ref r k i off =>
   match aH r with
   | none=>none
   | some row =>
   match nB (some row) k cr with
   | some (af,bS) =>
    if af.cg≠ .live then none else
    let v:=g9 y
    if v.yf=false then none else
    if v.cells.length≠P.cellsOf t\/(P.info? t).isSome=false then none else
    match cr with
    | .df=>if off=0 then some {val:= .dead,fz:=[(r,row.set k {af with es:=af.es.set i v.cells})],eX:=bS++[i<af.es.length,v.cells.length=af.sz]} else none
    | _=>match elemAt af.es i cr with
     | some (c,aY)=>if off+v.cells.length<=c.length then some {val:= .dead,fz:=[(r,row.set k {af with es:=af.es.set i (setCells c off v.cells)})],eX:=bS++aY} else none
     | none=>none
   | none=>none
  | _=>none
 | .nilCheck x =>
  match g9 x with
  | .ref r k i off=>match nB (aH r) k cr with
   | some (af,bS)=>match elemAt af.es i cr with
    | some (_,aY)=>some {val:= .ref r k i off,eX:=bS++aY}
    | none=>none
   | none=>none
  | .e4 sz es i off=>some {val:= .e4 sz es i off}
  | .fn f c=>some {val:= .fn f c}
  | _=>none
 | .binOp op t x y _ =>
  match Io op (g9 x) (g9 y) with
  | some (v,af)=>some {val:=v,eX:=af}
  | none=>match op with
   | .eql=>(sk P t (g9 x) (g9 y)).map fun r=>{val:= .b r}
   | .neq=>(sk P t (g9 x) (g9 y)).map fun r=>{val:= .b (!r)}
   | _=>none
 | .unOp op _ x=>(IR op (g9 x)).map fun v=>{val:=v}
 | .convert src dst x =>
  match P.underlying dst,g9 x with
  | some (.int k),.n _ a=>if (P.underlying src).isSome then some {val:= .n k (k.wrap a)} else none
  | some .string,.bK r k bw len =>
   match (ph P src).bind P.underlying,cX (aH r) k with
   | some (.int .u8),some af=>match bytesOf ((af.es.drop bw).take len) with
    | some nj=>if bw+len<=af.es.length/\af.sz=1 then some {val:= .s (yO nj)} else none
    | none=>none
   | _,_=>none
  | _,_=>none
 | .makeFunc (.func f) first captured =>
  if first.size=0 then some {val:= .fn f (captured.toList.map g9)} else none
 | .makeSlice t l c =>
  match ph P t,g9 l,g9 c with
  | some e,.n _ l,.n _ c =>
   match P.info? e,pK P e with
   | some i,some z=>if z.length=i.size then some {val:= .bK aR 0 0 l.toNat,fz:=[(aR,[⟨z.length,List.replicate l.toNat (sZ z cr),.live⟩])],eX:=[0<=l,l<=c,(i.bytes:Int)*c<=281474976710656,c<9223372036854775808]} else none
   | _,_=>none
  | _,_,_=>none
 | .fieldAddr t x f =>
  match fieldsOf P t with
  | some jG=>match jG[f]? with
   | some fd=>if P.cellsOf fd.type=0 then none else
    match g9 x with
    | .ref r k i off=>match nB (aH r) k cr with
     | some (af,bS)=>match elemAt af.es i cr with
      | some (_,aY)=>some {val:= .ref r k i (off+fd.offset),eX:=bS++aY}
      | none=>none
     | none=>none
    | .e4 sz es i off=>some {val:= .e4 sz es i (off+fd.offset)}
    | _=>none
   | none=>none
  | none=>none
 | .field t x f =>
  match fieldsOf P t with
  | some jG=>match jG[f]?,g9 x with
   | some fd,.agg c=>(qD P fd.type c fd.offset).map fun v=>{val:=v}
   | _,_=>none
  | none=>none
 | .indexAddr t x jT =>
  match ph P t,g9 jT with
  | some e,.n _ j =>
   match g9 x with
   | .isl sz es=>if sz=P.cellsOf e/\sz≠0 then some {val:= .e4 sz es j.toNat 0,eX:=[0<=j,j<es.length]} else none
   | .bK r k bw len=>match aH r with
    | some row=>match nB (some row) k cr with
     | some (af,bS)=>if af.sz=P.cellsOf e/\af.sz≠0 then some {val:= .ref r k (bw+j.toNat) 0,eX:=bS++[0<=j,j<len]} else none
     | none=>none
    | none=>none
   | _=>none
  | _,_=>yF P aH t (g9 x) (g9 jT) cr
 | .index t x jT =>
  match P.underlying t,g9 x,g9 jT with
  | some .string,.s s,.n _ j=>some {val:= .n .u8 (s.data.toList.getD j.toNat 0).toNat,eX:=[0<=j,j<s.size]}
  | _,_,_=>HM P t (g9 x) (g9 jT)
 | .extract x i =>
  match g9 x with
  | .cZ vs=>(vs[i]?).map fun v=>{val:=v}
  | _=>none
 | .slice t x bw ae none =>
  match P.underlying t,g9 x with
  | some (.slice e),.isl sz es =>
   match au (bw.map g9) 0,au (ae.map g9) es.length with
   | some (l,bS),some (h,aY)=>if sz=P.cellsOf e/\sz≠0 then some {val:= .isl sz ((es.drop l).take (h-l)),eX:=bS++aY++[l<=h,h<=es.length]} else none
   | _,_=>none
  | some (.slice e),.bK r k tz len =>
   match aH r with
   | none=>none
   | some row=>match nB (some row) k cr with
    | none=>none
    | some (af,Cj) =>
     match au (bw.map g9) 0,au (ae.map g9) len with
     | some (l,bS),some (h,aY)=>if af.sz=P.cellsOf e/\af.sz≠0 then some {val:= .bK r k (tz+l) (h-l),eX:=Cj++bS++aY++IQ cr l h len tz af.es.length} else none
     | _,_=>none
  | some .string,.s s =>
   match au (bw.map g9) 0,au (ae.map g9) s.size with
   | some (l,bS),some (h,aY)=>some {val:= .s (s.extract l h),eX:=bS++aY++[l<=h,h<=s.size]}
   | _,_=>none
  | _,_=>none
 | .slice t x bw (some ae) (some tA) =>
  match P.underlying t,g9 x with
  | some (.slice e),.bK r k tz len =>
   match aH r with
   | none=>none
   | some row=>match nB (some row) k cr with
    | none=>none
    | some (af,Cj) =>
     match au (bw.map g9) 0,au ((some ae).map g9) len,au ((some tA).map g9) len with
     | some (l,bS),some (h,aY),some (m,gm)=>if af.sz=P.cellsOf e/\af.sz≠0 then some {val:= .dead,eX:=Cj++bS++aY++gm++[l<=h,h<=m,m<=len]} else none
     | _,_,_=>none
  | _,_=>none
 | .build t parts =>
  match fieldsOf P t,pK P t with
  | some jG,some z =>
   if jG.toList.all (fun f=>(P.info? f.type).isSome)=false then none else
   match parts.toList.mapM fun (p:Nat×Operand)=>(jG[p.1]?).map fun fd=>(fd.offset,P.cellsOf fd.type,g9 p.2) with
   | some l=>(sa z l).map fun c=>{val:= .agg c}
   | none=>none
  | _,_=>Hb P t (parts.toList.map fun p=>(p.1,g9 p.2))
 | .buildSlice t len parts =>
  match ph P t with
  | some e=>match pK P e with
   | some z =>
    if len*z.length>16777216\/z.length≠P.cellsOf e\/z.length=0 then none else
    match yG z.length (List.replicate len z) (parts.toList.map fun p=>(p.1,g9 p.2)) with
    | some es=>some {val:= .bK aR 0 0 len,fz:=[(aR,[⟨z.length,es,.live⟩])]}
    | none=>none
   | none=>none
  | none=>none
 | .call {callee:= .builtin .len,args,argTypes} =>
  match args.toList.map g9,P.underlying (argTypes.getD 0 0),decide (argTypes.size=1) with
  | [.isl _ es],some (.slice _),true=>some {val:= .n .i64 es.length}
  | [.bK r k _ len],some (.slice _),true=>match aH r with
   | some row=>match nB (some row) k cr with
    | some (_,bS)=>some {val:= .n .i64 len,eX:=bS}
    | none=>none
   | none=>none
  | [.fq],some (.slice _),true=>some {val:= .n .i64 0}
  | [.s x],some .string,true=>some {val:= .n .i64 x.size}
  | _,_,_=>none
 | _=>none
theorem pa {α:Type}{sz:Nat}(bO:0<sz): ∀(es:List (List α)) (_ : ∀e∈es,e.length=sz) (j:Nat),
 es.flatten[j]? = (es[j / sz]?).bind (·[j % sz]?)
 | [],_,j=>by simp
 | e::es,h,j=>by
  have he:e.length=sz:=h e (by simp);rw[afb,List.getElem?_append];by_cases av:j<sz
  ·rw[dw (by omega),Nat.div_eq_of_lt av,Nat.mod_eq_of_lt av];simp
  rw[dA (by omega),he,pa bO es (fun er lr=>h er (by simp[lr])) (j-sz)];have o:j / sz=(j-sz) / sz+1:=Nat.div_eq_sub_div bO (by omega);have J:j % sz=(j-sz) % sz:=Nat.mod_eq_sub_mod (by omega);rw[o,J];simp
theorem Am {α:Type}{sz:Nat}{es:List (List α)}(aF:∀e∈es,e.length=sz){i:Nat}{c:List α}(he:es[i]? = some c){j:Nat}(av:j<sz):
 es.flatten[i*sz+j]? = c[j]? := by
 have bO:0<sz:=by omega
 rw[pa bO es aF];have o:(i*sz+j) / sz=i:=by rw[Nat.mul_comm,Nat.mul_add_div bO,Nat.div_eq_of_lt av];omega
 have J:(i*sz+j) % sz=j:=by rw[Nat.mul_comm,Nat.mul_add_mod,Nat.mod_eq_of_lt av]
 rw[o,J,he];rfl
theorem MQ {α:Type}{sz:Nat}{es:List (List α)}(aF:∀e∈es,e.length=sz){i:Nat}{c dW:List α}(he:es[i]? = some c)(aL:dW.length=sz)(j:Nat):
 (es.set i dW).flatten[j]? = if i*sz<=j/\j<i*sz+sz then dW[j-i*sz]? else es.flatten[j]? := by
 rcases Nat.eq_zero_or_pos sz with h0|bO
 ·subst h0
  have ao : ∀(l:List (List α)),(∀e∈l,e.length=0)->l.flatten=[]:=by
   intro l aF;induction l with
   | nil=>rfl
   | cons a l ih=>rw[afb,ih fun e he=>aF e (by simp[he])];have:=aF a (by simp);simp_all
  rw[ao _ aF,ao (es.set i dW) (by
   intro e hm;rcases List.mem_or_eq_of_mem_set hm with h|h
   ·exact aF e h
   exact h▸aL)]
  simp
 have IU : ∀e∈es.set i dW,e.length=sz:=by
  intro e hm;rcases List.mem_or_eq_of_mem_set hm with h|h
  ·exact aF e h
  exact h▸aL
 have ae:i<es.length:=by
  rcases Nat.lt_or_ge i es.length with h|h
  ·exact h
  rw[dP h] at he;simp at he
 rw[pa bO _ IU,pa bO _ aF];by_cases a2:j / sz=i
 ·have o:i*sz<=j/\j<i*sz+sz:=by
   subst a2;constructor
   ·exact Nat.div_mul_le_self j sz
   ·have:=Nat.lt_div_mul_add (a:=j) bO;omega
  rw[dw o,a2,List.getElem?_set_self ae];have:j % sz=j-i*sz:=(by subst a2;have:=Nat.div_add_mod j sz;rw[Nat.mul_comm] at this;omega);simp[this]
 have o : ¬(i*sz<=j/\j<i*sz+sz):=by rintro⟨a,b⟩;apply a2;obtain⟨d,rfl⟩ : ∃d,j=i*sz+d:=⟨j-i*sz,by omega⟩;rw[Nat.mul_comm i sz,Nat.mul_add_div bO,Nat.div_eq_of_lt (by omega)];omega
 rw[dA o,List.getElem?_set_ne (Ne.symm a2)]
def oo (w:World)(ok:Nat->Prop)(aW:iY)(a0:iP)(dZ I sz:Nat)(es:List (List an)):Prop :=
 (∀e∈es,e.length=sz)/\ ∀(j:Nat) x,es.flatten[j]? = some x-> ∃v,w.cell? ⟨dZ,I+j,none⟩=some v/\jL v=true/\Rel w ok aW a0 x v
theorem iJ.rd {w:World}{ok:Nat->Prop}{aW:iY}{a0:iP}{I:aM}{dZ m:Nat}(h:iJ w ok aW a0 I (some (dZ,m))):oo w ok aW a0 dZ 0 I.sz I.es:=by obtain⟨c,ef,o,J,ab,aA⟩:=h;refine⟨ab,fun j x aa=> ?_⟩;obtain⟨v,ao,aB,bT⟩:=aA j x aa;exact⟨v,by rw[cell_of_row w dZ (0+j) c ef (0,0) o,dF];exact ao,aB,bT⟩
theorem adg {w:World}{ok:Nat->Prop}{aW:iY}{a0:iP}{x:an}{v:Value}(h:Rel w ok aW a0 x v)(ai:x.one=true):v.oneCell'=true:=h.jL ai
theorem Nz {P:Program}{t:TypeId}(h:(P.underlying t).isSome=true)(w:World):(isAgg t).run P w = .ok (AO P t) w:=by
 cases bz:P.underlying t with
 | none=>simp[bz] at h
 | some d=>cases d<;>simp[isAgg,AO,run_underlying bz,bz]
theorem rZ {P:Program}{t:TypeId}(h:(P.info? t).isSome=true)(w:World):(sizeOf t).run P w = .ok (P.cellsOf t) w:=by
 cases ae:P.info? t with
 | none=>simp[ae] at h
 | some i=>simp[sizeOf,typeInfo,ae,Program.cellsOf]
theorem rc (b I n:Nat):(⟨b,I,none⟩:Addr).add n=⟨b,I+n,none⟩:=by unfold Addr.add;split<;>simp_all
theorem GQ {P:Program}{w:World}{ok:Nat->Prop}{aW:iY}{a0:iP}{dZ I sz i off:Nat}{es:List (List an)}{c:List an}{t:TypeId}{x:an}
 (ie:oo w ok aW a0 dZ I sz es) (he:es[i]? = some c) (ch:qD P t c off=some x) :
 ∃v,(Instr.loadAt t (.pointer (some ⟨dZ,I+(i*sz+off),none⟩))).run P w = .ok v w/\Rel w ok aW a0 x v:=by
 have hlen:c.length=sz:=ie.1 c (dG he);unfold qD at ch;split at ch
 ·simp at ch
 rename_i ae;simp only[Bool.not_eq_true',Bool.not_eq_false,afd] at ae;have jA : ∀j,j<sz-> ∃y v,c[j]? = some y/\w.cell? ⟨dZ,I+(i*sz+j),none⟩=some v/\jL v=true/\Rel w ok aW a0 y v:=by intro j av;have aP:c[j]? = some c[j]:=dx (by omega);obtain⟨v,ao,aB,bT⟩:=ie.2 (i*sz+j) c[j] (by rw[Am ie.1 he av,aP]);exact⟨_,v,aP,ao,aB,bT⟩
 simp only[Instr.loadAt,Instr.sureAddr,loadVar,Sem.run_bind,Sem.run_pure,Result.andThen,Nz ae.1,rZ ae.2];split at ch;rotate_left
 ·rename_i rq
  have rq:AO P t=false:=(by simpa using rq);rw[rq];split at ch
  ·rename_i y aP
   split at ch
   ·simp at ch;subst ch
    have yP:off<sz:=by
     rcases Nat.lt_or_ge off c.length with h|h
     ·omega
     rw[dP h] at aP;simp at aP
    obtain⟨lD,v,h0,ao,aB,bT⟩:=jA off yP;rw[h0] at aP;simp at aP;subst aP;exact⟨v,by simp[ao],bT⟩
   simp at ch
  simp at ch
 rename_i rq;rw[rq];split at ch;rotate_left
 ·simp at ch
 rename_i hle;simp at ch;subst ch;have aF:=run_loadCells (P:=P) w ⟨dZ,I+(i*sz+off),none⟩ (P.cellsOf t) (fun j=>(w.cell? ⟨dZ,I+(i*sz+(off+j)),none⟩).getD undef) (by intro j av;obtain⟨y,v,-,ao,-,-⟩:=jA (off+j) (by omega);rw[rc,show I+(i*sz+off)+j=I+(i*sz+(off+j)) by omega,ao];rfl);refine⟨.agg (List.map (fun j=>(w.cell? ⟨dZ,I+(i*sz+(off+j)),none⟩).getD undef) (List.range (P.cellsOf t))).toArray,by simp[aF,Result.andThen,rZ ae.2],?_⟩;refine .agg _ (by simp;omega) ?_ ?_
 ·intro j v aZ;rw[dJ,dN] at aZ;obtain⟨q,oc,rfl⟩:=aZ;obtain⟨ru,yX⟩:=afl.1 oc;have a2:j<P.cellsOf t:=(by simpa using ru);obtain rfl:j=q:=(by simpa using yX);obtain⟨y,v,-,ao,aB,-⟩:=jA (off+j) (by omega);rw[ao];exact aB
 intro j y v aP aZ;rw[dJ,dN] at aZ;obtain⟨q,oc,rfl⟩:=aZ;obtain⟨ru,yX⟩:=afl.1 oc;have a2:j<P.cellsOf t:=by simpa using ru
 obtain rfl:j=q:=by simpa using yX
 rw[dR,dw a2,afm] at aP;obtain⟨lD,v,h0,ao,aB,bT⟩:=jA (off+j) (by omega);rw[h0] at aP;simp at aP;subst aP;rw[ao];exact bT
theorem L5 {c:List an}{off:Nat}{vs:List an}(h:off+vs.length<=c.length):(setCells c off vs).length=c.length:=by simp[setCells];omega
theorem GD {c:List an}{off:Nat}{vs:List an}(h:off+vs.length<=c.length)(j:Nat):
 (setCells c off vs)[j]? = if off<=j/\j<off+vs.length then vs[j-off]? else c[j]? := by
 unfold setCells;rw[List.append_assoc,List.getElem?_append];have o:(c.take off).length=off:=by simp;omega
 rw[o];by_cases a:j<off
 ·rw[dw a,dA (by omega),dR,dw a]
 rw[dA a,List.getElem?_append];by_cases b:j<off+vs.length
 ·rw[dw (by omega),dw ⟨by omega,b⟩]
 rw[dA (by omega),dA (by omega),afm];congr 1;omega
theorem Yq {c:Array Value}{p:Nat}{vs:List Value}(h:p+vs.length<=c.size)(j:Nat):
 (c.toList.take p++vs++c.toList.drop (p+vs.length)).toArray[j]? = if p<=j/\j<p+vs.length then vs[j-p]? else c[j]? := by
 rw[List.getElem?_toArray,List.append_assoc,List.getElem?_append];have o:(c.toList.take p).length=p:=by simp;omega
 rw[o];by_cases a:j<p
 ·rw[dw a,dA (by omega),dR,dw a,Array.getElem?_toList]
 rw[dA a,List.getElem?_append];by_cases b:j<p+vs.length
 ·rw[dw (by omega),dw ⟨by omega,b⟩]
 rw[dA (by omega),dA (by omega),afm,Array.getElem?_toList];congr 1;omega
theorem UT {P:Program}{g:G}{s:S}{al:fj}{a:Act}{w:World}(h:cq g s al a w){r k b m i off:Nat}{l:List aM}{I:aM}{c:List an}
 (aj:s.aH r=some l) (ai:s.af r k=some I) (aQ:I.cg = .live) (ah:al r k=some (b,m)) (he:I.es[i]? = some c)
 {t:TypeId} (IV:(P.info? t).isSome=true) {x:an} {v:Value} (aa:Rel w (s.ok g al w) s.aW (s.a0 al) x v) (ln:x.one=true\/ ∃c,x = .agg c)
 (ev:x.cells.length=P.cellsOf t) (ia:off+x.cells.length<=c.length) :
 ∃bx,(Instr.storeAt t (.pointer (some ⟨b,i*I.sz+off,none⟩)) v).run P w = .ok () bx /\
  cq g (s.setRow r (l.set k {I with es:=I.es.set i (setCells c off x.cells)})) al a bx:=by
 obtain⟨vs,aZ,p4,jA,eC⟩:=aa.cellsOf ln;have a5:=h.obj r k I ai;rw[ah] at a5;obtain⟨b6,ef,o,J,ab,aA⟩:=a5;have hlen:c.length=I.sz:=ab c (dG he)
 have yQ:i*I.sz+off+vs.length<=b6.size:=by
  rcases Nat.eq_zero_or_pos I.sz with b5|b5
  ·have:off=0:=(by omega);have:vs.length=0:=(by omega);rw[b5];omega
  have aF:I.es.flatten[i*I.sz+(I.sz-1)]? = some (c[I.sz-1]'(by omega)):=(by rw[Am ab he (by omega)];exact dx (by omega));obtain⟨RJ,ao,-,-⟩:=aA _ _ aF;have:=(afj.1 ao).1;omega
 have kQ:=run_storeCells_at P b (i*I.sz+off) ef vs 0 b6 w o (by simpa using yQ) (fun RJ BH=>by obtain⟨q,a2⟩:=afr BH;exact jA q RJ a2);simp only[Nat.add_zero] at kQ
 have iL:(Instr.storeAt t (.pointer (some ⟨b,i*I.sz+off,none⟩)) v).run P w =
  .ok () (w.setRow b (b6.toList.take (i*I.sz+off)++vs++b6.toList.drop (i*I.sz+off+vs.length)).toArray):=by
  have bO:v.cells.size=P.cellsOf t:=(by rw[aZ];simpa using p4.trans ev);simp only[Instr.storeAt,Instr.sureAddr,storeVar,Sem.run_bind,Sem.run_pure,Result.andThen,rZ IV,bO,ne_eq,not_true_eq_false,if_false];rw[aZ];simpa using kQ
 refine⟨_,iL,?_⟩;have ZI:(w.setRow b (b6.toList.take (i*I.sz+off)++vs++b6.toList.drop (i*I.sz+off+vs.length)).toArray).heap.size=w.heap.size:=size_setRow _ _ _;have vW:(setCells c off x.cells).length=I.sz:=by rw[L5 ia];exact hlen
 refine(h.write aj ai aQ ah _ _ ef (setRow_heap w b b6 _ ef _ o) ZI (fun q a2=>setRow_other w b q _ a2) rfl rfl rfl ?_ ?_ ?_).1
 ·simp;omega
 ·intro e hm
  rcases List.mem_or_eq_of_mem_set hm with cf|cf
  ·exact ab e cf
  exact cf▸vW
 intro j y aP;rw[Yq yQ];rw[MQ ab he vW] at aP;by_cases lX:i*I.sz<=j/\j<i*I.sz+I.sz
 ·rw[dw lX,GD ia] at aP
  by_cases Ql:off<=j-i*I.sz/\j-i*I.sz<off+x.cells.length
  ·rw[dw Ql] at aP;rw[dw ⟨by omega,by omega⟩];have a2:j-(i*I.sz+off)<vs.length:=(by omega);refine⟨vs[j-(i*I.sz+off)],dx a2,jA _ _ (dx a2),eC (j-i*I.sz-off) y _ aP ?_⟩;rw[show j-i*I.sz-off=j-(i*I.sz+off) by omega];exact dx a2
  rw[dA Ql] at aP;rw[dA (by omega)];refine aA j y ?_;rw[show j=i*I.sz+(j-i*I.sz) by omega,Am ab he (by omega)];exact aP
 rw[dA lX] at aP;rw[dA (by rw[p4];omega)];exact aA j y aP
def S.hN (s:S)(u:List (Nat×List aM)):S:=u.foldl (fun s p=>s.setRow p.1 p.2) s
@[simp] theorem S.adt (s:S):s.hN []=s:=rfl
@[simp] theorem S.adu (s:S) (p:Nat×List aM):s.hN [p]=s.setRow p.1 p.2:=rfl
section
variable {w:World} {ok:Nat->Prop} {aW:iY} {a0:iP} {v:Value}
theorem Rel.t9 {x:Bool}(h:Rel w ok aW a0 (.b x) v):v = .bool x:=by cases h;rfl
theorem Rel.n6 {k:IntKind}{x:Int}(h:Rel w ok aW a0 (.n k x) v):v = .int k x:=by cases h;rfl
theorem Rel.yH {x:ByteArray}(h:Rel w ok aW a0 (.s x) v):v = .string x:=by cases h;rfl
theorem Rel.vg (h:Rel w ok aW a0 .h2 v):v = .pointer none:=by cases h;rfl
theorem Rel.pM (h:Rel w ok aW a0 .fq v):v = .slice none 0 0:=by cases h;rfl
theorem Rel.DS (h:Rel w ok aW a0 .ic v): ∃a c,v = .slice (some a) 0 c:=by cases h;exact⟨_,_,rfl⟩
theorem Rel.N2 {sz:Nat}(h:Rel w ok aW a0 (.eW sz none) v):v = .pointer none:=by cases h;rfl
theorem Rel.Hc {sz:Nat}{c:List an}(h:Rel w ok aW a0 (.eW sz (some c)) v):Rel w ok aW a0 (.e4 sz [c] 0 0) v:=by cases h;assumption
theorem Rel.D6 {f:Nat}{c:List an}(h:Rel w ok aW a0 (.fn f c) v): ∃vs:List Value,v = .func (.func f) #[] vs.toArray/\vs.length=c.length /\
 ∀(j:Nat) x u,c[j]? = some x->vs[j]? = some u->Rel w ok aW a0 x u:=by
 cases h with|fn vs aF aj=>exact⟨vs,rfl,aF,aj⟩
theorem Rel.yn {c:List an}(h:Rel w ok aW a0 (.agg c) v): ∃vs:List Value,v = .agg vs.toArray/\vs.length=c.length/\(∀(j:Nat) u,vs[j]? = some u->VL.jL u=true) /\
 ∀(j:Nat) x u,c[j]? = some x->vs[j]? = some u->Rel w ok aW a0 x u:=by
 cases h with|agg vs aF aL aj=>exact⟨vs,rfl,aF,aL,aj⟩
theorem Rel.yo {c:List an}(h:Rel w ok aW a0 (.cZ c) v): ∃vs:List Value,v = .tuple vs.toArray/\vs.length=c.length /\
 ∀(j:Nat) x u,c[j]? = some x->vs[j]? = some u->Rel w ok aW a0 x u:=by
 cases h with|cZ vs aF aj=>exact⟨vs,rfl,aF,aj⟩
theorem Rel.vm {r k i off sz:Nat}{p:Option (Nat×Nat)}(h:Rel w ok aW a0 (.ref r k i off) v)(ch:a0 r k=some (sz,p)):
 p=none\/ ∃b m,p=some (b,m)/\v = .pointer (some ⟨b,i*sz+off,none⟩):=by
 cases h with
 | pN a hu aV =>
  cases p with
  | none=>exact .inl rfl
  | some q=>exact absurd ch (aV _ _)
 | ref hu h =>
  rw[ch] at h;simp only[dy,dC] at h;obtain⟨rfl,rfl⟩:=h;exact .inr ⟨_,_,rfl,rfl⟩
theorem Rel.adC {r k i off:Nat}(h:Rel w ok aW a0 (.ref r k i off) v): ∃a,v = .pointer a:=by
 cases h with
 | pN a=>exact⟨a,rfl⟩
 | ref=>exact⟨_,rfl⟩
theorem Rel.NA {r k i off sz b m:Nat}(h:Rel w ok aW a0 (.ref r k i off) v)(ch:a0 r k=some (sz,some (b,m)))(Qm:Nat):
 Rel w ok aW a0 (.ref r k i Qm) (.pointer (some ⟨b,i*sz+Qm,none⟩)):=by
 cases h with
 | pN a hu aV=>exact absurd ch (aV _ _)
 | ref hu h=>exact .ref hu ch
theorem Rel.yp {sz i off:Nat}{es:List (List an)}(h:Rel w ok aW a0 (.e4 sz es i off) v): ∃dZ I,(ok dZ/\ht es)/\v = .pointer (some ⟨dZ,I+(i*sz+off),none⟩)/\oo w ok aW a0 dZ I sz es:=by
 cases h with
 | e4 cs aN ah aF hw aL aj=>exact⟨_,_,⟨aN,ah⟩,rfl,aF,fun j x aa=>⟨cs j,hw j x aa,aL j x aa,aj j x aa⟩⟩
theorem Rel.AH {r k bw len sz:Nat}{p:Option (Nat×Nat)}(h:Rel w ok aW a0 (.bK r k bw len) v)(ch:a0 r k=some (sz,p)):
 (p=none/\bw=0/\len=0/\v = .slice none 0 0)\/ ∃b m a c,p=some (b,m)/\v = .slice a len c/\len<=c/\c<9223372036854775808/\(c=0\/(a=some ⟨b,bw*sz,none⟩/\(bw+c)*sz=m)):=by
 cases h with
 | m2 a l c hu aV=>rw[ch] at aV;simp at aV
 | nt hu h =>
  rw[ch] at h;simp only[dy,dC] at h;exact .inl ⟨h.2,rfl,rfl,rfl⟩
 | bK hu h aF aL hm =>
  rw[ch] at h;simp only[dy,dC] at h;obtain⟨rfl,rfl⟩:=h;exact .inr ⟨_,_,_,_,rfl,rfl,aF,aL,hm.2.imp id fun e=>⟨e,hm.1⟩⟩
theorem Rel.r3 {r k bw len sz:Nat}{p:Option (Nat×Nat)}(h:Rel w ok aW a0 (.bK r k bw len) v)(ch:a0 r k=some (sz,p)):
 (p=none/\bw=0/\len=0/\v = .slice none 0 0)\/ ∃b m a c,p=some (b,m)/\v = .slice a len c/\len<=c/\c<9223372036854775808/\(bw+c)*sz=m/\(c=0\/a=some ⟨b,bw*sz,none⟩):=by
 cases h with
 | m2 a l c hu aV=>rw[ch] at aV;simp at aV
 | nt hu h =>
  rw[ch] at h;simp only[dy,dC] at h;exact .inl ⟨h.2,rfl,rfl,rfl⟩
 | bK hu h aF aL hm =>
  rw[ch] at h;simp only[dy,dC] at h;obtain⟨rfl,rfl⟩:=h;exact .inr ⟨_,_,_,_,rfl,rfl,aF,aL,hm⟩
theorem Rel.adh {r k bw len:Nat}(h:Rel w ok aW a0 (.bK r k bw len) v): ∃a l c,v = .slice a l c:=by cases h<;>exact⟨_,_,_,rfl⟩
theorem Rel.sR {sz:Nat}{es:List (List an)}(h:Rel w ok aW a0 (.isl sz es) v):
 (es=[]/\ ∃a c,v = .slice a 0 c/\(a=none->c=0))\/ ∃dZ off c,(ok dZ/\ht es)/\v = .slice (some ⟨dZ,off,none⟩) es.length c/\es.length<=c/\oo w ok aW a0 dZ off sz es:=by
 cases h with
 | jC sz a c h=>exact .inl ⟨rfl,a,c,rfl,h⟩
 | isl cs aN ah aF aL hw hy aj=>exact .inr ⟨_,_,_,⟨aN,ah⟩,rfl,aL,aF,fun j x aa=>⟨cs j,hw j x aa,hy j x aa,aj j x aa⟩⟩
theorem oo.isl {dZ off c sz:Nat}{es:List (List an)}(h:oo w ok aW a0 dZ off sz es)(aN:ok dZ/\ht es)(aL:es.length<=c):Rel w ok aW a0 (.isl sz es) (.slice (some ⟨dZ,off,none⟩) es.length c):=by
 have aa : ∀j:Nat,∃v,∀x,es.flatten[j]? = some x->w.cell? ⟨dZ,off+j,none⟩=some v/\VL.jL v=true/\Rel w ok aW a0 x v:=by
  intro j
  cases av:es.flatten[j]? with
  | none=>exact⟨undef,fun x aa=>by simp at aa⟩
  | some y =>
   obtain⟨v,o⟩:=h.2 j y av;exact⟨v,fun x aa=>by simp at aa;subst aa;exact o⟩
 exact .isl (fun j=>(aa j).choose) aN.1 aN.2 h.1 aL (fun j x av=>((aa j).choose_spec x av).1) (fun j x av=>((aa j).choose_spec x av).2.1) (fun j x av=>((aa j).choose_spec x av).2.2)
theorem oo.e4 {dZ I i off sz:Nat}{es:List (List an)}(h:oo w ok aW a0 dZ I sz es)(aN:ok dZ/\ht es):Rel w ok aW a0 (.e4 sz es i off) (.pointer (some ⟨dZ,I+(i*sz+off),none⟩)):=by
 have aa : ∀j:Nat,∃v,∀x,es.flatten[j]? = some x->w.cell? ⟨dZ,I+j,none⟩=some v/\VL.jL v=true/\Rel w ok aW a0 x v:=by
  intro j
  cases av:es.flatten[j]? with
  | none=>exact⟨undef,fun x aa=>by simp at aa⟩
  | some y =>
   obtain⟨v,o⟩:=h.2 j y av;exact⟨v,fun x aa=>by simp at aa;subst aa;exact o⟩
 exact .e4 (fun j=>(aa j).choose) aN.1 aN.2 h.1 (fun j x av=>((aa j).choose_spec x av).1) (fun j x av=>((aa j).choose_spec x av).2.1) (fun j x av=>((aa j).choose_spec x av).2.2)
end
def Fin (P:Program)(g:G)(s:S)(a:Act)(w:World)(I:Oper)(bc:gM):Prop :=
 ∃v bx bG,((execOp a.eval I).run P w = .ok (.value v) bx\/((execOp a.eval I).run P w = .ok .skip bx/\v=undef)) /\
  cq g (s.hN bc.fz) bG a bx/\Rel bx ((s.hN bc.fz).ok g bG bx) (s.hN bc.fz).aW ((s.hN bc.fz).a0 bG) bc.val v
section
variable {P:Program} {g:G} {s:S} {al:fj} {a:Act} {w:World} {I:Oper} {cr:eG} {aR:Nat} {bc:gM}
theorem hL (h:cq g s al a w){v:Value}(iL:(execOp a.eval I).run P w = .ok (.value v) w)(hu:bc.fz=[])
 (aj:Rel w (s.ok g al w) s.aW (s.a0 al) bc.val v):Fin P g s a w I bc :=
 ⟨v,w,al,.inl iL,by rw[hu];exact h,by rw[hu];exact aj⟩
theorem OD {x:Operand}(h:cq g s al a w)(ai:I.op = .move x\/I.op = .assign x)(ak:et P s.E s.aH aR I cr=some bc):Fin P g s a w I bc:=by
 have:bc={val:=eh s.E x}:=by rcases ai with ai|ai<;>simp[et,ai] at ak<;>exact ak.symm
 subst this;refine hL (v:=a.eval x) h ?_ rfl (h.eval x);rcases ai with ai|ai<;>simp[execOp,ai]
theorem XH {c x y:Operand}(h:cq g s al a w)(ai:I.op = .pick c x y)(ak:et P s.E s.aH aR I cr=some bc)(b4:∀p∈bc.eX,p):Fin P g s a w I bc:=by
 have aL:=h.eval c;simp only[et,ai] at ak
 have key : ∀t:Bool,eh s.E c = .b t->bc.fz=[]->bc.val=(if t then eh s.E x else eh s.E y)->Fin P g s a w I bc:=by
  intro t ch hu aZ;rw[ch] at aL;have e:a.eval c = .bool t:=aL.t9;refine hL (v:=if t then a.eval x else a.eval y) h (by simp[execOp,ai,e,asBool]) hu ?_;rw[aZ];cases t
  ·exact h.eval y
  exact h.eval x
 split at ak
 ·rename_i z t b5;simp at ak;subst ak;have e:z=t:=b4 _ (by simp);subst e;exact key z b5 rfl rfl
 ·rename_i b5 _;simp at ak;subst ak;exact key true b5 rfl rfl
 ·rename_i b5 _;simp at ak;subst ak;exact key false b5 rfl rfl
 simp at ak
theorem DT (h:cq g s al a w)(ey:s.aH aR=none){v:Value}{af:aM}{c:Array Value}{ef:TypeId}(aQ:af.cg = .live)
 (iL:(execOp a.eval I).run P w = .ok (.value v) (w.alloc (.cells c ef))) (hu:bc.fz=[(aR,[af])]) (hlen : ∀e∈af.es,e.length=af.sz)
 (aL : ∀(j:Nat) x,af.es.flatten[j]? = some x-> ∃v,c[j]? = some v/\jL v=true/\Rel w (s.ok g al w) s.aW (s.a0 al) x v)
 (hval : ∀(bx:World) (kl:Nat->Prop) (mD:iY) (lV:iP),mD aR 0->lV aR 0=some (af.sz,some (w.heap.size,c.size))->Rel bx kl mD lV bc.val v):Fin P g s a w I bc:=by
 obtain⟨bG,ah,bO,-⟩:=h.alloc ey af aQ c ef hlen aL;have o:(s.setRow aR [af]).aW aR 0:=by rw[m1];simp
 have J:(s.setRow aR [af]).a0 bG aR 0=some (af.sz,some (w.heap.size,c.size)):=by simp[S.a0,kZ,lM,aQ,ah]
 exact⟨v,_,bG,.inl iL,by rw[hu];exact bO,by rw[hu];exact hval _ _ _ _ o J⟩
theorem x5 {t:TypeId}{z:List an}(b5:pK P t=some z): ∃i ea,P.info? t=some i/\i.zero=some ea/\z=ea.cells.toList.map ofValue /\
 ∀(j:Nat) x,z[j]? = some x-> ∃v,ea.cells[j]? = some v/\jL v=true/\ ∀(w:World) (ok:Nat->Prop) (aW:iY) (a0:iP),Rel w ok aW a0 x v:=by
 unfold pK at b5
 cases ae:P.info? t with
 | none=>simp[ae] at b5
 | some i =>
  cases jP:i.zero with
  | none=>simp[ae,jP] at b5
  | some ea =>
   simp only[ae,jP] at b5;split at b5
   ·rename_i nC;simp only[dy] at b5;refine⟨i,ea,rfl,jP,b5.symm,fun j x aa=> ?_⟩;subst b5;rw[dJ,dN] at aa;obtain⟨v,aZ,rfl⟩:=aa;refine⟨v,by rw[<- Array.getElem?_toList];exact aZ,?_,fun w ok aW a0=>MO v⟩;exact List.all_eq_true.1 nC v (dG aZ)
   simp at b5
theorem WA {t:TypeId}(h:cq g s al a w)(ey:s.aH aR=none)(ai:I.op = .alloc t)(ak:et P s.E s.aH aR I cr=some bc):Fin P g s a w I bc:=by
 simp only[et,ai] at ak;split at ak
 ·rename_i z b5
  obtain⟨i,ea,ae,jP,e,jA⟩:=x5 b5;simp only[dy] at ak;subst ak;refine DT (v:= .pointer (some ⟨w.heap.size,0,none⟩)) (c:=ea.cells) (ef:=t) (af:=⟨z.length,[z],.live⟩) h ey rfl ?_ rfl (by simp) ?_ ?_
  ·simp[execOp,ai,Instr.alloc,zeroValue,typeInfo,ae,jP,newVar,newRow]
  ·intro j x aa;simp only[afb,List.flatten_nil,List.append_nil] at aa;obtain⟨v,o,J,ab⟩:=jA j x aa;exact⟨v,o,J,ab _ _ _ _⟩
  intro bx kl mD lV hu ch;have:=Rel.ref (w:=bx) (ok:=kl) (i:=0) (off:=0) hu ch;simpa using this
 simp at ak
theorem Yr {t:TypeId}{x:Operand}(h:cq g s al a w)(ey:s.aH aR=none)(ai:I.op = .box t x)(ak:et P s.E s.aH aR I cr=some bc):Fin P g s a w I bc:=by
 simp only[et,ai] at ak;have aa:=h.eval x
 have key : ∀af:aM,af.cg = .live->af.es=[(eh s.E x).cells]->af.sz=(eh s.E x).cells.length->((eh s.E x).one=true\/ ∃c,eh s.E x = .agg c) ->
  bc.fz=[(aR,[af])]->bc.val = .ref aR 0 0 0->Fin P g s a w I bc:=by
  intro af aQ ho ev ln hu aZ;obtain⟨vs,ao,aB,bT,di⟩:=aa.cellsOf ln;refine DT (v:= .pointer (some ⟨w.heap.size,0,none⟩)) (c:=(a.eval x).cells) (ef:=t) h ey aQ ?_ hu ?_ ?_ ?_
  ·simp[execOp,ai,Instr.box,newVar,newRow]
  ·intro e he;rw[ho] at he;simp at he;rw[he,ev]
  ·intro j y aP
   rw[ho] at aP;simp only[afb,List.flatten_nil,List.append_nil] at aP
   have av:j<vs.length:=by
    rcases Nat.lt_or_ge j (eh s.E x).cells.length with cf|cf
    ·omega
    rw[dP cf] at aP;simp at aP
   refine⟨vs[j],by rw[ao];simp[av],bT j _ (dx av),di j y _ aP (dx av)⟩
  intro bx kl mD lV od ch;have:=Rel.ref (w:=bx) (ok:=kl) (i:=0) (off:=0) od ch;rw[aZ];simpa using this
 split at ak
 ·rename_i c aL;simp only[dy] at ak;subst ak;exact key _ rfl (by rw[aL];rfl) (by rw[aL];rfl) (.inr ⟨c,aL⟩) rfl rfl
 split at ak
 ·rename_i ln
  simp only[dy] at ak;subst ak;have e:(eh s.E x).cells=[eh s.E x]:=by generalize eh s.E x=y at ln;cases y<;>first|rfl|simp[an.one] at ln
  exact key _ rfl (by rw[e]) (by rw[e];rfl) (.inl ln) rfl rfl
 simp at ak
theorem hG {s:S}{al:fj}{r k:Nat}{af:aM}(h:s.af r k=some af):s.a0 al r k=some (af.sz,al r k):=by simp[S.a0,h]
theorem r7 {row:Option (List aM)}{k:Nat}{af:aM}{bS:List Prop}(h:nB row k cr=some (af,bS))(b4:∀p∈bS,p):cX row k=some af:=by
 unfold nB at h;split at h
 ·split at h
  ·simp at h;obtain⟨rfl,rfl⟩:=h;exact b4 _ (by simp)
  simp at h
 split at h
 ·rename_i cf;simp at h;obtain⟨rfl,rfl⟩:=h;exact cf
 simp at h
theorem yc {es:List (List an)}{i:Nat}{c:List an}{bS:List Prop}(h:elemAt es i cr=some (c,bS))(b4:∀p∈bS,p):es[i]? = some c:=by
 unfold elemAt at h;split at h
 ·simp at h;obtain⟨rfl,rfl⟩:=h;exact b4 _ (by simp)
 ·simp at h;obtain⟨rfl,rfl⟩:=h;exact b4 _ (by simp)
 split at h
 ·rename_i cf;simp at h;obtain⟨rfl,rfl⟩:=h;exact cf
 simp at h
theorem XI {t:TypeId}{x:Operand}(h:cq g s al a w)(ai:I.op = .load t x)(ak:et P s.E s.aH aR I cr=some bc)(b4:∀p∈bc.eX,p):Fin P g s a w I bc:=by
 simp only[et,ai] at ak;have aa:=h.eval x;split at ak
 ·rename_i r k i off gA
  rw[gA] at aa;split at ak;rotate_left
  ·simp at ak
  rename_i af bS a5;split at ak;rotate_left
  ·simp at ak
  rename_i c aY me;split at ak;rotate_left
  ·simp at ak
  rename_i v aZ;simp only[dy] at ak;subst ak;have iy:s.af r k=some af:=r7 a5 fun p ah=>b4 p (by simp[ah]);have pn:=yc me fun p ah=>b4 p (by simp[ah]);have eC:=h.obj r k af iy;rcases aa.vm (hG iy) with h0|⟨b,m,ah,hval⟩
  ·rw[h0] at eC;simp only[iJ] at eC;rw[eC] at pn;simp at pn
  rw[ah] at eC;obtain⟨u,o,J⟩:=GQ (P:=P) eC.rd pn aZ;refine hL (v:=u) h ?_ rfl J;rw[dF] at o;simp[execOp,ai,hval,o]
 ·rename_i sz es i off gA
  rw[gA] at aa;split at ak
  ·rename_i c aY me
   split at ak
   ·rename_i v aZ;simp only[dy] at ak;subst ak;have pn:=yc me fun p ah=>b4 p (by simp[ah]);obtain⟨dZ,bX,aN,hval,ie⟩:=aa.yp;obtain⟨u,o,J⟩:=GQ (P:=P) ie pn aZ;refine hL (v:=u) h ?_ rfl J;simp[execOp,ai,hval,o]
   simp at ak
  simp at ak
 simp at ak
end
section
variable {P:Program} {g:G} {s:S} {al:fj} {a:Act} {w:World} {I:Oper} {cr:eG} {aR:Nat} {bc:gM}
theorem NB (h:cq g s al a w){r k i off:Nat}{row:List aM}{af:aM}{c:List an}{t:TypeId}{x y:Operand}(ai:I.op = .store t x y)
 (gA:eh s.E x = .ref r k i off) (cV:s.aH r=some row) (a5:s.af r k=some af) (aQ:af.cg = .live) (me:af.es[i]? = some c)
 (ln:(eh s.E y).one=true\/ ∃c,eh s.E y = .agg c) (ev:(eh s.E y).cells.length=P.cellsOf t) (IV:(P.info? t).isSome=true)
 (ia:off+(eh s.E y).cells.length<=c.length) (ak:bc.val = .dead) (hu:bc.fz=[(r,row.set k {af with es:=af.es.set i (setCells c off (eh s.E y).cells)})]):Fin P g s a w I bc:=by
 have aa:=h.eval x;rw[gA] at aa;have eC:=h.obj r k af a5;rcases aa.vm (hG a5) with h0|⟨b,m,ah,hval⟩
 ·rw[h0] at eC;simp only[iJ] at eC;rw[eC] at me;simp at me
 obtain⟨bx,o,J⟩:=UT (P:=P) h cV a5 aQ ah me IV (h.eval y) ln ev ia;refine⟨undef,bx,al,.inr ⟨?_,rfl⟩,by rw[hu];exact J,by rw[ak];exact .dead _⟩;simp[execOp,ai,hval,o]
theorem WB {t:TypeId}{x y:Operand}(h:cq g s al a w)(ai:I.op = .store t x y)(ak:et P s.E s.aH aR I cr=some bc)(b4:∀p∈bc.eX,p):Fin P g s a w I bc:=by
 simp only[et,ai] at ak;split at ak;rotate_left
 ·simp at ak
 rename_i r k i off gA;split at ak
 ·simp at ak
 rename_i row cV;split at ak;rotate_left
 ·simp at ak
 rename_i af bS ZJ;split at ak
 ·simp at ak
 rename_i aQ;have aQ:af.cg = .live:=by simpa using aQ
 split at ak
 ·simp at ak
 rename_i ln;have ln:=an.MP (by simpa using ln);split at ak
 ·simp at ak
 rename_i ev;simp only[not_or,Decidable.not_not,Bool.not_eq_false] at ev;have iy:(∀p∈bS,p)->s.af r k=some af:=fun bA=>by have:=r7 ZJ bA;unfold S.af;rw[cV];exact this
 split at ak
 ·split at ak
  ·rename_i yP
   simp only[dy] at ak;subst ak;subst yP;have dq:i<af.es.length:=b4 _ (by simp);have hy:(eh s.E y).cells.length=af.sz:=b4 _ (by simp);have Bk:=iy fun p ah=>b4 p (by simp[ah])
   have hlen:(af.es[i]).length=af.sz:=by
    have eC:=h.obj r k af Bk
    cases ah:al r k with
    | none=>rw[ah] at eC;simp only[iJ] at eC;rw[eC] at dq;simp at dq
    | some q =>
     rw[ah] at eC;obtain⟨_,_,_,_,ab,_⟩:=eC;exact ab _ (List.getElem_mem dq)
   refine NB h ai gA cV Bk aQ (c:=af.es[i]) (dx dq) ln ev.1 ev.2 (by omega) rfl ?_;have e:setCells af.es[i] 0 (eh s.E y).cells=(eh s.E y).cells:=(by simp[setCells,hlen,hy]);rw[e]
  simp at ak
 split at ak
 ·rename_i c aY me
  split at ak
  ·rename_i ia;simp only[dy] at ak;subst ak;exact NB h ai gA cV (iy fun p ah=>b4 p (by simp[ah])) aQ (yc me fun p ah=>b4 p (by simp[ah])) ln ev.1 ev.2 ia rfl rfl
  simp at ak
 simp at ak
theorem UU {x:Operand}(h:cq g s al a w)(ai:I.op = .nilCheck x)(ak:et P s.E s.aH aR I cr=some bc)(b4:∀p∈bc.eX,p):Fin P g s a w I bc:=by
 simp only[et,ai] at ak;have aa:=h.eval x;split at ak
 ·rename_i r k i off gA
  rw[gA] at aa;split at ak
  ·rename_i af bS a5
   split at ak
   ·rename_i c aY me
    simp only[dy] at ak;subst ak;have iy:s.af r k=some af:=r7 a5 fun p ah=>b4 p (by simp[ah]);have pn:=yc me fun p ah=>b4 p (by simp[ah]);have eC:=h.obj r k af iy;rcases aa.vm (hG iy) with h0|⟨b,m,ah,hval⟩
    ·rw[h0] at eC;simp only[iJ] at eC;rw[eC] at pn;simp at pn
    refine hL (v:=a.eval x) h ?_ rfl aa;simp[execOp,ai,hval]
   simp at ak
  simp at ak
 ·rename_i sz es i off gA;rw[gA] at aa;simp only[dy] at ak;subst ak;obtain⟨dZ,bX,aN,hval,ie⟩:=aa.yp;refine hL (v:=a.eval x) h ?_ rfl aa;simp[execOp,ai,hval]
 ·rename_i f c gA;rw[gA] at aa;simp only[dy] at ak;subst ak;obtain⟨vs,hval,-⟩:=aa.D6;refine hL (v:=a.eval x) h ?_ rfl aa;simp[execOp,ai,hval]
 simp at ak
theorem VT {op:BinOp}{t:TypeId}{x y z:an}{af:List Prop}(ak:Io op x y=some (z,af))(b4:∀p∈af,p)
 {ok:Nat->Prop} {aW:iY} {a0:iP} {kF kG:Value} (aa:Rel w ok aW a0 x kF) (aP:Rel w ok aW a0 y kG) (p q:Operand) :
 ∃v,((do eqGuard op t p q kF kG;binOp op t kF kG):Sem Value).run P w = .ok v w/\Rel w ok aW a0 z v:=by
 unfold Io at ak;split at ak
 ·rename_i k n dn mR
  have hq:=aa.n6;have iF:=aP.n6;subst hq;subst iF;have dt : ∀op,eqGuard op t p q (.int k n) (.int dn mR)=pure ():=fun op=>eqGuard_at_int ..;simp only[Sem.run_bind,dt,Sem.run_pure,Result.andThen_ok];split at ak
  ·simp only[dy,dC] at ak;obtain⟨rfl,rfl⟩:=ak;have h0:0<=mR:=b4 _ (by simp);exact⟨_,by simp[binOp,Op.shift,show ¬mR<0 by omega],.n _ _⟩
  ·simp only[dy,dC] at ak;obtain⟨rfl,rfl⟩:=ak;have h0:0<=mR:=b4 _ (by simp);exact⟨_,by simp[binOp,Op.shift,show ¬mR<0 by omega],.n _ _⟩
  split at ak
  ·simp at ak
  rename_i aQ;have aQ:k=dn:=(by simpa using aQ);subst aQ;split at ak<;>simp only[dy,dC,reduceCtorEq] at ak
  all_goals (obtain⟨rfl,rfl⟩:=ak)
  case h_4|h_5 =>
   have h0:mR≠0:=b4 _ (by simp);exact⟨_,by simp[binOp,Op.intDiv,h0],.n _ _⟩
  all_goals first
   | (refine⟨_,?_,.n _ _⟩;rw[binOp_add];rfl)
   | (refine⟨_,?_,.n _ _⟩;rw[binOp_sub];rfl)
   | (refine⟨_,?_,.n _ _⟩;rw[binOp_mul];rfl)
   | (refine⟨_,?_,.n _ _⟩;rw[binOp_and];rfl)
   | (refine⟨_,?_,.n _ _⟩;rw[binOp_or];rfl)
   | (refine⟨_,?_,.n _ _⟩;rw[binOp_xor];rfl)
   | (refine⟨_,?_,.b _⟩;simp[binOp,Op.intCmp];done)
 ·rename_i cA lD
  have hq:=aa.yH;have iF:=aP.yH;subst hq;subst iF;have dt : ∀op,eqGuard op t p q (.string cA) (.string lD)=pure ():=fun op=>eqGuard_at_string ..;simp only[Sem.run_bind,dt,Sem.run_pure,Result.andThen_ok];split at ak<;>simp only[dy,dC,reduceCtorEq] at ak
  all_goals (obtain⟨rfl,rfl⟩:=ak)
  ·have h0:cA.size+lD.size<9223372036854775808:=b4 _ (by simp);refine⟨_,?_,.s _⟩;have o : ¬((cA.size+lD.size:Nat):Int)>IntKind.i64.max:=(by rw[IntKind.max_i64];omega);rw[IntKind.max_i64] at o;simp[binOp,Op.stringOp];omega
  ·exact⟨_,by simp[binOp,Op.stringOp],.b _⟩
  exact⟨_,by simp[binOp,Op.stringOp],.b _⟩
 simp at ak
theorem vb (t:TypeId)(x y:Value):Op.equal t x y=Op.equalIn (9999+1) t x y:=rfl
theorem Aa {t:TypeId}{a b:Bool}(d:Nat)(bz:P.underlying t=some .bool):(Op.equalIn (d+1) t (.bool a) (.bool b)).run P w = .ok (a == b) w:=by unfold Op.equalIn;simp[run_underlying bz]
theorem An {t e:TypeId}(d:Nat)(bz:P.underlying t=some (.pointer e)):(Op.equalIn (d+1) t (.pointer none) (.pointer none)).run P w = .ok true w:=by unfold Op.equalIn;simp[run_underlying bz]
theorem Ao {t e:TypeId}{a:Addr}(d:Nat)(bz:P.underlying t=some (.pointer e)):(Op.equalIn (d+1) t (.pointer (some a)) (.pointer none)).run P w = .ok false w:=by unfold Op.equalIn;simp[run_underlying bz]
theorem Ap {t e:TypeId}{a:Addr}(d:Nat)(bz:P.underlying t=some (.pointer e)):(Op.equalIn (d+1) t (.pointer none) (.pointer (some a))).run P w = .ok false w:=by unfold Op.equalIn;simp[run_underlying bz]
theorem Aq {t e:TypeId}(d:Nat)(bz:P.underlying t=some (.slice e)):(Op.equalIn (d+1) t (.slice none 0 0) (.slice none 0 0)).run P w = .ok true w:=by unfold Op.equalIn;simp[run_underlying bz]
theorem M5 {t e:TypeId}{a:Addr}{c:Nat}(d:Nat)(bz:P.underlying t=some (.slice e))(n:Nat):(Op.equalIn (d+1) t (.slice (some a) n c) (.slice none 0 0)).run P w = .ok false w:=by unfold Op.equalIn;simp[run_underlying bz]
theorem yi {t:TypeId}{x y:an}{r:Bool}(ak:sk P t x y=some r)
 {ok:Nat->Prop} {aW:iY} {a0:iP} {kF kG:Value} (aa:Rel w ok aW a0 x kF) (aP:Rel w ok aW a0 y kG) (p q:Operand) :
 ((do eqGuard .eql t p q kF kG;binOp .eql t kF kG):Sem Value).run P w = .ok (.bool r) w /\
 ((do eqGuard .neq t p q kF kG;binOp .neq t kF kG):Sem Value).run P w = .ok (.bool !r) w:=by
 have key : ∀b:Bool,(∀op,eqGuard op t p q kF kG=pure ())->binOp .eql t kF kG=(do pure (.bool (<- Op.equal t kF kG)))->binOp .neq t kF kG=(do pure (.bool (!(<- Op.equal t kF kG)))) ->
  (Op.equal t kF kG).run P w = .ok b w->((do eqGuard .eql t p q kF kG;binOp .eql t kF kG):Sem Value).run P w = .ok (.bool b) w /\
  ((do eqGuard .neq t p q kF kG;binOp .neq t kF kG):Sem Value).run P w = .ok (.bool !b) w:=by
  intro b dt o J ab;constructor
  ·rw[dt,o];simp[ab]
  rw[dt,J];simp[ab]
 unfold sk at ak;split at ak
 ·rename_i cA lD bz;simp only[dy] at ak;subst ak;have hq:=aa.t9;have iF:=aP.t9;subst hq;subst iF;exact key _ (fun op=>eqGuard_at_bool ..) rfl rfl (by rw[vb];first|exact Aa _ bz|exact An _ bz|exact Ao _ bz|exact Ap _ bz|exact Aq _ bz)
 ·rename_i e bz;simp only[dy] at ak;subst ak;have hq:=aa.vg;have iF:=aP.vg;subst hq;subst iF;exact key _ (fun op=>eqGuard_at_pointer ..) rfl rfl (by rw[vb];first|exact Aa _ bz|exact An _ bz|exact Ao _ bz|exact Ap _ bz|exact Aq _ bz)
 ·rename_i e sz es i off bz;simp only[dy] at ak;subst ak;obtain⟨dZ,bX,-,hq,-⟩:=aa.yp;have iF:=aP.vg;subst hq;subst iF;exact key _ (fun op=>eqGuard_at_pointer ..) rfl rfl (by rw[vb];first|exact Aa _ bz|exact An _ bz|exact Ao _ bz|exact Ap _ bz|exact Aq _ bz)
 ·rename_i e sz es i off bz;simp only[dy] at ak;subst ak;obtain⟨dZ,bX,-,iF,-⟩:=aP.yp;have hq:=aa.vg;subst hq;subst iF;exact key _ (fun op=>eqGuard_at_pointer ..) rfl rfl (by rw[vb];first|exact Aa _ bz|exact An _ bz|exact Ao _ bz|exact Ap _ bz|exact Aq _ bz)
 ·rename_i e bz;simp only[dy] at ak;subst ak;have hq:=aa.pM;have iF:=aP.pM;subst hq;subst iF;exact key _ (fun op=>eqGuard_at_slice ..) rfl rfl (by rw[vb];first|exact Aa _ bz|exact An _ bz|exact Ao _ bz|exact Ap _ bz|exact Aq _ bz)
 ·rename_i e bz;simp only[dy] at ak;subst ak;obtain⟨wF,c,hq⟩:=aa.DS;have iF:=aP.pM;subst hq;subst iF;exact key _ (fun op=>eqGuard_at_slice ..) rfl rfl (by rw[vb];exact M5 _ bz 0)
 simp at ak
theorem Pf {t e:TypeId}(bz:P.underlying t=some (.slice e)){sz:Nat}{es:List (List an)}(cx:es≠[])
 {ok:Nat->Prop} {aW:iY} {a0:iP} {kF kG:Value} (aa:Rel w ok aW a0 (.isl sz es) kF) (aP:Rel w ok aW a0 .fq kG) (p q:Operand) :
 ((do eqGuard .eql t p q kF kG;binOp .eql t kF kG):Sem Value).run P w = .ok (.bool false) w /\
 ((do eqGuard .neq t p q kF kG;binOp .neq t kF kG):Sem Value).run P w = .ok (.bool true) w:=by
 rcases aa.sR with ⟨h0,-⟩|⟨dZ,off,c,-,hq,-⟩
 ·exact absurd h0 cx
 have iF:=aP.pM;subst hq;subst iF;have ab:(Op.equal t (.slice (some ⟨dZ,off,none⟩) es.length c) (.slice none 0 0)).run P w = .ok false w:=by rw[vb];exact M5 _ bz _
 have dt : ∀op,eqGuard op t p q (.slice (some ⟨dZ,off,none⟩) es.length c) (.slice none 0 0)=pure ():=fun op=>eqGuard_at_slice ..;have o:binOp .eql t (.slice (some ⟨dZ,off,none⟩) es.length c) (.slice none 0 0)=(do pure (.bool (<- Op.equal t (.slice (some ⟨dZ,off,none⟩) es.length c) (.slice none 0 0)))):=rfl;have J:binOp .neq t (.slice (some ⟨dZ,off,none⟩) es.length c) (.slice none 0 0)=(do pure (.bool (!(<- Op.equal t (.slice (some ⟨dZ,off,none⟩) es.length c) (.slice none 0 0))))):=rfl;constructor
 ·rw[dt,o];simp[ab]
 rw[dt,J];simp[ab]
theorem WC {op:BinOp}{t cW:TypeId}{x y:Operand}(h:cq g s al a w)(ai:I.op = .binOp op t x y cW)(ak:et P s.E s.aH aR I cr=some bc)(b4:∀p∈bc.eX,p):Fin P g s a w I bc:=by
 simp only[et,ai] at ak;have aa:=h.eval x;have aP:=h.eval y;split at ak
 ·rename_i v af aN;simp only[dy] at ak;subst ak;obtain⟨u,o,J⟩:=VT (P:=P) (t:=t) aN b4 aa aP x y;refine hL (v:=u) h ?_ rfl J;simp only[execOp,ai];rw[Sem.run_bind,o];rfl
 split at ak
 ·cases he:sk P t (eh s.E x) (eh s.E y) with
  | none=>simp[he] at ak
  | some r =>
   simp[he] at ak;subst ak;refine hL (v:= .bool r) h ?_ rfl (.b r);simp only[execOp,ai];rw[Sem.run_bind,(yi (w:=w) he aa aP x y).1];rfl
 ·cases he:sk P t (eh s.E x) (eh s.E y) with
  | none=>simp[he] at ak
  | some r =>
   simp[he] at ak;subst ak;refine hL (v:= .bool !r) h ?_ rfl (.b _);simp only[execOp,ai];rw[Sem.run_bind,(yi (w:=w) he aa aP x y).2];rfl
 simp at ak
theorem XJ {op:UnOp}{t:TypeId}{x:Operand}(h:cq g s al a w)(ai:I.op = .unOp op t x)(ak:et P s.E s.aH aR I cr=some bc):Fin P g s a w I bc:=by
 simp only[et,ai] at ak;have aa:=h.eval x
 cases he:IR op (eh s.E x) with
 | none=>simp[he] at ak
 | some v =>
  simp[he] at ak;subst ak;unfold IR at he;split at he
  ·rename_i k n gA;rw[gA] at aa;simp only[dy] at he;subst he;refine hL (v:= .int k (k.wrap (0-n))) h ?_ rfl (.n _ _);simp[execOp,ai,aa.n6,Op.unary,Op.intArith]
  ·rename_i b gA;rw[gA] at aa;simp only[dy] at he;subst he;refine hL (v:= .bool !b) h ?_ rfl (.b _);simp[execOp,ai,aa.t9,Op.unary]
  simp at he
theorem Vi {t cW:TypeId}{x:Operand}(h:cq g s al a w)(ai:I.op = .convert t cW x)(ak:et P s.E s.aH aR I cr=some bc):Fin P g s a w I bc:=by
 simp only[et,ai] at ak;have aa:=h.eval x;split at ak
 ·rename_i k dn n bz gA
  rw[gA] at aa;split at ak
  case isFalse=>simp at ak
  rename_i bO;simp only[dy] at ak;subst ak;refine hL (v:= .int k (k.wrap n)) h ?_ rfl (.n _ _)
  cases QI:P.underlying t with
  | none=>simp[QI] at bO
  | some d=>simp[execOp,ai,aa.n6,convert,run_underlying bz,run_underlying QI,Conv.intToInt]
 ·rename_i r k bw len bz gA
  rw[gA] at aa;split at ak;rotate_left
  ·simp at ak
  rename_i af Ev a5;split at ak;rotate_left
  ·simp at ak
  rename_i nj BI;split at ak;rotate_left
  ·simp at ak
  rename_i aL;simp only[dy] at ak;subst ak
  obtain⟨e,bO,he⟩ : ∃e,P.underlying t=some (.slice e)/\P.underlying e=some (.int .u8):=by
   unfold ph at Ev;split at Ev
   ·rename_i e bO;exact⟨e,bO,Ev⟩
   simp at Ev
  have du:s.af r k=some af:=a5;have eC:=h.obj r k af du
  have hzero : ∀(o5:Option Addr) (c:Nat),len=0->(convert t cW (.slice o5 0 c)).run P w = .ok (.string (yO nj)) w:=by
   intro o5 c h0;subst h0;have:nj=[]:=(by simpa [bytesOf] using BI);subst this
   cases o5 with
   | none=>rw[run_convert_bytes_string w t cW e none 0 c bO he bz];simp[Conv.bytesToString,yO]
   | some o5 =>
    rw[run_convert_bytes_string w t cW e (some o5) 0 c bO he bz,run_bytesToString w o5 0 c [] (by have:=run_loadCells_list (P:=P) w o5 [] (fun j v av=>by simp at av);simpa using this)];rfl
  rcases aa.AH (hG du) with ⟨ah,rfl,rfl,hval⟩|⟨b,m,A,c,ah,hval,p5,sl,hm⟩
  ·refine hL (v:= .string (yO nj)) h ?_ rfl (.s _);simp[execOp,ai,hval,hzero none 0 rfl]
  refine hL (v:= .string (yO nj)) h ?_ rfl (.s _);by_cases h0:len=0
  ·subst h0;simp[execOp,ai,hval,hzero A c rfl]
  rcases hm with hm|⟨hA,hm⟩
  ·omega
  subst hA;rw[ah] at eC;have ie:=eC.rd
  have yY : ∀(es:List (List an)) (nj:ar),bytesOf es=some nj->es.length=nj.length/\ ∀(i:Nat) n,nj[i]? = some n->es[i]? = some [.n .u8 n]:=by
   intro es
   induction es with
   | nil=>intro nj h;simp[bytesOf] at h;subst h;exact⟨rfl,fun i n ae=>by simp at ae⟩
   | cons x es ih =>
    intro nj h;unfold bytesOf at h;split at h
    ·simp at *
    ·rename_i n0 aea vX
     simp only[List.cons.injEq] at vX;obtain⟨rfl,rfl⟩:=vX;rw[dN] at h;obtain⟨fg,aaA,rfl⟩:=h;obtain⟨ao,aB⟩:=ih fg aaA;refine⟨by simp[ao],fun i n ae=> ?_⟩
     cases i with
     | zero=>simp at ae;subst ae;rfl
     | succ i=>simpa using aB i n (by simpa using ae)
    simp at h
  obtain⟨ao,aB⟩:=yY _ _ BI;have hlen:nj.length=len:=(by rw[<- ao];simp;omega);have Zg:(loadCells ⟨b,bw*af.sz,none⟩ len).run P w = .ok (nj.map (Value.int .u8)).toArray w:=(by have:=run_loadCells_list (P:=P) w ⟨b,bw*af.sz,none⟩ (nj.map (Value.int .u8)) (fun j v av=>by rw[dJ,dN] at av;obtain⟨n,aV,rfl⟩:=av;have lX:=aB j n aV;have vY:j<len:=(by rw[<- hlen];exact(afl.1 aV).1);rw[List.getElem?_take_of_lt vY,afm] at lX;obtain⟨v,v1,v2,v3⟩:=ie.2 ((bw+j)*af.sz+0) (.n .u8 n) (by rw[Am ie.1 lX (by omega)];rfl);have aZ:=v3.n6;subst aZ;rw[rc,<- v1,aL.2];congr 2;omega);rw[aft,hlen] at this;exact this);have J:=run_bytesToString w ⟨b,bw*af.sz,none⟩ len c nj Zg;rw[<- run_convert_bytes_string w t cW e _ len c bO he bz] at J;simp[execOp,ai,hval,J,yO]
 simp at ak
theorem UW {f:Fn}{Ck b6:Array Operand}(h:cq g s al a w)(ai:I.op = .makeFunc f Ck b6)(ak:et P s.E s.aH aR I cr=some bc):Fin P g s a w I bc:=by
 cases f with
 | func n =>
  simp only[et,ai] at ak;split at ak;rotate_left
  ·simp at ak
  rename_i aaB;simp only[dy] at ak;subst ak;refine hL (v:= .func (.func n) #[] (b6.map a.eval)) h ?_ rfl ?_
  ·have:Ck = #[]:=(by simpa using aaB);subst this;simp[execOp,ai,Instr.makeFunc]
  have:=Rel.fn (f:=n) (c:=b6.toList.map (eh s.E)) (w:=w) (ok:=s.ok g al w) (aW:=s.aW) (a0:=s.a0 al) (b6.toList.map a.eval) (by simp) (by intro j x v aa aZ;rw[dJ,dN] at aa aZ;obtain⟨p,ah,rfl⟩:=aa;obtain⟨q,a2,rfl⟩:=aZ;rw[ah] at a2;simp at a2;subst a2;exact h.eval p);have e:(b6.toList.map a.eval).toArray=b6.map a.eval:=(by apply Array.ext';rw[Array.toList_map]);rw[e] at this;exact this
 | _=>simp[et,ai] at ak
theorem Vj {i:Nat}{x:Operand}(h:cq g s al a w)(ai:I.op = .extract x i)(ak:et P s.E s.aH aR I cr=some bc):Fin P g s a w I bc:=by
 simp only[et,ai] at ak;have aa:=h.eval x;split at ak;rotate_left
 ·simp at ak
 rename_i vs gA;rw[gA] at aa
 cases ae:vs[i]? with
 | none=>simp[ae] at ak
 | some v =>
  simp[ae] at ak;subst ak;obtain⟨aW,hval,aF,aj⟩:=aa.yo
  have dq:i<aW.length:=by
   rcases Nat.lt_or_ge i vs.length with cf|cf
   ·omega
   rw[dP cf] at ae;simp at ae
  have hu:aW[i]? = some aW[i]:=dx dq;refine hL (v:=aW[i]) h ?_ rfl (aj i v _ ae hu);simp[execOp,ai,hval,Instr.extract,hu]
end
section
variable {P:Program} {g:G} {s:S} {al:fj} {a:Act} {w:World} {I:Oper} {cr:eG} {aR:Nat} {bc:gM}
theorem re {t e:TypeId}(h:ph P t=some e):P.underlying t=some (.slice e):=by
 unfold ph at h;split at h
 ·rename_i er he;simp at h;subst h;exact he
 simp at h
theorem GF {t:TypeId}{jG:Array Field}(h:fieldsOf P t=some jG):P.underlying t=some (.struct jG):=by
 unfold fieldsOf at h;split at h
 ·rename_i er he;simp at h;subst h;exact he
 simp at h
theorem Mx : ∀(z c:List an),(ri z c).length=z.length
 | x::z,y::c=>by simp[ri,Mx z c]
 | [],_=>by simp[ri]
 | _::_,[]=>by simp[ri]
theorem UA (z:List an)(cr:eG):(sZ z cr).length=z.length:=by
 unfold sZ;split
 ·exact Mx z _
 rfl
theorem Vk (x y:an){w:World}{ok:Nat->Prop}{aW:iY}{a0:iP}{v:Value}(h:Rel w ok aW a0 x v):Rel w ok aW a0 (AP x y) v:=by
 unfold AP;split
 ·rw[h.pM];exact .jC _ _ _ (fun _=>rfl)
 ·rw[h.vg];exact .pk _
 ·rw[h.pM];exact .mx (.jC _ _ _ (fun _=>rfl))
 exact h
theorem NC : ∀(z c:List an) (j:Nat) q,(ri z c)[j]? = some q-> ∃x,z[j]? = some x/\(q=x\/ ∃y,q=AP x y)
 | x::z,y::c,0,q,h=>by simp[ri] at h;exact⟨x,rfl,.inr ⟨y,h.symm⟩⟩
 | x::z,y::c,j+1,q,h=>by simp only[ri,List.getElem?_cons_succ] at h;simpa using NC z c j q h
 | [],c,j,q,h=>by simp[ri] at h
 | x::z,[],j,q,h=>⟨q,by simpa [ri] using h,.inl rfl⟩
theorem WD (z:List an)(cr:eG)(j:Nat)(q:an)(h:(sZ z cr)[j]? = some q): ∃x,z[j]? = some x/\(q=x\/ ∃y,q=AP x y):=by
 unfold sZ at h;split at h
 ·exact NC z _ j q h
 exact⟨q,h,.inl rfl⟩
theorem UB {t:TypeId}{x y:Operand}(h:cq g s al a w)(ey:s.aH aR=none)(ai:I.op = .makeSlice t x y)(ak:et P s.E s.aH aR I cr=some bc)(b4:∀p∈bc.eX,p):Fin P g s a w I bc:=by
 simp only[et,ai] at ak;have aa:=h.eval x;have aP:=h.eval y;split at ak;rotate_left
 ·simp at ak
 rename_i e jU l h1 c he ZK ZL;rw[ZK] at aa;rw[ZL] at aP;split at ak;rotate_left
 ·simp at ak
 rename_i i z ae b5;obtain⟨eM,ea,iC,jP,qY,Pg⟩:=x5 b5;rw[ae] at iC;simp at iC;subst iC;simp only[Option.ite_none_right_eq_some,dy] at ak;obtain⟨ev,ak⟩:=ak;subst ak;have me:=UA z cr
 have jA : ∀(j:Nat) q,(sZ z cr)[j]? = some q-> ∃v,ea.cells[j]? = some v/\VL.jL v=true/\ ∀w ok aW a0,Rel w ok aW a0 q v:=by
  intro j q a2;obtain⟨x,dl,na⟩:=WD z cr j q a2;obtain⟨v,v1,v2,v3⟩:=Pg j x dl;refine⟨v,v1,v2,fun w ok aW a0=> ?_⟩;rcases na with rfl|⟨y,rfl⟩
  ·exact v3 w ok aW a0
  exact Vk x y (v3 w ok aW a0)
 clear Pg;have h0:0<=l:=b4 _ (by simp);have o:l<=c:=b4 _ (by simp);have J:(i.bytes:Int)*c<=281474976710656:=b4 _ (by simp);have ab:c<9223372036854775808:=b4 _ (by simp);have ls:z.length=ea.cells.size:=by rw[qY];simp
 have iL:=run_make (P:=P) w t e i ea (re he) ae jP jU h1 l c h0 o J (by omega);refine DT (v:= .slice (some ⟨w.heap.size,0,none⟩) l.toNat c.toNat) (af:=⟨z.length,List.replicate l.toNat (sZ z cr),.live⟩) (c:=madeCells ea.cells (c.toNat*i.size)) (ef:=e) h ey rfl ?_ rfl ?_ ?_ ?_
 ·simp[execOp,ai,aa.n6,aP.n6,iL]
 ·intro er lr;rw[List.eq_of_mem_replicate lr];exact me
 ·intro j q a2
  have aF : ∀er∈List.replicate l.toNat (sZ z cr),er.length=z.length:=fun er lr=>(by rw[List.eq_of_mem_replicate lr];exact me);rcases Nat.eq_zero_or_pos z.length with rv|EG
  ·have:sZ z cr=[]:=dK.1 (by omega);rw[this] at a2;simp at a2
  rw[pa EG _ aF,List.getElem?_replicate] at a2;by_cases av:j / z.length<l.toNat;rotate_left
  ·rw[dA av] at a2;simp at a2
  rw[dw av] at a2;simp only[dB] at a2;obtain⟨v,ao,aB,bT⟩:=jA _ _ a2;refine⟨v,?_,aB,bT _ _ _ _⟩;have dq:j<c.toNat*i.size:=(by rw[<- ev];have:j<l.toNat*z.length:=(Nat.div_lt_iff_lt_mul EG).1 av;exact Nat.lt_of_lt_of_le this (afi _ (by omega)));simp only[madeCells];rw[Array.getElem?_map,Array.getElem?_range];simp only[dq,if_true,dQ];rw[ls] at ao;have hm:j % ea.cells.size<ea.cells.size:=Nat.mod_lt _ (by omega);rw[dS hm] at ao;rw[getElem!_pos ea.cells _ hm];exact ao
 intro bx kl mD lV hu ch;refine Rel.bK hu ch (by omega) (by omega) ⟨?_,.inr (by simp)⟩;rw[size_madeCells];simp only[dF,ev]
theorem UC {t:TypeId}{x:Operand}{f:Nat}(h:cq g s al a w)(ai:I.op = .fieldAddr t x f)(ak:et P s.E s.aH aR I cr=some bc)(b4:∀p∈bc.eX,p):Fin P g s a w I bc:=by
 simp only[et,ai] at ak;have aa:=h.eval x;split at ak;rotate_left
 ·simp at ak
 rename_i jG BJ;split at ak;rotate_left
 ·simp at ak
 rename_i fd uq;split at ak
 ·simp at ak
 rename_i QJ
 have ae:(P.info? fd.type).isSome=true:=by
  cases ae:P.info? fd.type with
  | none=>simp[Program.cellsOf,ae] at QJ
  | some i=>rfl
 have iL : ∀A:Addr,A.spot=none->(Instr.fieldAt t (.pointer (some A)) f).run P w = .ok (.pointer (some ⟨A.block,A.off+fd.offset,none⟩)) w:=by intro A hA;have e:A.add fd.offset=⟨A.block,A.off+fd.offset,none⟩:=(by obtain⟨b,I,sp⟩:=A;simp only at hA;subst hA;exact rc b I _);simp[Instr.fieldAt,run_underlying (GF BJ),uq,Instr.sureAddr,fieldPlace,rZ ae,QJ,e]
 split at ak
 ·rename_i r k i off gA
  rw[gA] at aa;split at ak
  ·rename_i af bS a5
   split at ak
   ·rename_i c aY me
    simp only[dy] at ak;subst ak;have iy:s.af r k=some af:=r7 a5 fun p ah=>b4 p (by simp[ah]);have pn:=yc me fun p ah=>b4 p (by simp[ah]);have eC:=h.obj r k af iy;rcases aa.vm (hG iy) with h0|⟨b,m,ah,hval⟩
    ·rw[h0] at eC;simp only[iJ] at eC;rw[eC] at pn;simp at pn
    refine hL (v:= .pointer (some ⟨b,i*af.sz+(off+fd.offset),none⟩)) h ?_ rfl ?_
    ·simp[execOp,ai,hval,iL,Nat.add_assoc]
    exact aa.NA ((hG iy).trans (by rw[ah])) _
   simp at ak
  simp at ak
 ·rename_i sz es i off gA;rw[gA] at aa;simp only[dy] at ak;subst ak;obtain⟨dZ,bX,aN,hval,ie⟩:=aa.yp;refine hL (v:= .pointer (some ⟨dZ,bX+(i*sz+(off+fd.offset)),none⟩)) h ?_ rfl (ie.e4 aN);simp[execOp,ai,hval,iL,Nat.add_assoc]
 simp at ak
theorem Hx {t e:TypeId}{n:Nat}(h:Bj P t=some (n,e)):P.underlying t=some (.array n e)/\(P.info? e).isSome=true/\P.cellsOf e≠0/\1<n:=by
 unfold Bj at h;split at h
 ·rename_i mR er hu
  split at h
  ·rename_i aL;simp only[dy,dC] at h;obtain⟨rfl,rfl⟩:=h;exact⟨hu,aL⟩
  simp at h
 simp at h
theorem WE {t:TypeId}{x y:Operand}(h:cq g s al a w)(ai:I.op = .indexAddr t x y)(ak:yF P s.aH t (eh s.E x) (eh s.E y) cr=some bc)(b4:∀p∈bc.eX,p):Fin P g s a w I bc:=by
 unfold yF at ak;have aa:=h.eval x;have aP:=h.eval y;split at ak;rotate_left
 ·simp at ak
 rename_i n e r k i off cg j h7 tc Bl;rw[tc] at aa;rw[Bl] at aP;obtain⟨hu,ae,aL,aV⟩:=Hx h7;split at ak;rotate_left
 ·simp at ak
 rename_i af bS a5;split at ak
 ·rename_i c aY me
  simp only[dy] at ak;subst ak;have iy:s.af r k=some af:=r7 a5 fun p ah=>b4 p (by simp[ah]);have pn:=yc me fun p ah=>b4 p (by simp[ah]);have h0:0<=j:=b4 _ (by simp);have o:j<n:=b4 _ (by simp);have eC:=h.obj r k af iy;rcases aa.vm (hG iy) with b5|⟨b,m,ah,hval⟩
  ·rw[b5] at eC;simp only[iJ] at eC;rw[eC] at pn;simp at pn
  refine hL (v:= .pointer (some ⟨b,i*af.sz+(off+j.toNat*P.cellsOf e),none⟩)) h ?_ rfl ?_
  ·simp[execOp,ai,hval,aP.n6,Instr.indexAt,asIntOf,run_underlying hu,Instr.sureAddr,h0,o,rZ ae,rc,Nat.add_assoc]
  exact aa.NA ((hG iy).trans (by rw[ah])) _
 simp at ak
theorem UD {t:TypeId}{x y:Operand}(h:cq g s al a w)(ai:I.op = .indexAddr t x y)(ak:et P s.E s.aH aR I cr=some bc)(b4:∀p∈bc.eX,p):Fin P g s a w I bc:=by
 simp only[et,ai] at ak;have aa:=h.eval x;have aP:=h.eval y;split at ak;rotate_left
 ·exact WE h ai ak b4
 rename_i e k j he gA;rw[gA] at aP;have hu:=re he
 have iL : ∀(b I len cap:Nat),0<=j->j<len->(P.info? e).isSome=true ->
  (Instr.indexAt t (.slice (some ⟨b,I,none⟩) len cap) (.int k j)).run P w = .ok (.pointer (some ⟨b,I+j.toNat*P.cellsOf e,none⟩)) w:=by
  intro b I len cap h0 o ae;have er:=rc b I (j.toNat*P.cellsOf e);simp[Instr.indexAt,asIntOf,run_underlying hu,h0,o,rZ ae,er]
 have s0 : ∀sz,sz=P.cellsOf e->sz≠0->(P.info? e).isSome=true:=by
  intro sz bO b5
  cases ae:P.info? e with
  | none=>simp[Program.cellsOf,ae] at bO;exact absurd bO b5
  | some i=>rfl
 split at ak
 ·rename_i sz es tc
  rw[tc] at aa;simp only[Option.ite_none_right_eq_some,dy] at ak;obtain⟨⟨bO,b5⟩,ak⟩:=ak;subst ak;have h0:0<=j:=b4 _ (by simp);have o:j<es.length:=b4 _ (by simp);rcases aa.sR with ⟨BK,-⟩|⟨dZ,off,c,aN,hval,aL,ie⟩
  ·subst BK;simp at o;omega
  refine hL (v:= .pointer (some ⟨dZ,off+(j.toNat*sz+0),none⟩)) h ?_ rfl (ie.e4 aN);simp[execOp,ai,hval,aP.n6,iL _ _ _ _ h0 o (s0 sz bO b5),bO]
 ·rename_i r q bw len tc
  rw[tc] at aa;split at ak;rotate_left
  ·simp at ak
  rename_i row cV;split at ak;rotate_left
  ·simp at ak
  rename_i af bS a5;simp only[Option.ite_none_right_eq_some,dy] at ak;obtain⟨⟨bO,b5⟩,ak⟩:=ak;subst ak;have iy:s.af r q=some af:=(by unfold S.af;rw[cV];exact r7 a5 fun p ah=>b4 p (by simp[ah]));have h0:0<=j:=b4 _ (by simp);have o:j<len:=b4 _ (by simp);rcases aa.AH (hG iy) with ⟨-,-,J,-⟩|⟨b,m,A,c,ah,hval,aF,-,hm⟩
  ·subst J;simp at o;omega
  rcases hm with hm|⟨hA,hm⟩
  ·omega
  subst hA;have i4:=DG iy;refine hL (v:= .pointer (some ⟨b,(bw+j.toNat)*af.sz+0,none⟩)) h ?_ rfl (.ref i4 ((hG iy).trans (by rw[ah])));simp[execOp,ai,hval,aP.n6,iL _ _ _ _ h0 o (s0 _ bO b5),bO,Nat.add_mul]
 simp at ak
theorem Ys {c:Call}(h:cq g s al a w)(ai:I.op = .call c)(aL:c.callee = .builtin .len)(ak:et P s.E s.aH aR I cr=some bc)(b4:∀p∈bc.eX,p):Fin P g s a w I bc:=by
 obtain⟨EH,args,lY⟩:=c;simp only at aL;subst aL;simp only[et,ai] at ak
 have key : ∀(x:Operand) (n:Nat) (t:TypeId) (v:Value),args.toList=[x]->lY = #[t]->bc.val = .n .i64 n->bc.fz=[]->a.eval x=v ->
  (Builtin.len_ #[t] I.type #[v]).run P w = .ok (goInt n) w->Fin P g s a w I bc:=by
  intro x n t v hargs lu aj hp aZ iL;subst lu;refine hL (v:=goInt n) h ?_ hp (by rw[aj];exact .n _ _);have bA:args = #[x]:=(by apply Array.ext';simpa using hargs);subst bA;simp[execOp,ai,resolve,invoke,builtin,aZ,iL]
 have hargs : ∀y,args.toList.map (eh s.E)=[y]-> ∃x,args.toList=[x]/\eh s.E x=y:=by
  intro y aP
  match aF:args.toList,aP with
  | [x],aP=>simp at aP;exact⟨x,rfl,aP⟩
 have lo:decide (lY.size=1)=true-> ∃t,lY = #[t]/\lY.getD 0 0=t:=by
  intro ev;have ev:lY.size=1:=(by simpa using ev);obtain⟨l⟩:=lY
  match l,ev with
  | [t],_=>exact⟨t,rfl,rfl⟩
 split at ak
 ·rename_i sz es e hm hu ev
  obtain⟨x,aa,gA⟩:=hargs _ hm;obtain⟨t,ch,nF⟩:=lo ev;rw[nF] at hu;simp only[dy] at ak;have aj:=h.eval x;rw[gA] at aj;rcases aj.sR with ⟨BK,A,c,hval,hA⟩|⟨dZ,off,c,aN,hval,-⟩
  ·exact key x es.length t _ aa ch (by rw[<- ak]) (by rw[<- ak]) hval (by subst BK;simp[Builtin.len_,run_underlying hu])
  exact key x es.length t _ aa ch (by rw[<- ak]) (by rw[<- ak]) hval (by simp[Builtin.len_,run_underlying hu])
 ·rename_i r k bw len e hm hu ev
  obtain⟨x,aa,gA⟩:=hargs _ hm;obtain⟨t,ch,nF⟩:=lo ev;rw[nF] at hu;split at ak
  ·rename_i row cV
   split at ak
   ·rename_i af bS a5
    simp only[dy] at ak;have aj:=h.eval x;rw[gA] at aj;have iy:s.af r k=some af:=(by unfold S.af;rw[cV];exact r7 a5 fun p ah=>b4 p (by rw[<- ak];exact ah));rcases aj.AH (hG iy) with ⟨-,-,J,hval⟩|⟨b,m,A,c,ah,hval,-⟩
    ·exact key x len t _ aa ch (by rw[<- ak]) (by rw[<- ak]) hval (by subst J;simp[Builtin.len_,run_underlying hu])
    exact key x len t _ aa ch (by rw[<- ak]) (by rw[<- ak]) hval (by simp[Builtin.len_,run_underlying hu])
   simp at ak
  simp at ak
 ·rename_i e hm hu ev;obtain⟨x,aa,gA⟩:=hargs _ hm;obtain⟨t,ch,nF⟩:=lo ev;rw[nF] at hu;simp only[dy] at ak;have aj:=h.eval x;rw[gA] at aj;exact key x 0 t _ aa ch (by rw[<- ak];rfl) (by rw[<- ak]) aj.pM (by simp[Builtin.len_,run_underlying hu])
 ·rename_i b hm hu ev;obtain⟨x,aa,gA⟩:=hargs _ hm;obtain⟨t,ch,nF⟩:=lo ev;rw[nF] at hu;simp only[dy] at ak;have aj:=h.eval x;rw[gA] at aj;exact key x b.size t _ aa ch (by rw[<- ak]) (by rw[<- ak]) aj.yH (by simp[Builtin.len_,run_underlying hu])
 simp at ak
theorem De {ok:Nat->Prop}{aW:iY}{a0:iP}{dZ off sz:Nat}{es:List (List an)}(h:oo w ok aW a0 dZ off sz es)(l n:Nat)(aF:l<=es.length):
 oo w ok aW a0 dZ (off+l*sz) sz ((es.drop l).take n):=by
 have qI : ∀e∈(es.drop l).take n,e.length=sz:=fun e he=>h.1 e (List.mem_of_mem_drop (List.mem_of_mem_take he));refine⟨qI,fun j x aa=> ?_⟩;rcases Nat.eq_zero_or_pos sz with h0|bO
 ·have ao : ∀(l:List (List an)),(∀e∈l,e.length=0)->l.flatten=[]:=by
   intro l aF;induction l with
   | nil=>rfl
   | cons a l ih=>rw[afb,ih fun e he=>aF e (by simp[he])];have:=aF a (by simp);simp_all
  rw[ao _ (fun e he=>(qI e he).trans h0)] at aa;simp at aa
 rw[pa bO _ qI] at aa
 have av:j / sz<n:=by
  rcases Nat.lt_or_ge (j / sz) n with cf|cf
  ·exact cf
  rw[dP (by simp;omega)] at aa;simp at aa
 rw[dR,dw av,afm] at aa;obtain⟨v,ao,aB,bT⟩:=h.2 (l*sz+j) x (by rw[pa bO es h.1];have iG:(l*sz+j) / sz=l+j / sz:=(by rw[Nat.mul_comm,Nat.mul_add_div bO]);have jl:(l*sz+j) % sz=j % sz:=(by rw[Nat.mul_comm,Nat.mul_add_mod]);rw[iG,jl];exact aa);exact⟨v,by rw[Nat.add_assoc];exact ao,aB,bT⟩
theorem C4 {t e:TypeId}(hu:P.underlying t=some (.slice e))(ae:(P.info? e).isSome=true)(A:Option Addr)(len cap:Nat)(bw iC:Option Value)(l h:Nat)
 (EI:(bw=none/\l=0)\/ ∃k,bw=some (.int k l)) (QK:(iC=none/\h=len)\/ ∃k,iC=some (.int k h)) (o:l<=h) (J:h<=cap) (ab:len<=cap) :
 (Instr.sliceAt t (.slice A len cap) bw iC none).run P w = .ok (.slice (if cap=l then A else A.map (·.add (l*P.cellsOf e))) (h-l) (cap-l)) w:=by
 have aN : ∀(k:IntKind) (n y:Nat) (code:BoundsCode),n<=y->(Instr.sliceBound (.int k n) y code).run P w = .ok n w:=by intro k n y code aV;simp[Instr.sliceBound,asIntOf,aV]
 rcases EI with ⟨rfl,rfl⟩|⟨jU,rfl⟩<;>rcases QK with ⟨rfl,rfl⟩|⟨h1,rfl⟩ <;>
  simp[Instr.sliceAt,Instr.slice,run_underlying hu,Instr.sliceBounds,rZ ae,aN,o,J,ab]
theorem Up {t e:TypeId}(hu:P.underlying t=some (.slice e))(ae:(P.info? e).isSome=true)(A:Option Addr)(len cap:Nat)(bw:Option Value)(l h m:Nat)(h1 jV:IntKind)
 (EI:(bw=none/\l=0)\/ ∃k,bw=some (.int k l)) (o:l<=h) (J:h<=m) (ab:m<=cap) :
 ∃v,(Instr.sliceAt t (.slice A len cap) bw (some (.int h1 h)) (some (.int jV m))).run P w = .ok v w:=by
 have aN : ∀(k:IntKind) (n y:Nat) (code:BoundsCode),n<=y->(Instr.sliceBound (.int k n) y code).run P w = .ok n w:=by intro k n y code aV;simp[Instr.sliceBound,asIntOf,aV]
 rcases EI with ⟨rfl,rfl⟩|⟨jU,rfl⟩ <;>
  exact⟨_,by simp[Instr.sliceAt,Instr.slice,run_underlying hu,Instr.sliceBounds,rZ ae,aN,o,J,ab];rfl⟩
theorem sU {x:Option Operand}(h:cq g s al a w){d n:Nat}{af:List Prop}(aN:au (x.map (eh s.E)) d=some (n,af))(b4:∀p∈af,p):
 (x.map a.eval=none/\n=d)\/ ∃k,x.map a.eval=some (.int k n):=by
 cases x with
 | none=>simp[au] at aN;exact .inl ⟨rfl,aN.1.symm⟩
 | some x =>
  have aa:=h.eval x;simp only[dQ] at aN ⊢;unfold au at aN;split at aN
  ·rename_i he;simp at he
  ·rename_i _ k y he;simp only[dy] at he;rw[he] at aa;simp only[dy,dC] at aN;obtain⟨rfl,rfl⟩:=aN;have h0:0<=y:=b4 _ (by simp);refine .inr ⟨k,?_⟩;rw[aa.n6,Int.toNat_of_nonneg h0]
  simp at aN
theorem yj {sz:Nat}: ∀ {es:List (List an)},(∀e∈es,e.length=sz)->es.flatten.length=es.length*sz
 | [],_=>by simp
 | e::es,h=>by rw[afb,dH,yj fun x aa=>h x (by simp[aa]),h e (by simp),dM,Nat.add_mul];omega
theorem cq.room (h:cq g s al a w){r k b M:Nat}{af:aM}(ai:s.af r k=some af)(kD:al r k=some (b,M)):af.es.length*af.sz<=M:=by
 have eC:=h.obj r k af ai;rw[kD] at eC;obtain⟨b6,la,g1,g2,g3,g4⟩:=eC;have jg:=yj g3;rcases Nat.eq_zero_or_pos af.es.flatten.length with h0|iS
 ·omega
 obtain⟨v,ao,-⟩:=g4 (af.es.flatten.length-1) _ (dx (by omega));have:=(afj.1 ao).1;omega
theorem VU {t:TypeId}{x ae tA:Operand}{bw:Option Operand}(h:cq g s al a w)(ai:I.op = .slice t x bw (some ae) (some tA))(ak:et P s.E s.aH aR I cr=some bc)(b4:∀p∈bc.eX,p):Fin P g s a w I bc:=by
 simp only[et,ai] at ak;have aa:=h.eval x
 have s0 : ∀sz e,sz=P.cellsOf e->sz≠0->(P.info? e).isSome=true:=by
  intro sz e bO b5
  cases ae:P.info? e with
  | none=>simp[Program.cellsOf,ae] at bO;exact absurd bO b5
  | some i=>rfl
 split at ak;rotate_left
 ·simp at ak
 rename_i e r k tz len hu gA;rw[gA] at aa;split at ak
 ·simp at ak
 rename_i row cV;split at ak
 ·simp at ak
 rename_i af Cj a5;split at ak;rotate_left
 ·simp at ak
 rename_i l bS n aY m gm aF aV hm;simp only[Option.ite_none_right_eq_some,dy] at ak;obtain⟨⟨bO,b5⟩,ak⟩:=ak;subst ak;have iy:s.af r k=some af:=by unfold S.af;rw[cV];exact r7 a5 fun p ah=>b4 p (by simp[ah])
 have gH:=sU h aF fun p ah=>b4 p (by simp[ah]);have h8:=sU (x:=some ae) h aV fun p ah=>b4 p (by simp[ah]);have kU:=sU (x:=some tA) h hm fun p ah=>b4 p (by simp[ah]);have o:l<=n:=b4 _ (by simp);have J:n<=m:=b4 _ (by simp);have ab:m<=len:=b4 _ (by simp)
 obtain⟨h1,aB⟩ : ∃h1,a.eval ae = .int h1 n:=by
  rcases h8 with ⟨e,-⟩|⟨h1,e⟩
  ·simp at e
  exact⟨h1,by simpa using e⟩
 obtain⟨jV,bT⟩ : ∃jV,a.eval tA = .int jV m:=by
  rcases kU with ⟨e,-⟩|⟨jV,e⟩
  ·simp at e
  exact⟨jV,by simpa using e⟩
 obtain⟨A,L,C,hval,aL⟩ : ∃A L C,a.eval x = .slice A L C/\m<=C:=by
  rcases aa.r3 (hG iy) with ⟨-,-,h0,hval⟩|⟨b,M,A,c,-,hval,p5,-⟩
  ·exact⟨none,0,0,hval,by omega⟩
  exact⟨A,len,c,hval,by omega⟩
 obtain⟨v,aZ⟩:=Up (w:=w) hu (s0 _ e bO b5) A L C (bw.map a.eval) l n m h1 jV gH o J aL;refine hL (v:=v) h ?_ rfl (.dead _);simp only[execOp,ai,hval];simp only[dQ,aB,bT,Sem.run_bind,aZ];rfl
theorem WG {t:TypeId}{x:Operand}{bw ae:Option Operand}(h:cq g s al a w)(ai:I.op = .slice t x bw ae none)(ak:et P s.E s.aH aR I cr=some bc)(b4:∀p∈bc.eX,p):Fin P g s a w I bc:=by
 simp only[et,ai] at ak;have aa:=h.eval x
 have s0 : ∀sz e,sz=P.cellsOf e->sz≠0->(P.info? e).isSome=true:=by
  intro sz e bO b5
  cases ae:P.info? e with
  | none=>simp[Program.cellsOf,ae] at bO;exact absurd bO b5
  | some i=>rfl
 split at ak
 ·rename_i e sz es hu gA
  rw[gA] at aa;split at ak;rotate_left
  ·simp at ak
  rename_i l bS n aY aF aV;simp only[Option.ite_none_right_eq_some,dy] at ak;obtain⟨⟨bO,b5⟩,ak⟩:=ak;subst ak;have gH:=sU h aF fun p ah=>b4 p (by simp[ah]);have h8:=sU h aV fun p ah=>b4 p (by simp[ah]);have o:l<=n:=b4 _ (by simp);have J:n<=es.length:=b4 _ (by simp);rcases aa.sR with ⟨BK,A,c,hval,hA⟩|⟨dZ,off,c,aN,hval,aL,ie⟩
  ·subst BK
   have IW:n=0:=(by simpa using J);subst IW;have nb:l=0:=(by omega);subst nb;refine hL (v:= .slice (if c=0 then A else A.map (·.add (0*P.cellsOf e))) (0-0) (c-0)) h ?_ rfl ?_
   ·have:=C4 (w:=w) hu (s0 sz e bO b5) A 0 c (bw.map a.eval) (ae.map a.eval) 0 0 gH h8 (dE _) (Nat.zero_le _) (Nat.zero_le _);simp only[execOp,ai,hval];simp only[Option.map_none,Sem.run_bind,this];rfl
   refine .jC sz _ _ fun aV=> ?_;split at aV
   ·rename_i mF;omega
   have:=hA (by simpa using aV);omega
  have hlen:((es.drop l).take (n-l)).length=n-l:=(by simp;omega);refine hL (v:= .slice (if c=l then some ⟨dZ,off,none⟩ else (some (⟨dZ,off,none⟩:Addr)).map (·.add (l*P.cellsOf e))) (n-l) (c-l)) h ?_ rfl ?_
  ·have:=C4 (w:=w) hu (s0 sz e bO b5) (some ⟨dZ,off,none⟩) es.length c (bw.map a.eval) (ae.map a.eval) l n gH h8 o (Nat.le_trans J aL) aL;simp only[execOp,ai,hval];simp only[Option.map_none,Sem.run_bind,this];rfl
  by_cases hy:c=l
  ·have:n-l=0:=(by omega);rw[this];show Rel _ _ _ _ (.isl sz ((es.drop l).take 0)) _;rw[List.take_zero];exact .jC sz _ _ (fun _=>by omega)
  rw[dA hy];simp only[dQ,rc,<- bO];have aj:=(De ie l (n-l) (by omega)).isl (c:=c-l) ⟨aN.1,fun e he=>aN.2 e (List.mem_of_mem_drop (List.mem_of_mem_take he))⟩ (by rw[hlen];omega);rw[hlen] at aj;exact aj
 ·rename_i e r k tz len hu gA
  rw[gA] at aa;split at ak
  ·simp at ak
  rename_i row cV;split at ak
  ·simp at ak
  rename_i af Cj a5;split at ak;rotate_left
  ·simp at ak
  rename_i l bS n aY aF aV;simp only[Option.ite_none_right_eq_some,dy] at ak;obtain⟨⟨bO,b5⟩,ak⟩:=ak;subst ak;have iy:s.af r k=some af:=(by unfold S.af;rw[cV];exact r7 a5 fun p ah=>b4 p (by simp[ah]));have gH:=sU h aF fun p ah=>b4 p (by simp[ah]);have h8:=sU h aV fun p ah=>b4 p (by simp[ah])
  have ec:l<=n/\(n<=len\/tz+n<=af.es.length):=by
   have hm : ∀p∈IQ cr l n len tz af.es.length,p:=fun p ah=>b4 p (by simp[ah]);unfold IQ at hm;split at hm
   ·exact⟨hm _ (by simp),.inr (hm _ (by simp))⟩
   exact⟨hm _ (by simp),.inl (hm _ (by simp))⟩
  obtain⟨o,J⟩:=ec;have i4:=DG iy;rcases aa.r3 (hG iy) with ⟨ah,rfl,rfl,hval⟩|⟨b,m,A,c,ah,hval,p5,sl,lv,hm⟩
  ·have IW:n=0:=by
    have eC:=h.obj r k af iy;rw[ah] at eC;simp only[iJ] at eC;rw[eC] at J;rcases J with J|J<;>simpa using J
   subst IW;have nb:l=0:=(by omega);subst nb;refine hL (v:= .slice none 0 0) h ?_ rfl (.nt i4 ((hG iy).trans (by rw[ah])));have:=C4 (w:=w) hu (s0 _ e bO b5) none 0 0 (bw.map a.eval) (ae.map a.eval) 0 0 gH h8 (dE _) (dE _) (dE _);simp only[execOp,ai,hval];simp only[Option.map_none,Sem.run_bind,this];rfl
  have aaC:n<=c:=by
   rcases J with J|J
   ·omega
   have:=h.room iy ah;rw[<- lv] at this;have:=Nat.le_of_mul_le_mul_right this (by omega);omega
  refine hL (v:= .slice (if c=l then A else A.map (·.add (l*P.cellsOf e))) (n-l) (c-l)) h ?_ rfl ?_
  ·have:=C4 (w:=w) hu (s0 _ e bO b5) A len c (bw.map a.eval) (ae.map a.eval) l n gH h8 o aaC p5;simp only[execOp,ai,hval];simp only[Option.map_none,Sem.run_bind,this];rfl
  refine Rel.bK i4 ((hG iy).trans (by rw[ah])) (by omega) (by omega) ?_;refine⟨by rw[<- lv];congr 1;omega,?_⟩;by_cases hy:c=l
  ·exact .inl (by omega)
  rcases hm with hm|hA
  ·exact .inl (by omega)
  refine .inr ?_;rw[dA hy,hA];simp only[dQ,rc,<- bO,Nat.add_mul]
 ·rename_i b hu gA
  rw[gA] at aa;split at ak;rotate_left
  ·simp at ak
  rename_i l bS n aY aF aV;simp only[dy] at ak;subst ak;have gH:=sU h aF fun p ah=>b4 p (by simp[ah]);have h8:=sU h aV fun p ah=>b4 p (by simp[ah]);have o:l<=n:=b4 _ (by simp);have J:n<=b.size:=b4 _ (by simp);refine hL (v:= .string (b.extract l n)) h ?_ rfl (.s _);have aN : ∀(k:IntKind) (n y:Nat) (code:BoundsCode),n<=y->(Instr.sliceBound (.int k n) y code).run P w = .ok n w:=(by intro k n y code aV;simp[Instr.sliceBound,asIntOf,aV]);simp only[execOp,ai,aa.yH,Option.map_none]
  rcases gH with ⟨ao,rfl⟩|⟨jU,ao⟩<;>rcases h8 with ⟨aB,rfl⟩|⟨h1,aB⟩<;>rw[ao,aB] <;>
   simp[Instr.sliceAt,Instr.slice,run_underlying hu,Instr.sliceBounds,aN,o,J]
 simp at ak
end
section
variable {P:Program} {g:G} {s:S} {al:fj} {a:Act} {w:World} {I:Oper} {cr:eG} {aR:Nat} {bc:gM}
theorem M6 {ok:Nat->Prop}{aW:iY}{a0:iP}{t:TypeId}{c:List an}{off:Nat}{x:an}{vs:List Value}(aF:vs.length=c.length)
 (jA : ∀(j:Nat) u,vs[j]? = some u->jL u=true) (aj : ∀(j:Nat) x u,c[j]? = some x->vs[j]? = some u->Rel w ok aW a0 x u)
 (ch:qD P t c off=some x) : ∃v,(part t vs.toArray off).run P w = .ok v w/\Rel w ok aW a0 x v:=by
 unfold qD at ch;split at ch
 ·simp at ch
 rename_i ae;simp only[Bool.not_eq_true',Bool.not_eq_false,afd] at ae;simp only[part,Sem.run_bind,Nz ae.1,Result.andThen];split at ch
 ·rename_i rq
  rw[rq];split at ch;rotate_left
  ·simp at ch
  rename_i hle;simp at ch;subst ch;have e:(vs.toArray.extract off (off+P.cellsOf t))=((vs.drop off).take (P.cellsOf t)).toArray:=(by apply Array.ext';simp[List.extract_eq_take_drop]);refine⟨.agg ((vs.drop off).take (P.cellsOf t)).toArray,by simp[rZ ae.2],?_⟩;refine .agg _ (by simp;omega) ?_ ?_
  ·intro j v aZ
   rw[dR] at aZ;split at aZ
   ·rw[afm] at aZ;exact jA _ _ aZ
   simp at aZ
  intro j y v aP aZ;rw[dR] at aZ aP;split at aZ
  ·rename_i av;rw[dw av] at aP;rw[afm] at aZ aP;exact aj _ _ _ aP aZ
  simp at aZ
 rename_i rq;have rq:AO P t=false:=by simpa using rq
 rw[rq];split at ch
 ·rename_i y aP
  split at ch
  ·simp at ch;subst ch
   have yP:off<vs.length:=by
    rcases Nat.lt_or_ge off c.length with h|h
    ·omega
    rw[dP h] at aP;simp at aP
   exact⟨vs[off],by simp[yP],aj off y _ aP (dx yP)⟩
  simp at ch
 simp at ch
theorem WH {t:TypeId}{x:Operand}{f:Nat}(h:cq g s al a w)(ai:I.op = .field t x f)(ak:et P s.E s.aH aR I cr=some bc):Fin P g s a w I bc:=by
 simp only[et,ai] at ak;have aa:=h.eval x;split at ak
 ·rename_i jG BJ
  split at ak
  ·rename_i fd c uq gA
   rw[gA] at aa
   cases ch:qD P fd.type c fd.offset with
   | none=>simp[ch] at ak
   | some v =>
    simp[ch] at ak;subst ak;obtain⟨vs,hval,aF,aL,aj⟩:=aa.yn;obtain⟨u,o,J⟩:=M6 aF aL aj ch;refine hL (v:=u) h ?_ rfl J;simp[execOp,ai,hval,Instr.field,run_underlying (GF BJ),uq,asAgg,o]
  simp at ak
 simp at ak
theorem ND : ∀ {a b c:List an},pY 0 a b=some c->c=a
 | [],[],c,h=>by simp[pY] at h;exact h
 | .n k x::a,.n dn y::b,c,h=>by
  unfold pY at h;split at h
  ·cases hm:pY 0 a b with
   | none=>simp[hm] at h
   | some d=>simp[hm] at h;rw[<- h,ND hm]
  simp at h
 | [],_::_,_,h=>by simp[pY] at h
theorem N3 {j:Int}(av:j≠0): ∀ {a b c:List an},pY j a b=some c->c=b
 | [],[],c,h=>by simp[pY] at h;exact h
 | .n k x::a,.n dn y::b,c,h=>by
  unfold pY at h;split at h
  ·rename_i aQ
   subst aQ
   cases hm:pY j a b with
   | none=>simp[hm] at h
   | some d=>simp[hm,av] at h;rw[<- h,N3 av hm]
  simp at h
 | [],_::_,_,h=>by simp[pY] at h
theorem VV {t:TypeId}{x y:Operand}(h:cq g s al a w)(ai:I.op = .index t x y)(ak:HM P t (eh s.E x) (eh s.E y)=some bc)(b4:∀p∈bc.eX,p):Fin P g s a w I bc:=by
 unfold HM at ak;have aa:=h.eval x;have aP:=h.eval y;split at ak;rotate_left
 ·simp at ak
 rename_i e cs cg j h7 tc Bl;rw[tc] at aa;rw[Bl] at aP;obtain⟨hu,ae,-,-⟩:=Hx h7;split at ak;rotate_left
 ·simp at ak
 rename_i dr jv bA aN
 cases hm:pY j dr jv with
 | none=>simp[hm] at ak
 | some c =>
  simp only[hm,dQ,dy] at ak;subst ak;have h0:0<=j:=b4 _ (by simp);have o:j<2:=b4 _ (by simp);obtain⟨vs,hval,aF,aL,aj⟩:=aa.yn
  have key:qD P e cs (j.toNat*P.cellsOf e)=some (.agg c):=by
   have:j=0\/j=1:=(by omega);rcases this with rfl|rfl
   ·rw[ND hm];exact bA
   rw[N3 (by decide) hm];exact aN
  obtain⟨u,jU,h1⟩:=M6 aF aL aj key;refine hL (v:=u) h ?_ rfl h1;simp[execOp,ai,hval,aP.n6,Instr.index,asIntOf,run_underlying hu,h0,o,rZ ae,jU]
theorem WI {t:TypeId}{x y:Operand}(h:cq g s al a w)(ai:I.op = .index t x y)(ak:et P s.E s.aH aR I cr=some bc)(b4:∀p∈bc.eX,p):Fin P g s a w I bc:=by
 simp only[et,ai] at ak;have aa:=h.eval x;have aP:=h.eval y;split at ak
 ·rename_i b k j hu tc Bl
  rw[tc] at aa;rw[Bl] at aP;simp only[dy] at ak;subst ak;have h0:0<=j:=b4 _ (by simp);have o:j<b.size:=b4 _ (by simp);have J:j.toNat<b.size:=(by omega);refine hL (v:= .int .u8 (b[j.toNat]).toNat) h ?_ rfl ?_
  ·simp[execOp,ai,aa.yH,aP.n6,Instr.index,asIntOf,run_underlying hu,h0,J]
  have e:b.data.toList.getD j.toNat 0=b[j.toNat]:=(by rw[afc,Array.getElem?_toList,dS (by simpa using J)];rfl);show Rel _ _ _ _ (.n .u8 _) _;rw[e];exact .n _ _
 exact VV h ai ak b4
theorem VW (off:Nat): ∀(vs:List Value) (n:Nat) (cs:Array Value) (j:Nat),off+n+vs.length<=cs.size ->
 ((vs.zipIdx n).foldl (fun cs (x:Value×Nat)=>cs.setIfInBounds (off+x.2) x.1) cs)[j]? = if off+n<=j/\j<off+n+vs.length then vs[j-(off+n)]? else cs[j]? := by
 intro vs
 induction vs with
 | nil=>intro n cs j h;simp;intro o J;omega
 | cons v vs ih =>
  intro n cs j h;simp only[dM] at h;simp only[List.zipIdx_cons,List.foldl_cons];rw[ih (n+1) _ j (by simp;omega)];simp only[dM,Array.getElem?_setIfInBounds];by_cases o:j=off+n
  ·subst o;rw[dA (by omega),dw rfl,dw (by omega),dw (by omega)];simp
  by_cases J:off+(n+1)<=j/\j<off+(n+1)+vs.length
  ·rw[dw J,dw (by omega)];rw[show j-(off+n)=(j-(off+(n+1)))+1 by omega];rfl
  rw[dA J,dA (fun e=>o e.symm),dA (by omega)]
theorem Ue (off:Nat): ∀(vs:List (Value×Nat)) (cs:Array Value),(vs.foldl (fun cs (x:Value×Nat)=>cs.setIfInBounds (off+x.2) x.1) cs).size=cs.size:=by
 intro vs
 induction vs with
 | nil=>intro cs;rfl
 | cons v vs ih=>intro cs;simp only[List.foldl_cons];rw[ih];simp
def zw (w:World)(ok:Nat->Prop)(aW:iY)(a0:iP)(c:List an)(cs:Array Value):Prop :=
 cs.size=c.length/\(∀(j:Nat) u,cs[j]? = some u->jL u=true)/\ ∀(j:Nat) x u,c[j]? = some x->cs[j]? = some u->Rel w ok aW a0 x u
theorem WJ {ok:Nat->Prop}{aW:iY}{a0:iP}{c:List an}{cs:Array Value}(h:zw w ok aW a0 c cs){x:an}{v:Value}{off:Nat}(aa:Rel w ok aW a0 x v)(aL:x.yf=true)
 (ia:off+x.cells.length<=c.length):v.cells.size=x.cells.length /\
   zw w ok aW a0 (setCells c off x.cells) (v.cells.zipIdx.foldl (fun cs (y:Value×Nat)=>cs.setIfInBounds (off+y.2) y.1) cs):=by
 obtain⟨vs,aZ,aF,jA,aj⟩:=aa.cellsOf (an.MP aL);have lu : ∀j,(v.cells.zipIdx.foldl (fun cs (y:Value×Nat)=>cs.setIfInBounds (off+y.2) y.1) cs)[j]? = if off<=j/\j<off+vs.length then vs[j-off]? else cs[j]? := by intro j;rw[aZ];have:=VW off vs 0 cs j (by rw[h.1];omega);simp only[Nat.add_zero] at this;rw[<- this,<- Array.foldl_toList,Array.toList_zipIdx]
 refine⟨by rw[aZ];simpa using aF,?_,?_,?_⟩
 ·rw[L5 ia,<- h.1,<- Array.foldl_toList,Ue]
 ·intro j u hu
  rw[lu] at hu;split at hu
  ·exact jA _ _ hu
  exact h.2.1 _ _ hu
 intro j y u aP hu;rw[lu] at hu;rw[GD ia] at aP;by_cases lX:off<=j/\j<off+x.cells.length
 ·rw[dw lX] at aP;rw[dw (by rw[aF];exact lX)] at hu;exact aj _ _ _ aP hu
 rw[dA lX] at aP;rw[dA (by rw[aF];exact lX)] at hu;exact h.2.2 _ _ _ aP hu
theorem GR {ok:Nat->Prop}{aW:iY}{a0:iP}(place:Nat->Option (Nat×Nat)): ∀(l:List (Nat×Nat×an)) (i7:List (Nat×Value)) (c:List an) (cs:Array Value) (dW:List an),
 zw w ok aW a0 c cs->l.length=i7.length ->
 (∀(j:Nat) off size x i v,l[j]? = some (off,size,x)->i7[j]? = some (i,v)->place i=some (off,size)/\Rel w ok aW a0 x v) ->
 sa c l=some dW-> ∃kR,Instr.fill place cs i7=some kR/\zw w ok aW a0 dW kR:=by
 intro l
 induction l with
 | nil =>
  intro i7 c cs dW h aF _ b0;have:i7=[]:=dK.1 (by simpa using aF.symm);subst this;simp[sa] at b0;subst b0;exact⟨cs,rfl,h⟩
 | cons q l ih =>
  intro i7 c cs dW h aF ah b0;obtain⟨off,size,x⟩:=q
  match i7,aF with
  | (i,v)::i7,aF =>
   obtain⟨aaD,aa⟩:=ah 0 off size x i v rfl rfl;simp only[sa] at b0;split at b0
   ·rename_i aL;simp only[afd,decide_eq_true_eq] at aL;obtain⟨⟨o,J⟩,ab⟩:=aL;obtain⟨ao,aB⟩:=WJ h aa o (off:=off) (by omega);obtain⟨kR,f1,f2⟩:=ih i7 _ _ dW aB (by simpa using aF) (fun j off size x i v a b=>ah (j+1) off size x i v a b) b0;refine⟨kR,?_,f2⟩;rw[Instr.fill];simp only[aaD];have hc : ¬(decide (v.cells.size≠size) || decide (off+v.cells.size>cs.size))=true:=(by simp;rw[ao,h.1];omega);rw[dA hc];exact f1
   simp at b0
theorem mapM_some {α β:Type}(f:α->β)(p:α->Option β): ∀(l:List α),(∀x∈l,p x=some (f x))->l.mapM p=some (l.map f)
 | [],_=>rfl
 | x::l,h=>by rw[List.mapM_cons,h x (by simp),mapM_some f p l fun y aP=>h y (by simp[aP])];rfl
theorem OE {α β:Type}(p:α->Option β): ∀(l:List α) (gh:List β),l.mapM p=some gh->gh.length=l.length/\ ∀(j:Nat) x y,l[j]? = some x->gh[j]? = some y->p x=some y
 | [],gh,h=>by simp at h;subst h;exact⟨rfl,fun j x y aa=>by simp at aa⟩
 | a::l,gh,h=>by
  rw[List.mapM_cons] at h
  cases bA:p a with
  | none=>simp[bA] at h
  | some b =>
   cases aF:l.mapM p with
   | none=>simp[bA,aF] at h
   | some r =>
    simp[bA,aF] at h;subst h;obtain⟨o,J⟩:=OE p l r aF;refine⟨by simp[o],fun j x y aa aP=> ?_⟩
    cases j with
    | zero=>simp at aa aP;subst aa;subst aP;exact bA
    | succ j=>simp at aa aP;exact J j x y aa aP
theorem Hy {t:TypeId}{z:List an}(b5:pK P t=some z): ∃i ea,P.info? t=some i/\i.zero=some ea/\ea.cells.size=z.length/\zw w (s.ok g al w) s.aW (s.a0 al) z ea.cells:=by
 obtain⟨i,ea,ae,jP,qY,jA⟩:=x5 b5;have bO:ea.cells.size=z.length:=by rw[qY];simp
 refine⟨i,ea,ae,jP,bO,bO,fun j u hu=> ?_,fun j x u aa hu=> ?_⟩
 ·have av:j<z.length:=by
   have:=(afj.1 hu).1;omega
  obtain⟨v,ao,aB,-⟩:=jA j z[j] (dx av);rw[hu] at ao;simp at ao;subst ao;exact aB
 obtain⟨v,ao,-,bT⟩:=jA j x aa;rw[hu] at ao;simp at ao;subst ao;exact bT _ _ _ _
theorem UX {t:TypeId}{parts:Array (Nat×Operand)}(h:cq g s al a w)(ai:I.op = .build t parts)(ak:Hb P t (parts.toList.map fun p=>(p.1,eh s.E p.2))=some bc):Fin P g s a w I bc:=by
 unfold Hb at ak;split at ak;rotate_left
 ·simp at ak
 rename_i n e z h7 b5;obtain⟨hu,ae,-,-⟩:=Hx h7;rw[List.map_map] at ak
 cases b0:sa z (parts.toList.map ((fun p:Nat×an=>(p.1*P.cellsOf e,P.cellsOf e,p.2))∘fun p=>(p.1,eh s.E p.2))) with
 | none=>rw[b0] at ak;simp at ak
 | some c =>
  rw[b0] at ak;simp only[dQ,dy] at ak;subst ak;obtain⟨it,ea,vZ,jP,ev,hcs⟩:=Hy (w:=w) (s:=s) (g:=g) (al:=al) b5;obtain⟨J2,yZ⟩:=Option.isSome_iff_exists.1 ae;have Zh:P.cellsOf e=J2.size:=(by simp[Program.cellsOf,yZ]);obtain⟨kR,f1,f2⟩:=GR (w:=w) (ok:=s.ok g al w) (aW:=s.aW) (a0:=s.a0 al) (fun i=>some (i*J2.size,J2.size)) _ (parts.map fun (i,x)=>(i,a.eval x)).toList z ea.cells c hcs (by simp) (by intro j off size x i v av aZ;simp only[dJ,dN,Function.comp,dC] at av;simp only[Array.toList_map,dJ,dN] at aZ;obtain⟨p,ah,ao,aB,bT⟩:=av;obtain⟨⟨eM,cA⟩,lx,aZ⟩:=aZ;simp only[dC] at aZ;obtain⟨rfl,rfl⟩:=aZ;rw[ah] at lx;have:=dI lx;subst this;refine⟨by rw[<- ao,<- aB,Zh],?_⟩;rw[<- bT];exact h.eval _) b0;have aN:P.built t (parts.map fun (i,x)=>(i,a.eval x)).toList=some kR:=(by unfold Program.built;simp only[vZ,hu,jP,yZ];exact f1);refine hL (v:= .agg kR) h ?_ rfl ?_
  ·have:=run_build w t _ kR aN;simp[execOp,ai,this]
  have:=Rel.agg (w:=w) (ok:=s.ok g al w) (aW:=s.aW) (a0:=s.a0 al) (c:=c) kR.toList (by simpa using f2.1) (fun j u hu=>f2.2.1 j u (by simpa using hu)) (fun j x u aa hu=>f2.2.2 j x u aa (by simpa using hu));simpa using this
theorem WK {t:TypeId}{parts:Array (Nat×Operand)}(h:cq g s al a w)(ai:I.op = .build t parts)(ak:et P s.E s.aH aR I cr=some bc):Fin P g s a w I bc:=by
 simp only[et,ai] at ak;split at ak;rotate_left
 ·exact UX h ai ak
 rename_i jG z BJ b5;split at ak
 ·simp at ak
 rename_i nC;have nC : ∀f∈jG.toList,(P.info? f.type).isSome=true:=by rw[Bool.not_eq_false] at nC;exact List.all_eq_true.1 nC
 split at ak;rotate_left
 ·simp at ak
 rename_i l aF
 cases b0:sa z l with
 | none=>simp[b0] at ak
 | some c =>
  simp[b0] at ak;subst ak;obtain⟨it,ea,vZ,jP,ev,hcs⟩:=Hy (w:=w) (s:=s) (g:=g) (al:=al) b5;obtain⟨mS,pz⟩:=OE _ _ _ aF
  have ZM:jG.toList.mapM (fun f=>(P.info? f.type).map fun i=>(f.offset,i.size))=some (jG.toList.map fun f=>(f.offset,P.cellsOf f.type)):=by
   refine mapM_some (fun f:Field=>(f.offset,P.cellsOf f.type)) _ _ fun f b0=> ?_;have:=nC f b0
   cases ae:P.info? f.type with
   | none=>simp[ae] at this
   | some i=>simp[Program.cellsOf,ae]
  obtain⟨kR,f1,f2⟩:=GR (w:=w) (ok:=s.ok g al w) (aW:=s.aW) (a0:=s.a0 al) ((jG.toList.map fun f=>(f.offset,P.cellsOf f.type)).toArray[·]?) l (parts.map fun (i,x)=>(i,a.eval x)).toList z ea.cells c hcs (by simpa using mS) (by intro j off size x i v av aZ;simp only[Array.toList_map,dJ,dN] at aZ;obtain⟨⟨eM,cA⟩,ah,aZ⟩:=aZ;simp only[dC] at aZ;obtain⟨rfl,rfl⟩:=aZ;have:=pz j _ _ ah av;simp only[dN,dC] at this;obtain⟨fd,o,J,ab,aA⟩:=this;subst J;subst ab;subst aA;refine⟨?_,h.eval cA⟩;rw[List.getElem?_toArray,dJ,Array.getElem?_toList,o];rfl) b0;have aN:P.built t (parts.map fun (i,x)=>(i,a.eval x)).toList=some kR:=(by unfold Program.built;simp only[vZ,GF BJ,jP,ZM];exact f1);refine hL (v:= .agg kR) h ?_ rfl ?_
  ·have:=run_build w t _ kR aN;simp[execOp,ai,this]
  have:=Rel.agg (w:=w) (ok:=s.ok g al w) (aW:=s.aW) (a0:=s.a0 al) (c:=c) kR.toList (by simpa using f2.1) (fun j u hu=>f2.2.1 j u (by simpa using hu)) (fun j x u aa hu=>f2.2.2 j x u aa (by simpa using hu));simpa using this
theorem TJ {sz:Nat}{es:List (List an)}(aF:∀e∈es,e.length=sz){i:Nat}(ae:i<es.length){c:List an}(aL:c.length=sz):
 setCells es.flatten (i*sz) c=(es.set i c).flatten:=by
 have hlen : ∀(es:List (List an)),(∀e∈es,e.length=sz)->es.flatten.length=es.length*sz:=by
  intro es
  induction es with
  | nil=>simp
  | cons e es ih =>
   intro h;rw[afb,dH,ih fun x aa=>h x (by simp[aa]),h e (by simp),dM,Nat.add_mul];omega
 have ia:i*sz+c.length<=es.flatten.length:=by rw[hlen es aF,aL];have:=afi sz (show i+1<=es.length by omega);rw[Nat.add_mul] at this;omega
 apply afo;intro j;rw[GD ia,MQ aF (dx ae) aL,aL]
theorem M7 {sz:Nat}: ∀(l:List (Nat×an)) (es gd:List (List an)),(∀e∈es,e.length=sz)->yG sz es l=some gd ->
 sa es.flatten (l.map fun p=>(p.1*sz,sz,p.2))=some gd.flatten/\(∀e∈gd,e.length=sz)/\gd.length=es.length
 | [],es,gd,aF,h=>by simp[yG] at h;subst h;exact⟨rfl,aF,rfl⟩
 | (i,x)::l,es,gd,aF,h=>by
  simp only[yG] at h;split at h;rotate_left
  ·simp at h
  rename_i aL;simp only[afd,decide_eq_true_eq] at aL;obtain⟨⟨o,J⟩,ab⟩:=aL
  have IU : ∀e∈es.set i x.cells,e.length=sz:=by
   intro e hm;rcases List.mem_or_eq_of_mem_set hm with cf|cf
   ·exact aF e cf
   exact cf▸J
  obtain⟨iG,jl,bq⟩:=M7 l (es.set i x.cells) gd IU h;have e:=TJ aF ab J
  have ia:i*sz+sz<=es.flatten.length:=by
   have:(setCells es.flatten (i*sz) x.cells).length=(es.set i x.cells).flatten.length:=by rw[e]
   have a2 : ∀(es:List (List an)),(∀e∈es,e.length=sz)->es.flatten.length=es.length*sz:=by
    intro es
    induction es with
    | nil=>simp
    | cons e es ih =>
     intro h;rw[afb,dH,ih fun x aa=>h x (by simp[aa]),h e (by simp),dM,Nat.add_mul];omega
   rw[a2 es aF];have:=afi sz (show i+1<=es.length by omega);rw[Nat.add_mul] at this;omega
  refine⟨?_,jl,by simpa using bq⟩;simp only[List.map_cons,sa,o,J,ia,decide_true,Bool.and_self,if_true];rw[e];exact iG
theorem Uq {t:TypeId}{len:Nat}{parts:Array (Nat×Operand)}(h:cq g s al a w)(ey:s.aH aR=none)(ai:I.op = .buildSlice t len parts)(ak:et P s.E s.aH aR I cr=some bc):Fin P g s a w I bc:=by
 simp only[et,ai] at ak;split at ak;rotate_left
 ·simp at ak
 rename_i e he;split at ak;rotate_left
 ·simp at ak
 rename_i z b5;split at ak
 ·simp at ak
 rename_i aL;simp only[not_or,Nat.not_lt,Decidable.not_not] at aL;obtain⟨mG,y0,y1⟩:=aL;split at ak;rotate_left
 ·simp at ak
 rename_i es ho;simp only[dy] at ak;subst ak;obtain⟨it,ea,vZ,jP,ev,hcs⟩:=Hy (w:=w) (s:=s) (g:=g) (al:=al) b5;have jA:P.cellsOf e=it.size:=by simp[Program.cellsOf,vZ]
 have Qn : ∀x∈List.replicate len z,x.length=z.length:=fun x aa=>by rw[List.eq_of_mem_replicate aa]
 obtain⟨f1,f2,f3⟩:=M7 _ _ _ Qn ho
 have rv:zw w (s.ok g al w) s.aW (s.a0 al) (List.replicate len z).flatten ((Array.range (len*it.size)).map (ea.cells[· % ea.cells.size]!)):=by
  have EG:0<z.length:=(by omega);have lu : ∀j,j<len*it.size->((Array.range (len*it.size)).map (ea.cells[· % ea.cells.size]!))[j]? = ea.cells[j % z.length]? := (by intro j av;rw[Array.getElem?_map,Array.getElem?_range];simp only[av,if_true,dQ];have hm:j % ea.cells.size<ea.cells.size:=Nat.mod_lt _ (by omega);rw[getElem!_pos ea.cells _ hm,<- ev,dS hm]);have dq : ∀(j:Nat) u,((Array.range (len*it.size)).map (ea.cells[· % ea.cells.size]!))[j]? = some u->j<len*it.size:=(by intro j u hu;have:=(afj.1 hu).1;simpa using this);refine⟨by simp[<- jA,<- y0],fun j u hu=> ?_,fun j x u aa hu=> ?_⟩
  ·have av:=dq j u hu;rw[lu j av] at hu;exact hcs.2.1 _ _ hu
  have av:=dq j u hu;rw[lu j av] at hu;rw[pa EG _ Qn,List.getElem?_replicate] at aa;split at aa
  ·exact hcs.2.2 _ _ _ aa hu
  simp at aa
 obtain⟨kR,g1,g2⟩:=GR (w:=w) (ok:=s.ok g al w) (aW:=s.aW) (a0:=s.a0 al) (fun i=>some (i*it.size,it.size)) ((parts.toList.map fun p=>(p.1,eh s.E p.2)).map fun p=>(p.1*z.length,z.length,p.2)) (parts.map fun (i,x)=>(i,a.eval x)).toList _ _ es.flatten rv (by simp) (by intro j off size x i v av aZ;simp only[Array.toList_map,dJ,dN,List.map_map] at aZ av;obtain⟨⟨eM,cA⟩,ah,aZ⟩:=aZ;obtain⟨⟨nk,e9⟩,yW,av⟩:=av;rw[ah] at yW;simp only[dy,dC] at yW aZ;obtain⟨rfl,rfl⟩:=yW;obtain⟨rfl,rfl⟩:=aZ;simp only[Function.comp,dC] at av;obtain⟨rfl,rfl,rfl⟩:=av;exact⟨by rw[<- jA,<- y0],h.eval cA⟩) f1
 have iL:(Instr.buildSlice t len (parts.map fun (i,x)=>(i,a.eval x))).run P w = .ok (.slice (some ⟨w.heap.size,0,none⟩) len len) (w.alloc (.cells kR e)):=by
  have o : ¬len*it.size>2 ^ 24:=(by rw[<- jA,<- y0];omega);by_cases h0:len*it.size=0;rotate_left
  ·simp only[Instr.buildSlice,run_underlying (re he),sizeOf,typeInfo,vZ,newRow,zeroValue,jP,Sem.run_bind,Result.andThen_ok,run_program,Sem.run_pure,Sem.run_ite,o,h0,if_false];rw[g1];rfl
  have nb:len=0:=by
   rcases Nat.eq_zero_or_pos len with cf|cf
   ·exact cf
   have:0<len*it.size:=Nat.mul_pos cf (by omega);omega
  subst nb;have e0:((Array.range (0*it.size)).map (ea.cells[· % ea.cells.size]!)) = #[]:=(by simp);rw[e0] at g1
  have ah:parts = #[]:=by
   obtain⟨l⟩:=parts
   match l,ho with
   | [],_=>rfl
   | p::l,ho=>simp[yG] at ho
  subst ah;have ZN:kR = #[]:=(by simpa [Instr.fill] using g1.symm);subst ZN;simp[Instr.buildSlice,run_underlying (re he),sizeOf,typeInfo,vZ,newRow,Instr.fill];rw[Array.range_zero',Array.map_empty]
 refine DT (v:= .slice (some ⟨w.heap.size,0,none⟩) len len) (af:=⟨z.length,es,.live⟩) (c:=kR) (ef:=e) h ey rfl ?_ rfl f2 ?_ ?_
 ·simp[execOp,ai,iL]
 ·intro j x aa
  have av:j<kR.size:=by
   rw[g2.1];rcases Nat.lt_or_ge j es.flatten.length with cf|cf
   ·exact cf
   rw[dP cf] at aa;simp at aa
  have hu:kR[j]? = some kR[j]:=dS av;exact⟨_,hu,g2.2.1 _ _ hu,g2.2.2 _ _ _ aa hu⟩
 intro bx kl mD lV hu ch;refine Rel.bK hu ch (dE _) ?_ ⟨?_,.inr (by simp)⟩
 ·have:len<=len*z.length:=Nat.le_mul_of_pos_right _ (by omega);omega
 rw[g2.1]
 have a2 : ∀(es:List (List an)),(∀e∈es,e.length=z.length)->es.flatten.length=es.length*z.length:=by
  intro es
  induction es with
  | nil=>simp
  | cons e es ih =>
   intro h;rw[afb,dH,ih fun x aa=>h x (by simp[aa]),h e (by simp),dM,Nat.add_mul];omega
 rw[a2 es f2,f3];simp
theorem Du (h:cq g s al a w)(ey:s.aH aR=none)(ak:et P s.E s.aH aR I cr=some bc)(b4:∀p∈bc.eX,p):Fin P g s a w I bc:=by
 cases ai:I.op with
 | move x=>exact OD h (.inl ai) ak
 | assign x=>exact OD h (.inr ai) ak
 | pick c x y=>exact XH h ai ak b4
 | alloc t=>exact WA h ey ai ak
 | box t x=>exact Yr h ey ai ak
 | load t x=>exact XI h ai ak b4
 | store t x y=>exact WB h ai ak b4
 | nilCheck x=>exact UU h ai ak b4
 | binOp op t x y cW=>exact WC h ai ak b4
 | unOp op t x=>exact XJ h ai ak
 | convert t cW x=>exact Vi h ai ak
 | makeFunc f Ck b6=>exact UW h ai ak
 | makeSlice t x y=>exact UB h ey ai ak b4
 | fieldAddr t x f=>exact UC h ai ak b4
 | field t x f=>exact WH h ai ak
 | indexAddr t x y=>exact UD h ai ak b4
 | index t x y=>exact WI h ai ak b4
 | extract x i=>exact Vj h ai ak
 | slice t x bw ae tA =>
  cases tA with
  | none=>exact WG h ai ak b4
  | some m =>
   cases ae with
   | none=>simp[et,ai] at ak
   | some ae=>exact VU h ai ak b4
 | build t i7=>exact WK h ai ak
 | buildSlice t n i7=>exact Uq h ey ai ak
 | call c =>
  obtain⟨EH,args,lY⟩:=c
  cases EH with
  | builtin b=>cases b<;>first|exact Ys h ai rfl ak b4|simp[et,ai] at ak
  | value f=>simp[et,ai] at ak
  | invoke r m=>simp[et,ai] at ak
 | _=>simp[et,ai] at ak
end
def Yt:Option aM->eG
 | some I=> .hn I []
 | none=> .none
def rj (sz:Nat)(aH:Nat->Option (List aM))(a:eG):an->Option (List (List an)×List Prop)
 | .isl EJ es=>if EJ=sz then some (es,[]) else none
 | .bK r k bw len=>match nB (aH r) k a with
  | some (af,bS)=>if af.sz=sz then some ((af.es.drop bw).take len,bS++[bw+len<=af.es.length]) else none
  | none=>none
 | .fq=>some ([],[])
 | .ic=>some ([],[])
 | _=>none
def vu (P:Program)(sz:Nat)(z:List an)(aH:Nat->Option (List aM))(a:eG)(t cW:TypeId)(y:an):Option (List (List an)×List Prop) :=
 if t=cW then rj sz aH a y else
 match P.underlying cW,y with
 | some (.int _),.n .i64 n=>some (List.replicate n.toNat z,[0<=n,n<9223372036854775808])
 | _,_=>none
def td (tB:Bool)(P:Program)(aH:Nat->Option (List aM))(x y:an)(t cW:TypeId):Option gM :=
 match ph P t with
 | none=>none
 | some e=>match P.info? e,pK P e with
  | some i,some z =>
   if z.length≠i.size\/i.size=0\/i.bytes=0 then none else
   match vu P i.size z aH .none t cW y with
   | none=>none
   | some (bi,bS)=>match x with
    | .bK r k 0 len=>match aH r with
     | none=>none
     | some row=>match cX (some row) k with
      | none=>none
      | some af=>if af.cg = .live/\af.sz=i.size then
       some {val:= .bK r k 0 (len+bi.length),fz:=[(r,row.set k {af with es:=bif tB then af.es.take len++bi++af.es.drop (len+bi.length) else af.es.take len++bi})],eX:=bS++[len+bi.length<=af.es.length,bi.length*i.bytes<=140737488355328]} else none
    | _=>none
  | _,_=>none
def vD (P:Program)(aH:Nat->Option (List aM))(r k bw len:Nat)(t:TypeId):Option gM :=
 match ph P t with
 | none=>none
 | some e=>match P.info? e,pK P e with
  | some i,some z=>match aH r with
   | none=>none
   | some row=>match cX (some row) k with
    | none=>none
    | some af=>if af.cg = .live/\af.sz=i.size/\z.length=i.size/\i.size≠0 then
     some {val:= .cZ [],fz:=[(r,row.set k {af with es:=af.es.take bw++List.replicate len z++af.es.drop (bw+len)})],eX:=[bw+len<=af.es.length]} else none
  | _,_=>none
def vP (P:Program)(aH:Nat->Option (List aM))(r k len:Nat)(t:TypeId):Option gM :=
 match ph P t with
 | none=>none
 | some e=>match P.info? e,pK P e with
  | some i,some z=>match aH r with
   | none=>none
   | some row=>match cX (some row) k with
    | none=>none
    | some af=>if af.cg = .live/\af.sz=i.size/\z.length=i.size/\i.size≠0 then
     some {val:= .cZ [],fz:=[(r,row.set k {af with es:=List.replicate len z})],eX:=[af.es.length=len]} else none
  | _,_=>none
def ry (P:Program)(E:Nat->an)(aH:Nat->Option (List aM))(aR:Nat)(b:Builtin)(args:List an)(lY:List TypeId)(cr:eG):Option gM :=
 match b,args,lY,cr with
 | .append,[x,y],[t,cW],.a1 m I =>
  match ph P t with
  | none=>none
  | some e=>match P.info? e,pK P e with
   | some i,some z =>
    if z.length≠i.size\/i.size=0\/i.bytes=0 then none else
    match vu P i.size z aH (Yt I) t cW y with
    | none=>none
    | some (bi,bS)=>match x with
     | .fq=>some {val:= .bK aR 0 0 m,fz:=[(aR,[⟨i.size,bi,.live⟩])],eX:=bS++[m=bi.length,m*i.bytes<=140737488355328]}
     | .bK r k 0 len=>match aH r with
      | none=>none
      | some row=>match cX (some row) k with
       | none=>none
       | some af=>if af.cg = .live/\af.sz=i.size/\aR≠r then
        some {val:= .bK aR 0 0 m,fz:=[(aR,[⟨i.size,af.es.take len++bi,.live⟩]),(r,row.set k {af with cg:= .gone})],eX:=bS++[len<=af.es.length,m=len+bi.length,m*i.bytes<=140737488355328]} else none
     | _=>none
   | _,_=>none
 | .append,[x,y],[t,cW],.df=>td false P aH x y t cW
 | .append,[x,y],[t,cW],.uE=>td true P aH x y t cW
 | .copy,[.bK r k 0 len,y],[t,_],_ =>
  match ph P t with
  | none=>none
  | some e=>match P.info? e with
   | none=>none
   | some i=>match rj i.size aH .none y with
    | none=>none
    | some (bi,bS)=>match aH r with
     | none=>none
     | some row=>match cX (some row) k with
      | none=>none
      | some af=>if af.cg = .live/\af.sz=i.size/\i.size≠0 then
       some {val:= .n .i64 bi.length,fz:=[(r,row.set k {af with es:=bi++af.es.drop bi.length})],eX:=bS++[bi.length<=len,len<=af.es.length]} else none
 | .clear,[.bK r k bw len],[t],.uE=>vD P aH r k bw len t
 | .clear,[.bK r k 0 len],[t],_=>vP P aH r k len t
 | .min,[.n k x,.n dn y],_,_=>if k=dn then some {val:= .n k (if y<x then y else x)} else none
 | _,_,_,_=>none
section
variable {g:G} {s:S} {al:fj} {a:Act} {w bx:World}
theorem cq.gone (h:cq g s al a w){r k:Nat}{l:List aM}{I:aM}(aj:s.aH r=some l)(ai:s.af r k=some I):
 cq g (s.setRow r (l.set k {I with cg:= .gone})) al a w /\
  ∀x v,Rel w (s.ok g al w) s.aW (s.a0 al) x v->Rel w ((s.setRow r (l.set k {I with cg:= .gone})).ok g al w) (s.setRow r (l.set k {I with cg:= .gone})).aW ((s.setRow r (l.set k {I with cg:= .gone})).a0 al) x v:=by
 have a5 : ∀q j p,(s.setRow r (l.set k {I with cg:= .gone})).af q j=some p->s.af q j=some p/\ ¬(q=r/\j=k):=by
  intro q j p ah;rw[kZ] at ah;by_cases e:q=r
  ·subst e
   rw[dw rfl] at ah;unfold cX at ah;simp only[aff] at ah;by_cases aB:k=j
   ·subst aB
    by_cases aQ:k<l.length
    ·simp[aQ] at ah
    simp[aQ] at ah
   rw[dA aB] at ah;refine⟨?_,fun fH=>aB fH.2.symm⟩;unfold S.af;rw[aj];exact ah
  rw[dA e] at ah;exact⟨ah,fun fH=>e fH.1⟩
 have cO:Step g s al w (s.setRow r (l.set k {I with cg:= .gone})) al w:=by
  refine⟨Dd s aj (by simp),fun q j a2=> ?_,fun b aF=> ?_,fun _ _ _=>rfl,dE _⟩
  ·cases ah:(s.setRow r (l.set k {I with cg:= .gone})).af q j with
   | none=>right;simp[S.a0,ah]
   | some p=>left;simp[S.a0,ah,(a5 q j p ah).1]
  obtain⟨q,j,p,m,o,J,ab⟩:=aF;exact .inl ⟨q,j,p,m,(a5 q j p o).1,J,ab⟩
 refine⟨{toh3:=⟨?_,?_,?_,h.gZ,h.mlt,h.m9,cO.stay h.stay,h.low⟩,env:=fun t=>cO.rel (h.env t),defers:=h.defers,jj:=h.jj},fun x v=>cO.rel⟩
 ·intro q j p ah;exact cO.obj (fun b m _=>rfl) (h.obj q j p (a5 q j p ah).1)
 ·intro q j p hC hP jS b m aU o J ab aA;exact h.inj q j p hC hP jS b m aU (a5 q j p o).1 (a5 hC hP jS J).1 ab aA
 intro q j p b m o J;exact h.own q j p b m (a5 q j p o).1 J
theorem cq.OG (h:cq g s al a w){aR sz:Nat}(ey:s.aH aR=none):
 ∃bG,bG aR 0=none/\cq g (s.setRow aR [⟨sz,[],.live⟩]) bG a w:=by
 have a5 : ∀q k,q≠aR->(s.setRow aR [⟨sz,[],.live⟩]).af q k=s.af q k:=fun q k a2=>by rw[kZ,dA a2]
 let bG:fj:=fun q k=>if q=aR then none else al q k
 have cx : ∀q k,s.aW q k->q≠aR:=by rintro q k a2 rfl;exact xQ ey k a2
 have Ip : ∀k I,(s.setRow aR [⟨sz,[],.live⟩]).af aR k=some I->I=⟨sz,[],.live⟩:=by
  intro k I ai;rw[kZ,dw rfl,lM] at ai;split at ai
  ·simp at ai;exact ai.symm
  simp at ai
 have cO:Step g s al w (s.setRow aR [⟨sz,[],.live⟩]) bG w:=by
  refine⟨fun q k a2=>(m1 _ _ _ _ _).2 (by rw[dA (cx q k a2)];exact a2),fun q k a2=> .inl ?_,fun b aF=> ?_,fun _ _ _=>rfl,dE _⟩
  ·simp[S.a0,a5 q k (cx q k a2),bG,cx q k a2]
  obtain⟨q,k,I,m,o,J,ab⟩:=aF;by_cases e:q=aR
  ·subst e;simp[bG] at ab
  rw[a5 q k e] at o;simp only[bG,dA e] at ab;exact .inl ⟨q,k,I,m,o,J,ab⟩
 refine⟨bG,by simp[bG],{toh3:=⟨?_,?_,?_,h.gZ,h.mlt,h.m9,cO.stay h.stay,h.low⟩,env:=fun t=>cO.rel (h.env t),defers:=h.defers,jj:=h.jj}⟩
 ·intro q k I ai
  by_cases e:q=aR
  ·subst e;rw[Ip k I ai];simp[bG,iJ]
  rw[a5 q k e] at ai;have:=cO.obj (fun b m _=>rfl) (h.obj q k I ai);simpa [bG,e] using this
 ·intro q k I hC dn bX b m aU o J ab aA;have e:q≠aR:=(by rintro rfl;simp[bG] at ab);have er:hC≠aR:=(by rintro rfl;simp[bG] at aA);rw[a5 q k e] at o;rw[a5 hC dn er] at J;simp only[bG,dA e] at ab;simp only[bG,dA er] at aA;exact h.inj q k I hC dn bX b m aU o J ab aA
 intro q k I b m o J;have e:q≠aR:=by rintro rfl;simp[bG] at J
 rw[a5 q k e] at o;simp only[bG,dA e] at J;exact h.own q k I b m o J
theorem cq.turn (h:cq g s al a w){r k b m aR:Nat}{l:List aM}{I:aM}(aj:s.aH r=some l)(ai:s.af r k=some I)(aQ:I.cg = .live)(ah:al r k=some (b,m))
 (ey:s.aH aR=none) (bX:aM) (mH:bX.cg = .live) (c:Array Value) (ef:TypeId)
 (hw:bx.heap[b]? = some (.cells c ef (0,0))) (ev:bx.heap.size=w.heap.size) (vt : ∀q,q≠b->bx.heap[q]? = w.heap[q]?)
 (qM:bx.os=w.os) (IP:bx.tape=w.tape) (Im:bx.output=w.output) (hm:c.size=m) (hlen : ∀e∈bX.es,e.length=bX.sz)
 (aL : ∀(j:Nat) x,bX.es.flatten[j]? = some x-> ∃v,c[j]? = some v/\jL v=true/\Rel w (s.ok g al w) s.aW (s.a0 al) x v) :
 ∃bG,bG aR 0=some (b,m)/\cq g ((s.setRow aR [bX]).setRow r (l.set k {I with cg:= .gone})) bG a bx:=by
 have cx:r≠aR:=by rintro rfl;rw[ey] at aj;simp at aj
 have Qo : ∀k,¬s.aW aR k:=xQ ey
 let bH:=(s.setRow aR [bX]).setRow r (l.set k {I with cg:= .gone})
 let bG:fj:=al.set aR 0 (some (b,m))
 have a5 : ∀q j p,bH.af q j=some p->(q=aR/\j=0/\p=bX)\/(q≠aR/\s.af q j=some p/\ ¬(q=r/\j=k)):=by
  intro q j p a2;rw[kZ] at a2;by_cases e:q=r
  ·subst e
   rw[dw rfl] at a2;unfold cX at a2;simp only[aff] at a2;by_cases aB:k=j
   ·subst aB;by_cases aQ:k<l.length<;>simp[aQ] at a2
   rw[dA aB] at a2;refine .inr ⟨cx,?_,fun fH=>aB fH.2.symm⟩;unfold S.af;rw[aj];exact a2
  rw[dA e,kZ] at a2;by_cases aB:q=aR
  ·subst aB
   rw[dw rfl,lM] at a2;split at a2
   ·rename_i h0;simp at a2;exact .inl ⟨rfl,h0.1,a2.symm⟩
   simp at a2
  rw[dA aB] at a2;exact .inr ⟨aB,a2,fun fH=>e fH.1⟩
 have kD : ∀q j,q≠aR->bG q j=al q j:=fun q j a2=>by simp[bG,fj.set,a2]
 have y2:bG aR 0=some (b,m):=by simp[bG,fj.set]
 have pS:s.lk al b:=⟨r,k,I,m,ai,aQ,ah⟩
 have i4 : ∀q j,s.aW q j->bH.aW q j:=fun q j a2=>by
  have e:q≠aR:=fun e=>Qo j (e▸a2);rw[m1,m1,dA e];by_cases aB:q=r
  ·subst aB;rw[dw rfl];simpa [S.aW,aj] using a2
  rw[dA aB];exact a2
 have cO:Step g s al w bH bG bx:=by
  refine⟨i4,fun q j a2=> ?_,fun q aF=> ?_,fun q a2 aF=>vt q fun e=>aF (e▸pS),Nat.le_of_eq ev.symm⟩
  ·have na:q≠aR:=fun e=>Qo j (e▸a2)
   cases jZ:bH.af q j with
   | none=>right;simp[S.a0,jZ]
   | some p =>
    left;rcases a5 q j p jZ with ⟨e,-⟩|⟨-,aB,-⟩
    ·exact absurd e na
    simp[S.a0,jZ,aB,kD q j na]
  obtain⟨hC,j,p,aU,o,J,ab⟩:=aF;rcases a5 hC j p o with ⟨rfl,rfl,rfl⟩|⟨ao,aB,-⟩
  ·rw[y2] at ab;simp at ab;exact .inl (ab.1▸pS)
  rw[kD hC j ao] at ab;exact .inl ⟨hC,j,p,aU,aB,J,ab⟩
 refine⟨bG,y2,{toh3:=⟨?_,?_,?_,?_,h.mlt,h.m9,cO.stay h.stay,h.low⟩,env:=fun t=>cO.rel (h.env t),defers:=h.defers,jj:=h.jj}⟩
 ·intro q j p jZ
  rcases a5 q j p jZ with ⟨rfl,rfl,rfl⟩|⟨ao,aB,bT⟩
  ·rw[y2];exact⟨c,ef,hw,hm,hlen,fun i x aa=>let ⟨v,f1,f2,f3⟩:=aL i x aa;⟨v,f1,f2,cO.rel f3⟩⟩
  rw[kD q j ao];refine cO.obj (fun jv aU km=>vt jv ?_) (h.obj q j p aB);rintro rfl;exact bT (h.inj q j p r k I jv aU m aB ai km ah)
 ·intro q j p hC hP jS jv hZ gr o J ab aA
  rcases a5 q j p o with ⟨rfl,rfl,rfl⟩|⟨ao,aB,bT⟩<;>rcases a5 hC hP jS J with ⟨rfl,rfl,rfl⟩|⟨mI,pr,BL⟩
  ·exact⟨rfl,rfl⟩
  ·rw[y2] at ab;simp at ab;rw[kD hC hP mI] at aA;obtain⟨rfl,rfl⟩:=ab;exact absurd (h.inj hC hP jS r k I b gr m pr ai aA ah) BL
  ·rw[y2] at aA;simp at aA;rw[kD q j ao] at ab;obtain⟨rfl,rfl⟩:=aA;exact absurd (h.inj q j p r k I b hZ m aB ai ab ah) bT
  rw[kD q j ao] at ab;rw[kD hC hP mI] at aA;exact h.inj q j p hC hP jS jv hZ gr aB pr ab aA
 ·intro q j p jv aU o J
  rcases a5 q j p o with ⟨rfl,rfl,rfl⟩|⟨ao,aB,-⟩
  ·rw[y2] at J;simp at J;rw[<- J.1];exact h.own r k I b m ai ah
  rw[kD q j ao] at J;exact h.own q j p jv aU aB J
 refine h.gZ.step qM IP Im (Nat.le_of_eq ev.symm) fun jv ob km=>vt jv ?_;rintro rfl;rcases h.own r k I jv m ai ah with o|o
 ·omega
 exact km o
theorem oo.nD {ok:Nat->Prop}{aW:iY}{a0:iP}{dZ I sz:Nat}{es:List (List an)}(h:oo w ok aW a0 dZ I sz es):
 ∃vs:List Value,vs.length=es.length*sz/\(∀(j:Nat) u,vs[j]? = some u->w.cell? ((⟨dZ,I,none⟩:Addr).add j)=some u)/\(∀u∈vs,u.oneCell'=true) /\
  ∀(j:Nat) x u,es.flatten[j]? = some x->vs[j]? = some u->Rel w ok aW a0 x u:=by
 have jg:es.flatten.length=es.length*sz:=by
  have : ∀(es:List (List an)),(∀e∈es,e.length=sz)->es.flatten.length=es.length*sz:=by
   intro es
   induction es with
   | nil=>intro _;simp
   | cons e es ih =>
    intro fH;rw[afb,dH,ih fun x aa=>fH x (by simp[aa]),fH e (by simp),dM,Nat.add_mul];omega
  exact this es h.1
 have aa : ∀i,i<es.length*sz-> ∃v,∀x,es.flatten[i]? = some x->w.cell? ⟨dZ,I+i,none⟩=some v/\jL v=true/\Rel w ok aW a0 x v:=by intro i ae;have av:=dx (l:=es.flatten) (i:=i) (by omega);obtain⟨v,o⟩:=h.2 i _ av;exact⟨v,fun x aa=>by rw[av] at aa;simp at aa;subst aa;exact o⟩
 let vs:List Value:=(List.range (es.length*sz)).map fun i=>if ae:i<es.length*sz then (aa i ae).choose else undef
 have p4:vs.length=es.length*sz:=by simp[vs]
 have lu : ∀(i:Nat) u x,vs[i]? = some u->es.flatten[i]? = some x->w.cell? ⟨dZ,I+i,none⟩=some u/\jL u=true/\Rel w ok aW a0 x u:=by
  intro i u x hu BM
  have ae:i<es.length*sz:=by
   rcases Nat.lt_or_ge i vs.length with cf|cf
   ·omega
   rw[dP cf] at hu;simp at hu
  simp only[vs,dJ,List.getElem?_range ae,dQ,dif_pos ae,dy] at hu;subst hu;exact(aa i ae).choose_spec x BM
 have hex : ∀(i:Nat) u,vs[i]? = some u-> ∃x,es.flatten[i]? = some x:=by
  intro i u hu
  have ae:i<es.flatten.length:=by
   rcases Nat.lt_or_ge i vs.length with cf|cf
   ·omega
   rw[dP cf] at hu;simp at hu
  exact⟨_,dx ae⟩
 refine⟨vs,p4,fun j u hu=> ?_,fun u hu=> ?_,fun j x u dl hu=>(lu j u x hu dl).2.2⟩
 ·obtain⟨x,BM⟩:=hex j u hu;rw[rc];exact(lu j u x hu BM).1
 obtain⟨j,av⟩:=afr hu;obtain⟨x,BM⟩:=hex j u av;exact(lu j u x av BM).2.1
theorem Uf {es bi:List (List an)}{sz:Nat}{xs news:List Value}(aa:xs.length=es.length*sz)(he:∀e∈es,e.length=sz){j:Nat}{x:an}(h:(es++bi).flatten[j]? = some x)
 {ok:Nat->Prop} {aW:iY} {a0:iP} (o : ∀(j:Nat) x u,es.flatten[j]? = some x->xs[j]? = some u->Rel w ok aW a0 x u) (J : ∀(j:Nat) x u,bi.flatten[j]? = some x->news[j]? = some u->Rel w ok aW a0 x u)
 {u:Value} (hu:(xs++news)[j]? = some u):Rel w ok aW a0 x u:=by
 have jg:es.flatten.length=es.length*sz:=by
  have : ∀(es:List (List an)),(∀e∈es,e.length=sz)->es.flatten.length=es.length*sz:=by
   intro es
   induction es with
   | nil=>intro _;simp
   | cons e es ih =>
    intro fH;rw[afb,dH,ih fun x aa=>fH x (by simp[aa]),fH e (by simp),dM,Nat.add_mul];omega
  exact this es he
 rw[List.flatten_append,List.getElem?_append] at h;rw[List.getElem?_append] at hu;by_cases av:j<es.flatten.length
 ·rw[dw av] at h;rw[dw (by omega)] at hu;exact o j x u h hu
 rw[dA av] at h;rw[dA (by omega)] at hu;rw[jg] at h;rw[aa] at hu;exact J _ x u h hu
variable {P:Program}
theorem N4 (h:cq g s al a w){sz:Nat}{x:an}{fp:eG}{bi:List (List an)}{af:List Prop}(he:rj sz s.aH fp x=some (bi,af))(a5:∀p∈af,p){v:Value}(aZ:Rel w (s.ok g al w) s.aW (s.a0 al) x v):
 ∃A c,v = .slice A bi.length c/\(∀e∈bi,e.length=sz)/\(bi.length=0\/ ∃dZ off,A=some ⟨dZ,off,none⟩/\oo w (s.ok g al w) s.aW (s.a0 al) dZ off sz bi):=by
 cases x with
 | isl EJ es =>
  simp only[rj] at he;split at he
  ·rename_i bO
   subst bO;simp only[dy,dC] at he;obtain⟨rfl,rfl⟩:=he;rcases aZ.sR with ⟨rfl,A,c,rfl,-⟩|⟨dZ,off,c,-,rfl,-,ie⟩
   ·exact⟨A,c,rfl,by simp,.inl rfl⟩
   exact⟨_,c,rfl,ie.1,.inr ⟨dZ,off,rfl,ie⟩⟩
  simp at he
 | bK r k bw len =>
  simp only[rj] at he;split at he;rotate_left
  ·simp at he
  rename_i nc bS iy;split at he;rotate_left
  ·simp at he
  rename_i bO;simp only[dy,dC] at he;obtain⟨rfl,rfl⟩:=he;have ia:bw+len<=nc.es.length:=a5 _ (by simp);have ai:s.af r k=some nc:=r7 iy (fun p ah=>a5 p (by simp[ah]));have eC:=h.obj r k nc ai;have aF:((nc.es.drop bw).take len).length=len:=(by simp;omega);rcases aZ.AH (hG ai) with ⟨-,rfl,rfl,rfl⟩|⟨b,m,A,c,ah,rfl,p5,-,hm⟩
  ·exact⟨none,0,by simp,by simp,.inl (by simp)⟩
  rw[ah] at eC;have ie:=eC.rd;subst bO;have vQ:=De ie bw len (by omega);refine⟨A,c,by rw[aF],vQ.1,?_⟩;rcases hm with rfl|⟨rfl,-⟩
  ·left;rw[aF];omega
  right;rw[dF] at vQ;exact⟨b,_,rfl,vQ⟩
 | fq =>
  simp only[rj,dy,dC] at he;obtain⟨rfl,rfl⟩:=he;rw[aZ.pM];exact⟨none,0,rfl,by simp,.inl rfl⟩
 | ic =>
  simp only[rj,dy,dC] at he;obtain⟨rfl,rfl⟩:=he;obtain⟨A,c,rfl⟩:=aZ.DS;exact⟨some A,c,rfl,by simp,.inl rfl⟩
 | _=>simp[rj] at he
structure Iq (P:Program) (w:World) (t cW ef e:TypeId) (i:TypeInfo) (ea nl:Value) (n:Nat) (vs:List Value):Prop where
 zero:n=0-> ∀(B:Option Addr) (len cap:Nat),len<=cap->(Builtin.append_ #[t,cW] ef #[.slice B len cap,nl]).run P w = .ok (.slice B len cap) w
 nil:0<n->(n:Int)<=9223372036854775807->n*i.bytes<=140737488355328 ->
  (Builtin.append_ #[t,cW] ef #[.slice none 0 0,nl]).run P w = .ok (.slice (some ⟨w.heap.size,0,none⟩) n (grownCap w n 0 e)) (w.drew.alloc (.cells (vs.toArray++Builtin.zeroCells ea.cells (grownCap w n 0 e-n)) e))
 room:0<n-> ∀(g iz lp:Nat) (lb:Array Value) (er:TypeId),w.heap[g]? = some (.cells lb er (0,0))->iz+n<=lp->iz*i.size+vs.length<=lb.size->n*i.bytes<=140737488355328 ->
  (Builtin.append_ #[t,cW] ef #[.slice (some ⟨g,0,none⟩) iz lp,nl]).run P w = .ok (.slice (some ⟨g,0,none⟩) (iz+n) lp) (w.setRow g (lb.toList.take (iz*i.size)++vs++lb.toList.drop (iz*i.size+vs.length)).toArray)
 grow:0<n-> ∀(b:Addr) (iz lp:Nat) (vR:List Value),vR.length=iz*i.size->(∀(j:Nat) v,vR[j]? = some v->w.cell? (b.add j)=some v)->lp<iz+n->((iz+n:Nat):Int)<=9223372036854775807->Builtin.nextslicecap (iz+n) lp*i.bytes<=281474976710656->n*i.bytes<=140737488355328 ->
  (Builtin.append_ #[t,cW] ef #[.slice (some b) iz lp,nl]).run P w = .ok (.slice (some ⟨w.heap.size,0,none⟩) (iz+n) (grownCap w (iz+n) lp e))
    (w.drew.alloc (.cells (vR.toArray++vs.toArray++Builtin.zeroCells ea.cells (grownCap w (iz+n) lp e-(iz+n))) e))
theorem TK (t ef e:TypeId)(i:TypeInfo)(ch:P.underlying t=some (.slice e))(ae:P.info? e=some i)
 (g iz lp:Nat) (lb:Array Value) (er:TypeId) (dt:w.heap[g]? = some (.cells lb er (0,0)))
 (a:Addr) (m c:Nat) (news:List Value) (aF:news.length=m*i.size) (Zi : ∀j u,news[j]? = some u->w.cell? (a.add j)=some u) (o : ∀u∈news,u.oneCell'=true)
 (s3:iz+m<=lp) (ia:iz*i.size+news.length<=lb.size) :
 (Builtin.append_ #[t,t] ef #[.slice (some ⟨g,0,none⟩) iz lp,.slice (some a) m c]).run P w =
   .ok (.slice (some ⟨g,0,none⟩) (iz+m) lp) (w.setRow g (lb.toList.take (iz*i.size)++news++lb.toList.drop (iz*i.size+news.length)).toArray):=by
 have b0:=run_firstCells_some (P:=P) w i.size m a m c news aF Zi;have kQ:=run_storeCells_at P g (iz*i.size) er news 0 lb w dt (by simpa using ia) o;simp only[Nat.add_zero] at kQ;simp[Builtin.append_,run_underlying ch,sizeOf,typeInfo,ae,Builtin.lenOf,s3,b0,Addr.add_lit,kQ]
theorem M8 {t ef e:TypeId}{i:TypeInfo}{ea:Value}(ch:P.underlying t=some (.slice e))(ae:P.info? e=some i)(b5:i.zero=some ea){A:Option Addr}{n c:Nat}{vs:List Value}(aF:vs.length=n*i.size)
 (hA:n=0\/ ∃a,A=some a/\ ∀(j:Nat) u,vs[j]? = some u->w.cell? (a.add j)=some u) (o : ∀u∈vs,u.oneCell'=true):Iq P w t t ef e i ea (.slice A n c) n vs where
 zero:=fun h0 B len cap Bm=>by subst h0;cases A<;>cases B<;>simp[Builtin.append_,run_underlying ch,sizeOf,typeInfo,ae,Builtin.lenOf,Bm,Builtin.firstCells,loadCells,loadCellsFrom,storeCells]
 nil:=fun h0 v5 y3=>by obtain⟨a,rfl,bA⟩:=hA.resolve_left (by omega);exact run_append_nil (P:=P) w t ef e i ea ch ae b5 a n c vs aF bA h0 v5 (by omega)
 room:=fun aV g iz lp lb er dt s3 ia _=>by obtain⟨a,rfl,bA⟩:=hA.resolve_left (by omega);exact TK t ef e i ch ae g iz lp lb er dt a n c vs aF bA o s3 ia
 grow:=fun aV b iz lp vR ai hold dt v5 ia _=>by obtain⟨a,rfl,bA⟩:=hA.resolve_left (by omega);exact run_append_grow (P:=P) w t ef e i ea ch ae b5 b iz lp vR ai hold a n c vs aF bA dt v5 ia
theorem Vl {t cW ef e:TypeId}{i:TypeInfo}{ea:Value}{k:IntKind}(ch:P.underlying t=some (.slice e))(nF:P.underlying cW=some (.int k))(ae:P.info? e=some i)(b5:i.zero=some ea)(kB:ea.cells.size=i.size){m:Nat}(adZ:(m:Int)<9223372036854775808)
 (o : ∀u∈(Builtin.zeroCells ea.cells m).toList,u.oneCell'=true):Iq P w t cW ef e i ea (.int .i64 m) m (Builtin.zeroCells ea.cells m).toList:=by
 have hw:IntKind.i64.wrap (m:Int)=m:=by simp[IntKind.wrap,IntKind.bits,IntKind.signed];omega
 have qJ : ¬((m:Int)<0):=by omega
 have rv : ∀aU,aU*i.size=0->Builtin.zeroCells ea.cells aU = #[]:=fun aU hm=>by apply Array.eq_empty_of_size_eq_zero;rw[size_zeroCells,kB,hm]
 have EK : ∀bx:World,(if m*i.size=0 then (pure #[]:Sem (Array Value)) else do pure (Builtin.zeroCells (<- zeroValue e).cells m)).run P bx = .ok (Builtin.zeroCells ea.cells m) bx:=fun bx=>by
  split
  ·rename_i hm;rw[rv _ hm];rfl
  simp[zeroValue,typeInfo,ae,b5]
 have Ir : ∀b:Nat,m*b<=140737488355328-> ¬(281474976710656<(m:Int)*(b:Int)):=fun b aN=>by have:((m*b:Nat):Int)<=140737488355328:=(by omega);rw[Int.natCast_mul] at this;omega
 refine⟨fun aV B len cap Bm=> ?_,fun aV v5 y3=> ?_,fun aV g iz lp lb er dt s3 ia y3=> ?_,fun aV b iz lp vR ai hold dt v5 ia y3=> ?_⟩
 ·subst aV;have IX:IntKind.i64.wrap 0=0:=(by simpa using hw);cases B<;>simp[Builtin.append_,run_underlying ch,run_underlying nF,sizeOf,typeInfo,ae,Bm,asInt,asIntOf,IX,storeCells]
 ·have IY : ¬m=0:=by omega
  have Bn : ¬(9223372036854775807<(m:Int)):=(by omega);have ui:=Ir _ y3;have Bo : ¬(281474976710656<Builtin.nextslicecap m 0*i.bytes):=(by rw[nextslicecap_zero aV];omega);have J:=EK w.drew;by_cases hm:m*i.size=0
  ·simp[Builtin.append_,run_underlying ch,run_underlying nF,sizeOf,typeInfo,zeroValue,ae,b5,asInt,asIntOf,hw,qJ,ui,IY,Bn,Bo,Question.forced,run_firstCells_none,newRow,grownCap,hm,rv _ hm]
  simp[Builtin.append_,run_underlying ch,run_underlying nF,sizeOf,typeInfo,zeroValue,ae,b5,asInt,asIntOf,hw,qJ,ui,IY,Bn,Bo,Question.forced,run_firstCells_none,newRow,grownCap,hm]
 ·have ui:=Ir _ y3
  have kQ:=run_storeCells_at P g (iz*i.size) er (Builtin.zeroCells ea.cells m).toList 0 lb w dt (by simpa using ia) o;simp only[Nat.add_zero] at kQ;by_cases hm:m*i.size=0
  ·rw[rv _ hm] at kQ;have ZO:(storeCells ⟨g,iz*i.size,none⟩ []).run P w = .ok () (w.setRow g lb):=(by simpa using kQ);simp[Builtin.append_,run_underlying ch,run_underlying nF,sizeOf,typeInfo,zeroValue,ae,b5,asInt,asIntOf,hw,qJ,ui,s3,hm,rv _ hm,Addr.add_lit,ZO]
  simp[Builtin.append_,run_underlying ch,run_underlying nF,sizeOf,typeInfo,zeroValue,ae,b5,asInt,asIntOf,hw,qJ,ui,s3,hm,Addr.add_lit,kQ]
 have ui:=Ir _ y3;have QL : ¬(iz+m<=lp):=by omega
 have Bn : ¬(9223372036854775807<((iz:Int)+(m:Int))):=by omega
 have Bo : ¬(281474976710656<Builtin.nextslicecap (iz+m) lp*i.bytes):=by omega
 have QM:=run_firstCells_some (P:=P) w.drew i.size iz b iz lp vR ai (by simpa using hold);by_cases hm:m*i.size=0
 ·simp[Builtin.append_,run_underlying ch,run_underlying nF,sizeOf,typeInfo,zeroValue,ae,b5,asInt,asIntOf,hw,qJ,ui,QL,Bn,Bo,Question.forced,QM,newRow,grownCap,hm,rv _ hm]
 simp[Builtin.append_,run_underlying ch,run_underlying nF,sizeOf,typeInfo,zeroValue,ae,b5,asInt,asIntOf,hw,qJ,ui,QL,Bn,Bo,Question.forced,QM,newRow,grownCap,hm]
theorem Gl {aR:Nat}{e:TypeId}{v:Value}{i:TypeInfo}{m:Nat}(h:cq g s al a w)(ey:s.aH aR=none){es:List (List an)}(hlen:∀x∈es,x.length=i.size)(hm:m=es.length)
 {nD:List Value} {tC:Array Value} {cap:Nat} (p4:nD.length=es.length*i.size) (ln : ∀u∈nD,u.oneCell'=true) (aaE:tC.size=(cap-m)*i.size) (Bm:m<=cap) (ZP:cap<9223372036854775808)
 (eC : ∀(j:Nat) x u,es.flatten[j]? = some x->nD[j]? = some u->Rel w (s.ok g al w) s.aW (s.a0 al) x u)
 (aZ:v = .slice (some ⟨w.heap.size,0,none⟩) m cap) :
 ∃bG,cq g (s.setRow aR [⟨i.size,es,.live⟩]) bG a (w.drew.alloc (.cells (nD.toArray++tC) e)) /\
  Rel (w.drew.alloc (.cells (nD.toArray++tC) e)) ((s.setRow aR [⟨i.size,es,.live⟩]).ok g bG (w.drew.alloc (.cells (nD.toArray++tC) e))) (s.setRow aR [⟨i.size,es,.live⟩]).aW ((s.setRow aR [⟨i.size,es,.live⟩]).a0 bG) (.bK aR 0 0 m) v:=by
 have bz:=h.drew
 have jg:es.flatten.length=es.length*i.size:=by
  have : ∀(es:List (List an)),(∀e∈es,e.length=i.size)->es.flatten.length=es.length*i.size:=by
   intro es
   induction es with
   | nil=>intro _;simp
   | cons e es ih =>
    intro fH;rw[afb,dH,ih fun x aa=>fH x (by simp[aa]),fH e (by simp),dM,Nat.add_mul];omega
  exact this es hlen
 obtain⟨bG,gN,hQ,-⟩:=bz.alloc ey ⟨i.size,es,.live⟩ rfl (nD.toArray++tC) e hlen (fun j x aa=>by
  have av:j<nD.length:=by
   rcases Nat.lt_or_ge j es.flatten.length with cf|cf
   ·omega
   rw[dP cf] at aa;simp at aa
  refine⟨nD[j],?_,ln _ (List.getElem_mem av),?_⟩
  ·rw[Array.getElem?_append_left (by simpa using av)];simp[av]
  exact(eC j x _ aa (dx av)).drew)
 refine⟨bG,hQ,?_⟩;subst aZ;have ai:(s.setRow aR [⟨i.size,es,.live⟩]).af aR 0=some ⟨i.size,es,.live⟩:=by rw[kZ,dw rfl,lM];simp
 refine Rel.bK (sz:=i.size) (dZ:=w.heap.size) (m:=(nD.toArray++tC).size) ((m1 _ _ _ _ _).2 (by simp)) ?_ Bm ZP ⟨?_,.inr (by simp)⟩
 ·rw[hG ai,gN];rfl
 simp only[Array.size_append,List.size_toArray,aaE,p4,dF];rw[<- hm,<- Nat.add_mul];congr 1;omega
section
variable {I:Oper} {cr:eG} {aR:Nat} {bc:gM}
theorem NE (h:cq g s al a w){t cW ef e:TypeId}{i:TypeInfo}{z:List an}(hu:P.underlying t=some (.slice e))(ae:P.info? e=some i)(b5:pK P e=some z)(ls:z.length=i.size)(iS:i.size≠0)
 {y:an} {fp:eG} {bi:List (List an)} {af:List Prop} (he:vu P i.size z s.aH fp t cW y=some (bi,af)) (a5 : ∀p∈af,p) {nl:Value} (aP:Rel w (s.ok g al w) s.aW (s.a0 al) y nl) :
 ∃ea vs,i.zero=some ea/\ea.cells.size=i.size/\Iq P w t cW ef e i ea nl bi.length vs/\(∀x∈bi,x.length=i.size)/\vs.length=bi.length*i.size/\(∀u∈vs,u.oneCell'=true) /\
  ∀(j:Nat) x u,bi.flatten[j]? = some x->vs[j]? = some u->Rel w (s.ok g al w) s.aW (s.a0 al) x u:=by
 obtain⟨eM,ea,iC,jP,qY,sm⟩:=x5 b5;rw[ae] at iC;simp at iC;subst iC;have kB:ea.cells.size=i.size:=by rw[<- ls,qY];simp
 unfold vu at he;split at he
 ·rename_i aaF
  subst aaF;obtain⟨A,c,rfl,hlen,IZ⟩:=N4 h he a5 aP;rcases IZ with h0|⟨dZ,off,rfl,ie⟩
  ·have:bi=[]:=dK.1 h0;subst this;exact⟨ea,[],jP,kB,M8 hu ae jP (by simp) (.inl rfl) (by simp),hlen,by simp,by simp,by simp⟩
  obtain⟨vs,v1,v2,v3,v4⟩:=ie.nD;exact⟨ea,vs,jP,kB,M8 hu ae jP v1 (.inr ⟨_,rfl,v2⟩) v3,hlen,v1,v3,v4⟩
 split at he;rotate_left
 ·simp at he
 rename_i k n aQ;simp only[dy,dC] at he;obtain⟨rfl,rfl⟩:=he;have h0:0<=n:=a5 _ (by simp);have v5:n<9223372036854775808:=a5 _ (by simp);obtain⟨m,rfl⟩:=Int.eq_ofNat_of_zero_le h0;have aaG:nl = .int .i64 m:=by cases aP;rfl
 subst aaG;have lu : ∀(j:Nat) u,(Builtin.zeroCells ea.cells m).toList[j]? = some u->ea.cells[j % i.size]? = some u:=by intro j u nG;have av:=(afl.1 nG).1;rw[Array.length_toList,size_zeroCells,kB] at av;have dq:j % i.size<ea.cells.size:=(by rw[kB];exact Nat.mod_lt _ (by omega));rw[Array.getElem?_toList,Builtin.zeroCells,Array.getElem?_map,kB,Array.getElem?_range] at nG;rw[dw av] at nG;simp only[dQ,dy] at nG;rw[<- nG,dS dq,getElem!_pos ea.cells _ dq]
 refine⟨ea,(Builtin.zeroCells ea.cells m).toList,jP,kB,?_,?_,?_,?_,?_⟩
 ·simp only[List.length_replicate,dz];refine Vl hu aQ ae jP kB (by omega) fun u rz=> ?_;obtain⟨j,av⟩:=afr rz;have o:=lu j u av;have dq:j % i.size<z.length:=(by rw[ls];exact Nat.mod_lt _ (by omega));obtain⟨v,v1,v2,-⟩:=sm _ _ (dx dq);rw[o] at v1;obtain rfl:=dI v1;exact v2
 ·intro x aa;rw[List.mem_replicate] at aa;rw[aa.2,ls]
 ·rw[Array.length_toList,size_zeroCells,kB];simp
 ·intro u rz;obtain⟨j,av⟩:=afr rz;have o:=lu j u av;have dq:j % i.size<z.length:=(by rw[ls];exact Nat.mod_lt _ (by omega));obtain⟨v,v1,v2,-⟩:=sm _ _ (dx dq);rw[o] at v1;obtain rfl:=dI v1;exact v2
 intro j x u aa nG;rw[pa (sz:=i.size) (by omega) _ (fun er lr=>by rw[List.mem_replicate] at lr;rw[lr.2,ls])] at aa;have o:=lu j u nG
 cases a2:(List.replicate (Int.toNat (m:Int)) z)[j / i.size]? with
 | none=>rw[a2] at aa;simp at aa
 | some er =>
  have:=dG a2;rw[List.mem_replicate] at this;rw[a2,this.2] at aa;simp only[dB] at aa;obtain⟨v,v1,-,v3⟩:=sm _ _ aa;rw[o] at v1;obtain rfl:=dI v1;exact v3 _ _ _ _
theorem Vm (h:cq g s al a w)(ey:s.aH aR=none){x y:an}{pA nl:Value}{t cW:TypeId}{m:Nat}{J3:Option aM}{ef:TypeId}(ak:ry P s.E s.aH aR .append [x,y] [t,cW] (.a1 m J3)=some bc)(b4:∀p∈bc.eX,p)
 (aa:Rel w (s.ok g al w) s.aW (s.a0 al) x pA) (aP:Rel w (s.ok g al w) s.aW (s.a0 al) y nl) :
 ∃v bx bG,(Builtin.append_ #[t,cW] ef #[pA,nl]).run P w = .ok v bx/\cq g (s.hN bc.fz) bG a bx/\Rel bx ((s.hN bc.fz).ok g bG bx) (s.hN bc.fz).aW ((s.hN bc.fz).a0 bG) bc.val v:=by
 simp only[ry] at ak;split at ak
 ·simp at ak
 rename_i e he;have hu:=re he;split at ak;rotate_left
 ·simp at ak
 rename_i i z ae b5;split at ak
 ·simp at ak
 rename_i aL;simp only[not_or,Decidable.not_not] at aL;obtain⟨ls,iS,yY⟩:=aL;split at ak
 ·simp at ak
 rename_i bi bS rr;have EL:=fun ah=>NE (ef:=ef) h hu ae b5 ls iS rr ah aP;by_cases Yu:True
 ·
  split at ak
  ·
   simp only[dy] at ak;subst ak;have hm:m=bi.length:=b4 _ (by simp);have BN:m*i.bytes<=140737488355328:=b4 _ (by simp);obtain⟨ea,vs,jP,kB,hA,hlen,v1,v3,v4⟩:=EL (fun p ah=>b4 p (by simp[ah]));clear EL;rw[aa.pM];by_cases h0:bi.length=0
   ·have:bi=[]:=dK.1 h0;subst this;obtain⟨bG,gN,hQ⟩:=h.OG (sz:=i.size) ey;refine⟨_,w,bG,hA.zero h0 none 0 0 (dE _),hQ,?_⟩;subst hm;have ai:(s.setRow aR [⟨i.size,[],.live⟩]).af aR 0=some ⟨i.size,[],.live⟩:=(by rw[kZ,dw rfl,lM];simp);exact .nt (sz:=i.size) ((m1 _ _ _ _ _).2 (by simp)) (by show (s.setRow aR [⟨i.size,[],.live⟩]).a0 bG aR 0=_;rw[hG ai,gN])
   ··have rA:bi.length*1<=bi.length*i.bytes:=Nat.mul_le_mul_left _ (by omega)
     rw[hm] at BN;have iL:=hA.nil (by omega) (by omega) (by omega);have QN:=grownCap_ge w bi.length 0 e;have hle:=grownCap_le_maxLen w bi.length 0 e (by simp only[maxLen];omega);simp only[maxLen] at hle
     obtain⟨bG,aT,bf⟩:=Gl (e:=e) (i:=i) (m:=m) (nD:=vs) (tC:=Builtin.zeroCells ea.cells (grownCap w bi.length 0 e-bi.length)) (cap:=grownCap w bi.length 0 e) h ey hlen hm v1 v3
      (by rw[size_zeroCells,kB,hm]) (by omega) (by omega) v4 rfl
     refine⟨.slice (some ⟨w.heap.size,0,none⟩) m (grownCap w bi.length 0 e),_,bG,?_,aT,bf⟩;rw[hm];exact iL
  ·
   rename_i r k len;split at ak
   ·simp at ak
   rename_i row cV;split at ak
   ·simp at ak
   rename_i af a5;split at ak;rotate_left
   ·simp at ak
   rename_i tk;obtain⟨mJ,ev,cx⟩:=tk;simp only[dy] at ak;subst ak;have ai:s.af r k=some af:=(by unfold S.af;rw[cV];exact a5);have ia:len<=af.es.length:=b4 _ (by simp);have hm:m=len+bi.length:=b4 _ (by simp);have BN:m*i.bytes<=140737488355328:=b4 _ (by simp);have rA:m*1<=m*i.bytes:=Nat.mul_le_mul_left _ (Nat.one_le_iff_ne_zero.2 yY);obtain⟨ea,vs,jP,kB,hA,hlen,v1,v3,v4⟩:=EL (fun p ah=>b4 p (by simp[ah]));clear EL;have aeb:bi.length*i.bytes<=m*i.bytes:=afi _ (by omega);have eC:=h.obj r k af ai;have I0:(af.es.take len).length=len:=(by simp;omega);have sb:(s.setRow aR [⟨i.size,af.es.take len++bi,.live⟩]).aH r=some row:=(by simp[S.setRow,Ne.symm cx,cV]);have p6 : ∀bG:fj,((s.setRow aR [⟨i.size,af.es.take len++bi,.live⟩]).setRow r (row.set k {af with cg:= .gone})).af aR 0=some ⟨i.size,af.es.take len++bi,.live⟩:=(by intro _;rw[kZ,dA cx,kZ,dw rfl,lM];simp);have Bp:((s.setRow aR [⟨i.size,af.es.take len++bi,.live⟩]).setRow r (row.set k {af with cg:= .gone})).aW aR 0:=(by rw[m1,dA cx,m1,dw rfl];simp);show ∃v bx bG,_/\cq g ((s.setRow aR [⟨i.size,af.es.take len++bi,.live⟩]).setRow r (row.set k {af with cg:= .gone})) bG a bx/\_;rcases aa.r3 (hG ai) with ⟨ah,-,rfl,rfl⟩|⟨b,M,gO,jH,ah,rfl,p5,sl,dg,lv⟩
   ·
    rw[ah] at eC;simp only[iJ] at eC;have ho:af.es.take 0++bi=bi:=(by simp);by_cases h0:bi.length=0
    ·have:bi=[]:=dK.1 h0;subst this;obtain⟨bG,gN,hQ⟩:=h.OG (sz:=i.size) ey;have p7:(s.setRow aR [⟨i.size,[],.live⟩]).af r k=some af:=(by rw[kZ,dA (Ne.symm cx)];exact ai);have Zj:(s.setRow aR [⟨i.size,[],.live⟩]).aH r=some row:=(by simp[S.setRow,Ne.symm cx,cV]);obtain⟨nm,-⟩:=hQ.gone Zj p7;have Bq:af.es.take 0++([]:List (List an))=[]:=(by simp);rw[Bq];rw[Bq] at Bp p6;refine⟨_,w,bG,hA.zero h0 none 0 0 (dE _),nm,?_⟩;subst hm;exact .nt (sz:=i.size) Bp ((hG (p6 bG)).trans (by rw[gN]))
    ··have km:m=bi.length:=by omega
      have iL:=hA.nil (by omega) (by omega) (by omega);have QN:=grownCap_ge w bi.length 0 e;have hle:=grownCap_le_maxLen w bi.length 0 e (by simp only[maxLen];omega);simp only[maxLen] at hle
      obtain⟨bG,aT,bf⟩:=Gl (e:=e) (i:=i) (m:=m) (nD:=vs) (tC:=Builtin.zeroCells ea.cells (grownCap w bi.length 0 e-bi.length)) (cap:=grownCap w bi.length 0 e) h ey hlen km v1 v3
       (by rw[size_zeroCells,kB,km]) (by omega) (by omega) v4 rfl
      rw[ho];rw[ho] at sb;have p7:(s.setRow aR [⟨i.size,bi,.live⟩]).af r k=some af:=(by rw[kZ,dA (Ne.symm cx)];exact ai);obtain⟨nm,Cl⟩:=aT.gone sb p7;refine⟨.slice (some ⟨w.heap.size,0,none⟩) m (grownCap w bi.length 0 e),_,bG,?_,nm,Cl _ _ bf⟩;rw[km];exact iL
   ·
    rw[ah] at eC;have Zk:=eC;obtain⟨b6,la,g1,g2,g3,g4⟩:=eC
    have Br : ∀e∈af.es.take len++bi,e.length=i.size:=by
     intro er lr;rw[List.mem_append] at lr;rcases lr with cf|cf
     ·rw[g3 er (List.mem_of_mem_take cf),ev]
     exact hlen er cf
    have jg : ∀(es:List (List an)),(∀e∈es,e.length=i.size)->es.flatten.length=es.length*i.size:=by
     intro es
     induction es with
     | nil=>intro _;simp
     | cons e es ih =>
      intro fH;rw[afb,dH,ih fun x aa=>fH x (by simp[aa]),fH e (by simp),dM,Nat.add_mul];omega
    by_cases h0:bi.length=0
    ·
     have:bi=[]:=dK.1 h0;subst this;have Bq:af.es.take len++([]:List (List an))=af.es.take len:=(by simp);rw[Bq];rw[Bq] at Bp p6 Br
     obtain⟨bG,gN,hQ⟩:=h.turn cV ai mJ ah ey ⟨i.size,af.es.take len,.live⟩ rfl b6 la g1 rfl (fun _ _=>rfl) rfl rfl rfl g2 Br (fun j q a2=>by
      refine g4 j q ?_
      have av:j<(af.es.take len).flatten.length:=by
       rcases Nat.lt_or_ge j (af.es.take len).flatten.length with cf|cf
       ·exact cf
       rw[dP cf] at a2;simp at a2
      have QO:af.es.flatten=(af.es.take len).flatten++(af.es.drop len).flatten:=(by rw[<- List.flatten_append,List.take_append_drop]);rw[QO,afh av];exact a2)
     refine⟨_,w,bG,hA.zero h0 gO len jH p5,hQ,?_⟩;have km:m=len:=(by simpa using hm);subst km;refine .bK (sz:=i.size) (dZ:=b) (m:=M) Bp ((hG (p6 bG)).trans (by rw[gN])) p5 sl ?_;rw[<- ev];exact⟨dg,lv⟩
    ··
      have hold : ∃xs:List Value,xs.length=len*i.size/\(∀(j:Nat) u,xs[j]? = some u->w.cell? ((⟨b,0,none⟩:Addr).add j)=some u)/\(∀u∈xs,u.oneCell'=true) /\
       ∀(j:Nat) x u,(af.es.take len).flatten[j]? = some x->xs[j]? = some u->Rel w (s.ok g al w) s.aW (s.a0 al) x u:=by
       have Qp:=De Zk.rd 0 len (by omega);simp only[List.drop_zero,Nat.zero_mul,Nat.add_zero] at Qp;obtain⟨xs,fR,e9,aS,f8⟩:=Qp.nD;exact⟨xs,by rw[fR,I0,ev],e9,aS,f8⟩
      obtain⟨xs,fR,e9,aS,f8⟩:=hold;have aaH:xs.length=(af.es.take len).length*i.size:=by rw[I0];exact fR
      have OH : ∀(j:Nat) x u,(af.es.take len++bi).flatten[j]? = some x->(xs++vs)[j]? = some u->Rel w (s.ok g al w) s.aW (s.a0 al) x u :=
       fun j x u aaI nG=>Uf aaH (fun er lr=>by rw[g3 er (List.mem_of_mem_take lr),ev]) aaI f8 v4 nG
      have Bs:(af.es.take len++bi).length=m:=(by rw[dH,I0];exact hm.symm);by_cases s3:len+bi.length<=jH
      ·
       rcases lv with rfl|rfl
       ·omega
       rw[Nat.zero_mul] at *;rw[dF] at dg;have Yv:len*i.size+vs.length<=b6.size:=(by rw[v1,g2,<- dg,ev,<- Nat.add_mul];exact afi _ s3);have iL:=hA.room (by omega) b len jH b6 la g1 s3 Yv (by omega);have ZQ:(w.setRow b (b6.toList.take (len*i.size)++vs++b6.toList.drop (len*i.size+vs.length)).toArray).heap.size=w.heap.size:=size_setRow _ _ _
       have QP:xs=b6.toList.take (len*i.size):=by
        apply afo;intro j;rw[dR];by_cases av:j<len*i.size
        ·rw[dw av];have sn:j<xs.length:=(by omega);have:=e9 j _ (dx sn);rw[rc,cell_of_row w b (0+j) b6 la (0,0) g1,dF] at this;rw[dx sn,<- this,Array.getElem?_toList]
        rw[dA av,dP (by omega)]
       obtain⟨bG,gN,hQ⟩:=h.turn cV ai mJ ah ey ⟨i.size,af.es.take len++bi,.live⟩ rfl _ la (setRow_heap w b b6 _ la _ g1) ZQ (fun q a2=>setRow_other w b q _ a2) rfl rfl rfl
        (by rw[<- g2];simp;omega) Br (fun j q a2=>by
          have av:j<(xs++vs).length:=by
           have:j<(af.es.take len++bi).flatten.length:=by
            rcases Nat.lt_or_ge j (af.es.take len++bi).flatten.length with cf|cf
            ·exact cf
            rw[dP cf] at a2;simp at a2
           rw[jg _ Br,Bs] at this;rw[dH,fR,v1,<- Nat.add_mul,<- hm];exact this
          refine⟨(xs++vs)[j],?_,?_,OH j q _ a2 (dx av)⟩
          ·rw[List.getElem?_toArray,afh (by rw[<- QP];exact av),<- QP];exact dx av
          have:=List.getElem_mem av;rw[List.mem_append] at this;rcases this with cf|cf
          ·exact aS _ cf
          exact v3 _ cf)
       refine⟨_,_,bG,iL,hQ,?_⟩;rw[<- hm];refine .bK (sz:=i.size) (dZ:=b) (m:=M) Bp ((hG (p6 bG)).trans (by rw[gN])) (by omega) sl ⟨?_,.inr (by simp)⟩;rw[dF,<- ev];exact dg
      ·
       have hA : ∃wF:Addr,(gO=some wF/\ ∀(j:Nat) u,xs[j]? = some u->w.cell? (wF.add j)=some u)\/(gO=none/\len=0/\jH=0):=by
        cases gO with
        | none =>
         refine⟨⟨0,0,none⟩,.inr ⟨rfl,?_⟩⟩;rcases lv with cf|cf
         ·omega
         simp at cf
        | some wF =>
         refine⟨wF,.inl ⟨rfl,?_⟩⟩;rcases lv with cf|cf
         ·have:len=0:=(by omega);have:xs=[]:=dK.1 (by rw[fR,this];simp);intro j u av;rw[this] at av;simp at av
         simp at cf;subst cf;exact e9
       have QN:=grownCap_ge w (len+bi.length) jH e;have hle:=grownCap_le_maxLen w (len+bi.length) jH e (by simp only[maxLen];omega);simp only[maxLen] at hle
       have iL:(Builtin.append_ #[t,cW] ef #[.slice gO len jH,nl]).run P w = .ok (.slice (some ⟨w.heap.size,0,none⟩) (len+bi.length) (grownCap w (len+bi.length) jH e))
        (w.drew.alloc (.cells ((xs++vs).toArray++Builtin.zeroCells ea.cells (grownCap w (len+bi.length) jH e-(len+bi.length))) e)):=by
        have ZR:(xs++vs).toArray=xs.toArray++vs.toArray:=(by apply Array.ext';simp);rw[ZR];obtain⟨wF,⟨rfl,aaJ⟩|⟨rfl,nb,mF⟩⟩:=hA
        ·exact hA.grow (by omega) wF len jH xs fR aaJ (by omega) (by omega) (growslice_fits (by omega) (by rw[<- hm];exact BN)) (by omega)
        subst nb;subst mF;have aaK:xs=[]:=dK.1 (by rw[fR];simp);subst aaK;have:=hA.nil (by omega) (by omega) (by omega);simpa using this
       obtain⟨bG,aT,bf⟩:=Gl (e:=e) (i:=i) (m:=m) (nD:=xs++vs) (tC:=Builtin.zeroCells ea.cells (grownCap w (len+bi.length) jH e-(len+bi.length))) (cap:=grownCap w (len+bi.length) jH e) h ey Br Bs.symm
        (by rw[dH,fR,v1,Bs,hm,Nat.add_mul]) (fun u hu=>by
          rw[List.mem_append] at hu;rcases hu with cf|cf
          ·exact aS _ cf
          exact v3 _ cf) (by rw[size_zeroCells,kB,hm]) (by omega) (by omega) OH rfl
       have p7:(s.setRow aR [⟨i.size,af.es.take len++bi,.live⟩]).af r k=some af:=(by rw[kZ,dA (Ne.symm cx)];exact ai);obtain⟨nm,Cl⟩:=aT.gone sb p7;refine⟨.slice (some ⟨w.heap.size,0,none⟩) m (grownCap w (len+bi.length) jH e),_,bG,?_,nm,Cl _ _ bf⟩;rw[hm];exact iL
  simp at ak
 exact absurd trivial Yu
end
end
section
variable {P:Program} {g:G} {s:S} {al:fj} {a:Act} {w:World}
theorem cq.putAt (h:cq g s al a w){r k p b M:Nat}{row:List aM}{af:aM}(aj:s.aH r=some row)(ai:s.af r k=some af)(aQ:af.cg = .live)(kD:al r k=some (b,M)){bi gd:List (List an)}{vs:List Value}
 (hlen : ∀x∈bi,x.length=af.sz) (v1:vs.length=bi.length*af.sz) (v3 : ∀u∈vs,u.oneCell'=true) (v4 : ∀(j:Nat) x u,bi.flatten[j]? = some x->vs[j]? = some u->Rel w (s.ok g al w) s.aW (s.a0 al) x u)
 (ah:p+bi.length<=af.es.length) (q:Nat) (ho:gd=(af.es.take p++bi++af.es.drop (p+bi.length)).take q) :
 ∃b6 la,w.heap[b]? = some (.cells b6 la (0,0))/\b6.size=M/\af.es.length*af.sz<=M/\p*af.sz+vs.length<=b6.size /\
  cq g (s.setRow r (row.set k {af with es:=gd})) al a (w.setRow b (b6.toList.take (p*af.sz)++vs++b6.toList.drop (p*af.sz+vs.length)).toArray) /\
  ∀x v,Rel w (s.ok g al w) s.aW (s.a0 al) x v->Rel (w.setRow b (b6.toList.take (p*af.sz)++vs++b6.toList.drop (p*af.sz+vs.length)).toArray) ((s.setRow r (row.set k {af with es:=gd})).ok g al (w.setRow b (b6.toList.take (p*af.sz)++vs++b6.toList.drop (p*af.sz+vs.length)).toArray)) (s.setRow r (row.set k {af with es:=gd})).aW ((s.setRow r (row.set k {af with es:=gd})).a0 al) x v:=by
 have eC:=h.obj r k af ai;rw[kD] at eC;obtain⟨b6,la,g1,g2,g3,g4⟩:=eC;have jg:=yj g3
 have dg:af.es.length*af.sz<=M:=by
  rcases Nat.eq_zero_or_pos af.es.flatten.length with h0|iS
  ·omega
  obtain⟨v,ao,-⟩:=g4 (af.es.flatten.length-1) _ (dx (by omega));have:=(afj.1 ao).1;omega
 have hmul:p*af.sz+bi.length*af.sz<=af.es.length*af.sz:=by rw[<- Nat.add_mul];exact afi _ ah
 have ia:p*af.sz+vs.length<=b6.size:=by omega
 refine⟨b6,la,g1,g2,dg,ia,?_⟩
 have ZS : ∀e∈af.es.take p++bi++af.es.drop (p+bi.length),e.length=af.sz:=by
  intro e he;simp only[List.mem_append] at he;rcases he with (he|he)|he
  ·exact g3 e (List.mem_of_mem_take he)
  ·exact hlen e he
  exact g3 e (List.mem_of_mem_drop he)
 have hA:(af.es.take p).flatten.length=p*af.sz:=by rw[yj fun e he=>g3 e (List.mem_of_mem_take he),List.length_take];congr 1;omega
 have gV:(af.es.take (p+bi.length)).flatten.length=p*af.sz+bi.length*af.sz:=by rw[yj fun e he=>g3 e (List.mem_of_mem_take he),List.length_take,<- Nat.add_mul];congr 1;omega
 have aco:bi.flatten.length=bi.length*af.sz:=yj hlen
 have o : ∀j,j<p*af.sz->(af.es.take p).flatten[j]? = af.es.flatten[j]? := fun j av=>by
  conv=>rhs;rw[<- List.take_append_drop p af.es,List.flatten_append,afh (by omega)]
 have J : ∀j,(af.es.drop (p+bi.length)).flatten[j]? = af.es.flatten[p*af.sz+bi.length*af.sz+j]? := fun j=>by
  conv=>rhs;rw[<- List.take_append_drop (p+bi.length) af.es,List.flatten_append,afn (by omega),gV]
  congr 1;omega
 refine h.write aj ai aQ kD gd _ la (setRow_heap w b b6 _ la _ g1) (size_setRow _ _ _) (fun q a2=>setRow_other w b q _ a2) rfl rfl rfl (by rw[<- g2];simp;omega) ?_ ?_
 ·intro e he;rw[ho] at he;exact ZS e (List.mem_of_mem_take he)
 intro j x aa
 have dl:(af.es.take p++bi++af.es.drop (p+bi.length)).flatten[j]? = some x:=by
  rw[ho] at aa;have av:=(afl.1 aa).1
  conv=>lhs;rw[<- List.take_append_drop q (af.es.take p++bi++af.es.drop (p+bi.length)),List.flatten_append,afh av]
  exact aa
 rw[List.flatten_append,List.flatten_append] at dl;simp only[List.getElem?_toArray];have hy:(b6.toList.take (p*af.sz)).length=p*af.sz:=by rw[List.length_take,Array.length_toList];omega
 by_cases bB:j<p*af.sz
 ·rw[List.append_assoc,afh (by omega),o j bB] at dl;obtain⟨v,ao,aB,bT⟩:=g4 j x dl;refine⟨v,?_,aB,bT⟩;rw[List.append_assoc,afh (by omega),dR,dw bB,Array.getElem?_toList];exact ao
 by_cases cF:j<p*af.sz+vs.length
 ·rw[List.append_assoc,afn (by omega),hA,afh (by omega)] at dl;have aZ:j-p*af.sz<vs.length:=(by omega);refine⟨vs[j-p*af.sz],?_,v3 _ (List.getElem_mem aZ),v4 _ _ _ dl (dx aZ)⟩;rw[List.append_assoc,afn (by omega),hy,afh (by omega)];exact dx aZ
 rw[afn (by rw[dH];omega),dH,hA,aco,J] at dl;rw[show p*af.sz+bi.length*af.sz+(j-(p*af.sz+bi.length*af.sz))=j by omega] at dl;obtain⟨v,ao,aB,bT⟩:=g4 j x dl;refine⟨v,?_,aB,bT⟩;rw[afn (by rw[dH];omega),dH,hy,afm,Array.getElem?_toList];rw[show p*af.sz+vs.length+(j-(p*af.sz+vs.length))=j by omega];exact ao
end
section
variable {P:Program} {g:G} {s:S} {al:fj} {a:Act} {w:World} {aR:Nat} {bc:gM}
theorem OI (h:cq g s al a w){tB:Bool}{x y:an}{pA nl:Value}{t cW ef:TypeId}(ak:td tB P s.aH x y t cW=some bc)(b4:∀p∈bc.eX,p)
 (aa:Rel w (s.ok g al w) s.aW (s.a0 al) x pA) (aP:Rel w (s.ok g al w) s.aW (s.a0 al) y nl) :
 ∃v bx,(Builtin.append_ #[t,cW] ef #[pA,nl]).run P w = .ok v bx/\cq g (s.hN bc.fz) al a bx/\Rel bx ((s.hN bc.fz).ok g al bx) (s.hN bc.fz).aW ((s.hN bc.fz).a0 al) bc.val v:=by
 unfold td at ak;split at ak
 ·simp at ak
 rename_i e he;have hu:=re he;split at ak;rotate_left
 ·simp at ak
 rename_i i z ae b5;split at ak
 ·simp at ak
 rename_i aL;simp only[not_or,Decidable.not_not] at aL;obtain⟨ls,iS,yY⟩:=aL;split at ak
 ·simp at ak
 rename_i bi bS rr;split at ak;rotate_left
 ·simp at ak
 rename_i r k len;split at ak
 ·simp at ak
 rename_i row cV;split at ak
 ·simp at ak
 rename_i af a5;split at ak;rotate_left
 ·simp at ak
 rename_i tk;obtain⟨mJ,ev⟩:=tk;simp only[dy] at ak;subst ak;have ai:s.af r k=some af:=by unfold S.af;rw[cV];exact a5
 have ia:len+bi.length<=af.es.length:=b4 _ (by simp);have BN:bi.length*i.bytes<=140737488355328:=b4 _ (by simp);obtain⟨ea,vs,jP,kB,hA,hlen,v1,v3,v4⟩:=NE (ef:=ef) h hu ae b5 ls iS rr (fun p ah=>b4 p (by simp[ah])) aP;rw[<- ev] at v1;have PT : ∀x∈bi,x.length=af.sz:=fun x aa=>by rw[hlen x aa,ev]
 obtain⟨E,EM⟩ : ∃E,E=(bif tB then af.es.take len++bi++af.es.drop (len+bi.length) else af.es.take len++bi):=⟨_,rfl⟩
 obtain⟨q,ho⟩ : ∃q,E=(af.es.take len++bi++af.es.drop (len+bi.length)).take q:=by
  cases tB with
  | true=>exact⟨(af.es.take len++bi++af.es.drop (len+bi.length)).length,by rw[dT (dE _)];exact EM⟩
  | false =>
   refine⟨len+bi.length,EM.trans ?_⟩;show af.es.take len++bi=_;exact(List.take_left' (by rw[dH,List.length_take];omega)).symm
 rw[<- EM];rcases aa.r3 (hG ai) with ⟨ah,-,rfl,rfl⟩|⟨b,M,gO,jH,ah,rfl,p5,sl,dg,lv⟩
 ·have eC:=h.obj r k af ai
  rw[ah] at eC;simp only[iJ] at eC;rw[eC] at ia;have h0:bi.length=0:=(by simp at ia;exact dK.2 ia);have v7:bi=[]:=dK.1 h0;subst v7;have aaL:E=[]:=(by rw[EM,eC];cases tB<;>rfl);rw[aaL]
  have kL:row.set k {af with es:=[]}=row:=by
   have o:({af with es:=[]}:aM)=af:=(by cases af;simp only[] at eC;subst eC;rfl);rw[o]
   have J:row[k]? = some af:=by
    unfold cX at a5;simp only at a5;split at a5
    ·rename_i bX du
     split at a5
     ·simp at a5
     simp at a5;rw[<- a5];exact du
    simp at a5
   exact afo fun j=>by
    rw[aff];split
    ·rename_i e;subst e;have:=(afl.1 J).1;rw[dw this,J]
    rfl
  refine⟨_,w,hA.zero h0 none 0 0 (dE _),?_⟩
  have d1:s.setRow r row=s:=by
   have:(fun q=>if q=r then some row else s.aH q)=s.aH:=by
    funext q;split
    ·rename_i e;rw[e,cV]
    rfl
   show ({s with aH:=_}:S)=s;rw[this]
  show cq g (s.setRow r (row.set k {af with es:=[]})) al a w/\Rel w ((s.setRow r (row.set k {af with es:=[]})).ok g al w) (s.setRow r (row.set k {af with es:=[]})).aW ((s.setRow r (row.set k {af with es:=[]})).a0 al) (.bK r k 0 0) (.slice none 0 0);rw[kL,d1];exact⟨h,aa⟩
 obtain⟨b6,la,bB,cF,l4,qZ,nn,tD⟩:=h.putAt cV ai mJ ah PT v1 v3 v4 ia q ho;have hle:af.es.length<=jH:=by rw[dF] at dg;rw[<- dg] at l4;exact Nat.le_of_mul_le_mul_right l4 (by omega)
 by_cases mF:jH=0
 ·have h0:bi.length=0:=(by omega);have nb:len=0:=(by omega);subst nb;have v7:bi=[]:=dK.1 h0;subst v7;have I1:vs=[]:=dK.1 (by simpa using v1);subst I1;have hw:w.setRow b (b6.toList.take (0*af.sz)++[]++b6.toList.drop (0*af.sz+0)).toArray=w:=(by simp only[Nat.zero_mul,List.take_zero,List.nil_append,dF,List.drop_zero,Array.toArray_toList];exact setRow_self w b b6 la (0,0) bB);simp only[afp] at nn tD;rw[hw] at nn tD;exact⟨_,w,hA.zero h0 gO 0 jH (Nat.zero_le _),nn,tD _ _ aa⟩
 have v8:gO=some ⟨b,0,none⟩:=by
  rcases lv with cf|cf
  ·exact absurd cf mF
  simpa using cf
 subst v8;by_cases h0:bi.length=0
 ·have v7:bi=[]:=dK.1 h0;subst v7;have I1:vs=[]:=dK.1 (by simpa using v1);subst I1;have hw:w.setRow b (b6.toList.take (len*af.sz)++[]++b6.toList.drop (len*af.sz+0)).toArray=w:=(by simp only[List.append_nil,Nat.add_zero,List.take_append_drop,Array.toArray_toList];exact setRow_self w b b6 la (0,0) bB);simp only[afp] at nn tD;rw[hw] at nn tD;exact⟨_,w,hA.zero h0 _ len jH p5,nn,tD _ _ aa⟩
 have iL:=hA.room (by omega) b len jH b6 la bB (by omega) (by rw[<- ev];exact qZ) BN;rw[<- ev] at iL;refine⟨_,_,iL,nn,?_⟩;have Bk:(s.setRow r (row.set k {af with es:=E})).af r k=some {af with es:=E}:=by rw[kZ,dw rfl,N1 row k af _ a5 (by simp[mJ]),dw rfl]
 show Rel _ ((s.setRow r (row.set k {af with es:=E})).ok g al _) (s.setRow r (row.set k {af with es:=E})).aW ((s.setRow r (row.set k {af with es:=E})).a0 al) (.bK r k 0 (len+bi.length)) _;refine .bK (sz:=af.sz) (dZ:=b) (m:=M) (DG Bk) ((hG Bk).trans (by rw[ah])) (by omega) sl ⟨dg,.inr (by simp)⟩
end
section
variable {P:Program} {g:G} {s:S} {al:fj} {a:Act} {w:World} {aR:Nat} {bc:gM}
theorem GG {s:S}{r k:Nat}{row:List aM}{af:aM}(aj:s.aH r=some row)(ai:cX (some row) k=some af):s.setRow r (row.set k af)=s:=by
 have J:row[k]? = some af:=by
  unfold cX at ai;simp only at ai;split at ai
  ·rename_i bX du
   split at ai
   ·simp at ai
   simp at ai;rw[<- ai];exact du
  simp at ai
 have ab:row.set k af=row:=afo fun j=>by
  rw[aff];split
  ·rename_i e;subst e;have:=(afl.1 J).1;rw[dw this,J]
  rfl
 rw[ab]
 have:(fun q=>if q=r then some row else s.aH q)=s.aH:=by
  funext q;split
  ·rename_i e;rw[e,aj]
  rfl
 show ({s with aH:=_}:S)=s;rw[this]
theorem M9 {e:TypeId}{i:TypeInfo}{z:List an}{ea:Value}(kB:ea.cells.size=i.size)(ls:z.length=i.size)(iS:i.size≠0)
 (sm : ∀(j:Nat) x,z[j]? = some x-> ∃v,ea.cells[j]? = some v/\jL v=true/\ ∀(w:World) (ok:Nat->Prop) (aW:iY) (a0:iP),Rel w ok aW a0 x v) (m:Nat) :
 (Builtin.zeroCells ea.cells m).toList.length=m*i.size/\(∀u∈(Builtin.zeroCells ea.cells m).toList,u.oneCell'=true) /\
   ∀(j:Nat) x u,(List.replicate m z).flatten[j]? = some x->(Builtin.zeroCells ea.cells m).toList[j]? = some u-> ∀(w:World) (ok:Nat->Prop) (aW:iY) (a0:iP),Rel w ok aW a0 x u:=by
 have lu : ∀(j:Nat) u,(Builtin.zeroCells ea.cells m).toList[j]? = some u->ea.cells[j % i.size]? = some u:=by intro j u nG;have av:=(afl.1 nG).1;rw[Array.length_toList,size_zeroCells,kB] at av;have dq:j % i.size<ea.cells.size:=(by rw[kB];exact Nat.mod_lt _ (by omega));rw[Array.getElem?_toList,Builtin.zeroCells,Array.getElem?_map,kB,Array.getElem?_range] at nG;rw[dw av] at nG;simp only[dQ,dy] at nG;rw[<- nG,dS dq,getElem!_pos ea.cells _ dq]
 refine⟨?_,?_,?_⟩
 ·rw[Array.length_toList,size_zeroCells,kB]
 ·intro u rz;obtain⟨j,av⟩:=afr rz;have o:=lu j u av;have dq:j % i.size<z.length:=(by rw[ls];exact Nat.mod_lt _ (by omega));obtain⟨v,v1,v2,-⟩:=sm _ _ (dx dq);rw[o] at v1;obtain rfl:=dI v1;exact v2
 intro j x u aa nG;rw[pa (sz:=i.size) (by omega) _ (fun er lr=>by rw[List.mem_replicate] at lr;rw[lr.2,ls])] at aa;have o:=lu j u nG
 cases a2:(List.replicate m z)[j / i.size]? with
 | none=>rw[a2] at aa;simp at aa
 | some er =>
  have:=dG a2;rw[List.mem_replicate] at this;rw[a2,this.2] at aa;simp only[dB] at aa;obtain⟨v,v1,-,v3⟩:=sm _ _ aa;rw[o] at v1;obtain rfl:=dI v1;exact v3
theorem WL (h:cq g s al a w){r k len:Nat}{y:an}{pA nl:Value}{t cW ef:TypeId}{cr:eG}(ak:ry P s.E s.aH aR .copy [.bK r k 0 len,y] [t,cW] cr=some bc)(b4:∀p∈bc.eX,p)
 (aa:Rel w (s.ok g al w) s.aW (s.a0 al) (.bK r k 0 len) pA) (aP:Rel w (s.ok g al w) s.aW (s.a0 al) y nl) :
 ∃n bx,(Builtin.copy_ #[t,cW] ef #[pA,nl]).run P w = .ok (goInt n) bx/\cq g (s.hN bc.fz) al a bx/\bc.val = .n .i64 n:=by
 simp only[ry] at ak;split at ak
 ·simp at ak
 rename_i e he;have hu:=re he;split at ak
 ·simp at ak
 rename_i i ae;split at ak
 ·simp at ak
 rename_i bi bS rr;split at ak
 ·simp at ak
 rename_i row cV;split at ak
 ·simp at ak
 rename_i af a5;split at ak;rotate_left
 ·simp at ak
 rename_i tk;obtain⟨mJ,ev,iS⟩:=tk;simp only[dy] at ak;subst ak;have ai:s.af r k=some af:=by unfold S.af;rw[cV];exact a5
 have ia:bi.length<=len:=b4 _ (by simp);have hle:len<=af.es.length:=b4 _ (by simp);obtain⟨A,c,rfl,hlen,IZ⟩:=N4 h rr (fun p ah=>b4 p (by simp[ah])) aP;show ∃n bx,_/\cq g (s.setRow r (row.set k {af with es:=bi++af.es.drop bi.length})) al a bx/\_;by_cases h0:bi.length=0
 ·have v7:bi=[]:=dK.1 h0
  subst v7;refine⟨0,w,?_,?_,rfl⟩
  ·rcases aa.r3 (hG ai) with ⟨-,-,rfl,rfl⟩|⟨b,M,gO,jH,-,rfl,-,-,-,-⟩
   ·cases A<;>simp[Builtin.copy_,run_underlying hu,sizeOf,typeInfo,ae,Builtin.lenOf,Builtin.firstCells,loadCells,loadCellsFrom]
   cases A<;>cases gO<;>simp[Builtin.copy_,run_underlying hu,sizeOf,typeInfo,ae,Builtin.lenOf,Builtin.firstCells,loadCells,loadCellsFrom,storeCells]
  rw[show ({af with es:=[]++af.es.drop ([]:List (List an)).length}:aM)=af from rfl,GG cV a5];exact h
 obtain⟨dZ,off,rfl,ie⟩:=IZ.resolve_left h0;obtain⟨vs,v1,v2,v3,v4⟩:=ie.nD;rw[<- ev] at v1;rcases aa.r3 (hG ai) with ⟨-,-,rfl,-⟩|⟨b,M,gO,jH,ah,rfl,p5,sl,dg,lv⟩
 ·exact absurd (Nat.le_zero.1 ia) h0
 have v8:gO=some ⟨b,0,none⟩:=by
  rcases lv with cf|cf
  ·exact absurd (show bi.length=0 by omega) h0
  simpa using cf
 subst v8
 obtain⟨b6,la,bB,cF,l4,qZ,nn,-⟩:=h.putAt (p:=0) cV ai mJ ah (fun x aa=>by rw[hlen x aa,ev]) v1 v3 v4 (by omega) af.es.length (gd:=bi++af.es.drop bi.length)
  (by rw[List.take_zero,List.nil_append,dF];exact(dT (by simp;omega)).symm)
 simp only[Nat.zero_mul,dF,List.take_zero,List.nil_append] at qZ nn;have aF:=run_firstCells_some (P:=P) w i.size bi.length ⟨dZ,off,none⟩ bi.length c vs (by rw[v1,ev]) v2;have kQ:=run_storeCells_at P b 0 la vs 0 b6 w bB (by simpa using qZ) v3;simp only[Nat.add_zero,List.take_zero,List.nil_append,dF] at kQ;refine⟨bi.length,_,?_,nn,rfl⟩;simp[Builtin.copy_,run_underlying hu,sizeOf,typeInfo,ae,Builtin.lenOf,Nat.min_eq_left ia,aF,kQ]
theorem VX (h:cq g s al a w){r k len:Nat}{pA:Value}{t ef:TypeId}(ak:vP P s.aH r k len t=some bc)(b4:∀p∈bc.eX,p)
 (aa:Rel w (s.ok g al w) s.aW (s.a0 al) (.bK r k 0 len) pA) :
 ∃bx,(Builtin.clear_ #[t] ef #[pA]).run P w = .ok (.tuple #[]) bx/\cq g (s.hN bc.fz) al a bx/\bc.val = .cZ []:=by
 unfold vP at ak;split at ak
 ·simp at ak
 rename_i e he;have hu:=re he;split at ak;rotate_left
 ·simp at ak
 rename_i i z ae b5;split at ak
 ·simp at ak
 rename_i row cV;split at ak
 ·simp at ak
 rename_i af a5;split at ak;rotate_left
 ·simp at ak
 rename_i tk;obtain⟨mJ,ev,ls,iS⟩:=tk;simp only[dy] at ak;subst ak;have ai:s.af r k=some af:=by unfold S.af;rw[cV];exact a5
 have hle:af.es.length=len:=b4 _ (by simp);show ∃bx,_/\cq g (s.setRow r (row.set k {af with es:=List.replicate len z})) al a bx/\_;by_cases h0:len=0
 ·subst h0
  refine⟨w,?_,?_,rfl⟩
  ·rcases aa.r3 (hG ai) with ⟨-,-,-,rfl⟩|⟨b,M,gO,jH,-,rfl,-,-,-,-⟩
   ·simp[Builtin.clear_,run_underlying hu]
   cases gO<;>simp[Builtin.clear_,run_underlying hu]
  rw[show ({af with es:=List.replicate 0 z}:aM)=af by rw[List.replicate_zero,<- dK.1 hle],GG cV a5];exact h
 obtain⟨eM,ea,iC,jP,qY,sm⟩:=x5 b5;rw[ae] at iC;simp at iC;subst iC;have kB:ea.cells.size=i.size:=by rw[<- ls,qY];simp
 rcases aa.r3 (hG ai) with ⟨-,-,rfl,-⟩|⟨b,M,gO,jH,ah,rfl,p5,sl,dg,lv⟩
 ·exact absurd rfl h0
 have v8:gO=some ⟨b,0,none⟩:=by
  rcases lv with cf|cf
  ·exact absurd (show len=0 by omega) h0
  simpa using cf
 subst v8;obtain⟨v1,v3,v4⟩:=M9 (e:=e) kB ls iS sm len;rw[<- ev] at v1
 obtain⟨b6,la,bB,cF,l4,qZ,nn,-⟩:=h.putAt (p:=0) (bi:=List.replicate len z) cV ai mJ ah (fun x aa=>by rw[List.mem_replicate] at aa;rw[aa.2,ls,ev]) (by simpa using v1) v3 (fun j x u o J=>v4 j x u o J _ _ _ _)
  (by simp;omega) len (gd:=List.replicate len z)
  (by simp[hle])
 simp only[Nat.zero_mul,dF,List.take_zero,List.nil_append] at qZ nn;have kQ:=run_storeCells_at P b 0 la (Builtin.zeroCells ea.cells len).toList 0 b6 w bB (by simpa using qZ) v3;simp only[Nat.add_zero,List.take_zero,List.nil_append,dF] at kQ;refine⟨_,?_,nn,rfl⟩
 cases len with
 | zero=>exact absurd rfl h0
 | succ n=>simp[Builtin.clear_,run_underlying hu,zeroValue,typeInfo,ae,jP,kQ]
theorem Vn (h:cq g s al a w){r k bw len:Nat}{pA:Value}{t ef:TypeId}(ak:vD P s.aH r k bw len t=some bc)(b4:∀p∈bc.eX,p)
 (aa:Rel w (s.ok g al w) s.aW (s.a0 al) (.bK r k bw len) pA) :
 ∃bx,(Builtin.clear_ #[t] ef #[pA]).run P w = .ok (.tuple #[]) bx/\cq g (s.hN bc.fz) al a bx/\bc.val = .cZ []:=by
 unfold vD at ak;split at ak
 ·simp at ak
 rename_i e he;have hu:=re he;split at ak;rotate_left
 ·simp at ak
 rename_i i z ae b5;split at ak
 ·simp at ak
 rename_i row cV;split at ak
 ·simp at ak
 rename_i af a5;split at ak;rotate_left
 ·simp at ak
 rename_i tk;obtain⟨mJ,ev,ls,iS⟩:=tk;simp only[dy] at ak;subst ak;have ai:s.af r k=some af:=by unfold S.af;rw[cV];exact a5
 have hle:bw+len<=af.es.length:=b4 _ (by simp);show ∃bx,_/\cq g (s.setRow r (row.set k {af with es:=af.es.take bw++List.replicate len z++af.es.drop (bw+len)})) al a bx/\_;by_cases h0:len=0
 ·subst h0
  refine⟨w,?_,?_,rfl⟩
  ·rcases aa.r3 (hG ai) with ⟨-,-,-,rfl⟩|⟨b,M,gO,jH,-,rfl,-,-,-,-⟩
   ·simp[Builtin.clear_,run_underlying hu]
   cases gO<;>simp[Builtin.clear_,run_underlying hu]
  rw[show ({af with es:=af.es.take bw++List.replicate 0 z++af.es.drop (bw+0)}:aM)=af by rw[List.replicate_zero,List.append_nil,Nat.add_zero,List.take_append_drop],GG cV a5];exact h
 obtain⟨eM,ea,iC,jP,qY,sm⟩:=x5 b5;rw[ae] at iC;simp at iC;subst iC;have kB:ea.cells.size=i.size:=by rw[<- ls,qY];simp
 rcases aa.r3 (hG ai) with ⟨-,-,o,-⟩|⟨b,M,gO,jH,ah,rfl,p5,sl,dg,lv⟩
 ·exact absurd o h0
 have v8:gO=some ⟨b,bw*af.sz,none⟩:=by
  rcases lv with cf|cf
  ·exact absurd (show len=0 by omega) h0
  exact cf
 subst v8;obtain⟨v1,v3,v4⟩:=M9 (e:=e) kB ls iS sm len;rw[<- ev] at v1
 obtain⟨b6,la,bB,cF,l4,qZ,nn,-⟩:=h.putAt (p:=bw) (bi:=List.replicate len z) cV ai mJ ah (fun x aa=>by rw[List.mem_replicate] at aa;rw[aa.2,ls,ev]) (by simpa using v1) v3 (fun j x u o J=>v4 j x u o J _ _ _ _)
  (by simp;omega) (af.es.take bw++List.replicate len z++af.es.drop (bw+(List.replicate len z).length)).length (gd:=af.es.take bw++List.replicate len z++af.es.drop (bw+len))
  (by rw[dT (dE _),List.length_replicate])
 have kQ:=run_storeCells_at P b (bw*af.sz) la (Builtin.zeroCells ea.cells len).toList 0 b6 w bB (by simpa using qZ) v3;simp only[Nat.add_zero] at kQ;refine⟨_,?_,nn,rfl⟩
 cases len with
 | zero=>exact absurd rfl h0
 | succ n=>simp[Builtin.clear_,run_underlying hu,zeroValue,typeInfo,ae,jP,kQ]
end
section
variable {g:G} {s:S} {al:fj} {a:Act} {w:World}
def ll (row:List aM):List aM:=row.map fun I=>if I.cg = .live then {I with cg:= .iB} else I
theorem N5 (row:List aM)(k:Nat):cX (some (ll row)) k=(cX (some row) k).map fun I=>if I.cg = .live then {I with cg:= .iB} else I:=by
 simp only[cX,ll,dJ]
 cases row[k]? with
 | none=>rfl
 | some I =>
  obtain⟨sz,es,cg⟩:=I;cases cg<;>simp
theorem cq.freeze (h:cq g s al a w){r:Nat}{row:List aM}(aj:s.aH r=some row):cq g (s.setRow r (ll row)) al a w:=by
 have a5 : ∀q k I,(s.setRow r (ll row)).af q k=some I-> ∃p,s.af q k=some p/\I.sz=p.sz/\I.es=p.es/\(I.cg = .live->p.cg = .live/\q≠r):=by
  intro q k I ai;by_cases e:q=r
  ·subst e;have:(s.setRow q (ll row)).aH q=some (ll row):=(by simp[S.setRow]);unfold S.af at ai;rw[this,N5] at ai;rw[dN] at ai;obtain⟨p,ah,rfl⟩:=ai;refine⟨p,by unfold S.af;rw[aj];exact ah,?_⟩;split<;>simp_all
  have:(s.setRow r (ll row)).aH q=s.aH q:=(by simp[S.setRow,e]);unfold S.af at ai;rw[this] at ai;exact⟨I,ai,rfl,rfl,fun aF=>⟨aF,e⟩⟩
 have i4 : ∀q k,s.aW q k->(s.setRow r (ll row)).aW q k:=Dd s aj (by simp[ll])
 have kP : ∀q k,(s.setRow r (ll row)).a0 al q k=s.a0 al q k:=by
  intro q k;by_cases e:q=r
  ·subst e
   simp only[S.a0,S.af];have:(s.setRow q (ll row)).aH q=some (ll row):=(by simp[S.setRow]);rw[this,N5,aj]
   cases cX (some row) k with
   | none=>rfl
   | some I=>simp only[dQ,dy,dC,and_true];split<;>rfl
  have:(s.setRow r (ll row)).aH q=s.aH q:=(by simp[S.setRow,e]);simp[S.a0,S.af,this]
 have cO:Step g s al w (s.setRow r (ll row)) al w:=⟨i4,fun q k _=> .inl (kP q k),fun b aF=>by obtain⟨q,k,I,m,o,J,ab⟩:=aF;obtain⟨p,gN,hQ,nm,Cl⟩:=a5 q k I o;exact .inl ⟨q,k,p,m,gN,(Cl J).1,ab⟩,fun _ _ _=>rfl,dE _⟩;refine {toh3:=⟨?_,?_,?_,h.gZ,h.mlt,h.m9,?_,h.low⟩,env:=fun t=>cO.rel (h.env t),defers:=h.defers,jj:=h.jj}
 ·intro q k I ai
  obtain⟨p,gN,hQ,nm,-⟩:=a5 q k I ai;have ah:=cO.obj (fun b m _=>rfl) (h.obj q k p gN)
  cases kD:al q k with
  | none=>rw[kD] at ah;simp only[iJ] at ah ⊢;rw[nm];exact ah
  | some x =>
   obtain⟨b,m⟩:=x;rw[kD] at ah;obtain⟨c,ef,ao,aB,bT,di⟩:=ah;exact⟨c,ef,ao,aB,by rw[hQ,nm];exact bT,by rw[nm];exact di⟩
 ·intro q k I hC dn bX b m aU o J ab aA;obtain⟨p,gN,-⟩:=a5 q k I o;obtain⟨jS,aaM,-⟩:=a5 hC dn bX J;exact h.inj q k p hC dn jS b m aU gN aaM ab aA
 ·intro q k I b m o J;obtain⟨p,gN,-⟩:=a5 q k I o;exact h.own q k p b m gN J
 intro j k av;obtain⟨ao,aB⟩:=h.stay j k av;exact⟨i4 j k ao,by rw[kP];exact aB⟩
end
def yy (P:Program)(t:TypeId):Bool :=
 match P.underlying t with
 | some (.pointer _)=>true
 | _=>false
def y4 (P:Program)(E:Nat->an)(aH:Nat->Option (List aM))(aR:Nat)(I:Oper)(cr:eG):Option gM :=
 match I.op with
 | .call {callee:= .builtin b,args,argTypes}=>match b with
  | .len=>et P E aH aR I cr
  | b=>ry P E aH aR b (args.toList.map (eh E)) argTypes.toList cr
 | .binOp op t x y _=>match cr,op,eh E x,eh E y with
  | .df,.eql,.isl _ es,.fq=>if (ph P t).isSome then some {val:= .b false,eX:=[es≠[]]} else none
  | .df,.neq,.isl _ es,.fq=>if (ph P t).isSome then some {val:= .b true,eX:=[es≠[]]} else none
  | .df,.eql,.eW _ none,.h2=>if yy P t then some {val:= .b true} else none
  | .df,.neq,.eW _ none,.h2=>if yy P t then some {val:= .b false} else none
  | .df,.eql,.eW _ (some _),.h2=>if yy P t then some {val:= .b false} else none
  | .df,.neq,.eW _ (some _),.h2=>if yy P t then some {val:= .b true} else none
  | .df,_,_,_=>none
  | _,_,_,_=>et P E aH aR I cr
 | .nilCheck x=>match cr,eh E x with
  | .df,.eW sz (some c)=>some {val:= .e4 sz [c] 0 0}
  | .df,_=>none
  | _,_=>et P E aH aR I cr
 | _=>et P E aH aR I cr
section
variable {P:Program} {g:G} {s:S} {al:fj} {a:Act} {w:World} {I:Oper} {cr:eG} {aR:Nat} {bc:gM}
theorem AJ {args:Array Operand}{E:Nat->an}{x y:an}(h:args.toList.map (eh E)=[x,y]): ∃p q,args = #[p,q]/\eh E p=x/\eh E q=y:=by
 obtain⟨l⟩:=args
 match l,h with
 | [p,q],h=>simp at h;exact⟨p,q,rfl,h.1,h.2⟩
theorem OJ {args:Array Operand}{E:Nat->an}{x:an}(h:args.toList.map (eh E)=[x]): ∃p,args = #[p]/\eh E p=x:=by
 obtain⟨l⟩:=args
 match l,h with
 | [p],h=>simp at h;exact⟨p,rfl,h⟩
theorem Dv {t:TypeId}(h:yy P t=true): ∃e,P.underlying t=some (.pointer e):=by
 unfold yy at h;split at h
 ·rename_i e he;exact⟨e,he⟩
 simp at h
theorem VY (h:cq g s al a w)(ey:s.aH aR=none)(ak:y4 P s.E s.aH aR I cr=some bc)(b4:∀p∈bc.eX,p):Fin P g s a w I bc:=by
 unfold y4 at ak;split at ak
 ·rename_i b args lY ai
  split at ak
  ·exact Du h ey ak b4
  rename_i b aN;unfold ry at ak;split at ak
  ·rename_i x y t cW m J3 hargs lo;have rk:ry P s.E s.aH aR .append [x,y] [t,cW] (.a1 m J3)=some bc:=ak;obtain⟨p,q,rfl,rfl,rfl⟩:=AJ hargs;obtain⟨l⟩:=lY;simp only at lo;subst lo;obtain⟨v,bx,bG,o,J,ab⟩:=Vm (ef:=I.type) h ey rk b4 (h.eval p) (h.eval q);exact⟨v,bx,bG,.inl (by simp[execOp,ai,resolve,invoke,builtin,o]),J,ab⟩
  ·rename_i x y t cW hargs lo;have rk:td false P s.aH x y t cW=some bc:=ak;obtain⟨p,q,rfl,rfl,rfl⟩:=AJ hargs;obtain⟨l⟩:=lY;simp only at lo;subst lo;obtain⟨v,bx,o,J,ab⟩:=OI (ef:=I.type) h rk b4 (h.eval p) (h.eval q);exact⟨v,bx,al,.inl (by simp[execOp,ai,resolve,invoke,builtin,o]),J,ab⟩
  ·rename_i x y t cW hargs lo;have rk:td true P s.aH x y t cW=some bc:=ak;obtain⟨p,q,rfl,rfl,rfl⟩:=AJ hargs;obtain⟨l⟩:=lY;simp only at lo;subst lo;obtain⟨v,bx,o,J,ab⟩:=OI (ef:=I.type) h rk b4 (h.eval p) (h.eval q);exact⟨v,bx,al,.inl (by simp[execOp,ai,resolve,invoke,builtin,o]),J,ab⟩
  ·rename_i cr r k len y t cW hargs lo;have rk:ry P s.E s.aH aR .copy [.bK r k 0 len,y] [t,cW] cr=some bc:=ak;obtain⟨p,q,rfl,ah,rfl⟩:=AJ hargs;obtain⟨l⟩:=lY;simp only at lo;subst lo;have aa:=h.eval p;rw[ah] at aa;obtain⟨n,bx,o,J,ab⟩:=WL (ef:=I.type) h rk b4 aa (h.eval q);refine⟨goInt n,bx,al,.inl (by simp[execOp,ai,resolve,invoke,builtin,o]),J,?_⟩;rw[ab];exact .n _ _
  ·rename_i r k bw len t hargs lo;have rk:vD P s.aH r k bw len t=some bc:=ak;obtain⟨p,rfl,ah⟩:=OJ hargs;obtain⟨l⟩:=lY;simp only at lo;subst lo;have aa:=h.eval p;rw[ah] at aa;obtain⟨bx,o,J,ab⟩:=Vn (ef:=I.type) h rk b4 aa;refine⟨.tuple #[],bx,al,.inl (by simp[execOp,ai,resolve,invoke,builtin,o]),J,?_⟩;rw[ab];exact .cZ [] rfl (fun j x u av=>by simp at av)
  ·rename_i r k len t hargs lo _;have rk:vP P s.aH r k len t=some bc:=ak;obtain⟨p,rfl,ah⟩:=OJ hargs;obtain⟨l⟩:=lY;simp only at lo;subst lo;have aa:=h.eval p;rw[ah] at aa;obtain⟨bx,o,J,ab⟩:=VX (ef:=I.type) h rk b4 aa;refine⟨.tuple #[],bx,al,.inl (by simp[execOp,ai,resolve,invoke,builtin,o]),J,?_⟩;rw[ab];exact .cZ [] rfl (fun j x u av=>by simp at av)
  ·rename_i k x dn y hargs
   split at ak
   ·rename_i aQ;simp only[dy] at ak;subst ak;subst aQ;obtain⟨p,q,rfl,ah,a2⟩:=AJ hargs;have aa:=h.eval p;have aP:=h.eval q;rw[ah] at aa;rw[a2] at aP;refine hL (v:= .int k (if y<x then y else x)) h ?_ rfl (.n _ _);simp[execOp,ai,resolve,invoke,builtin,Builtin.min_,aa.n6,aP.n6,Builtin.min2]
   simp at ak
  simp at ak
 ·rename_i op t x y cW ai
  split at ak
  ·rename_i sz es aa aP
   split at ak
   ·rename_i he;obtain⟨e,he⟩:=Option.isSome_iff_exists.1 he;simp only[dy] at ak;subst ak;have o:=h.eval x;have J:=h.eval y;rw[aa] at o;rw[aP] at J;have cx:es≠[]:=b4 _ (by simp);refine hL (v:= .bool false) h ?_ rfl (.b _);simp only[execOp,ai];rw[Sem.run_bind,(Pf (w:=w) (re he) cx o J x y).1];rfl
   simp at ak
  ·rename_i sz es aa aP
   split at ak
   ·rename_i he;obtain⟨e,he⟩:=Option.isSome_iff_exists.1 he;simp only[dy] at ak;subst ak;have o:=h.eval x;have J:=h.eval y;rw[aa] at o;rw[aP] at J;have cx:es≠[]:=b4 _ (by simp);refine hL (v:= .bool true) h ?_ rfl (.b _);simp only[execOp,ai];rw[Sem.run_bind,(Pf (w:=w) (re he) cx o J x y).2];rfl
   simp at ak
  ·rename_i sz aa aP
   split at ak
   ·rename_i ch;obtain⟨e,he⟩:=Dv ch;simp only[dy] at ak;subst ak;have o:=h.eval x;have J:=h.eval y;rw[aa] at o;rw[aP] at J;have ur:Rel w (s.ok g al w) s.aW (s.a0 al) .h2 (a.eval x):=(by rw[o.N2];exact .h2);refine hL (v:= .bool true) h ?_ rfl (.b _);simp only[execOp,ai];rw[Sem.run_bind,(yi (w:=w) (r:=true) (by simp[sk,he]) ur J x y).1];rfl
   simp at ak
  ·rename_i sz aa aP
   split at ak
   ·rename_i ch;obtain⟨e,he⟩:=Dv ch;simp only[dy] at ak;subst ak;have o:=h.eval x;have J:=h.eval y;rw[aa] at o;rw[aP] at J;have ur:Rel w (s.ok g al w) s.aW (s.a0 al) .h2 (a.eval x):=(by rw[o.N2];exact .h2);refine hL (v:= .bool false) h ?_ rfl (.b _);simp only[execOp,ai];rw[Sem.run_bind,(yi (w:=w) (r:=true) (by simp[sk,he]) ur J x y).2];rfl
   simp at ak
  ·rename_i sz c aa aP
   split at ak
   ·rename_i ch;obtain⟨e,he⟩:=Dv ch;simp only[dy] at ak;subst ak;have o:=h.eval x;have J:=h.eval y;rw[aa] at o;rw[aP] at J;refine hL (v:= .bool false) h ?_ rfl (.b _);simp only[execOp,ai];rw[Sem.run_bind,(yi (w:=w) (r:=false) (by simp[sk,he]) o.Hc J x y).1];rfl
   simp at ak
  ·rename_i sz c aa aP
   split at ak
   ·rename_i ch;obtain⟨e,he⟩:=Dv ch;simp only[dy] at ak;subst ak;have o:=h.eval x;have J:=h.eval y;rw[aa] at o;rw[aP] at J;refine hL (v:= .bool true) h ?_ rfl (.b _);simp only[execOp,ai];rw[Sem.run_bind,(yi (w:=w) (r:=false) (by simp[sk,he]) o.Hc J x y).2];rfl
   simp at ak
  ·simp at ak
  exact Du h ey ak b4
 ·rename_i x ai
  split at ak
  ·rename_i sz c aa;simp only[dy] at ak;subst ak;have o:=h.eval x;rw[aa] at o;have J:=o.Hc;obtain⟨dZ,off,aN,hval,ie⟩:=J.yp;refine hL (v:=a.eval x) h ?_ rfl J;rw[hval];simp only[execOp,ai,hval];rfl
  ·simp at ak
  exact Du h ey ak b4
 exact Du h ey ak b4
end
theorem sH {es:List (List an)}{j:Nat}{x:an}(h:es.flatten[j]? = some x): ∃e∈es,x∈e:=by have:=dG h;rw[List.mem_flatten] at this;obtain⟨e,he,aa⟩:=this;exact⟨e,he,aa⟩
theorem Rel.pure {w:World}{ok kl:Nat->Prop}{aW mD:iY}{a0 lV:iP}{x:an}{v:Value}(h:Rel w ok aW a0 x v)(ah:Pure x)(mE:∀b,ok b->kl b):Rel w kl mD lV x v:=by
 induction h with
 | dead v=>exact .dead v
 | b x=>exact .b x
 | n k x=>exact .n k x
 | s x=>exact .s x
 | h2=>exact .h2
 | fq=>exact .fq
 | ic a c=>exact .ic a c
 | pN=>cases ah
 | ref=>cases ah
 | m2=>cases ah
 | nt=>cases ah
 | bK=>cases ah
 | mx=>cases ah
 | nA=>cases ah
 | jC sz a c h=>exact .jC sz a c h
 | isl cs aN lx aF aL hw hy aj ih =>
  cases ah with
  | isl h=>exact .isl cs (mE _ aN) lx aF aL hw hy fun j x aa=>ih j x aa (by obtain⟨e,he,qN⟩:=sH aa;exact h e he x qN)
 | e4 cs aN lx aF hw hy aj ih =>
  cases ah with
  | e4 h=>exact .e4 cs (mE _ aN) lx aF hw hy fun j x aa=>ih j x aa (by obtain⟨e,he,qN⟩:=sH aa;exact h e he x qN)
 | pk sz=>exact .pk sz
 | oN h ih =>
  cases ah with
  | oN ah=>exact .oN (ih (.e4 fun e he x aa=>by rw[List.mem_singleton] at he;subst he;exact ah x aa))
 | agg vs aF hy aj ih =>
  cases ah with
  | agg h=>exact .agg vs aF hy fun j x v aa aZ=>ih j x v aa aZ (h x (dG aa))
 | cZ vs aF aj ih =>
  cases ah with
  | cZ h=>exact .cZ vs aF fun j x v aa aZ=>ih j x v aa aZ (h x (dG aa))
 | fn vs aF aj ih =>
  cases ah with
  | fn h=>exact .fn vs aF fun j x v aa aZ=>ih j x v aa aZ (h x (dG aa))
abbrev gC:=Nat->Nat->Option (Nat×Nat)
structure Down (q:an->Prop):Prop where
 agg : ∀c x,q (.agg c)->x∈c->q x
 cZ : ∀c x,q (.cZ c)->x∈c->q x
 fn : ∀f c x,q (.fn f c)->x∈c->q x
inductive hD (s:S) (aO:gC) (bI:fZ->Bool) (q:an->Prop):an->an->Prop
 | dead (x:an):hD s aO bI q x .dead
 | pure {x:an} (h:Pure x) (a2:q x):hD s aO bI q x x
 | fq (sz:Nat):hD s aO bI q .fq (.isl sz [])
 | ic (sz:Nat):hD s aO bI q .ic (.isl sz [])
 | Eh (sz:Nat):hD s aO bI q .h2 (.eW sz none)
 | eW {sz:Nat} {x:an} {c:List an} (h:hD s aO bI q x (.e4 sz [c] 0 0)):hD s aO bI q x (.eW sz (some c))
 | ref {r k j eM:Nat} (i off:Nat) (h:aO j eM=some (r,k)) (hu:s.aW r k):hD s aO bI q (.ref r k i off) (.ref j eM i off)
 | bK {r k j eM:Nat} (bw len:Nat) (h:aO j eM=some (r,k)) (hu:s.aW r k):hD s aO bI q (.bK r k bw len) (.bK j eM bw len)
 | mx (r c sz:Nat):hD s aO bI q (.iA r c sz none) (.isl sz [])
 | nA {r c sz k n:Nat} {cA:an} (h:hD s aO bI q (.bK r (k+c) 0 n) cA):hD s aO bI q (.iA r c sz (some (k,n))) cA
 | iA {r ep c dW sz:Nat} (h:Option (Nat×Nat)) (hm : ∀k,aO ep (k+dW)=some (r,k+c)):hD s aO bI q (.iA r c sz h) (.iA ep dW sz h)
 | e4 {r k:Nat} {I:aM} {gd:List (List an)} (i off:Nat) (ai:s.af r k=some I) (bA:bI I.cg=true) (aj:(∀j i,aO j i≠some (r,k))) (cx:I.es≠[]) (ah:ht gd) (hle : ∀e∈gd,e.length=I.sz) (aF:gd.length=I.es.length)
  (h : ∀(j:Nat) x cA,I.es.flatten[j]? = some x->gd.flatten[j]? = some cA->hD s aO bI q x cA):hD s aO bI q (.ref r k i off) (.e4 I.sz gd i off)
 | isl {r k bw len:Nat} {I:aM} {gd:List (List an)} (ai:s.af r k=some I) (bA:bI I.cg=true) (aj:(∀j i,aO j i≠some (r,k))) (ia:bw+len<=I.es.length) (ah:ht gd) (hle : ∀e∈gd,e.length=I.sz) (aF:gd.length=len)
  (h : ∀(j:Nat) x cA,((I.es.drop bw).take len).flatten[j]? = some x->gd.flatten[j]? = some cA->hD s aO bI q x cA):hD s aO bI q (.bK r k bw len) (.isl I.sz gd)
 | agg {c dW:List an} (aF:dW.length=c.length) (h : ∀(j:Nat) x cA,c[j]? = some x->dW[j]? = some cA->hD s aO bI q x cA):hD s aO bI q (.agg c) (.agg dW)
 | cZ {c dW:List an} (aF:dW.length=c.length) (h : ∀(j:Nat) x cA,c[j]? = some x->dW[j]? = some cA->hD s aO bI q x cA):hD s aO bI q (.cZ c) (.cZ dW)
 | fn {f:Nat} {c dW:List an} (aF:dW.length=c.length) (h : ∀(j:Nat) x cA,c[j]? = some x->dW[j]? = some cA->hD s aO bI q x cA):hD s aO bI q (.fn f c) (.fn f dW)
theorem rX {sz:Nat}: ∀(es:List (List an)),(∀e∈es,e.length=sz)->es.flatten.length=es.length*sz
 | [],_=>by simp
 | e::es,h=>by rw[afb,dH,rX es fun x aa=>h x (by simp[aa]),h e (by simp),dM,Nat.add_mul];omega
theorem fN {α:Type}{l:List α}{j:Nat}{x:α}(h:l[j]? = some x):j<l.length:=by
 rcases Nat.lt_or_ge j l.length with cf|cf
 ·exact cf
 rw[dP cf] at h;simp at h
theorem hD.rel {g:G}{s:S}{al:fj}{w:World}{aO:gC}{bI:fZ->Bool}{q:an->Prop}(dg:h3 g s al w){kl:Nat->Prop}{mD:iY}{lV:iP}
 (H1 : ∀x v,q x->Pure x->Rel w (s.ok g al w) s.aW (s.a0 al) x v->Rel w kl mD lV x v)
 (Fl : ∀r k I b m,s.af r k=some I->bI I.cg=true->(∀j i,aO j i≠some (r,k))->al r k=some (b,m)->kl b)
 (Cm : ∀j i r k,aO j i=some (r,k)->s.aW r k->mD j i/\(lV j i=s.a0 al r k\/lV j i=none)) {x cA:an} (bO:hD s aO bI q x cA) :
 ∀ {v:Value},Rel w (s.ok g al w) s.aW (s.a0 al) x v->Rel w kl mD lV cA v:=by
 induction bO with
 | dead x=>intro v _;exact .dead v
 | pure ah a2=>intro v aj;exact H1 _ v a2 ah aj
 | fq sz=>intro v aj;rw[aj.pM];exact .jC sz none 0 (fun _=>rfl)
 | ic sz=>intro v aj;obtain⟨a,c,rfl⟩:=aj.DS;exact .jC sz (some a) c (fun h=>by simp at h)
 | Eh sz=>intro v aj;rw[aj.vg];exact .pk sz
 | eW h ih=>intro v aj;exact .oN (ih aj)
 | @ref r k j eM i off av hu =>
  intro v aj;obtain⟨o,J⟩:=Cm j eM r k av hu
  cases aj with
  | pN a od aV =>
   refine .pN a o fun sz p=> ?_;rcases J with e|e<;>rw[e]
   ·exact aV sz p
   simp
  | ref od ch =>
   rcases J with e|e
   ·exact .ref o (e.trans ch)
   exact .pN _ o fun sz p=>by rw[e];simp
 | @bK r k j eM bw len av hu =>
  intro v aj;obtain⟨o,J⟩:=Cm j eM r k av hu
  cases aj with
  | m2 a l c od aV =>
   refine .m2 a l c o ?_;rcases J with e|e<;>rw[e];exact aV
  | nt od ch =>
   rcases J with e|e
   ·exact .nt o (e.trans ch)
   exact .m2 _ _ _ o e
  | bK od ch aF aL hm =>
   rcases J with e|e
   ·exact .bK o (e.trans ch) aF aL hm
   exact .m2 _ _ _ o e
 | mx r c sz =>
  intro v aj
  cases aj with
  | mx h0 =>
   rcases h0.sR with ⟨-,a,c,rfl,bA⟩|⟨dZ,off,c,-,rfl,-⟩
   ·exact .jC sz a c bA
   exact .jC sz _ c (fun h=>by simp at h)
 | nA h ih =>
  intro v aj
  cases aj with
  | nA h0=>exact ih h0
 | @iA r ep c dW sz h hm =>
  intro v aj
  cases aj with
  | mx h0 =>
   rcases h0.sR with ⟨-,a,c,rfl,bA⟩|⟨dZ,off,c,-,rfl,-⟩
   ·exact .mx (.jC sz a c bA)
   exact .mx (.jC sz _ c (fun h=>by simp at h))
  | @nA _ _ _ k n _ h0 =>
   refine .nA ?_
   cases h0 with
   | m2 a l bB od aV =>
    obtain⟨o,J⟩:=Cm _ _ _ _ (hm k) od;refine .m2 a l bB o ?_;rcases J with e|e<;>rw[e];exact aV
   | nt od ch =>
    obtain⟨o,J⟩:=Cm _ _ _ _ (hm k) od;rcases J with e|e
    ·exact .nt o (e.trans ch)
    exact .m2 _ _ _ o e
   | bK od ch aF aL lv =>
    obtain⟨o,J⟩:=Cm _ _ _ _ (hm k) od;rcases J with e|e
    ·exact .bK o (e.trans ch) aF aL lv
    exact .m2 _ _ _ o e
 | @e4 r k I gd i off ai bA aj cx I2 hle aF h ih =>
  intro v aZ;have eC:=dg.obj r k I ai;rcases aZ.vm (hG ai) with h0|⟨b,m,ah,hval⟩
  ·rw[h0] at eC;exact absurd eC cx
  rw[ah] at eC;have ie:=eC.rd;rw[hval];have jg:gd.flatten.length=I.es.flatten.length:=(by rw[rX gd hle,rX I.es ie.1,aF]);have vQ:oo w kl mD lV b 0 I.sz gd:=(by refine⟨hle,fun j cA dl=> ?_⟩;have dq:j<I.es.flatten.length:=(by rw[<- jg];exact fN dl);have aa:I.es.flatten[j]? = some I.es.flatten[j]:=dx dq;obtain⟨u,ao,aB,bT⟩:=ie.2 j _ aa;exact⟨u,ao,aB,ih j _ cA aa dl bT⟩);have:=vQ.e4 (i:=i) (off:=off) ⟨Fl r k I b m ai bA aj ah,I2⟩;rw[dF] at this;exact this
 | @isl r k bw len I gd ai bA aj ia I2 hle aF h ih =>
  intro v aZ;have eC:=dg.obj r k I ai;rcases aZ.AH (hG ai) with ⟨ah,rfl,rfl,hval⟩|⟨b,m,A,c,ah,hval,p5,sl,hm⟩
  ·have:gd=[]:=dK.1 aF;subst this;rw[hval];exact .jC _ none 0 (fun _=>rfl)
  rw[ah] at eC;rw[hval];rcases Nat.eq_zero_or_pos len with h0|iS
  ·subst h0;have:gd=[]:=dK.1 aF;subst this;exact .jC _ A c (fun aV=>by rcases hm with o|⟨o,-⟩<;>simp_all)
  rcases hm with hm|⟨hA,hm⟩
  ·omega
  subst hA;have ie:=De eC.rd bw len (by omega);rw[dF] at ie;have jg:gd.flatten.length=((I.es.drop bw).take len).flatten.length:=(by rw[rX gd hle,rX _ ie.1,aF,List.length_take,List.length_drop,Nat.min_eq_left (by omega)]);have vQ:oo w kl mD lV b (bw*I.sz) I.sz gd:=(by refine⟨hle,fun j cA dl=> ?_⟩;have dq:j<((I.es.drop bw).take len).flatten.length:=(by rw[<- jg];exact fN dl);have aa:=dx dq;obtain⟨u,ao,aB,bT⟩:=ie.2 j _ aa;exact⟨u,ao,aB,ih j _ cA aa dl bT⟩);have:=vQ.isl (c:=c) ⟨Fl r k I b m ai bA aj ah,I2⟩ (by omega);rw[aF] at this;exact this
 | @agg c dW aF h ih =>
  intro v aZ;obtain⟨vs,rfl,o,J,ab⟩:=aZ.yn;refine .agg vs (by omega) J fun j cA u dl hu=> ?_;have dq:j<c.length:=(by have:=fN dl;omega);exact ih j _ cA (dx dq) dl (ab j _ u (dx dq) hu)
 | @cZ c dW aF h ih =>
  intro v aZ;obtain⟨vs,rfl,o,ab⟩:=aZ.yo;refine .cZ vs (by omega) fun j cA u dl hu=> ?_;have dq:j<c.length:=(by have:=fN dl;omega);exact ih j _ cA (dx dq) dl (ab j _ u (dx dq) hu)
 | @fn f c dW aF h ih =>
  intro v aZ;obtain⟨vs,rfl,o,ab⟩:=aZ.D6;refine .fn vs (by omega) fun j cA u dl hu=> ?_;have dq:j<c.length:=(by have:=fN dl;omega);exact ih j _ cA (dx dq) dl (ab j _ u (dx dq) hu)
structure oe (s:S) (aO:gC) (bI:fZ->Bool) (q:an->Prop) (I bX:aM):Prop where
 sz:bX.sz=I.sz
 cg:bX.cg=I.cg\/(bX.cg = .iB/\I.cg = .live)\/bX.cg = .gone
 len:bX.es.length=I.es.length
 each : ∀e∈bX.es,e.length=I.sz
 at_ : ∀(j:Nat) x cA,I.es.flatten[j]? = some x->bX.es.flatten[j]? = some cA->hD s aO bI q x cA
structure p8 (s:S) (aO:gC) (bI:fZ->Bool) (q:an->Prop) (gn:Nat->Option (List aM)):Prop where
 inj : ∀j i hP eM p,aO j i=some p->aO hP eM=some p->j=hP/\i=eM
 at_ : ∀j i bX,cX (gn j) i=some bX-> ∃r k I,aO j i=some (r,k)/\s.af r k=some I/\oe s aO bI q I bX
 aW : ∀j i r k,aO j i=some (r,k)->s.aW r k->i<((gn j).getD []).length
def jk (al:fj)(aO:gC):fj:=fun j i=>match aO j i with
 | some (r,k)=>al r k
 | none=>none
theorem yz {al:fj}{aO:gC}{j i r k:Nat}(h:aO j i=some (r,k)):jk al aO j i=al r k:=by simp[jk,h]
def ly (_:an):Prop:=True
theorem Zl:Down ly:=⟨fun _ _ _ _=>trivial,fun _ _ _ _=>trivial,fun _ _ _ _ _=>trivial⟩
section
variable {g:G} {s:S} {al:fj} {w:World} {aO:gC} {bI:fZ->Bool} {q:an->Prop} {bH:S}
theorem p8.af (h:p8 s aO bI q bH.aH){j i:Nat}{bX:aM}(ai:bH.af j i=some bX): ∃r k I,aO j i=some (r,k)/\s.af r k=some I/\oe s aO bI q I bX:=h.at_ j i bX ai
theorem OK {I bX:aM}(h:oe s aO bI q I bX)(aF:bX.cg = .live):I.cg = .live:=by
 rcases h.cg with e|⟨e,-⟩|e
 ·exact e.symm.trans aF
 ·rw[e] at aF;simp at aF
 rw[e] at aF;simp at aF
theorem p8.live (h:p8 s aO bI q bH.aH)(b:Nat)(aF:bH.lk (jk al aO) b): ∃r k I m,s.af r k=some I/\I.cg = .live/\al r k=some (b,m)/\ ∃j i,aO j i=some (r,k):=by obtain⟨j,i,bX,m,o,J,ab⟩:=aF;obtain⟨r,k,I,ao,aB,bT⟩:=h.af o;rw[yz ao] at ab;exact⟨r,k,I,m,aB,OK bT J,ab,j,i,ao⟩
theorem p8.EN (h:p8 s aO bI q bH.aH){j i r k:Nat}(av:aO j i=some (r,k)):bH.a0 (jk al aO) j i=s.a0 al r k\/bH.a0 (jk al aO) j i=none:=by
 cases ai:bH.af j i with
 | none=>right;simp[S.a0,ai]
 | some bX =>
  obtain⟨ep,dn,I,ao,aB,bT⟩:=h.af ai;rw[av] at ao;simp only[dy,dC] at ao;obtain⟨rfl,rfl⟩:=ao;left;rw[hG ai,hG aB,bT.sz,yz av]
theorem h3.J4 (dg:h3 g s al w)(h:p8 s aO bI q bH.aH){fK:G}(aQ:Bi fK w)(A2:∀j k,fK.oU j k->bH.aW j k/\(bH.a0 (jk al aO) j k=fK.rs j k\/bH.a0 (jk al aO) j k=none))(Is:∀j k,fK.oU j k->j<fK.m)
 (ZT : ∀b,fK.px b->b<fK.mn.heap.size) (halt : ∀b,fK.A b->b<fK.mn.heap.size)
 (It : ∀r k I b m,(∃j i,aO j i=some (r,k))->s.af r k=some I->al r k=some (b,m)->fK.mn.heap.size<=b\/fK.px b)
 (H1 : ∀b,s.ok g al w b->bH.ok fK (jk al aO) w b)
 (Fl : ∀r k I b m,s.af r k=some I->bI I.cg=true->(∀j i,aO j i≠some (r,k))->al r k=some (b,m)->bH.ok fK (jk al aO) w b) :
 h3 fK bH (jk al aO) w/\ ∀ {x cA:an} {v:Value},hD s aO bI q x cA->Rel w (s.ok g al w) s.aW (s.a0 al) x v->Rel w (bH.ok fK (jk al aO) w) bH.aW (bH.a0 (jk al aO)) cA v:=by
 have eC : ∀ {x cA:an} {v:Value},hD s aO bI q x cA->Rel w (s.ok g al w) s.aW (s.a0 al) x v->Rel w (bH.ok fK (jk al aO) w) bH.aW (bH.a0 (jk al aO)) cA v :=
  fun bO aj=>bO.rel dg (fun x v _ ah aj=>aj.pure ah H1) Fl (fun j i r k av hu=>⟨h.aW j i r k av hu,h.EN av⟩) aj
 refine⟨⟨?_,?_,?_,aQ,ZT,halt,A2,Is⟩,eC⟩
 ·intro j k bX du
  obtain⟨r,dn,I,ao,aB,bT⟩:=h.af du;have a5:=dg.obj r dn I aB;rw[yz ao]
  cases ah:al r dn with
  | none =>
   rw[ah] at a5;simp only[iJ] at a5 ⊢;apply dK.1;rw[bT.len,a5];rfl
  | some q =>
   obtain⟨b,m⟩:=q;rw[ah] at a5;obtain⟨c,ef,o,J,ab,aA⟩:=a5;have jg:bX.es.flatten.length=I.es.flatten.length:=(by rw[rX _ bT.each,rX _ ab,bT.len]);refine⟨c,ef,o,J,by rw[bT.sz];exact bT.each,fun i cA dl=> ?_⟩;have dq:i<I.es.flatten.length:=(by rw[<- jg];exact fN dl);have aa:=dx dq;obtain⟨u,f1,f2,f3⟩:=aA i _ aa;exact⟨u,f1,f2,eC (bT.at_ i _ cA aa dl) f3⟩
 ·intro j k I hP dn bX b m aU o J ab aA;obtain⟨r,jU,p,ao,aB,-⟩:=h.af o;obtain⟨ep,aaN,jS,mI,pr,-⟩:=h.af J;rw[yz ao] at ab;rw[yz mI] at aA;obtain⟨rfl,rfl⟩:=dg.inj r jU p ep aaN jS b m aU aB pr ab aA;exact h.inj _ _ _ _ _ ao mI
 intro j k I b m o J;obtain⟨r,jU,p,ao,aB,-⟩:=h.af o;rw[yz ao] at J;exact It r jU p b m ⟨j,k,ao⟩ aB J
theorem cq.OL {a:Act}(h:cq g s al a w)(cv:p8 s aO (fun _=>true) q bH.aH)(d1:∀t,hD s aO (fun _=>true) q (s.E t) (bH.E t))(Bt:∀j k,g.oU j k->aO j k=some (j,k)):cq g bH (jk al aO) a w:=by
 have hc : ∀b,bH.lk (jk al aO) b->s.lk al b:=fun b aF=>by obtain⟨r,k,I,m,o,J,ab,-⟩:=cv.live b aF;exact⟨r,k,I,m,o,J,ab⟩
 have A2 : ∀j k,g.oU j k->bH.aW j k/\(bH.a0 (jk al aO) j k=g.rs j k\/bH.a0 (jk al aO) j k=none):=by
  intro j k av;obtain⟨ao,aB⟩:=h.stay j k av;refine⟨cv.aW j k j k (Bt j k av) ao,?_⟩;rcases cv.EN (al:=al) (Bt j k av) with e|e
  ·rw[e];exact aB
  exact .inr e
 obtain⟨o,J⟩:=h.toh3.J4 cv h.gZ A2 h.low h.mlt h.m9 (fun r k I b m _ ai ah=>h.own r k I b m ai ah)
  (fun b aN=>⟨aN.1,aN.2.1,fun aF=>aN.2.2 (hc b aF)⟩)
  (fun r k I b m ai _ aj ah=>by
    have a5:=h.obj r k I ai;rw[ah] at a5;obtain⟨c,ef,ao,-⟩:=a5;refine⟨(afj.1 ao).1,?_,fun aF=> ?_⟩
    ·rcases h.own r k I b m ai ah with e|e
     ·exact .inr (.inl e)
     exact .inr (.inr e)
    obtain⟨ep,dn,bX,aU,f1,f2,f3,⟨uF,tE,f4⟩⟩:=cv.live b aF;obtain⟨rfl,rfl⟩:=h.inj r k I ep dn bX b m aU ai f1 ah f3;exact aj uF tE f4)
 exact {toh3:=o,env:=fun t=>J (d1 t) (h.env t),defers:=h.defers,jj:=h.jj}
end
def eL (T:List (List aM)):S:={E:=fun _=> .dead,aH:=fun r=>T[r]?}
def Zm (P:Program)(f:FuncId)(args:List an)(T:List (List aM))(r:an)(i9:List (List aM)):Prop :=
 ∀(g:G) (al:fj) (w:World) (vs:Array Value),g.mn=w->g.m=T.length->g.oU=(eL T).aW->g.rs=(eL T).a0 al->h3 g (eL T) al w->vs.size=args.length ->
  (∀(j:Nat) x v,args[j]? = some x->vs[j]? = some v->Rel w ((eL T).ok g al w) (eL T).aW ((eL T).a0 al) x v) ->
  Calls P f vs w fun e bx=> ∃v bG,e = .returned v/\h3 g (eL i9) bG bx/\Rel bx ((eL i9).ok g bG bx) (eL i9).aW ((eL i9).a0 bG) r v
inductive ck:an->Prop
 | dead:ck .dead
 | b (x:Bool):ck (.b x)
 | n (k:IntKind) (x:Int):ck (.n k x)
 | s (x:ByteArray):ck (.s x)
 | h2:ck .h2
 | fq:ck .fq
 | ic:ck .ic
 | jC (sz:Nat):ck (.isl sz [])
 | ref (r k i off:Nat):ck (.ref r k i off)
 | bK (r k bw len:Nat):ck (.bK r k bw len)
 | iA (r c sz:Nat) (h:Option (Nat×Nat)):ck (.iA r c sz h)
 | agg {c:List an} (h : ∀x∈c,ck x):ck (.agg c)
 | cZ {c:List an} (h : ∀x∈c,ck x):ck (.cZ c)
theorem Zn:Down ck:=⟨fun _ _ h aa=>by cases h with|agg h=>exact h _ aa,fun _ _ h aa=>by cases h with|cZ h=>exact h _ aa,fun _ _ _ h=>by cases h⟩
theorem Rel.c1 {w bx:World}{ok kl:Nat->Prop}{aW mD:iY}{a0 lV:iP}{x:an}(bO:ck x): ∀ {v:Value},Pure x->Rel w ok aW a0 x v->Rel bx kl mD lV x v:=by
 induction bO with
 | dead=>intro v _ h;exact .dead v
 | b x=>intro v _ h;rw[h.t9];exact .b x
 | n k x=>intro v _ h;rw[h.n6];exact .n k x
 | s x=>intro v _ h;rw[h.yH];exact .s x
 | h2=>intro v _ h;rw[h.vg];exact .h2
 | fq=>intro v _ h;rw[h.pM];exact .fq
 | ic=>intro v _ h;obtain⟨a,c,rfl⟩:=h.DS;exact .ic a c
 | jC sz =>
  intro v _ h;rcases h.sR with ⟨-,a,c,rfl,bA⟩|⟨dZ,off,c,-,rfl,-⟩
  ·exact .jC sz a c bA
  exact .jC sz _ c (fun h=>by simp at h)
 | ref=>intro v ah;cases ah
 | bK=>intro v ah;cases ah
 | iA=>intro v ah;cases ah
 | @agg c aL ih =>
  intro v ah h;obtain⟨vs,rfl,o,J,ab⟩:=h.yn
  cases ah with
  | agg ah=>exact .agg vs o J fun j x u aa hu=>ih x (dG aa) (ah x (dG aa)) (ab j x u aa hu)
 | @cZ c aL ih =>
  intro v ah h;obtain⟨vs,rfl,o,ab⟩:=h.yo
  cases ah with
  | cZ ah=>exact .cZ vs o fun j x u aa hu=>ih x (dG aa) (ah x (dG aa)) (ab j x u aa hu)
section
variable {P:Program} {g:G} {s:S} {al:fj} {a:Act} {w:World}
theorem AQ (h:h3 g s al w){r k b m:Nat}{I:aM}(ai:s.af r k=some I)(ah:al r k=some (b,m)):b<w.heap.size:=by have:=h.obj r k I ai;rw[ah] at this;obtain⟨c,ef,e,-⟩:=this;exact(afj.1 e).1
theorem Yw (h:h3 g s al w){r k b m:Nat}{I:aM}(ai:s.af r k=some I)(aQ:I.cg = .iB)(ah:al r k=some (b,m)):s.ok g al w b:=by
 refine⟨AQ h ai ah,?_,?_⟩
 ·rcases h.own r k I b m ai ah with e|e
  ·exact .inr (.inl e)
  exact .inr (.inr e)
 rintro⟨ep,dn,bX,aU,o,J,ab⟩;obtain⟨rfl,rfl⟩:=h.inj r k I ep dn bX b m aU ai o ah ab;rw[ai] at o;simp at o;subst o;rw[aQ] at J;simp at J
theorem enter (h:h3 g s al w){aO:gC}{bI:fZ->Bool}{q:an->Prop}{T:List (List aM)}(A:Nat->Prop)
 (hA : ∀b,A b->b<w.heap.size) (I3 : ∀b,s.ok g al w b->A b)
 (I4 : ∀r k I b m,s.af r k=some I->bI I.cg=true->al r k=some (b,m)->A b)
 (cv:p8 s aO bI q (eL T).aH) (pS : ∀r k I,(∃j i,aO j i=some (r,k))->s.af r k=some I->I.cg = .live) :
 ∃fK:G,fK.mn=w/\fK.A=A/\fK.m=T.length/\fK.oU=(eL T).aW/\fK.rs=(eL T).a0 (jk al aO) /\
  (fK.px=fun b=> ∃r k I m,(∃j i,aO j i=some (r,k))/\s.af r k=some I/\al r k=some (b,m))/\h3 fK (eL T) (jk al aO) w /\
  ∀ {x cA:an} {v:Value},hD s aO bI q x cA->Rel w (s.ok g al w) s.aW (s.a0 al) x v->Rel w ((eL T).ok fK (jk al aO) w) (eL T).aW ((eL T).a0 (jk al aO)) cA v:=by
 let fK:G:={mn:=w,A:=A,px:=fun b=> ∃r k I m,(∃j i,aO j i=some (r,k))/\s.af r k=some I/\al r k=some (b,m),N:=0,m:=T.length,oU:=(eL T).aW,rs:=(eL T).a0 (jk al aO)}
 refine⟨fK,rfl,rfl,rfl,rfl,rfl,rfl,?_⟩;have hc : ∀b,(eL T).lk (jk al aO) b-> ∃r k I m,s.af r k=some I/\I.cg = .live/\al r k=some (b,m)/\ ∃j i,aO j i=some (r,k):=fun b aF=>cv.live b aF;refine h3.J4 (bH:=eL T) (fK:=fK) h cv ⟨rfl,rfl,rfl,dE _,fun _ _ _=>rfl⟩ (fun j k av=>⟨av,.inl rfl⟩) ?_ ?_ hA ?_ ?_ ?_
 ·intro j k av
  have av:k<((T[j]?).getD []).length:=av;rcases Nat.lt_or_ge j T.length with o|o
  ·exact o
  rw[dP o] at av;simp at av
 ·rintro b ⟨r,k,I,m,-,ai,ah⟩;exact AQ h ai ah
 ·intro r k I b m hm ai ah;exact .inr ⟨r,k,I,m,hm,ai,ah⟩
 ·intro b aN;refine⟨aN.1,.inl (I3 b aN),fun aF=> ?_⟩;obtain⟨r,k,I,m,o,J,ab,-⟩:=hc b aF;exact aN.2.2 ⟨r,k,I,m,o,J,ab⟩
 intro r k I b m ai bA aj ah;refine⟨AQ h ai ah,.inl (I4 r k I b m ai bA ah),fun aF=> ?_⟩;obtain⟨ep,dn,bX,aU,o,J,ab,⟨j,i,av⟩⟩:=hc b aF;obtain⟨rfl,rfl⟩:=h.inj r k I ep dn bX b m aU ai o ah ab;exact aj j i av
theorem leave (h:cq g s al a w){bx:World}{aO kf:gC}{bI:fZ->Bool}{q0 q:an->Prop}{fK:G}{T de:List (List aM)}{kr:fj}
 (dt:fK.mn=w) (hA:(∀b,fK.A b->s.ok g al w b)\/(∀x,q x->ck x)) (v9:fK.oU=(eL T).aW) (kP:fK.rs=(eL T).a0 (jk al aO))
 (dg:fK.px=fun b=> ∃r k I m,(∃j i,aO j i=some (r,k))/\s.af r k=some I/\al r k=some (b,m))
 (pS : ∀r k I,(∃j i,aO j i=some (r,k))->s.af r k=some I->I.cg = .live)
 (cv:p8 s aO bI q0 (eL T).aH) (o:h3 fK (eL de) kr bx)
 (A3 : ∀j i r k,aO j i=some (r,k)->kf r k=some (j,i)) (Ew : ∀r k j i,kf r k=some (j,i)->aO j i=some (r,k)\/ ¬s.aW r k)
 (ZU : ∀r k ep dn p,kf r k=some p->kf ep dn=some p->r=ep/\k=dn)
 {s2:S} (d1:s2.E=s.E)
 (a5 : ∀r k I,s2.af r k=some I->(∃j i p,kf r k=some (j,i)/\(eL de).af j i=some p/\oe (eL de) kf (fun _=>false) q p I)\/(kf r k=none/\s.af r k=some I))
 (i4 : ∀r k,s.aW r k->s2.aW r k) (ZV : ∀r k j i,kf r k=some (j,i)->(eL de).aW j i->s2.aW r k)
 {x cA:an} {v:Value} (aa:hD (eL de) kf (fun _=>false) q x cA) (aZ:Rel bx ((eL de).ok fK kr bx) (eL de).aW ((eL de).a0 kr) x v) :
 ∃kV,cq g s2 kV a bx/\Rel bx (s2.ok g kV bx) s2.aW (s2.a0 kV) cA v:=by
 let kV:fj:=fun r k=>match kf r k with|some (j,i)=>kr j i|none=>al r k
 have gN : ∀r k j i,kf r k=some (j,i)->kV r k=kr j i:=fun r k j i e=>by simp[kV,e]
 have hQ : ∀r k,kf r k=none->kV r k=al r k:=fun r k e=>by simp[kV,e]
 have aQ:=o.gZ;have ev:w.heap.size<=bx.heap.size:=by have:=aQ.size;rw[dt] at this;exact this
 have ta : ∀b,b<w.heap.size-> ¬fK.px b->bx.heap[b]? = w.heap[b]? := fun b aN km=>by have:=aQ.block b (by rw[dt];exact aN) km;rw[dt] at this;exact this
 have EO : ∀j k p b m,(eL de).af j k=some p->kr j k=some (b,m)->w.heap.size<=b\/ ∃r dn I aU,(∃j i,aO j i=some (r,dn))/\s.af r dn=some I/\al r dn=some (b,aU):=by
  intro j k p b m ah aN;rcases o.own j k p b m ah aN with e|e
  ·rw[dt] at e;exact .inl e
  rw[dg] at e;exact .inr e
 have hold : ∀q k I b m,kf q k=none->s.af q k=some I->al q k=some (b,m)->b<w.heap.size/\ ¬fK.px b:=by intro q k I b m a2 ai ah;refine⟨AQ h.toh3 ai ah,fun km=> ?_⟩;rw[dg] at km;obtain⟨r,dn,bX,aU,⟨j,i,aj⟩,du,lx⟩:=km;obtain⟨rfl,rfl⟩:=h.inj q k I r dn bX b m aU ai du ah lx;rw[A3 _ _ _ _ aj] at a2;simp at a2
 have Ph : ∀b,s2.lk kV b->(eL de).lk kr b\/(∃q k I m,kf q k=none/\s.af q k=some I/\I.cg = .live/\al q k=some (b,m)):=by
  rintro b ⟨q,k,I,m,ai,mJ,ah⟩;rcases a5 q k I ai with ⟨j,i,p,ao,aB,bT⟩|⟨ao,aB⟩
  ·rw[gN _ _ _ _ ao] at ah;exact .inl ⟨j,i,p,m,aB,OK bT mJ,ah⟩
  rw[hQ _ _ ao] at ah;exact .inr ⟨q,k,I,m,ao,aB,mJ,ah⟩
 have mE : ∀b,s.ok g al w b->s2.ok g kV bx b:=by
  intro b aN;refine⟨Nat.lt_of_lt_of_le aN.1 ev,aN.2.1,fun aF=> ?_⟩;rcases Ph b aF with ⟨j,k,p,m,ao,aB,bT⟩|⟨q,k,I,m,ao,aB,bT,di⟩
  ·rcases EO j k p b m ao bT with e|⟨r,dn,I,aU,aj,ai,ah⟩
   ·have:=aN.1;omega
   exact aN.2.2 ⟨r,dn,I,aU,ai,pS r dn I aj ai,ah⟩
  exact aN.2.2 ⟨q,k,I,m,aB,bT,di⟩
 have Qq : ∀r k,s.aW r k->s2.a0 kV r k=s.a0 al r k\/s2.a0 kV r k=none:=by
  intro r k aj
  cases ai:s2.af r k with
  | none=>right;simp[S.a0,ai]
  | some I =>
   left;rcases a5 r k I ai with ⟨j,i,p,ao,aB,bT⟩|⟨ao,aB⟩;rotate_left
   ·rw[hG ai,hG aB,hQ _ _ ao]
   rcases Ew r k j i ao with av|av
   ·have kQ:=(o.stay j i (by rw[v9];exact cv.aW _ _ _ _ av aj)).2
    rw[kP,hG aB] at kQ
    have kQ:some (p.sz,kr j i)=(eL T).a0 (jk al aO) j i:=by
     rcases kQ with e|e
     ·exact e
     simp at e
    have:=cv.EN (bH:=eL T) (al:=al) av;rw[<- kQ] at this;rw[hG ai,bT.sz,gN _ _ _ _ ao];rcases this with e|e
    ·exact e
    simp at e
   exact absurd aj av
 have Zo : ∀b,s.ok g al w b->bx.heap[b]? = w.heap[b]? := by intro b aN;refine ta b aN.1 fun km=> ?_;rw[dg] at km;obtain⟨r,dn,I,aU,aj,ai,ah⟩:=km;exact aN.2.2 ⟨r,dn,I,aU,ai,pS r dn I aj ai,ah⟩
 have eC : ∀ {y:an} {u:Value},Rel w (s.ok g al w) s.aW (s.a0 al) y u->Rel bx (s2.ok g kV bx) s2.aW (s2.a0 kV) y u :=
  fun aj=>aj.mono mE Zo i4 Qq
 have ZW:(∀b,fK.A b->s.ok g al w b)-> ∀b,(eL de).ok fK kr bx b->s2.ok g kV bx b:=by
  intro hA b aN
  have It:g.A b\/g.mn.heap.size<=b\/g.px b:=by
   rcases aN.2.1 with e|e|e
   ·exact(hA b e).2.1
   ·rw[dt] at e;exact .inr (.inl (Nat.le_trans h.gZ.size e))
   rw[dg] at e;obtain⟨r,k,I,m,-,ai,ah⟩:=e;rcases h.own r k I b m ai ah with e|e
   ·exact .inr (.inl e)
   exact .inr (.inr e)
  refine⟨aN.1,It,fun aF=> ?_⟩;rcases Ph b aF with e|⟨q,k,I,m,ao,aB,bT,di⟩
  ·exact aN.2.2 e
  have a2:=hold q k I b m ao aB di;rcases aN.2.1 with e|e|e
  ·exact(hA b e).2.2 ⟨q,k,I,m,aB,bT,di⟩
  ·rw[dt] at e;omega
  exact a2.2 e
 have PU : ∀ {y lD:an} {u:Value},hD (eL de) kf (fun _=>false) q y lD->Rel bx ((eL de).ok fK kr bx) (eL de).aW ((eL de).a0 kr) y u->Rel bx (s2.ok g kV bx) s2.aW (s2.a0 kV) lD u:=by
  intro y lD u bO aj;refine bO.rel o (fun x v a2 ah aj=> ?_) (fun _ _ _ _ _ _ bA _ _=>by simp at bA) ?_ aj
  ·rcases hA with hA|hA
   ·exact aj.pure ah (ZW hA)
   exact aj.c1 (hA x a2) ah
  intro r k j i a2 av;refine⟨ZV r k j i a2 av,?_⟩
  cases ai:s2.af r k with
  | none=>right;simp[S.a0,ai]
  | some I =>
   left;rcases a5 r k I ai with ⟨hP,eM,p,ao,aB,bT⟩|⟨ao,-⟩
   ·rw[a2] at ao;simp only[dy,dC] at ao;obtain⟨rfl,rfl⟩:=ao;rw[hG ai,hG aB,bT.sz,gN _ _ _ _ a2]
   rw[a2] at ao;simp at ao
 refine⟨kV,{toh3:=⟨?_,?_,?_,?_,h.mlt,h.m9,?_,h.low⟩,env:=fun t=>by rw[d1];exact eC (h.env t),defers:=h.defers,jj:=h.jj},PU aa aZ⟩
 ·intro q k I ai
  rcases a5 q k I ai with ⟨j,i,p,ao,aB,bT⟩|⟨ao,aB⟩
  ·have ah:=o.obj j i p aB
   rw[gN _ _ _ _ ao]
   cases jZ:kr j i with
   | none =>
    rw[jZ] at ah;simp only[iJ] at ah ⊢;apply dK.1;rw[bT.len,ah];rfl
   | some tF =>
    obtain⟨b,m⟩:=tF;rw[jZ] at ah;obtain⟨c,ef,f1,f2,f3,f4⟩:=ah;have jg:I.es.flatten.length=p.es.flatten.length:=(by rw[rX _ bT.each,rX _ f3,bT.len]);refine⟨c,ef,f1,f2,by rw[bT.sz];exact bT.each,fun i cA dl=> ?_⟩;have dq:i<p.es.flatten.length:=(by rw[<- jg];exact fN dl);have iM:=dx dq;obtain⟨u,jw,mo,gP⟩:=f4 i _ iM;exact⟨u,jw,mo,PU (bT.at_ i _ cA iM dl) gP⟩
  have ah:=h.obj q k I aB;rw[hQ _ _ ao]
  cases jZ:al q k with
  | none=>rw[jZ] at ah;exact ah
  | some tF =>
   obtain⟨b,m⟩:=tF;rw[jZ] at ah;obtain⟨c,ef,f1,f2,f3,f4⟩:=ah;obtain⟨rA,y5⟩:=hold q k I b m ao aB jZ;refine⟨c,ef,(ta b rA y5).trans f1,f2,f3,fun i cA dl=> ?_⟩;obtain⟨u,jw,mo,gP⟩:=f4 i cA dl;exact⟨u,jw,mo,eC gP⟩
 ·intro q k I hC dn bX b m aU J ab aA aJ
  rcases a5 q k I J with ⟨j,i,p,ao,aB,bT⟩|⟨ao,aB⟩<;>rcases a5 hC dn bX ab with ⟨hP,eM,jS,mI,pr,BL⟩|⟨mI,pr⟩
  ·rw[gN _ _ _ _ ao] at aA;rw[gN _ _ _ _ mI] at aJ;obtain⟨rfl,rfl⟩:=o.inj j i p hP eM jS b m aU aB pr aA aJ;exact ZU _ _ _ _ _ ao mI
  ·rw[gN _ _ _ _ ao] at aA;rw[hQ _ _ mI] at aJ
   obtain⟨f1,f2⟩:=hold hC dn bX b aU mI pr aJ;rcases EO j i p b m aB aA with e|e
   ·omega
   exact absurd (by rw[dg];exact e) f2
  ·rw[hQ _ _ ao] at aA;rw[gN _ _ _ _ mI] at aJ
   obtain⟨f1,f2⟩:=hold q k I b m ao aB aA;rcases EO hP eM jS b aU pr aJ with e|e
   ·omega
   exact absurd (by rw[dg];exact e) f2
  rw[hQ _ _ ao] at aA;rw[hQ _ _ mI] at aJ;exact h.inj q k I hC dn bX b m aU aB pr aA aJ
 ·intro q k I b m J aA
  rcases a5 q k I J with ⟨j,i,p,ao,aB,bT⟩|⟨ao,aB⟩
  ·rw[gN _ _ _ _ ao] at aA
   rcases EO j i p b m aB aA with e|⟨r,dn,bX,aU,aj,ai,ah⟩
   ·exact .inl (Nat.le_trans h.gZ.size e)
   exact h.own r dn bX b aU ai ah
  rw[hQ _ _ ao] at aA;exact h.own q k I b m aB aA
 ·have ao:=aQ.os;have aB:=aQ.tape;have bT:=aQ.output
  rw[dt] at ao aB bT;refine h.gZ.step ao aB bT ev fun b aN nH=>ta b (Nat.lt_of_lt_of_le aN h.gZ.size) fun km=> ?_;rw[dg] at km;obtain⟨r,k,I,m,-,ai,ah⟩:=km;rcases h.own r k I b m ai ah with e|e
  ·omega
  exact nH e
 intro j k av;obtain⟨ao,aB⟩:=h.stay j k av;refine⟨i4 j k ao,?_⟩;rcases Qq j k ao with e|e
 ·rw[e];exact aB
 exact .inr e
def kb (a b n:Nat):an->an
 | .ref r k i off=>if r=a then .ref b (n+k) i off else .ref r k i off
 | .bK r k bw len=>if r=a then .bK b (n+k) bw len else .bK r k bw len
 | .iA r c sz h=>if r=a then .iA b (n+c) sz h else .iA r c sz h
 | .agg c=> .agg (y6 c)
 | .cZ c=> .cZ (y6 c)
 | x=>x
where y6:List an->List an
 | []=>[]
 | x::l=>kb a b n x::y6 l
def lZ (a b n:Nat)(I:aM):aM:={I with es:=I.es.map fun e=>e.map (kb a b n)}
def rl (I:aM):aM:=⟨0,[],.gone⟩
theorem D7 (a b n:Nat): ∀l:List an,kb.y6 a b n l=l.map (kb a b n)
 | []=>rfl
 | x::l=>by rw[kb.y6,D7 a b n l];rfl
theorem jX (l:List aM)(k:Nat):cX (some l) k=(l[k]?).bind fun I=>if I.cg = .gone then none else some I:=by unfold cX;cases h:l[k]? <;> simp[h]
theorem map_flatten {es:List (List an)}(f:an->an):(es.map fun e=>e.map f).flatten=es.flatten.map f:=by
 induction es with
 | nil=>rfl
 | cons e es ih=>rw[List.map_cons,afb,afb,List.map_append,ih]
theorem cq.merge (h:cq g s al a w){r ep:Nat}{l gh:List aM}(aj:s.aH r=some l)(hp:s.aH ep=some gh)(cx:ep≠r):
 ∃bG,cq g ((s.setRow ep (gh.map rl)).setRow r (l++gh.map (lZ ep r l.length))) bG a w /\
  ∀x v,Rel w (s.ok g al w) s.aW (s.a0 al) x v->Rel w (((s.setRow ep (gh.map rl)).setRow r (l++gh.map (lZ ep r l.length))).ok g bG w)
   ((s.setRow ep (gh.map rl)).setRow r (l++gh.map (lZ ep r l.length))).aW (((s.setRow ep (gh.map rl)).setRow r (l++gh.map (lZ ep r l.length))).a0 bG) (kb ep r l.length x) v:=by
 generalize wa:(s.setRow ep (gh.map rl)).setRow r (l++gh.map (lZ ep r l.length))=s2
 let bG:fj:=fun q k=>if q=r/\l.length<=k then al ep (k-l.length) else al q k
 have a5 : ∀q k I,s2.af q k=some I->(q=r/\l.length<=k/\ ∃p,s.af ep (k-l.length)=some p/\I=lZ ep r l.length p/\bG q k=al ep (k-l.length)) \/
  (q≠ep/\s.af q k=some I/\bG q k=al q k/\ ¬(q=r/\l.length<=k)):=by
  intro q k I ai;subst wa;rw[kZ] at ai;by_cases e:q=r;rotate_left
  ·rw[dA e,kZ] at ai
   by_cases aB:q=ep
   ·subst aB
    rw[dw rfl,jX,dJ] at ai
    cases ah:gh[k]? with
    | none=>rw[ah] at ai;simp at ai
    | some p=>rw[ah] at ai;simp[rl] at ai
   rw[dA aB] at ai;exact .inr ⟨aB,ai,by simp[bG,e],fun fH=>e fH.1⟩
  subst e;rw[dw rfl] at ai;by_cases aQ:l.length<=k
  ·left
   refine⟨rfl,aQ,?_⟩;rw[jX,afn aQ,dJ] at ai
   cases ah:gh[k-l.length]? with
   | none=>rw[ah] at ai;simp at ai
   | some p =>
    rw[ah] at ai;simp only[dQ,dB] at ai;split at ai
    ·simp at ai
    rename_i dt;simp only[dy] at ai;refine⟨p,?_,ai.symm,by simp[bG,aQ]⟩;unfold S.af;rw[hp,jX,ah,dB,dA (by simpa [lZ] using dt)]
  right;refine⟨Ne.symm cx,?_,by simp[bG,aQ],fun fH=>aQ fH.2⟩;unfold S.af;rw[aj,jX];rw[jX,afh (by omega)] at ai;exact ai
 have i4 : ∀q k,s.aW q k->s2.aW q k:=by
  intro q k a2;subst wa;rw[m1];by_cases e:q=r
  ·subst e;rw[dw rfl];simp[S.aW,aj] at a2;simp;omega
  rw[dA e,m1];by_cases aB:q=ep
  ·subst aB;rw[dw rfl];simpa [S.aW,hp] using a2
  rw[dA aB];exact a2
 have Bu : ∀k,s.aW ep k->s2.aW r (l.length+k):=by intro k a2;subst wa;rw[m1,dw rfl];simp[S.aW,hp] at a2;simp;omega
 have Bv : ∀k,s2.a0 bG r (l.length+k)=s.a0 al ep k:=by
  intro k;subst wa;simp only[S.a0];rw[kZ,dw rfl];unfold S.af;rw[hp,jX,jX,afn (by omega),dJ,show l.length+k-l.length=k by omega]
  cases ah:gh[k]? with
  | none=>simp
  | some p =>
   simp only[dQ,dB];by_cases dt:p.cg = .gone
   ·rw[dw dt,dw (by simpa [lZ] using dt)];rfl
   rw[dA dt,dA (by simpa [lZ] using dt)];simp[bG,lZ]
 have kP : ∀q k,s.aW q k->s2.a0 bG q k=s.a0 al q k\/s2.a0 bG q k=none:=by
  intro q k a2
  cases ai:s2.af q k with
  | none=>right;simp[S.a0,ai]
  | some I =>
   left;rcases a5 q k I ai with ⟨rfl,aB,-⟩|⟨-,aB,bT,-⟩
   ·simp[S.aW,aj] at a2;omega
   rw[hG ai,hG aB,bT]
 have pS : ∀b,s2.lk bG b->s.lk al b:=by
  rintro b ⟨q,k,I,m,o,J,ab⟩;rcases a5 q k I o with ⟨-,-,p,ao,aB,bT⟩|⟨-,ao,aB,-⟩
  ·rw[bT] at ab;subst aB;exact⟨ep,_,p,m,ao,J,ab⟩
  rw[aB] at ab;exact⟨q,k,I,m,ao,J,ab⟩
 have cO:Step g s al w s2 bG w:=⟨i4,kP,fun b aF=> .inl (pS b aF),fun _ _ _=>rfl,dE _⟩
 have BO : ∀x v,Rel w (s.ok g al w) s.aW (s.a0 al) x v->Rel w (s2.ok g bG w) s2.aW (s2.a0 bG) (kb ep r l.length x) v:=by
  intro x v kS
  induction kS with
  | dead v=>exact .dead v
  | b x=>exact .b x
  | n k x=>exact .n k x
  | s x=>exact .s x
  | h2=>exact .h2
  | fq=>exact .fq
  | ic a c=>exact .ic a c
  | @pN ad k i off a hu fH =>
   unfold kb;split
   ·rename_i e;subst e;exact .pN a (Bu k hu) (by rw[Bv];exact fH)
   exact cO.rel (.pN a hu fH)
  | @ref ad k i off sz dZ m hu fH =>
   unfold kb;split
   ·rename_i e;subst e;exact .ref (Bu k hu) (by rw[Bv];exact fH)
   exact cO.rel (.ref hu fH)
  | @m2 ad k bw len a bB cF hu fH =>
   unfold kb;split
   ·rename_i e;subst e;exact .m2 a bB cF (Bu k hu) (by rw[Bv];exact fH)
   exact cO.rel (.m2 a bB cF hu fH)
  | @nt ad k sz hu fH =>
   unfold kb;split
   ·rename_i e;subst e;exact .nt (Bu k hu) (by rw[Bv];exact fH)
   exact cO.rel (.nt hu fH)
  | @bK ad k bw len sz dZ m c a hu fH aF aL lv =>
   unfold kb;split
   ·rename_i e;subst e;exact .bK (Bu k hu) (by rw[Bv];exact fH) aF aL lv
   exact cO.rel (.bK hu fH aF aL lv)
  | @mx ad c sz v h0 ih =>
   unfold kb;split
   ·exact .mx (cO.rel h0)
   exact cO.rel (.mx h0)
  | @nA ad c sz k n v h0 ih =>
   unfold kb;split
   ·rename_i e;subst e;unfold kb at ih;rw[dw rfl] at ih;exact .nA (by rw[show k+(l.length+c)=l.length+(k+c) by omega];exact ih)
   exact cO.rel (.nA h0)
  | jC sz a c h=>exact .jC sz a c h
  | isl cs aN ah aF aL hw hy kS ih=>exact cO.rel (.isl cs aN ah aF aL hw hy kS)
  | e4 cs aN ah aF hw hy kS ih=>exact cO.rel (.e4 cs aN ah aF hw hy kS)
  | pk sz=>exact .pk sz
  | oN h0 ih=>exact cO.rel (.oN h0)
  | agg vs aF hy kS ih =>
   unfold kb;rw[D7];refine .agg vs (by simpa using aF) hy fun j x v aa aZ=> ?_;rw[dJ,dN] at aa;obtain⟨y,aP,rfl⟩:=aa;exact ih j y v aP aZ
  | cZ vs aF kS ih =>
   unfold kb;rw[D7];refine .cZ vs (by simpa using aF) fun j x v aa aZ=> ?_;rw[dJ,dN] at aa;obtain⟨y,aP,rfl⟩:=aa;exact ih j y v aP aZ
  | fn vs aF kS ih=>exact cO.rel (.fn vs aF kS)
 refine⟨bG,{toh3:=⟨?_,?_,?_,h.gZ,h.mlt,h.m9,?_,h.low⟩,env:=fun t=>by rw[show s2.E=s.E by rw[<- wa];rfl];exact cO.rel (h.env t),defers:=h.defers,jj:=h.jj},BO⟩
 ·intro q k I ai
  rcases a5 q k I ai with ⟨-,-,p,ao,aB,bT⟩|⟨-,ao,aB,-⟩;rotate_left
  ·rw[aB];exact cO.obj (fun b m _=>rfl) (h.obj q k I ao)
  rw[bT];subst aB;have ah:=h.obj ep _ p ao
  cases jZ:al ep (k-l.length) with
  | none=>rw[jZ] at ah;simp only[iJ] at ah ⊢;simp[lZ,ah]
  | some tF =>
   obtain⟨b,m⟩:=tF;rw[jZ] at ah;obtain⟨c,ef,f1,f2,f3,f4⟩:=ah;refine⟨c,ef,f1,f2,?_,fun j x aa=> ?_⟩
   ·intro e he;simp only[lZ,List.mem_map] at he;obtain⟨er,lr,rfl⟩:=he;simpa [lZ] using f3 er lr
   simp only[lZ] at aa;rw[map_flatten,dJ,dN] at aa;obtain⟨y,aP,rfl⟩:=aa;obtain⟨u,jw,mo,gP⟩:=f4 j y aP;exact⟨u,jw,mo,BO y u gP⟩
 ·intro q k I aT jU bS b m aU o J ab aA
  rcases a5 q k I o with ⟨rfl,f1,p,ao,aB,bT⟩|⟨f1,ao,aB,f2⟩<;>rcases a5 aT jU bS J with ⟨rfl,y7,jS,mI,pr,BL⟩|⟨y7,mI,pr,aec⟩
  ·rw[bT] at ab;rw[BL] at aA;obtain⟨-,e⟩:=h.inj _ _ _ _ _ _ b m aU ao mI ab aA;exact⟨rfl,by omega⟩
  ·rw[bT] at ab;rw[pr] at aA;obtain⟨e,-⟩:=h.inj _ _ _ _ _ _ b m aU ao mI ab aA;exact absurd e.symm y7
  ·rw[aB] at ab;rw[BL] at aA;obtain⟨e,-⟩:=h.inj _ _ _ _ _ _ b m aU ao mI ab aA;exact absurd e f1
  rw[aB] at ab;rw[pr] at aA;exact h.inj _ _ _ _ _ _ b m aU ao mI ab aA
 ·intro q k I b m o J
  rcases a5 q k I o with ⟨-,-,p,ao,aB,bT⟩|⟨-,ao,aB,-⟩
  ·rw[bT] at J;exact h.own ep _ p b m ao J
  rw[aB] at J;exact h.own q k I b m ao J
 exact cO.stay h.stay
end
def an.il:an->Bool
 | .dead | .b _ | .n .. | .s _ | .h2 | .fq | .ic | .isl .. | .e4 .. | .eW .. => true
 | _=>false
def an.AR:an->Bool
 | .agg c=>c.all an.il
 | .fn _ c=>c.all an.il
 | x=>x.il
def an.PV:an->Bool
 | .cZ c=>c.all an.AR
 | x=>x.AR
section
variable {w:World} {ok:Nat->Prop} {aW:iY} {a0:iP}
theorem Rel.yI {x:an}{v:Value}(h:Rel w ok aW a0 x v)(aV:x.il=true):Pure x:=by
 cases h with
 | dead=>exact .dead
 | b=>exact .b _
 | n=>exact .n _ _
 | s=>exact .s _
 | h2=>exact .h2
 | fq=>exact .fq
 | ic=>exact .ic
 | jC=>exact .isl (by simp)
 | isl cs aN ah=>exact .isl ah
 | e4 cs aN ah=>exact .e4 ah
 | pk sz=>exact .pk sz
 | oN h=>cases h with|e4 cs aN ah=>exact .oN fun x aa=>ah _ (List.mem_singleton.2 rfl) x aa
 | _=>simp[an.il] at aV
theorem Na {c:List an}{vs:List Value}(aF:vs.length=c.length)(aj:∀(j:Nat) x u,c[j]? = some x->vs[j]? = some u->Rel w ok aW a0 x u)
 (aV:c.all an.il=true) : ∀x∈c,Pure x:=by
 intro x aa;obtain⟨j,av⟩:=afr aa;have dq:j<vs.length:=by have:=fN av;omega
 exact(aj j x _ av (dx dq)).yI (List.all_eq_true.1 aV x aa)
theorem Rel.Ei {x:an}{v:Value}(h:Rel w ok aW a0 x v)(aV:x.AR=true):Pure x:=by
 cases h with
 | agg vs aF aL aj=>exact .agg (Na aF aj aV)
 | fn vs aF aj=>exact .fn (Na aF aj aV)
 | dead=>exact .dead
 | b=>exact .b _
 | n=>exact .n _ _
 | s=>exact .s _
 | h2=>exact .h2
 | fq=>exact .fq
 | ic=>exact .ic
 | jC=>exact .isl (by simp)
 | isl cs aN ah=>exact .isl ah
 | e4 cs aN ah=>exact .e4 ah
 | pk sz=>exact .pk sz
 | oN h=>cases h with|e4 cs aN ah=>exact .oN fun x aa=>ah _ (List.mem_singleton.2 rfl) x aa
 | _=>simp[an.AR,an.il] at aV
theorem Rel.Zp {x:an}{v:Value}(h:Rel w ok aW a0 x v)(aV:x.PV=true):Pure x:=by
 by_cases ch : ∃c,x = .cZ c
 ·obtain⟨c,rfl⟩:=ch;obtain⟨vs,rfl,aF,aj⟩:=h.yo;refine .cZ fun x aa=> ?_;obtain⟨j,av⟩:=afr aa;have dq:j<vs.length:=(by have:=fN av;omega);exact(aj j x _ av (dx dq)).Ei (List.all_eq_true.1 aV x aa)
 refine h.Ei ?_;cases x<;>first|exact aV|exact absurd ⟨_,rfl⟩ ch
end
def dj:List Nat->Nat->Option Nat
 | [],_=>none
 | x::l,r=>if x=r then some 0 else (dj l r).map (· + 1)
theorem Nb : ∀ {l:List Nat} {r j:Nat},dj l r=some j->l[j]? = some r
 | x::l,r,j,h=>by
  unfold dj at h;split at h
  ·simp at h;subst h;simp[*]
  rw[dN] at h;obtain⟨i,ae,rfl⟩:=h;simpa using Nb ae
theorem Nc : ∀ {l:List Nat} {r j:Nat},l.Nodup->l[j]? = some r->dj l r=some j
 | x::l,r,j,aV,h=>by
  rw[List.nodup_cons] at aV;unfold dj
  cases j with
  | zero=>simp at h;simp[h]
  | succ j =>
   simp at h;have:x≠r:=(by rintro rfl;exact aV.1 (dG h));rw[dA this,Nc aV.2 h];rfl
def BP (eg:Nat)(jt:List aM)(bI:fZ->Bool)(x cA:an):Prop :=
 (cA=x/\x.il=true)\/(∃c sz,x = .iA eg c sz none/\cA = .isl sz [])\/ ∃k bw len I,(x = .bK eg k bw len\/ ∃c sz iZ,k=iZ+c/\bw=0/\x = .iA eg c sz (some (iZ,len)))/\cX (some jt) k=some I/\bI I.cg=true/\bw+len<=I.es.length /\
   ht ((I.es.drop bw).take len)/\cA = .isl I.sz ((I.es.drop bw).take len)
def Cn (eg:Nat)(jt:List aM)(bI:fZ->Bool)(sz:Nat)(es gd:List (List an)):Prop :=
 gd.length=es.length/\(∀e∈gd,e.length=sz)/\ ∀(j:Nat) x cA,es.flatten[j]? = some x->gd.flatten[j]? = some cA->BP eg jt bI x cA
def k6 (aH:Nat->Option (List aM))(b7:Nat->Option Nat)(aO:gC)(bI:fZ->Bool):rK->an->Option (an×List Prop)
 | .id,x=>if x.il then some (x,[]) else
  match x with
  | .ref r k i off=>match b7 r with
   | some j=>some (.ref j k i off,[])
   | none=>none
  | .bK r k bw len=>match b7 r with
   | some j=>some (.bK j k bw len,[])
   | none=>none
  | .iA r c sz h=>match b7 r with
   | some j=>some (.iA j c sz h,[])
   | none=>none
  | _=>none
 | .jF sz,.fq=>some (.isl sz [],[])
 | .jF sz,.ic=>some (.isl sz [],[])
 | .fb gd,.bK r k bw len=>match cX (aH r) k with
  | some I=>if bI I.cg && (b7 r).isNone then some (.isl I.sz gd,[gd=(I.es.drop bw).take len,bw+len<=I.es.length,ht gd]) else none
  | none=>none
 | .i7,_=>some (.dead,[])
 | .dp y,x=>if x.il then some (y,[x=y]) else none
 | .len n,.bK r k bw len=>match b7 r with
  | some j=>some (.bK j k bw n,[len=n])
  | none=>none
 | .py sz,x=>match x with
  | .h2=>some (.eW sz none,[])
  | .e4 EJ [c] 0 0=>if EJ=sz then some (.eW sz (some c),[]) else none
  | _=>none
 | .at_ j i n,.bK r k bw len=>some (.bK j i bw n,[aO j i=some (r,k),len=n])
 | .at_ j i _,.ref r k x y=>some (.ref j i x y,[aO j i=some (r,k)])
 | .view eg I gd,.bK r k bw len=>match aH r,aH eg with
  | some row,some jt=>if (b7 r).isNone && (b7 eg).isNone then
   some (.isl I.sz gd,[cX (some row) k=some I,bI I.cg=true,bw+len<=I.es.length,ht gd,Cn eg jt bI I.sz ((I.es.drop bw).take len) gd]) else none
  | _,_=>none
 | _,_=>none
def k7 {α β:Type}(f:α->β->Option (β×List Prop)):List α->List β->Option (List β×List Prop)
 | [],[]=>some ([],[])
 | a::l,b::m=>match f a b,k7 f l m with
  | some (jv,bS),some (aU,aY)=>some (jv::aU,bS++aY)
  | _,_=>none
 | _,_=>none
def n7 (aH:Nat->Option (List aM))(b7:Nat->Option Nat)(aO:gC)(bI:fZ->Bool):zu->an->Option (an×List Prop)
 | .cj c,x=>if x.AR then (match c with | .id=>some (x,[]) | .i7=>some (.dead,[]) | .dp y=>some (y,[x=y])|c=>k6 aH b7 aO bI c x) else k6 aH b7 aO bI c x
 | .agg l,.agg c=>match k7 (k6 aH b7 aO bI) l c with
  | some (dW,af)=>some (.agg dW,af)
  | none=>none
 | .ptr l,.ref r k i off=>match cX (aH r) k with
  | some I=>match I.es with
   | [c]=>if bI I.cg && (b7 r).isNone then
    match k7 (k6 aH b7 aO bI) l c with
    | some (dW,af)=>some (.e4 I.sz [dW] i off,af++[ht [dW]])
    | none=>none
    else none
   | _=>none
  | none=>none
 | .tb l,x=>match x with
  | .ref r k 0 0=>match cX (aH r) k with
   | some I=>match I.es with
    | [c]=>if bI I.cg && (b7 r).isNone then
     match k7 (k6 aH b7 aO bI) l c with
     | some (dW,af)=>some (.eW I.sz (some dW),af++[ht [dW]])
     | none=>none
     else none
    | _=>none
   | none=>none
  | _=>none
 | _,_=>none
def nv (aH:Nat->Option (List aM))(b7:Nat->Option Nat)(aO:gC)(bI:fZ->Bool):kE->an->Option (an×List Prop)
 | .bB c,x=>if x.PV then (match c with | .cj .id=>some (x,[])|c=>n7 aH b7 aO bI c x) else n7 aH b7 aO bI c x
 | .comp l,.cZ c=>match k7 (n7 aH b7 aO bI) l c with
  | some (dW,af)=>some (.cZ dW,af)
  | none=>none
 | .comp l,.fn f c=>match k7 (n7 aH b7 aO bI) l c with
  | some (dW,af)=>some (.fn f dW,af)
  | none=>none
 | _,_=>none
def tT (row:List aM):Prop:= ∀I∈row,ht I.es/\I.cg = .live
def oI (row:List aM):Prop:= ∀I∈row,I.cg = .live\/I.cg = .gone
def nI (b7:Nat->Option Nat):an->an
 | .ref r k i off=>match b7 r with|some j=> .ref j k i off|none=> .dead
 | .bK r k bw len=>match b7 r with|some j=> .bK j k bw len|none=> .dead
 | .iA r c sz h=>match b7 r with|some j=> .iA j c sz h|none=> .dead
 | x=>if x.il then x else .dead
def jD (b7:Nat->Option Nat)(I:aM):aM:={I with es:=I.es.map fun e=>e.map (nI b7)}
def iR (aH:Nat->Option (List aM))(b7:Nat->Option Nat)(aO:gC)(bI:fZ->Bool):h6->List aM->Option (List aM×List Prop)
 | .pure,row=>some (row,[tT row])
 | .dp dU,row=>some (dU,[row=dU,tT dU])
 | .b9 dU,row=>some (dU,[dU=row.map (jD b7),oI row])
 | .box l,[I]=>match I.es with
  | [c]=>if I.cg = .live then match k7 (k6 aH b7 aO bI) l c with
   | some (dW,af)=>some ([{I with es:=[dW]}],af)
   | none=>none
   else none
  | _=>none
 | _,_=>none
structure tG (q:an->Prop) (bI:fZ->Bool):Prop extends Down q where
 all : ∀k,bI k=true-> ∀x,q x
theorem us (bI:fZ->Bool):tG ly bI:={toDown:=Zl,all:=fun _ _ _=>trivial}
theorem aaO:tG ck (fun _=>false):={toDown:=Zn,all:=fun _ h=>by simp at h}
structure mq (s:S) (aO:gC) (b7:Nat->Option Nat) (bI:fZ->Bool):Prop where
 ae : ∀r j,b7 r=some j-> ∀k,aO j k=some (r,k)
 aV : ∀r,b7 r=none-> ∀k I,s.af r k=some I->bI I.cg=true-> ∀j i,aO j i≠some (r,k)
section
variable {g:G} {s:S} {al:fj} {w:World} {aO:gC} {b7:Nat->Option Nat} {bI:fZ->Bool} {q:an->Prop}
theorem DH {α β:Type}(f:α->β->Option (β×List Prop)): ∀(l:List α) (m aU:List β) (af:List Prop),k7 f l m=some (aU,af) ->
 aU.length=m.length/\l.length=m.length/\ ∀(j:Nat) b jv,m[j]? = some b->aU[j]? = some jv-> ∃x bX,l[j]? = some x/\f x b=some (jv,bX)/\ ∀p∈bX,p∈af
 | [],[],aU,af,h=>by simp[k7] at h;obtain⟨rfl,rfl⟩:=h;exact⟨rfl,rfl,fun j b jv aN=>by simp at aN⟩
 | [],_::_,_,_,h=>by simp[k7] at h
 | _::_,[],_,_,h=>by simp[k7] at h
 | x::l,b::m,aU,af,h=>by
  simp only[k7] at h;split at h
  ·rename_i jv bS gr aY o J
   simp only[dy,dC] at h;obtain⟨rfl,rfl⟩:=h;obtain⟨ao,aB,bT⟩:=DH f l m gr aY J;refine⟨by simp[ao],by simp[aB],fun j c dW aL vW=> ?_⟩
   cases j with
   | zero =>
    simp at aL vW;subst aL;subst vW;exact⟨x,bS,rfl,o,fun p ah=>by simp[ah]⟩
   | succ j =>
    simp at aL vW;obtain⟨y,bX,f1,f2,f3⟩:=bT j c dW aL vW;exact⟨y,bX,by simpa using f1,f2,fun p ah=>by simp[f3 p ah]⟩
  simp at h
theorem Hd (dg:h3 g s al w)(H:mq s aO b7 bI)(bz:tG q bI){c:rK}{x cA:an}{af:List Prop}(h:k6 s.aH b7 aO bI c x=some (cA,af))(a5:∀p∈af,p)
 (a2:q x) {v:Value} (aj:Rel w (s.ok g al w) s.aW (s.a0 al) x v):hD s aO bI q x cA:=by
 have i4 : ∀ {r k bw len:Nat},x = .bK r k bw len->s.aW r k:=by intro r k bw len e;subst e;cases aj<;>assumption
 cases c with
 | id =>
  simp only[k6] at h;split at h
  ·rename_i aV;simp only[dy,dC] at h;obtain⟨rfl,rfl⟩:=h;exact .pure (aj.yI aV) a2
  split at h
  ·rename_i r k i off _
   split at h
   ·rename_i j av;simp only[dy,dC] at h;obtain⟨rfl,rfl⟩:=h;exact .ref i off (H.ae r j av k) (by cases aj<;>assumption)
   simp at h
  ·rename_i r k bw len _
   split at h
   ·rename_i j av;simp only[dy,dC] at h;obtain⟨rfl,rfl⟩:=h;exact .bK bw len (H.ae r j av k) (i4 rfl)
   simp at h
  ·rename_i r c sz fH _
   split at h
   ·rename_i j av;simp only[dy,dC] at h;obtain⟨rfl,rfl⟩:=h;exact .iA fH (fun k=>H.ae r j av _)
   simp at h
  simp at h
 | jF sz =>
  cases x<;>simp[k6] at h
  ·obtain⟨rfl,rfl⟩:=h;exact .fq sz
  obtain⟨rfl,rfl⟩:=h;exact .ic sz
 | fb gd =>
  cases x<;>simp only[k6,reduceCtorEq] at h;rename_i r k bw len;split at h;rotate_left
  ·simp at h
  rename_i I ai;split at h;rotate_left
  ·simp at h
  rename_i aL;simp only[afd,Option.isNone_iff_eq_none] at aL;simp only[dy,dC] at h;obtain⟨rfl,rfl⟩:=h;have o:gd=(I.es.drop bw).take len:=a5 _ (by simp);have J:bw+len<=I.es.length:=a5 _ (by simp);have ab:ht gd:=a5 _ (by simp);have du:s.af r k=some I:=ai
  have hlen : ∀e∈I.es,e.length=I.sz:=by
   have fv:=dg.obj r k I du
   cases ah:al r k with
   | none=>rw[ah] at fv;simp only[iJ] at fv;rw[fv];simp
   | some q=>rw[ah] at fv;obtain⟨_,_,_,_,e,_⟩:=fv;exact e
  refine .isl du aL.1 (H.aV r aL.2 k I du aL.1) J ab ?_ ?_ ?_
  ·rw[o];exact fun e he=>hlen e (List.mem_of_mem_drop (List.mem_of_mem_take he))
  ·rw[o];simp;omega
  intro j y lD aP nJ;rw[o] at nJ;rw[aP] at nJ;simp at nJ;subst nJ;rw[o] at ab;obtain⟨e,he,BQ⟩:=sH aP;exact .pure (ab e he y BQ) (bz.all _ aL.1 y)
 | i7 =>
  simp only[k6,dy,dC] at h;obtain⟨rfl,rfl⟩:=h;exact .dead x
 | dp y =>
  simp only[k6] at h;split at h
  ·rename_i aV;simp only[dy,dC] at h;obtain⟨rfl,rfl⟩:=h;have e:x=y:=a5 _ (by simp);subst e;exact .pure (aj.yI aV) a2
  simp at h
 | len n =>
  cases x<;>simp only[k6,reduceCtorEq] at h;rename_i r k bw len;split at h
  ·rename_i j av;simp only[dy,dC] at h;obtain⟨rfl,rfl⟩:=h;have e:len=n:=a5 _ (by simp);subst e;exact .bK bw len (H.ae r j av k) (i4 rfl)
  simp at h
 | at_ j i n =>
  cases x<;>simp only[k6,reduceCtorEq] at h
  ·rename_i r k x y;simp only[dy,dC] at h;obtain⟨rfl,rfl⟩:=h;exact .ref x y (a5 _ (List.mem_cons_self)) (by cases aj<;>assumption)
  rename_i r k bw len;simp only[dy,dC] at h;obtain⟨rfl,rfl⟩:=h;have e:len=n:=a5 _ (by simp);subst e;exact .bK bw len (a5 _ (List.mem_cons_self)) (i4 rfl)
 | view eg I gd =>
  cases x<;>simp only[k6,reduceCtorEq] at h;rename_i r k bw len;split at h;rotate_left
  ·simp at h
  rename_i row jt cV Zq;split at h;rotate_left
  ·simp at h
  rename_i aL;simp only[afd,Option.isNone_iff_eq_none] at aL;simp only[dy,dC] at h;obtain⟨rfl,rfl⟩:=h;have o:cX (some row) k=some I:=a5 _ (by simp);have J:bI I.cg=true:=a5 _ (by simp);have ab:bw+len<=I.es.length:=a5 _ (by simp);have aA:ht gd:=a5 _ (by simp);have aJ:Cn eg jt bI I.sz ((I.es.drop bw).take len) gd:=a5 _ (by simp);have du:s.af r k=some I:=(by unfold S.af;rw[cV];exact o);obtain⟨rL,pB,J5⟩:=aJ;refine .isl du J (H.aV r aL.1 k I du J) ab aA pB (by rw[rL];simp;omega) fun j y lD aP nJ=> ?_;rcases J5 j y lD aP nJ with ⟨rfl,aV⟩|⟨cF,QQ,rfl,rfl⟩|⟨h1,EP,Ex,p,wb,ao,aB,bT,di,rfl⟩
  ·obtain⟨e,he,BQ⟩:=sH nJ;exact .pure (aA e he lD BQ) (bz.all _ J _)
  ·exact .mx _ _ _
  have lx:s.af eg h1=some p:=by unfold S.af;rw[Zq];exact ao
  have hlen : ∀e∈p.es,e.length=p.sz:=by
   have fv:=dg.obj eg h1 p lx
   cases ah:al eg h1 with
   | none=>rw[ah] at fv;simp only[iJ] at fv;rw[fv];simp
   | some q=>rw[ah] at fv;obtain⟨_,_,_,_,e,_⟩:=fv;exact e
  have PW:hD s aO bI q (.bK eg h1 EP Ex) (.isl p.sz ((p.es.drop EP).take Ex)):=(by refine .isl lx aB (H.aV eg aL.2 h1 p lx aB) bT di (fun e he=>hlen e (List.mem_of_mem_drop (List.mem_of_mem_take he))) (by simp;omega) fun j z aeZ b5 wc=> ?_;rw[b5] at wc;simp at wc;subst wc;obtain⟨e,he,aaP⟩:=sH b5;exact .pure (di e he z aaP) (bz.all _ aB _));rcases wb with rfl|⟨cj,aed,iZ,rfl,rfl,rfl⟩
  ·exact PW
  exact .nA PW
 | py sz =>
  simp only[k6] at h;split at h
  ·simp only[dy,dC] at h;obtain⟨rfl,rfl⟩:=h;exact .Eh _
  ·split at h
   ·rename_i e;subst e;simp only[dy,dC] at h;obtain⟨rfl,rfl⟩:=h;exact .eW (.pure (aj.yI rfl) a2)
   simp at h
  simp at h
theorem Av (dg:h3 g s al w)(H:mq s aO b7 bI)(bz:tG q bI){l:List rK}{c dW:List an}{af:List Prop}(h:k7 (k6 s.aH b7 aO bI) l c=some (dW,af))(a5:∀p∈af,p)
 (a2 : ∀x∈c,q x) {vs:List Value} (aF:vs.length=c.length) (aj : ∀(j:Nat) x u,c[j]? = some x->vs[j]? = some u->Rel w (s.ok g al w) s.aW (s.a0 al) x u) :
 dW.length=c.length/\ ∀(j:Nat) x cA,c[j]? = some x->dW[j]? = some cA->hD s aO bI q x cA:=by
 obtain⟨ao,aB,bT⟩:=DH _ l c dW af h;refine⟨ao,fun j x cA aa dl=> ?_⟩;obtain⟨y,bX,f1,f2,f3⟩:=bT j x cA aa dl;have dq:j<vs.length:=by have:=fN aa;omega
 exact Hd dg H bz f2 (fun p ah=>a5 p (f3 p ah)) (a2 x (dG aa)) (aj j x _ aa (dx dq))
theorem He (dg:h3 g s al w)(H:mq s aO b7 bI)(bz:tG q bI){c:zu}{x cA:an}{af:List Prop}(h:n7 s.aH b7 aO bI c x=some (cA,af))(a5:∀p∈af,p)
 (a2:q x) {v:Value} (aj:Rel w (s.ok g al w) s.aW (s.a0 al) x v):hD s aO bI q x cA:=by
 cases c with
 | cj c =>
  simp only[n7] at h;split at h;rotate_left
  ·exact Hd dg H bz h a5 a2 aj
  rename_i aV;split at h
  ·simp only[dy,dC] at h;obtain⟨rfl,rfl⟩:=h;exact .pure (aj.Ei aV) a2
  ·simp only[dy,dC] at h;obtain⟨rfl,rfl⟩:=h;exact .dead _
  ·simp only[dy,dC] at h;obtain⟨rfl,rfl⟩:=h;have e:=a5 _ (List.mem_singleton.2 rfl);subst e;exact .pure (aj.Ei aV) a2
  exact Hd dg H bz h a5 a2 aj
 | agg l =>
  cases x<;>simp only[n7,reduceCtorEq] at h;rename_i c;split at h
  ·rename_i dW nc aL;simp only[dy,dC] at h;obtain⟨rfl,rfl⟩:=h;obtain⟨vs,rfl,aF,-,BR⟩:=aj.yn;obtain⟨ao,aB⟩:=Av dg H bz aL a5 (fun y aP=>bz.agg _ _ a2 aP) aF BR;exact .agg ao aB
  simp at h
 | ptr l =>
  cases x<;>simp only[n7,reduceCtorEq] at h;rename_i r k i off;split at h;rotate_left
  ·simp at h
  rename_i I ai;split at h;rotate_left
  ·simp at h
  rename_i c ho;split at h;rotate_left
  ·simp at h
  rename_i aL;simp only[afd,Option.isNone_iff_eq_none] at aL;split at h;rotate_left
  ·simp at h
  rename_i dW nc hy;simp only[dy,dC] at h;obtain⟨rfl,rfl⟩:=h;have du:s.af r k=some I:=ai;have fv:=dg.obj r k I du
  cases ah:al r k with
  | none=>rw[ah] at fv;simp only[iJ] at fv;rw[ho] at fv;simp at fv
  | some q =>
   obtain⟨b,m⟩:=q;rw[ah] at fv;obtain⟨b6,ef,g1,g2,g3,g4⟩:=fv;have Iu:c.length=I.sz:=g3 c (by rw[ho];simp);have jg:I.es.flatten=c:=(by rw[ho];simp);have hcs : ∀j:Nat,j<c.length-> ∃u,b6[j]? = some u/\Rel w (s.ok g al w) s.aW (s.a0 al) c[j]! u:=(by intro j av;obtain⟨u,jw,-,gP⟩:=g4 j c[j] (by rw[jg];exact dx av);exact⟨u,jw,by rw[getElem!_pos c j av];exact gP⟩);obtain⟨ao,aB⟩:=Av (vs:=(List.range c.length).map fun j=>(b6[j]?).getD undef) dg H bz hy (fun p ah=>a5 p (by simp[ah])) (fun y _=>bz.all _ aL.1 y) (by simp) (by intro j y u aP hu;have av:=fN aP;rw[dJ,List.getElem?_range av] at hu;simp only[dQ,dy] at hu;obtain⟨kH,jw,gP⟩:=hcs j av;rw[jw] at hu;simp at hu;subst hu;rw[dx av] at aP;simp at aP;subst aP;rw[getElem!_pos c j av] at gP;exact gP);have s4:ht [dW]:=a5 _ (by simp);refine .e4 i off du aL.1 (H.aV r aL.2 k I du aL.1) (by rw[ho];simp) s4 (by simp;omega) (by rw[ho];rfl) ?_;intro j y lD aP nJ;rw[jg] at aP;simp only[afb,List.flatten_nil,List.append_nil] at nJ;exact aB j y lD aP nJ
 | tb l =>
  simp only[n7] at h;split at h;rotate_left
  ·simp at h
  rename_i r k;split at h;rotate_left
  ·simp at h
  rename_i I ai;split at h;rotate_left
  ·simp at h
  rename_i c ho;split at h;rotate_left
  ·simp at h
  rename_i aL;simp only[afd,Option.isNone_iff_eq_none] at aL;split at h;rotate_left
  ·simp at h
  rename_i dW nc hy;simp only[dy,dC] at h;obtain⟨rfl,rfl⟩:=h;have du:s.af r k=some I:=ai;have fv:=dg.obj r k I du
  cases ah:al r k with
  | none=>rw[ah] at fv;simp only[iJ] at fv;rw[ho] at fv;simp at fv
  | some q =>
   obtain⟨b,m⟩:=q;rw[ah] at fv;obtain⟨b6,ef,g1,g2,g3,g4⟩:=fv;have Iu:c.length=I.sz:=g3 c (by rw[ho];simp);have jg:I.es.flatten=c:=(by rw[ho];simp);have hcs : ∀j:Nat,j<c.length-> ∃u,b6[j]? = some u/\Rel w (s.ok g al w) s.aW (s.a0 al) c[j]! u:=(by intro j av;obtain⟨u,jw,-,gP⟩:=g4 j c[j] (by rw[jg];exact dx av);exact⟨u,jw,by rw[getElem!_pos c j av];exact gP⟩);obtain⟨ao,aB⟩:=Av (vs:=(List.range c.length).map fun j=>(b6[j]?).getD undef) dg H bz hy (fun p ah=>a5 p (by simp[ah])) (fun y _=>bz.all _ aL.1 y) (by simp) (by intro j y u aP hu;have av:=fN aP;rw[dJ,List.getElem?_range av] at hu;simp only[dQ,dy] at hu;obtain⟨kH,jw,gP⟩:=hcs j av;rw[jw] at hu;simp at hu;subst hu;rw[dx av] at aP;simp at aP;subst aP;rw[getElem!_pos c j av] at gP;exact gP);have s4:ht [dW]:=a5 _ (by simp);refine .eW (.e4 0 0 du aL.1 (H.aV r aL.2 k I du aL.1) (by rw[ho];simp) s4 (by simp;omega) (by rw[ho];rfl) ?_);intro j y lD aP nJ;rw[jg] at aP;simp only[afb,List.flatten_nil,List.append_nil] at nJ;exact aB j y lD aP nJ
theorem Az (dg:h3 g s al w)(H:mq s aO b7 bI)(bz:tG q bI){c:kE}{x cA:an}{af:List Prop}(h:nv s.aH b7 aO bI c x=some (cA,af))(a5:∀p∈af,p)
 (a2:q x) {v:Value} (aj:Rel w (s.ok g al w) s.aW (s.a0 al) x v):hD s aO bI q x cA:=by
 have key : ∀(l:List zu) (c dW:List an) (nc:List Prop) (vs:List Value),k7 (n7 s.aH b7 aO bI) l c=some (dW,nc)->(∀p∈nc,p)->(∀x∈c,q x)->vs.length=c.length ->
  (∀(j:Nat) x u,c[j]? = some x->vs[j]? = some u->Rel w (s.ok g al w) s.aW (s.a0 al) x u)->dW.length=c.length/\ ∀(j:Nat) x cA,c[j]? = some x->dW[j]? = some cA->hD s aO bI q x cA:=by
  intro l c dW nc vs h a5 a2 aF aj;obtain⟨ao,aB,bT⟩:=DH _ l c dW nc h;refine⟨ao,fun j x cA aa dl=> ?_⟩;obtain⟨y,bX,f1,f2,f3⟩:=bT j x cA aa dl;have dq:j<vs.length:=(by have:=fN aa;omega);exact He dg H bz f2 (fun p ah=>a5 p (f3 p ah)) (a2 x (dG aa)) (aj j x _ aa (dx dq))
 cases c with
 | bB c =>
  simp only[nv] at h;split at h
  ·rename_i aV
   split at h
   ·simp only[dy,dC] at h;obtain⟨rfl,rfl⟩:=h;exact .pure (aj.Zp aV) a2
   exact He dg H bz h a5 a2 aj
  exact He dg H bz h a5 a2 aj
 | comp l =>
  cases x<;>simp only[nv,reduceCtorEq] at h
  ·rename_i c
   split at h
   ·rename_i dW nc aL;simp only[dy,dC] at h;obtain⟨rfl,rfl⟩:=h;obtain⟨vs,rfl,aF,BR⟩:=aj.yo;obtain⟨ao,aB⟩:=key l c dW nc vs aL a5 (fun y aP=>bz.cZ _ _ a2 aP) aF BR;exact .cZ ao aB
   simp at h
  rename_i f c;split at h
  ·rename_i dW nc aL;simp only[dy,dC] at h;obtain⟨rfl,rfl⟩:=h;obtain⟨vs,rfl,aF,BR⟩:=aj.D6;obtain⟨ao,aB⟩:=key l c dW nc vs aL a5 (fun y aP=>bz.fn _ _ _ a2 aP) aF BR;exact .fn ao aB
  simp at h
theorem PX (dg:h3 g s al w)(H:mq s aO b7 bI){r:Nat}{jK:Nat->Nat}{row:List aM}(cV:∀k I,cX (some row) k=some I->s.af r (jK k)=some I)
 (a2 : ∀k I,cX (some row) k=some I-> ∀e∈I.es,∀x∈e,q x) :
 ∀(k:Nat) bX,cX (some (row.map (jD b7))) k=some bX-> ∃I,cX (some row) k=some I/\oe s aO bI q I bX:=by
 intro k bX du;rw[jX,dJ] at du
 cases aQ:row[k]? with
 | none=>rw[aQ] at du;simp at du
 | some I =>
  rw[aQ] at du;simp only[dQ,dB] at du;split at du
  ·simp at du
  rename_i dt;simp only[dy] at du;subst du;have ai:cX (some row) k=some I:=(by rw[jX,aQ,dB,dA (by simpa [jD] using dt)]);have bO:s.af r (jK k)=some I:=cV k I ai;refine⟨I,ai,?_⟩;have fv:=dg.obj r (jK k) I bO
  have hlen : ∀e∈I.es,e.length=I.sz:=by
   cases ah:al r (jK k) with
   | none=>rw[ah] at fv;simp only[iJ] at fv;rw[fv];simp
   | some q=>rw[ah] at fv;obtain⟨_,_,_,_,e,_⟩:=fv;exact e
  refine⟨rfl,.inl rfl,by simp[jD],?_,fun j x cA aa dl=> ?_⟩
  ·intro e he;simp only[jD,List.mem_map] at he;obtain⟨er,lr,rfl⟩:=he;simpa using hlen er lr
  simp only[jD] at dl;rw[map_flatten,dJ,aa] at dl;simp only[dQ,dy] at dl;subst dl;obtain⟨e,he,qN⟩:=sH aa;have aaQ:=a2 k I ai e he x qN
  cases ah:al r (jK k) with
  | none=>rw[ah] at fv;simp only[iJ] at fv;rw[fv] at aa;simp at aa
  | some tF =>
   obtain⟨b,m⟩:=tF;rw[ah] at fv;obtain⟨c,ef,f1,f2,f3,f4⟩:=fv;obtain⟨u,jw,mo,gP⟩:=f4 j x aa
   cases x with
   | ref bu h1 nk ZX =>
    cases ch:b7 bu with
    | none=>simp only[nI,ch];exact .dead _
    | some Fm=>simp only[nI,ch];exact .ref nk ZX (H.ae _ _ ch _) (by cases gP<;>assumption)
   | bK bu h1 EP Ex =>
    cases ch:b7 bu with
    | none=>simp only[nI,ch];exact .dead _
    | some Fm=>simp only[nI,ch];exact .bK EP Ex (H.ae _ _ ch _) (by cases gP<;>assumption)
   | iA bu cF QQ J =>
    cases ch:b7 bu with
    | none=>simp only[nI,ch];exact .dead _
    | some Fm=>simp only[nI,ch];exact .iA J (fun k=>H.ae _ _ ch _)
   | _ =>
    simp only[nI];split
    ·rename_i aV;exact .pure (gP.yI aV) aaQ
    exact .dead _
theorem DI (dg:h3 g s al w)(H:mq s aO b7 bI)(bz:tG q bI){c:h6}{r:Nat}{jK:Nat->Nat}{row dU:List aM}{af:List Prop}(cV:∀k I,cX (some row) k=some I->s.af r (jK k)=some I)
 (h:iR s.aH b7 aO bI c row=some (dU,af)) (a5 : ∀p∈af,p) (a2 : ∀k I,cX (some row) k=some I-> ∀e∈I.es,∀x∈e,q x) :
 dU.length=row.length/\(∀k I,cX (some row) k=some I->I.cg = .live) /\
 ∀(k:Nat) bX,cX (some dU) k=some bX-> ∃I,cX (some row) k=some I/\oe s aO bI q I bX:=by
 have hlen : ∀k I,cX (some row) k=some I-> ∀e∈I.es,e.length=I.sz:=by
  intro k I ai;have du:s.af r (jK k)=some I:=cV k I ai;have fv:=dg.obj r (jK k) I du
  cases ah:al r (jK k) with
  | none=>rw[ah] at fv;simp only[iJ] at fv;rw[fv];simp
  | some q=>rw[ah] at fv;obtain⟨_,_,_,_,e,_⟩:=fv;exact e
 have s4:tT row->(∀k I,cX (some row) k=some I->I.cg = .live) /\
  ∀(k:Nat) bX,cX (some row) k=some bX-> ∃I,cX (some row) k=some I/\oe s aO bI q I bX:=by
  intro ah
  have qI : ∀k I,cX (some row) k=some I->I∈row:=by
   intro k I ai;unfold cX at ai;simp only at ai;split at ai
   ·rename_i bX du
    split at ai
    ·simp at ai
    simp at ai;subst ai;exact dG du
   simp at ai
  refine⟨fun k I ai=>(ah I (qI k I ai)).2,fun k I ai=>⟨I,ai,rfl,.inl rfl,rfl,hlen k I ai,fun j x cA aa dl=> ?_⟩⟩;rw[aa] at dl;simp at dl;subst dl;obtain⟨e,he,qN⟩:=sH aa;exact .pure ((ah I (qI k I ai)).1 e he x qN) (a2 k I ai e he x qN)
 cases c with
 | pure =>
  simp only[iR,dy,dC] at h;obtain⟨rfl,rfl⟩:=h;exact⟨rfl,s4 (a5 _ (by simp))⟩
 | dp a9 =>
  simp only[iR,dy,dC] at h;obtain⟨rfl,rfl⟩:=h;have e:row=a9:=a5 _ (by simp);subst e;exact⟨rfl,s4 (a5 _ (by simp))⟩
 | b9 a9 =>
  simp only[iR,dy,dC] at h;obtain⟨rfl,rfl⟩:=h;have e:a9=row.map (jD b7):=a5 _ (by simp);have I5:oI row:=a5 _ (by simp);subst e
  refine⟨by simp,fun k I ai=>by
   unfold cX at ai;simp only at ai;split at ai
   ·rename_i bX du
    split at ai
    ·simp at ai
    rename_i dt;simp at ai;subst ai;exact(I5 _ (dG du)).resolve_right dt
   simp at ai,PX dg H cV a2⟩
 | rx a9=>cases row with
  | nil=>simp[iR] at h
  | cons I l=>cases l<;>simp[iR] at h
 | drop=>cases row with
  | nil=>simp[iR] at h
  | cons I l=>cases l<;>simp[iR] at h
 | box l =>
  match row,h with
  | [I],h =>
   simp only[iR] at h;split at h;rotate_left
   ·simp at h
   rename_i c ho;split at h;rotate_left
   ·simp at h
   rename_i mJ;split at h;rotate_left
   ·simp at h
   rename_i dW nc aL;simp only[dy,dC] at h;obtain⟨rfl,rfl⟩:=h;have h0:cX (some [I]) 0=some I:=(by rw[lM];simp[mJ]);refine⟨rfl,fun k p ah=> ?_,fun k p ah=> ?_⟩
   ·rw[lM] at ah
    split at ah
    ·simp at ah;subst ah;exact mJ
    simp at ah
   rw[lM] at ah;split at ah;rotate_left
   ·simp at ah
   rename_i tl;obtain⟨rfl,-⟩:=tl;simp only[dy] at ah;subst ah;refine⟨I,h0,?_⟩;have du:s.af r (jK 0)=some I:=cV 0 I h0;have fv:=dg.obj r (jK 0) I du
   cases jZ:al r (jK 0) with
   | none=>rw[jZ] at fv;simp only[iJ] at fv;rw[ho] at fv;simp at fv
   | some q =>
    obtain⟨b,m⟩:=q;rw[jZ] at fv;obtain⟨b6,ef,g1,g2,g3,g4⟩:=fv;have Iu:c.length=I.sz:=g3 c (by rw[ho];simp);have jg:I.es.flatten=c:=(by rw[ho];simp);obtain⟨ao,aB⟩:=Av (vs:=(List.range c.length).map fun j=>(b6[j]?).getD undef) dg H bz aL a5 (fun y aP=>a2 0 I h0 c (by rw[ho];simp) y aP) (by simp) (by intro j y u aP hu;have av:=fN aP;rw[dJ,List.getElem?_range av] at hu;simp only[dQ,dy] at hu;obtain⟨kH,jw,-,gP⟩:=g4 j y (by rw[jg];exact aP);rw[jw] at hu;simp at hu;subst hu;exact gP);refine⟨rfl,.inl rfl,by simp[ho],by simp;omega,fun j x cA aa dl=> ?_⟩;rw[jg] at aa;simp only[afb,List.flatten_nil,List.append_nil] at dl;exact aB j x cA aa dl
  | [],h=>simp[iR] at h
  | _::_::_,h=>simp[iR] at h
end
def DJ (P:Program)(f:FuncId):Prop:= ∃fn,P.funcs[f]? = some fn/\(fn.name == "runtime.NumGoroutine")=false/\fn.body.isSome=true
def Con (P:Program)(f:FuncId)(args:List an)(T:List (List aM))(r:an)(i9:List (List aM)):Prop:=DJ P f/\Zm P f args T r i9
def s5 (k:fZ):Bool:=k = .iB
def lR (_:fZ):Bool:=true
def kj (_:fZ):Bool:=false
def Src.r:Src->Nat
 | .row r=>r
 | .af r _ _=>r
def Src.has:Src->Nat->Nat->Prop
 | .row r,q,_=>q=r
 | .af r k _,q,dn=>q=r/\dn=k
def Src.jT:Src->Nat->Nat
 | .row _,k=>k
 | .af ..,_=>0
def lc (l:List Src):gC:=fun j i=>match l[j]? with
 | some (.row r)=>some (r,i)
 | some (.af r k _)=>if i=0 then some (r,k) else none
 | none=>none
def oO (n:Nat):List Src->Nat->Option Nat
 | [],_=>none
 | .row r::l,q=>if r=q then some n else oO (n+1) l q
 | .af .. :: l,q=>oO (n+1) l q
def i5 (n:Nat):List Src->gC
 | [],_,_=>none
 | .row r::l,q,k=>if q=r then some (n,k) else i5 (n+1) l q k
 | .af r dn _::l,q,k=>if q=r/\k=dn then some (n,0) else i5 (n+1) l q k
def s6 (l:List Src):Nat->Option Nat:=fun j=>match l[j]? with
 | some (.row r)=>some r
 | _=>none
def apart:Src->Src->Option (List Prop)
 | .af r k _,.af ep dn _=>if r=ep then some [k≠dn] else some []
 | a,b=>if a.r=b.r then none else some []
def D8 (a:Src):List Src->Option (List Prop)
 | []=>some []
 | b::l=>match apart a b,D8 a l with
  | some x,some y=>some (x++y)
  | _,_=>none
def Ej:List Src->Option (List Prop)
 | []=>some []
 | a::l=>match D8 a l,Ej l with
  | some x,some y=>some (x++y)
  | _,_=>none
def Bw (l:List Src):Prop:=l.Pairwise fun a b=> ∀r k,¬(a.has r k/\b.has r k)
theorem WM {a b:Src}{af:List Prop}(h:apart a b=some af)(a5:∀p∈af,p): ∀r k,¬(a.has r k/\b.has r k):=by
 rintro r k ⟨o,J⟩
 have aj : ∀c:Src,c.has r k->c.r=r:=fun c aL=>by
  cases c with
  | row r0=>exact Eq.symm aL
  | af r0 iZ kW=>exact Eq.symm aL.1
 have e:=(aj a o).trans (aj b J).symm
 cases a with
 | row r0=>simp only[apart] at h;rw[dw e] at h;simp at h
 | af r0 iZ kW =>
  cases b with
  | row ad=>simp only[apart] at h;rw[dw e] at h;simp at h
  | af ad jU bS =>
   simp only[apart] at h;rw[dw (show r0=ad from e)] at h;simp only[dy] at h;subst h;exact a5 _ (List.mem_singleton.2 rfl) (o.2.symm.trans J.2)
theorem NF {a:Src}: ∀ {l:List Src} {af:List Prop},D8 a l=some af->(∀p∈af,p)-> ∀b∈l,∀r k,¬(a.has r k/\b.has r k)
 | [],_,_,_,_,aN=>by simp at aN
 | b::l,af,h,a5,c,aL=>by
  simp only[D8] at h;split at h
  ·rename_i x y o J
   simp only[dy] at h;subst h;rcases dO.1 aL with rfl|aL
   ·exact WM o fun p ah=>a5 p (by simp[ah])
   exact NF J (fun p ah=>a5 p (by simp[ah])) c aL
  simp at h
theorem N6 : ∀ {l:List Src} {af:List Prop},Ej l=some af->(∀p∈af,p)->Bw l
 | [],_,_,_=>List.Pairwise.nil
 | a::l,af,h,a5=>by
  simp only[Ej] at h;split at h
  ·rename_i x y o J;simp only[dy] at h;subst h;exact List.pairwise_cons.2 ⟨NF o fun p ah=>a5 p (by simp[ah]),N6 J fun p ah=>a5 p (by simp[ah])⟩
  simp at h
theorem tU {l:List Src}{j i r k:Nat}:lc l j i=some (r,k)↔ ∃a,l[j]? = some a/\a.has r k/\i=a.jT k:=by
 unfold lc
 cases h:l[j]? with
 | none=>simp
 | some a =>
  cases a with
  | row r0 =>
   simp only[dy,dC,exists_eq_left',Src.has,Src.jT];constructor<;>rintro⟨a,b⟩<;>exact⟨a.symm,b⟩
  | af r0 iZ I =>
   simp only[dy,exists_eq_left',Src.has,Src.jT];by_cases e:i=0
   ·rw[dw e];simp only[dy,dC,e,and_true];constructor<;>rintro⟨a,b⟩<;>exact⟨a.symm,b.symm⟩
   rw[dA e];simp[e]
theorem vh : ∀ {l:List Src} {n r k j i:Nat},i5 n l r k=some (j,i)-> ∃a,n<=j/\l[j-n]? = some a/\a.has r k/\i=a.jT k
 | [],_,_,_,_,_,h=>by simp[i5] at h
 | .row r0::l,n,r,k,j,i,h=>by
  simp only[i5] at h;split at h
  ·rename_i e;simp only[dy,dC] at h;obtain⟨rfl,rfl⟩:=h;exact⟨.row r0,dE _,by simp,e,rfl⟩
  obtain⟨a,o,J,ab,aA⟩:=vh h;exact⟨a,by omega,by rw[show j-n=(j-(n+1))+1 by omega,List.getElem?_cons_succ];exact J,ab,aA⟩
 | .af r0 iZ I::l,n,r,k,j,i,h=>by
  simp only[i5] at h;split at h
  ·rename_i e;simp only[dy,dC] at h;obtain⟨rfl,rfl⟩:=h;exact⟨.af r0 iZ I,dE _,by simp,e,rfl⟩
  obtain⟨a,o,J,ab,aA⟩:=vh h;exact⟨a,by omega,by rw[show j-n=(j-(n+1))+1 by omega,List.getElem?_cons_succ];exact J,ab,aA⟩
theorem r4 (n:Nat)(a:Src)(l:List Src)(r k:Nat)(h:¬a.has r k):i5 n (a::l) r k=i5 (n+1) l r k:=by cases a<;>simp only[i5,Src.has] at h ⊢ <;> rw[dA h]
theorem WN (n:Nat)(a:Src)(l:List Src)(r k:Nat)(h:a.has r k):i5 n (a::l) r k=some (n,a.jT k):=by cases a<;>simp only[i5,Src.has,Src.jT] at h ⊢ <;> rw[dw h]
theorem AS : ∀ {l:List Src} {n r k j:Nat} {a:Src},Bw l->l[j]? = some a->a.has r k->i5 n l r k=some (n+j,a.jT k)
 | b::l,n,r,k,0,a,_,h,bA=>by simp at h;subst h;exact WN n b l r k bA
 | b::l,n,r,k,j+1,a,bz,h,bA=>by simp at h;have bz:=List.pairwise_cons.1 bz;rw[r4 n b l r k fun aN=>bz.1 a (dG h) r k ⟨aN,bA⟩,AS (j:=j) bz.2 h bA];congr 2;omega
theorem Yy {a:Src}{r k ep dn:Nat}(h:a.has r k)(cf:a.has ep dn)(e:a.jT k=a.jT dn):r=ep/\k=dn:=by cases a<;>simp only[Src.has,Src.jT] at h cf e<;>omega
theorem XK {l:List Src}{n r k ep dn:Nat}{p:Nat×Nat}(h:i5 n l r k=some p)(cf:i5 n l ep dn=some p):r=ep/\k=dn:=by obtain⟨j,i⟩:=p;obtain⟨a,o,J,ab,aA⟩:=vh h;obtain⟨dr,ur,EQ,aaR,aee⟩:=vh cf;rw[J] at EQ;simp at EQ;subst EQ;exact Yy ab aaR (by omega)
theorem G3 : ∀ {l:List Src} {n r j:Nat},oO n l r=some j->n<=j/\l[j-n]? = some (.row r)
 | [],_,_,_,h=>by simp[oO] at h
 | .row r0::l,n,r,j,h=>by
  simp only[oO] at h;split at h
  ·rename_i e;simp at h;subst h;subst e;exact⟨dE _,by simp⟩
  obtain⟨o,J⟩:=G3 h;exact⟨by omega,by rw[show j-n=(j-(n+1))+1 by omega,List.getElem?_cons_succ];exact J⟩
 | .af r0 iZ I::l,n,r,j,h=>by simp only[oO] at h;obtain⟨o,J⟩:=G3 h;exact⟨by omega,by rw[show j-n=(j-(n+1))+1 by omega,List.getElem?_cons_succ];exact J⟩
theorem NG : ∀ {l:List Src} {n r:Nat},oO n l r=none->Src.row r ∉ l
 | [],_,_,_=>by simp
 | .row r0::l,n,r,h=>by
  simp only[oO] at h;split at h
  ·simp at h
  rename_i e;simp only[dO,Src.row.injEq,not_or];exact⟨fun h=>e h.symm,NG h⟩
 | .af r0 iZ I::l,n,r,h=>by simp only[oO] at h;simp only[dO,reduceCtorEq,false_or];exact NG h
def lO (aH:Nat->Option (List aM))(b7:Nat->Option Nat)(aO:gC):List Src->List h6->Option (List (List aM)×List Prop)
 | [],[]=>some ([],[])
 | .row r::l,c::cn=>match aH r with
  | some row=>match iR aH b7 aO s5 c row,lO aH b7 aO l cn with
   | some (dU,bS),some (T,aY)=>some (dU::T,bS++aY)
   | _,_=>none
  | none=>none
 | .af r k I::l,c::cn=>match aH r with
  | some row=>match iR aH b7 aO s5 c [I],lO aH b7 aO l cn with
   | some (dU,bS),some (T,aY)=>some (dU::T,(cX (some row) k=some I)::(bS++aY))
   | _,_=>none
  | none=>none
 | _,_=>none
def kv (wG:Nat->Option (List aM))(b7:Nat->Option Nat)(kf:gC):(Nat->Option (List aM))->List Src->List h6->List (List aM)->Option (List (Nat×List aM)×List Prop)
 | _,[],[],[]=>some ([],[])
 | aH,.row q::l,c::cn,row::T=>match iR wG b7 kf kj c row with
  | some (dU,bS)=>match kv wG b7 kf (fun x=>if x=q then some dU else aH x) l cn T with
   | some (u,aY)=>some ((q,dU)::u,bS++aY)
   | none=>none
  | none=>none
 | aH,.af q k _::l,c::cn,row::T=>match aH q with
  | some lb=>match iR wG b7 kf kj c row with
   | some ([bX],bS)=>match kv wG b7 kf (fun x=>if x=q then some (lb.set k bX) else aH x) l cn T with
    | some (u,aY)=>some ((q,lb.set k bX)::u,bS++aY)
    | none=>none
   | _=>none
  | none=>none
 | _,_,_,_=>none
def uu (T:List (List aM)):Prop:= ∀row∈T,∀I∈row,∀e∈I.es,∀x∈e,ck x
def yJ (P:Program)(aH:Nat->Option (List aM))(aR:Nat)(f:FuncId)(args:List an)(b6:zv):Option gM :=
 let l:=if b6.de.length=b6.aO.length then b6.aO else b6.aO++[.row aR]
 match Ej b6.aO with
 | none=>none
 | some kW =>
  if b6.aO.any (fun a=>decide (a.r=aR)) then none else
  if b6.c1 then
   match b6.aO with
   | [] =>
    match k7 (nv aH (fun _=>none) (lc []) lR) b6.ac args,nv (fun j=>b6.de[j]?) (s6 l) (i5 0 l) kj b6.eE b6.r,
     kv (fun j=>b6.de[j]?) (s6 l) (i5 0 l) aH l b6.fo b6.de with
    | some (qE,bS),some (ep,gm),some (u,fs)=>some {val:=ep,fz:=u,eX:=bS++gm++fs++[Con P f qE [] b6.r b6.de,ck b6.r]++(if b6.de.isEmpty then [] else [uu b6.de])}
    | _,_,_=>none
   | _=>none
  else
   match k7 (nv aH (oO 0 b6.aO) (lc b6.aO) s5) b6.ac args,lO aH (oO 0 b6.aO) (lc b6.aO) b6.aO b6.cn,
    nv (fun j=>b6.de[j]?) (s6 l) (i5 0 l) kj b6.eE b6.r,kv (fun j=>b6.de[j]?) (s6 l) (i5 0 l) aH l b6.fo b6.de with
   | some (qE,bS),some (T,aY),some (ep,gm),some (u,fs) =>
    some {val:=ep,fz:=u,eX:=kW++bS++aY++gm++fs++[Con P f qE T b6.r b6.de]}
   | _,_,_,_=>none
theorem Nd {aH:Nat->Option (List aM)}{b7:Nat->Option Nat}{aO:gC}{bI:fZ->Bool}{c:h6}{row dU:List aM}{af:List Prop}(h:iR aH b7 aO bI c row=some (dU,af))(a5:∀p∈af,p):
 ∀k I,cX (some row) k=some I->I.cg = .live:=by
 have qI : ∀k I,cX (some row) k=some I->I∈row/\I.cg≠ .gone:=by
  intro k I ai;rw[jX] at ai
  cases aQ:row[k]? with
  | none=>rw[aQ] at ai;simp at ai
  | some p =>
   rw[aQ,dB] at ai;split at ai
   ·simp at ai
   rename_i e;simp at ai;subst ai;exact⟨dG aQ,e⟩
 intro k I ai;obtain⟨o,J⟩:=qI k I ai
 cases c with
 | pure =>
  simp only[iR,dy,dC] at h;obtain⟨rfl,rfl⟩:=h;exact((a5 _ (List.mem_singleton.2 rfl):tT row) I o).2
 | dp a9 =>
  simp only[iR,dy,dC] at h;obtain⟨rfl,rfl⟩:=h;have e:row=a9:=a5 _ (by simp);have ah:tT a9:=a5 _ (by simp);exact(ah I (e▸o)).2
 | b9 a9 =>
  simp only[iR,dy,dC] at h;obtain⟨rfl,rfl⟩:=h;have ah:oI row:=a5 _ (by simp);exact(ah I o).resolve_right J
 | rx a9=>cases row with
  | nil=>simp[iR] at h
  | cons I l=>cases l<;>simp[iR] at h
 | drop=>cases row with
  | nil=>simp[iR] at h
  | cons I l=>cases l<;>simp[iR] at h
 | box l =>
  match row,h,o with
  | [p],h,o =>
   simp only[iR] at h;rw[List.mem_singleton] at o;subst o;split at h
   ·split at h
    ·rename_i e;exact e
    simp at h
   simp at h
  | [],h,_=>simp[iR] at h
  | _::_::_,h,_=>simp[iR] at h
section
variable {P:Program} {g:G} {s:S} {al:fj} {a:Act} {w:World}
theorem G4 (dg:h3 g s al w){aO:gC}{b7:Nat->Option Nat}(H:mq s aO b7 s5): ∀(l:List Src) (cn:List h6) (T:List (List aM)) (af:List Prop),
 lO s.aH b7 aO l cn=some (T,af)->(∀p∈af,p)->T.length=l.length/\ ∀(j:Nat) dU b,T[j]? = some dU->l[j]? = some b ->
  (∀r k I,b.has r k->s.af r k=some I->I.cg = .live)/\(∀r k,b.has r k->s.aW r k->b.jT k<dU.length) /\
  (∀r k I,b = .af r k I->s.af r k=some I) /\
  ∀(i:Nat) bX,cX (some dU) i=some bX-> ∃r k I,b.has r k/\i=b.jT k/\s.af r k=some I/\oe s aO s5 ly I bX
 | [],[],T,af,h,_=>by simp[lO] at h;obtain⟨rfl,rfl⟩:=h;exact⟨rfl,fun j dU r av=>by simp at av⟩
 | .row r::l,c::cn,T,af,h,a5=>by
  simp only[lO] at h;split at h;rotate_left
  ·simp at h
  rename_i row cV;split at h;rotate_left
  ·simp at h
  rename_i aq bS mT aY o J;simp only[dy,dC] at h;obtain⟨rfl,rfl⟩:=h;obtain⟨ao,aB⟩:=G4 dg H l cn mT aY J (fun p ah=>a5 p (by simp[ah]));have iy : ∀k,s.af r k=cX (some row) k:=fun k=>(by unfold S.af;rw[cV]);obtain⟨f0,f1,f2⟩:=DI (q:=ly) (jK:=id) dg H (us _) (fun k I ai=>(iy k).trans ai) o (fun p ah=>a5 p (by simp[ah])) (fun _ _ _ _ _ _ _=>trivial);refine⟨by simp[ao],fun j dU b av aN=> ?_⟩
  cases j with
  | zero =>
   simp at av aN;subst av;subst aN;refine⟨fun q k I a2 ai=> ?_,fun q k a2 hu=> ?_,fun _ _ _ e=>by simp at e,fun i bX du=> ?_⟩
   ·have a2:q=r:=a2;subst a2;rw[iy] at ai;exact f1 k I ai
   ·have a2:q=r:=a2;subst a2;rw[f0];simpa [S.aW,cV,Src.jT] using hu
   obtain⟨I,g1,g2⟩:=f2 i bX du;exact⟨r,i,I,rfl,rfl,(iy i).trans g1,g2⟩
  | succ j=>simp at av aN;exact aB j dU b av aN
 | .af r iZ kW::l,c::cn,T,af,h,a5=>by
  simp only[lO] at h;split at h;rotate_left
  ·simp at h
  rename_i row cV;split at h;rotate_left
  ·simp at h
  rename_i aq bS mT aY o J;simp only[dy,dC] at h;obtain⟨rfl,rfl⟩:=h;obtain⟨ao,aB⟩:=G4 dg H l cn mT aY J (fun p ah=>a5 p (by simp[ah]));have ai:s.af r iZ=some kW:=by unfold S.af;rw[cV];exact a5 _ (by simp)
  have ln : ∀k I,cX (some [kW]) k=some I->k=0/\I=kW:=fun k I aQ=>by
   rw[lM] at aQ;split at aQ
   ·rename_i e;simp at aQ;exact⟨e.1,aQ.symm⟩
   simp at aQ
  have I6:kW.cg≠ .gone:=by
   unfold S.af at ai;rw[cV,jX] at ai
   cases aQ:row[iZ]? with
   | none=>rw[aQ] at ai;simp at ai
   | some p =>
    rw[aQ,dB] at ai;split at ai
    ·simp at ai
    rename_i e;simp at ai;subst ai;exact e
  obtain⟨f0,f1,f2⟩:=DI (q:=ly) (jK:=fun _=>iZ) (r:=r) dg H (us _) (fun k I aQ=>by rw[(ln k I aQ).2];exact ai) o (fun p ah=>a5 p (by simp[ah])) (fun _ _ _ _ _ _ _=>trivial);refine⟨by simp[ao],fun j dU b av aN=> ?_⟩
  cases j with
  | zero =>
   simp at av aN;subst av;subst aN;refine⟨fun q k I a2 p7=> ?_,fun q k a2 hu=> ?_,fun ep dn bX e=> ?_,fun i bX du=> ?_⟩
   ·obtain⟨rfl,rfl⟩:q=r/\k=iZ:=a2;rw[ai] at p7;simp at p7;subst p7;exact f1 0 kW (by rw[lM];simp[I6])
   ·rw[f0];simp[Src.jT]
   ·cases e;exact ai
   obtain⟨I,g1,g2⟩:=f2 i bX du;obtain⟨rfl,rfl⟩:=ln i I g1;exact⟨r,iZ,I,⟨rfl,rfl⟩,rfl,ai,g2⟩
  | succ j=>simp at av aN;exact aB j dU b av aN
 | [],_::_,_,_,h,_=>by simp[lO] at h
 | .row _::_,[],_,_,h,_=>by simp[lO] at h
 | .af .. :: _,[],_,_,h,_=>by simp[lO] at h
theorem GS {fK:G}{s1:S}{kr:fj}{bx:World}(dg:h3 fK s1 kr bx){kf:gC}{q:an->Prop}{b7:Nat->Option Nat}(H:mq s1 kf b7 kj)(bz:tG q kj)
 (a2 : ∀j i I,s1.af j i=some I-> ∀e∈I.es,∀x∈e,q x) :
 ∀(l:List Src) (cn:List h6) (T:List (List aM)) (u:List (Nat×List aM)) (af:List Prop) (n:Nat) (s:S),Bw l->(∀j row,T[j]? = some row->s1.aH (n+j)=some row) ->
 (∀r k j i,i5 n l r k=some (j,i)->s.aW r k->s1.aW j i)->(∀r k I,Src.af r k I∈l->s.aW r k) ->
 kv s1.aH b7 kf s.aH l cn T=some (u,af)->(∀p∈af,p)->T.length=l.length/\(s.hN u).E=s.E /\
  (∀r k I,(s.hN u).af r k=some I->(∃j i p,i5 n l r k=some (j,i)/\s1.af j i=some p/\oe s1 kf kj q p I)\/(i5 n l r k=none/\s.af r k=some I)) /\
  (∀r k,s.aW r k->(s.hN u).aW r k)/\(∀r k j i,i5 n l r k=some (j,i)->s1.aW j i->(s.hN u).aW r k)
 | [],[],[],u,af,n,s,_,_,_,_,h,_=>by simp[kv] at h;obtain⟨rfl,rfl⟩:=h;exact⟨rfl,rfl,fun r k I ai=> .inr ⟨rfl,ai⟩,fun r k h=>h,fun r k j i h=>by simp[i5] at h⟩
 | .row q0::l,c::cn,row::T,u,af,n,s,q1,h7,hu,rz,h,a5=>by
  simp only[kv] at h;split at h;rotate_left
  ·simp at h
  rename_i dU bS o;split at h;rotate_left
  ·simp at h
  rename_i mo aY J;simp only[dy,dC] at h;obtain⟨rfl,rfl⟩:=h;have BS:=List.pairwise_cons.1 q1;have iD:s1.aH n=some row:=h7 0 row rfl;have vS : ∀k,s1.af n k=cX (some row) k:=fun k=>(by unfold S.af;rw[iD]);obtain⟨f0,f1,f2⟩:=DI (q:=q) (jK:=id) (r:=n) dg H bz (fun k I ai=>(vS k).trans ai) o (fun p ah=>a5 p (by simp[ah])) (fun k I ai=>a2 n k I ((vS k).trans ai));have hc : ∀k j i,i5 (n+1) l q0 k≠some (j,i):=fun k j i hm=>by obtain⟨b,hZ,gr,qj,J6⟩:=vh hm;exact BS.1 b (dG gr) q0 k ⟨rfl,qj⟩
  have yR : ∀r k,s.aW r k->(s.setRow q0 dU).aW r k:=fun r k aQ=>by
   rw[m1];by_cases e:r=q0
   ·subst e;rw[dw rfl,f0];have:=hu r k n k (by simp[i5]) aQ;simpa [S.aW,iD] using this
   rw[dA e];exact aQ
  obtain⟨ao,aB,bT,di,ew⟩:=GS dg H bz a2 l cn T mo aY (n+1) (s.setRow q0 dU) BS.2 (fun j row av=>by rw[Nat.add_assoc,Nat.add_comm 1 j];exact h7 (j+1) row (by simpa using av))
   (fun r k j i hm aQ=>by have cx:r≠q0:=(by rintro rfl;exact hc _ _ _ hm);refine hu r k j i ?_ (by rw[m1,dA cx] at aQ;exact aQ);rw[r4 n (.row q0) l r k cx];exact hm)
   (fun r k I hm=>yR r k (rz r k I (by simp[hm]))) J (fun p ah=>a5 p (by simp[ah]))
  refine⟨by simp[ao],aB,fun r k I ai=> ?_,fun r k aQ=>di r k (yR r k aQ),fun r k j i hm aQ=> ?_⟩
  ·rcases bT r k I ai with ⟨j,i,p,hZ,gr,qj⟩|⟨hZ,gr⟩
   ·have cx:r≠q0:=(by rintro rfl;exact hc _ _ _ hZ);exact .inl ⟨j,i,p,by rw[r4 n (.row q0) l r k cx];exact hZ,gr,qj⟩
   rw[kZ] at gr;by_cases e:r=q0
   ·subst e;rw[dw rfl] at gr;obtain⟨p,g1,g2⟩:=f2 k I gr;exact .inl ⟨n,k,p,by simp[i5],(vS k).trans g1,g2⟩
   rw[dA e] at gr;exact .inr ⟨by rw[r4 n (.row q0) l r k e];exact hZ,gr⟩
  by_cases e:r=q0
  ·subst e;simp only[i5,if_true] at hm;simp only[dy,dC] at hm;obtain⟨rfl,rfl⟩:=hm;refine di r k ?_;rw[m1,dw rfl,f0];simpa [S.aW,iD] using aQ
  rw[r4 n (.row q0) l r k e] at hm;exact ew r k j i hm aQ
 | .af q0 iZ kW::l,c::cn,row::T,u,af,n,s,q1,h7,hu,rz,h,a5=>by
  simp only[kv] at h;split at h;rotate_left
  ·simp at h
  rename_i lb Ey;split at h;rotate_left
  ·simp at h
  rename_i bX bS o;split at h;rotate_left
  ·simp at h
  rename_i mo aY J;simp only[dy,dC] at h;obtain⟨rfl,rfl⟩:=h;have BS:=List.pairwise_cons.1 q1;have iD:s1.aH n=some row:=h7 0 row rfl;have vS : ∀k,s1.af n k=cX (some row) k:=fun k=>(by unfold S.af;rw[iD]);obtain⟨f0,f1,f2⟩:=DI (q:=q) (jK:=id) (r:=n) dg H bz (fun k I ai=>(vS k).trans ai) o (fun p ah=>a5 p (by simp[ah])) (fun k I ai=>a2 n k I ((vS k).trans ai));have hc : ∀j i,i5 (n+1) l q0 iZ≠some (j,i):=fun j i hm=>(by obtain⟨b,hZ,gr,qj,J6⟩:=vh hm;exact BS.1 b (dG gr) q0 iZ ⟨⟨rfl,rfl⟩,qj⟩);have yR : ∀r k,s.aW r k->(s.setRow q0 (lb.set iZ bX)).aW r k:=Dd s Ey (by simp);have tl:iZ<lb.length:=by have:=rz q0 iZ kW (by simp);simpa [S.aW,Ey] using this
  obtain⟨ao,aB,bT,di,ew⟩:=GS dg H bz a2 l cn T mo aY (n+1) (s.setRow q0 (lb.set iZ bX)) BS.2 (fun j row av=>by rw[Nat.add_assoc,Nat.add_comm 1 j];exact h7 (j+1) row (by simpa using av))
   (fun r k j i hm aQ=>by
     have cx : ¬(Src.af q0 iZ kW).has r k:=(by rintro⟨rfl,rfl⟩;exact hc _ _ hm);refine hu r k j i (by rw[r4 n _ l r k cx];exact hm) ?_;rw[m1] at aQ;split at aQ
     ·rename_i e;subst e;simpa [S.aW,Ey] using aQ
     exact aQ)
   (fun r k I hm=>yR r k (rz r k I (by simp[hm]))) J (fun p ah=>a5 p (by simp[ah]))
  refine⟨by simp[ao],aB,fun r k I ai=> ?_,fun r k aQ=>di r k (yR r k aQ),fun r k j i hm aQ=> ?_⟩
  ·rcases bT r k I ai with ⟨j,i,p,hZ,gr,qj⟩|⟨hZ,gr⟩
   ·have cx : ¬(Src.af q0 iZ kW).has r k:=(by rintro⟨rfl,rfl⟩;exact hc _ _ hZ);exact .inl ⟨j,i,p,by rw[r4 n _ l r k cx];exact hZ,gr,qj⟩
   rw[kZ] at gr;by_cases e:r=q0
   ·subst e
    rw[dw rfl,jX,aff] at gr;by_cases aB:iZ=k
    ·subst aB;rw[dw rfl,dw tl,dB] at gr;have qj:cX (some [bX]) 0=some I:=(by rw[jX];exact gr);obtain⟨p,g1,g2⟩:=f2 0 I qj;exact .inl ⟨n,0,p,by simp[i5],(vS 0).trans g1,g2⟩
    rw[dA aB] at gr;have cx : ¬(Src.af r iZ kW).has r k:=(by rintro⟨-,rfl⟩;exact aB rfl);exact .inr ⟨by rw[r4 n _ l r k cx];exact hZ,by unfold S.af;rw[Ey,jX];exact gr⟩
   rw[dA e] at gr;have cx : ¬(Src.af q0 iZ kW).has r k:=(by rintro⟨rfl,-⟩;exact e rfl);exact .inr ⟨by rw[r4 n _ l r k cx];exact hZ,gr⟩
  by_cases e:(Src.af q0 iZ kW).has r k
  ·obtain⟨rfl,rfl⟩:=e;exact di r k (yR r k (rz r k kW (by simp)))
  rw[r4 n _ l r k e] at hm;exact ew r k j i hm aQ
 | [],[],_::_,_,_,_,_,_,_,_,_,h,_=>by simp[kv] at h
 | [],_::_,_,_,_,_,_,_,_,_,_,h,_=>by simp[kv] at h
 | .row _::_,[],_,_,_,_,_,_,_,_,_,h,_=>by simp[kv] at h
 | .af .. :: _,[],_,_,_,_,_,_,_,_,_,h,_=>by simp[kv] at h
 | .row _::_,_::_,[],_,_,_,_,_,_,_,_,h,_=>by simp[kv] at h
 | .af .. :: _,_::_,[],_,_,_,_,_,_,_,_,h,_=>by simp[kv] at h
theorem N7 (h:cq g s al a w){aR:Nat}(ey:s.aH aR=none){f:FuncId}{args:List an}{b6:zv}{l:List Src}(nb:l=if b6.de.length=b6.aO.length then b6.aO else b6.aO++[.row aR])
 (q1:Bw b6.aO) (we : ∀a∈b6.aO,a.r≠aR) {bI:fZ->Bool} {A:Nat->Prop} {q:an->Prop} {T:List (List aM)} {b7:Nat->Option Nat}
 (hA : ∀b,A b->b<w.heap.size) (I3 : ∀b,s.ok g al w b->A b) (I4 : ∀r k I b m,s.af r k=some I->bI I.cg=true->al r k=some (b,m)->A b)
 (aaS:(∀b,A b->s.ok g al w b)\/(∀x,q x->ck x)) (bz:tG q kj) (Fo:mq s (lc b6.aO) b7 bI)
 (cv:p8 s (lc b6.aO) bI ly (eL T).aH) (pS : ∀r k I,(∃j i,lc b6.aO j i=some (r,k))->s.af r k=some I->I.cg = .live) (hex : ∀r k I,Src.af r k I∈b6.aO->s.aW r k)
 {qE:List an} {bS:List Prop} (mG:k7 (nv s.aH b7 (lc b6.aO) bI) b6.ac args=some (qE,bS)) (rB : ∀p∈bS,p)
 {ep:an} {gm:List Prop} (y1:nv (fun j=>b6.de[j]?) (s6 l) (i5 0 l) kj b6.eE b6.r=some (ep,gm)) (I7 : ∀p∈gm,p)
 {u:List (Nat×List aM)} {fs:List Prop} (BT:kv (fun j=>b6.de[j]?) (s6 l) (i5 0 l) s.aH l b6.fo b6.de=some (u,fs)) (aaT : ∀p∈fs,p)
 (yS:Con P f qE T b6.r b6.de) (aaU:q b6.r) (aaV : ∀j i I,(eL b6.de).af j i=some I-> ∀e∈I.es,∀x∈e,q x)
 {vs:List Value} (aF:vs.length=args.length) (hargs : ∀(j:Nat) x v,args[j]? = some x->vs[j]? = some v->Rel w (s.ok g al w) s.aW (s.a0 al) x v) :
 DJ P f/\Calls P f vs.toArray w fun e bx=> ∃v bG,e = .returned v/\cq g (s.hN u) bG a bx/\Rel bx ((s.hN u).ok g bG bx) (s.hN u).aW ((s.hN u).a0 bG) ep v:=by
 have I8:Bw l:=by
  subst nb;split
  ·exact q1
  refine List.pairwise_append.2 ⟨q1,List.pairwise_singleton _ _,fun b aN c aL r k fH=> ?_⟩;rw[List.mem_singleton] at aL;subst aL;have o:r=aR:=fH.2;subst o
  cases b with
  | row r0=>exact we _ aN (Eq.symm fH.1)
  | af r0 iZ kW=>exact we _ aN (Eq.symm fH.1.1)
 have QR : ∀(j:Nat) b,b6.aO[j]? = some b->l[j]? = some b:=by
  intro j b av;subst nb;split
  ·exact av
  rw[afh (fN av)];exact av
 have BU : ∀(j:Nat) b,l[j]? = some b->b6.aO[j]? = some b\/b = .row aR:=by
  intro j b av;subst nb;split at av
  ·exact .inl av
  rw[List.getElem?_append] at av;split at av
  ·exact .inl av
  right;have:=fN av;simp at this;rw[show j-b6.aO.length=0 by omega] at av;simpa using av.symm
 refine⟨yS.1,?_⟩;obtain⟨fK,aT,bf,cb,J7,cL,eT,eF,hi⟩:=enter h.toh3 A hA I3 I4 cv pS;obtain⟨ao,aB,bT⟩:=DH _ _ _ _ _ mG;have:=yS.2 fK (jk al (lc b6.aO)) w vs.toArray aT cb J7 cL eF (by simp[aF,ao]) (by intro j cA v dl aZ;have av:j<args.length:=(by have:=fN dl;omega);have aa:=dx av;obtain⟨c,bX,f1,f2,f3⟩:=bT j _ cA aa dl;have BH:vs[j]? = some v:=(by simpa using aZ);exact hi (Az h.toh3 Fo (us _) f2 (fun p ah=>rB p (f3 p ah)) trivial (hargs j _ v aa BH)) (hargs j _ v aa BH));refine this.mono fun e bx BG=> ?_;obtain⟨v,kr,rfl,y8,aZ⟩:=BG
 have RK:mq (eL b6.de) (i5 0 l) (s6 l) kj:=by
  refine⟨fun j r av k=> ?_,fun _ _ _ _ _ bA=>by simp[kj] at bA⟩;unfold s6 at av;split at av
  ·rename_i r0 kS;simp at av;subst av;have:=AS (n:=0) (r:=r0) (k:=k) I8 kS rfl;simpa [Src.jT] using this
  simp at av
 have A3 : ∀j i r k,lc b6.aO j i=some (r,k)->i5 0 l r k=some (j,i):=fun j i r k hm=>by obtain⟨b,hZ,gr,rfl⟩:=tU.1 hm;have:=AS (n:=0) I8 (QR j b hZ) gr;simpa using this
 have Ew : ∀r k j i,i5 0 l r k=some (j,i)->lc b6.aO j i=some (r,k)\/ ¬s.aW r k:=fun r k j i hm=>by
  obtain⟨b,-,gr,qj,J6⟩:=vh hm;rcases BU j b (by simpa using gr) with e|e
  ·exact .inl (tU.2 ⟨b,e,qj,J6⟩)
  subst e;have:r=aR:=qj;subst this;exact .inr (xQ ey k)
 obtain⟨jw,mo,gP,acp,acq⟩:=GS (s1:=eL b6.de) y8 RK bz aaV l b6.fo b6.de u fs 0 s I8 (fun j row av=>by simpa [eL] using av)
  (fun r k j i hm aQ=>by
    rcases Ew r k j i hm with e|e
    ·exact(y8.stay j i (by rw[J7];exact cv.aW _ _ _ _ e aQ)).1
    exact absurd aQ e)
  (fun r k I hm=>by
    obtain⟨j,av⟩:=afr hm;rcases BU j _ av with e|e
    ·exact hex r k I (dG e)
    cases e) BT aaT
 obtain⟨kV,f1,f2⟩:=leave (q0:=ly) (q:=q) h aT (by rw[bf];exact aaS) J7 cL eT pS cv y8 A3 Ew (fun r k ep dn p=>XK) (s2:=s.hN u) mo gP acp acq
  (Az y8 RK bz y1 I7 aaU aZ) aZ
 exact⟨v,kV,rfl,f1,f2⟩
theorem UY (h:cq g s al a w){aR:Nat}(ey:s.aH aR=none){f:FuncId}{args:List an}{b6:zv}{bc:gM}(ak:yJ P s.aH aR f args b6=some bc)(b4:∀p∈bc.eX,p)
 {vs:List Value} (aF:vs.length=args.length) (hargs : ∀(j:Nat) x v,args[j]? = some x->vs[j]? = some v->Rel w (s.ok g al w) s.aW (s.a0 al) x v) :
 DJ P f/\Calls P f vs.toArray w fun e bx=> ∃v bG,e = .returned v/\cq g (s.hN bc.fz) bG a bx/\Rel bx ((s.hN bc.fz).ok g bG bx) (s.hN bc.fz).aW ((s.hN bc.fz).a0 bG) bc.val v:=by
 unfold yJ at ak;simp only at ak;generalize nb:(if b6.de.length=b6.aO.length then b6.aO else b6.aO++[.row aR])=l at ak;split at ak
 ·simp at ak
 rename_i kW qO;split at ak
 ·simp at ak
 rename_i ZY;have we : ∀a∈b6.aO,a.r≠aR:=fun b aN e=>ZY (List.any_eq_true.2 ⟨b,aN,by simpa using e⟩);split at ak
 ·
  split at ak;rotate_left
  ·simp at ak
  rename_i uv;split at ak;rotate_left
  ·simp at ak
  rename_i qE bS ep gm u fs mG y1 BT;simp only[dy] at ak;subst ak;have yS:Con P f qE [] b6.r b6.de:=b4 _ (by simp);have BV:ck b6.r:=b4 _ (by simp)
  have ZZ:uu b6.de:=by
   by_cases e:b6.de=[]
   ·rw[e];intro row cV;simp at cV
   exact b4 _ (by have:b6.de.isEmpty=false:=(by simpa [List.isEmpty_iff] using e);simp[this])
  refine N7 (bI:=lR) (A:=fun b=>b<w.heap.size) (q:=ck) (T:=[]) (b7:=fun _=>none) h ey nb.symm (by rw[uv];exact List.Pairwise.nil) we (fun _ aN=>aN) (fun b aN=>aN.1)
   (fun r k I b m ai _ ah=>AQ h.toh3 ai ah) (.inr fun _ aa=>aa) aaO ?_ ?_ ?_ ?_ (by rw[uv];exact mG) (fun p ah=>b4 p (by simp[ah])) y1 (fun p ah=>b4 p (by simp[ah])) BT (fun p ah=>b4 p (by simp[ah])) yS BV ?_ aF hargs
  ·refine⟨fun _ _ e=>by simp at e,fun r _ k I _ _ j i e=> ?_⟩;rw[uv] at e;simp[lc] at e
  ·refine⟨fun j i hP eM p e=> ?_,fun j i bX e=> ?_,fun j i r k e=> ?_⟩
   ·rw[uv] at e;simp[lc] at e
   ·simp[eL,cX] at e
   rw[uv] at e;simp[lc] at e
  ·rintro r k I ⟨j,i,e⟩;rw[uv] at e;simp[lc] at e
  ·rintro r k I e;rw[uv] at e;simp at e
  intro j i I ai e he x aa;have ai:cX (b6.de[j]?) i=some I:=ai
  cases aj:b6.de[j]? with
  | none=>rw[aj] at ai;simp[cX] at ai
  | some row =>
   rw[aj,jX] at ai
   cases aQ:row[i]? with
   | none=>rw[aQ] at ai;simp at ai
   | some p =>
    rw[aQ,dB] at ai;split at ai
    ·simp at ai
    simp at ai;subst ai;exact ZZ row (dG aj) p (dG aQ) e he x aa
 split at ak;rotate_left
 ·simp at ak
 rename_i qE bS T aY ep gm u fs mG y0 y1 BT;simp only[dy] at ak;subst ak;have q1:=N6 qO fun p ah=>b4 p (by simp[ah]);have yS:Con P f qE T b6.r b6.de:=b4 _ (by simp);have ae : ∀r j,oO 0 b6.aO r=some j-> ∀k,lc b6.aO j k=some (r,k):=fun r j av k=>by obtain⟨-,J⟩:=G3 av;simp only[lc,show b6.aO[j]? = some (.row r) by simpa using J]
 have I5 : ∀(l:List Src) (cn:List h6) (T:List (List aM)) (af:List Prop),lO s.aH (oO 0 b6.aO) (lc b6.aO) l cn=some (T,af)->(∀p∈af,p) ->
  ∀b∈l,∀r k I,b.has r k->s.af r k=some I->I.cg≠ .iB:=by
  intro l
  induction l with
  | nil=>intro _ _ _ _ _ b aN;simp at aN
  | cons b l ih =>
   intro cn T af h0 a5 c aL r k I fH ai
   cases cn with
   | nil=>cases b<;>simp[lO] at h0
   | cons cj cn =>
    cases b with
    | row r0 =>
     simp only[lO] at h0;split at h0
     ·rename_i row cV
      split at h0
      ·rename_i aq gN mT hQ o J
       simp only[dy,dC] at h0;obtain⟨rfl,rfl⟩:=h0;rcases dO.1 aL with rfl|aL
       ·have e:r=r0:=fH;subst e;have du:cX (some row) k=some I:=(by unfold S.af at ai;rw[cV] at ai;exact ai);have:=Nd o (fun p ah=>a5 p (by simp[ah])) k I du;rw[this];simp
       exact ih cn mT hQ J (fun p ah=>a5 p (by simp[ah])) c aL r k I fH ai
      simp at h0
     simp at h0
    | af r0 iZ kW =>
     simp only[lO] at h0;split at h0;rotate_left
     ·simp at h0
     rename_i row cV;split at h0;rotate_left
     ·simp at h0
     rename_i aq gN mT hQ o J;simp only[dy,dC] at h0;obtain⟨rfl,rfl⟩:=h0;rcases dO.1 aL with rfl|aL;rotate_left
     ·exact ih cn mT hQ J (fun p ah=>a5 p (by simp[ah])) c aL r k I fH ai
     obtain⟨rfl,rfl⟩:=fH;have rB:cX (some row) k=some kW:=a5 _ (by simp);have du:cX (some row) k=some I:=(by unfold S.af at ai;rw[cV] at ai;exact ai);rw[rB] at du;simp at du;subst du
     have I6:kW.cg≠ .gone:=by
      rw[jX] at rB
      cases aQ:row[k]? with
      | none=>rw[aQ] at rB;simp at rB
      | some p =>
       rw[aQ,dB] at rB;split at rB
       ·simp at rB
       rename_i e;simp at rB;subst rB;exact e
     have:=Nd o (fun p ah=>a5 p (by simp[ah])) 0 kW (by rw[lM];simp[I6]);rw[this];simp
 have Fo:mq s (lc b6.aO) (oO 0 b6.aO) s5:=by refine⟨ae,fun r aj k I ai bA j i hm=> ?_⟩;obtain⟨b,hZ,gr,-⟩:=tU.1 hm;exact I5 b6.aO b6.cn T aY y0 (fun p ah=>b4 p (by simp[ah])) b (dG hZ) r k I gr ai (by simpa [s5] using bA)
 obtain⟨t1,t2⟩:=G4 h.toh3 Fo b6.aO b6.cn T aY y0 (fun p ah=>b4 p (by simp[ah]));have lu : ∀j b,b6.aO[j]? = some b-> ∃dU,T[j]? = some dU:=fun j b av=>by have:j<T.length:=(by have:=fN av;omega);exact⟨_,dx this⟩
 refine N7 (bI:=s5) (A:=s.ok g al w) (q:=ly) (T:=T) h ey nb.symm q1 we (fun b aN=>aN.1) (fun b aN=>aN)
  (fun r k I b m ai aQ ah=>Yw h.toh3 ai (by simpa [s5] using aQ) ah) (.inl fun _ aN=>aN) (us _) Fo ?_ ?_ ?_ mG (fun p ah=>b4 p (by simp[ah])) y1 (fun p ah=>b4 p (by simp[ah])) BT
  (fun p ah=>b4 p (by simp[ah])) yS trivial (fun _ _ _ _ _ _ _ _=>trivial) aF hargs
 ·refine⟨fun j i hP eM p e er=> ?_,fun j i bX du=> ?_,fun j i r k e hu=> ?_⟩
  ·obtain⟨r,k⟩:=p;obtain⟨b,hZ,gr,rfl⟩:=tU.1 e;obtain⟨jv,aaW,aaX,rfl⟩:=tU.1 er;have ao:=AS (n:=0) q1 hZ gr;have aB:=AS (n:=0) q1 aaW aaX;rw[ao] at aB;simpa using aB
  ·have av:j<T.length:=by
    rcases Nat.lt_or_ge j T.length with e|e
    ·exact e
    ·have:(eL T).aH j=none:=dP e;rw[this] at du;simp[cX] at du
   have QS:T[j]? = some T[j]:=dx av;have QT:b6.aO[j]? = some (b6.aO[j]'(by omega)):=dx (by omega);have p7:cX (some T[j]) i=some bX:=(by have:(eL T).aH j=some T[j]:=QS;rw[this] at du;exact du);obtain⟨r,k,I,hj,jx,acr,acs⟩:=(t2 j _ _ QS QT).2.2.2 i bX p7;exact⟨r,k,I,tU.2 ⟨_,QT,hj,jx⟩,acr,acs⟩
  obtain⟨b,hZ,gr,rfl⟩:=tU.1 e;obtain⟨dU,sb⟩:=lu j b hZ;have:=(t2 j dU b sb hZ).2.1 r k gr hu;show b.jT k<((T[j]?).getD []).length;rw[sb];exact this
 ·rintro r k I ⟨j,i,e⟩ ai;obtain⟨b,hZ,gr,-⟩:=tU.1 e;obtain⟨dU,sb⟩:=lu j b hZ;exact(t2 j dU b sb hZ).1 r k I gr ai
 intro r k I hm;obtain⟨j,av⟩:=afr hm;obtain⟨dU,sb⟩:=lu j _ av;exact DG ((t2 j dU _ sb av).2.2.1 r k I rfl)
end
end Go.VL
