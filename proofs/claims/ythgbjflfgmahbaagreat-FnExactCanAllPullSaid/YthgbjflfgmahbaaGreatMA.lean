/- Lemmas, plain functions of the program, and what they answer. No condition. -/
import Derived.Below
import Derived.Eval
import Derived.KernelRfl
import Derived.Laws.Append
import Derived.Laws.AppendOwn
import Derived.Laws.BytesString
import Derived.Laws.Cells
import Derived.Laws.CopyRow
import Derived.Laws.Entries
import Derived.Laws.MakeOwn
import Derived.Laws.OwnMore
import Derived.Laws.Rows
import Derived.Laws.Slices
import Derived.Laws.Tables
import Derived.Orders
namespace Go.VL
set_option linter.unusedVariables false
set_option linter.unusedSimpArgs false
open Go
abbrev ar:=List Int
theorem dw{c:Prop}{h:Decidable c}(i:c){α:Sort _}{t e:α}:ite c t e=t:=if_pos i
theorem dx(n:Nat):(n:Int).toNat=n:=rfl
theorem dy{c:Prop}{h:Decidable c}(i:¬c){α:Sort _}{t e:α}:ite c t e=e:=if_neg i
theorem dz{α:Type _}{l:List α}{i:Nat}(h:i<l.length):l[i]? = some l[i]:=List.getElem?_eq_getElem h
theorem dA{α β:Type _}(a:α)(f:α->Option β):(some a).bind f=f a:=rfl
theorem dB{α:Type _}(a b:α):(some a=some b)=(a=b):=Option.some.injEq a b
theorem dC{α β:Type _}:bind=@Option.bind α β:=rfl
theorem dD{α β:Type _}(a:α)(b:β)(c:α)(d:β):((a,b)=(c,d))=(a=c/\b=d):=Prod.mk.injEq a b c d
theorem dE(n:Nat):n<=n:=Nat.le_refl n
theorem dF{α:Type _}{a b:List α}:(a++b).length=a.length+b.length:=List.length_append
theorem dG(n:Nat):0+n=n:=Nat.zero_add n
theorem dH{α:Type _}{l:List α}{i:Nat}{a:α}(e:l[i]? = some a):a∈l:=List.mem_of_getElem? e
theorem dI{α:Type _}{a b:α}(h:some a=some b):a=b:=Option.some.inj h
theorem dJ{α β:Type _}{f:α->β}{l:List α}{i:Nat}:(l.map f)[i]? =l[i]?.map f:=List.getElem?_map
theorem dK{a b c:Int}(h:a<=b)(i:0<=c):c*a<=c*b:=Int.mul_le_mul_of_nonneg_left h i
theorem dL{n m:Nat}(k:Nat)(h:n<=m):n*k<=m*k:=Nat.mul_le_mul_right k h
theorem dM(a b:Bool):((a&&b)=true)=(a=true/\b=true):=Bool.and_eq_true a b
theorem dN(a b:Int):((a*b:Int):Rat)=a*b:=Rat.intCast_mul a b
theorem dO{a b:Rat}(h:0<=a)(i:0<=b):0<=a*b:=Rat.mul_nonneg h i
inductive aH where
 | dead
 | b (x:Bool)
 | n (k:IntKind) (x:Int)
 | s (x:ByteArray)
 | js
 | f6
 | jS
 | ref (r k i off:Nat)
 | bk (r k b3 len:Nat)
 | jT (r c sz:Nat) (h:Option (Nat×Nat))
 | isl (sz:Nat) (es:List (List aH))
 | fa (sz:Nat) (es:List (List aH)) (i off:Nat)
 | hE (sz:Nat) (c:Option (List aH))
 | agg (c:List aH)
 | dX (vs:List aH)
 | fn (f:Nat) (cap:List aH)
 deriving Inhabited
inductive hh where
 | live|jH|gone
 deriving DecidableEq,Inhabited
structure a8 where
 sz:Nat
 es:List (List aH)
 cN:hh
 deriving Inhabited
structure S where
 E:Nat->aH
 a2:Nat->Option (List a8)
abbrev lg (v:Value):Bool:=v.oneCell'
abbrev ga:=Nat->Nat->Option (Nat×Nat)
abbrev j6:=Nat->Nat->Option (Nat×Option (Nat×Nat))
abbrev kk:=Nat->Nat->Prop
inductive Pure:aH->Prop
 | dead:Pure .dead
 | b (x:Bool):Pure (.b x)
 | n (k:IntKind) (x:Int):Pure (.n k x)
 | s (x:ByteArray):Pure (.s x)
 | js:Pure .js
 | f6:Pure .f6
 | jS:Pure .jS
 | isl {sz:Nat} {es:List (List aH)} (h : ∀e∈es,∀x∈e,Pure x):Pure (.isl sz es)
 | fa {sz i off:Nat} {es:List (List aH)} (h : ∀e∈es,∀x∈e,Pure x):Pure (.fa sz es i off)
 | q8 (sz:Nat):Pure (.hE sz none)
 | qw {sz:Nat} {c:List aH} (h : ∀x∈c,Pure x):Pure (.hE sz (some c))
 | agg {c:List aH} (h : ∀x∈c,Pure x):Pure (.agg c)
 | dX {c:List aH} (h : ∀x∈c,Pure x):Pure (.dX c)
 | fn {f:Nat} {c:List aH} (h : ∀x∈c,Pure x):Pure (.fn f c)
def i7 (es:List (List aH)):Prop:= ∀e∈es,∀x∈e,Pure x
inductive Rel (w:World) (ok:Nat->Prop) (bh:kk) (bm:j6):aH->Value->Prop
 | dead (v:Value):Rel w ok bh bm .dead v
 | b (x:Bool):Rel w ok bh bm (.b x) (.bool x)
 | n (k:IntKind) (x:Int):Rel w ok bh bm (.n k x) (.int k x)
 | s (x:ByteArray):Rel w ok bh bm (.s x) (.string x)
 | js:Rel w ok bh bm .js (.pointer none)
 | f6:Rel w ok bh bm .f6 (.slice none 0 0)
 | jS (a:Addr) (c:Nat):Rel w ok bh bm .jS (.slice (some a) 0 c)
 | rB {r k i off:Nat} (a:Option Addr) (hu:bh r k) (h : ∀sz p,bm r k≠some (sz,some p)):Rel w ok bh bm (.ref r k i off) (.pointer a)
 | ref {r k i off sz eU m:Nat} (hu:bh r k) (h:bm r k=some (sz,some (eU,m))):Rel w ok bh bm (.ref r k i off) (.pointer (some ⟨eU,i*sz+off,none⟩))
 | oM {r k b3 len:Nat} (a:Option Addr) (l c:Nat) (hu:bh r k) (h:bm r k=none):Rel w ok bh bm (.bk r k b3 len) (.slice a l c)
 | o7 {r k sz:Nat} (hu:bh r k) (h:bm r k=some (sz,none)):Rel w ok bh bm (.bk r k 0 0) (.slice none 0 0)
 | bk {r k b3 len sz eU m c:Nat} {a:Option Addr} (hu:bh r k) (h:bm r k=some (sz,some (eU,m))) (aX:len<=c) (a3:c<9223372036854775808)
  (hm:(b3+c)*sz=m/\(c=0\/a=some ⟨eU,b3*sz,none⟩)):Rel w ok bh bm (.bk r k b3 len) (.slice a len c)
 | og {r c sz:Nat} {v:Value} (h:Rel w ok bh bm (.isl sz []) v):Rel w ok bh bm (.jT r c sz none) v
 | pj {r c sz k n:Nat} {v:Value} (h:Rel w ok bh bm (.bk r (k+c) 0 n) v):Rel w ok bh bm (.jT r c sz (some (k,n))) v
 | lj (sz:Nat) (a:Option Addr) (c:Nat) (h:a=none->c=0):Rel w ok bh bm (.isl sz []) (.slice a 0 c)
 | isl {sz:Nat} {es:List (List aH)} {eU off c:Nat} (cs:Nat->Value) (aU:ok eU) (ah:i7 es) (aX : ∀e∈es,e.length=sz) (a3:es.length<=c)
  (hw : ∀(j:Nat) x,es.flatten[j]? = some x->w.cell? ⟨eU,off+j,none⟩=some (cs j)) (k7 : ∀(j:Nat) x,es.flatten[j]? = some x->lg (cs j)=true)
  (ai : ∀(j:Nat) x,es.flatten[j]? = some x->Rel w ok bh bm x (cs j)):Rel w ok bh bm (.isl sz es) (.slice (some ⟨eU,off,none⟩) es.length c)
 | fa {sz:Nat} {es:List (List aH)} {eU I i off:Nat} (cs:Nat->Value) (aU:ok eU) (ah:i7 es) (aX : ∀e∈es,e.length=sz)
  (hw : ∀(j:Nat) x,es.flatten[j]? = some x->w.cell? ⟨eU,I+j,none⟩=some (cs j)) (k7 : ∀(j:Nat) x,es.flatten[j]? = some x->lg (cs j)=true)
  (ai : ∀(j:Nat) x,es.flatten[j]? = some x->Rel w ok bh bm x (cs j)):Rel w ok bh bm (.fa sz es i off) (.pointer (some ⟨eU,I+(i*sz+off),none⟩))
 | q8 (sz:Nat):Rel w ok bh bm (.hE sz none) (.pointer none)
 | qw {sz:Nat} {c:List aH} {v:Value} (h:Rel w ok bh bm (.fa sz [c] 0 0) v):Rel w ok bh bm (.hE sz (some c)) v
 | agg {c:List aH} (vs:List Value) (aX:vs.length=c.length) (k7 : ∀(j:Nat) v,vs[j]? = some v->lg v=true)
  (ai : ∀(j:Nat) x v,c[j]? = some x->vs[j]? = some v->Rel w ok bh bm x v):Rel w ok bh bm (.agg c) (.agg vs.toArray)
 | dX {c:List aH} (vs:List Value) (aX:vs.length=c.length)
  (ai : ∀(j:Nat) x v,c[j]? = some x->vs[j]? = some v->Rel w ok bh bm x v):Rel w ok bh bm (.dX c) (.tuple vs.toArray)
 | fn {f:Nat} {c:List aH} (vs:List Value) (aX:vs.length=c.length)
  (ai : ∀(j:Nat) x v,c[j]? = some x->vs[j]? = some v->Rel w ok bh bm x v):Rel w ok bh bm (.fn f c) (.func (.func f) #[] vs.toArray)
theorem Rel.mono {w bV:World}{ok l6:Nat->Prop}{bh ol:kk}{bm nA:j6}{a:aH}{v:Value}(h:Rel w ok bh bm a v)
 (nB : ∀b,ok b->l6 b) (hw : ∀b,ok b->bV.heap[b]? = w.heap[b]?)
 (kr : ∀r k,bh r k->ol r k) (mz : ∀r k,bh r k->nA r k=bm r k\/nA r k=none):Rel bV l6 ol nA a v:=by
 have k7 : ∀b I,ok b->bV.cell? ⟨b,I,none⟩=w.cell? ⟨b,I,none⟩:=fun b I aU=>World.cell?_of_block (hw b aU)
 induction h with
 | dead v=>exact .dead v
 | b x=>exact .b x
 | n k x=>exact .n k x
 | s x=>exact .s x
 | js=>exact .js
 | f6=>exact .f6
 | jS a c=>exact .jS a c
 | @rB r k i off a hu h =>
  refine .rB a (kr r k hu) fun sz p=> ?_;rcases mz r k hu with e|e<;>rw[e]
  ·exact h sz p
  ·simp
 | @ref r k i off sz eU m hu h =>
  rcases mz r k hu with e|e
  ·exact .ref (kr r k hu) (e.trans h)
  ·exact .rB _ (kr r k hu) fun sz p=>by rw[e];simp
 | @oM r k b3 len a l c hu h=>exact .oM a l c (kr r k hu) (by rcases mz r k hu with e|e<;>rw[e];exact h)
 | @o7 r k sz hu h =>
  rcases mz r k hu with e|e
  ·exact .o7 (kr r k hu) (e.trans h)
  ·exact .oM _ _ _ (kr r k hu) e
 | @bk r k b3 len sz eU m c a hu h aX a3 hm =>
  rcases mz r k hu with e|e
  ·exact .bk (kr r k hu) (e.trans h) aX a3 hm
  ·exact .oM _ _ _ (kr r k hu) e
 | og h ih=>exact .og ih
 | pj h ih=>exact .pj ih
 | lj sz a c h=>exact .lj sz a c h
 | isl cs aU ah aX a3 Fp jI ai ih=>exact .isl cs (nB _ aU) ah aX a3 (fun j x ab=>(k7 _ _ aU).trans (Fp j x ab)) jI ih
 | fa cs aU ah aX Fp jI ai ih=>exact .fa cs (nB _ aU) ah aX (fun j x ab=>(k7 _ _ aU).trans (Fp j x ab)) jI ih
 | q8 sz=>exact .q8 sz
 | qw h ih=>exact .qw ih
 | agg vs aX jI ai ih=>exact .agg vs aX jI ih
 | dX vs aX ai ih=>exact .dX vs aX ih
 | fn vs aX ai ih=>exact .fn vs aX ih
structure G where
 n8:World
 A:Nat->Prop
 rj:Nat->Prop
 N:Nat
 m:Nat
 qC:kk
 tu:j6
def S.bh (s:S)(r k:Nat):Prop:=k<((s.a2 r).getD []).length
def d5 (row:Option (List a8))(k:Nat):Option a8 :=
 match row with
 | some l=>match l[k]? with
  | some I=>if I.cN = .gone then none else some I
  | none=>none
 | none=>none
def S.al (s:S)(r k:Nat):Option a8:=d5 (s.a2 r) k
def S.bm (s:S)(aF:ga):j6:=fun r k=>(s.al r k).map fun I=>(I.sz,aF r k)
def S.m4 (s:S)(aF:ga)(b:Nat):Prop:= ∃r k I m,s.al r k=some I/\I.cN = .live/\aF r k=some (b,m)
def S.ok (s:S)(g:G)(aF:ga)(w:World)(b:Nat):Prop :=
 b<w.heap.size/\(g.A b\/g.n8.heap.size<=b\/g.rj b)/\ ¬s.m4 aF b
def kd (w:World)(ok:Nat->Prop)(bh:kk)(bm:j6)(I:a8):Option (Nat×Nat)->Prop
 | none=>I.es=[]
 | some (eU,m)=> ∃c fp,w.heap[eU]? = some (.cells c fp (0,0))/\c.size=m/\(∀e∈I.es,e.length=I.sz) /\
  ∀(j:Nat) x,I.es.flatten[j]? = some x-> ∃v,c[j]? = some v/\lg v=true/\Rel w ok bh bm x v
structure EY (g:G) (w:World):Prop where
 os:w.os=g.n8.os
 tape:w.tape=g.n8.tape
 output:w.output=g.n8.output
 size:g.n8.heap.size<=w.heap.size
 block : ∀b,b<g.n8.heap.size-> ¬g.rj b->w.heap[b]? = g.n8.heap[b]?
structure jt (g:G) (s:S) (aF:ga) (w:World):Prop where
 obj : ∀r k I,s.al r k=some I->kd w (s.ok g aF w) s.bh (s.bm aF) I (aF r k)
 inj : ∀r k I fq ey ck b m aJ,s.al r k=some I->s.al fq ey=some ck->aF r k=some (b,m)->aF fq ey=some (b,aJ)->r=fq/\k=ey
 own : ∀r k I b m,s.al r k=some I->aF r k=some (b,m)->g.n8.heap.size<=b\/g.rj b
 hY:EY g w
 mlt : ∀b,g.rj b->b<g.n8.heap.size
 oU : ∀b,g.A b->b<g.n8.heap.size
 stay : ∀j k,g.qC j k->s.bh j k/\(s.bm aF j k=g.tu j k\/s.bm aF j k=none)
 low : ∀j k,g.qC j k->j<g.m
structure c8 (g:G) (s:S) (aF:ga) (a:Act) (w:World):Prop extends jt g s aF w where
 env : ∀t,Rel w (s.ok g aF w) s.bh (s.bm aF) (s.E t) (a.tmps.getD t undef)
 defers:a.defers=[]
 kP:g.N<=a.tmps.size
def ofValue:Value->aH
 | .bool x=> .b x
 | .int k x=> .n k x
 | .string x=> .s x
 | .pointer none=> .js
 | .slice none 0 0=> .f6
 | _=> .dead
theorem RI {w:World}{ok:Nat->Prop}{bh:kk}{bm:j6}(v:Value):Rel w ok bh bm (ofValue v) v:=by unfold ofValue;split<;>constructor
def ft (E:Nat->aH):Operand->aH
 | .tmp t=>E t
 | .const v=>ofValue v
 | .global _=> .dead
 | .func f=> .fn f []
theorem c8.eval {g:G}{s:S}{aF:ga}{a:Act}{w:World}(h:c8 g s aF a w)(x:Operand):
 Rel w (s.ok g aF w) s.bh (s.bm aF) (ft s.E x) (a.eval x):=by
 cases x with
 | tmp t=>exact h.env t
 | const v=>exact RI v
 | global g=>exact .dead _
 | func f=>exact .fn [] rfl (fun j x v ab=>by simp at ab)
def aH.cells:aH->List aH
 | .agg c=>c
 | x=>[x]
def aH.one:aH->Bool
 | .dead | .agg _ | .dX _=>false
 | _=>true
def aH.Bu:aH->Bool
 | .dead | .dX _=>false
 | _=>true
theorem aH.RJ {v:aH}(h:v.Bu=true):v.one=true\/ ∃c,v = .agg c:=by cases v<;>first|exact .inl rfl|exact .inr ⟨_,rfl⟩|simp[aH.Bu] at h
theorem Rel.lg {w:World}{ok:Nat->Prop}{bh:kk}{bm:j6}{a:aH}{v:Value}(h:Rel w ok bh bm a v)(bI:a.one=true):lg v=true:=by
 cases h with
 | qw h=>cases h;rfl
 | og h=>cases h<;>rfl
 | pj h=>cases h<;>rfl
 | _=>first|rfl|simp[aH.one] at bI
theorem Rel.cellsOf {w:World}{ok:Nat->Prop}{bh:kk}{bm:j6}{a:aH}{v:Value}(h:Rel w ok bh bm a v)(bI:a.one=true\/ ∃c,a = .agg c):
 ∃vs:List Value,v.cells=vs.toArray/\vs.length=a.cells.length/\(∀(j:Nat) x,vs[j]? = some x->VL.lg x=true) /\
  ∀(j:Nat) x u,a.cells[j]? = some x->vs[j]? = some u->Rel w ok bh bm x u:=by
 rcases bI with bI|⟨c,rfl⟩
 ·have a3:=h.lg bI
  refine⟨[v],?_,?_,?_,?_⟩
  ·cases v<;>first|rfl|simp[VL.lg,Value.oneCell'] at a3
  ·cases a<;>first|rfl|simp[aH.one] at bI
  ·intro j x ab
   cases j with
   | zero=>simp at ab;subst ab;exact a3
   | succ j=>simp at ab
  ·intro j x u ab hu
   have e:a.cells=[a]:=by cases a<;>first|rfl|simp[aH.one] at bI
   rw[e] at ab
   cases j with
   | zero=>simp at ab hu;subst ab;subst hu;exact h
   | succ j=>simp at ab
 ·cases h with
  | agg vs aX k7 ai=>exact⟨vs,rfl,aX,k7,ai⟩
def S.put (s:S)(dst:Option Tmp)(v:aH):S :=
 match dst with
 | some t=>{s with E:=fun u=>if u=t then v else s.E u}
 | none=>s
def S.setRow (s:S)(r:Nat)(row:List a8):S:={s with a2:=fun q=>if q=r then some row else s.a2 q}
@[simp] theorem S.wt (s:S) (dst:Option Tmp) (v:aH):(s.put dst v).a2=s.a2:=by cases dst<;>rfl
@[simp] theorem S.ajq (s:S) (r:Nat) (row:List a8):(s.setRow r row).E=s.E:=rfl
theorem D9 {s b4:S}(h:b4.a2=s.a2):b4.al=s.al:=by funext r k;simp[S.al,h]
theorem Bv {s b4:S}(h:b4.a2=s.a2):b4.bh=s.bh:=by funext r k;simp[S.bh,h]
theorem Bw {s b4:S}(h:b4.a2=s.a2)(aF:ga):b4.bm aF=s.bm aF:=by unfold S.bm;rw[D9 h]
theorem aa7 {s b4:S}(h:b4.a2=s.a2)(aF:ga):b4.m4 aF=s.m4 aF:=by unfold S.m4;rw[D9 h]
theorem Ea {s b4:S}(h:b4.a2=s.a2)(g:G)(aF:ga)(w:World):b4.ok g aF w=s.ok g aF w:=by funext b;unfold S.ok;rw[aa7 h]
theorem jt.congr {g:G}{s b4:S}{aF:ga}{w:World}(h:jt g s aF w)(e:b4.a2=s.a2):jt g b4 aF w where
 obj:=by rw[D9 e,Bv e,Bw e,Ea e];exact h.obj
 inj:=by rw[D9 e];exact h.inj
 own:=by rw[D9 e];exact h.own
 hY:=h.hY
 mlt:=h.mlt
 oU:=h.oU
 stay:=by rw[Bv e,Bw e];exact h.stay
 low:=h.low
theorem adt (a:Act)(dst:Option Tmp)(v:Value)(t:Nat)(fA:∀d,dst=some d->d<a.tmps.size):
 (a.put dst v).tmps.getD t undef=if dst=some t then v else a.tmps.getD t undef:=by
 cases dst with
 | none=>simp[Act.put]
 | some d =>
  have:=fA d rfl;simp only[Act.put,Array.getD_eq_getD_getElem?,Array.getElem?_setIfInBounds,dB];by_cases e:d=t
  ·subst e;simp[this]
  ·simp[e]
theorem c8.put {g:G}{s:S}{aF:ga}{a:Act}{w:World}(h:c8 g s aF a w)(dst:Option Tmp){x:aH}{v:Value}
 (bG : ∀d,dst=some d->d<g.N) (ai:Rel w (s.ok g aF w) s.bh (s.bm aF) x v):c8 g (s.put dst x) aF (a.put dst v) w where
 tojt:=h.tojt.congr (S.wt s dst x)
 env:=by
  have e:=S.wt s dst x;rw[Ea e,Bv e,Bw e];intro t;rw[adt a dst v t fun d rR=>Nat.lt_of_lt_of_le (bG d rR) h.kP]
  cases dst with
  | none=>simpa [S.put] using h.env t
  | some d =>
   simp only[S.put,dB];by_cases e:t=d
   ·subst e;simpa using ai
   ·rw[dy e,dy (Ne.symm e)];exact h.env t
 defers:=by cases dst<;>exact h.defers
 kP:=by cases dst<;>simpa [Act.put] using h.kP
structure Step (g:G) (s:S) (aF:ga) (w:World) (b4:S) (bY:ga) (bV:World):Prop where
 bh : ∀r k,s.bh r k->b4.bh r k
 bm : ∀r k,s.bh r k->b4.bm bY r k=s.bm aF r k\/b4.bm bY r k=none
 live : ∀b,b4.m4 bY b->s.m4 aF b\/w.heap.size<=b
 heap : ∀b,b<w.heap.size-> ¬s.m4 aF b->bV.heap[b]? = w.heap[b]?
 size:w.heap.size<=bV.heap.size
theorem Step.ok {g:G}{s b4:S}{aF bY:ga}{w bV:World}(h:Step g s aF w b4 bY bV)(b:Nat)(aU:s.ok g aF w b):b4.ok g bY bV b :=
 ⟨Nat.lt_of_lt_of_le aU.1 h.size,aU.2.1,fun aX=>by
  rcases h.live b aX with h1|h1
  ·exact aU.2.2 h1
  ·exact absurd aU.1 (by omega)⟩
theorem Step.rel {g:G}{s b4:S}{aF bY:ga}{w bV:World}(h:Step g s aF w b4 bY bV){x:aH}{v:Value}
 (ai:Rel w (s.ok g aF w) s.bh (s.bm aF) x v):Rel bV (b4.ok g bY bV) b4.bh (b4.bm bY) x v :=
 ai.mono h.ok (fun b aU=>h.heap b aU.1 aU.2.2) h.bh h.bm
theorem Step.obj {g:G}{s b4:S}{aF bY:ga}{w bV:World}(h:Step g s aF w b4 bY bV){I:a8}{p:Option (Nat×Nat)}
 (ah : ∀b m,p=some (b,m)->bV.heap[b]? = w.heap[b]?) (an:kd w (s.ok g aF w) s.bh (s.bm aF) I p) :
 kd bV (b4.ok g bY bV) b4.bh (b4.bm bY) I p:=by
 cases p with
 | none=>exact an
 | some q =>
  obtain⟨b,m⟩:=q;obtain⟨c,fp,h1,o,U,ak⟩:=an;refine⟨c,fp,(ah b m rfl).trans h1,o,U,fun j x ab=> ?_⟩;obtain⟨v,e1,aB,bP⟩:=ak j x ab;exact⟨v,e1,aB,h.rel bP⟩
theorem Step.stay {g:G}{s b4:S}{aF bY:ga}{w bV:World}(h:Step g s aF w b4 bY bV)
 (bK : ∀j k,g.qC j k->s.bh j k/\(s.bm aF j k=g.tu j k\/s.bm aF j k=none)) : ∀j k,g.qC j k->b4.bh j k/\(b4.bm bY j k=g.tu j k\/b4.bm bY j k=none):=by
 intro j k av;obtain⟨h1,o⟩:=bK j k av;refine⟨h.bh j k h1,?_⟩;rcases h.bm j k h1 with e|e
 ·rw[e];exact o
 ·exact .inr e
theorem EY.step {g:G}{w bV:World}(h:EY g w)(h1:bV.os=w.os)(o:bV.tape=w.tape)(U:bV.output=w.output)(ak:w.heap.size<=bV.heap.size)
 (ax : ∀b,b<g.n8.heap.size-> ¬g.rj b->bV.heap[b]? = w.heap[b]?):EY g bV :=
 ⟨h1.trans h.os,o.trans h.tape,U.trans h.output,Nat.le_trans h.size ak,fun b aU hm=>(ax b aU hm).trans (h.block b aU hm)⟩
theorem mN (s:S)(r:Nat)(row:List a8)(q k:Nat):(s.setRow r row).al q k=if q=r then d5 (some row) k else s.al q k:=by unfold S.al S.setRow;by_cases e:q=r<;>simp[e]
theorem oK (s:S)(r:Nat)(row:List a8)(q k:Nat):(s.setRow r row).bh q k↔(if q=r then k<row.length else s.bh q k):=by unfold S.bh S.setRow;by_cases e:q=r<;>simp[e]
theorem Ho {s:S}{r k:Nat}{I:a8}(h:s.al r k=some I):s.bh r k:=by
 unfold S.al d5 at h;unfold S.bh
 cases ai:s.a2 r with
 | none=>rw[ai] at h;simp at h
 | some l =>
  rw[ai] at h;simp only at h;rcases Nat.lt_or_ge k l.length with h1|h1
  ·simpa using h1
  ·rw[List.getElem?_eq_none h1] at h;simp at h
theorem A2 {s:S}{r:Nat}(h:s.a2 r=none)(k:Nat): ¬s.bh r k:=by simp[S.bh,h]
theorem GW (s:S){r:Nat}{l row:List a8}(ai:s.a2 r=some l)(aX:l.length<=row.length)(q k:Nat)(h:s.bh q k):(s.setRow r row).bh q k:=by
 rw[oK];by_cases e:q=r
 ·subst e;rw[dw rfl];simp[S.bh,ai] at h;omega
 ·rw[dy e];exact h
theorem ai3 {s:S}{r:Nat}(h:s.a2 r=none)(k:Nat):s.al r k=none:=by simp[S.al,h,d5]
def ga.set (aF:ga)(r k:Nat)(p:Option (Nat×Nat)):ga:=fun q j=>if q=r/\j=k then p else aF q j
theorem nq (I:a8)(k:Nat):d5 (some [I]) k=if k=0/\I.cN≠ .gone then some I else none:=by
 unfold d5
 cases k with
 | zero=>by_cases h:I.cN = .gone<;>simp[h]
 | succ k=>simp
theorem Rel.drew {w:World}{ok:Nat->Prop}{bh:kk}{bm:j6}{x:aH}{v:Value}(h:Rel w ok bh bm x v):Rel w.drew ok bh bm x v :=
 h.mono (fun _ h=>h) (fun _ _=>rfl) (fun _ _ h=>h) (fun _ _ _=> .inl rfl)
theorem kd.drew {w:World}{ok:Nat->Prop}{bh:kk}{bm:j6}{I:a8}{p:Option (Nat×Nat)}(h:kd w ok bh bm I p):kd w.drew ok bh bm I p:=by
 cases p with
 | none=>exact h
 | some q =>
  obtain⟨c,fp,h1,o,U,ak⟩:=h;exact⟨c,fp,h1,o,U,fun j x ab=>let ⟨v,a,b,c⟩:=ak j x ab;⟨v,a,b,c.drew⟩⟩
theorem jt.drew {g:G}{s:S}{aF:ga}{w:World}(h:jt g s aF w):jt g s aF w.drew :=
 {obj:=fun r k I an=>(h.obj r k I an).drew,inj:=h.inj,own:=h.own,hY:=⟨h.hY.os,h.hY.tape,h.hY.output,h.hY.size,h.hY.block⟩,mlt:=h.mlt,oU:=h.oU,stay:=h.stay,low:=h.low}
theorem c8.drew {g:G}{s:S}{aF:ga}{a:Act}{w:World}(h:c8 g s aF a w):c8 g s aF a w.drew where
 tojt:=h.tojt.drew
 env:=fun t=>(h.env t).drew
 defers:=h.defers
 kP:=h.kP
theorem c8.alloc {g:G}{s:S}{aF:ga}{a:Act}{w:World}(h:c8 g s aF a w){r:Nat}(ai:s.a2 r=none)(I:a8)(aY:I.cN = .live)
 (c:Array Value) (fp:TypeId) (hlen : ∀e∈I.es,e.length=I.sz)
 (a3 : ∀(j:Nat) x,I.es.flatten[j]? = some x-> ∃v,c[j]? = some v/\lg v=true/\Rel w (s.ok g aF w) s.bh (s.bm aF) x v) :
 ∃bY,bY r 0=some (w.heap.size,c.size)/\c8 g (s.setRow r [I]) bY a (w.alloc (.cells c fp)) /\
  ∀x v,Rel w (s.ok g aF w) s.bh (s.bm aF) x v->Rel (w.alloc (.cells c fp)) ((s.setRow r [I]).ok g bY (w.alloc (.cells c fp))) (s.setRow r [I]).bh ((s.setRow r [I]).bm bY) x v:=by
 have m2 : ∀q k,q≠r->(aF.set r 0 (some (w.heap.size,c.size))) q k=aF q k:=fun q k a5=>by simp[ga.set,a5]
 have bs : ∀q k,q≠r->(s.setRow r [I]).al q k=s.al q k:=fun q k a5=>by rw[mN,dy a5]
 have B8 : ∀k,(s.setRow r [I]).al r k=if k=0 then some I else none:=fun k=>by rw[mN,dw rfl,nq];simp[aY]
 have vi : ∀q k p b m,s.al q k=some p->aF q k=some (b,m)->b<w.heap.size:=fun q k p b m ah a5=>by have:=h.obj q k p ah;rw[a5] at this;obtain⟨eJ,nW,gH,_⟩:=this;exact(Array.getElem?_eq_some_iff.1 gH).1
 have c1:Step g s aF w (s.setRow r [I]) (aF.set r 0 (some (w.heap.size,c.size))) (w.alloc (.cells c fp)):=by
  refine⟨fun q k a5=>(oK _ _ _ _ _).2 (by rw[dy (by rintro rfl;exact A2 ai k a5)];exact a5),fun q k a5=> ?_,fun b aU=> ?_,fun b aU _=>heap_alloc_old w _ b aU,by simp⟩
  ·have c6:q≠r:=(by rintro rfl;exact A2 ai k a5);left;simp only[S.bm,bs q k c6,m2 q k c6]
  ·obtain⟨q,k,p,m,h1,o,U⟩:=aU
   by_cases e:q=r
   ·subst e
    rw[B8] at h1;by_cases e0:k=0
    ·subst e0;simp[ga.set] at U;right;omega
    ·simp[e0] at h1
   ·rw[bs q k e] at h1;rw[m2 q k e] at U;exact .inl ⟨q,k,p,m,h1,o,U⟩
 refine⟨aF.set r 0 (some (w.heap.size,c.size)),by simp[ga.set],?_,fun x v=>c1.rel⟩;refine {tojt:=⟨?_,?_,?_,?_,h.mlt,h.oU,c1.stay h.stay,h.low⟩,env:=fun t=>c1.rel (h.env t),defers:=h.defers,kP:=h.kP}
 ·intro q k p ah
  by_cases e:q=r
  ·subst e
   rw[B8] at ah;by_cases e0:k=0
   ·subst e0;simp at ah;subst ah;simp only[ga.set,and_self,if_true];exact⟨c,fp,heap_alloc_new w _,rfl,hlen,fun j x ab=>let ⟨v,e1,aB,bP⟩:=a3 j x ab;⟨v,e1,aB,c1.rel bP⟩⟩
   ·simp[e0] at ah
  ·rw[bs q k e] at ah;rw[m2 q k e];exact c1.obj (fun b m hm=>heap_alloc_old w _ b (vi q k p b m ah hm)) (h.obj q k p ah)
 ·intro q k p iR ey lo b m aJ h1 o U ak
  by_cases e:q=r<;>by_cases e2:iR=r
  ·subst e;subst e2;rw[B8] at h1 o;by_cases e0:k=0<;>by_cases e1:ey=0<;>simp[e0,e1] at h1 o;exact⟨rfl,by omega⟩
  ·subst e;rw[B8] at h1;rw[bs _ _ e2] at o;rw[m2 _ _ e2] at ak;by_cases e0:k=0<;>simp[e0] at h1;subst e0;simp[ga.set] at U;have:=vi iR ey lo b aJ o ak;omega
  ·subst e2;rw[bs _ _ e] at h1;rw[B8] at o;rw[m2 _ _ e] at U;by_cases e0:ey=0<;>simp[e0] at o;subst e0;simp[ga.set] at ak;have:=vi q k p b m h1 U;omega
  ·rw[bs _ _ e] at h1;rw[bs _ _ e2] at o;rw[m2 _ _ e] at U;rw[m2 _ _ e2] at ak;exact h.inj q k p iR ey lo b m aJ h1 o U ak
 ·intro q k p b m h1 o
  by_cases e:q=r
  ·subst e;rw[B8] at h1;by_cases e0:k=0<;>simp[e0] at h1;subst e0;simp[ga.set] at o;left;have:=h.hY.size;omega
  ·rw[bs _ _ e] at h1;rw[m2 _ _ e] at o;exact h.own q k p b m h1 o
 ·exact h.hY.step rfl rfl rfl (by simp) fun b aU _=>heap_alloc_old w _ b (Nat.lt_of_lt_of_le aU h.hY.size)
theorem S7 (l:List a8)(k:Nat)(I ck:a8)(h:d5 (some l) k=some I)(aY:ck.cN≠ .gone)(j:Nat):
 d5 (some (l.set k ck)) j=if j=k then some ck else d5 (some l) j:=by
 unfold d5 at *
 have ez:k<l.length:=by
  rcases Nat.lt_or_ge k l.length with h1|h1
  ·exact h1
  ·simp[List.getElem?_eq_none h1] at h
 by_cases e:j=k
 ·subst e;simp[ez,aY]
 ·simp only[List.getElem?_set,dy (Ne.symm e),dy e]
theorem c8.write {g:G}{s:S}{aF:ga}{a:Act}{w bV:World}(h:c8 g s aF a w){r k b m:Nat}{l:List a8}{I:a8}(ai:s.a2 r=some l)(an:s.al r k=some I)
 (aY:I.cN = .live) (ah:aF r k=some (b,m)) (es:List (List aH)) (c:Array Value) (fp:TypeId)
 (hw:bV.heap[b]? = some (.cells c fp (0,0))) (fA:bV.heap.size=w.heap.size) (ya : ∀q,q≠b->bV.heap[q]? = w.heap[q]?)
 (sP:bV.os=w.os) (MM:bV.tape=w.tape) (Mq:bV.output=w.output) (hm:c.size=m)
 (hlen : ∀e∈es,e.length=I.sz)
 (a3 : ∀(j:Nat) x,es.flatten[j]? = some x-> ∃v,c[j]? = some v/\lg v=true/\Rel w (s.ok g aF w) s.bh (s.bm aF) x v) :
 c8 g (s.setRow r (l.set k {I with es})) aF a bV /\
  ∀x v,Rel w (s.ok g aF w) s.bh (s.bm aF) x v->Rel bV ((s.setRow r (l.set k {I with es})).ok g aF bV) (s.setRow r (l.set k {I with es})).bh ((s.setRow r (l.set k {I with es})).bm aF) x v:=by
 have hl:({I with es}:a8).cN≠ .gone:=by rw[aY];simp
 have bs : ∀q j,(s.setRow r (l.set k {I with es})).al q j=if q=r/\j=k then some {I with es} else s.al q j:=by
  intro q j;rw[mN];by_cases e:q=r
  ·subst e;have eK:d5 (some l) k=some I:=(by rw[<- ai];exact an);rw[dw rfl,S7 l k I _ eK hl];by_cases aB:j=k<;>simp[aB,S.al,ai]
  ·simp[e]
 have rG:s.m4 aF b:=⟨r,k,I,m,an,aY,ah⟩
 have c1:Step g s aF w (s.setRow r (l.set k {I with es})) aF bV:=by
  refine⟨GW s ai (by simp),fun q j a5=> .inl ?_,fun q a5=> ?_,fun q a5 aX=>ya q fun e=>aX (e▸rG),Nat.le_of_eq fA.symm⟩
  ·simp only[S.bm,bs]
   by_cases e:q=r/\j=k
   ·obtain⟨rfl,rfl⟩:=e;simp[an]
   ·rw[dy e]
  ·obtain⟨iR,j,p,aJ,h1,o,U⟩:=a5
   rw[bs] at h1;by_cases e:iR=r/\j=k
   ·obtain⟨rfl,rfl⟩:=e;exact .inl ⟨iR,j,I,aJ,an,aY,U⟩
   ·rw[dy e] at h1;exact .inl ⟨iR,j,p,aJ,h1,o,U⟩
 refine⟨{tojt:=⟨?_,?_,?_,?_,h.mlt,h.oU,c1.stay h.stay,h.low⟩,env:=fun t=>c1.rel (h.env t),defers:=h.defers,kP:=h.kP},fun x v=>c1.rel⟩
 ·intro q j p lx
  rw[bs] at lx;by_cases e:q=r/\j=k
  ·obtain⟨rfl,rfl⟩:=e;simp at lx;subst lx;rw[ah];exact⟨c,fp,hw,hm,hlen,fun j x ab=>let ⟨v,e1,aB,bP⟩:=a3 j x ab;⟨v,e1,aB,c1.rel bP⟩⟩
  ·rw[dy e] at lx;refine c1.obj (fun k1 aJ la=>ya k1 ?_) (h.obj q j p lx);rintro rfl;exact e (h.inj q j p r k I k1 aJ m lx an la ah)
 ·intro q j p iR jc lo k1 jm ik h1 o U ak
  have key : ∀q j p,(s.setRow r (l.set k {I with es})).al q j=some p-> ∃lo,s.al q j=some lo:=by
   intro q j p a5;rw[bs] at a5;by_cases e:q=r/\j=k
   ·obtain⟨rfl,rfl⟩:=e;exact⟨I,an⟩
   ·rw[dy e] at a5;exact⟨p,a5⟩
  obtain⟨p1,VD⟩:=key q j p h1;obtain⟨hM,Fq⟩:=key iR jc lo o;exact h.inj q j p1 iR jc hM k1 jm ik VD Fq U ak
 ·intro q j p k1 aJ h1 o
  rw[bs] at h1;by_cases e:q=r/\j=k
  ·obtain⟨rfl,rfl⟩:=e;exact h.own q j I k1 aJ an o
  ·rw[dy e] at h1;exact h.own q j p k1 aJ h1 o
 ·refine h.hY.step sP MM Mq (Nat.le_of_eq fA.symm) fun k1 mX la=>ya k1 ?_
  rintro rfl;rcases h.own r k I k1 m an ah with h1|h1
  ·omega
  ·exact la h1
inductive tH where
 | id
 | e7 (es:List (List aH))
 | gg (sz:Nat)
 | kw
 | cO (x:aH)
 | len (n:Nat)
 | uD (sz:Nat)
 | at_ (j i n:Nat)
 | view (ew:Nat) (I:a8) (es:List (List aH))
 deriving Inhabited
inductive CI where
 | cZ (c:tH)
 | ptr (l:List tH)
 | vj (l:List tH)
 | agg (l:List tH)
 deriving Inhabited
inductive mF where
 | bo (c:CI)
 | comp (l:List CI)
 deriving Inhabited
inductive jx where
 | pure
 | box (l:List tH)
 | cO (row:List a8)
 | bp (row:List a8)
 | rx (row:List a8)
 | drop
 deriving Inhabited
structure nC where
 bG:List (Nat×Nat):=[]
 j7:Option (Nat×Nat):=none
 deriving DecidableEq
inductive Src where
 | row (r:Nat)
 | al (r k:Nat) (I:a8)
 deriving Inhabited
structure Gg where
 a6:List Src:=[]
 dm:List jx:=[]
 ac:List mF
 r:aH
 fc:List (List a8):=[]
 gR:mF:= .bo (.cZ .id)
 hZ:List jx:=[]
 fm:List Nat:=[]
 fe:Bool:=true
inductive gj where
 | none
 | aa (t:Bool)
 | b5 (c:List aH)
 | gm (I:a8) (c:List aH)
 | e5
 | call (c:Gg)
 | aG (m:Nat) (I:Option a8:=Option.none)
 | hb (t:Nat) (v:aH) (a:gj)
 | zd (r:Nat) (a:gj)
 | wU (r n:Nat) (a:gj)
structure iQ where
 val:aH
 gE:List (Nat×List a8):=[]
 f7:List Prop:=[]
def Et (P:Program)(t:TypeId):Bool :=
 match P.underlying t with
 | some (.struct _)|some (.array _ _)=>true
 | _=>false
def B9 (o2:ar):ByteArray:=o2.foldl (fun r n=>r.push (UInt8.ofNat n.toNat)) ByteArray.empty
def bytesOf:List (List aH)->Option ar
 | []=>some []
 | [.n .u8 n]::es=>(bytesOf es).map (n :: ·)
 | _=>none
def elemAt (es:List (List aH))(i:Nat):gj->Option (List aH×List Prop)
 | .b5 c=>some (c,[es[i]? = some c])
 | .gm _ c=>some (c,[es[i]? = some c])
 | _=>match es[i]? with
  | some c=>some (c,[])
  | none=>none
def pM (row:Option (List a8))(k:Nat):gj->Option (a8×List Prop)
 | .gm I _=>match row with
  | some row=>some (I,[d5 (some row) k=some I])
  | none=>none
 | _=>match d5 row k with
  | some I=>some (I,[])
  | none=>none
def sG (P:Program)(t:TypeId)(c:List aH)(off:Nat):Option aH :=
 if !((P.underlying t).isSome && (P.info? t).isSome) then none else
 if Et P t then (if off+P.cellsOf t<=c.length then some (.agg ((c.drop off).take (P.cellsOf t))) else none)
 else match c[off]? with
  | some x=>if x.one then some x else none
  | none=>none
def Mr (op:BinOp)(x y:aH):Option (aH×List Prop) :=
 match x,y with
 | .n k a,.n ey b =>
  match op with
  | .shl=>some (.n k (k.wrap (a*2 ^ (min b.toNat k.bits))),[0<=b])
  | .shr=>some (.n k (a.fdiv (2 ^ (min b.toNat k.bits))),[0<=b])
  | _=>if k≠ey then none else
   match op with
   | .add=>some (.n k (k.wrap (a+b)),[])
   | .sub=>some (.n k (k.wrap (a-b)),[])
   | .mul=>some (.n k (k.wrap (a*b)),[])
   | .quo=>some (.n k (k.wrap (a.tdiv b)),[b≠0])
   | .rem=>some (.n k (a.tmod b),[b≠0])
   | .and=>some (.n k (k.wrap ((BitVec.ofInt k.bits a &&& BitVec.ofInt k.bits b).toNat)),[])
   | .or=>some (.n k (k.wrap ((BitVec.ofInt k.bits a ||| BitVec.ofInt k.bits b).toNat)),[])
   | .xor=>some (.n k (k.wrap ((BitVec.ofInt k.bits a ^^^ BitVec.ofInt k.bits b).toNat)),[])
   | .eql=>some (.b (a == b),[])
   | .neq=>some (.b (a != b),[])
   | .lss=>some (.b (decide (a<b)),[])
   | .leq=>some (.b (decide (a<=b)),[])
   | .gtr=>some (.b (decide (b<a)),[])
   | .geq=>some (.b (decide (b<=a)),[])
   | _=>none
 | .s a,.s b =>
  match op with
  | .add=>some (.s (a++b),[a.size+b.size<9223372036854775808])
  | .eql=>some (.b (a.toList == b.toList),[])
  | .neq=>some (.b (!(a.toList == b.toList)),[])
  | _=>none
 | _,_=>none
def us (P:Program)(t:TypeId)(x y:aH):Option Bool :=
 match P.underlying t,x,y with
 | some .bool,.b a,.b c=>some (a == c)
 | some (.pointer _),.js,.js=>some true
 | some (.pointer _),.fa ..,.js=>some false
 | some (.pointer _),.js,.fa .. => some false
 | some (.slice _),.f6,.f6=>some true
 | some (.slice _),.jS,.f6=>some false
 | _,_,_=>none
def MN (op:UnOp)(x:aH):Option aH :=
 match op,x with
 | .neg,.n k a=>some (.n k (k.wrap (0-a)))
 | .not,.b a=>some (.b (!a))
 | _,_=>none
def fieldsOf (P:Program)(t:TypeId):Option (Array Field) :=
 match P.underlying t with
 | some (.struct lV)=>some lV
 | _=>none
def rH (P:Program)(t:TypeId):Option TypeId :=
 match P.underlying t with
 | some (.slice e)=>some e
 | _=>none
def so (P:Program)(t:TypeId):Option (List aH) :=
 match P.info? t with
 | some i=>match i.zero with
  | some v=>if v.cells.toList.all (·.oneCell') then some (v.cells.toList.map ofValue) else none
  | none=>none
 | none=>none
def EZ (P:Program)(t:TypeId):Option (Nat×TypeId) :=
 match P.underlying t with
 | some (.array n e)=>if (P.info? e).isSome/\P.cellsOf e≠0/\1<n then some (n,e) else none
 | _=>none
def rM (j:Int):List aH->List aH->Option (List aH)
 | [],[]=>some []
 | .n k x::a,.n ey y::b=>if k=ey then (rM j a b).map (.n k (if j=0 then x else y) :: ·) else none
 | _,_=>none
def LQ (P:Program)(t:TypeId)(x lp:aH):Option iQ :=
 match EZ P t,x,lp with
 | some (2,e),.agg cs,.n _ j=>match sG P e cs (0*P.cellsOf e),sG P e cs (1*P.cellsOf e) with
  | some (.agg a),some (.agg b)=>(rM j a b).map fun c=>{val:= .agg c,f7:=[0<=j,j<2]}
  | _,_=>none
 | _,_,_=>none
def BX (P:Program)(a2:Nat->Option (List a8))(t:TypeId)(x lp:aH)(c2:gj):Option iQ :=
 match EZ P t,x,lp with
 | some (n,e),.ref r k i off,.n _ j=>match pM (a2 r) k c2 with
  | some (al,bX)=>match elemAt al.es i c2 with
   | some (_,aP)=>some {val:= .ref r k i (off+j.toNat*P.cellsOf e),f7:=bX++aP++[0<=j,j<n]}
   | none=>none
  | none=>none
 | _,_,_=>none
def Eu:aH->aH->aH
 | .f6,.isl sz []=> .isl sz []
 | .js,.hE sz none=> .hE sz none
 | .f6,.jT r c sz none=> .jT r c sz none
 | x,_=>x
def ti:List aH->List aH->List aH
 | x::z,y::c=>Eu x y::ti z c
 | z,_=>z
def u9 (z:List aH):gj->List aH
 | .b5 c=>ti z c
 | _=>z
def setCells (c:List aH)(off:Nat)(vs:List aH):List aH:=c.take off++vs++c.drop (off+vs.length)
def ui:List aH->List (Nat×Nat×aH)->Option (List aH)
 | c,[]=>some c
 | c,(off,size,x)::rest =>
  if x.Bu && x.cells.length=size && decide (off+size<=c.length) then ui (setCells c off x.cells) rest else none
def BZ (sz:Nat):List (List aH)->List (Nat×aH)->Option (List (List aH))
 | es,[]=>some es
 | es,(i,x)::rest=>if x.Bu && x.cells.length=sz && decide (i<es.length) then BZ sz (es.set i x.cells) rest else none
def ag:Option aH->Nat->Option (Nat×List Prop)
 | none,d=>some (d,[])
 | some (.n _ x),_=>some (x.toNat,[0<=x])
 | _,_=>none
def Li (P:Program)(t:TypeId)(parts:List (Nat×aH)):Option iQ :=
 match EZ P t,so P t with
 | some (_,e),some z=>(ui z (parts.map fun p=>(p.1*P.cellsOf e,P.cellsOf e,p.2))).map fun c=>{val:= .agg c}
 | _,_=>none
def fw (P:Program)(E:Nat->aH)(a2:Nat->Option (List a8))(a4:Nat)(I:Oper)(c2:gj):Option iQ :=
 let iS:=ft E
 match I.op with
 | .move x | .assign x=>some {val:=iS x}
 | .pick c a b =>
  match iS c,c2 with
  | .b x,.aa t=>some {val:=if t then iS a else iS b,f7:=[x=t]}
  | .b true,_=>some {val:=iS a}
  | .b false,_=>some {val:=iS b}
  | _,_=>none
 | .alloc t =>
  match so P t with
  | some c=>some {val:= .ref a4 0 0 0,gE:=[(a4,[⟨c.length,[c],.live⟩])]}
  | none=>none
 | .box _ x =>
  match iS x with
  | .agg c=>some {val:= .ref a4 0 0 0,gE:=[(a4,[⟨c.length,[c],.live⟩])]}
  | v=>if v.one then some {val:= .ref a4 0 0 0,gE:=[(a4,[⟨1,[[v]],.live⟩])]} else none
 | .load t x =>
  match iS x with
  | .ref r k i off =>
   match pM (a2 r) k c2 with
   | some (al,bX)=>match elemAt al.es i c2 with
    | some (c,aP)=>match sG P t c off with
     | some v=>some {val:=v,f7:=bX++aP}
     | none=>none
    | none=>none
   | none=>none
  | .fa _ es i off =>
   match elemAt es i c2 with
   | some (c,aP)=>match sG P t c off with
    | some v=>some {val:=v,f7:=aP}
    | none=>none
   | none=>none
  | _=>none
 | .store t x y =>
  match iS x with
  | .ref r k i off =>
   match a2 r with
   | none=>none
   | some row =>
   match pM (some row) k c2 with
   | some (al,bX) =>
    if al.cN≠ .live then none else
    let v:=iS y
    if v.Bu=false then none else
    if v.cells.length≠P.cellsOf t\/(P.info? t).isSome=false then none else
    match c2 with
    | .e5=>if off=0 then some {val:= .dead,gE:=[(r,row.set k {al with es:=al.es.set i v.cells})],f7:=bX++[i<al.es.length,v.cells.length=al.sz]} else none
    | _=>match elemAt al.es i c2 with
     | some (c,aP)=>if off+v.cells.length<=c.length then some {val:= .dead,gE:=[(r,row.set k {al with es:=al.es.set i (setCells c off v.cells)})],f7:=bX++aP} else none
     | none=>none
   | none=>none
  | _=>none
 | .nilCheck x =>
  match iS x with
  | .ref r k i off=>match pM (a2 r) k c2 with
   | some (al,bX)=>match elemAt al.es i c2 with
    | some (_,aP)=>some {val:= .ref r k i off,f7:=bX++aP}
    | none=>none
   | none=>none
  | .fa sz es i off=>some {val:= .fa sz es i off}
  | .fn f c=>some {val:= .fn f c}
  | _=>none
 | .binOp op t x y _ =>
  match Mr op (iS x) (iS y) with
  | some (v,al)=>some {val:=v,f7:=al}
  | none=>match op with
   | .eql=>(us P t (iS x) (iS y)).map fun r=>{val:= .b r}
   | .neq=>(us P t (iS x) (iS y)).map fun r=>{val:= .b (!r)}
   | _=>none
 | .unOp op _ x=>(MN op (iS x)).map fun v=>{val:=v}
 | .convert src dst x =>
  match P.underlying dst,iS x with
  | some (.int k),.n _ a=>if (P.underlying src).isSome then some {val:= .n k (k.wrap a)} else none
  | some .string,.bk r k b3 len =>
   match (rH P src).bind P.underlying,d5 (a2 r) k with
   | some (.int .u8),some al=>match bytesOf ((al.es.drop b3).take len) with
    | some o2=>if b3+len<=al.es.length/\al.sz=1 then some {val:= .s (B9 o2)} else none
    | none=>none
   | _,_=>none
  | _,_=>none
 | .makeFunc (.func f) first captured =>
  if first.size=0 then some {val:= .fn f (captured.toList.map iS)} else none
 | .makeSlice t l c =>
  match rH P t,iS l,iS c with
  | some e,.n _ l,.n _ c =>
   match P.info? e,so P e with
   | some i,some z=>if z.length=i.size then some {val:= .bk a4 0 0 l.toNat,gE:=[(a4,[⟨z.length,List.replicate l.toNat (u9 z c2),.live⟩])],f7:=[0<=l,l<=c,(i.bytes:Int)*c<=281474976710656,c<9223372036854775808]} else none
   | _,_=>none
  | _,_,_=>none
 | .fieldAddr t x f =>
  match fieldsOf P t with
  | some lV=>match lV[f]? with
   | some fd=>if P.cellsOf fd.type=0 then none else
    match iS x with
    | .ref r k i off=>match pM (a2 r) k c2 with
     | some (al,bX)=>match elemAt al.es i c2 with
      | some (_,aP)=>some {val:= .ref r k i (off+fd.offset),f7:=bX++aP}
      | none=>none
     | none=>none
    | .fa sz es i off=>some {val:= .fa sz es i (off+fd.offset)}
    | _=>none
   | none=>none
  | none=>none
 | .field t x f =>
  match fieldsOf P t with
  | some lV=>match lV[f]?,iS x with
   | some fd,.agg c=>(sG P fd.type c fd.offset).map fun v=>{val:=v}
   | _,_=>none
  | none=>none
 | .indexAddr t x lp =>
  match rH P t,iS lp with
  | some e,.n _ j =>
   match iS x with
   | .isl sz es=>if sz=P.cellsOf e/\sz≠0 then some {val:= .fa sz es j.toNat 0,f7:=[0<=j,j<es.length]} else none
   | .bk r k b3 len=>match a2 r with
    | some row=>match pM (some row) k c2 with
     | some (al,bX)=>if al.sz=P.cellsOf e/\al.sz≠0 then some {val:= .ref r k (b3+j.toNat) 0,f7:=bX++[0<=j,j<len]} else none
     | none=>none
    | none=>none
   | _=>none
  | _,_=>BX P a2 t (iS x) (iS lp) c2
 | .index t x lp =>
  match P.underlying t,iS x,iS lp with
  | some .string,.s s,.n _ j=>some {val:= .n .u8 (s.data.toList.getD j.toNat 0).toNat,f7:=[0<=j,j<s.size]}
  | _,_,_=>LQ P t (iS x) (iS lp)
 | .extract x i =>
  match iS x with
  | .dX vs=>(vs[i]?).map fun v=>{val:=v}
  | _=>none
 | .slice t x b3 ad none =>
  match P.underlying t,iS x with
  | some (.slice e),.isl sz es =>
   match ag (b3.map iS) 0,ag (ad.map iS) es.length with
   | some (l,bX),some (h,aP)=>if sz=P.cellsOf e/\sz≠0 then some {val:= .isl sz ((es.drop l).take (h-l)),f7:=bX++aP++[l<=h,h<=es.length]} else none
   | _,_=>none
  | some (.slice e),.bk r k WJ len =>
   match a2 r with
   | none=>none
   | some row=>match pM (some row) k c2 with
    | none=>none
    | some (al,WK) =>
     match ag (b3.map iS) 0,ag (ad.map iS) len with
     | some (l,bX),some (h,aP)=>if al.sz=P.cellsOf e/\al.sz≠0 then some {val:= .bk r k (WJ+l) (h-l),f7:=WK++bX++aP++[l<=h,h<=len]} else none
     | _,_=>none
  | some .string,.s s =>
   match ag (b3.map iS) 0,ag (ad.map iS) s.size with
   | some (l,bX),some (h,aP)=>some {val:= .s (s.extract l h),f7:=bX++aP++[l<=h,h<=s.size]}
   | _,_=>none
  | _,_=>none
 | .build t parts =>
  match fieldsOf P t,so P t with
  | some lV,some z =>
   if lV.toList.all (fun f=>(P.info? f.type).isSome)=false then none else
   match parts.toList.mapM fun (p:Nat×Operand)=>(lV[p.1]?).map fun fd=>(fd.offset,P.cellsOf fd.type,iS p.2) with
   | some l=>(ui z l).map fun c=>{val:= .agg c}
   | none=>none
  | _,_=>Li P t (parts.toList.map fun p=>(p.1,iS p.2))
 | .buildSlice t len parts =>
  match rH P t with
  | some e=>match so P e with
   | some z =>
    if len*z.length>16777216\/z.length≠P.cellsOf e\/z.length=0 then none else
    match BZ z.length (List.replicate len z) (parts.toList.map fun p=>(p.1,iS p.2)) with
    | some es=>some {val:= .bk a4 0 0 len,gE:=[(a4,[⟨z.length,es,.live⟩])]}
    | none=>none
   | none=>none
  | none=>none
 | .call {callee:= .builtin .len,args,argTypes} =>
  match args.toList.map iS,P.underlying (argTypes.getD 0 0),decide (argTypes.size=1) with
  | [.isl _ es],some (.slice _),true=>some {val:= .n .i64 es.length}
  | [.bk r k _ len],some (.slice _),true=>match a2 r with
   | some row=>match pM (some row) k c2 with
    | some (_,bX)=>some {val:= .n .i64 len,f7:=bX}
    | none=>none
   | none=>none
  | [.f6],some (.slice _),true=>some {val:= .n .i64 0}
  | [.s x],some .string,true=>some {val:= .n .i64 x.size}
  | _,_,_=>none
 | _=>none
theorem qR {α:Type}{sz:Nat}(bK:0<sz): ∀(es:List (List α)) (_ : ∀e∈es,e.length=sz) (j:Nat),
 es.flatten[j]? = (es[j / sz]?).bind (·[j % sz]?)
 | [],_,j=>by simp
 | e::es,h,j=>by
  have he:e.length=sz:=h e (by simp);rw[List.flatten_cons,List.getElem?_append];by_cases av:j<sz
  ·rw[dw (by omega),Nat.div_eq_of_lt av,Nat.mod_eq_of_lt av];simp
  ·rw[dy (by omega),he,qR bK es (fun e2 m9=>h e2 (by simp[m9])) (j-sz)];have h1:j / sz=(j-sz) / sz+1:=Nat.div_eq_sub_div bK (by omega);have o:j % sz=(j-sz) % sz:=Nat.mod_eq_sub_mod (by omega);rw[h1,o];simp
theorem D0 {α:Type}{sz:Nat}{es:List (List α)}(aX:∀e∈es,e.length=sz){i:Nat}{c:List α}(he:es[i]? = some c){j:Nat}(av:j<sz):
 es.flatten[i*sz+j]? = c[j]? := by
 have bK:0<sz:=by omega
 rw[qR bK es aX];have h1:(i*sz+j) / sz=i:=by rw[Nat.mul_comm,Nat.mul_add_div bK,Nat.div_eq_of_lt av];omega
 have o:(i*sz+j) % sz=j:=by rw[Nat.mul_comm,Nat.mul_add_mod,Nat.mod_eq_of_lt av]
 rw[h1,o,he];rfl
theorem RK {α:Type}{sz:Nat}{es:List (List α)}(aX:∀e∈es,e.length=sz){i:Nat}{c eJ:List α}(he:es[i]? = some c)(a3:eJ.length=sz)(j:Nat):
 (es.set i eJ).flatten[j]? = if i*sz<=j/\j<i*sz+sz then eJ[j-i*sz]? else es.flatten[j]? := by
 rcases Nat.eq_zero_or_pos sz with h0|bK
 ·subst h0
  have e1 : ∀(l:List (List α)),(∀e∈l,e.length=0)->l.flatten=[]:=by
   intro l aX;induction l with
   | nil=>rfl
   | cons a l ih=>rw[List.flatten_cons,ih fun e he=>aX e (by simp[he])];have:=aX a (by simp);simp_all
  rw[e1 _ aX,e1 (es.set i eJ) (by
   intro e hm;rcases List.mem_or_eq_of_mem_set hm with h|h
   ·exact aX e h
   ·exact h▸a3)]
  simp
 ·have MO : ∀e∈es.set i eJ,e.length=sz:=by
   intro e hm;rcases List.mem_or_eq_of_mem_set hm with h|h
   ·exact aX e h
   ·exact h▸a3
  have ad:i<es.length:=by
   rcases Nat.lt_or_ge i es.length with h|h
   ·exact h
   ·rw[List.getElem?_eq_none h] at he;simp at he
  rw[qR bK _ MO,qR bK _ aX];by_cases a5:j / sz=i
  ·have h1:i*sz<=j/\j<i*sz+sz:=by
    subst a5;constructor
    ·exact Nat.div_mul_le_self j sz
    ·have:=Nat.lt_div_mul_add (a:=j) bK;omega
   rw[dw h1,a5,List.getElem?_set_self ad];have:j % sz=j-i*sz:=(by subst a5;have:=Nat.div_add_mod j sz;rw[Nat.mul_comm] at this;omega);simp[this]
  ·have h1 : ¬(i*sz<=j/\j<i*sz+sz):=by
    rintro⟨a,b⟩;apply a5;obtain⟨d,rfl⟩ : ∃d,j=i*sz+d:=⟨j-i*sz,by omega⟩;rw[Nat.mul_comm i sz,Nat.mul_add_div bK,Nat.div_eq_of_lt (by omega)];omega
   rw[dy h1,List.getElem?_set_ne (Ne.symm a5)]
def p8 (w:World)(ok:Nat->Prop)(bh:kk)(bm:j6)(eU I sz:Nat)(es:List (List aH)):Prop :=
 (∀e∈es,e.length=sz)/\ ∀(j:Nat) x,es.flatten[j]? = some x-> ∃v,w.cell? ⟨eU,I+j,none⟩=some v/\lg v=true/\Rel w ok bh bm x v
theorem kd.rd {w:World}{ok:Nat->Prop}{bh:kk}{bm:j6}{I:a8}{eU m:Nat}(h:kd w ok bh bm I (some (eU,m))):p8 w ok bh bm eU 0 I.sz I.es:=by obtain⟨c,fp,h1,o,U,ak⟩:=h;refine⟨U,fun j x ab=> ?_⟩;obtain⟨v,e1,aB,bP⟩:=ak j x ab;exact⟨v,by rw[cell_of_row w eU (0+j) c fp (0,0) h1,dG];exact e1,aB,bP⟩
theorem ajg {w:World}{ok:Nat->Prop}{bh:kk}{bm:j6}{x:aH}{v:Value}(h:Rel w ok bh bm x v)(an:x.one=true):v.oneCell'=true:=h.lg an
theorem Sw {P:Program}{t:TypeId}(h:(P.underlying t).isSome=true)(w:World):(isAgg t).run P w = .ok (Et P t) w:=by
 cases bG:P.underlying t with
 | none=>simp[bG] at h
 | some d=>cases d<;>simp[isAgg,Et,run_underlying bG,bG]
theorem uR {P:Program}{t:TypeId}(h:(P.info? t).isSome=true)(w:World):(sizeOf t).run P w = .ok (P.cellsOf t) w:=by
 cases ad:P.info? t with
 | none=>simp[ad] at h
 | some i=>simp[sizeOf,typeInfo,ad,Program.cellsOf]
theorem td (b I n:Nat):(⟨b,I,none⟩:Addr).add n=⟨b,I+n,none⟩:=by unfold Addr.add;split<;>simp_all
theorem KX {P:Program}{w:World}{ok:Nat->Prop}{bh:kk}{bm:j6}{eU I sz i off:Nat}{es:List (List aH)}{c:List aH}{t:TypeId}{x:aH}
 (jC:p8 w ok bh bm eU I sz es) (he:es[i]? = some c) (cf:sG P t c off=some x) :
 ∃v,(Instr.loadAt t (.pointer (some ⟨eU,I+(i*sz+off),none⟩))).run P w = .ok v w/\Rel w ok bh bm x v:=by
 have hlen:c.length=sz:=jC.1 c (dH he);unfold sG at cf;split at cf
 ·simp at cf
 ·rename_i ad
  simp only[Bool.not_eq_true',Bool.not_eq_false,dM] at ad;have k7 : ∀j,j<sz-> ∃y v,c[j]? = some y/\w.cell? ⟨eU,I+(i*sz+j),none⟩=some v/\lg v=true/\Rel w ok bh bm y v:=(by intro j av;have a1:c[j]? = some c[j]:=dz (by omega);obtain⟨v,e1,aB,bP⟩:=jC.2 (i*sz+j) c[j] (by rw[D0 jC.1 he av,a1]);exact⟨_,v,a1,e1,aB,bP⟩);simp only[Instr.loadAt,Instr.sureAddr,loadVar,Sem.run_bind,Sem.run_pure,Result.andThen,Sw ad.1,uR ad.2];split at cf
  ·rename_i ts
   rw[ts];split at cf
   ·rename_i hle
    simp at cf;subst cf;have aX:=run_loadCells (P:=P) w ⟨eU,I+(i*sz+off),none⟩ (P.cellsOf t) (fun j=>(w.cell? ⟨eU,I+(i*sz+(off+j)),none⟩).getD undef) (by intro j av;obtain⟨y,v,-,e1,-,-⟩:=k7 (off+j) (by omega);rw[td,show I+(i*sz+off)+j=I+(i*sz+(off+j)) by omega,e1];rfl);refine⟨.agg (List.map (fun j=>(w.cell? ⟨eU,I+(i*sz+(off+j)),none⟩).getD undef) (List.range (P.cellsOf t))).toArray,by simp[aX,Result.andThen,uR ad.2],?_⟩;refine .agg _ (by simp;omega) ?_ ?_
    ·intro j v bg;rw[dJ,Option.map_eq_some_iff] at bg;obtain⟨q,na,rfl⟩:=bg;obtain⟨pU,Cg⟩:=List.getElem?_eq_some_iff.1 na;have a5:j<P.cellsOf t:=(by simpa using pU);obtain rfl:j=q:=(by simpa using Cg);obtain⟨y,v,-,e1,aB,-⟩:=k7 (off+j) (by omega);rw[e1];exact aB
    ·intro j y v a1 bg;rw[dJ,Option.map_eq_some_iff] at bg;obtain⟨q,na,rfl⟩:=bg;obtain⟨pU,Cg⟩:=List.getElem?_eq_some_iff.1 na;have a5:j<P.cellsOf t:=(by simpa using pU);obtain rfl:j=q:=(by simpa using Cg);rw[List.getElem?_take,dw a5,List.getElem?_drop] at a1;obtain⟨nk,v,h0,e1,aB,bP⟩:=k7 (off+j) (by omega);rw[h0] at a1;simp at a1;subst a1;rw[e1];exact bP
   ·simp at cf
  ·rename_i ts
   have ts:Et P t=false:=(by simpa using ts);rw[ts];split at cf
   ·rename_i y a1
    split at cf
    ·simp at cf;subst cf
     have Ca:off<sz:=by
      rcases Nat.lt_or_ge off c.length with h|h
      ·omega
      ·rw[List.getElem?_eq_none h] at a1;simp at a1
     obtain⟨nk,v,h0,e1,aB,bP⟩:=k7 off Ca;rw[h0] at a1;simp at a1;subst a1;exact⟨v,by simp[e1],bP⟩
    ·simp at cf
   ·simp at cf
theorem QF {c:List aH}{off:Nat}{vs:List aH}(h:off+vs.length<=c.length):(setCells c off vs).length=c.length:=by simp[setCells];omega
theorem KN {c:List aH}{off:Nat}{vs:List aH}(h:off+vs.length<=c.length)(j:Nat):
 (setCells c off vs)[j]? = if off<=j/\j<off+vs.length then vs[j-off]? else c[j]? := by
 unfold setCells;rw[List.append_assoc,List.getElem?_append];have h1:(c.take off).length=off:=by simp;omega
 rw[h1];by_cases a:j<off
 ·rw[dw a,dy (by omega),List.getElem?_take,dw a]
 ·rw[dy a,List.getElem?_append]
  by_cases b:j<off+vs.length
  ·rw[dw (by omega),dw ⟨by omega,b⟩]
  ·rw[dy (by omega),dy (by omega),List.getElem?_drop];congr 1;omega
theorem ae5 {c:Array Value}{p:Nat}{vs:List Value}(h:p+vs.length<=c.size)(j:Nat):
 (c.toList.take p++vs++c.toList.drop (p+vs.length)).toArray[j]? = if p<=j/\j<p+vs.length then vs[j-p]? else c[j]? := by
 rw[List.getElem?_toArray,List.append_assoc,List.getElem?_append];have h1:(c.toList.take p).length=p:=by simp;omega
 rw[h1];by_cases a:j<p
 ·rw[dw a,dy (by omega),List.getElem?_take,dw a,Array.getElem?_toList]
 ·rw[dy a,List.getElem?_append]
  by_cases b:j<p+vs.length
  ·rw[dw (by omega),dw ⟨by omega,b⟩]
  ·rw[dy (by omega),dy (by omega),List.getElem?_drop,Array.getElem?_toList];congr 1;omega
theorem abr {P:Program}{g:G}{s:S}{aF:ga}{a:Act}{w:World}(h:c8 g s aF a w){r k b m i off:Nat}{l:List a8}{I:a8}{c:List aH}
 (ai:s.a2 r=some l) (an:s.al r k=some I) (aY:I.cN = .live) (ah:aF r k=some (b,m)) (he:I.es[i]? = some c)
 {t:TypeId} (MP:(P.info? t).isSome=true) {x:aH} {v:Value} (ab:Rel w (s.ok g aF w) s.bh (s.bm aF) x v) (m7:x.one=true\/ ∃c,x = .agg c)
 (fA:x.cells.length=P.cellsOf t) (ja:off+x.cells.length<=c.length) :
 ∃bV,(Instr.storeAt t (.pointer (some ⟨b,i*I.sz+off,none⟩)) v).run P w = .ok () bV /\
  c8 g (s.setRow r (l.set k {I with es:=I.es.set i (setCells c off x.cells)})) aF a bV:=by
 obtain⟨vs,bg,rS,k7,fZ⟩:=ab.cellsOf m7;have bs:=h.obj r k I an;rw[ah] at bs;obtain⟨cJ,fp,h1,o,U,ak⟩:=bs;have hlen:c.length=I.sz:=U c (dH he)
 have Cb:i*I.sz+off+vs.length<=cJ.size:=by
  rcases Nat.eq_zero_or_pos I.sz with cC|cC
  ·have:off=0:=(by omega);have:vs.length=0:=(by omega);rw[cC];omega
  ·have aX:I.es.flatten[i*I.sz+(I.sz-1)]? = some (c[I.sz-1]'(by omega)):=by
    rw[D0 U he (by omega)];exact dz (by omega)
   obtain⟨WL,e1,-,-⟩:=ak _ _ aX;have:=(Array.getElem?_eq_some_iff.1 e1).1;omega
 have nD:=run_storeCells_at P b (i*I.sz+off) fp vs 0 cJ w h1 (by simpa using Cb) (fun WL Fs=>by obtain⟨q,a5⟩:=List.getElem?_of_mem Fs;exact k7 q WL a5);simp only[Nat.add_zero] at nD
 have j0:(Instr.storeAt t (.pointer (some ⟨b,i*I.sz+off,none⟩)) v).run P w =
  .ok () (w.setRow b (cJ.toList.take (i*I.sz+off)++vs++cJ.toList.drop (i*I.sz+off+vs.length)).toArray):=by
  have bK:v.cells.size=P.cellsOf t:=(by rw[bg];simpa using rS.trans fA);simp only[Instr.storeAt,Instr.sureAddr,storeVar,Sem.run_bind,Sem.run_pure,Result.andThen,uR MP,bK,ne_eq,not_true_eq_false,if_false];rw[bg];simpa using nD
 refine⟨_,j0,?_⟩;have agd:(w.setRow b (cJ.toList.take (i*I.sz+off)++vs++cJ.toList.drop (i*I.sz+off+vs.length)).toArray).heap.size=w.heap.size:=size_setRow _ _ _;have uu:(setCells c off x.cells).length=I.sz:=by rw[QF ja];exact hlen
 refine(h.write ai an aY ah _ _ fp (setRow_heap w b cJ _ fp _ h1) agd (fun q a5=>setRow_other w b q _ a5) rfl rfl rfl ?_ ?_ ?_).1
 ·simp;omega
 ·intro e hm
  rcases List.mem_or_eq_of_mem_set hm with c0|c0
  ·exact U e c0
  ·exact c0▸uu
 ·intro j y a1
  rw[ae5 Cb];rw[RK U he uu] at a1;by_cases nb:i*I.sz<=j/\j<i*I.sz+I.sz
  ·rw[dw nb,KN ja] at a1
   by_cases Vd:off<=j-i*I.sz/\j-i*I.sz<off+x.cells.length
   ·rw[dw Vd] at a1;rw[dw ⟨by omega,by omega⟩];have a5:j-(i*I.sz+off)<vs.length:=(by omega);refine⟨vs[j-(i*I.sz+off)],dz a5,k7 _ _ (dz a5),fZ (j-i*I.sz-off) y _ a1 ?_⟩;rw[show j-i*I.sz-off=j-(i*I.sz+off) by omega];exact dz a5
   ·rw[dy Vd] at a1;rw[dy (by omega)];refine ak j y ?_;rw[show j=i*I.sz+(j-i*I.sz) by omega,D0 U he (by omega)];exact a1
  ·rw[dy nb] at a1;rw[dy (by rw[rS];omega)];exact ak j y a1
def S.jh (s:S)(u:List (Nat×List a8)):S:=u.foldl (fun s p=>s.setRow p.1 p.2) s
@[simp] theorem S.ajr (s:S):s.jh []=s:=rfl
@[simp] theorem S.ajs (s:S) (p:Nat×List a8):s.jh [p]=s.setRow p.1 p.2:=rfl
section
variable {w:World} {ok:Nat->Prop} {bh:kk} {bm:j6} {v:Value}
theorem Rel.wu {x:Bool}(h:Rel w ok bh bm (.b x) v):v = .bool x:=by cases h;rfl
theorem Rel.pK {k:IntKind}{x:Int}(h:Rel w ok bh bm (.n k x) v):v = .int k x:=by cases h;rfl
theorem Rel.B0 {x:ByteArray}(h:Rel w ok bh bm (.s x) v):v = .string x:=by cases h;rfl
theorem Rel.xP (h:Rel w ok bh bm .js v):v = .pointer none:=by cases h;rfl
theorem Rel.ry (h:Rel w ok bh bm .f6 v):v = .slice none 0 0:=by cases h;rfl
theorem Rel.HC (h:Rel w ok bh bm .jS v): ∃a c,v = .slice (some a) 0 c:=by cases h;exact⟨_,_,rfl⟩
theorem Rel.S8 {sz:Nat}(h:Rel w ok bh bm (.hE sz none) v):v = .pointer none:=by cases h;rfl
theorem Rel.Lj {sz:Nat}{c:List aH}(h:Rel w ok bh bm (.hE sz (some c)) v):Rel w ok bh bm (.fa sz [c] 0 0) v:=by cases h;assumption
theorem Rel.HW {f:Nat}{c:List aH}(h:Rel w ok bh bm (.fn f c) v): ∃vs:List Value,v = .func (.func f) #[] vs.toArray/\vs.length=c.length /\
 ∀(j:Nat) x u,c[j]? = some x->vs[j]? = some u->Rel w ok bh bm x u:=by
 cases h with|fn vs aX ai=>exact⟨vs,rfl,aX,ai⟩
theorem Rel.BD {c:List aH}(h:Rel w ok bh bm (.agg c) v): ∃vs:List Value,v = .agg vs.toArray/\vs.length=c.length/\(∀(j:Nat) u,vs[j]? = some u->VL.lg u=true) /\
 ∀(j:Nat) x u,c[j]? = some x->vs[j]? = some u->Rel w ok bh bm x u:=by
 cases h with|agg vs aX a3 ai=>exact⟨vs,rfl,aX,a3,ai⟩
theorem Rel.BE {c:List aH}(h:Rel w ok bh bm (.dX c) v): ∃vs:List Value,v = .tuple vs.toArray/\vs.length=c.length /\
 ∀(j:Nat) x u,c[j]? = some x->vs[j]? = some u->Rel w ok bh bm x u:=by
 cases h with|dX vs aX ai=>exact⟨vs,rfl,aX,ai⟩
theorem Rel.x2 {r k i off sz:Nat}{p:Option (Nat×Nat)}(h:Rel w ok bh bm (.ref r k i off) v)(cf:bm r k=some (sz,p)):
 p=none\/ ∃b m,p=some (b,m)/\v = .pointer (some ⟨b,i*sz+off,none⟩):=by
 cases h with
 | rB a hu aS =>
  cases p with
  | none=>exact .inl rfl
  | some q=>exact absurd cf (aS _ _)
 | ref hu h =>
  rw[cf] at h;simp only[dB,dD] at h;obtain⟨rfl,rfl⟩:=h;exact .inr ⟨_,_,rfl,rfl⟩
theorem Rel.ajy {r k i off:Nat}(h:Rel w ok bh bm (.ref r k i off) v): ∃a,v = .pointer a:=by
 cases h with
 | rB a=>exact⟨a,rfl⟩
 | ref=>exact⟨_,rfl⟩
theorem Rel.Sx {r k i off sz b m:Nat}(h:Rel w ok bh bm (.ref r k i off) v)(cf:bm r k=some (sz,some (b,m)))(Ve:Nat):
 Rel w ok bh bm (.ref r k i Ve) (.pointer (some ⟨b,i*sz+Ve,none⟩)):=by
 cases h with
 | rB a hu aS=>exact absurd cf (aS _ _)
 | ref hu h=>exact .ref hu cf
theorem Rel.BF {sz i off:Nat}{es:List (List aH)}(h:Rel w ok bh bm (.fa sz es i off) v): ∃eU I,(ok eU/\i7 es)/\v = .pointer (some ⟨eU,I+(i*sz+off),none⟩)/\p8 w ok bh bm eU I sz es:=by
 cases h with
 | fa cs aU ah aX hw a3 ai=>exact⟨_,_,⟨aU,ah⟩,rfl,aX,fun j x ab=>⟨cs j,hw j x ab,a3 j x ab,ai j x ab⟩⟩
theorem Rel.Ek {r k b3 len sz:Nat}{p:Option (Nat×Nat)}(h:Rel w ok bh bm (.bk r k b3 len) v)(cf:bm r k=some (sz,p)):
 (p=none/\b3=0/\len=0/\v = .slice none 0 0)\/ ∃b m a c,p=some (b,m)/\v = .slice a len c/\len<=c/\c<9223372036854775808/\(c=0\/(a=some ⟨b,b3*sz,none⟩/\(b3+c)*sz=m)):=by
 cases h with
 | oM a l c hu aS=>rw[cf] at aS;simp at aS
 | o7 hu h =>
  rw[cf] at h;simp only[dB,dD] at h;exact .inl ⟨h.2,rfl,rfl,rfl⟩
 | bk hu h aX a3 hm =>
  rw[cf] at h;simp only[dB,dD] at h;obtain⟨rfl,rfl⟩:=h;exact .inr ⟨_,_,_,_,rfl,rfl,aX,a3,hm.2.imp id fun e=>⟨e,hm.1⟩⟩
theorem Rel.xQ {r k b3 len sz:Nat}{p:Option (Nat×Nat)}(h:Rel w ok bh bm (.bk r k b3 len) v)(cf:bm r k=some (sz,p)):
 (p=none/\b3=0/\len=0/\v = .slice none 0 0)\/ ∃b m a c,p=some (b,m)/\v = .slice a len c/\len<=c/\c<9223372036854775808/\(b3+c)*sz=m/\(c=0\/a=some ⟨b,b3*sz,none⟩):=by
 cases h with
 | oM a l c hu aS=>rw[cf] at aS;simp at aS
 | o7 hu h =>
  rw[cf] at h;simp only[dB,dD] at h;exact .inl ⟨h.2,rfl,rfl,rfl⟩
 | bk hu h aX a3 hm =>
  rw[cf] at h;simp only[dB,dD] at h;obtain⟨rfl,rfl⟩:=h;exact .inr ⟨_,_,_,_,rfl,rfl,aX,a3,hm⟩
theorem Rel.ajh {r k b3 len:Nat}(h:Rel w ok bh bm (.bk r k b3 len) v): ∃a l c,v = .slice a l c:=by cases h<;>exact⟨_,_,_,rfl⟩
theorem Rel.u1 {sz:Nat}{es:List (List aH)}(h:Rel w ok bh bm (.isl sz es) v):
 (es=[]/\ ∃a c,v = .slice a 0 c/\(a=none->c=0))\/ ∃eU off c,(ok eU/\i7 es)/\v = .slice (some ⟨eU,off,none⟩) es.length c/\es.length<=c/\p8 w ok bh bm eU off sz es:=by
 cases h with
 | lj sz a c h=>exact .inl ⟨rfl,a,c,rfl,h⟩
 | isl cs aU ah aX a3 hw jI ai=>exact .inr ⟨_,_,_,⟨aU,ah⟩,rfl,a3,aX,fun j x ab=>⟨cs j,hw j x ab,jI j x ab,ai j x ab⟩⟩
theorem p8.isl {eU off c sz:Nat}{es:List (List aH)}(h:p8 w ok bh bm eU off sz es)(aU:ok eU/\i7 es)(a3:es.length<=c):Rel w ok bh bm (.isl sz es) (.slice (some ⟨eU,off,none⟩) es.length c):=by
 have ab : ∀j:Nat,∃v,∀x,es.flatten[j]? = some x->w.cell? ⟨eU,off+j,none⟩=some v/\VL.lg v=true/\Rel w ok bh bm x v:=by
  intro j
  cases av:es.flatten[j]? with
  | none=>exact⟨undef,fun x ab=>by simp at ab⟩
  | some y =>
   obtain⟨v,h1⟩:=h.2 j y av;exact⟨v,fun x ab=>by simp at ab;subst ab;exact h1⟩
 exact .isl (fun j=>(ab j).choose) aU.1 aU.2 h.1 a3 (fun j x av=>((ab j).choose_spec x av).1) (fun j x av=>((ab j).choose_spec x av).2.1) (fun j x av=>((ab j).choose_spec x av).2.2)
theorem p8.fa {eU I i off sz:Nat}{es:List (List aH)}(h:p8 w ok bh bm eU I sz es)(aU:ok eU/\i7 es):Rel w ok bh bm (.fa sz es i off) (.pointer (some ⟨eU,I+(i*sz+off),none⟩)):=by
 have ab : ∀j:Nat,∃v,∀x,es.flatten[j]? = some x->w.cell? ⟨eU,I+j,none⟩=some v/\VL.lg v=true/\Rel w ok bh bm x v:=by
  intro j
  cases av:es.flatten[j]? with
  | none=>exact⟨undef,fun x ab=>by simp at ab⟩
  | some y =>
   obtain⟨v,h1⟩:=h.2 j y av;exact⟨v,fun x ab=>by simp at ab;subst ab;exact h1⟩
 exact .fa (fun j=>(ab j).choose) aU.1 aU.2 h.1 (fun j x av=>((ab j).choose_spec x av).1) (fun j x av=>((ab j).choose_spec x av).2.1) (fun j x av=>((ab j).choose_spec x av).2.2)
end
def Fin (P:Program)(g:G)(s:S)(a:Act)(w:World)(I:Oper)(bF:iQ):Prop :=
 ∃v bV bY,((execOp a.eval I).run P w = .ok (.value v) bV\/((execOp a.eval I).run P w = .ok .skip bV/\v=undef)) /\
  c8 g (s.jh bF.gE) bY a bV/\Rel bV ((s.jh bF.gE).ok g bY bV) (s.jh bF.gE).bh ((s.jh bF.gE).bm bY) bF.val v
section
variable {P:Program} {g:G} {s:S} {aF:ga} {a:Act} {w:World} {I:Oper} {c2:gj} {a4:Nat} {bF:iQ}
theorem jf (h:c8 g s aF a w){v:Value}(j0:(execOp a.eval I).run P w = .ok (.value v) w)(hu:bF.gE=[])
 (ai:Rel w (s.ok g aF w) s.bh (s.bm aF) bF.val v):Fin P g s a w I bF :=
 ⟨v,w,aF,.inl j0,by rw[hu];exact h,by rw[hu];exact ai⟩
theorem TJ {x:Operand}(h:c8 g s aF a w)(an:I.op = .move x\/I.op = .assign x)(ay:fw P s.E s.a2 a4 I c2=some bF):Fin P g s a w I bF:=by
 have:bF={val:=ft s.E x}:=by rcases an with an|an<;>simp[fw,an] at ay<;>exact ay.symm
 subst this;refine jf (v:=a.eval x) h ?_ rfl (h.eval x);rcases an with an|an<;>simp[execOp,an]
theorem aet {c x y:Operand}(h:c8 g s aF a w)(an:I.op = .pick c x y)(ay:fw P s.E s.a2 a4 I c2=some bF)(cR:∀p∈bF.f7,p):Fin P g s a w I bF:=by
 have a3:=h.eval c;simp only[fw,an] at ay
 have key : ∀t:Bool,ft s.E c = .b t->bF.gE=[]->bF.val=(if t then ft s.E x else ft s.E y)->Fin P g s a w I bF:=by
  intro t cf hu bg;rw[cf] at a3;have e:a.eval c = .bool t:=a3.wu;refine jf (v:=if t then a.eval x else a.eval y) h (by simp[execOp,an,e,asBool]) hu ?_;rw[bg];cases t
  ·exact h.eval y
  ·exact h.eval x
 split at ay
 ·rename_i z t cC;simp at ay;subst ay;have e:z=t:=cR _ (by simp);subst e;exact key z cC rfl rfl
 ·rename_i cC _;simp at ay;subst ay;exact key true cC rfl rfl
 ·rename_i cC _;simp at ay;subst ay;exact key false cC rfl rfl
 ·simp at ay
theorem HD (h:c8 g s aF a w)(fB:s.a2 a4=none){v:Value}{al:a8}{c:Array Value}{fp:TypeId}(aY:al.cN = .live)
 (j0:(execOp a.eval I).run P w = .ok (.value v) (w.alloc (.cells c fp))) (hu:bF.gE=[(a4,[al])]) (hlen : ∀e∈al.es,e.length=al.sz)
 (a3 : ∀(j:Nat) x,al.es.flatten[j]? = some x-> ∃v,c[j]? = some v/\lg v=true/\Rel w (s.ok g aF w) s.bh (s.bm aF) x v)
 (hval : ∀(bV:World) (l6:Nat->Prop) (ol:kk) (nA:j6),ol a4 0->nA a4 0=some (al.sz,some (w.heap.size,c.size))->Rel bV l6 ol nA bF.val v):Fin P g s a w I bF:=by
 obtain⟨bY,ah,bK,-⟩:=h.alloc fB al aY c fp hlen a3;have h1:(s.setRow a4 [al]).bh a4 0:=by rw[oK];simp
 have o:(s.setRow a4 [al]).bm bY a4 0=some (al.sz,some (w.heap.size,c.size)):=by simp[S.bm,mN,nq,aY,ah]
 exact⟨v,_,bY,.inl j0,by rw[hu];exact bK,by rw[hu];exact hval _ _ _ _ h1 o⟩
theorem D1 {t:TypeId}{z:List aH}(cC:so P t=some z): ∃i ff,P.info? t=some i/\i.zero=some ff/\z=ff.cells.toList.map ofValue /\
 ∀(j:Nat) x,z[j]? = some x-> ∃v,ff.cells[j]? = some v/\lg v=true/\ ∀(w:World) (ok:Nat->Prop) (bh:kk) (bm:j6),Rel w ok bh bm x v:=by
 unfold so at cC
 cases ad:P.info? t with
 | none=>simp[ad] at cC
 | some i =>
  cases lR:i.zero with
  | none=>simp[ad,lR] at cC
  | some ff =>
   simp only[ad,lR] at cC;split at cC
   ·rename_i pk;simp only[dB] at cC;refine⟨i,ff,rfl,lR,cC.symm,fun j x ab=> ?_⟩;subst cC;rw[dJ,Option.map_eq_some_iff] at ab;obtain⟨v,bg,rfl⟩:=ab;refine⟨v,by rw[<- Array.getElem?_toList];exact bg,?_,fun w ok bh bm=>RI v⟩;exact List.all_eq_true.1 pk v (dH bg)
   ·simp at cC
theorem adu {t:TypeId}(h:c8 g s aF a w)(fB:s.a2 a4=none)(an:I.op = .alloc t)(ay:fw P s.E s.a2 a4 I c2=some bF):Fin P g s a w I bF:=by
 simp only[fw,an] at ay;split at ay
 ·rename_i z cC
  obtain⟨i,ff,ad,lR,e,k7⟩:=D1 cC;simp only[dB] at ay;subst ay;refine HD (v:= .pointer (some ⟨w.heap.size,0,none⟩)) (c:=ff.cells) (fp:=t) (al:=⟨z.length,[z],.live⟩) h fB rfl ?_ rfl (by simp) ?_ ?_
  ·simp[execOp,an,Instr.alloc,zeroValue,typeInfo,ad,lR,newVar,newRow]
  ·intro j x ab;simp only[List.flatten_cons,List.flatten_nil,List.append_nil] at ab;obtain⟨v,h1,o,U⟩:=k7 j x ab;exact⟨v,h1,o,U _ _ _ _⟩
  ·intro bV l6 ol nA hu cf;have:=Rel.ref (w:=bV) (ok:=l6) (i:=0) (off:=0) hu cf;simpa using this
 ·simp at ay
theorem ae6 {t:TypeId}{x:Operand}(h:c8 g s aF a w)(fB:s.a2 a4=none)(an:I.op = .box t x)(ay:fw P s.E s.a2 a4 I c2=some bF):Fin P g s a w I bF:=by
 simp only[fw,an] at ay;have ab:=h.eval x
 have key : ∀al:a8,al.cN = .live->al.es=[(ft s.E x).cells]->al.sz=(ft s.E x).cells.length->((ft s.E x).one=true\/ ∃c,ft s.E x = .agg c) ->
  bF.gE=[(a4,[al])]->bF.val = .ref a4 0 0 0->Fin P g s a w I bF:=by
  intro al aY iK fA m7 hu bg;obtain⟨vs,e1,aB,bP,dd⟩:=ab.cellsOf m7;refine HD (v:= .pointer (some ⟨w.heap.size,0,none⟩)) (c:=(a.eval x).cells) (fp:=t) h fB aY ?_ hu ?_ ?_ ?_
  ·simp[execOp,an,Instr.box,newVar,newRow]
  ·intro e he;rw[iK] at he;simp at he;rw[he,fA]
  ·intro j y a1
   rw[iK] at a1;simp only[List.flatten_cons,List.flatten_nil,List.append_nil] at a1
   have av:j<vs.length:=by
    rcases Nat.lt_or_ge j (ft s.E x).cells.length with c0|c0
    ·omega
    ·rw[List.getElem?_eq_none c0] at a1;simp at a1
   refine⟨vs[j],by rw[e1];simp[av],bP j _ (dz av),dd j y _ a1 (dz av)⟩
  ·intro bV l6 ol nA pV cf;have:=Rel.ref (w:=bV) (ok:=l6) (i:=0) (off:=0) pV cf;rw[bg];simpa using this
 split at ay
 ·rename_i c a3;simp only[dB] at ay;subst ay;exact key _ rfl (by rw[a3];rfl) (by rw[a3];rfl) (.inr ⟨c,a3⟩) rfl rfl
 ·split at ay
  ·rename_i m7
   simp only[dB] at ay;subst ay;have e:(ft s.E x).cells=[ft s.E x]:=by generalize ft s.E x=y at m7;cases y<;>first|rfl|simp[aH.one] at m7
   exact key _ rfl (by rw[e]) (by rw[e];rfl) (.inl m7) rfl rfl
  ·simp at ay
theorem jq {s:S}{aF:ga}{r k:Nat}{al:a8}(h:s.al r k=some al):s.bm aF r k=some (al.sz,aF r k):=by simp[S.bm,h]
theorem u2 {row:Option (List a8)}{k:Nat}{al:a8}{bX:List Prop}(h:pM row k c2=some (al,bX))(cR:∀p∈bX,p):d5 row k=some al:=by
 unfold pM at h;split at h
 ·split at h
  ·simp at h;obtain⟨rfl,rfl⟩:=h;exact cR _ (by simp)
  ·simp at h
 ·split at h
  ·rename_i c0;simp at h;obtain⟨rfl,rfl⟩:=h;exact c0
  ·simp at h
theorem Bo {es:List (List aH)}{i:Nat}{c:List aH}{bX:List Prop}(h:elemAt es i c2=some (c,bX))(cR:∀p∈bX,p):es[i]? = some c:=by
 unfold elemAt at h;split at h
 ·simp at h;obtain⟨rfl,rfl⟩:=h;exact cR _ (by simp)
 ·simp at h;obtain⟨rfl,rfl⟩:=h;exact cR _ (by simp)
 ·split at h
  ·rename_i c0;simp at h;obtain⟨rfl,rfl⟩:=h;exact c0
  ·simp at h
theorem aeu {t:TypeId}{x:Operand}(h:c8 g s aF a w)(an:I.op = .load t x)(ay:fw P s.E s.a2 a4 I c2=some bF)(cR:∀p∈bF.f7,p):Fin P g s a w I bF:=by
 simp only[fw,an] at ay;have ab:=h.eval x;split at ay
 ·rename_i r k i off h9
  rw[h9] at ab;split at ay
  ·rename_i al bX bs
   split at ay
   ·rename_i c aP nX
    split at ay
    ·rename_i v bg
     simp only[dB] at ay;subst ay;have kF:s.al r k=some al:=u2 bs fun p ah=>cR p (by simp[ah]);have q9:=Bo nX fun p ah=>cR p (by simp[ah]);have fZ:=h.obj r k al kF;rcases ab.x2 (jq kF) with h0|⟨b,m,ah,hval⟩
     ·rw[h0] at fZ;simp only[kd] at fZ;rw[fZ] at q9;simp at q9
     ·rw[ah] at fZ;obtain⟨u,h1,o⟩:=KX (P:=P) fZ.rd q9 bg;refine jf (v:=u) h ?_ rfl o;rw[dG] at h1;simp[execOp,an,hval,h1]
    ·simp at ay
   ·simp at ay
  ·simp at ay
 ·rename_i sz es i off h9
  rw[h9] at ab;split at ay
  ·rename_i c aP nX
   split at ay
   ·rename_i v bg;simp only[dB] at ay;subst ay;have q9:=Bo nX fun p ah=>cR p (by simp[ah]);obtain⟨eU,ck,aU,hval,jC⟩:=ab.BF;obtain⟨u,h1,o⟩:=KX (P:=P) jC q9 bg;refine jf (v:=u) h ?_ rfl o;simp[execOp,an,hval,h1]
   ·simp at ay
  ·simp at ay
 ·simp at ay
end
section
variable {P:Program} {g:G} {s:S} {aF:ga} {a:Act} {w:World} {I:Oper} {c2:gj} {a4:Nat} {bF:iQ}
theorem Sy (h:c8 g s aF a w){r k i off:Nat}{row:List a8}{al:a8}{c:List aH}{t:TypeId}{x y:Operand}(an:I.op = .store t x y)
 (h9:ft s.E x = .ref r k i off) (ei:s.a2 r=some row) (bs:s.al r k=some al) (aY:al.cN = .live) (nX:al.es[i]? = some c)
 (m7:(ft s.E y).one=true\/ ∃c,ft s.E y = .agg c) (fA:(ft s.E y).cells.length=P.cellsOf t) (MP:(P.info? t).isSome=true)
 (ja:off+(ft s.E y).cells.length<=c.length) (ay:bF.val = .dead) (hu:bF.gE=[(r,row.set k {al with es:=al.es.set i (setCells c off (ft s.E y).cells)})]):Fin P g s a w I bF:=by
 have ab:=h.eval x;rw[h9] at ab;have fZ:=h.obj r k al bs;rcases ab.x2 (jq bs) with h0|⟨b,m,ah,hval⟩
 ·rw[h0] at fZ;simp only[kd] at fZ;rw[fZ] at nX;simp at nX
 ·obtain⟨bV,h1,o⟩:=abr (P:=P) h ei bs aY ah nX MP (h.eval y) m7 fA ja;refine⟨undef,bV,aF,.inr ⟨?_,rfl⟩,by rw[hu];exact o,by rw[ay];exact .dead _⟩;simp[execOp,an,hval,h1]
theorem adv {t:TypeId}{x y:Operand}(h:c8 g s aF a w)(an:I.op = .store t x y)(ay:fw P s.E s.a2 a4 I c2=some bF)(cR:∀p∈bF.f7,p):Fin P g s a w I bF:=by
 simp only[fw,an] at ay;split at ay
 ·rename_i r k i off h9
  split at ay
  ·simp at ay
  ·rename_i row ei
   split at ay
   ·rename_i al bX age
    split at ay
    ·simp at ay
    ·rename_i aY
     have aY:al.cN = .live:=(by simpa using aY);split at ay
     ·simp at ay
     ·rename_i m7
      have m7:=aH.RJ (by simpa using m7);split at ay
      ·simp at ay
      ·rename_i fA
       simp only[not_or,Decidable.not_not,Bool.not_eq_false] at fA;have kF:(∀p∈bX,p)->s.al r k=some al:=fun bI=>(by have:=u2 age bI;unfold S.al;rw[ei];exact this);split at ay
       ·split at ay
        ·rename_i Ca
         simp only[dB] at ay;subst ay;subst Ca;have ez:i<al.es.length:=cR _ (by simp);have jI:(ft s.E y).cells.length=al.sz:=cR _ (by simp);have E0:=kF fun p ah=>cR p (by simp[ah])
         have hlen:(al.es[i]).length=al.sz:=by
          have fZ:=h.obj r k al E0
          cases ah:aF r k with
          | none=>rw[ah] at fZ;simp only[kd] at fZ;rw[fZ] at ez;simp at ez
          | some q =>
           rw[ah] at fZ;obtain⟨_,_,_,_,U,_⟩:=fZ;exact U _ (List.getElem_mem ez)
         refine Sy h an h9 ei E0 aY (c:=al.es[i]) (dz ez) m7 fA.1 fA.2 (by omega) rfl ?_;have e:setCells al.es[i] 0 (ft s.E y).cells=(ft s.E y).cells:=(by simp[setCells,hlen,jI]);rw[e]
        ·simp at ay
       ·split at ay
        ·rename_i c aP nX
         split at ay
         ·rename_i ja;simp only[dB] at ay;subst ay;exact Sy h an h9 ei (kF fun p ah=>cR p (by simp[ah])) aY (Bo nX fun p ah=>cR p (by simp[ah])) m7 fA.1 fA.2 ja rfl rfl
         ·simp at ay
        ·simp at ay
   ·simp at ay
 ·simp at ay
theorem abt {x:Operand}(h:c8 g s aF a w)(an:I.op = .nilCheck x)(ay:fw P s.E s.a2 a4 I c2=some bF)(cR:∀p∈bF.f7,p):Fin P g s a w I bF:=by
 simp only[fw,an] at ay;have ab:=h.eval x;split at ay
 ·rename_i r k i off h9
  rw[h9] at ab;split at ay
  ·rename_i al bX bs
   split at ay
   ·rename_i c aP nX
    simp only[dB] at ay;subst ay;have kF:s.al r k=some al:=u2 bs fun p ah=>cR p (by simp[ah]);have q9:=Bo nX fun p ah=>cR p (by simp[ah]);have fZ:=h.obj r k al kF;rcases ab.x2 (jq kF) with h0|⟨b,m,ah,hval⟩
    ·rw[h0] at fZ;simp only[kd] at fZ;rw[fZ] at q9;simp at q9
    ·refine jf (v:=a.eval x) h ?_ rfl ab;simp[execOp,an,hval]
   ·simp at ay
  ·simp at ay
 ·rename_i sz es i off h9;rw[h9] at ab;simp only[dB] at ay;subst ay;obtain⟨eU,ck,aU,hval,jC⟩:=ab.BF;refine jf (v:=a.eval x) h ?_ rfl ab;simp[execOp,an,hval]
 ·rename_i f c h9;rw[h9] at ab;simp only[dB] at ay;subst ay;obtain⟨vs,hval,-⟩:=ab.HW;refine jf (v:=a.eval x) h ?_ rfl ab;simp[execOp,an,hval]
 ·simp at ay
theorem acB {op:BinOp}{t:TypeId}{x y z:aH}{al:List Prop}(ay:Mr op x y=some (z,al))(cR:∀p∈al,p)
 {ok:Nat->Prop} {bh:kk} {bm:j6} {mm mn:Value} (ab:Rel w ok bh bm x mm) (a1:Rel w ok bh bm y mn) (p q:Operand) :
 ∃v,((do eqGuard op t p q mm mn;binOp op t mm mn):Sem Value).run P w = .ok v w/\Rel w ok bh bm z v:=by
 unfold Mr at ay;split at ay
 ·rename_i k n ey oD
  have jd:=ab.pK;have j8:=a1.pK;subst jd;subst j8;have dp : ∀op,eqGuard op t p q (.int k n) (.int ey oD)=pure ():=fun op=>eqGuard_at_int ..;simp only[Sem.run_bind,dp,Sem.run_pure,Result.andThen_ok];split at ay
  ·simp only[dB,dD] at ay;obtain⟨rfl,rfl⟩:=ay;have h0:0<=oD:=cR _ (by simp);exact⟨_,by simp[binOp,Op.shift,show ¬oD<0 by omega],.n _ _⟩
  ·simp only[dB,dD] at ay;obtain⟨rfl,rfl⟩:=ay;have h0:0<=oD:=cR _ (by simp);exact⟨_,by simp[binOp,Op.shift,show ¬oD<0 by omega],.n _ _⟩
  ·split at ay
   ·simp at ay
   ·rename_i aY
    have aY:k=ey:=(by simpa using aY);subst aY;split at ay<;>simp only[dB,dD,reduceCtorEq] at ay
    all_goals (obtain⟨rfl,rfl⟩:=ay)
    case h_4|h_5 =>
     have h0:oD≠0:=cR _ (by simp);exact⟨_,by simp[binOp,Op.intDiv,h0],.n _ _⟩
    all_goals first
     | (refine⟨_,?_,.n _ _⟩;rw[binOp_add];rfl)
     | (refine⟨_,?_,.n _ _⟩;rw[binOp_sub];rfl)
     | (refine⟨_,?_,.n _ _⟩;rw[binOp_mul];rfl)
     | (refine⟨_,?_,.n _ _⟩;rw[binOp_and];rfl)
     | (refine⟨_,?_,.n _ _⟩;rw[binOp_or];rfl)
     | (refine⟨_,?_,.n _ _⟩;rw[binOp_xor];rfl)
     | (refine⟨_,?_,.b _⟩;simp[binOp,Op.intCmp];done)
 ·rename_i c7 nk
  have jd:=ab.B0;have j8:=a1.B0;subst jd;subst j8;have dp : ∀op,eqGuard op t p q (.string c7) (.string nk)=pure ():=fun op=>eqGuard_at_string ..;simp only[Sem.run_bind,dp,Sem.run_pure,Result.andThen_ok];split at ay<;>simp only[dB,dD,reduceCtorEq] at ay
  all_goals (obtain⟨rfl,rfl⟩:=ay)
  ·have h0:c7.size+nk.size<9223372036854775808:=cR _ (by simp);refine⟨_,?_,.s _⟩;have h1 : ¬((c7.size+nk.size:Nat):Int)>IntKind.i64.max:=(by rw[IntKind.max_i64];omega);rw[IntKind.max_i64] at h1;simp[binOp,Op.stringOp];omega
  ·exact⟨_,by simp[binOp,Op.stringOp],.b _⟩
  ·exact⟨_,by simp[binOp,Op.stringOp],.b _⟩
 ·simp at ay
theorem xH (t:TypeId)(x y:Value):Op.equal t x y=Op.equalIn (9999+1) t x y:=rfl
theorem DL {t:TypeId}{a b:Bool}(d:Nat)(bG:P.underlying t=some .bool):(Op.equalIn (d+1) t (.bool a) (.bool b)).run P w = .ok (a == b) w:=by unfold Op.equalIn;simp[run_underlying bG]
theorem D2 {t e:TypeId}(d:Nat)(bG:P.underlying t=some (.pointer e)):(Op.equalIn (d+1) t (.pointer none) (.pointer none)).run P w = .ok true w:=by unfold Op.equalIn;simp[run_underlying bG]
theorem D3 {t e:TypeId}{a:Addr}(d:Nat)(bG:P.underlying t=some (.pointer e)):(Op.equalIn (d+1) t (.pointer (some a)) (.pointer none)).run P w = .ok false w:=by unfold Op.equalIn;simp[run_underlying bG]
theorem D4 {t e:TypeId}{a:Addr}(d:Nat)(bG:P.underlying t=some (.pointer e)):(Op.equalIn (d+1) t (.pointer none) (.pointer (some a))).run P w = .ok false w:=by unfold Op.equalIn;simp[run_underlying bG]
theorem D5 {t e:TypeId}(d:Nat)(bG:P.underlying t=some (.slice e)):(Op.equalIn (d+1) t (.slice none 0 0) (.slice none 0 0)).run P w = .ok true w:=by unfold Op.equalIn;simp[run_underlying bG]
theorem R1 {t e:TypeId}{a:Addr}{c:Nat}(d:Nat)(bG:P.underlying t=some (.slice e))(n:Nat):(Op.equalIn (d+1) t (.slice (some a) n c) (.slice none 0 0)).run P w = .ok false w:=by unfold Op.equalIn;simp[run_underlying bG]
theorem Bx {t:TypeId}{x y:aH}{r:Bool}(ay:us P t x y=some r)
 {ok:Nat->Prop} {bh:kk} {bm:j6} {mm mn:Value} (ab:Rel w ok bh bm x mm) (a1:Rel w ok bh bm y mn) (p q:Operand) :
 ((do eqGuard .eql t p q mm mn;binOp .eql t mm mn):Sem Value).run P w = .ok (.bool r) w /\
 ((do eqGuard .neq t p q mm mn;binOp .neq t mm mn):Sem Value).run P w = .ok (.bool !r) w:=by
 have key : ∀b:Bool,(∀op,eqGuard op t p q mm mn=pure ())->binOp .eql t mm mn=(do pure (.bool (<- Op.equal t mm mn)))->binOp .neq t mm mn=(do pure (.bool (!(<- Op.equal t mm mn)))) ->
  (Op.equal t mm mn).run P w = .ok b w->((do eqGuard .eql t p q mm mn;binOp .eql t mm mn):Sem Value).run P w = .ok (.bool b) w /\
  ((do eqGuard .neq t p q mm mn;binOp .neq t mm mn):Sem Value).run P w = .ok (.bool !b) w:=by
  intro b dp h1 o U;constructor
  ·rw[dp,h1];simp[U]
  ·rw[dp,o];simp[U]
 unfold us at ay;split at ay
 ·rename_i c7 nk bG;simp only[dB] at ay;subst ay;have jd:=ab.wu;have j8:=a1.wu;subst jd;subst j8;exact key _ (fun op=>eqGuard_at_bool ..) rfl rfl (by rw[xH];first|exact DL _ bG|exact D2 _ bG|exact D3 _ bG|exact D4 _ bG|exact D5 _ bG)
 ·rename_i e bG;simp only[dB] at ay;subst ay;have jd:=ab.xP;have j8:=a1.xP;subst jd;subst j8;exact key _ (fun op=>eqGuard_at_pointer ..) rfl rfl (by rw[xH];first|exact DL _ bG|exact D2 _ bG|exact D3 _ bG|exact D4 _ bG|exact D5 _ bG)
 ·rename_i e sz es i off bG;simp only[dB] at ay;subst ay;obtain⟨eU,ck,-,jd,-⟩:=ab.BF;have j8:=a1.xP;subst jd;subst j8;exact key _ (fun op=>eqGuard_at_pointer ..) rfl rfl (by rw[xH];first|exact DL _ bG|exact D2 _ bG|exact D3 _ bG|exact D4 _ bG|exact D5 _ bG)
 ·rename_i e sz es i off bG;simp only[dB] at ay;subst ay;obtain⟨eU,ck,-,j8,-⟩:=a1.BF;have jd:=ab.xP;subst jd;subst j8;exact key _ (fun op=>eqGuard_at_pointer ..) rfl rfl (by rw[xH];first|exact DL _ bG|exact D2 _ bG|exact D3 _ bG|exact D4 _ bG|exact D5 _ bG)
 ·rename_i e bG;simp only[dB] at ay;subst ay;have jd:=ab.ry;have j8:=a1.ry;subst jd;subst j8;exact key _ (fun op=>eqGuard_at_slice ..) rfl rfl (by rw[xH];first|exact DL _ bG|exact D2 _ bG|exact D3 _ bG|exact D4 _ bG|exact D5 _ bG)
 ·rename_i e bG;simp only[dB] at ay;subst ay;obtain⟨ze,c,jd⟩:=ab.HC;have j8:=a1.ry;subst jd;subst j8;exact key _ (fun op=>eqGuard_at_slice ..) rfl rfl (by rw[xH];exact R1 _ bG 0)
 ·simp at ay
theorem Un {t e:TypeId}(bG:P.underlying t=some (.slice e)){sz:Nat}{es:List (List aH)}(c6:es≠[])
 {ok:Nat->Prop} {bh:kk} {bm:j6} {mm mn:Value} (ab:Rel w ok bh bm (.isl sz es) mm) (a1:Rel w ok bh bm .f6 mn) (p q:Operand) :
 ((do eqGuard .eql t p q mm mn;binOp .eql t mm mn):Sem Value).run P w = .ok (.bool false) w /\
 ((do eqGuard .neq t p q mm mn;binOp .neq t mm mn):Sem Value).run P w = .ok (.bool true) w:=by
 rcases ab.u1 with ⟨h0,-⟩|⟨eU,off,c,-,jd,-⟩
 ·exact absurd h0 c6
 ·have j8:=a1.ry
  subst jd;subst j8;have U:(Op.equal t (.slice (some ⟨eU,off,none⟩) es.length c) (.slice none 0 0)).run P w = .ok false w:=(by rw[xH];exact R1 _ bG _);have dp : ∀op,eqGuard op t p q (.slice (some ⟨eU,off,none⟩) es.length c) (.slice none 0 0)=pure ():=fun op=>eqGuard_at_slice ..;have h1:binOp .eql t (.slice (some ⟨eU,off,none⟩) es.length c) (.slice none 0 0)=(do pure (.bool (<- Op.equal t (.slice (some ⟨eU,off,none⟩) es.length c) (.slice none 0 0)))):=rfl;have o:binOp .neq t (.slice (some ⟨eU,off,none⟩) es.length c) (.slice none 0 0)=(do pure (.bool (!(<- Op.equal t (.slice (some ⟨eU,off,none⟩) es.length c) (.slice none 0 0))))):=rfl;constructor
  ·rw[dp,h1];simp[U]
  ·rw[dp,o];simp[U]
theorem adw {op:BinOp}{t cF:TypeId}{x y:Operand}(h:c8 g s aF a w)(an:I.op = .binOp op t x y cF)(ay:fw P s.E s.a2 a4 I c2=some bF)(cR:∀p∈bF.f7,p):Fin P g s a w I bF:=by
 simp only[fw,an] at ay;have ab:=h.eval x;have a1:=h.eval y;split at ay
 ·rename_i v al aU;simp only[dB] at ay;subst ay;obtain⟨u,h1,o⟩:=acB (P:=P) (t:=t) aU cR ab a1 x y;refine jf (v:=u) h ?_ rfl o;simp only[execOp,an];rw[Sem.run_bind,h1];rfl
 ·split at ay
  ·cases he:us P t (ft s.E x) (ft s.E y) with
   | none=>simp[he] at ay
   | some r =>
    simp[he] at ay;subst ay;refine jf (v:= .bool r) h ?_ rfl (.b r);simp only[execOp,an];rw[Sem.run_bind,(Bx (w:=w) he ab a1 x y).1];rfl
  ·cases he:us P t (ft s.E x) (ft s.E y) with
   | none=>simp[he] at ay
   | some r =>
    simp[he] at ay;subst ay;refine jf (v:= .bool !r) h ?_ rfl (.b _);simp only[execOp,an];rw[Sem.run_bind,(Bx (w:=w) he ab a1 x y).2];rfl
  ·simp at ay
theorem aev {op:UnOp}{t:TypeId}{x:Operand}(h:c8 g s aF a w)(an:I.op = .unOp op t x)(ay:fw P s.E s.a2 a4 I c2=some bF):Fin P g s a w I bF:=by
 simp only[fw,an] at ay;have ab:=h.eval x
 cases he:MN op (ft s.E x) with
 | none=>simp[he] at ay
 | some v =>
  simp[he] at ay;subst ay;unfold MN at he;split at he
  ·rename_i k n h9;rw[h9] at ab;simp only[dB] at he;subst he;refine jf (v:= .int k (k.wrap (0-n))) h ?_ rfl (.n _ _);simp[execOp,an,ab.pK,Op.unary,Op.intArith]
  ·rename_i b h9;rw[h9] at ab;simp only[dB] at he;subst he;refine jf (v:= .bool !b) h ?_ rfl (.b _);simp[execOp,an,ab.wu,Op.unary]
  ·simp at he
theorem abQ {t cF:TypeId}{x:Operand}(h:c8 g s aF a w)(an:I.op = .convert t cF x)(ay:fw P s.E s.a2 a4 I c2=some bF):Fin P g s a w I bF:=by
 simp only[fw,an] at ay;have ab:=h.eval x;split at ay
 ·rename_i k ey n bG h9
  rw[h9] at ab;split at ay
  case isFalse=>simp at ay
  rename_i bK;simp only[dB] at ay;subst ay;refine jf (v:= .int k (k.wrap n)) h ?_ rfl (.n _ _)
  cases VE:P.underlying t with
  | none=>simp[VE] at bK
  | some d=>simp[execOp,an,ab.pK,convert,run_underlying bG,run_underlying VE,Conv.intToInt]
 ·rename_i r k b3 len bG h9
  rw[h9] at ab;split at ay
  ·rename_i al Im bs
   split at ay
   ·rename_i o2 Ft
    split at ay
    ·rename_i a3
     simp only[dB] at ay;subst ay
     obtain⟨e,bK,he⟩ : ∃e,P.underlying t=some (.slice e)/\P.underlying e=some (.int .u8):=by
      unfold rH at Im;split at Im
      ·rename_i e bK;exact⟨e,bK,Im⟩
      ·simp at Im
     have eK:s.al r k=some al:=bs;have fZ:=h.obj r k al eK
     have hzero : ∀(lW:Option Addr) (c:Nat),len=0->(convert t cF (.slice lW 0 c)).run P w = .ok (.string (B9 o2)) w:=by
      intro lW c h0;subst h0;have:o2=[]:=(by simpa [bytesOf] using Ft);subst this
      cases lW with
      | none=>rw[run_convert_bytes_string w t cF e none 0 c bK he bG];simp[Conv.bytesToString,B9]
      | some lW =>
       rw[run_convert_bytes_string w t cF e (some lW) 0 c bK he bG,run_bytesToString w lW 0 c [] (by have:=run_loadCells_list (P:=P) w lW [] (fun j v av=>by simp at av);simpa using this)];rfl
     rcases ab.Ek (jq eK) with ⟨ah,rfl,rfl,hval⟩|⟨b,m,A,c,ah,hval,tv,vt,hm⟩
     ·refine jf (v:= .string (B9 o2)) h ?_ rfl (.s _);simp[execOp,an,hval,hzero none 0 rfl]
     ·refine jf (v:= .string (B9 o2)) h ?_ rfl (.s _)
      by_cases h0:len=0
      ·subst h0;simp[execOp,an,hval,hzero A c rfl]
      ·rcases hm with hm|⟨hA,hm⟩
       ·omega
       ·subst hA
        rw[ah] at fZ;have jC:=fZ.rd
        have Ch : ∀(es:List (List aH)) (o2:ar),bytesOf es=some o2->es.length=o2.length/\ ∀(i:Nat) n,o2[i]? = some n->es[i]? = some [.n .u8 n]:=by
         intro es
         induction es with
         | nil=>intro o2 h;simp[bytesOf] at h;subst h;exact⟨rfl,fun i n ad=>by simp at ad⟩
         | cons x es ih =>
          intro o2 h;unfold bytesOf at h;split at h
          ·simp at *
          ·rename_i mG aj6 Ci
           simp only[List.cons.injEq] at Ci;obtain⟨rfl,rfl⟩:=Ci;rw[Option.map_eq_some_iff] at h;obtain⟨gr,IC,rfl⟩:=h;obtain⟨e1,aB⟩:=ih gr IC;refine⟨by simp[e1],fun i n ad=> ?_⟩
           cases i with
           | zero=>simp at ad;subst ad;rfl
           | succ i=>simpa using aB i n (by simpa using ad)
          ·simp at h
        obtain⟨e1,aB⟩:=Ch _ _ Ft;have hlen:o2.length=len:=(by rw[<- e1];simp;omega);have afO:(loadCells ⟨b,b3*al.sz,none⟩ len).run P w = .ok (o2.map (Value.int .u8)).toArray w:=(by have:=run_loadCells_list (P:=P) w ⟨b,b3*al.sz,none⟩ (o2.map (Value.int .u8)) (fun j v av=>by rw[dJ,Option.map_eq_some_iff] at av;obtain⟨n,aS,rfl⟩:=av;have nb:=aB j n aS;have yL:j<len:=(by rw[<- hlen];exact(List.getElem?_eq_some_iff.1 aS).1);rw[List.getElem?_take_of_lt yL,List.getElem?_drop] at nb;obtain⟨v,v1,v2,v3⟩:=jC.2 ((b3+j)*al.sz+0) (.n .u8 n) (by rw[D0 jC.1 nb (by omega)];rfl);have bg:=v3.pK;subst bg;rw[td,<- v1,a3.2];congr 2;omega);rw[List.length_map,hlen] at this;exact this);have o:=run_bytesToString w ⟨b,b3*al.sz,none⟩ len c o2 afO;rw[<- run_convert_bytes_string w t cF e _ len c bK he bG] at o;simp[execOp,an,hval,o,B9]
    ·simp at ay
   ·simp at ay
  ·simp at ay
 ·simp at ay
theorem abu {f:Fn}{Gh cJ:Array Operand}(h:c8 g s aF a w)(an:I.op = .makeFunc f Gh cJ)(ay:fw P s.E s.a2 a4 I c2=some bF):Fin P g s a w I bF:=by
 cases f with
 | func n =>
  simp only[fw,an] at ay;split at ay
  ·rename_i agW
   simp only[dB] at ay;subst ay;refine jf (v:= .func (.func n) #[] (cJ.map a.eval)) h ?_ rfl ?_
   ·have:Gh = #[]:=(by simpa using agW);subst this;simp[execOp,an,Instr.makeFunc]
   ·have:=Rel.fn (f:=n) (c:=cJ.toList.map (ft s.E)) (w:=w) (ok:=s.ok g aF w) (bh:=s.bh) (bm:=s.bm aF) (cJ.toList.map a.eval) (by simp) (by
     intro j x v ab bg;rw[dJ,Option.map_eq_some_iff] at ab bg;obtain⟨p,ah,rfl⟩:=ab;obtain⟨q,a5,rfl⟩:=bg;rw[ah] at a5;simp at a5;subst a5;exact h.eval p)
    have e:(cJ.toList.map a.eval).toArray=cJ.map a.eval:=(by apply Array.ext';rw[Array.toList_map]);rw[e] at this;exact this
  ·simp at ay
 | _=>simp[fw,an] at ay
theorem abR {i:Nat}{x:Operand}(h:c8 g s aF a w)(an:I.op = .extract x i)(ay:fw P s.E s.a2 a4 I c2=some bF):Fin P g s a w I bF:=by
 simp only[fw,an] at ay;have ab:=h.eval x;split at ay
 ·rename_i vs h9
  rw[h9] at ab
  cases ad:vs[i]? with
  | none=>simp[ad] at ay
  | some v =>
   simp[ad] at ay;subst ay;obtain⟨bh,hval,aX,ai⟩:=ab.BE
   have ez:i<bh.length:=by
    rcases Nat.lt_or_ge i vs.length with c0|c0
    ·omega
    ·rw[List.getElem?_eq_none c0] at ad;simp at ad
   have hu:bh[i]? = some bh[i]:=dz ez;refine jf (v:=bh[i]) h ?_ rfl (ai i v _ ad hu);simp[execOp,an,hval,Instr.extract,hu]
 ·simp at ay
end
section
variable {P:Program} {g:G} {s:S} {aF:ga} {a:Act} {w:World} {I:Oper} {c2:gj} {a4:Nat} {bF:iQ}
theorem tZ {t e:TypeId}(h:rH P t=some e):P.underlying t=some (.slice e):=by
 unfold rH at h;split at h
 ·rename_i e2 he;simp at h;subst h;exact he
 ·simp at h
theorem KO {t:TypeId}{lV:Array Field}(h:fieldsOf P t=some lV):P.underlying t=some (.struct lV):=by
 unfold fieldsOf at h;split at h
 ·rename_i e2 he;simp at h;subst h;exact he
 ·simp at h
theorem Rm : ∀(z c:List aH),(ti z c).length=z.length
 | x::z,y::c=>by simp[ti,Rm z c]
 | [],_=>by simp[ti]
 | _::_,[]=>by simp[ti]
theorem aa8 (z:List aH)(c2:gj):(u9 z c2).length=z.length:=by
 unfold u9;split
 ·exact Rm z _
 ·rfl
theorem abS (x y:aH){w:World}{ok:Nat->Prop}{bh:kk}{bm:j6}{v:Value}(h:Rel w ok bh bm x v):Rel w ok bh bm (Eu x y) v:=by
 unfold Eu;split
 ·rw[h.ry];exact .lj _ _ _ (fun _=>rfl)
 ·rw[h.xP];exact .q8 _
 ·rw[h.ry];exact .og (.lj _ _ _ (fun _=>rfl))
 ·exact h
theorem Sz : ∀(z c:List aH) (j:Nat) q,(ti z c)[j]? = some q-> ∃x,z[j]? = some x/\(q=x\/ ∃y,q=Eu x y)
 | x::z,y::c,0,q,h=>by simp[ti] at h;exact⟨x,rfl,.inr ⟨y,h.symm⟩⟩
 | x::z,y::c,j+1,q,h=>by simp only[ti,List.getElem?_cons_succ] at h;simpa using Sz z c j q h
 | [],c,j,q,h=>by simp[ti] at h
 | x::z,[],j,q,h=>⟨q,by simpa [ti] using h,.inl rfl⟩
theorem adx (z:List aH)(c2:gj)(j:Nat)(q:aH)(h:(u9 z c2)[j]? = some q): ∃x,z[j]? = some x/\(q=x\/ ∃y,q=Eu x y):=by
 unfold u9 at h;split at h
 ·exact Sz z _ j q h
 ·exact⟨q,h,.inl rfl⟩
theorem aa9 {t:TypeId}{x y:Operand}(h:c8 g s aF a w)(fB:s.a2 a4=none)(an:I.op = .makeSlice t x y)(ay:fw P s.E s.a2 a4 I c2=some bF)(cR:∀p∈bF.f7,p):Fin P g s a w I bF:=by
 simp only[fw,an] at ay;have ab:=h.eval x;have a1:=h.eval y;split at ay
 ·rename_i e lX l k2 c he agf agh
  rw[agf] at ab;rw[agh] at a1;split at ay
  ·rename_i i z ad cC
   obtain⟨fk,ff,lS,lR,r7,Uo⟩:=D1 cC;rw[ad] at lS;simp at lS;subst lS;simp only[Option.ite_none_right_eq_some,dB] at ay;obtain⟨fA,ay⟩:=ay;subst ay;have nX:=aa8 z c2
   have k7 : ∀(j:Nat) q,(u9 z c2)[j]? = some q-> ∃v,ff.cells[j]? = some v/\VL.lg v=true/\ ∀w ok bh bm,Rel w ok bh bm q v:=by
    intro j q a5;obtain⟨x,ex,oV⟩:=adx z c2 j q a5;obtain⟨v,v1,v2,v3⟩:=Uo j x ex;refine⟨v,v1,v2,fun w ok bh bm=> ?_⟩;rcases oV with rfl|⟨y,rfl⟩
    ·exact v3 w ok bh bm
    ·exact abS x y (v3 w ok bh bm)
   clear Uo;have h0:0<=l:=cR _ (by simp);have h1:l<=c:=cR _ (by simp);have o:(i.bytes:Int)*c<=281474976710656:=cR _ (by simp);have U:c<9223372036854775808:=cR _ (by simp);have oW:z.length=ff.cells.size:=(by rw[r7];simp);have j0:=run_make (P:=P) w t e i ff (tZ he) ad lR lX k2 l c h0 h1 o (by omega);refine HD (v:= .slice (some ⟨w.heap.size,0,none⟩) l.toNat c.toNat) (al:=⟨z.length,List.replicate l.toNat (u9 z c2),.live⟩) (c:=madeCells ff.cells (c.toNat*i.size)) (fp:=e) h fB rfl ?_ rfl ?_ ?_ ?_
   ·simp[execOp,an,ab.pK,a1.pK,j0]
   ·intro e2 m9;rw[List.eq_of_mem_replicate m9];exact nX
   ·intro j q a5
    have aX : ∀e2∈List.replicate l.toNat (u9 z c2),e2.length=z.length:=fun e2 m9=>(by rw[List.eq_of_mem_replicate m9];exact nX);rcases Nat.eq_zero_or_pos z.length with tw|ID
    ·have:u9 z c2=[]:=List.length_eq_zero_iff.1 (by omega);rw[this] at a5;simp at a5
    ·rw[qR ID _ aX,List.getElem?_replicate] at a5
     by_cases av:j / z.length<l.toNat
     ·rw[dw av] at a5;simp only[dA] at a5;obtain⟨v,e1,aB,bP⟩:=k7 _ _ a5;refine⟨v,?_,aB,bP _ _ _ _⟩;have ez:j<c.toNat*i.size:=(by rw[<- fA];have:j<l.toNat*z.length:=(Nat.div_lt_iff_lt_mul ID).1 av;exact Nat.lt_of_lt_of_le this (dL _ (by omega)));simp only[madeCells];rw[Array.getElem?_map,Array.getElem?_range];simp only[ez,if_true,Option.map_some];rw[oW] at e1;have hm:j % ff.cells.size<ff.cells.size:=Nat.mod_lt _ (by omega);rw[Array.getElem?_eq_getElem hm] at e1;rw[getElem!_pos ff.cells _ hm];exact e1
     ·rw[dy av] at a5;simp at a5
   ·intro bV l6 ol nA hu cf;refine Rel.bk hu cf (by omega) (by omega) ⟨?_,.inr (by simp)⟩;rw[size_madeCells];simp only[dG,fA]
  ·simp at ay
 ·simp at ay
theorem aba {t:TypeId}{x:Operand}{f:Nat}(h:c8 g s aF a w)(an:I.op = .fieldAddr t x f)(ay:fw P s.E s.a2 a4 I c2=some bF)(cR:∀p∈bF.f7,p):Fin P g s a w I bF:=by
 simp only[fw,an] at ay;have ab:=h.eval x;split at ay
 ·rename_i lV Fu
  split at ay
  ·rename_i fd wF
   split at ay
   ·simp at ay
   ·rename_i VF
    have ad:(P.info? fd.type).isSome=true:=by
     cases ad:P.info? fd.type with
     | none=>simp[Program.cellsOf,ad] at VF
     | some i=>rfl
    have j0 : ∀A:Addr,A.spot=none->(Instr.fieldAt t (.pointer (some A)) f).run P w = .ok (.pointer (some ⟨A.block,A.off+fd.offset,none⟩)) w:=(by intro A hA;have e:A.add fd.offset=⟨A.block,A.off+fd.offset,none⟩:=(by obtain⟨b,I,sp⟩:=A;simp only at hA;subst hA;exact td b I _);simp[Instr.fieldAt,run_underlying (KO Fu),wF,Instr.sureAddr,fieldPlace,uR ad,VF,e]);split at ay
    ·rename_i r k i off h9
     rw[h9] at ab;split at ay
     ·rename_i al bX bs
      split at ay
      ·rename_i c aP nX
       simp only[dB] at ay;subst ay;have kF:s.al r k=some al:=u2 bs fun p ah=>cR p (by simp[ah]);have q9:=Bo nX fun p ah=>cR p (by simp[ah]);have fZ:=h.obj r k al kF;rcases ab.x2 (jq kF) with h0|⟨b,m,ah,hval⟩
       ·rw[h0] at fZ;simp only[kd] at fZ;rw[fZ] at q9;simp at q9
       ·refine jf (v:= .pointer (some ⟨b,i*al.sz+(off+fd.offset),none⟩)) h ?_ rfl ?_
        ·simp[execOp,an,hval,j0,Nat.add_assoc]
        ·exact ab.Sx ((jq kF).trans (by rw[ah])) _
      ·simp at ay
     ·simp at ay
    ·rename_i sz es i off h9;rw[h9] at ab;simp only[dB] at ay;subst ay;obtain⟨eU,ck,aU,hval,jC⟩:=ab.BF;refine jf (v:= .pointer (some ⟨eU,ck+(i*sz+(off+fd.offset)),none⟩)) h ?_ rfl (jC.fa aU);simp[execOp,an,hval,j0,Nat.add_assoc]
    ·simp at ay
  ·simp at ay
 ·simp at ay
theorem LF {t e:TypeId}{n:Nat}(h:EZ P t=some (n,e)):P.underlying t=some (.array n e)/\(P.info? e).isSome=true/\P.cellsOf e≠0/\1<n:=by
 unfold EZ at h;split at h
 ·rename_i oD e2 hu
  split at h
  ·rename_i a3;simp only[dB,dD] at h;obtain⟨rfl,rfl⟩:=h;exact⟨hu,a3⟩
  ·simp at h
 ·simp at h
theorem ady {t:TypeId}{x y:Operand}(h:c8 g s aF a w)(an:I.op = .indexAddr t x y)(ay:BX P s.a2 t (ft s.E x) (ft s.E y) c2=some bF)(cR:∀p∈bF.f7,p):Fin P g s a w I bF:=by
 unfold BX at ay;have ab:=h.eval x;have a1:=h.eval y;split at ay
 ·rename_i n e r k i off cN j h2 vk E1
  rw[vk] at ab;rw[E1] at a1;obtain⟨hu,ad,a3,aS⟩:=LF h2;split at ay
  ·rename_i al bX bs
   split at ay
   ·rename_i c aP nX
    simp only[dB] at ay;subst ay;have kF:s.al r k=some al:=u2 bs fun p ah=>cR p (by simp[ah]);have q9:=Bo nX fun p ah=>cR p (by simp[ah]);have h0:0<=j:=cR _ (by simp);have h1:j<n:=cR _ (by simp);have fZ:=h.obj r k al kF;rcases ab.x2 (jq kF) with cC|⟨b,m,ah,hval⟩
    ·rw[cC] at fZ;simp only[kd] at fZ;rw[fZ] at q9;simp at q9
    ·refine jf (v:= .pointer (some ⟨b,i*al.sz+(off+j.toNat*P.cellsOf e),none⟩)) h ?_ rfl ?_
     ·simp[execOp,an,hval,a1.pK,Instr.indexAt,asIntOf,run_underlying hu,Instr.sureAddr,h0,h1,uR ad,td,Nat.add_assoc]
     ·exact ab.Sx ((jq kF).trans (by rw[ah])) _
   ·simp at ay
  ·simp at ay
 ·simp at ay
theorem abb {t:TypeId}{x y:Operand}(h:c8 g s aF a w)(an:I.op = .indexAddr t x y)(ay:fw P s.E s.a2 a4 I c2=some bF)(cR:∀p∈bF.f7,p):Fin P g s a w I bF:=by
 simp only[fw,an] at ay;have ab:=h.eval x;have a1:=h.eval y;split at ay
 ·rename_i e k j he h9
  rw[h9] at a1;have hu:=tZ he
  have j0 : ∀(b I len cap:Nat),0<=j->j<len->(P.info? e).isSome=true ->
   (Instr.indexAt t (.slice (some ⟨b,I,none⟩) len cap) (.int k j)).run P w = .ok (.pointer (some ⟨b,I+j.toNat*P.cellsOf e,none⟩)) w:=by
   intro b I len cap h0 h1 ad;have e2:=td b I (j.toNat*P.cellsOf e);simp[Instr.indexAt,asIntOf,run_underlying hu,h0,h1,uR ad,e2]
  have yq : ∀sz,sz=P.cellsOf e->sz≠0->(P.info? e).isSome=true:=by
   intro sz bK cC
   cases ad:P.info? e with
   | none=>simp[Program.cellsOf,ad] at bK;exact absurd bK cC
   | some i=>rfl
  split at ay
  ·rename_i sz es vk
   rw[vk] at ab;simp only[Option.ite_none_right_eq_some,dB] at ay;obtain⟨⟨bK,cC⟩,ay⟩:=ay;subst ay;have h0:0<=j:=cR _ (by simp);have h1:j<es.length:=cR _ (by simp);rcases ab.u1 with ⟨Fv,-⟩|⟨eU,off,c,aU,hval,a3,jC⟩
   ·subst Fv;simp at h1;omega
   ·refine jf (v:= .pointer (some ⟨eU,off+(j.toNat*sz+0),none⟩)) h ?_ rfl (jC.fa aU);simp[execOp,an,hval,a1.pK,j0 _ _ _ _ h0 h1 (yq sz bK cC),bK]
  ·rename_i r q b3 len vk
   rw[vk] at ab;split at ay
   ·rename_i row ei
    split at ay
    ·rename_i al bX bs
     simp only[Option.ite_none_right_eq_some,dB] at ay;obtain⟨⟨bK,cC⟩,ay⟩:=ay;subst ay;have kF:s.al r q=some al:=(by unfold S.al;rw[ei];exact u2 bs fun p ah=>cR p (by simp[ah]));have h0:0<=j:=cR _ (by simp);have h1:j<len:=cR _ (by simp);rcases ab.Ek (jq kF) with ⟨-,-,o,-⟩|⟨b,m,A,c,ah,hval,aX,-,hm⟩
     ·subst o;simp at h1;omega
     ·rcases hm with hm|⟨hA,hm⟩
      ·omega
      ·subst hA;have kr:=Ho kF;refine jf (v:= .pointer (some ⟨b,(b3+j.toNat)*al.sz+0,none⟩)) h ?_ rfl (.ref kr ((jq kF).trans (by rw[ah])));simp[execOp,an,hval,a1.pK,j0 _ _ _ _ h0 h1 (yq _ bK cC),bK,Nat.add_mul]
    ·simp at ay
   ·simp at ay
  ·simp at ay
 ·exact ady h an ay cR
theorem ae7 {c:Call}(h:c8 g s aF a w)(an:I.op = .call c)(a3:c.callee = .builtin .len)(ay:fw P s.E s.a2 a4 I c2=some bF)(cR:∀p∈bF.f7,p):Fin P g s a w I bF:=by
 obtain⟨IE,args,om⟩:=c;simp only at a3;subst a3;simp only[fw,an] at ay
 have key : ∀(x:Operand) (n:Nat) (t:TypeId) (v:Value),args.toList=[x]->om = #[t]->bF.val = .n .i64 n->bF.gE=[]->a.eval x=v ->
  (Builtin.len_ #[t] I.type #[v]).run P w = .ok (goInt n) w->Fin P g s a w I bF:=by
  intro x n t v hargs nc ai iL bg j0;subst nc;refine jf (v:=goInt n) h ?_ iL (by rw[ai];exact .n _ _);have bI:args = #[x]:=(by apply Array.ext';simpa using hargs);subst bI;simp[execOp,an,resolve,invoke,builtin,bg,j0]
 have hargs : ∀y,args.toList.map (ft s.E)=[y]-> ∃x,args.toList=[x]/\ft s.E x=y:=by
  intro y a1
  match aX:args.toList,a1 with
  | [x],a1=>simp at a1;exact⟨x,rfl,a1⟩
 have pN:decide (om.size=1)=true-> ∃t,om = #[t]/\om.getD 0 0=t:=by
  intro fA;have fA:om.size=1:=(by simpa using fA);obtain⟨l⟩:=om
  match l,fA with
  | [t],_=>exact⟨t,rfl,rfl⟩
 split at ay
 ·rename_i sz es e hm hu fA
  obtain⟨x,ab,h9⟩:=hargs _ hm;obtain⟨t,cf,nE⟩:=pN fA;rw[nE] at hu;simp only[dB] at ay;have ai:=h.eval x;rw[h9] at ai;rcases ai.u1 with ⟨Fv,A,c,hval,hA⟩|⟨eU,off,c,aU,hval,-⟩
  ·exact key x es.length t _ ab cf (by rw[<- ay]) (by rw[<- ay]) hval (by subst Fv;simp[Builtin.len_,run_underlying hu])
  ·exact key x es.length t _ ab cf (by rw[<- ay]) (by rw[<- ay]) hval (by simp[Builtin.len_,run_underlying hu])
 ·rename_i r k b3 len e hm hu fA
  obtain⟨x,ab,h9⟩:=hargs _ hm;obtain⟨t,cf,nE⟩:=pN fA;rw[nE] at hu;split at ay
  ·rename_i row ei
   split at ay
   ·rename_i al bX bs
    simp only[dB] at ay;have ai:=h.eval x;rw[h9] at ai;have kF:s.al r k=some al:=(by unfold S.al;rw[ei];exact u2 bs fun p ah=>cR p (by rw[<- ay];exact ah));rcases ai.Ek (jq kF) with ⟨-,-,o,hval⟩|⟨b,m,A,c,ah,hval,-⟩
    ·exact key x len t _ ab cf (by rw[<- ay]) (by rw[<- ay]) hval (by subst o;simp[Builtin.len_,run_underlying hu])
    ·exact key x len t _ ab cf (by rw[<- ay]) (by rw[<- ay]) hval (by simp[Builtin.len_,run_underlying hu])
   ·simp at ay
  ·simp at ay
 ·rename_i e hm hu fA;obtain⟨x,ab,h9⟩:=hargs _ hm;obtain⟨t,cf,nE⟩:=pN fA;rw[nE] at hu;simp only[dB] at ay;have ai:=h.eval x;rw[h9] at ai;exact key x 0 t _ ab cf (by rw[<- ay];rfl) (by rw[<- ay]) ai.ry (by simp[Builtin.len_,run_underlying hu])
 ·rename_i b hm hu fA;obtain⟨x,ab,h9⟩:=hargs _ hm;obtain⟨t,cf,nE⟩:=pN fA;rw[nE] at hu;simp only[dB] at ay;have ai:=h.eval x;rw[h9] at ai;exact key x b.size t _ ab cf (by rw[<- ay]) (by rw[<- ay]) ai.B0 (by simp[Builtin.len_,run_underlying hu])
 ·simp at ay
theorem GX {ok:Nat->Prop}{bh:kk}{bm:j6}{eU off sz:Nat}{es:List (List aH)}(h:p8 w ok bh bm eU off sz es)(l n:Nat)(aX:l<=es.length):
 p8 w ok bh bm eU (off+l*sz) sz ((es.drop l).take n):=by
 have uq : ∀e∈(es.drop l).take n,e.length=sz:=fun e he=>h.1 e (List.mem_of_mem_drop (List.mem_of_mem_take he));refine⟨uq,fun j x ab=> ?_⟩;rcases Nat.eq_zero_or_pos sz with h0|bK
 ·have e1 : ∀(l:List (List aH)),(∀e∈l,e.length=0)->l.flatten=[]:=by
   intro l aX;induction l with
   | nil=>rfl
   | cons a l ih=>rw[List.flatten_cons,ih fun e he=>aX e (by simp[he])];have:=aX a (by simp);simp_all
  rw[e1 _ (fun e he=>(uq e he).trans h0)] at ab;simp at ab
 ·rw[qR bK _ uq] at ab
  have av:j / sz<n:=by
   rcases Nat.lt_or_ge (j / sz) n with c0|c0
   ·exact c0
   ·rw[List.getElem?_eq_none (by simp;omega)] at ab;simp at ab
  rw[List.getElem?_take,dw av,List.getElem?_drop] at ab;obtain⟨v,e1,aB,bP⟩:=h.2 (l*sz+j) x (by rw[qR bK es h.1];have gI:(l*sz+j) / sz=l+j / sz:=(by rw[Nat.mul_comm,Nat.mul_add_div bK]);have gS:(l*sz+j) % sz=j % sz:=(by rw[Nat.mul_comm,Nat.mul_add_mod]);rw[gI,gS];exact ab);exact⟨v,by rw[Nat.add_assoc];exact e1,aB,bP⟩
theorem GQ {t e:TypeId}(hu:P.underlying t=some (.slice e))(ad:(P.info? e).isSome=true)(A:Option Addr)(len cap:Nat)(b3 lS:Option Value)(l h:Nat)
 (VG:(b3=none/\l=0)\/ ∃k,b3=some (.int k l)) (VH:(lS=none/\h=len)\/ ∃k,lS=some (.int k h)) (h1:l<=h) (o:h<=len) (U:len<=cap) :
 (Instr.sliceAt t (.slice A len cap) b3 lS none).run P w = .ok (.slice (if cap=l then A else A.map (·.add (l*P.cellsOf e))) (h-l) (cap-l)) w:=by
 have aU : ∀(k:IntKind) (n y:Nat) (code:BoundsCode),n<=y->(Instr.sliceBound (.int k n) y code).run P w = .ok n w:=by intro k n y code aS;simp[Instr.sliceBound,asIntOf,aS]
 rcases VG with ⟨rfl,rfl⟩|⟨lX,rfl⟩<;>rcases VH with ⟨rfl,rfl⟩|⟨k2,rfl⟩ <;>
  simp[Instr.sliceAt,Instr.slice,run_underlying hu,Instr.sliceBounds,uR ad,aU,h1,o,U,Nat.le_trans o U]
theorem BN {x:Option Operand}(h:c8 g s aF a w){d n:Nat}{al:List Prop}(aU:ag (x.map (ft s.E)) d=some (n,al))(cR:∀p∈al,p):
 (x.map a.eval=none/\n=d)\/ ∃k,x.map a.eval=some (.int k n):=by
 cases x with
 | none=>simp[ag] at aU;exact .inl ⟨rfl,aU.1.symm⟩
 | some x =>
  have ab:=h.eval x;simp only[Option.map_some] at aU ⊢;unfold ag at aU;split at aU
  ·rename_i he;simp at he
  ·rename_i _ k y he;simp only[dB] at he;rw[he] at ab;simp only[dB,dD] at aU;obtain⟨rfl,rfl⟩:=aU;have h0:0<=y:=cR _ (by simp);refine .inr ⟨k,?_⟩;rw[ab.pK,Int.toNat_of_nonneg h0]
  ·simp at aU
theorem adz {t:TypeId}{x:Operand}{b3 ad:Option Operand}(h:c8 g s aF a w)(an:I.op = .slice t x b3 ad none)(ay:fw P s.E s.a2 a4 I c2=some bF)(cR:∀p∈bF.f7,p):Fin P g s a w I bF:=by
 simp only[fw,an] at ay;have ab:=h.eval x
 have yq : ∀sz e,sz=P.cellsOf e->sz≠0->(P.info? e).isSome=true:=by
  intro sz e bK cC
  cases ad:P.info? e with
  | none=>simp[Program.cellsOf,ad] at bK;exact absurd bK cC
  | some i=>rfl
 split at ay
 ·rename_i e sz es hu h9
  rw[h9] at ab;split at ay
  ·rename_i l bX n aP aX aS
   simp only[Option.ite_none_right_eq_some,dB] at ay;obtain⟨⟨bK,cC⟩,ay⟩:=ay;subst ay;have i2:=BN h aX fun p ah=>cR p (by simp[ah]);have j9:=BN h aS fun p ah=>cR p (by simp[ah]);have h1:l<=n:=cR _ (by simp);have o:n<=es.length:=cR _ (by simp);rcases ab.u1 with ⟨Fv,A,c,hval,hA⟩|⟨eU,off,c,aU,hval,a3,jC⟩
   ·subst Fv
    have Fw:n=0:=(by simpa using o);subst Fw;have oX:l=0:=(by omega);subst oX;refine jf (v:= .slice (if c=0 then A else A.map (·.add (0*P.cellsOf e))) (0-0) (c-0)) h ?_ rfl ?_
    ·have:=GQ (w:=w) hu (yq sz e bK cC) A 0 c (b3.map a.eval) (ad.map a.eval) 0 0 i2 j9 (dE _) (dE _) (Nat.zero_le _);simp only[execOp,an,hval];simp only[Option.map_none,Sem.run_bind,this];rfl
    ·refine .lj sz _ _ fun aS=> ?_
     split at aS
     ·rename_i nY;omega
     ·have:=hA (by simpa using aS);omega
   ·have hlen:((es.drop l).take (n-l)).length=n-l:=by simp;omega
    refine jf (v:= .slice (if c=l then some ⟨eU,off,none⟩ else (some (⟨eU,off,none⟩:Addr)).map (·.add (l*P.cellsOf e))) (n-l) (c-l)) h ?_ rfl ?_
    ·have:=GQ (w:=w) hu (yq sz e bK cC) (some ⟨eU,off,none⟩) es.length c (b3.map a.eval) (ad.map a.eval) l n i2 j9 h1 o a3;simp only[execOp,an,hval];simp only[Option.map_none,Sem.run_bind,this];rfl
    ·by_cases jI:c=l
     ·have:n-l=0:=(by omega);rw[this];show Rel _ _ _ _ (.isl sz ((es.drop l).take 0)) _;rw[List.take_zero];exact .lj sz _ _ (fun _=>by omega)
     ·rw[dy jI];simp only[Option.map_some,td,<- bK];have ai:=(GX jC l (n-l) (by omega)).isl (c:=c-l) ⟨aU.1,fun e he=>aU.2 e (List.mem_of_mem_drop (List.mem_of_mem_take he))⟩ (by rw[hlen];omega);rw[hlen] at ai;exact ai
  ·simp at ay
 ·rename_i e r k WJ len hu h9
  rw[h9] at ab;split at ay
  ·simp at ay
  ·rename_i row ei
   split at ay
   ·simp at ay
   ·rename_i al WK bs
    split at ay
    ·rename_i l bX n aP aX aS
     simp only[Option.ite_none_right_eq_some,dB] at ay;obtain⟨⟨bK,cC⟩,ay⟩:=ay;subst ay;have kF:s.al r k=some al:=(by unfold S.al;rw[ei];exact u2 bs fun p ah=>cR p (by simp[ah]));have i2:=BN h aX fun p ah=>cR p (by simp[ah]);have j9:=BN h aS fun p ah=>cR p (by simp[ah]);have h1:l<=n:=cR _ (by simp);have o:n<=len:=cR _ (by simp);have kr:=Ho kF;rcases ab.xQ (jq kF) with ⟨ah,rfl,rfl,hval⟩|⟨b,m,A,c,ah,hval,tv,vt,nF,hm⟩
     ·have Fw:n=0:=(by omega);subst Fw;have oX:l=0:=(by omega);subst oX;refine jf (v:= .slice none 0 0) h ?_ rfl (.o7 kr ((jq kF).trans (by rw[ah])));have:=GQ (w:=w) hu (yq _ e bK cC) none 0 0 (b3.map a.eval) (ad.map a.eval) 0 0 i2 j9 (dE _) (dE _) (dE _);simp only[execOp,an,hval];simp only[Option.map_none,Sem.run_bind,this];rfl
     ·refine jf (v:= .slice (if c=l then A else A.map (·.add (l*P.cellsOf e))) (n-l) (c-l)) h ?_ rfl ?_
      ·have:=GQ (w:=w) hu (yq _ e bK cC) A len c (b3.map a.eval) (ad.map a.eval) l n i2 j9 h1 o tv;simp only[execOp,an,hval];simp only[Option.map_none,Sem.run_bind,this];rfl
      ·refine Rel.bk kr ((jq kF).trans (by rw[ah])) (by omega) (by omega) ?_
       refine⟨by rw[<- nF];congr 1;omega,?_⟩;by_cases jI:c=l
       ·exact .inl (by omega)
       ·rcases hm with hm|hA
        ·exact .inl (by omega)
        ·refine .inr ?_;rw[dy jI,hA];simp only[Option.map_some,td,<- bK,Nat.add_mul]
    ·simp at ay
 ·rename_i b hu h9
  rw[h9] at ab;split at ay
  ·rename_i l bX n aP aX aS
   simp only[dB] at ay;subst ay;have i2:=BN h aX fun p ah=>cR p (by simp[ah]);have j9:=BN h aS fun p ah=>cR p (by simp[ah]);have h1:l<=n:=cR _ (by simp);have o:n<=b.size:=cR _ (by simp);refine jf (v:= .string (b.extract l n)) h ?_ rfl (.s _);have aU : ∀(k:IntKind) (n y:Nat) (code:BoundsCode),n<=y->(Instr.sliceBound (.int k n) y code).run P w = .ok n w:=(by intro k n y code aS;simp[Instr.sliceBound,asIntOf,aS]);simp only[execOp,an,ab.B0,Option.map_none]
   rcases i2 with ⟨e1,rfl⟩|⟨lX,e1⟩<;>rcases j9 with ⟨aB,rfl⟩|⟨k2,aB⟩<;>rw[e1,aB] <;>
    simp[Instr.sliceAt,Instr.slice,run_underlying hu,Instr.sliceBounds,aU,h1,o]
  ·simp at ay
 ·simp at ay
end
section
variable {P:Program} {g:G} {s:S} {aF:ga} {a:Act} {w:World} {I:Oper} {c2:gj} {a4:Nat} {bF:iQ}
theorem R2 {ok:Nat->Prop}{bh:kk}{bm:j6}{t:TypeId}{c:List aH}{off:Nat}{x:aH}{vs:List Value}(aX:vs.length=c.length)
 (k7 : ∀(j:Nat) u,vs[j]? = some u->lg u=true) (ai : ∀(j:Nat) x u,c[j]? = some x->vs[j]? = some u->Rel w ok bh bm x u)
 (cf:sG P t c off=some x) : ∃v,(part t vs.toArray off).run P w = .ok v w/\Rel w ok bh bm x v:=by
 unfold sG at cf;split at cf
 ·simp at cf
 ·rename_i ad
  simp only[Bool.not_eq_true',Bool.not_eq_false,dM] at ad;simp only[part,Sem.run_bind,Sw ad.1,Result.andThen];split at cf
  ·rename_i ts
   rw[ts];split at cf
   ·rename_i hle
    simp at cf;subst cf;have e:(vs.toArray.extract off (off+P.cellsOf t))=((vs.drop off).take (P.cellsOf t)).toArray:=(by apply Array.ext';simp[List.extract_eq_take_drop]);refine⟨.agg ((vs.drop off).take (P.cellsOf t)).toArray,by simp[uR ad.2],?_⟩;refine .agg _ (by simp;omega) ?_ ?_
    ·intro j v bg
     rw[List.getElem?_take] at bg;split at bg
     ·rw[List.getElem?_drop] at bg;exact k7 _ _ bg
     ·simp at bg
    ·intro j y v a1 bg
     rw[List.getElem?_take] at bg a1;split at bg
     ·rename_i av;rw[dw av] at a1;rw[List.getElem?_drop] at bg a1;exact ai _ _ _ a1 bg
     ·simp at bg
   ·simp at cf
  ·rename_i ts
   have ts:Et P t=false:=(by simpa using ts);rw[ts];split at cf
   ·rename_i y a1
    split at cf
    ·simp at cf;subst cf
     have Ca:off<vs.length:=by
      rcases Nat.lt_or_ge off c.length with h|h
      ·omega
      ·rw[List.getElem?_eq_none h] at a1;simp at a1
     exact⟨vs[off],by simp[Ca],ai off y _ a1 (dz Ca)⟩
    ·simp at cf
   ·simp at cf
theorem adA {t:TypeId}{x:Operand}{f:Nat}(h:c8 g s aF a w)(an:I.op = .field t x f)(ay:fw P s.E s.a2 a4 I c2=some bF):Fin P g s a w I bF:=by
 simp only[fw,an] at ay;have ab:=h.eval x;split at ay
 ·rename_i lV Fu
  split at ay
  ·rename_i fd c wF h9
   rw[h9] at ab
   cases cf:sG P fd.type c fd.offset with
   | none=>simp[cf] at ay
   | some v =>
    simp[cf] at ay;subst ay;obtain⟨vs,hval,aX,a3,ai⟩:=ab.BD;obtain⟨u,h1,o⟩:=R2 aX a3 ai cf;refine jf (v:=u) h ?_ rfl o;simp[execOp,an,hval,Instr.field,run_underlying (KO Fu),wF,asAgg,h1]
  ·simp at ay
 ·simp at ay
theorem SA : ∀ {a b c:List aH},rM 0 a b=some c->c=a
 | [],[],c,h=>by simp[rM] at h;exact h
 | .n k x::a,.n ey y::b,c,h=>by
  unfold rM at h;split at h
  ·cases hm:rM 0 a b with
   | none=>simp[hm] at h
   | some d=>simp[hm] at h;rw[<- h,SA hm]
  ·simp at h
 | [],_::_,_,h=>by simp[rM] at h
theorem S9 {j:Int}(av:j≠0): ∀ {a b c:List aH},rM j a b=some c->c=b
 | [],[],c,h=>by simp[rM] at h;exact h
 | .n k x::a,.n ey y::b,c,h=>by
  unfold rM at h;split at h
  ·rename_i aY
   subst aY
   cases hm:rM j a b with
   | none=>simp[hm] at h
   | some d=>simp[hm,av] at h;rw[<- h,S9 av hm]
  ·simp at h
 | [],_::_,_,h=>by simp[rM] at h
theorem acC {t:TypeId}{x y:Operand}(h:c8 g s aF a w)(an:I.op = .index t x y)(ay:LQ P t (ft s.E x) (ft s.E y)=some bF)(cR:∀p∈bF.f7,p):Fin P g s a w I bF:=by
 unfold LQ at ay;have ab:=h.eval x;have a1:=h.eval y;split at ay
 ·rename_i e cs cN j h2 vk E1
  rw[vk] at ab;rw[E1] at a1;obtain⟨hu,ad,-,-⟩:=LF h2;split at ay
  ·rename_i er k1 bI aU
   cases hm:rM j er k1 with
   | none=>simp[hm] at ay
   | some c =>
    simp only[hm,Option.map_some,dB] at ay;subst ay;have h0:0<=j:=cR _ (by simp);have h1:j<2:=cR _ (by simp);obtain⟨vs,hval,aX,a3,ai⟩:=ab.BD
    have key:sG P e cs (j.toNat*P.cellsOf e)=some (.agg c):=by
     have:j=0\/j=1:=(by omega);rcases this with rfl|rfl
     ·rw[SA hm];exact bI
     ·rw[S9 (by decide) hm];exact aU
    obtain⟨u,lX,k2⟩:=R2 aX a3 ai key;refine jf (v:=u) h ?_ rfl k2;simp[execOp,an,hval,a1.pK,Instr.index,asIntOf,run_underlying hu,h0,h1,uR ad,lX]
  ·simp at ay
 ·simp at ay
theorem adB {t:TypeId}{x y:Operand}(h:c8 g s aF a w)(an:I.op = .index t x y)(ay:fw P s.E s.a2 a4 I c2=some bF)(cR:∀p∈bF.f7,p):Fin P g s a w I bF:=by
 simp only[fw,an] at ay;have ab:=h.eval x;have a1:=h.eval y;split at ay
 ·rename_i b k j hu vk E1
  rw[vk] at ab;rw[E1] at a1;simp only[dB] at ay;subst ay;have h0:0<=j:=cR _ (by simp);have h1:j<b.size:=cR _ (by simp);have o:j.toNat<b.size:=(by omega);refine jf (v:= .int .u8 (b[j.toNat]).toNat) h ?_ rfl ?_
  ·simp[execOp,an,ab.B0,a1.pK,Instr.index,asIntOf,run_underlying hu,h0,o]
  ·have e:b.data.toList.getD j.toNat 0=b[j.toNat]:=by
    rw[List.getD_eq_getElem?_getD,Array.getElem?_toList,Array.getElem?_eq_getElem (by simpa using o)];rfl
   show Rel _ _ _ _ (.n .u8 _) _;rw[e];exact .n _ _
 ·exact acC h an ay cR
theorem acD (off:Nat): ∀(vs:List Value) (n:Nat) (cs:Array Value) (j:Nat),off+n+vs.length<=cs.size ->
 ((vs.zipIdx n).foldl (fun cs (x:Value×Nat)=>cs.setIfInBounds (off+x.2) x.1) cs)[j]? = if off+n<=j/\j<off+n+vs.length then vs[j-(off+n)]? else cs[j]? := by
 intro vs
 induction vs with
 | nil=>intro n cs j h;simp;intro h1 o;omega
 | cons v vs ih =>
  intro n cs j h;simp only[List.length_cons] at h;simp only[List.zipIdx_cons,List.foldl_cons];rw[ih (n+1) _ j (by simp;omega)];simp only[List.length_cons,Array.getElem?_setIfInBounds];by_cases h1:j=off+n
  ·subst h1;rw[dy (by omega),dw rfl,dw (by omega),dw (by omega)];simp
  ·by_cases o:off+(n+1)<=j/\j<off+(n+1)+vs.length
   ·rw[dw o,dw (by omega)];rw[show j-(off+n)=(j-(off+(n+1)))+1 by omega];rfl
   ·rw[dy o,dy (fun e=>h1 e.symm),dy (by omega)]
theorem aay (off:Nat): ∀(vs:List (Value×Nat)) (cs:Array Value),(vs.foldl (fun cs (x:Value×Nat)=>cs.setIfInBounds (off+x.2) x.1) cs).size=cs.size:=by
 intro vs
 induction vs with
 | nil=>intro cs;rfl
 | cons v vs ih=>intro cs;simp only[List.foldl_cons];rw[ih];simp
def CJ (w:World)(ok:Nat->Prop)(bh:kk)(bm:j6)(c:List aH)(cs:Array Value):Prop :=
 cs.size=c.length/\(∀(j:Nat) u,cs[j]? = some u->lg u=true)/\ ∀(j:Nat) x u,c[j]? = some x->cs[j]? = some u->Rel w ok bh bm x u
theorem adC {ok:Nat->Prop}{bh:kk}{bm:j6}{c:List aH}{cs:Array Value}(h:CJ w ok bh bm c cs){x:aH}{v:Value}{off:Nat}(ab:Rel w ok bh bm x v)(a3:x.Bu=true)
 (ja:off+x.cells.length<=c.length):v.cells.size=x.cells.length /\
   CJ w ok bh bm (setCells c off x.cells) (v.cells.zipIdx.foldl (fun cs (y:Value×Nat)=>cs.setIfInBounds (off+y.2) y.1) cs):=by
 obtain⟨vs,bg,aX,k7,ai⟩:=ab.cellsOf (aH.RJ a3);have nc : ∀j,(v.cells.zipIdx.foldl (fun cs (y:Value×Nat)=>cs.setIfInBounds (off+y.2) y.1) cs)[j]? = if off<=j/\j<off+vs.length then vs[j-off]? else cs[j]? := by intro j;rw[bg];have:=acD off vs 0 cs j (by rw[h.1];omega);simp only[Nat.add_zero] at this;rw[<- this,<- Array.foldl_toList,Array.toList_zipIdx]
 refine⟨by rw[bg];simpa using aX,?_,?_,?_⟩
 ·rw[QF ja,<- h.1,<- Array.foldl_toList,aay]
 ·intro j u hu
  rw[nc] at hu;split at hu
  ·exact k7 _ _ hu
  ·exact h.2.1 _ _ hu
 ·intro j y u a1 hu
  rw[nc] at hu;rw[KN ja] at a1;by_cases nb:off<=j/\j<off+x.cells.length
  ·rw[dw nb] at a1;rw[dw (by rw[aX];exact nb)] at hu;exact ai _ _ _ a1 hu
  ·rw[dy nb] at a1;rw[dy (by rw[aX];exact nb)] at hu;exact h.2.2 _ _ _ a1 hu
theorem KY {ok:Nat->Prop}{bh:kk}{bm:j6}(place:Nat->Option (Nat×Nat)): ∀(l:List (Nat×Nat×aH)) (kw:List (Nat×Value)) (c:List aH) (cs:Array Value) (eJ:List aH),
 CJ w ok bh bm c cs->l.length=kw.length ->
 (∀(j:Nat) off size x i v,l[j]? = some (off,size,x)->kw[j]? = some (i,v)->place i=some (off,size)/\Rel w ok bh bm x v) ->
 ui c l=some eJ-> ∃mA,Instr.fill place cs kw=some mA/\CJ w ok bh bm eJ mA:=by
 intro l
 induction l with
 | nil =>
  intro kw c cs eJ h aX _ cl;have:kw=[]:=List.length_eq_zero_iff.1 (by simpa using aX.symm);subst this;simp[ui] at cl;subst cl;exact⟨cs,rfl,h⟩
 | cons q l ih =>
  intro kw c cs eJ h aX ah cl;obtain⟨off,size,x⟩:=q
  match kw,aX with
  | (i,v)::kw,aX =>
   obtain⟨MQ,ab⟩:=ah 0 off size x i v rfl rfl;simp only[ui] at cl;split at cl
   ·rename_i a3;simp only[dM,decide_eq_true_eq] at a3;obtain⟨⟨h1,o⟩,U⟩:=a3;obtain⟨e1,aB⟩:=adC h ab h1 (off:=off) (by omega);obtain⟨mA,f1,f2⟩:=ih kw _ _ eJ aB (by simpa using aX) (fun j off size x i v a b=>ah (j+1) off size x i v a b) cl;refine⟨mA,?_,f2⟩;rw[Instr.fill];simp only[MQ];have hl : ¬(decide (v.cells.size≠size) || decide (off+v.cells.size>cs.size))=true:=(by simp;rw[e1,h.1];omega);rw[dy hl];exact f1
   ·simp at cl
theorem mapM_some {α β:Type}(f:α->β)(p:α->Option β): ∀(l:List α),(∀x∈l,p x=some (f x))->l.mapM p=some (l.map f)
 | [],_=>rfl
 | x::l,h=>by rw[List.mapM_cons,h x (by simp),mapM_some f p l fun y a1=>h y (by simp[a1])];rfl
theorem TK {α β:Type}(p:α->Option β): ∀(l:List α) (hx:List β),l.mapM p=some hx->hx.length=l.length/\ ∀(j:Nat) x y,l[j]? = some x->hx[j]? = some y->p x=some y
 | [],hx,h=>by simp at h;subst h;exact⟨rfl,fun j x y ab=>by simp at ab⟩
 | a::l,hx,h=>by
  rw[List.mapM_cons] at h
  cases bI:p a with
  | none=>simp[bI] at h
  | some b =>
   cases aX:l.mapM p with
   | none=>simp[bI,aX] at h
   | some r =>
    simp[bI,aX] at h;subst h;obtain⟨h1,o⟩:=TK p l r aX;refine⟨by simp[h1],fun j x y ab a1=> ?_⟩
    cases j with
    | zero=>simp at ab a1;subst ab;subst a1;exact bI
    | succ j=>simp at ab a1;exact o j x y ab a1
theorem LG {t:TypeId}{z:List aH}(cC:so P t=some z): ∃i ff,P.info? t=some i/\i.zero=some ff/\ff.cells.size=z.length/\CJ w (s.ok g aF w) s.bh (s.bm aF) z ff.cells:=by
 obtain⟨i,ff,ad,lR,r7,k7⟩:=D1 cC;have bK:ff.cells.size=z.length:=by rw[r7];simp
 refine⟨i,ff,ad,lR,bK,bK,fun j u hu=> ?_,fun j x u ab hu=> ?_⟩
 ·have av:j<z.length:=by
   have:=(Array.getElem?_eq_some_iff.1 hu).1;omega
  obtain⟨v,e1,aB,-⟩:=k7 j z[j] (dz av);rw[hu] at e1;simp at e1;subst e1;exact aB
 ·obtain⟨v,e1,-,bP⟩:=k7 j x ab;rw[hu] at e1;simp at e1;subst e1;exact bP _ _ _ _
theorem abv {t:TypeId}{parts:Array (Nat×Operand)}(h:c8 g s aF a w)(an:I.op = .build t parts)(ay:Li P t (parts.toList.map fun p=>(p.1,ft s.E p.2))=some bF):Fin P g s a w I bF:=by
 unfold Li at ay;split at ay
 ·rename_i n e z h2 cC
  obtain⟨hu,ad,-,-⟩:=LF h2;rw[List.map_map] at ay
  cases cl:ui z (parts.toList.map ((fun p:Nat×aH=>(p.1*P.cellsOf e,P.cellsOf e,p.2))∘fun p=>(p.1,ft s.E p.2))) with
  | none=>rw[cl] at ay;simp at ay
  | some c =>
   rw[cl] at ay;simp only[Option.map_some,dB] at ay;subst ay;obtain⟨it,ff,yM,lR,fA,hcs⟩:=LG (w:=w) (s:=s) (g:=g) (aF:=aF) cC;obtain⟨NJ,Cj⟩:=Option.isSome_iff_exists.1 ad;have afP:P.cellsOf e=NJ.size:=(by simp[Program.cellsOf,Cj]);obtain⟨mA,f1,f2⟩:=KY (w:=w) (ok:=s.ok g aF w) (bh:=s.bh) (bm:=s.bm aF) (fun i=>some (i*NJ.size,NJ.size)) _ (parts.map fun (i,x)=>(i,a.eval x)).toList z ff.cells c hcs (by simp) (by intro j off size x i v av bg;simp only[dJ,Option.map_eq_some_iff,Function.comp,dD] at av;simp only[Array.toList_map,dJ,Option.map_eq_some_iff] at bg;obtain⟨p,ah,e1,aB,bP⟩:=av;obtain⟨⟨fk,c7⟩,mh,bg⟩:=bg;simp only[dD] at bg;obtain⟨rfl,rfl⟩:=bg;rw[ah] at mh;have:=dI mh;subst this;refine⟨by rw[<- e1,<- aB,afP],?_⟩;rw[<- bP];exact h.eval _) cl;have aU:P.built t (parts.map fun (i,x)=>(i,a.eval x)).toList=some mA:=(by unfold Program.built;simp only[yM,hu,lR,Cj];exact f1);refine jf (v:= .agg mA) h ?_ rfl ?_
   ·have:=run_build w t _ mA aU;simp[execOp,an,this]
   ·have:=Rel.agg (w:=w) (ok:=s.ok g aF w) (bh:=s.bh) (bm:=s.bm aF) (c:=c) mA.toList (by simpa using f2.1) (fun j u hu=>f2.2.1 j u (by simpa using hu)) (fun j x u ab hu=>f2.2.2 j x u ab (by simpa using hu));simpa using this
 ·simp at ay
theorem adD {t:TypeId}{parts:Array (Nat×Operand)}(h:c8 g s aF a w)(an:I.op = .build t parts)(ay:fw P s.E s.a2 a4 I c2=some bF):Fin P g s a w I bF:=by
 simp only[fw,an] at ay;split at ay
 ·rename_i lV z Fu cC
  split at ay
  ·simp at ay
  ·rename_i pk
   have pk : ∀f∈lV.toList,(P.info? f.type).isSome=true:=(by rw[Bool.not_eq_false] at pk;exact List.all_eq_true.1 pk);split at ay
   ·rename_i l aX
    cases cl:ui z l with
    | none=>simp[cl] at ay
    | some c =>
     simp[cl] at ay;subst ay;obtain⟨it,ff,yM,lR,fA,hcs⟩:=LG (w:=w) (s:=s) (g:=g) (aF:=aF) cC;obtain⟨lA,lB⟩:=TK _ _ _ aX
     have agi:lV.toList.mapM (fun f=>(P.info? f.type).map fun i=>(f.offset,i.size))=some (lV.toList.map fun f=>(f.offset,P.cellsOf f.type)):=by
      refine mapM_some (fun f:Field=>(f.offset,P.cellsOf f.type)) _ _ fun f cl=> ?_;have:=pk f cl
      cases ad:P.info? f.type with
      | none=>simp[ad] at this
      | some i=>simp[Program.cellsOf,ad]
     obtain⟨mA,f1,f2⟩:=KY (w:=w) (ok:=s.ok g aF w) (bh:=s.bh) (bm:=s.bm aF) ((lV.toList.map fun f=>(f.offset,P.cellsOf f.type)).toArray[·]?) l (parts.map fun (i,x)=>(i,a.eval x)).toList z ff.cells c hcs (by simpa using lA) (by intro j off size x i v av bg;simp only[Array.toList_map,dJ,Option.map_eq_some_iff] at bg;obtain⟨⟨fk,c7⟩,ah,bg⟩:=bg;simp only[dD] at bg;obtain⟨rfl,rfl⟩:=bg;have:=lB j _ _ ah av;simp only[Option.map_eq_some_iff,dD] at this;obtain⟨fd,h1,o,U,ak⟩:=this;subst o;subst U;subst ak;refine⟨?_,h.eval c7⟩;rw[List.getElem?_toArray,dJ,Array.getElem?_toList,h1];rfl) cl;have aU:P.built t (parts.map fun (i,x)=>(i,a.eval x)).toList=some mA:=(by unfold Program.built;simp only[yM,KO Fu,lR,agi];exact f1);refine jf (v:= .agg mA) h ?_ rfl ?_
     ·have:=run_build w t _ mA aU;simp[execOp,an,this]
     ·have:=Rel.agg (w:=w) (ok:=s.ok g aF w) (bh:=s.bh) (bm:=s.bm aF) (c:=c) mA.toList (by simpa using f2.1) (fun j u hu=>f2.2.1 j u (by simpa using hu)) (fun j x u ab hu=>f2.2.2 j x u ab (by simpa using hu));simpa using this
   ·simp at ay
 ·exact abv h an ay
theorem ZL {sz:Nat}{es:List (List aH)}(aX:∀e∈es,e.length=sz){i:Nat}(ad:i<es.length){c:List aH}(a3:c.length=sz):
 setCells es.flatten (i*sz) c=(es.set i c).flatten:=by
 have hlen : ∀(es:List (List aH)),(∀e∈es,e.length=sz)->es.flatten.length=es.length*sz:=by
  intro es
  induction es with
  | nil=>simp
  | cons e es ih =>
   intro h;rw[List.flatten_cons,dF,ih fun x ab=>h x (by simp[ab]),h e (by simp),List.length_cons,Nat.add_mul];omega
 have ja:i*sz+c.length<=es.flatten.length:=by rw[hlen es aX,a3];have:=dL sz (show i+1<=es.length by omega);rw[Nat.add_mul] at this;omega
 apply List.ext_getElem?;intro j;rw[KN ja,RK aX (dz ad) a3,a3]
theorem R3 {sz:Nat}: ∀(l:List (Nat×aH)) (es ht:List (List aH)),(∀e∈es,e.length=sz)->BZ sz es l=some ht ->
 ui es.flatten (l.map fun p=>(p.1*sz,sz,p.2))=some ht.flatten/\(∀e∈ht,e.length=sz)/\ht.length=es.length
 | [],es,ht,aX,h=>by simp[BZ] at h;subst h;exact⟨rfl,aX,rfl⟩
 | (i,x)::l,es,ht,aX,h=>by
  simp only[BZ] at h;split at h
  ·rename_i a3
   simp only[dM,decide_eq_true_eq] at a3;obtain⟨⟨h1,o⟩,U⟩:=a3
   have MO : ∀e∈es.set i x.cells,e.length=sz:=by
    intro e hm;rcases List.mem_or_eq_of_mem_set hm with c0|c0
    ·exact aX e c0
    ·exact c0▸o
   obtain⟨gI,gS,bD⟩:=R3 l (es.set i x.cells) ht MO h;have e:=ZL aX U o
   have ja:i*sz+sz<=es.flatten.length:=by
    have:(setCells es.flatten (i*sz) x.cells).length=(es.set i x.cells).flatten.length:=by rw[e]
    have a5 : ∀(es:List (List aH)),(∀e∈es,e.length=sz)->es.flatten.length=es.length*sz:=by
     intro es
     induction es with
     | nil=>simp
     | cons e es ih =>
      intro h;rw[List.flatten_cons,dF,ih fun x ab=>h x (by simp[ab]),h e (by simp),List.length_cons,Nat.add_mul];omega
    rw[a5 es aX];have:=dL sz (show i+1<=es.length by omega);rw[Nat.add_mul] at this;omega
   refine⟨?_,gS,by simpa using bD⟩;simp only[List.map_cons,ui,h1,o,ja,decide_true,Bool.and_self,if_true];rw[e];exact gI
  ·simp at h
theorem aaR {t:TypeId}{len:Nat}{parts:Array (Nat×Operand)}(h:c8 g s aF a w)(fB:s.a2 a4=none)(an:I.op = .buildSlice t len parts)(ay:fw P s.E s.a2 a4 I c2=some bF):Fin P g s a w I bF:=by
 simp only[fw,an] at ay;split at ay
 ·rename_i e he
  split at ay
  ·rename_i z cC
   split at ay
   ·simp at ay
   ·rename_i a3
    simp only[not_or,Nat.not_lt,Decidable.not_not] at a3;obtain⟨oo,Ck,Cl⟩:=a3;split at ay
    ·rename_i es iK
     simp only[dB] at ay;subst ay;obtain⟨it,ff,yM,lR,fA,hcs⟩:=LG (w:=w) (s:=s) (g:=g) (aF:=aF) cC;have k7:P.cellsOf e=it.size:=(by simp[Program.cellsOf,yM]);have Vf : ∀x∈List.replicate len z,x.length=z.length:=fun x ab=>(by rw[List.eq_of_mem_replicate ab]);obtain⟨f1,f2,f3⟩:=R3 _ _ _ Vf iK
     have tw:CJ w (s.ok g aF w) s.bh (s.bm aF) (List.replicate len z).flatten ((Array.range (len*it.size)).map (ff.cells[· % ff.cells.size]!)):=by
      have ID:0<z.length:=(by omega);have nc : ∀j,j<len*it.size->((Array.range (len*it.size)).map (ff.cells[· % ff.cells.size]!))[j]? = ff.cells[j % z.length]? := (by intro j av;rw[Array.getElem?_map,Array.getElem?_range];simp only[av,if_true,Option.map_some];have hm:j % ff.cells.size<ff.cells.size:=Nat.mod_lt _ (by omega);rw[getElem!_pos ff.cells _ hm,<- fA,Array.getElem?_eq_getElem hm]);have ez : ∀(j:Nat) u,((Array.range (len*it.size)).map (ff.cells[· % ff.cells.size]!))[j]? = some u->j<len*it.size:=(by intro j u hu;have:=(Array.getElem?_eq_some_iff.1 hu).1;simpa using this);refine⟨by simp[<- k7,<- Ck],fun j u hu=> ?_,fun j x u ab hu=> ?_⟩
      ·have av:=ez j u hu;rw[nc j av] at hu;exact hcs.2.1 _ _ hu
      ·have av:=ez j u hu
       rw[nc j av] at hu;rw[qR ID _ Vf,List.getElem?_replicate] at ab;split at ab
       ·exact hcs.2.2 _ _ _ ab hu
       ·simp at ab
     obtain⟨mA,g1,g2⟩:=KY (w:=w) (ok:=s.ok g aF w) (bh:=s.bh) (bm:=s.bm aF) (fun i=>some (i*it.size,it.size)) ((parts.toList.map fun p=>(p.1,ft s.E p.2)).map fun p=>(p.1*z.length,z.length,p.2)) (parts.map fun (i,x)=>(i,a.eval x)).toList _ _ es.flatten tw (by simp) (by intro j off size x i v av bg;simp only[Array.toList_map,dJ,Option.map_eq_some_iff,List.map_map] at bg av;obtain⟨⟨fk,c7⟩,ah,bg⟩:=bg;obtain⟨⟨nI,eH⟩,Fq,av⟩:=av;rw[ah] at Fq;simp only[dB,dD] at Fq bg;obtain⟨rfl,rfl⟩:=Fq;obtain⟨rfl,rfl⟩:=bg;simp only[Function.comp,dD] at av;obtain⟨rfl,rfl,rfl⟩:=av;exact⟨by rw[<- k7,<- Ck],h.eval c7⟩) f1
     have j0:(Instr.buildSlice t len (parts.map fun (i,x)=>(i,a.eval x))).run P w = .ok (.slice (some ⟨w.heap.size,0,none⟩) len len) (w.alloc (.cells mA e)):=by
      have h1 : ¬len*it.size>2 ^ 24:=(by rw[<- k7,<- Ck];omega);by_cases h0:len*it.size=0
      ·have oX:len=0:=by
        rcases Nat.eq_zero_or_pos len with c0|c0
        ·exact c0
        ·have:0<len*it.size:=Nat.mul_pos c0 (by omega);omega
       subst oX;have e0:((Array.range (0*it.size)).map (ff.cells[· % ff.cells.size]!)) = #[]:=(by simp);rw[e0] at g1
       have ah:parts = #[]:=by
        obtain⟨l⟩:=parts
        match l,iK with
        | [],_=>rfl
        | p::l,iK=>simp[BZ] at iK
       subst ah;have agj:mA = #[]:=(by simpa [Instr.fill] using g1.symm);subst agj;simp[Instr.buildSlice,run_underlying (tZ he),sizeOf,typeInfo,yM,newRow,Instr.fill];rw[Array.range_zero',Array.map_empty]
      ·simp only[Instr.buildSlice,run_underlying (tZ he),sizeOf,typeInfo,yM,newRow,zeroValue,lR,Sem.run_bind,Result.andThen_ok,run_program,Sem.run_pure,Sem.run_ite,h1,h0,if_false];rw[g1];rfl
     refine HD (v:= .slice (some ⟨w.heap.size,0,none⟩) len len) (al:=⟨z.length,es,.live⟩) (c:=mA) (fp:=e) h fB rfl ?_ rfl f2 ?_ ?_
     ·simp[execOp,an,j0]
     ·intro j x ab
      have av:j<mA.size:=by
       rw[g2.1];rcases Nat.lt_or_ge j es.flatten.length with c0|c0
       ·exact c0
       ·rw[List.getElem?_eq_none c0] at ab;simp at ab
      have hu:mA[j]? = some mA[j]:=Array.getElem?_eq_getElem av;exact⟨_,hu,g2.2.1 _ _ hu,g2.2.2 _ _ _ ab hu⟩
     ·intro bV l6 ol nA hu cf
      refine Rel.bk hu cf (dE _) ?_ ⟨?_,.inr (by simp)⟩
      ·have:len<=len*z.length:=Nat.le_mul_of_pos_right _ (by omega);omega
      ·rw[g2.1]
       have a5 : ∀(es:List (List aH)),(∀e∈es,e.length=z.length)->es.flatten.length=es.length*z.length:=by
        intro es
        induction es with
        | nil=>simp
        | cons e es ih =>
         intro h;rw[List.flatten_cons,dF,ih fun x ab=>h x (by simp[ab]),h e (by simp),List.length_cons,Nat.add_mul];omega
       rw[a5 es f2,f3];simp
    ·simp at ay
  ·simp at ay
 ·simp at ay
theorem He (h:c8 g s aF a w)(fB:s.a2 a4=none)(ay:fw P s.E s.a2 a4 I c2=some bF)(cR:∀p∈bF.f7,p):Fin P g s a w I bF:=by
 cases an:I.op with
 | move x=>exact TJ h (.inl an) ay
 | assign x=>exact TJ h (.inr an) ay
 | pick c x y=>exact aet h an ay cR
 | alloc t=>exact adu h fB an ay
 | box t x=>exact ae6 h fB an ay
 | load t x=>exact aeu h an ay cR
 | store t x y=>exact adv h an ay cR
 | nilCheck x=>exact abt h an ay cR
 | binOp op t x y cF=>exact adw h an ay cR
 | unOp op t x=>exact aev h an ay
 | convert t cF x=>exact abQ h an ay
 | makeFunc f Gh cJ=>exact abu h an ay
 | makeSlice t x y=>exact aa9 h fB an ay cR
 | fieldAddr t x f=>exact aba h an ay cR
 | field t x f=>exact adA h an ay
 | indexAddr t x y=>exact abb h an ay cR
 | index t x y=>exact adB h an ay cR
 | extract x i=>exact abR h an ay
 | slice t x b3 ad NK =>
  cases NK with
  | none=>exact adz h an ay cR
  | some m=>simp[fw,an] at ay
 | build t kw=>exact adD h an ay
 | buildSlice t n kw=>exact aaR h fB an ay
 | call c =>
  obtain⟨IE,args,om⟩:=c
  cases IE with
  | builtin b=>cases b<;>first|exact ae7 h an rfl ay cR|simp[fw,an] at ay
  | value f=>simp[fw,an] at ay
  | invoke r m=>simp[fw,an] at ay
 | _=>simp[fw,an] at ay
end
def ae8:Option a8->gj
 | some I=> .gm I []
 | none=> .none
def tl (sz:Nat)(a2:Nat->Option (List a8))(a:gj):aH->Option (List (List aH)×List Prop)
 | .isl IF es=>if IF=sz then some (es,[]) else none
 | .bk r k b3 len=>match pM (a2 r) k a with
  | some (al,bX)=>if al.sz=sz then some ((al.es.drop b3).take len,bX++[b3+len<=al.es.length]) else none
  | none=>none
 | .f6=>some ([],[])
 | .jS=>some ([],[])
 | _=>none
def yb (P:Program)(sz:Nat)(z:List aH)(a2:Nat->Option (List a8))(a:gj)(t cF:TypeId)(y:aH):Option (List (List aH)×List Prop) :=
 if t=cF then tl sz a2 a y else
 match P.underlying cF,y with
 | some (.int _),.n .i64 n=>some (List.replicate n.toNat z,[0<=n,n<9223372036854775808])
 | _,_=>none
def pq (P:Program)(E:Nat->aH)(a2:Nat->Option (List a8))(a4:Nat)(b:Builtin)(args:List aH)(om:List TypeId)(c2:gj):Option iQ :=
 match b,args,om,c2 with
 | .append,[x,y],[t,cF],.aG m I =>
  match rH P t with
  | none=>none
  | some e=>match P.info? e,so P e with
   | some i,some z =>
    if z.length≠i.size\/i.size=0\/i.bytes=0 then none else
    match yb P i.size z a2 (ae8 I) t cF y with
    | none=>none
    | some (bL,bX)=>match x with
     | .f6=>some {val:= .bk a4 0 0 m,gE:=[(a4,[⟨i.size,bL,.live⟩])],f7:=bX++[m=bL.length,m*i.bytes<=140737488355328]}
     | .bk r k 0 len=>match a2 r with
      | none=>none
      | some row=>match d5 (some row) k with
       | none=>none
       | some al=>if al.cN = .live/\al.sz=i.size/\a4≠r then
        some {val:= .bk a4 0 0 m,gE:=[(a4,[⟨i.size,al.es.take len++bL,.live⟩]),(r,row.set k {al with cN:= .gone})],f7:=bX++[len<=al.es.length,m=len+bL.length,m*i.bytes<=140737488355328]} else none
     | _=>none
   | _,_=>none
 | .append,[x,y],[t,cF],.e5 =>
  match rH P t with
  | none=>none
  | some e=>match P.info? e,so P e with
   | some i,some z =>
    if z.length≠i.size\/i.size=0\/i.bytes=0 then none else
    match yb P i.size z a2 .none t cF y with
    | none=>none
    | some (bL,bX)=>match x with
     | .bk r k 0 len=>match a2 r with
      | none=>none
      | some row=>match d5 (some row) k with
       | none=>none
       | some al=>if al.cN = .live/\al.sz=i.size then
        some {val:= .bk r k 0 (len+bL.length),gE:=[(r,row.set k {al with es:=al.es.take len++bL})],f7:=bX++[len+bL.length<=al.es.length,bL.length*i.bytes<=140737488355328]} else none
     | _=>none
   | _,_=>none
 | .copy,[.bk r k 0 len,y],[t,_],_ =>
  match rH P t with
  | none=>none
  | some e=>match P.info? e with
   | none=>none
   | some i=>match tl i.size a2 .none y with
    | none=>none
    | some (bL,bX)=>match a2 r with
     | none=>none
     | some row=>match d5 (some row) k with
      | none=>none
      | some al=>if al.cN = .live/\al.sz=i.size/\i.size≠0 then
       some {val:= .n .i64 bL.length,gE:=[(r,row.set k {al with es:=bL++al.es.drop bL.length})],f7:=bX++[bL.length<=len,len<=al.es.length]} else none
 | .clear,[.bk r k 0 len],[t],_ =>
  match rH P t with
  | none=>none
  | some e=>match P.info? e,so P e with
   | some i,some z=>match a2 r with
    | none=>none
    | some row=>match d5 (some row) k with
     | none=>none
     | some al=>if al.cN = .live/\al.sz=i.size/\z.length=i.size/\i.size≠0 then
      some {val:= .dX [],gE:=[(r,row.set k {al with es:=List.replicate len z})],f7:=[al.es.length=len]} else none
   | _,_=>none
 | .min,[.n k x,.n ey y],_,_=>if k=ey then some {val:= .n k (if y<x then y else x)} else none
 | _,_,_,_=>none
section
variable {g:G} {s:S} {aF:ga} {a:Act} {w bV:World}
theorem c8.gone (h:c8 g s aF a w){r k:Nat}{l:List a8}{I:a8}(ai:s.a2 r=some l)(an:s.al r k=some I):
 c8 g (s.setRow r (l.set k {I with cN:= .gone})) aF a w /\
  ∀x v,Rel w (s.ok g aF w) s.bh (s.bm aF) x v->Rel w ((s.setRow r (l.set k {I with cN:= .gone})).ok g aF w) (s.setRow r (l.set k {I with cN:= .gone})).bh ((s.setRow r (l.set k {I with cN:= .gone})).bm aF) x v:=by
 have bs : ∀q j p,(s.setRow r (l.set k {I with cN:= .gone})).al q j=some p->s.al q j=some p/\ ¬(q=r/\j=k):=by
  intro q j p ah;rw[mN] at ah;by_cases e:q=r
  ·subst e
   rw[dw rfl] at ah;unfold d5 at ah;simp only[List.getElem?_set] at ah;by_cases aB:k=j
   ·subst aB
    by_cases aY:k<l.length
    ·simp[aY] at ah
    ·simp[aY] at ah
   ·rw[dy aB] at ah;refine⟨?_,fun gH=>aB gH.2.symm⟩;unfold S.al;rw[ai];exact ah
  ·rw[dy e] at ah;exact⟨ah,fun gH=>e gH.1⟩
 have c1:Step g s aF w (s.setRow r (l.set k {I with cN:= .gone})) aF w:=by
  refine⟨GW s ai (by simp),fun q j a5=> ?_,fun b aX=> ?_,fun _ _ _=>rfl,dE _⟩
  ·cases ah:(s.setRow r (l.set k {I with cN:= .gone})).al q j with
   | none=>right;simp[S.bm,ah]
   | some p=>left;simp[S.bm,ah,(bs q j p ah).1]
  ·obtain⟨q,j,p,m,h1,o,U⟩:=aX;exact .inl ⟨q,j,p,m,(bs q j p h1).1,o,U⟩
 refine⟨{tojt:=⟨?_,?_,?_,h.hY,h.mlt,h.oU,c1.stay h.stay,h.low⟩,env:=fun t=>c1.rel (h.env t),defers:=h.defers,kP:=h.kP},fun x v=>c1.rel⟩
 ·intro q j p ah;exact c1.obj (fun b m _=>rfl) (h.obj q j p (bs q j p ah).1)
 ·intro q j p iR jc lo b m aJ h1 o U ak;exact h.inj q j p iR jc lo b m aJ (bs q j p h1).1 (bs iR jc lo o).1 U ak
 ·intro q j p b m h1 o;exact h.own q j p b m (bs q j p h1).1 o
theorem c8.TL (h:c8 g s aF a w){a4 sz:Nat}(fB:s.a2 a4=none):
 ∃bY,bY a4 0=none/\c8 g (s.setRow a4 [⟨sz,[],.live⟩]) bY a w:=by
 have bs : ∀q k,q≠a4->(s.setRow a4 [⟨sz,[],.live⟩]).al q k=s.al q k:=fun q k a5=>by rw[mN,dy a5]
 let bY:ga:=fun q k=>if q=a4 then none else aF q k
 have c6 : ∀q k,s.bh q k->q≠a4:=by rintro q k a5 rfl;exact A2 fB k a5
 have Ms : ∀k I,(s.setRow a4 [⟨sz,[],.live⟩]).al a4 k=some I->I=⟨sz,[],.live⟩:=by
  intro k I an;rw[mN,dw rfl,nq] at an;split at an
  ·simp at an;exact an.symm
  ·simp at an
 have c1:Step g s aF w (s.setRow a4 [⟨sz,[],.live⟩]) bY w:=by
  refine⟨fun q k a5=>(oK _ _ _ _ _).2 (by rw[dy (c6 q k a5)];exact a5),fun q k a5=> .inl ?_,fun b aX=> ?_,fun _ _ _=>rfl,dE _⟩
  ·simp[S.bm,bs q k (c6 q k a5),bY,c6 q k a5]
  ·obtain⟨q,k,I,m,h1,o,U⟩:=aX
   by_cases e:q=a4
   ·subst e;simp[bY] at U
   ·rw[bs q k e] at h1;simp only[bY,dy e] at U;exact .inl ⟨q,k,I,m,h1,o,U⟩
 refine⟨bY,by simp[bY],{tojt:=⟨?_,?_,?_,h.hY,h.mlt,h.oU,c1.stay h.stay,h.low⟩,env:=fun t=>c1.rel (h.env t),defers:=h.defers,kP:=h.kP}⟩
 ·intro q k I an
  by_cases e:q=a4
  ·subst e;rw[Ms k I an];simp[bY,kd]
  ·rw[bs q k e] at an;have:=c1.obj (fun b m _=>rfl) (h.obj q k I an);simpa [bY,e] using this
 ·intro q k I iR ey ck b m aJ h1 o U ak;have e:q≠a4:=(by rintro rfl;simp[bY] at U);have e2:iR≠a4:=(by rintro rfl;simp[bY] at ak);rw[bs q k e] at h1;rw[bs iR ey e2] at o;simp only[bY,dy e] at U;simp only[bY,dy e2] at ak;exact h.inj q k I iR ey ck b m aJ h1 o U ak
 ·intro q k I b m h1 o;have e:q≠a4:=(by rintro rfl;simp[bY] at o);rw[bs q k e] at h1;simp only[bY,dy e] at o;exact h.own q k I b m h1 o
theorem c8.turn (h:c8 g s aF a w){r k b m a4:Nat}{l:List a8}{I:a8}(ai:s.a2 r=some l)(an:s.al r k=some I)(aY:I.cN = .live)(ah:aF r k=some (b,m))
 (fB:s.a2 a4=none) (ck:a8) (oq:ck.cN = .live) (c:Array Value) (fp:TypeId)
 (hw:bV.heap[b]? = some (.cells c fp (0,0))) (fA:bV.heap.size=w.heap.size) (ya : ∀q,q≠b->bV.heap[q]? = w.heap[q]?)
 (sP:bV.os=w.os) (MM:bV.tape=w.tape) (Mq:bV.output=w.output) (hm:c.size=m) (hlen : ∀e∈ck.es,e.length=ck.sz)
 (a3 : ∀(j:Nat) x,ck.es.flatten[j]? = some x-> ∃v,c[j]? = some v/\lg v=true/\Rel w (s.ok g aF w) s.bh (s.bm aF) x v) :
 ∃bY,bY a4 0=some (b,m)/\c8 g ((s.setRow a4 [ck]).setRow r (l.set k {I with cN:= .gone})) bY a bV:=by
 have c6:r≠a4:=by rintro rfl;rw[fB] at ai;simp at ai
 have Vg : ∀k,¬s.bh a4 k:=A2 fB
 let b4:=(s.setRow a4 [ck]).setRow r (l.set k {I with cN:= .gone})
 let bY:ga:=aF.set a4 0 (some (b,m))
 have bs : ∀q j p,b4.al q j=some p->(q=a4/\j=0/\p=ck)\/(q≠a4/\s.al q j=some p/\ ¬(q=r/\j=k)):=by
  intro q j p a5;rw[mN] at a5;by_cases e:q=r
  ·subst e
   rw[dw rfl] at a5;unfold d5 at a5;simp only[List.getElem?_set] at a5;by_cases aB:k=j
   ·subst aB;by_cases aY:k<l.length<;>simp[aY] at a5
   ·rw[dy aB] at a5;refine .inr ⟨c6,?_,fun gH=>aB gH.2.symm⟩;unfold S.al;rw[ai];exact a5
  ·rw[dy e,mN] at a5
   by_cases aB:q=a4
   ·subst aB
    rw[dw rfl,nq] at a5;split at a5
    ·rename_i h0;simp at a5;exact .inl ⟨rfl,h0.1,a5.symm⟩
    ·simp at a5
   ·rw[dy aB] at a5;exact .inr ⟨aB,a5,fun gH=>e gH.1⟩
 have m2 : ∀q j,q≠a4->bY q j=aF q j:=fun q j a5=>by simp[bY,ga.set,a5]
 have Cm:bY a4 0=some (b,m):=by simp[bY,ga.set]
 have rG:s.m4 aF b:=⟨r,k,I,m,an,aY,ah⟩
 have kr : ∀q j,s.bh q j->b4.bh q j:=fun q j a5=>by
  have e:q≠a4:=fun e=>Vg j (e▸a5);rw[oK,oK,dy e];by_cases aB:q=r
  ·subst aB;rw[dw rfl];simpa [S.bh,ai] using a5
  ·rw[dy aB];exact a5
 have c1:Step g s aF w b4 bY bV:=by
  refine⟨kr,fun q j a5=> ?_,fun q aX=> ?_,fun q a5 aX=>ya q fun e=>aX (e▸rG),Nat.le_of_eq fA.symm⟩
  ·have oV:q≠a4:=fun e=>Vg j (e▸a5)
   cases lx:b4.al q j with
   | none=>right;simp[S.bm,lx]
   | some p =>
    left;rcases bs q j p lx with ⟨e,-⟩|⟨-,aB,-⟩
    ·exact absurd e oV
    ·simp[S.bm,lx,aB,m2 q j oV]
  ·obtain⟨iR,j,p,aJ,h1,o,U⟩:=aX
   rcases bs iR j p h1 with ⟨rfl,rfl,rfl⟩|⟨e1,aB,-⟩
   ·rw[Cm] at U;simp at U;exact .inl (U.1▸rG)
   ·rw[m2 iR j e1] at U;exact .inl ⟨iR,j,p,aJ,aB,o,U⟩
 refine⟨bY,Cm,{tojt:=⟨?_,?_,?_,?_,h.mlt,h.oU,c1.stay h.stay,h.low⟩,env:=fun t=>c1.rel (h.env t),defers:=h.defers,kP:=h.kP}⟩
 ·intro q j p lx
  rcases bs q j p lx with ⟨rfl,rfl,rfl⟩|⟨e1,aB,bP⟩
  ·rw[Cm];exact⟨c,fp,hw,hm,hlen,fun i x ab=>let ⟨v,f1,f2,f3⟩:=a3 i x ab;⟨v,f1,f2,c1.rel f3⟩⟩
  ·rw[m2 q j e1];refine c1.obj (fun k1 aJ la=>ya k1 ?_) (h.obj q j p aB);rintro rfl;exact bP (h.inj q j p r k I k1 aJ m aB an la ah)
 ·intro q j p iR jc lo k1 jm ik h1 o U ak
  rcases bs q j p h1 with ⟨rfl,rfl,rfl⟩|⟨e1,aB,bP⟩<;>rcases bs iR jc lo o with ⟨rfl,rfl,rfl⟩|⟨ot,rc,wG⟩
  ·exact⟨rfl,rfl⟩
  ·rw[Cm] at U;simp at U;rw[m2 iR jc ot] at ak;obtain⟨rfl,rfl⟩:=U;exact absurd (h.inj iR jc lo r k I b ik m rc an ak ah) wG
  ·rw[Cm] at ak;simp at ak;rw[m2 q j e1] at U;obtain⟨rfl,rfl⟩:=ak;exact absurd (h.inj q j p r k I b jm m aB an U ah) bP
  ·rw[m2 q j e1] at U;rw[m2 iR jc ot] at ak;exact h.inj q j p iR jc lo k1 jm ik aB rc U ak
 ·intro q j p k1 aJ h1 o
  rcases bs q j p h1 with ⟨rfl,rfl,rfl⟩|⟨e1,aB,-⟩
  ·rw[Cm] at o;simp at o;rw[<- o.1];exact h.own r k I b m an ah
  ·rw[m2 q j e1] at o;exact h.own q j p k1 aJ aB o
 ·refine h.hY.step sP MM Mq (Nat.le_of_eq fA.symm) fun k1 mX la=>ya k1 ?_
  rintro rfl;rcases h.own r k I k1 m an ah with h1|h1
  ·omega
  ·exact la h1
theorem p8.pn {ok:Nat->Prop}{bh:kk}{bm:j6}{eU I sz:Nat}{es:List (List aH)}(h:p8 w ok bh bm eU I sz es):
 ∃vs:List Value,vs.length=es.length*sz/\(∀(j:Nat) u,vs[j]? = some u->w.cell? ((⟨eU,I,none⟩:Addr).add j)=some u)/\(∀u∈vs,u.oneCell'=true) /\
  ∀(j:Nat) x u,es.flatten[j]? = some x->vs[j]? = some u->Rel w ok bh bm x u:=by
 have kQ:es.flatten.length=es.length*sz:=by
  have : ∀(es:List (List aH)),(∀e∈es,e.length=sz)->es.flatten.length=es.length*sz:=by
   intro es
   induction es with
   | nil=>intro _;simp
   | cons e es ih =>
    intro gH;rw[List.flatten_cons,dF,ih fun x ab=>gH x (by simp[ab]),gH e (by simp),List.length_cons,Nat.add_mul];omega
  exact this es h.1
 have ab : ∀i,i<es.length*sz-> ∃v,∀x,es.flatten[i]? = some x->w.cell? ⟨eU,I+i,none⟩=some v/\lg v=true/\Rel w ok bh bm x v:=by intro i ad;have av:=dz (l:=es.flatten) (i:=i) (by omega);obtain⟨v,h1⟩:=h.2 i _ av;exact⟨v,fun x ab=>by rw[av] at ab;simp at ab;subst ab;exact h1⟩
 let vs:List Value:=(List.range (es.length*sz)).map fun i=>if ad:i<es.length*sz then (ab i ad).choose else undef
 have rS:vs.length=es.length*sz:=by simp[vs]
 have nc : ∀(i:Nat) u x,vs[i]? = some u->es.flatten[i]? = some x->w.cell? ⟨eU,I+i,none⟩=some u/\lg u=true/\Rel w ok bh bm x u:=by
  intro i u x hu Fx
  have ad:i<es.length*sz:=by
   rcases Nat.lt_or_ge i vs.length with c0|c0
   ·omega
   ·rw[List.getElem?_eq_none c0] at hu;simp at hu
  simp only[vs,dJ,List.getElem?_range ad,Option.map_some,dif_pos ad,dB] at hu;subst hu;exact(ab i ad).choose_spec x Fx
 have hex : ∀(i:Nat) u,vs[i]? = some u-> ∃x,es.flatten[i]? = some x:=by
  intro i u hu
  have ad:i<es.flatten.length:=by
   rcases Nat.lt_or_ge i vs.length with c0|c0
   ·omega
   ·rw[List.getElem?_eq_none c0] at hu;simp at hu
  exact⟨_,dz ad⟩
 refine⟨vs,rS,fun j u hu=> ?_,fun u hu=> ?_,fun j x u ex hu=>(nc j u x hu ex).2.2⟩
 ·obtain⟨x,Fx⟩:=hex j u hu;rw[td];exact(nc j u x hu Fx).1
 ·obtain⟨j,av⟩:=List.getElem?_of_mem hu;obtain⟨x,Fx⟩:=hex j u av;exact(nc j u x av Fx).2.1
theorem aaz {es bL:List (List aH)}{sz:Nat}{xs news:List Value}(ab:xs.length=es.length*sz)(he:∀e∈es,e.length=sz){j:Nat}{x:aH}(h:(es++bL).flatten[j]? = some x)
 {ok:Nat->Prop} {bh:kk} {bm:j6} (h1 : ∀(j:Nat) x u,es.flatten[j]? = some x->xs[j]? = some u->Rel w ok bh bm x u) (o : ∀(j:Nat) x u,bL.flatten[j]? = some x->news[j]? = some u->Rel w ok bh bm x u)
 {u:Value} (hu:(xs++news)[j]? = some u):Rel w ok bh bm x u:=by
 have kQ:es.flatten.length=es.length*sz:=by
  have : ∀(es:List (List aH)),(∀e∈es,e.length=sz)->es.flatten.length=es.length*sz:=by
   intro es
   induction es with
   | nil=>intro _;simp
   | cons e es ih =>
    intro gH;rw[List.flatten_cons,dF,ih fun x ab=>gH x (by simp[ab]),gH e (by simp),List.length_cons,Nat.add_mul];omega
  exact this es he
 rw[List.flatten_append,List.getElem?_append] at h;rw[List.getElem?_append] at hu;by_cases av:j<es.flatten.length
 ·rw[dw av] at h;rw[dw (by omega)] at hu;exact h1 j x u h hu
 ·rw[dy av] at h;rw[dy (by omega)] at hu;rw[kQ] at h;rw[ab] at hu;exact o _ x u h hu
variable {P:Program}
theorem Ta (h:c8 g s aF a w){sz:Nat}{x:aH}{gh:gj}{bL:List (List aH)}{al:List Prop}(he:tl sz s.a2 gh x=some (bL,al))(bs:∀p∈al,p){v:Value}(bg:Rel w (s.ok g aF w) s.bh (s.bm aF) x v):
 ∃A c,v = .slice A bL.length c/\(∀e∈bL,e.length=sz)/\(bL.length=0\/ ∃eU off,A=some ⟨eU,off,none⟩/\p8 w (s.ok g aF w) s.bh (s.bm aF) eU off sz bL):=by
 cases x with
 | isl IF es =>
  simp only[tl] at he;split at he
  ·rename_i bK
   subst bK;simp only[dB,dD] at he;obtain⟨rfl,rfl⟩:=he;rcases bg.u1 with ⟨rfl,A,c,rfl,-⟩|⟨eU,off,c,-,rfl,-,jC⟩
   ·exact⟨A,c,rfl,by simp,.inl rfl⟩
   ·exact⟨_,c,rfl,jC.1,.inr ⟨eU,off,rfl,jC⟩⟩
  ·simp at he
 | bk r k b3 len =>
  simp only[tl] at he;split at he
  ·rename_i oY bX kF
   split at he
   ·rename_i bK
    simp only[dB,dD] at he;obtain⟨rfl,rfl⟩:=he;have ja:b3+len<=oY.es.length:=bs _ (by simp);have an:s.al r k=some oY:=u2 kF (fun p ah=>bs p (by simp[ah]));have fZ:=h.obj r k oY an;have aX:((oY.es.drop b3).take len).length=len:=(by simp;omega);rcases bg.Ek (jq an) with ⟨-,rfl,rfl,rfl⟩|⟨b,m,A,c,ah,rfl,tv,-,hm⟩
    ·exact⟨none,0,by simp,by simp,.inl (by simp)⟩
    ·rw[ah] at fZ
     have jC:=fZ.rd;subst bK;have yG:=GX jC b3 len (by omega);refine⟨A,c,by rw[aX],yG.1,?_⟩;rcases hm with rfl|⟨rfl,-⟩
     ·left;rw[aX];omega
     ·right;rw[dG] at yG;exact⟨b,_,rfl,yG⟩
   ·simp at he
  ·simp at he
 | f6 =>
  simp only[tl,dB,dD] at he;obtain⟨rfl,rfl⟩:=he;rw[bg.ry];exact⟨none,0,rfl,by simp,.inl rfl⟩
 | jS =>
  simp only[tl,dB,dD] at he;obtain⟨rfl,rfl⟩:=he;obtain⟨A,c,rfl⟩:=bg.HC;exact⟨some A,c,rfl,by simp,.inl rfl⟩
 | _=>simp[tl] at he
structure Mt (P:Program) (w:World) (t cF fp e:TypeId) (i:TypeInfo) (ff o3:Value) (n:Nat) (vs:List Value):Prop where
 zero:n=0-> ∀(B:Option Addr) (len cap:Nat),len<=cap->(Builtin.append_ #[t,cF] fp #[.slice B len cap,o3]).run P w = .ok (.slice B len cap) w
 nil:0<n->(n:Int)<=9223372036854775807->n*i.bytes<=140737488355328 ->
  (Builtin.append_ #[t,cF] fp #[.slice none 0 0,o3]).run P w = .ok (.slice (some ⟨w.heap.size,0,none⟩) n (grownCap w n 0 e)) (w.drew.alloc (.cells (vs.toArray++Builtin.zeroCells ff.cells (grownCap w n 0 e-n)) e))
 room:0<n-> ∀(g jR m8:Nat) (mY:Array Value) (e2:TypeId),w.heap[g]? = some (.cells mY e2 (0,0))->jR+n<=m8->jR*i.size+vs.length<=mY.size->n*i.bytes<=140737488355328 ->
  (Builtin.append_ #[t,cF] fp #[.slice (some ⟨g,0,none⟩) jR m8,o3]).run P w = .ok (.slice (some ⟨g,0,none⟩) (jR+n) m8) (w.setRow g (mY.toList.take (jR*i.size)++vs++mY.toList.drop (jR*i.size+vs.length)).toArray)
 grow:0<n-> ∀(b:Addr) (jR m8:Nat) (yH:List Value),yH.length=jR*i.size->(∀(j:Nat) v,yH[j]? = some v->w.cell? (b.add j)=some v)->m8<jR+n->((jR+n:Nat):Int)<=9223372036854775807->Builtin.nextslicecap (jR+n) m8*i.bytes<=281474976710656->n*i.bytes<=140737488355328 ->
  (Builtin.append_ #[t,cF] fp #[.slice (some b) jR m8,o3]).run P w = .ok (.slice (some ⟨w.heap.size,0,none⟩) (jR+n) (grownCap w (jR+n) m8 e))
    (w.drew.alloc (.cells (yH.toArray++vs.toArray++Builtin.zeroCells ff.cells (grownCap w (jR+n) m8 e-(jR+n))) e))
theorem ZM (t fp e:TypeId)(i:TypeInfo)(cf:P.underlying t=some (.slice e))(ad:P.info? e=some i)
 (g jR m8:Nat) (mY:Array Value) (e2:TypeId) (dp:w.heap[g]? = some (.cells mY e2 (0,0)))
 (a:Addr) (m c:Nat) (news:List Value) (aX:news.length=m*i.size) (afQ : ∀j u,news[j]? = some u->w.cell? (a.add j)=some u) (h1 : ∀u∈news,u.oneCell'=true)
 (va:jR+m<=m8) (ja:jR*i.size+news.length<=mY.size) :
 (Builtin.append_ #[t,t] fp #[.slice (some ⟨g,0,none⟩) jR m8,.slice (some a) m c]).run P w =
   .ok (.slice (some ⟨g,0,none⟩) (jR+m) m8) (w.setRow g (mY.toList.take (jR*i.size)++news++mY.toList.drop (jR*i.size+news.length)).toArray):=by
 have cl:=run_firstCells_some (P:=P) w i.size m a m c news aX afQ;have nD:=run_storeCells_at P g (jR*i.size) e2 news 0 mY w dp (by simpa using ja) h1;simp only[Nat.add_zero] at nD;simp[Builtin.append_,run_underlying cf,sizeOf,typeInfo,ad,Builtin.lenOf,va,cl,Addr.add_lit,nD]
theorem R4 {t fp e:TypeId}{i:TypeInfo}{ff:Value}(cf:P.underlying t=some (.slice e))(ad:P.info? e=some i)(cC:i.zero=some ff){A:Option Addr}{n c:Nat}{vs:List Value}(aX:vs.length=n*i.size)
 (hA:n=0\/ ∃a,A=some a/\ ∀(j:Nat) u,vs[j]? = some u->w.cell? (a.add j)=some u) (h1 : ∀u∈vs,u.oneCell'=true):Mt P w t t fp e i ff (.slice A n c) n vs where
 zero:=fun h0 B len cap E2=>by subst h0;cases A<;>cases B<;>simp[Builtin.append_,run_underlying cf,sizeOf,typeInfo,ad,Builtin.lenOf,E2,Builtin.firstCells,loadCells,loadCellsFrom,storeCells]
 nil:=fun h0 yN Cn=>by obtain⟨a,rfl,bI⟩:=hA.resolve_left (by omega);exact run_append_nil (P:=P) w t fp e i ff cf ad cC a n c vs aX bI h0 yN (by omega)
 room:=fun aS g jR m8 mY e2 dp va ja _=>by obtain⟨a,rfl,bI⟩:=hA.resolve_left (by omega);exact ZM t fp e i cf ad g jR m8 mY e2 dp a n c vs aX bI h1 va ja
 grow:=fun aS b jR m8 yH an hold dp yN ja _=>by obtain⟨a,rfl,bI⟩:=hA.resolve_left (by omega);exact run_append_grow (P:=P) w t fp e i ff cf ad cC b jR m8 yH an hold a n c vs aX bI dp yN ja
theorem abT {t cF fp e:TypeId}{i:TypeInfo}{ff:Value}{k:IntKind}(cf:P.underlying t=some (.slice e))(nE:P.underlying cF=some (.int k))(ad:P.info? e=some i)(cC:i.zero=some ff)(mZ:ff.cells.size=i.size){m:Nat}(ajX:(m:Int)<9223372036854775808)
 (h1 : ∀u∈(Builtin.zeroCells ff.cells m).toList,u.oneCell'=true):Mt P w t cF fp e i ff (.int .i64 m) m (Builtin.zeroCells ff.cells m).toList:=by
 have hw:IntKind.i64.wrap (m:Int)=m:=by simp[IntKind.wrap,IntKind.bits,IntKind.signed];omega
 have oS : ¬((m:Int)<0):=by omega
 have tw : ∀aJ,aJ*i.size=0->Builtin.zeroCells ff.cells aJ = #[]:=fun aJ hm=>by apply Array.eq_empty_of_size_eq_zero;rw[size_zeroCells,mZ,hm]
 have IG : ∀bV:World,(if m*i.size=0 then (pure #[]:Sem (Array Value)) else do pure (Builtin.zeroCells (<- zeroValue e).cells m)).run P bV = .ok (Builtin.zeroCells ff.cells m) bV:=fun bV=>by
  split
  ·rename_i hm;rw[tw _ hm];rfl
  ·simp[zeroValue,typeInfo,ad,cC]
 have Mu : ∀b:Nat,m*b<=140737488355328-> ¬(281474976710656<(m:Int)*(b:Int)):=fun b aU=>by have:((m*b:Nat):Int)<=140737488355328:=(by omega);rw[Int.natCast_mul] at this;omega
 refine⟨fun aS B len cap E2=> ?_,fun aS yN Cn=> ?_,fun aS g jR m8 mY e2 dp va ja Cn=> ?_,fun aS b jR m8 yH an hold dp yN ja Cn=> ?_⟩
 ·subst aS;have MR:IntKind.i64.wrap 0=0:=(by simpa using hw);cases B<;>simp[Builtin.append_,run_underlying cf,run_underlying nE,sizeOf,typeInfo,ad,E2,asInt,asIntOf,MR,storeCells]
 ·have IH : ¬m=0:=by omega
  have E3 : ¬(9223372036854775807<(m:Int)):=(by omega);have wz:=Mu _ Cn;have E4 : ¬(281474976710656<Builtin.nextslicecap m 0*i.bytes):=(by rw[nextslicecap_zero aS];omega);have o:=IG w.drew;by_cases hm:m*i.size=0
  ·simp[Builtin.append_,run_underlying cf,run_underlying nE,sizeOf,typeInfo,zeroValue,ad,cC,asInt,asIntOf,hw,oS,wz,IH,E3,E4,Question.forced,run_firstCells_none,newRow,grownCap,hm,tw _ hm]
  ·simp[Builtin.append_,run_underlying cf,run_underlying nE,sizeOf,typeInfo,zeroValue,ad,cC,asInt,asIntOf,hw,oS,wz,IH,E3,E4,Question.forced,run_firstCells_none,newRow,grownCap,hm]
 ·have wz:=Mu _ Cn
  have nD:=run_storeCells_at P g (jR*i.size) e2 (Builtin.zeroCells ff.cells m).toList 0 mY w dp (by simpa using ja) h1;simp only[Nat.add_zero] at nD;by_cases hm:m*i.size=0
  ·rw[tw _ hm] at nD;have agk:(storeCells ⟨g,jR*i.size,none⟩ []).run P w = .ok () (w.setRow g mY):=(by simpa using nD);simp[Builtin.append_,run_underlying cf,run_underlying nE,sizeOf,typeInfo,zeroValue,ad,cC,asInt,asIntOf,hw,oS,wz,va,hm,tw _ hm,Addr.add_lit,agk]
  ·simp[Builtin.append_,run_underlying cf,run_underlying nE,sizeOf,typeInfo,zeroValue,ad,cC,asInt,asIntOf,hw,oS,wz,va,hm,Addr.add_lit,nD]
 ·have wz:=Mu _ Cn
  have VI : ¬(jR+m<=m8):=(by omega);have E3 : ¬(9223372036854775807<((jR:Int)+(m:Int))):=(by omega);have E4 : ¬(281474976710656<Builtin.nextslicecap (jR+m) m8*i.bytes):=(by omega);have VJ:=run_firstCells_some (P:=P) w.drew i.size jR b jR m8 yH an (by simpa using hold);by_cases hm:m*i.size=0
  ·simp[Builtin.append_,run_underlying cf,run_underlying nE,sizeOf,typeInfo,zeroValue,ad,cC,asInt,asIntOf,hw,oS,wz,VI,E3,E4,Question.forced,VJ,newRow,grownCap,hm,tw _ hm]
  ·simp[Builtin.append_,run_underlying cf,run_underlying nE,sizeOf,typeInfo,zeroValue,ad,cC,asInt,asIntOf,hw,oS,wz,VI,E3,E4,Question.forced,VJ,newRow,grownCap,hm]
theorem Kv {a4:Nat}{e:TypeId}{v:Value}{i:TypeInfo}{m:Nat}(h:c8 g s aF a w)(fB:s.a2 a4=none){es:List (List aH)}(hlen:∀x∈es,x.length=i.size)(hm:m=es.length)
 {pn:List Value} {vH:Array Value} {cap:Nat} (rS:pn.length=es.length*i.size) (m7 : ∀u∈pn,u.oneCell'=true) (agX:vH.size=(cap-m)*i.size) (E2:m<=cap) (agl:cap<9223372036854775808)
 (fZ : ∀(j:Nat) x u,es.flatten[j]? = some x->pn[j]? = some u->Rel w (s.ok g aF w) s.bh (s.bm aF) x u)
 (bg:v = .slice (some ⟨w.heap.size,0,none⟩) m cap) :
 ∃bY,c8 g (s.setRow a4 [⟨i.size,es,.live⟩]) bY a (w.drew.alloc (.cells (pn.toArray++vH) e)) /\
  Rel (w.drew.alloc (.cells (pn.toArray++vH) e)) ((s.setRow a4 [⟨i.size,es,.live⟩]).ok g bY (w.drew.alloc (.cells (pn.toArray++vH) e))) (s.setRow a4 [⟨i.size,es,.live⟩]).bh ((s.setRow a4 [⟨i.size,es,.live⟩]).bm bY) (.bk a4 0 0 m) v:=by
 have bG:=h.drew
 have kQ:es.flatten.length=es.length*i.size:=by
  have : ∀(es:List (List aH)),(∀e∈es,e.length=i.size)->es.flatten.length=es.length*i.size:=by
   intro es
   induction es with
   | nil=>intro _;simp
   | cons e es ih =>
    intro gH;rw[List.flatten_cons,dF,ih fun x ab=>gH x (by simp[ab]),gH e (by simp),List.length_cons,Nat.add_mul];omega
  exact this es hlen
 obtain⟨bY,p1,hM,-⟩:=bG.alloc fB ⟨i.size,es,.live⟩ rfl (pn.toArray++vH) e hlen (fun j x ab=>by
  have av:j<pn.length:=by
   rcases Nat.lt_or_ge j es.flatten.length with c0|c0
   ·omega
   ·rw[List.getElem?_eq_none c0] at ab;simp at ab
  refine⟨pn[j],?_,m7 _ (List.getElem_mem av),?_⟩
  ·rw[Array.getElem?_append_left (by simpa using av)];simp[av]
  ·exact(fZ j x _ ab (dz av)).drew)
 refine⟨bY,hM,?_⟩;subst bg;have an:(s.setRow a4 [⟨i.size,es,.live⟩]).al a4 0=some ⟨i.size,es,.live⟩:=by rw[mN,dw rfl,nq];simp
 refine Rel.bk (sz:=i.size) (eU:=w.heap.size) (m:=(pn.toArray++vH).size) ((oK _ _ _ _ _).2 (by simp)) ?_ E2 agl ⟨?_,.inr (by simp)⟩
 ·rw[jq an,p1];rfl
 ·simp only[Array.size_append,List.size_toArray,agX,rS,dG];rw[<- hm,<- Nat.add_mul];congr 1;omega
section
variable {I:Oper} {c2:gj} {a4:Nat} {bF:iQ}
theorem SB (h:c8 g s aF a w){t cF fp e:TypeId}{i:TypeInfo}{z:List aH}(hu:P.underlying t=some (.slice e))(ad:P.info? e=some i)(cC:so P e=some z)(oW:z.length=i.size)(kO:i.size≠0)
 {y:aH} {gh:gj} {bL:List (List aH)} {al:List Prop} (he:yb P i.size z s.a2 gh t cF y=some (bL,al)) (bs : ∀p∈al,p) {o3:Value} (a1:Rel w (s.ok g aF w) s.bh (s.bm aF) y o3) :
 ∃ff vs,i.zero=some ff/\ff.cells.size=i.size/\Mt P w t cF fp e i ff o3 bL.length vs/\(∀x∈bL,x.length=i.size)/\vs.length=bL.length*i.size/\(∀u∈vs,u.oneCell'=true) /\
  ∀(j:Nat) x u,bL.flatten[j]? = some x->vs[j]? = some u->Rel w (s.ok g aF w) s.bh (s.bm aF) x u:=by
 obtain⟨fk,ff,lS,lR,r7,wH⟩:=D1 cC;rw[ad] at lS;simp at lS;subst lS;have mZ:ff.cells.size=i.size:=by rw[<- oW,r7];simp
 unfold yb at he;split at he
 ·rename_i agY
  subst agY;obtain⟨A,c,rfl,hlen,MS⟩:=Ta h he bs a1;rcases MS with h0|⟨eU,off,rfl,jC⟩
  ·have:bL=[]:=List.length_eq_zero_iff.1 h0;subst this;exact⟨ff,[],lR,mZ,R4 hu ad lR (by simp) (.inl rfl) (by simp),hlen,by simp,by simp,by simp⟩
  ·obtain⟨vs,v1,v2,v3,v4⟩:=jC.pn;exact⟨ff,vs,lR,mZ,R4 hu ad lR v1 (.inr ⟨_,rfl,v2⟩) v3,hlen,v1,v3,v4⟩
 ·split at he
  ·rename_i k n aY
   simp only[dB,dD] at he;obtain⟨rfl,rfl⟩:=he;have h0:0<=n:=bs _ (by simp);have yN:n<9223372036854775808:=bs _ (by simp);obtain⟨m,rfl⟩:=Int.eq_ofNat_of_zero_le h0;have agZ:o3 = .int .i64 m:=(by cases a1;rfl);subst agZ;have nc : ∀(j:Nat) u,(Builtin.zeroCells ff.cells m).toList[j]? = some u->ff.cells[j % i.size]? = some u:=(by intro j u pr;have av:=(List.getElem?_eq_some_iff.1 pr).1;rw[Array.length_toList,size_zeroCells,mZ] at av;have ez:j % i.size<ff.cells.size:=(by rw[mZ];exact Nat.mod_lt _ (by omega));rw[Array.getElem?_toList,Builtin.zeroCells,Array.getElem?_map,mZ,Array.getElem?_range] at pr;rw[dw av] at pr;simp only[Option.map_some,dB] at pr;rw[<- pr,Array.getElem?_eq_getElem ez,getElem!_pos ff.cells _ ez]);refine⟨ff,(Builtin.zeroCells ff.cells m).toList,lR,mZ,?_,?_,?_,?_,?_⟩
   ·simp only[List.length_replicate,dx];refine abT hu aY ad lR mZ (by omega) fun u tx=> ?_;obtain⟨j,av⟩:=List.getElem?_of_mem tx;have h1:=nc j u av;have ez:j % i.size<z.length:=(by rw[oW];exact Nat.mod_lt _ (by omega));obtain⟨v,v1,v2,-⟩:=wH _ _ (dz ez);rw[h1] at v1;obtain rfl:=dI v1;exact v2
   ·intro x ab;rw[List.mem_replicate] at ab;rw[ab.2,oW]
   ·rw[Array.length_toList,size_zeroCells,mZ];simp
   ·intro u tx;obtain⟨j,av⟩:=List.getElem?_of_mem tx;have h1:=nc j u av;have ez:j % i.size<z.length:=(by rw[oW];exact Nat.mod_lt _ (by omega));obtain⟨v,v1,v2,-⟩:=wH _ _ (dz ez);rw[h1] at v1;obtain rfl:=dI v1;exact v2
   ·intro j x u ab pr
    rw[qR (sz:=i.size) (by omega) _ (fun e2 m9=>by rw[List.mem_replicate] at m9;rw[m9.2,oW])] at ab;have h1:=nc j u pr
    cases a5:(List.replicate (Int.toNat (m:Int)) z)[j / i.size]? with
    | none=>rw[a5] at ab;simp at ab
    | some e2 =>
     have:=dH a5;rw[List.mem_replicate] at this;rw[a5,this.2] at ab;simp only[dA] at ab;obtain⟨v,v1,-,v3⟩:=wH _ _ ab;rw[h1] at v1;obtain rfl:=dI v1;exact v3 _ _ _ _
  ·simp at he
theorem abU (h:c8 g s aF a w)(fB:s.a2 a4=none){x y:aH}{tI o3:Value}{t cF:TypeId}{m:Nat}{NL:Option a8}{fp:TypeId}(ay:pq P s.E s.a2 a4 .append [x,y] [t,cF] (.aG m NL)=some bF)(cR:∀p∈bF.f7,p)
 (ab:Rel w (s.ok g aF w) s.bh (s.bm aF) x tI) (a1:Rel w (s.ok g aF w) s.bh (s.bm aF) y o3) :
 ∃v bV bY,(Builtin.append_ #[t,cF] fp #[tI,o3]).run P w = .ok v bV/\c8 g (s.jh bF.gE) bY a bV/\Rel bV ((s.jh bF.gE).ok g bY bV) (s.jh bF.gE).bh ((s.jh bF.gE).bm bY) bF.val v:=by
 simp only[pq] at ay;split at ay
 ·simp at ay
 ·rename_i e he
  have hu:=tZ he;split at ay
  ·rename_i i z ad cC
   split at ay
   ·simp at ay
   ·rename_i a3
    simp only[not_or,Decidable.not_not] at a3;obtain⟨oW,kO,Ch⟩:=a3;split at ay
    ·simp at ay
    ·rename_i bL bX tt
     have II:=fun ah=>SB (fp:=fp) h hu ad cC oW kO tt ah a1;by_cases ae9:True
     ·
      split at ay
      ·
       simp only[dB] at ay;subst ay;have hm:m=bL.length:=cR _ (by simp);have Fy:m*i.bytes<=140737488355328:=cR _ (by simp);obtain⟨ff,vs,lR,mZ,hA,hlen,v1,v3,v4⟩:=II (fun p ah=>cR p (by simp[ah]));clear II;rw[ab.ry];by_cases h0:bL.length=0
       ·have:bL=[]:=List.length_eq_zero_iff.1 h0;subst this;obtain⟨bY,p1,hM⟩:=h.TL (sz:=i.size) fB;refine⟨_,w,bY,hA.zero h0 none 0 0 (dE _),hM,?_⟩;subst hm;have an:(s.setRow a4 [⟨i.size,[],.live⟩]).al a4 0=some ⟨i.size,[],.live⟩:=(by rw[mN,dw rfl,nq];simp);exact .o7 (sz:=i.size) ((oK _ _ _ _ _).2 (by simp)) (by show (s.setRow a4 [⟨i.size,[],.live⟩]).bm bY a4 0=_;rw[jq an,p1])
       ··have wI:bL.length*1<=bL.length*i.bytes:=Nat.mul_le_mul_left _ (by omega)
         rw[hm] at Fy;have j0:=hA.nil (by omega) (by omega) (by omega);have VK:=grownCap_ge w bL.length 0 e;have hle:=grownCap_le_maxLen w bL.length 0 e (by simp only[maxLen];omega);simp only[maxLen] at hle
         obtain⟨bY,q1,aV⟩:=Kv (e:=e) (i:=i) (m:=m) (pn:=vs) (vH:=Builtin.zeroCells ff.cells (grownCap w bL.length 0 e-bL.length)) (cap:=grownCap w bL.length 0 e) h fB hlen hm v1 v3
          (by rw[size_zeroCells,mZ,hm]) (by omega) (by omega) v4 rfl
         refine⟨.slice (some ⟨w.heap.size,0,none⟩) m (grownCap w bL.length 0 e),_,bY,?_,q1,aV⟩;rw[hm];exact j0
      ·
       rename_i r k len;split at ay
       ·simp at ay
       ·rename_i row ei
        split at ay
        ·simp at ay
        ·rename_i al bs
         split at ay
         ·rename_i yO
          obtain⟨ps,fA,c6⟩:=yO;simp only[dB] at ay;subst ay;have an:s.al r k=some al:=(by unfold S.al;rw[ei];exact bs);have ja:len<=al.es.length:=cR _ (by simp);have hm:m=len+bL.length:=cR _ (by simp);have Fy:m*i.bytes<=140737488355328:=cR _ (by simp);have wI:m*1<=m*i.bytes:=Nat.mul_le_mul_left _ (Nat.one_le_iff_ne_zero.2 Ch);obtain⟨ff,vs,lR,mZ,hA,hlen,v1,v3,v4⟩:=II (fun p ah=>cR p (by simp[ah]));clear II;have aj7:bL.length*i.bytes<=m*i.bytes:=dL _ (by omega);have fZ:=h.obj r k al an;have MT:(al.es.take len).length=len:=(by simp;omega);have uj:(s.setRow a4 [⟨i.size,al.es.take len++bL,.live⟩]).a2 r=some row:=(by simp[S.setRow,Ne.symm c6,ei]);have rT : ∀bY:ga,((s.setRow a4 [⟨i.size,al.es.take len++bL,.live⟩]).setRow r (row.set k {al with cN:= .gone})).al a4 0=some ⟨i.size,al.es.take len++bL,.live⟩:=(by intro _;rw[mN,dy c6,mN,dw rfl,nq];simp);have E5:((s.setRow a4 [⟨i.size,al.es.take len++bL,.live⟩]).setRow r (row.set k {al with cN:= .gone})).bh a4 0:=(by rw[oK,dy c6,oK,dw rfl];simp);show ∃v bV bY,_/\c8 g ((s.setRow a4 [⟨i.size,al.es.take len++bL,.live⟩]).setRow r (row.set k {al with cN:= .gone})) bY a bV/\_;rcases ab.xQ (jq an) with ⟨ah,-,rfl,rfl⟩|⟨b,M,hq,lC,ah,rfl,tv,vt,et,nF⟩
          ·
           rw[ah] at fZ;simp only[kd] at fZ;have iK:al.es.take 0++bL=bL:=(by simp);by_cases h0:bL.length=0
           ·have:bL=[]:=List.length_eq_zero_iff.1 h0;subst this;obtain⟨bY,p1,hM⟩:=h.TL (sz:=i.size) fB;have rU:(s.setRow a4 [⟨i.size,[],.live⟩]).al r k=some al:=(by rw[mN,dy (Ne.symm c6)];exact an);have afR:(s.setRow a4 [⟨i.size,[],.live⟩]).a2 r=some row:=(by simp[S.setRow,Ne.symm c6,ei]);obtain⟨p9,-⟩:=hM.gone afR rU;have E6:al.es.take 0++([]:List (List aH))=[]:=(by simp);rw[E6];rw[E6] at E5 rT;refine⟨_,w,bY,hA.zero h0 none 0 0 (dE _),p9,?_⟩;subst hm;exact .o7 (sz:=i.size) E5 ((jq (rT bY)).trans (by rw[p1]))
           ··have la:m=bL.length:=by omega
             have j0:=hA.nil (by omega) (by omega) (by omega);have VK:=grownCap_ge w bL.length 0 e;have hle:=grownCap_le_maxLen w bL.length 0 e (by simp only[maxLen];omega);simp only[maxLen] at hle
             obtain⟨bY,q1,aV⟩:=Kv (e:=e) (i:=i) (m:=m) (pn:=vs) (vH:=Builtin.zeroCells ff.cells (grownCap w bL.length 0 e-bL.length)) (cap:=grownCap w bL.length 0 e) h fB hlen la v1 v3
              (by rw[size_zeroCells,mZ,la]) (by omega) (by omega) v4 rfl
             rw[iK];rw[iK] at uj;have rU:(s.setRow a4 [⟨i.size,bL,.live⟩]).al r k=some al:=(by rw[mN,dy (Ne.symm c6)];exact an);obtain⟨p9,Gi⟩:=q1.gone uj rU;refine⟨.slice (some ⟨w.heap.size,0,none⟩) m (grownCap w bL.length 0 e),_,bY,?_,p9,Gi _ _ aV⟩;rw[la];exact j0
          ·
           rw[ah] at fZ;have afS:=fZ;obtain⟨cJ,nW,g1,g2,g3,g4⟩:=fZ
           have E7 : ∀e∈al.es.take len++bL,e.length=i.size:=by
            intro e2 m9;rw[List.mem_append] at m9;rcases m9 with c0|c0
            ·rw[g3 e2 (List.mem_of_mem_take c0),fA]
            ·exact hlen e2 c0
           have kQ : ∀(es:List (List aH)),(∀e∈es,e.length=i.size)->es.flatten.length=es.length*i.size:=by
            intro es
            induction es with
            | nil=>intro _;simp
            | cons e es ih =>
             intro gH;rw[List.flatten_cons,dF,ih fun x ab=>gH x (by simp[ab]),gH e (by simp),List.length_cons,Nat.add_mul];omega
           by_cases h0:bL.length=0
           ·
            have:bL=[]:=List.length_eq_zero_iff.1 h0;subst this;have E6:al.es.take len++([]:List (List aH))=al.es.take len:=(by simp);rw[E6];rw[E6] at E5 rT E7
            obtain⟨bY,p1,hM⟩:=h.turn ei an ps ah fB ⟨i.size,al.es.take len,.live⟩ rfl cJ nW g1 rfl (fun _ _=>rfl) rfl rfl rfl g2 E7 (fun j q a5=>by
             refine g4 j q ?_
             have av:j<(al.es.take len).flatten.length:=by
              rcases Nat.lt_or_ge j (al.es.take len).flatten.length with c0|c0
              ·exact c0
              ·rw[List.getElem?_eq_none c0] at a5;simp at a5
             have VM:al.es.flatten=(al.es.take len).flatten++(al.es.drop len).flatten:=(by rw[<- List.flatten_append,List.take_append_drop]);rw[VM,List.getElem?_append_left av];exact a5)
            refine⟨_,w,bY,hA.zero h0 hq len lC tv,hM,?_⟩;have la:m=len:=(by simpa using hm);subst la;refine .bk (sz:=i.size) (eU:=b) (m:=M) E5 ((jq (rT bY)).trans (by rw[p1])) tv vt ?_;rw[<- fA];exact⟨et,nF⟩
           ··
             have hold : ∃xs:List Value,xs.length=len*i.size/\(∀(j:Nat) u,xs[j]? = some u->w.cell? ((⟨b,0,none⟩:Addr).add j)=some u)/\(∀u∈xs,u.oneCell'=true) /\
              ∀(j:Nat) x u,(al.es.take len).flatten[j]? = some x->xs[j]? = some u->Rel w (s.ok g aF w) s.bh (s.bm aF) x u:=by
              have Vh:=GX afS.rd 0 len (by omega);simp only[List.drop_zero,Nat.zero_mul,Nat.add_zero] at Vh;obtain⟨xs,x1,eH,aC,fV⟩:=Vh.pn;exact⟨xs,by rw[x1,MT,fA],eH,aC,fV⟩
             obtain⟨xs,x1,eH,aC,fV⟩:=hold;have ag0:xs.length=(al.es.take len).length*i.size:=by rw[MT];exact x1
             have TM : ∀(j:Nat) x u,(al.es.take len++bL).flatten[j]? = some x->(xs++vs)[j]? = some u->Rel w (s.ok g aF w) s.bh (s.bm aF) x u :=
              fun j x u ag1 pr=>aaz ag0 (fun e2 m9=>by rw[g3 e2 (List.mem_of_mem_take m9),fA]) ag1 fV v4 pr
             have E8:(al.es.take len++bL).length=m:=(by rw[dF,MT];exact hm.symm);by_cases va:len+bL.length<=lC
             ·
              rcases nF with rfl|rfl
              ·omega
              ·rw[Nat.zero_mul] at *
               rw[dG] at et;have afa:len*i.size+vs.length<=cJ.size:=(by rw[v1,g2,<- et,fA,<- Nat.add_mul];exact dL _ va);have j0:=hA.room (by omega) b len lC cJ nW g1 va afa (by omega);have agm:(w.setRow b (cJ.toList.take (len*i.size)++vs++cJ.toList.drop (len*i.size+vs.length)).toArray).heap.size=w.heap.size:=size_setRow _ _ _
               have VN:xs=cJ.toList.take (len*i.size):=by
                apply List.ext_getElem?;intro j;rw[List.getElem?_take];by_cases av:j<len*i.size
                ·rw[dw av];have uv:j<xs.length:=(by omega);have:=eH j _ (dz uv);rw[td,cell_of_row w b (0+j) cJ nW (0,0) g1,dG] at this;rw[dz uv,<- this,Array.getElem?_toList]
                ·rw[dy av,List.getElem?_eq_none (by omega)]
               obtain⟨bY,p1,hM⟩:=h.turn ei an ps ah fB ⟨i.size,al.es.take len++bL,.live⟩ rfl _ nW (setRow_heap w b cJ _ nW _ g1) agm (fun q a5=>setRow_other w b q _ a5) rfl rfl rfl
                (by rw[<- g2];simp;omega) E7 (fun j q a5=>by
                  have av:j<(xs++vs).length:=by
                   have:j<(al.es.take len++bL).flatten.length:=by
                    rcases Nat.lt_or_ge j (al.es.take len++bL).flatten.length with c0|c0
                    ·exact c0
                    ·rw[List.getElem?_eq_none c0] at a5;simp at a5
                   rw[kQ _ E7,E8] at this;rw[dF,x1,v1,<- Nat.add_mul,<- hm];exact this
                  refine⟨(xs++vs)[j],?_,?_,TM j q _ a5 (dz av)⟩
                  ·rw[List.getElem?_toArray,List.getElem?_append_left (by rw[<- VN];exact av),<- VN];exact dz av
                  ·have:=List.getElem_mem av
                   rw[List.mem_append] at this;rcases this with c0|c0
                   ·exact aC _ c0
                   ·exact v3 _ c0)
               refine⟨_,_,bY,j0,hM,?_⟩;rw[<- hm];refine .bk (sz:=i.size) (eU:=b) (m:=M) E5 ((jq (rT bY)).trans (by rw[p1])) (by omega) vt ⟨?_,.inr (by simp)⟩;rw[dG,<- fA];exact et
             ·
              have hA : ∃ze:Addr,(hq=some ze/\ ∀(j:Nat) u,xs[j]? = some u->w.cell? (ze.add j)=some u)\/(hq=none/\len=0/\lC=0):=by
               cases hq with
               | none =>
                refine⟨⟨0,0,none⟩,.inr ⟨rfl,?_⟩⟩;rcases nF with c0|c0
                ·omega
                ·simp at c0
               | some ze =>
                refine⟨ze,.inl ⟨rfl,?_⟩⟩;rcases nF with c0|c0
                ·have:len=0:=(by omega);have:xs=[]:=List.length_eq_zero_iff.1 (by rw[x1,this];simp);intro j u av;rw[this] at av;simp at av
                ·simp at c0;subst c0;exact eH
              have VK:=grownCap_ge w (len+bL.length) lC e;have hle:=grownCap_le_maxLen w (len+bL.length) lC e (by simp only[maxLen];omega);simp only[maxLen] at hle
              have j0:(Builtin.append_ #[t,cF] fp #[.slice hq len lC,o3]).run P w = .ok (.slice (some ⟨w.heap.size,0,none⟩) (len+bL.length) (grownCap w (len+bL.length) lC e))
               (w.drew.alloc (.cells ((xs++vs).toArray++Builtin.zeroCells ff.cells (grownCap w (len+bL.length) lC e-(len+bL.length))) e)):=by
               have agn:(xs++vs).toArray=xs.toArray++vs.toArray:=(by apply Array.ext';simp);rw[agn];obtain⟨ze,⟨rfl,ag2⟩|⟨rfl,oX,nY⟩⟩:=hA
               ·exact hA.grow (by omega) ze len lC xs x1 ag2 (by omega) (by omega) (growslice_fits (by omega) (by rw[<- hm];exact Fy)) (by omega)
               ·subst oX;subst nY;have ag3:xs=[]:=List.length_eq_zero_iff.1 (by rw[x1];simp);subst ag3;have:=hA.nil (by omega) (by omega) (by omega);simpa using this
              obtain⟨bY,q1,aV⟩:=Kv (e:=e) (i:=i) (m:=m) (pn:=xs++vs) (vH:=Builtin.zeroCells ff.cells (grownCap w (len+bL.length) lC e-(len+bL.length))) (cap:=grownCap w (len+bL.length) lC e) h fB E7 E8.symm
               (by rw[dF,x1,v1,E8,hm,Nat.add_mul]) (fun u hu=>by
                 rw[List.mem_append] at hu;rcases hu with c0|c0
                 ·exact aC _ c0
                 ·exact v3 _ c0) (by rw[size_zeroCells,mZ,hm]) (by omega) (by omega) TM rfl
              have rU:(s.setRow a4 [⟨i.size,al.es.take len++bL,.live⟩]).al r k=some al:=(by rw[mN,dy (Ne.symm c6)];exact an);obtain⟨p9,Gi⟩:=q1.gone uj rU;refine⟨.slice (some ⟨w.heap.size,0,none⟩) m (grownCap w (len+bL.length) lC e),_,bY,?_,p9,Gi _ _ aV⟩;rw[hm];exact j0
         ·simp at ay
      ·simp at ay
     ·exact absurd trivial ae9
  ·simp at ay
end
end
section
variable {P:Program} {g:G} {s:S} {aF:ga} {a:Act} {w:World}
theorem Eb {sz:Nat}: ∀ {es:List (List aH)},(∀e∈es,e.length=sz)->es.flatten.length=es.length*sz
 | [],_=>by simp
 | e::es,h=>by rw[List.flatten_cons,dF,Eb fun x ab=>h x (by simp[ab]),h e (by simp),List.length_cons,Nat.add_mul];omega
theorem c8.putAt (h:c8 g s aF a w){r k p b M:Nat}{row:List a8}{al:a8}(ai:s.a2 r=some row)(an:s.al r k=some al)(aY:al.cN = .live)(m2:aF r k=some (b,M)){bL ht:List (List aH)}{vs:List Value}
 (hlen : ∀x∈bL,x.length=al.sz) (v1:vs.length=bL.length*al.sz) (v3 : ∀u∈vs,u.oneCell'=true) (v4 : ∀(j:Nat) x u,bL.flatten[j]? = some x->vs[j]? = some u->Rel w (s.ok g aF w) s.bh (s.bm aF) x u)
 (ah:p+bL.length<=al.es.length) (q:Nat) (iK:ht=(al.es.take p++bL++al.es.drop (p+bL.length)).take q) :
 ∃cJ nW,w.heap[b]? = some (.cells cJ nW (0,0))/\cJ.size=M/\al.es.length*al.sz<=M/\p*al.sz+vs.length<=cJ.size /\
  c8 g (s.setRow r (row.set k {al with es:=ht})) aF a (w.setRow b (cJ.toList.take (p*al.sz)++vs++cJ.toList.drop (p*al.sz+vs.length)).toArray) /\
  ∀x v,Rel w (s.ok g aF w) s.bh (s.bm aF) x v->Rel (w.setRow b (cJ.toList.take (p*al.sz)++vs++cJ.toList.drop (p*al.sz+vs.length)).toArray) ((s.setRow r (row.set k {al with es:=ht})).ok g aF (w.setRow b (cJ.toList.take (p*al.sz)++vs++cJ.toList.drop (p*al.sz+vs.length)).toArray)) (s.setRow r (row.set k {al with es:=ht})).bh ((s.setRow r (row.set k {al with es:=ht})).bm aF) x v:=by
 have fZ:=h.obj r k al an;rw[m2] at fZ;obtain⟨cJ,nW,g1,g2,g3,g4⟩:=fZ;have kQ:=Eb g3
 have et:al.es.length*al.sz<=M:=by
  rcases Nat.eq_zero_or_pos al.es.flatten.length with h0|kO
  ·omega
  ·obtain⟨v,e1,-⟩:=g4 (al.es.flatten.length-1) _ (dz (by omega));have:=(Array.getElem?_eq_some_iff.1 e1).1;omega
 have hmul:p*al.sz+bL.length*al.sz<=al.es.length*al.sz:=by rw[<- Nat.add_mul];exact dL _ ah
 have ja:p*al.sz+vs.length<=cJ.size:=by omega
 refine⟨cJ,nW,g1,g2,et,ja,?_⟩
 have ago : ∀e∈al.es.take p++bL++al.es.drop (p+bL.length),e.length=al.sz:=by
  intro e he;simp only[List.mem_append] at he;rcases he with (he|he)|he
  ·exact g3 e (List.mem_of_mem_take he)
  ·exact hlen e he
  ·exact g3 e (List.mem_of_mem_drop he)
 have hA:(al.es.take p).flatten.length=p*al.sz:=by rw[Eb fun e he=>g3 e (List.mem_of_mem_take he),List.length_take];congr 1;omega
 have fP:(al.es.take (p+bL.length)).flatten.length=p*al.sz+bL.length*al.sz:=by rw[Eb fun e he=>g3 e (List.mem_of_mem_take he),List.length_take,<- Nat.add_mul];congr 1;omega
 have aip:bL.flatten.length=bL.length*al.sz:=Eb hlen
 have h1 : ∀j,j<p*al.sz->(al.es.take p).flatten[j]? = al.es.flatten[j]? := fun j av=>by
  conv=>rhs;rw[<- List.take_append_drop p al.es,List.flatten_append,List.getElem?_append_left (by omega)]
 have o : ∀j,(al.es.drop (p+bL.length)).flatten[j]? = al.es.flatten[p*al.sz+bL.length*al.sz+j]? := fun j=>by
  conv=>rhs;rw[<- List.take_append_drop (p+bL.length) al.es,List.flatten_append,List.getElem?_append_right (by omega),fP]
  congr 1;omega
 refine h.write ai an aY m2 ht _ nW (setRow_heap w b cJ _ nW _ g1) (size_setRow _ _ _) (fun q a5=>setRow_other w b q _ a5) rfl rfl rfl (by rw[<- g2];simp;omega) ?_ ?_
 ·intro e he;rw[iK] at he;exact ago e (List.mem_of_mem_take he)
 ·intro j x ab
  have ex:(al.es.take p++bL++al.es.drop (p+bL.length)).flatten[j]? = some x:=by
   rw[iK] at ab;have av:=(List.getElem?_eq_some_iff.1 ab).1
   conv=>lhs;rw[<- List.take_append_drop q (al.es.take p++bL++al.es.drop (p+bL.length)),List.flatten_append,List.getElem?_append_left av]
   exact ab
  rw[List.flatten_append,List.flatten_append] at ex;simp only[List.getElem?_toArray];have jI:(cJ.toList.take (p*al.sz)).length=p*al.sz:=(by rw[List.length_take,Array.length_toList];omega);by_cases bo:j<p*al.sz
  ·rw[List.append_assoc,List.getElem?_append_left (by omega),h1 j bo] at ex;obtain⟨v,e1,aB,bP⟩:=g4 j x ex;refine⟨v,?_,aB,bP⟩;rw[List.append_assoc,List.getElem?_append_left (by omega),List.getElem?_take,dw bo,Array.getElem?_toList];exact e1
  ·by_cases cq:j<p*al.sz+vs.length
   ·rw[List.append_assoc,List.getElem?_append_right (by omega),hA,List.getElem?_append_left (by omega)] at ex;have bg:j-p*al.sz<vs.length:=(by omega);refine⟨vs[j-p*al.sz],?_,v3 _ (List.getElem_mem bg),v4 _ _ _ ex (dz bg)⟩;rw[List.append_assoc,List.getElem?_append_right (by omega),jI,List.getElem?_append_left (by omega)];exact dz bg
   ·rw[List.getElem?_append_right (by rw[dF];omega),dF,hA,aip,o] at ex;rw[show p*al.sz+bL.length*al.sz+(j-(p*al.sz+bL.length*al.sz))=j by omega] at ex;obtain⟨v,e1,aB,bP⟩:=g4 j x ex;refine⟨v,?_,aB,bP⟩;rw[List.getElem?_append_right (by rw[dF];omega),dF,jI,List.getElem?_drop,Array.getElem?_toList];rw[show p*al.sz+vs.length+(j-(p*al.sz+vs.length))=j by omega];exact e1
end
section
variable {P:Program} {g:G} {s:S} {aF:ga} {a:Act} {w:World} {a4:Nat} {bF:iQ}
theorem aew (h:c8 g s aF a w){x y:aH}{tI o3:Value}{t cF fp:TypeId}(ay:pq P s.E s.a2 a4 .append [x,y] [t,cF] .e5=some bF)(cR:∀p∈bF.f7,p)
 (ab:Rel w (s.ok g aF w) s.bh (s.bm aF) x tI) (a1:Rel w (s.ok g aF w) s.bh (s.bm aF) y o3) :
 ∃v bV,(Builtin.append_ #[t,cF] fp #[tI,o3]).run P w = .ok v bV/\c8 g (s.jh bF.gE) aF a bV/\Rel bV ((s.jh bF.gE).ok g aF bV) (s.jh bF.gE).bh ((s.jh bF.gE).bm aF) bF.val v:=by
 simp only[pq] at ay;split at ay
 ·simp at ay
 ·rename_i e he
  have hu:=tZ he;split at ay
  ·rename_i i z ad cC
   split at ay
   ·simp at ay
   ·rename_i a3
    simp only[not_or,Decidable.not_not] at a3;obtain⟨oW,kO,Ch⟩:=a3;split at ay
    ·simp at ay
    ·rename_i bL bX tt
     split at ay
     ·rename_i r k len
      split at ay
      ·simp at ay
      ·rename_i row ei
       split at ay
       ·simp at ay
       ·rename_i al bs
        split at ay
        ·rename_i yO
         obtain⟨ps,fA⟩:=yO;simp only[dB] at ay;subst ay;have an:s.al r k=some al:=(by unfold S.al;rw[ei];exact bs);have ja:len+bL.length<=al.es.length:=cR _ (by simp);have Fy:bL.length*i.bytes<=140737488355328:=cR _ (by simp);obtain⟨ff,vs,lR,mZ,hA,hlen,v1,v3,v4⟩:=SB (fp:=fp) h hu ad cC oW kO tt (fun p ah=>cR p (by simp[ah])) a1;rw[<- fA] at v1;have UR : ∀x∈bL,x.length=al.sz:=fun x ab=>by rw[hlen x ab,fA]
         have iK:al.es.take len++bL=(al.es.take len++bL++al.es.drop (len+bL.length)).take (len+bL.length) :=
          (List.take_left' (by rw[dF,List.length_take];omega)).symm
         rcases ab.xQ (jq an) with ⟨ah,-,rfl,rfl⟩|⟨b,M,hq,lC,ah,rfl,tv,vt,et,nF⟩
         ·have fZ:=h.obj r k al an
          rw[ah] at fZ;simp only[kd] at fZ;rw[fZ] at ja;have h0:bL.length=0:=(by simp at ja;exact List.length_eq_zero_iff.2 ja);have yP:bL=[]:=List.length_eq_zero_iff.1 h0;subst yP
          have mx:row.set k {al with es:=al.es.take 0++[]}=row:=by
           have h1:({al with es:=al.es.take 0++[]}:a8)=al:=(by cases al;simp only[] at fZ;subst fZ;rfl);rw[h1]
           have o:row[k]? = some al:=by
            unfold d5 at bs;simp only at bs;split at bs
            ·rename_i ck eK
             split at bs
             ·simp at bs
             ·simp at bs;rw[<- bs];exact eK
            ·simp at bs
           exact List.ext_getElem? fun j=>by
            rw[List.getElem?_set];split
            ·rename_i e;subst e;have:=(List.getElem?_eq_some_iff.1 o).1;rw[dw this,o]
            ·rfl
          refine⟨_,w,hA.zero h0 none 0 0 (dE _),?_⟩
          have eL:s.setRow r row=s:=by
           have:(fun q=>if q=r then some row else s.a2 q)=s.a2:=by
            funext q;split
            ·rename_i e;rw[e,ei]
            ·rfl
           show ({s with a2:=_}:S)=s;rw[this]
          show c8 g (s.setRow r (row.set k {al with es:=al.es.take 0++[]})) aF a w/\Rel w ((s.setRow r (row.set k {al with es:=al.es.take 0++[]})).ok g aF w) (s.setRow r (row.set k {al with es:=al.es.take 0++[]})).bh ((s.setRow r (row.set k {al with es:=al.es.take 0++[]})).bm aF) (.bk r k 0 0) (.slice none 0 0);rw[mx,eL];exact⟨h,ab⟩
         ·obtain⟨cJ,nW,bo,cq,kx,r8,qa,vI⟩:=h.putAt ei an ps ah UR v1 v3 v4 ja (len+bL.length) iK
          have hle:al.es.length<=lC:=(by rw[dG] at et;rw[<- et] at kx;exact Nat.le_of_mul_le_mul_right kx (by omega));by_cases nY:lC=0
          ·have h0:bL.length=0:=(by omega);have oX:len=0:=(by omega);subst oX;have yP:bL=[]:=List.length_eq_zero_iff.1 h0;subst yP;have MU:vs=[]:=List.length_eq_zero_iff.1 (by simpa using v1);subst MU;have hw:w.setRow b (cJ.toList.take (0*al.sz)++[]++cJ.toList.drop (0*al.sz+0)).toArray=w:=(by simp only[Nat.zero_mul,List.take_zero,List.nil_append,dG,List.drop_zero,Array.toArray_toList];exact setRow_self w b cJ nW (0,0) bo);simp only[List.length_nil] at qa vI;rw[hw] at qa vI;exact⟨_,w,hA.zero h0 hq 0 lC (Nat.zero_le _),qa,vI _ _ ab⟩
          ·have Fz:hq=some ⟨b,0,none⟩:=by
            rcases nF with c0|c0
            ·exact absurd c0 nY
            ·simpa using c0
           subst Fz;by_cases h0:bL.length=0
           ·have yP:bL=[]:=List.length_eq_zero_iff.1 h0;subst yP;have MU:vs=[]:=List.length_eq_zero_iff.1 (by simpa using v1);subst MU;have hw:w.setRow b (cJ.toList.take (len*al.sz)++[]++cJ.toList.drop (len*al.sz+0)).toArray=w:=(by simp only[List.append_nil,Nat.add_zero,List.take_append_drop,Array.toArray_toList];exact setRow_self w b cJ nW (0,0) bo);simp only[List.length_nil] at qa vI;rw[hw] at qa vI;exact⟨_,w,hA.zero h0 _ len lC tv,qa,vI _ _ ab⟩
           ·have j0:=hA.room (by omega) b len lC cJ nW bo (by omega) (by rw[<- fA];exact r8) Fy;rw[<- fA] at j0;refine⟨_,_,j0,qa,?_⟩;have E0:(s.setRow r (row.set k {al with es:=al.es.take len++bL})).al r k=some {al with es:=al.es.take len++bL}:=(by rw[mN,dw rfl,S7 row k al _ bs (by simp[ps]),dw rfl]);show Rel _ ((s.setRow r (row.set k {al with es:=al.es.take len++bL})).ok g aF _) (s.setRow r (row.set k {al with es:=al.es.take len++bL})).bh ((s.setRow r (row.set k {al with es:=al.es.take len++bL})).bm aF) (.bk r k 0 (len+bL.length)) _;refine .bk (sz:=al.sz) (eU:=b) (m:=M) (Ho E0) ((jq E0).trans (by rw[ah])) (by omega) vt ⟨et,.inr (by simp)⟩
        ·simp at ay
     ·simp at ay
  ·simp at ay
end
section
variable {P:Program} {g:G} {s:S} {aF:ga} {a:Act} {w:World} {a4:Nat} {bF:iQ}
theorem RL {s:S}{r k:Nat}{row:List a8}{al:a8}(ai:s.a2 r=some row)(an:d5 (some row) k=some al):s.setRow r (row.set k al)=s:=by
 have o:row[k]? = some al:=by
  unfold d5 at an;simp only at an;split at an
  ·rename_i ck eK
   split at an
   ·simp at an
   ·simp at an;rw[<- an];exact eK
  ·simp at an
 have U:row.set k al=row:=List.ext_getElem? fun j=>by
  rw[List.getElem?_set];split
  ·rename_i e;subst e;have:=(List.getElem?_eq_some_iff.1 o).1;rw[dw this,o]
  ·rfl
 rw[U]
 have:(fun q=>if q=r then some row else s.a2 q)=s.a2:=by
  funext q;split
  ·rename_i e;rw[e,ai]
  ·rfl
 show ({s with a2:=_}:S)=s;rw[this]
theorem abV {e:TypeId}{i:TypeInfo}{z:List aH}{ff:Value}(mZ:ff.cells.size=i.size)(oW:z.length=i.size)(kO:i.size≠0)
 (wH : ∀(j:Nat) x,z[j]? = some x-> ∃v,ff.cells[j]? = some v/\lg v=true/\ ∀(w:World) (ok:Nat->Prop) (bh:kk) (bm:j6),Rel w ok bh bm x v) (m:Nat) :
 (Builtin.zeroCells ff.cells m).toList.length=m*i.size/\(∀u∈(Builtin.zeroCells ff.cells m).toList,u.oneCell'=true) /\
   ∀(j:Nat) x u,(List.replicate m z).flatten[j]? = some x->(Builtin.zeroCells ff.cells m).toList[j]? = some u-> ∀(w:World) (ok:Nat->Prop) (bh:kk) (bm:j6),Rel w ok bh bm x u:=by
 have nc : ∀(j:Nat) u,(Builtin.zeroCells ff.cells m).toList[j]? = some u->ff.cells[j % i.size]? = some u:=by intro j u pr;have av:=(List.getElem?_eq_some_iff.1 pr).1;rw[Array.length_toList,size_zeroCells,mZ] at av;have ez:j % i.size<ff.cells.size:=(by rw[mZ];exact Nat.mod_lt _ (by omega));rw[Array.getElem?_toList,Builtin.zeroCells,Array.getElem?_map,mZ,Array.getElem?_range] at pr;rw[dw av] at pr;simp only[Option.map_some,dB] at pr;rw[<- pr,Array.getElem?_eq_getElem ez,getElem!_pos ff.cells _ ez]
 refine⟨?_,?_,?_⟩
 ·rw[Array.length_toList,size_zeroCells,mZ]
 ·intro u tx;obtain⟨j,av⟩:=List.getElem?_of_mem tx;have h1:=nc j u av;have ez:j % i.size<z.length:=(by rw[oW];exact Nat.mod_lt _ (by omega));obtain⟨v,v1,v2,-⟩:=wH _ _ (dz ez);rw[h1] at v1;obtain rfl:=dI v1;exact v2
 ·intro j x u ab pr
  rw[qR (sz:=i.size) (by omega) _ (fun e2 m9=>by rw[List.mem_replicate] at m9;rw[m9.2,oW])] at ab;have h1:=nc j u pr
  cases a5:(List.replicate m z)[j / i.size]? with
  | none=>rw[a5] at ab;simp at ab
  | some e2 =>
   have:=dH a5;rw[List.mem_replicate] at this;rw[a5,this.2] at ab;simp only[dA] at ab;obtain⟨v,v1,-,v3⟩:=wH _ _ ab;rw[h1] at v1;obtain rfl:=dI v1;exact v3
theorem adE (h:c8 g s aF a w){r k len:Nat}{y:aH}{tI o3:Value}{t cF fp:TypeId}{c2:gj}(ay:pq P s.E s.a2 a4 .copy [.bk r k 0 len,y] [t,cF] c2=some bF)(cR:∀p∈bF.f7,p)
 (ab:Rel w (s.ok g aF w) s.bh (s.bm aF) (.bk r k 0 len) tI) (a1:Rel w (s.ok g aF w) s.bh (s.bm aF) y o3) :
 ∃n bV,(Builtin.copy_ #[t,cF] fp #[tI,o3]).run P w = .ok (goInt n) bV/\c8 g (s.jh bF.gE) aF a bV/\bF.val = .n .i64 n:=by
 simp only[pq] at ay;split at ay
 ·simp at ay
 ·rename_i e he
  have hu:=tZ he;split at ay
  ·simp at ay
  ·rename_i i ad
   split at ay
   ·simp at ay
   ·rename_i bL bX tt
    split at ay
    ·simp at ay
    ·rename_i row ei
     split at ay
     ·simp at ay
     ·rename_i al bs
      split at ay
      ·rename_i yO
       obtain⟨ps,fA,kO⟩:=yO;simp only[dB] at ay;subst ay;have an:s.al r k=some al:=(by unfold S.al;rw[ei];exact bs);have ja:bL.length<=len:=cR _ (by simp);have hle:len<=al.es.length:=cR _ (by simp);obtain⟨A,c,rfl,hlen,MS⟩:=Ta h tt (fun p ah=>cR p (by simp[ah])) a1;show ∃n bV,_/\c8 g (s.setRow r (row.set k {al with es:=bL++al.es.drop bL.length})) aF a bV/\_;by_cases h0:bL.length=0
       ·have yP:bL=[]:=List.length_eq_zero_iff.1 h0
        subst yP;refine⟨0,w,?_,?_,rfl⟩
        ·rcases ab.xQ (jq an) with ⟨-,-,rfl,rfl⟩|⟨b,M,hq,lC,-,rfl,-,-,-,-⟩
         ·cases A<;>simp[Builtin.copy_,run_underlying hu,sizeOf,typeInfo,ad,Builtin.lenOf,Builtin.firstCells,loadCells,loadCellsFrom]
         ·cases A<;>cases hq<;>simp[Builtin.copy_,run_underlying hu,sizeOf,typeInfo,ad,Builtin.lenOf,Builtin.firstCells,loadCells,loadCellsFrom,storeCells]
        ·rw[show ({al with es:=[]++al.es.drop ([]:List (List aH)).length}:a8)=al from rfl,RL ei bs];exact h
       ·obtain⟨eU,off,rfl,jC⟩:=MS.resolve_left h0
        obtain⟨vs,v1,v2,v3,v4⟩:=jC.pn;rw[<- fA] at v1;rcases ab.xQ (jq an) with ⟨-,-,rfl,-⟩|⟨b,M,hq,lC,ah,rfl,tv,vt,et,nF⟩
        ·exact absurd (Nat.le_zero.1 ja) h0
        ·have Fz:hq=some ⟨b,0,none⟩:=by
          rcases nF with c0|c0
          ·exact absurd (show bL.length=0 by omega) h0
          ·simpa using c0
         subst Fz
         obtain⟨cJ,nW,bo,cq,kx,r8,qa,-⟩:=h.putAt (p:=0) ei an ps ah (fun x ab=>by rw[hlen x ab,fA]) v1 v3 v4 (by omega) al.es.length (ht:=bL++al.es.drop bL.length)
          (by rw[List.take_zero,List.nil_append,dG];exact(List.take_of_length_le (by simp;omega)).symm)
         simp only[Nat.zero_mul,dG,List.take_zero,List.nil_append] at r8 qa;have aX:=run_firstCells_some (P:=P) w i.size bL.length ⟨eU,off,none⟩ bL.length c vs (by rw[v1,fA]) v2;have nD:=run_storeCells_at P b 0 nW vs 0 cJ w bo (by simpa using r8) v3;simp only[Nat.add_zero,List.take_zero,List.nil_append,dG] at nD;refine⟨bL.length,_,?_,qa,rfl⟩;simp[Builtin.copy_,run_underlying hu,sizeOf,typeInfo,ad,Builtin.lenOf,Nat.min_eq_left ja,aX,nD]
      ·simp at ay
theorem acE (h:c8 g s aF a w){r k len:Nat}{tI:Value}{t fp:TypeId}{c2:gj}(ay:pq P s.E s.a2 a4 .clear [.bk r k 0 len] [t] c2=some bF)(cR:∀p∈bF.f7,p)
 (ab:Rel w (s.ok g aF w) s.bh (s.bm aF) (.bk r k 0 len) tI) :
 ∃bV,(Builtin.clear_ #[t] fp #[tI]).run P w = .ok (.tuple #[]) bV/\c8 g (s.jh bF.gE) aF a bV/\bF.val = .dX []:=by
 simp only[pq] at ay;split at ay
 ·simp at ay
 ·rename_i e he
  have hu:=tZ he;split at ay
  ·rename_i i z ad cC
   split at ay
   ·simp at ay
   ·rename_i row ei
    split at ay
    ·simp at ay
    ·rename_i al bs
     split at ay
     ·rename_i yO
      obtain⟨ps,fA,oW,kO⟩:=yO;simp only[dB] at ay;subst ay;have an:s.al r k=some al:=(by unfold S.al;rw[ei];exact bs);have hle:al.es.length=len:=cR _ (by simp);show ∃bV,_/\c8 g (s.setRow r (row.set k {al with es:=List.replicate len z})) aF a bV/\_;by_cases h0:len=0
      ·subst h0
       refine⟨w,?_,?_,rfl⟩
       ·rcases ab.xQ (jq an) with ⟨-,-,-,rfl⟩|⟨b,M,hq,lC,-,rfl,-,-,-,-⟩
        ·simp[Builtin.clear_,run_underlying hu]
        ·cases hq<;>simp[Builtin.clear_,run_underlying hu]
       ·rw[show ({al with es:=List.replicate 0 z}:a8)=al by rw[List.replicate_zero,<- List.length_eq_zero_iff.1 hle],RL ei bs];exact h
      ·obtain⟨fk,ff,lS,lR,r7,wH⟩:=D1 cC
       rw[ad] at lS;simp at lS;subst lS;have mZ:ff.cells.size=i.size:=(by rw[<- oW,r7];simp);rcases ab.xQ (jq an) with ⟨-,-,rfl,-⟩|⟨b,M,hq,lC,ah,rfl,tv,vt,et,nF⟩
       ·exact absurd rfl h0
       ·have Fz:hq=some ⟨b,0,none⟩:=by
         rcases nF with c0|c0
         ·exact absurd (show len=0 by omega) h0
         ·simpa using c0
        subst Fz;obtain⟨v1,v3,v4⟩:=abV (e:=e) mZ oW kO wH len;rw[<- fA] at v1
        obtain⟨cJ,nW,bo,cq,kx,r8,qa,-⟩:=h.putAt (p:=0) (bL:=List.replicate len z) ei an ps ah (fun x ab=>by rw[List.mem_replicate] at ab;rw[ab.2,oW,fA]) (by simpa using v1) v3 (fun j x u h1 o=>v4 j x u h1 o _ _ _ _)
         (by simp;omega) len (ht:=List.replicate len z)
         (by simp[hle])
        simp only[Nat.zero_mul,dG,List.take_zero,List.nil_append] at r8 qa;have nD:=run_storeCells_at P b 0 nW (Builtin.zeroCells ff.cells len).toList 0 cJ w bo (by simpa using r8) v3;simp only[Nat.add_zero,List.take_zero,List.nil_append,dG] at nD;refine⟨_,?_,qa,rfl⟩
        cases len with
        | zero=>exact absurd rfl h0
        | succ n=>simp[Builtin.clear_,run_underlying hu,zeroValue,typeInfo,ad,lR,nD]
     ·simp at ay
  ·simp at ay
end
section
variable {g:G} {s:S} {aF:ga} {a:Act} {w:World}
def m5 (row:List a8):List a8:=row.map fun I=>if I.cN = .live then {I with cN:= .jH} else I
theorem Tb (row:List a8)(k:Nat):d5 (some (m5 row)) k=(d5 (some row) k).map fun I=>if I.cN = .live then {I with cN:= .jH} else I:=by
 simp only[d5,m5,dJ]
 cases row[k]? with
 | none=>rfl
 | some I =>
  obtain⟨sz,es,cN⟩:=I;cases cN<;>simp
theorem c8.freeze (h:c8 g s aF a w){r:Nat}{row:List a8}(ai:s.a2 r=some row):c8 g (s.setRow r (m5 row)) aF a w:=by
 have bs : ∀q k I,(s.setRow r (m5 row)).al q k=some I-> ∃p,s.al q k=some p/\I.sz=p.sz/\I.es=p.es/\(I.cN = .live->p.cN = .live/\q≠r):=by
  intro q k I an;by_cases e:q=r
  ·subst e;have:(s.setRow q (m5 row)).a2 q=some (m5 row):=(by simp[S.setRow]);unfold S.al at an;rw[this,Tb] at an;rw[Option.map_eq_some_iff] at an;obtain⟨p,ah,rfl⟩:=an;refine⟨p,by unfold S.al;rw[ai];exact ah,?_⟩;split<;>simp_all
  ·have:(s.setRow r (m5 row)).a2 q=s.a2 q:=(by simp[S.setRow,e]);unfold S.al at an;rw[this] at an;exact⟨I,an,rfl,rfl,fun aX=>⟨aX,e⟩⟩
 have kr : ∀q k,s.bh q k->(s.setRow r (m5 row)).bh q k:=GW s ai (by simp[m5])
 have mz : ∀q k,(s.setRow r (m5 row)).bm aF q k=s.bm aF q k:=by
  intro q k;by_cases e:q=r
  ·subst e
   simp only[S.bm,S.al];have:(s.setRow q (m5 row)).a2 q=some (m5 row):=(by simp[S.setRow]);rw[this,Tb,ai]
   cases d5 (some row) k with
   | none=>rfl
   | some I=>simp only[Option.map_some,dB,dD,and_true];split<;>rfl
  ·have:(s.setRow r (m5 row)).a2 q=s.a2 q:=(by simp[S.setRow,e]);simp[S.bm,S.al,this]
 have c1:Step g s aF w (s.setRow r (m5 row)) aF w:=⟨kr,fun q k _=> .inl (mz q k),fun b aX=>by obtain⟨q,k,I,m,h1,o,U⟩:=aX;obtain⟨p,p1,hM,p9,Gi⟩:=bs q k I h1;exact .inl ⟨q,k,p,m,p1,(Gi o).1,U⟩,fun _ _ _=>rfl,dE _⟩;refine {tojt:=⟨?_,?_,?_,h.hY,h.mlt,h.oU,?_,h.low⟩,env:=fun t=>c1.rel (h.env t),defers:=h.defers,kP:=h.kP}
 ·intro q k I an
  obtain⟨p,p1,hM,p9,-⟩:=bs q k I an;have ah:=c1.obj (fun b m _=>rfl) (h.obj q k p p1)
  cases m2:aF q k with
  | none=>rw[m2] at ah;simp only[kd] at ah ⊢;rw[p9];exact ah
  | some x =>
   obtain⟨b,m⟩:=x;rw[m2] at ah;obtain⟨c,fp,e1,aB,bP,dd⟩:=ah;exact⟨c,fp,e1,aB,by rw[hM,p9];exact bP,by rw[p9];exact dd⟩
 ·intro q k I iR ey ck b m aJ h1 o U ak;obtain⟨p,p1,-⟩:=bs q k I h1;obtain⟨lo,ag4,-⟩:=bs iR ey ck o;exact h.inj q k p iR ey lo b m aJ p1 ag4 U ak
 ·intro q k I b m h1 o;obtain⟨p,p1,-⟩:=bs q k I h1;exact h.own q k p b m p1 o
 ·intro j k av;obtain⟨e1,aB⟩:=h.stay j k av;exact⟨kr j k e1,by rw[mz];exact aB⟩
end
def BO (P:Program)(t:TypeId):Bool :=
 match P.underlying t with
 | some (.pointer _)=>true
 | _=>false
def Co (P:Program)(E:Nat->aH)(a2:Nat->Option (List a8))(a4:Nat)(I:Oper)(c2:gj):Option iQ :=
 match I.op with
 | .call {callee:= .builtin b,args,argTypes}=>match b with
  | .len=>fw P E a2 a4 I c2
  | b=>pq P E a2 a4 b (args.toList.map (ft E)) argTypes.toList c2
 | .binOp op t x y _=>match c2,op,ft E x,ft E y with
  | .e5,.eql,.isl _ es,.f6=>if (rH P t).isSome then some {val:= .b false,f7:=[es≠[]]} else none
  | .e5,.neq,.isl _ es,.f6=>if (rH P t).isSome then some {val:= .b true,f7:=[es≠[]]} else none
  | .e5,.eql,.hE _ none,.js=>if BO P t then some {val:= .b true} else none
  | .e5,.neq,.hE _ none,.js=>if BO P t then some {val:= .b false} else none
  | .e5,.eql,.hE _ (some _),.js=>if BO P t then some {val:= .b false} else none
  | .e5,.neq,.hE _ (some _),.js=>if BO P t then some {val:= .b true} else none
  | .e5,_,_,_=>none
  | _,_,_,_=>fw P E a2 a4 I c2
 | .nilCheck x=>match c2,ft E x with
  | .e5,.hE sz (some c)=>some {val:= .fa sz [c] 0 0}
  | .e5,_=>none
  | _,_=>fw P E a2 a4 I c2
 | _=>fw P E a2 a4 I c2
section
variable {P:Program} {g:G} {s:S} {aF:ga} {a:Act} {w:World} {I:Oper} {c2:gj} {a4:Nat} {bF:iQ}
theorem HE {args:Array Operand}{E:Nat->aH}{x y:aH}(h:args.toList.map (ft E)=[x,y]): ∃p q,args = #[p,q]/\ft E p=x/\ft E q=y:=by
 obtain⟨l⟩:=args
 match l,h with
 | [p,q],h=>simp at h;exact⟨p,q,rfl,h.1,h.2⟩
theorem aex {args:Array Operand}{E:Nat->aH}{x:aH}(h:args.toList.map (ft E)=[x]): ∃p,args = #[p]/\ft E p=x:=by
 obtain⟨l⟩:=args
 match l,h with
 | [p],h=>simp at h;exact⟨p,rfl,h⟩
theorem Hf {t:TypeId}(h:BO P t=true): ∃e,P.underlying t=some (.pointer e):=by
 unfold BO at h;split at h
 ·rename_i e he;exact⟨e,he⟩
 ·simp at h
theorem acF (h:c8 g s aF a w)(fB:s.a2 a4=none)(ay:Co P s.E s.a2 a4 I c2=some bF)(cR:∀p∈bF.f7,p):Fin P g s a w I bF:=by
 unfold Co at ay;split at ay
 ·rename_i b args om an
  split at ay
  ·exact He h fB ay cR
  ·rename_i b aU
   unfold pq at ay;split at ay
   ·rename_i x y t cF m NL hargs pN;have yr:pq P s.E s.a2 a4 .append [x,y] [t,cF] (.aG m NL)=some bF:=ay;obtain⟨p,q,rfl,rfl,rfl⟩:=HE hargs;obtain⟨l⟩:=om;simp only at pN;subst pN;obtain⟨v,bV,bY,h1,o,U⟩:=abU (fp:=I.type) h fB yr cR (h.eval p) (h.eval q);exact⟨v,bV,bY,.inl (by simp[execOp,an,resolve,invoke,builtin,h1]),o,U⟩
   ·rename_i x y t cF hargs pN;have yr:pq P s.E s.a2 a4 .append [x,y] [t,cF] .e5=some bF:=ay;obtain⟨p,q,rfl,rfl,rfl⟩:=HE hargs;obtain⟨l⟩:=om;simp only at pN;subst pN;obtain⟨v,bV,h1,o,U⟩:=aew (fp:=I.type) h yr cR (h.eval p) (h.eval q);exact⟨v,bV,aF,.inl (by simp[execOp,an,resolve,invoke,builtin,h1]),o,U⟩
   ·rename_i c2 r k len y t cF hargs pN;have yr:pq P s.E s.a2 a4 .copy [.bk r k 0 len,y] [t,cF] c2=some bF:=ay;obtain⟨p,q,rfl,ah,rfl⟩:=HE hargs;obtain⟨l⟩:=om;simp only at pN;subst pN;have ab:=h.eval p;rw[ah] at ab;obtain⟨n,bV,h1,o,U⟩:=adE (fp:=I.type) h yr cR ab (h.eval q);refine⟨goInt n,bV,aF,.inl (by simp[execOp,an,resolve,invoke,builtin,h1]),o,?_⟩;rw[U];exact .n _ _
   ·rename_i c2 r k len t hargs pN;have yr:pq P s.E s.a2 a4 .clear [.bk r k 0 len] [t] c2=some bF:=ay;obtain⟨p,rfl,ah⟩:=aex hargs;obtain⟨l⟩:=om;simp only at pN;subst pN;have ab:=h.eval p;rw[ah] at ab;obtain⟨bV,h1,o,U⟩:=acE (fp:=I.type) h yr cR ab;refine⟨.tuple #[],bV,aF,.inl (by simp[execOp,an,resolve,invoke,builtin,h1]),o,?_⟩;rw[U];exact .dX [] rfl (fun j x u av=>by simp at av)
   ·rename_i k x ey y hargs
    split at ay
    ·rename_i aY;simp only[dB] at ay;subst ay;subst aY;obtain⟨p,q,rfl,ah,a5⟩:=HE hargs;have ab:=h.eval p;have a1:=h.eval q;rw[ah] at ab;rw[a5] at a1;refine jf (v:= .int k (if y<x then y else x)) h ?_ rfl (.n _ _);simp[execOp,an,resolve,invoke,builtin,Builtin.min_,ab.pK,a1.pK,Builtin.min2]
    ·simp at ay
   ·simp at ay
 ·rename_i op t x y cF an
  split at ay
  ·rename_i sz es ab a1
   split at ay
   ·rename_i he;obtain⟨e,he⟩:=Option.isSome_iff_exists.1 he;simp only[dB] at ay;subst ay;have h1:=h.eval x;have o:=h.eval y;rw[ab] at h1;rw[a1] at o;have c6:es≠[]:=cR _ (by simp);refine jf (v:= .bool false) h ?_ rfl (.b _);simp only[execOp,an];rw[Sem.run_bind,(Un (w:=w) (tZ he) c6 h1 o x y).1];rfl
   ·simp at ay
  ·rename_i sz es ab a1
   split at ay
   ·rename_i he;obtain⟨e,he⟩:=Option.isSome_iff_exists.1 he;simp only[dB] at ay;subst ay;have h1:=h.eval x;have o:=h.eval y;rw[ab] at h1;rw[a1] at o;have c6:es≠[]:=cR _ (by simp);refine jf (v:= .bool true) h ?_ rfl (.b _);simp only[execOp,an];rw[Sem.run_bind,(Un (w:=w) (tZ he) c6 h1 o x y).2];rfl
   ·simp at ay
  ·rename_i sz ab a1
   split at ay
   ·rename_i cf;obtain⟨e,he⟩:=Hf cf;simp only[dB] at ay;subst ay;have h1:=h.eval x;have o:=h.eval y;rw[ab] at h1;rw[a1] at o;have sQ:Rel w (s.ok g aF w) s.bh (s.bm aF) .js (a.eval x):=(by rw[h1.S8];exact .js);refine jf (v:= .bool true) h ?_ rfl (.b _);simp only[execOp,an];rw[Sem.run_bind,(Bx (w:=w) (r:=true) (by simp[us,he]) sQ o x y).1];rfl
   ·simp at ay
  ·rename_i sz ab a1
   split at ay
   ·rename_i cf;obtain⟨e,he⟩:=Hf cf;simp only[dB] at ay;subst ay;have h1:=h.eval x;have o:=h.eval y;rw[ab] at h1;rw[a1] at o;have sQ:Rel w (s.ok g aF w) s.bh (s.bm aF) .js (a.eval x):=(by rw[h1.S8];exact .js);refine jf (v:= .bool false) h ?_ rfl (.b _);simp only[execOp,an];rw[Sem.run_bind,(Bx (w:=w) (r:=true) (by simp[us,he]) sQ o x y).2];rfl
   ·simp at ay
  ·rename_i sz c ab a1
   split at ay
   ·rename_i cf;obtain⟨e,he⟩:=Hf cf;simp only[dB] at ay;subst ay;have h1:=h.eval x;have o:=h.eval y;rw[ab] at h1;rw[a1] at o;refine jf (v:= .bool false) h ?_ rfl (.b _);simp only[execOp,an];rw[Sem.run_bind,(Bx (w:=w) (r:=false) (by simp[us,he]) h1.Lj o x y).1];rfl
   ·simp at ay
  ·rename_i sz c ab a1
   split at ay
   ·rename_i cf;obtain⟨e,he⟩:=Hf cf;simp only[dB] at ay;subst ay;have h1:=h.eval x;have o:=h.eval y;rw[ab] at h1;rw[a1] at o;refine jf (v:= .bool true) h ?_ rfl (.b _);simp only[execOp,an];rw[Sem.run_bind,(Bx (w:=w) (r:=false) (by simp[us,he]) h1.Lj o x y).2];rfl
   ·simp at ay
  ·simp at ay
  ·exact He h fB ay cR
 ·rename_i x an
  split at ay
  ·rename_i sz c ab;simp only[dB] at ay;subst ay;have h1:=h.eval x;rw[ab] at h1;have o:=h1.Lj;obtain⟨eU,off,aU,hval,jC⟩:=o.BF;refine jf (v:=a.eval x) h ?_ rfl o;rw[hval];simp only[execOp,an,hval];rfl
  ·simp at ay
  ·exact He h fB ay cR
 ·exact He h fB ay cR
end
theorem uO {es:List (List aH)}{j:Nat}{x:aH}(h:es.flatten[j]? = some x): ∃e∈es,x∈e:=by have:=dH h;rw[List.mem_flatten] at this;obtain⟨e,he,ab⟩:=this;exact⟨e,he,ab⟩
theorem Rel.pure {w:World}{ok l6:Nat->Prop}{bh ol:kk}{bm nA:j6}{x:aH}{v:Value}(h:Rel w ok bh bm x v)(ah:Pure x)(nB:∀b,ok b->l6 b):Rel w l6 ol nA x v:=by
 induction h with
 | dead v=>exact .dead v
 | b x=>exact .b x
 | n k x=>exact .n k x
 | s x=>exact .s x
 | js=>exact .js
 | f6=>exact .f6
 | jS a c=>exact .jS a c
 | rB=>cases ah
 | ref=>cases ah
 | oM=>cases ah
 | o7=>cases ah
 | bk=>cases ah
 | og=>cases ah
 | pj=>cases ah
 | lj sz a c h=>exact .lj sz a c h
 | isl cs aU mh aX a3 hw jI ai ih =>
  cases ah with
  | isl h=>exact .isl cs (nB _ aU) mh aX a3 hw jI fun j x ab=>ih j x ab (by obtain⟨e,he,sR⟩:=uO ab;exact h e he x sR)
 | fa cs aU mh aX hw jI ai ih =>
  cases ah with
  | fa h=>exact .fa cs (nB _ aU) mh aX hw jI fun j x ab=>ih j x ab (by obtain⟨e,he,sR⟩:=uO ab;exact h e he x sR)
 | q8 sz=>exact .q8 sz
 | qw h ih =>
  cases ah with
  | qw ah=>exact .qw (ih (.fa fun e he x ab=>by rw[List.mem_singleton] at he;subst he;exact ah x ab))
 | agg vs aX jI ai ih =>
  cases ah with
  | agg h=>exact .agg vs aX jI fun j x v ab bg=>ih j x v ab bg (h x (dH ab))
 | dX vs aX ai ih =>
  cases ah with
  | dX h=>exact .dX vs aX fun j x v ab bg=>ih j x v ab bg (h x (dH ab))
 | fn vs aX ai ih =>
  cases ah with
  | fn h=>exact .fn vs aX fun j x v ab bg=>ih j x v ab bg (h x (dH ab))
abbrev hQ:=Nat->Nat->Option (Nat×Nat)
structure Down (q:aH->Prop):Prop where
 agg : ∀c x,q (.agg c)->x∈c->q x
 dX : ∀c x,q (.dX c)->x∈c->q x
 fn : ∀f c x,q (.fn f c)->x∈c->q x
inductive iT (s:S) (a6:hQ) (bN:hh->Bool) (q:aH->Prop):aH->aH->Prop
 | dead (x:aH):iT s a6 bN q x .dead
 | pure {x:aH} (h:Pure x) (a5:q x):iT s a6 bN q x x
 | f6 (sz:Nat):iT s a6 bN q .f6 (.isl sz [])
 | jS (sz:Nat):iT s a6 bN q .jS (.isl sz [])
 | H9 (sz:Nat):iT s a6 bN q .js (.hE sz none)
 | hE {sz:Nat} {x:aH} {c:List aH} (h:iT s a6 bN q x (.fa sz [c] 0 0)):iT s a6 bN q x (.hE sz (some c))
 | ref {r k j fk:Nat} (i off:Nat) (h:a6 j fk=some (r,k)) (hu:s.bh r k):iT s a6 bN q (.ref r k i off) (.ref j fk i off)
 | bk {r k j fk:Nat} (b3 len:Nat) (h:a6 j fk=some (r,k)) (hu:s.bh r k):iT s a6 bN q (.bk r k b3 len) (.bk j fk b3 len)
 | og (r c sz:Nat):iT s a6 bN q (.jT r c sz none) (.isl sz [])
 | pj {r c sz k n:Nat} {c7:aH} (h:iT s a6 bN q (.bk r (k+c) 0 n) c7):iT s a6 bN q (.jT r c sz (some (k,n))) c7
 | jT {r fq c eJ sz:Nat} (h:Option (Nat×Nat)) (hm : ∀k,a6 fq (k+eJ)=some (r,k+c)):iT s a6 bN q (.jT r c sz h) (.jT fq eJ sz h)
 | fa {r k:Nat} {I:a8} {ht:List (List aH)} (i off:Nat) (an:s.al r k=some I) (bI:bN I.cN=true) (ai:(∀j i,a6 j i≠some (r,k))) (c6:I.es≠[]) (ah:i7 ht) (hle : ∀e∈ht,e.length=I.sz) (aX:ht.length=I.es.length)
  (h : ∀(j:Nat) x c7,I.es.flatten[j]? = some x->ht.flatten[j]? = some c7->iT s a6 bN q x c7):iT s a6 bN q (.ref r k i off) (.fa I.sz ht i off)
 | isl {r k b3 len:Nat} {I:a8} {ht:List (List aH)} (an:s.al r k=some I) (bI:bN I.cN=true) (ai:(∀j i,a6 j i≠some (r,k))) (ja:b3+len<=I.es.length) (ah:i7 ht) (hle : ∀e∈ht,e.length=I.sz) (aX:ht.length=len)
  (h : ∀(j:Nat) x c7,((I.es.drop b3).take len).flatten[j]? = some x->ht.flatten[j]? = some c7->iT s a6 bN q x c7):iT s a6 bN q (.bk r k b3 len) (.isl I.sz ht)
 | agg {c eJ:List aH} (aX:eJ.length=c.length) (h : ∀(j:Nat) x c7,c[j]? = some x->eJ[j]? = some c7->iT s a6 bN q x c7):iT s a6 bN q (.agg c) (.agg eJ)
 | dX {c eJ:List aH} (aX:eJ.length=c.length) (h : ∀(j:Nat) x c7,c[j]? = some x->eJ[j]? = some c7->iT s a6 bN q x c7):iT s a6 bN q (.dX c) (.dX eJ)
 | fn {f:Nat} {c eJ:List aH} (aX:eJ.length=c.length) (h : ∀(j:Nat) x c7,c[j]? = some x->eJ[j]? = some c7->iT s a6 bN q x c7):iT s a6 bN q (.fn f c) (.fn f eJ)
theorem tO {sz:Nat}: ∀(es:List (List aH)),(∀e∈es,e.length=sz)->es.flatten.length=es.length*sz
 | [],_=>by simp
 | e::es,h=>by rw[List.flatten_cons,dF,tO es fun x ab=>h x (by simp[ab]),h e (by simp),List.length_cons,Nat.add_mul];omega
theorem gB {α:Type}{l:List α}{j:Nat}{x:α}(h:l[j]? = some x):j<l.length:=by
 rcases Nat.lt_or_ge j l.length with c0|c0
 ·exact c0
 ·rw[List.getElem?_eq_none c0] at h;simp at h
theorem iT.rel {g:G}{s:S}{aF:ga}{w:World}{a6:hQ}{bN:hh->Bool}{q:aH->Prop}(et:jt g s aF w){l6:Nat->Prop}{ol:kk}{nA:j6}
 (H1 : ∀x v,q x->Pure x->Rel w (s.ok g aF w) s.bh (s.bm aF) x v->Rel w l6 ol nA x v)
 (Je : ∀r k I b m,s.al r k=some I->bN I.cN=true->(∀j i,a6 j i≠some (r,k))->aF r k=some (b,m)->l6 b)
 (Gj : ∀j i r k,a6 j i=some (r,k)->s.bh r k->ol j i/\(nA j i=s.bm aF r k\/nA j i=none)) {x c7:aH} (bK:iT s a6 bN q x c7) :
 ∀ {v:Value},Rel w (s.ok g aF w) s.bh (s.bm aF) x v->Rel w l6 ol nA c7 v:=by
 induction bK with
 | dead x=>intro v _;exact .dead v
 | pure ah a5=>intro v ai;exact H1 _ v a5 ah ai
 | f6 sz=>intro v ai;rw[ai.ry];exact .lj sz none 0 (fun _=>rfl)
 | jS sz=>intro v ai;obtain⟨a,c,rfl⟩:=ai.HC;exact .lj sz (some a) c (fun h=>by simp at h)
 | H9 sz=>intro v ai;rw[ai.xP];exact .q8 sz
 | hE h ih=>intro v ai;exact .qw (ih ai)
 | @ref r k j fk i off av hu =>
  intro v ai;obtain⟨h1,o⟩:=Gj j fk r k av hu
  cases ai with
  | rB a pV aS =>
   refine .rB a h1 fun sz p=> ?_;rcases o with e|e<;>rw[e]
   ·exact aS sz p
   ·simp
  | ref pV cf =>
   rcases o with e|e
   ·exact .ref h1 (e.trans cf)
   ·exact .rB _ h1 fun sz p=>by rw[e];simp
 | @bk r k j fk b3 len av hu =>
  intro v ai;obtain⟨h1,o⟩:=Gj j fk r k av hu
  cases ai with
  | oM a l c pV aS =>
   refine .oM a l c h1 ?_;rcases o with e|e<;>rw[e];exact aS
  | o7 pV cf =>
   rcases o with e|e
   ·exact .o7 h1 (e.trans cf)
   ·exact .oM _ _ _ h1 e
  | bk pV cf aX a3 hm =>
   rcases o with e|e
   ·exact .bk h1 (e.trans cf) aX a3 hm
   ·exact .oM _ _ _ h1 e
 | og r c sz =>
  intro v ai
  cases ai with
  | og h0 =>
   rcases h0.u1 with ⟨-,a,c,rfl,bI⟩|⟨eU,off,c,-,rfl,-⟩
   ·exact .lj sz a c bI
   ·exact .lj sz _ c (fun h=>by simp at h)
 | pj h ih =>
  intro v ai
  cases ai with
  | pj h0=>exact ih h0
 | @jT r fq c eJ sz h hm =>
  intro v ai
  cases ai with
  | og h0 =>
   rcases h0.u1 with ⟨-,a,c,rfl,bI⟩|⟨eU,off,c,-,rfl,-⟩
   ·exact .og (.lj sz a c bI)
   ·exact .og (.lj sz _ c (fun h=>by simp at h))
  | @pj _ _ _ k n _ h0 =>
   refine .pj ?_
   cases h0 with
   | oM a l bo pV aS =>
    obtain⟨h1,o⟩:=Gj _ _ _ _ (hm k) pV;refine .oM a l bo h1 ?_;rcases o with e|e<;>rw[e];exact aS
   | o7 pV cf =>
    obtain⟨h1,o⟩:=Gj _ _ _ _ (hm k) pV;rcases o with e|e
    ·exact .o7 h1 (e.trans cf)
    ·exact .oM _ _ _ h1 e
   | bk pV cf aX a3 nF =>
    obtain⟨h1,o⟩:=Gj _ _ _ _ (hm k) pV;rcases o with e|e
    ·exact .bk h1 (e.trans cf) aX a3 nF
    ·exact .oM _ _ _ h1 e
 | @fa r k I ht i off an bI ai c6 MV hle aX h ih =>
  intro v bg;have fZ:=et.obj r k I an;rcases bg.x2 (jq an) with h0|⟨b,m,ah,hval⟩
  ·rw[h0] at fZ;exact absurd fZ c6
  ·rw[ah] at fZ;have jC:=fZ.rd;rw[hval];have kQ:ht.flatten.length=I.es.flatten.length:=(by rw[tO ht hle,tO I.es jC.1,aX]);have yG:p8 w l6 ol nA b 0 I.sz ht:=(by refine⟨hle,fun j c7 ex=> ?_⟩;have ez:j<I.es.flatten.length:=(by rw[<- kQ];exact gB ex);have ab:I.es.flatten[j]? = some I.es.flatten[j]:=dz ez;obtain⟨u,e1,aB,bP⟩:=jC.2 j _ ab;exact⟨u,e1,aB,ih j _ c7 ab ex bP⟩);have:=yG.fa (i:=i) (off:=off) ⟨Je r k I b m an bI ai ah,MV⟩;rw[dG] at this;exact this
 | @isl r k b3 len I ht an bI ai ja MV hle aX h ih =>
  intro v bg;have fZ:=et.obj r k I an;rcases bg.Ek (jq an) with ⟨ah,rfl,rfl,hval⟩|⟨b,m,A,c,ah,hval,tv,vt,hm⟩
  ·have:ht=[]:=List.length_eq_zero_iff.1 aX;subst this;rw[hval];exact .lj _ none 0 (fun _=>rfl)
  ·rw[ah] at fZ
   rw[hval];rcases Nat.eq_zero_or_pos len with h0|kO
   ·subst h0;have:ht=[]:=List.length_eq_zero_iff.1 aX;subst this;exact .lj _ A c (fun aS=>by rcases hm with h1|⟨h1,-⟩<;>simp_all)
   ·rcases hm with hm|⟨hA,hm⟩
    ·omega
    ·subst hA;have jC:=GX fZ.rd b3 len (by omega);rw[dG] at jC;have kQ:ht.flatten.length=((I.es.drop b3).take len).flatten.length:=(by rw[tO ht hle,tO _ jC.1,aX,List.length_take,List.length_drop,Nat.min_eq_left (by omega)]);have yG:p8 w l6 ol nA b (b3*I.sz) I.sz ht:=(by refine⟨hle,fun j c7 ex=> ?_⟩;have ez:j<((I.es.drop b3).take len).flatten.length:=(by rw[<- kQ];exact gB ex);have ab:=dz ez;obtain⟨u,e1,aB,bP⟩:=jC.2 j _ ab;exact⟨u,e1,aB,ih j _ c7 ab ex bP⟩);have:=yG.isl (c:=c) ⟨Je r k I b m an bI ai ah,MV⟩ (by omega);rw[aX] at this;exact this
 | @agg c eJ aX h ih =>
  intro v bg;obtain⟨vs,rfl,h1,o,U⟩:=bg.BD;refine .agg vs (by omega) o fun j c7 u ex hu=> ?_;have ez:j<c.length:=(by have:=gB ex;omega);exact ih j _ c7 (dz ez) ex (U j _ u (dz ez) hu)
 | @dX c eJ aX h ih =>
  intro v bg;obtain⟨vs,rfl,h1,U⟩:=bg.BE;refine .dX vs (by omega) fun j c7 u ex hu=> ?_;have ez:j<c.length:=(by have:=gB ex;omega);exact ih j _ c7 (dz ez) ex (U j _ u (dz ez) hu)
 | @fn f c eJ aX h ih =>
  intro v bg;obtain⟨vs,rfl,h1,U⟩:=bg.HW;refine .fn vs (by omega) fun j c7 u ex hu=> ?_;have ez:j<c.length:=(by have:=gB ex;omega);exact ih j _ c7 (dz ez) ex (U j _ u (dz ez) hu)
structure pW (s:S) (a6:hQ) (bN:hh->Bool) (q:aH->Prop) (I ck:a8):Prop where
 sz:ck.sz=I.sz
 cN:ck.cN=I.cN\/(ck.cN = .jH/\I.cN = .live)\/ck.cN = .gone
 len:ck.es.length=I.es.length
 each : ∀e∈ck.es,e.length=I.sz
 at_ : ∀(j:Nat) x c7,I.es.flatten[j]? = some x->ck.es.flatten[j]? = some c7->iT s a6 bN q x c7
structure rV (s:S) (a6:hQ) (bN:hh->Bool) (q:aH->Prop) (iE:Nat->Option (List a8)):Prop where
 inj : ∀j i jc fk p,a6 j i=some p->a6 jc fk=some p->j=jc/\i=fk
 at_ : ∀j i ck,d5 (iE j) i=some ck-> ∃r k I,a6 j i=some (r,k)/\s.al r k=some I/\pW s a6 bN q I ck
 bh : ∀j i r k,a6 j i=some (r,k)->s.bh r k->i<((iE j).getD []).length
def kR (aF:ga)(a6:hQ):ga:=fun j i=>match a6 j i with
 | some (r,k)=>aF r k
 | none=>none
theorem BP {aF:ga}{a6:hQ}{j i r k:Nat}(h:a6 j i=some (r,k)):kR aF a6 j i=aF r k:=by simp[kR,h]
def nd (_:aH):Prop:=True
theorem afT:Down nd:=⟨fun _ _ _ _=>trivial,fun _ _ _ _=>trivial,fun _ _ _ _ _=>trivial⟩
section
variable {g:G} {s:S} {aF:ga} {w:World} {a6:hQ} {bN:hh->Bool} {q:aH->Prop} {b4:S}
theorem rV.al (h:rV s a6 bN q b4.a2){j i:Nat}{ck:a8}(an:b4.al j i=some ck): ∃r k I,a6 j i=some (r,k)/\s.al r k=some I/\pW s a6 bN q I ck:=h.at_ j i ck an
theorem TN {I ck:a8}(h:pW s a6 bN q I ck)(aX:ck.cN = .live):I.cN = .live:=by
 rcases h.cN with e|⟨e,-⟩|e
 ·exact e.symm.trans aX
 ·rw[e] at aX;simp at aX
 ·rw[e] at aX;simp at aX
theorem rV.live (h:rV s a6 bN q b4.a2)(b:Nat)(aX:b4.m4 (kR aF a6) b): ∃r k I m,s.al r k=some I/\I.cN = .live/\aF r k=some (b,m)/\ ∃j i,a6 j i=some (r,k):=by obtain⟨j,i,ck,m,h1,o,U⟩:=aX;obtain⟨r,k,I,e1,aB,bP⟩:=h.al h1;rw[BP e1] at U;exact⟨r,k,I,m,aB,TN bP o,U,j,i,e1⟩
theorem rV.IJ (h:rV s a6 bN q b4.a2){j i r k:Nat}(av:a6 j i=some (r,k)):b4.bm (kR aF a6) j i=s.bm aF r k\/b4.bm (kR aF a6) j i=none:=by
 cases an:b4.al j i with
 | none=>right;simp[S.bm,an]
 | some ck =>
  obtain⟨fq,ey,I,e1,aB,bP⟩:=h.al an;rw[av] at e1;simp only[dB,dD] at e1;obtain⟨rfl,rfl⟩:=e1;left;rw[jq an,jq aB,bP.sz,BP av]
theorem jt.NM (et:jt g s aF w)(h:rV s a6 bN q b4.a2){gT:G}(aY:EY gT w)(EG:∀j k,gT.qC j k->b4.bh j k/\(b4.bm (kR aF a6) j k=gT.tu j k\/b4.bm (kR aF a6) j k=none))(yI:∀j k,gT.qC j k->j<gT.m)
 (agp : ∀b,gT.rj b->b<gT.n8.heap.size) (halt : ∀b,gT.A b->b<gT.n8.heap.size)
 (Mv : ∀r k I b m,(∃j i,a6 j i=some (r,k))->s.al r k=some I->aF r k=some (b,m)->gT.n8.heap.size<=b\/gT.rj b)
 (H1 : ∀b,s.ok g aF w b->b4.ok gT (kR aF a6) w b)
 (Je : ∀r k I b m,s.al r k=some I->bN I.cN=true->(∀j i,a6 j i≠some (r,k))->aF r k=some (b,m)->b4.ok gT (kR aF a6) w b) :
 jt gT b4 (kR aF a6) w/\ ∀ {x c7:aH} {v:Value},iT s a6 bN q x c7->Rel w (s.ok g aF w) s.bh (s.bm aF) x v->Rel w (b4.ok gT (kR aF a6) w) b4.bh (b4.bm (kR aF a6)) c7 v:=by
 have fZ : ∀ {x c7:aH} {v:Value},iT s a6 bN q x c7->Rel w (s.ok g aF w) s.bh (s.bm aF) x v->Rel w (b4.ok gT (kR aF a6) w) b4.bh (b4.bm (kR aF a6)) c7 v :=
  fun bK ai=>bK.rel et (fun x v _ ah ai=>ai.pure ah H1) Je (fun j i r k av hu=>⟨h.bh j i r k av hu,h.IJ av⟩) ai
 refine⟨⟨?_,?_,?_,aY,agp,halt,EG,yI⟩,fZ⟩
 ·intro j k ck eK
  obtain⟨r,ey,I,e1,aB,bP⟩:=h.al eK;have bs:=et.obj r ey I aB;rw[BP e1]
  cases ah:aF r ey with
  | none =>
   rw[ah] at bs;simp only[kd] at bs ⊢;apply List.length_eq_zero_iff.1;rw[bP.len,bs];rfl
  | some q =>
   obtain⟨b,m⟩:=q;rw[ah] at bs;obtain⟨c,fp,h1,o,U,ak⟩:=bs;have kQ:ck.es.flatten.length=I.es.flatten.length:=(by rw[tO _ bP.each,tO _ U,bP.len]);refine⟨c,fp,h1,o,by rw[bP.sz];exact bP.each,fun i c7 ex=> ?_⟩;have ez:i<I.es.flatten.length:=(by rw[<- kQ];exact gB ex);have ab:=dz ez;obtain⟨u,f1,f2,f3⟩:=ak i _ ab;exact⟨u,f1,f2,fZ (bP.at_ i _ c7 ab ex) f3⟩
 ·intro j k I jc ey ck b m aJ h1 o U ak;obtain⟨r,lX,p,e1,aB,-⟩:=h.al h1;obtain⟨fq,ag5,lo,ot,rc,-⟩:=h.al o;rw[BP e1] at U;rw[BP ot] at ak;obtain⟨rfl,rfl⟩:=et.inj r lX p fq ag5 lo b m aJ aB rc U ak;exact h.inj _ _ _ _ _ e1 ot
 ·intro j k I b m h1 o;obtain⟨r,lX,p,e1,aB,-⟩:=h.al h1;rw[BP e1] at o;exact Mv r lX p b m ⟨j,k,e1⟩ aB o
theorem c8.TO {a:Act}(h:c8 g s aF a w)(di:rV s a6 (fun _=>true) q b4.a2)(eL:∀t,iT s a6 (fun _=>true) q (s.E t) (b4.E t))(E9:∀j k,g.qC j k->a6 j k=some (j,k)):c8 g b4 (kR aF a6) a w:=by
 have hl : ∀b,b4.m4 (kR aF a6) b->s.m4 aF b:=fun b aX=>by obtain⟨r,k,I,m,h1,o,U,-⟩:=di.live b aX;exact⟨r,k,I,m,h1,o,U⟩
 have EG : ∀j k,g.qC j k->b4.bh j k/\(b4.bm (kR aF a6) j k=g.tu j k\/b4.bm (kR aF a6) j k=none):=by
  intro j k av;obtain⟨e1,aB⟩:=h.stay j k av;refine⟨di.bh j k j k (E9 j k av) e1,?_⟩;rcases di.IJ (aF:=aF) (E9 j k av) with e|e
  ·rw[e];exact aB
  ·exact .inr e
 obtain⟨h1,o⟩:=h.tojt.NM di h.hY EG h.low h.mlt h.oU (fun r k I b m _ an ah=>h.own r k I b m an ah)
  (fun b aU=>⟨aU.1,aU.2.1,fun aX=>aU.2.2 (hl b aX)⟩)
  (fun r k I b m an _ ai ah=>by
    have bs:=h.obj r k I an;rw[ah] at bs;obtain⟨c,fp,e1,-⟩:=bs;refine⟨(Array.getElem?_eq_some_iff.1 e1).1,?_,fun aX=> ?_⟩
    ·rcases h.own r k I b m an ah with e|e
     ·exact .inr (.inl e)
     ·exact .inr (.inr e)
    ·obtain⟨fq,ey,ck,aJ,f1,f2,f3,⟨NN,Gk,f4⟩⟩:=di.live b aX;obtain⟨rfl,rfl⟩:=h.inj r k I fq ey ck b m aJ an f1 ah f3;exact ai NN Gk f4)
 exact {tojt:=h1,env:=fun t=>o (eL t) (h.env t),defers:=h.defers,kP:=h.kP}
end
def fG (T:List (List a8)):S:={E:=fun _=> .dead,a2:=fun r=>T[r]?}
def afU (P:Program)(f:FuncId)(args:List aH)(T:List (List a8))(r:aH)(h3:List (List a8)):Prop :=
 ∀(g:G) (aF:ga) (w:World) (vs:Array Value),g.n8=w->g.m=T.length->g.qC=(fG T).bh->g.tu=(fG T).bm aF->jt g (fG T) aF w->vs.size=args.length ->
  (∀(j:Nat) x v,args[j]? = some x->vs[j]? = some v->Rel w ((fG T).ok g aF w) (fG T).bh ((fG T).bm aF) x v) ->
  Calls P f vs w fun e bV=> ∃v bY,e = .returned v/\jt g (fG h3) bY bV/\Rel bV ((fG h3).ok g bY bV) (fG h3).bh ((fG h3).bm bY) r v
inductive b2:aH->Prop
 | dead:b2 .dead
 | b (x:Bool):b2 (.b x)
 | n (k:IntKind) (x:Int):b2 (.n k x)
 | s (x:ByteArray):b2 (.s x)
 | js:b2 .js
 | f6:b2 .f6
 | jS:b2 .jS
 | lj (sz:Nat):b2 (.isl sz [])
 | ref (r k i off:Nat):b2 (.ref r k i off)
 | bk (r k b3 len:Nat):b2 (.bk r k b3 len)
 | jT (r c sz:Nat) (h:Option (Nat×Nat)):b2 (.jT r c sz h)
 | agg {c:List aH} (h : ∀x∈c,b2 x):b2 (.agg c)
 | dX {c:List aH} (h : ∀x∈c,b2 x):b2 (.dX c)
theorem afV:Down b2:=⟨fun _ _ h ab=>by cases h with|agg h=>exact h _ ab,fun _ _ h ab=>by cases h with|dX h=>exact h _ ab,fun _ _ _ h=>by cases h⟩
theorem Rel.fe {w bV:World}{ok l6:Nat->Prop}{bh ol:kk}{bm nA:j6}{x:aH}(bK:b2 x): ∀ {v:Value},Pure x->Rel w ok bh bm x v->Rel bV l6 ol nA x v:=by
 induction bK with
 | dead=>intro v _ h;exact .dead v
 | b x=>intro v _ h;rw[h.wu];exact .b x
 | n k x=>intro v _ h;rw[h.pK];exact .n k x
 | s x=>intro v _ h;rw[h.B0];exact .s x
 | js=>intro v _ h;rw[h.xP];exact .js
 | f6=>intro v _ h;rw[h.ry];exact .f6
 | jS=>intro v _ h;obtain⟨a,c,rfl⟩:=h.HC;exact .jS a c
 | lj sz =>
  intro v _ h;rcases h.u1 with ⟨-,a,c,rfl,bI⟩|⟨eU,off,c,-,rfl,-⟩
  ·exact .lj sz a c bI
  ·exact .lj sz _ c (fun h=>by simp at h)
 | ref=>intro v ah;cases ah
 | bk=>intro v ah;cases ah
 | jT=>intro v ah;cases ah
 | @agg c a3 ih =>
  intro v ah h;obtain⟨vs,rfl,h1,o,U⟩:=h.BD
  cases ah with
  | agg ah=>exact .agg vs h1 o fun j x u ab hu=>ih x (dH ab) (ah x (dH ab)) (U j x u ab hu)
 | @dX c a3 ih =>
  intro v ah h;obtain⟨vs,rfl,h1,U⟩:=h.BE
  cases ah with
  | dX ah=>exact .dX vs h1 fun j x u ab hu=>ih x (dH ab) (ah x (dH ab)) (U j x u ab hu)
section
variable {P:Program} {g:G} {s:S} {aF:ga} {a:Act} {w:World}
theorem Ev (h:jt g s aF w){r k b m:Nat}{I:a8}(an:s.al r k=some I)(ah:aF r k=some (b,m)):b<w.heap.size:=by have:=h.obj r k I an;rw[ah] at this;obtain⟨c,fp,e,-⟩:=this;exact(Array.getElem?_eq_some_iff.1 e).1
theorem afb (h:jt g s aF w){r k b m:Nat}{I:a8}(an:s.al r k=some I)(aY:I.cN = .jH)(ah:aF r k=some (b,m)):s.ok g aF w b:=by
 refine⟨Ev h an ah,?_,?_⟩
 ·rcases h.own r k I b m an ah with e|e
  ·exact .inr (.inl e)
  ·exact .inr (.inr e)
 ·rintro⟨fq,ey,ck,aJ,h1,o,U⟩;obtain⟨rfl,rfl⟩:=h.inj r k I fq ey ck b m aJ an h1 ah U;rw[an] at h1;simp at h1;subst h1;rw[aY] at o;simp at o
theorem enter (h:jt g s aF w){a6:hQ}{bN:hh->Bool}{q:aH->Prop}{T:List (List a8)}(A:Nat->Prop)
 (hA : ∀b,A b->b<w.heap.size) (MW : ∀b,s.ok g aF w b->A b)
 (MX : ∀r k I b m,s.al r k=some I->bN I.cN=true->aF r k=some (b,m)->A b)
 (di:rV s a6 bN q (fG T).a2) (rG : ∀r k I,(∃j i,a6 j i=some (r,k))->s.al r k=some I->I.cN = .live) :
 ∃gT:G,gT.n8=w/\gT.A=A/\gT.m=T.length/\gT.qC=(fG T).bh/\gT.tu=(fG T).bm (kR aF a6) /\
  (gT.rj=fun b=> ∃r k I m,(∃j i,a6 j i=some (r,k))/\s.al r k=some I/\aF r k=some (b,m))/\jt gT (fG T) (kR aF a6) w /\
  ∀ {x c7:aH} {v:Value},iT s a6 bN q x c7->Rel w (s.ok g aF w) s.bh (s.bm aF) x v->Rel w ((fG T).ok gT (kR aF a6) w) (fG T).bh ((fG T).bm (kR aF a6)) c7 v:=by
 let gT:G:={n8:=w,A:=A,rj:=fun b=> ∃r k I m,(∃j i,a6 j i=some (r,k))/\s.al r k=some I/\aF r k=some (b,m),N:=0,m:=T.length,qC:=(fG T).bh,tu:=(fG T).bm (kR aF a6)}
 refine⟨gT,rfl,rfl,rfl,rfl,rfl,rfl,?_⟩;have hl : ∀b,(fG T).m4 (kR aF a6) b-> ∃r k I m,s.al r k=some I/\I.cN = .live/\aF r k=some (b,m)/\ ∃j i,a6 j i=some (r,k):=fun b aX=>di.live b aX;refine jt.NM (b4:=fG T) (gT:=gT) h di ⟨rfl,rfl,rfl,dE _,fun _ _ _=>rfl⟩ (fun j k av=>⟨av,.inl rfl⟩) ?_ ?_ hA ?_ ?_ ?_
 ·intro j k av
  have av:k<((T[j]?).getD []).length:=av;rcases Nat.lt_or_ge j T.length with h1|h1
  ·exact h1
  ·rw[List.getElem?_eq_none h1] at av;simp at av
 ·rintro b ⟨r,k,I,m,-,an,ah⟩;exact Ev h an ah
 ·intro r k I b m hm an ah;exact .inr ⟨r,k,I,m,hm,an,ah⟩
 ·intro b aU;refine⟨aU.1,.inl (MW b aU),fun aX=> ?_⟩;obtain⟨r,k,I,m,h1,o,U,-⟩:=hl b aX;exact aU.2.2 ⟨r,k,I,m,h1,o,U⟩
 ·intro r k I b m an bI ai ah;refine⟨Ev h an ah,.inl (MX r k I b m an bI ah),fun aX=> ?_⟩;obtain⟨fq,ey,ck,aJ,h1,o,U,⟨j,i,av⟩⟩:=hl b aX;obtain⟨rfl,rfl⟩:=h.inj r k I fq ey ck b m aJ an h1 ah U;exact ai j i av
theorem leave (h:c8 g s aF a w){bV:World}{a6 lY:hQ}{bN:hh->Bool}{q0 q:aH->Prop}{gT:G}{T fc:List (List a8)}{l9:ga}
 (dp:gT.n8=w) (hA:(∀b,gT.A b->s.ok g aF w b)\/(∀x,q x->b2 x)) (yQ:gT.qC=(fG T).bh) (mz:gT.tu=(fG T).bm (kR aF a6))
 (et:gT.rj=fun b=> ∃r k I m,(∃j i,a6 j i=some (r,k))/\s.al r k=some I/\aF r k=some (b,m))
 (rG : ∀r k I,(∃j i,a6 j i=some (r,k))->s.al r k=some I->I.cN = .live)
 (di:rV s a6 bN q0 (fG T).a2) (h1:jt gT (fG fc) l9 bV)
 (EH : ∀j i r k,a6 j i=some (r,k)->lY r k=some (j,i)) (Io : ∀r k j i,lY r k=some (j,i)->a6 j i=some (r,k)\/ ¬s.bh r k)
 (agq : ∀r k fq ey p,lY r k=some p->lY fq ey=some p->r=fq/\k=ey)
 {s2:S} (eL:s2.E=s.E)
 (bs : ∀r k I,s2.al r k=some I->(∃j i p,lY r k=some (j,i)/\(fG fc).al j i=some p/\pW (fG fc) lY (fun _=>false) q p I)\/(lY r k=none/\s.al r k=some I))
 (kr : ∀r k,s.bh r k->s2.bh r k) (agr : ∀r k j i,lY r k=some (j,i)->(fG fc).bh j i->s2.bh r k)
 {x c7:aH} {v:Value} (ab:iT (fG fc) lY (fun _=>false) q x c7) (bg:Rel bV ((fG fc).ok gT l9 bV) (fG fc).bh ((fG fc).bm l9) x v) :
 ∃mH,c8 g s2 mH a bV/\Rel bV (s2.ok g mH bV) s2.bh (s2.bm mH) c7 v:=by
 let mH:ga:=fun r k=>match lY r k with|some (j,i)=>l9 j i|none=>aF r k
 have p1 : ∀r k j i,lY r k=some (j,i)->mH r k=l9 j i:=fun r k j i e=>by simp[mH,e]
 have hM : ∀r k,lY r k=none->mH r k=aF r k:=fun r k e=>by simp[mH,e]
 have aY:=h1.hY;have fA:w.heap.size<=bV.heap.size:=by have:=aY.size;rw[dp] at this;exact this
 have vi : ∀b,b<w.heap.size-> ¬gT.rj b->bV.heap[b]? = w.heap[b]? := fun b aU la=>by have:=aY.block b (by rw[dp];exact aU) la;rw[dp] at this;exact this
 have IK : ∀j k p b m,(fG fc).al j k=some p->l9 j k=some (b,m)->w.heap.size<=b\/ ∃r ey I aJ,(∃j i,a6 j i=some (r,ey))/\s.al r ey=some I/\aF r ey=some (b,aJ):=by
  intro j k p b m ah aU;rcases h1.own j k p b m ah aU with e|e
  ·rw[dp] at e;exact .inl e
  ·rw[et] at e;exact .inr e
 have hold : ∀q k I b m,lY q k=none->s.al q k=some I->aF q k=some (b,m)->b<w.heap.size/\ ¬gT.rj b:=by intro q k I b m a5 an ah;refine⟨Ev h.tojt an ah,fun la=> ?_⟩;rw[et] at la;obtain⟨r,ey,ck,aJ,⟨j,i,ai⟩,eK,mh⟩:=la;obtain⟨rfl,rfl⟩:=h.inj q k I r ey ck b m aJ an eK ah mh;rw[EH _ _ _ _ ai] at a5;simp at a5
 have Up : ∀b,s2.m4 mH b->(fG fc).m4 l9 b\/(∃q k I m,lY q k=none/\s.al q k=some I/\I.cN = .live/\aF q k=some (b,m)):=by
  rintro b ⟨q,k,I,m,an,ps,ah⟩;rcases bs q k I an with ⟨j,i,p,e1,aB,bP⟩|⟨e1,aB⟩
  ·rw[p1 _ _ _ _ e1] at ah;exact .inl ⟨j,i,p,m,aB,TN bP ps,ah⟩
  ·rw[hM _ _ e1] at ah;exact .inr ⟨q,k,I,m,e1,aB,ps,ah⟩
 have nB : ∀b,s.ok g aF w b->s2.ok g mH bV b:=by
  intro b aU;refine⟨Nat.lt_of_lt_of_le aU.1 fA,aU.2.1,fun aX=> ?_⟩;rcases Up b aX with ⟨j,k,p,m,e1,aB,bP⟩|⟨q,k,I,m,e1,aB,bP,dd⟩
  ·rcases IK j k p b m e1 bP with e|⟨r,ey,I,aJ,ai,an,ah⟩
   ·have:=aU.1;omega
   ·exact aU.2.2 ⟨r,ey,I,aJ,an,rG r ey I ai an,ah⟩
  ·exact aU.2.2 ⟨q,k,I,m,aB,bP,dd⟩
 have Vi : ∀r k,s.bh r k->s2.bm mH r k=s.bm aF r k\/s2.bm mH r k=none:=by
  intro r k ai
  cases an:s2.al r k with
  | none=>right;simp[S.bm,an]
  | some I =>
   left;rcases bs r k I an with ⟨j,i,p,e1,aB,bP⟩|⟨e1,aB⟩
   ·rcases Io r k j i e1 with av|av
    ·have nD:=(h1.stay j i (by rw[yQ];exact di.bh _ _ _ _ av ai)).2
     rw[mz,jq aB] at nD
     have nD:some (p.sz,l9 j i)=(fG T).bm (kR aF a6) j i:=by
      rcases nD with e|e
      ·exact e
      ·simp at e
     have:=di.IJ (b4:=fG T) (aF:=aF) av;rw[<- nD] at this;rw[jq an,bP.sz,p1 _ _ _ _ e1];rcases this with e|e
     ·exact e
     ·simp at e
    ·exact absurd ai av
   ·rw[jq an,jq aB,hM _ _ e1]
 have afW : ∀b,s.ok g aF w b->bV.heap[b]? = w.heap[b]? := by intro b aU;refine vi b aU.1 fun la=> ?_;rw[et] at la;obtain⟨r,ey,I,aJ,ai,an,ah⟩:=la;exact aU.2.2 ⟨r,ey,I,aJ,an,rG r ey I ai an,ah⟩
 have fZ : ∀ {y:aH} {u:Value},Rel w (s.ok g aF w) s.bh (s.bm aF) y u->Rel bV (s2.ok g mH bV) s2.bh (s2.bm mH) y u :=
  fun ai=>ai.mono nB afW kr Vi
 have ags:(∀b,gT.A b->s.ok g aF w b)-> ∀b,(fG fc).ok gT l9 bV b->s2.ok g mH bV b:=by
  intro hA b aU
  have Mv:g.A b\/g.n8.heap.size<=b\/g.rj b:=by
   rcases aU.2.1 with e|e|e
   ·exact(hA b e).2.1
   ·rw[dp] at e;exact .inr (.inl (Nat.le_trans h.hY.size e))
   ·rw[et] at e
    obtain⟨r,k,I,m,-,an,ah⟩:=e;rcases h.own r k I b m an ah with e|e
    ·exact .inr (.inl e)
    ·exact .inr (.inr e)
  refine⟨aU.1,Mv,fun aX=> ?_⟩;rcases Up b aX with e|⟨q,k,I,m,e1,aB,bP,dd⟩
  ·exact aU.2.2 e
  ·have a5:=hold q k I b m e1 aB dd
   rcases aU.2.1 with e|e|e
   ·exact(hA b e).2.2 ⟨q,k,I,m,aB,bP,dd⟩
   ·rw[dp] at e;omega
   ·exact a5.2 e
 have US : ∀ {y nk:aH} {u:Value},iT (fG fc) lY (fun _=>false) q y nk->Rel bV ((fG fc).ok gT l9 bV) (fG fc).bh ((fG fc).bm l9) y u->Rel bV (s2.ok g mH bV) s2.bh (s2.bm mH) nk u:=by
  intro y nk u bK ai;refine bK.rel h1 (fun x v a5 ah ai=> ?_) (fun _ _ _ _ _ _ bI _ _=>by simp at bI) ?_ ai
  ·rcases hA with hA|hA
   ·exact ai.pure ah (ags hA)
   ·exact ai.fe (hA x a5) ah
  ·intro r k j i a5 av
   refine⟨agr r k j i a5 av,?_⟩
   cases an:s2.al r k with
   | none=>right;simp[S.bm,an]
   | some I =>
    left;rcases bs r k I an with ⟨jc,fk,p,e1,aB,bP⟩|⟨e1,-⟩
    ·rw[a5] at e1;simp only[dB,dD] at e1;obtain⟨rfl,rfl⟩:=e1;rw[jq an,jq aB,bP.sz,p1 _ _ _ _ a5]
    ·rw[a5] at e1;simp at e1
 refine⟨mH,{tojt:=⟨?_,?_,?_,?_,h.mlt,h.oU,?_,h.low⟩,env:=fun t=>by rw[eL];exact fZ (h.env t),defers:=h.defers,kP:=h.kP},US ab bg⟩
 ·intro q k I an
  rcases bs q k I an with ⟨j,i,p,e1,aB,bP⟩|⟨e1,aB⟩
  ·have ah:=h1.obj j i p aB
   rw[p1 _ _ _ _ e1]
   cases lx:l9 j i with
   | none =>
    rw[lx] at ah;simp only[kd] at ah ⊢;apply List.length_eq_zero_iff.1;rw[bP.len,ah];rfl
   | some vJ =>
    obtain⟨b,m⟩:=vJ;rw[lx] at ah;obtain⟨c,fp,f1,f2,f3,f4⟩:=ah;have kQ:I.es.flatten.length=p.es.flatten.length:=(by rw[tO _ bP.each,tO _ f3,bP.len]);refine⟨c,fp,f1,f2,by rw[bP.sz];exact bP.each,fun i c7 ex=> ?_⟩;have ez:i<p.es.flatten.length:=(by rw[<- kQ];exact gB ex);have j1:=dz ez;obtain⟨u,jV,ma,ia⟩:=f4 i _ j1;exact⟨u,jV,ma,US (bP.at_ i _ c7 j1 ex) ia⟩
  ·have ah:=h.obj q k I aB
   rw[hM _ _ e1]
   cases lx:aF q k with
   | none=>rw[lx] at ah;exact ah
   | some vJ =>
    obtain⟨b,m⟩:=vJ;rw[lx] at ah;obtain⟨c,fp,f1,f2,f3,f4⟩:=ah;obtain⟨wI,MY⟩:=hold q k I b m e1 aB lx;refine⟨c,fp,(vi b wI MY).trans f1,f2,f3,fun i c7 ex=> ?_⟩;obtain⟨u,jV,ma,ia⟩:=f4 i c7 ex;exact⟨u,jV,ma,fZ ia⟩
 ·intro q k I iR ey ck b m aJ o U ak ax
  rcases bs q k I o with ⟨j,i,p,e1,aB,bP⟩|⟨e1,aB⟩<;>rcases bs iR ey ck U with ⟨jc,fk,lo,ot,rc,wG⟩|⟨ot,rc⟩
  ·rw[p1 _ _ _ _ e1] at ak;rw[p1 _ _ _ _ ot] at ax;obtain⟨rfl,rfl⟩:=h1.inj j i p jc fk lo b m aJ aB rc ak ax;exact agq _ _ _ _ _ e1 ot
  ·rw[p1 _ _ _ _ e1] at ak;rw[hM _ _ ot] at ax
   obtain⟨f1,f2⟩:=hold iR ey ck b aJ ot rc ax;rcases IK j i p b m aB ak with e|e
   ·omega
   ·exact absurd (by rw[et];exact e) f2
  ·rw[hM _ _ e1] at ak;rw[p1 _ _ _ _ ot] at ax
   obtain⟨f1,f2⟩:=hold q k I b m e1 aB ak;rcases IK jc fk lo b aJ rc ax with e|e
   ·omega
   ·exact absurd (by rw[et];exact e) f2
  ·rw[hM _ _ e1] at ak;rw[hM _ _ ot] at ax;exact h.inj q k I iR ey ck b m aJ aB rc ak ax
 ·intro q k I b m o ak
  rcases bs q k I o with ⟨j,i,p,e1,aB,bP⟩|⟨e1,aB⟩
  ·rw[p1 _ _ _ _ e1] at ak
   rcases IK j i p b m aB ak with e|⟨r,ey,ck,aJ,ai,an,ah⟩
   ·exact .inl (Nat.le_trans h.hY.size e)
   ·exact h.own r ey ck b aJ an ah
  ·rw[hM _ _ e1] at ak;exact h.own q k I b m aB ak
 ·have e1:=aY.os;have aB:=aY.tape;have bP:=aY.output
  rw[dp] at e1 aB bP;refine h.hY.step e1 aB bP fA fun b aU pt=>vi b (Nat.lt_of_lt_of_le aU h.hY.size) fun la=> ?_;rw[et] at la;obtain⟨r,k,I,m,-,an,ah⟩:=la;rcases h.own r k I b m an ah with e|e
  ·omega
  ·exact pt e
 ·intro j k av
  obtain⟨e1,aB⟩:=h.stay j k av;refine⟨kr j k e1,?_⟩;rcases Vi j k e1 with e|e
  ·rw[e];exact aB
  ·exact .inr e
def lT (a b n:Nat):aH->aH
 | .ref r k i off=>if r=a then .ref b (n+k) i off else .ref r k i off
 | .bk r k b3 len=>if r=a then .bk b (n+k) b3 len else .bk r k b3 len
 | .jT r c sz h=>if r=a then .jT b (n+c) sz h else .jT r c sz h
 | .agg c=> .agg (Cp c)
 | .dX c=> .dX (Cp c)
 | x=>x
where Cp:List aH->List aH
 | []=>[]
 | x::l=>lT a b n x::Cp l
def nG (a b n:Nat)(I:a8):a8:={I with es:=I.es.map fun e=>e.map (lT a b n)}
def tm (I:a8):a8:=⟨0,[],.gone⟩
theorem HX (a b n:Nat): ∀l:List aH,lT.Cp a b n l=l.map (lT a b n)
 | []=>rfl
 | x::l=>by rw[lT.Cp,HX a b n l];rfl
theorem lv (l:List a8)(k:Nat):d5 (some l) k=(l[k]?).bind fun I=>if I.cN = .gone then none else some I:=by unfold d5;cases h:l[k]? <;> simp[h]
theorem map_flatten {es:List (List aH)}(f:aH->aH):(es.map fun e=>e.map f).flatten=es.flatten.map f:=by
 induction es with
 | nil=>rfl
 | cons e es ih=>rw[List.map_cons,List.flatten_cons,List.flatten_cons,List.map_append,ih]
theorem c8.merge (h:c8 g s aF a w){r fq:Nat}{l hx:List a8}(ai:s.a2 r=some l)(iL:s.a2 fq=some hx)(c6:fq≠r):
 ∃bY,c8 g ((s.setRow fq (hx.map tm)).setRow r (l++hx.map (nG fq r l.length))) bY a w /\
  ∀x v,Rel w (s.ok g aF w) s.bh (s.bm aF) x v->Rel w (((s.setRow fq (hx.map tm)).setRow r (l++hx.map (nG fq r l.length))).ok g bY w)
   ((s.setRow fq (hx.map tm)).setRow r (l++hx.map (nG fq r l.length))).bh (((s.setRow fq (hx.map tm)).setRow r (l++hx.map (nG fq r l.length))).bm bY) (lT fq r l.length x) v:=by
 generalize vu:(s.setRow fq (hx.map tm)).setRow r (l++hx.map (nG fq r l.length))=s2
 let bY:ga:=fun q k=>if q=r/\l.length<=k then aF fq (k-l.length) else aF q k
 have bs : ∀q k I,s2.al q k=some I->(q=r/\l.length<=k/\ ∃p,s.al fq (k-l.length)=some p/\I=nG fq r l.length p/\bY q k=aF fq (k-l.length)) \/
  (q≠fq/\s.al q k=some I/\bY q k=aF q k/\ ¬(q=r/\l.length<=k)):=by
  intro q k I an;subst vu;rw[mN] at an;by_cases e:q=r
  ·subst e
   rw[dw rfl] at an;by_cases aY:l.length<=k
   ·left
    refine⟨rfl,aY,?_⟩;rw[lv,List.getElem?_append_right aY,dJ] at an
    cases ah:hx[k-l.length]? with
    | none=>rw[ah] at an;simp at an
    | some p =>
     rw[ah] at an;simp only[Option.map_some,dA] at an;split at an
     ·simp at an
     ·rename_i dp;simp only[dB] at an;refine⟨p,?_,an.symm,by simp[bY,aY]⟩;unfold S.al;rw[iL,lv,ah,dA,dy (by simpa [nG] using dp)]
   ·right;refine⟨Ne.symm c6,?_,by simp[bY,aY],fun gH=>aY gH.2⟩;unfold S.al;rw[ai,lv];rw[lv,List.getElem?_append_left (by omega)] at an;exact an
  ·rw[dy e,mN] at an
   by_cases aB:q=fq
   ·subst aB
    rw[dw rfl,lv,dJ] at an
    cases ah:hx[k]? with
    | none=>rw[ah] at an;simp at an
    | some p=>rw[ah] at an;simp[tm] at an
   ·rw[dy aB] at an;exact .inr ⟨aB,an,by simp[bY,e],fun gH=>e gH.1⟩
 have kr : ∀q k,s.bh q k->s2.bh q k:=by
  intro q k a5;subst vu;rw[oK];by_cases e:q=r
  ·subst e;rw[dw rfl];simp[S.bh,ai] at a5;simp;omega
  ·rw[dy e,oK]
   by_cases aB:q=fq
   ·subst aB;rw[dw rfl];simpa [S.bh,iL] using a5
   ·rw[dy aB];exact a5
 have Fa : ∀k,s.bh fq k->s2.bh r (l.length+k):=by intro k a5;subst vu;rw[oK,dw rfl];simp[S.bh,iL] at a5;simp;omega
 have Fb : ∀k,s2.bm bY r (l.length+k)=s.bm aF fq k:=by
  intro k;subst vu;simp only[S.bm];rw[mN,dw rfl];unfold S.al;rw[iL,lv,lv,List.getElem?_append_right (by omega),dJ,show l.length+k-l.length=k by omega]
  cases ah:hx[k]? with
  | none=>simp
  | some p =>
   simp only[Option.map_some,dA];by_cases dp:p.cN = .gone
   ·rw[dw dp,dw (by simpa [nG] using dp)];rfl
   ·rw[dy dp,dy (by simpa [nG] using dp)];simp[bY,nG]
 have mz : ∀q k,s.bh q k->s2.bm bY q k=s.bm aF q k\/s2.bm bY q k=none:=by
  intro q k a5
  cases an:s2.al q k with
  | none=>right;simp[S.bm,an]
  | some I =>
   left;rcases bs q k I an with ⟨rfl,aB,-⟩|⟨-,aB,bP,-⟩
   ·simp[S.bh,ai] at a5;omega
   ·rw[jq an,jq aB,bP]
 have rG : ∀b,s2.m4 bY b->s.m4 aF b:=by
  rintro b ⟨q,k,I,m,h1,o,U⟩;rcases bs q k I h1 with ⟨-,-,p,e1,aB,bP⟩|⟨-,e1,aB,-⟩
  ·rw[bP] at U;subst aB;exact⟨fq,_,p,m,e1,o,U⟩
  ·rw[aB] at U;exact⟨q,k,I,m,e1,o,U⟩
 have c1:Step g s aF w s2 bY w:=⟨kr,mz,fun b aX=> .inl (rG b aX),fun _ _ _=>rfl,dE _⟩
 have FA : ∀x v,Rel w (s.ok g aF w) s.bh (s.bm aF) x v->Rel w (s2.ok g bY w) s2.bh (s2.bm bY) (lT fq r l.length x) v:=by
  intro x v mB
  induction mB with
  | dead v=>exact .dead v
  | b x=>exact .b x
  | n k x=>exact .n k x
  | s x=>exact .s x
  | js=>exact .js
  | f6=>exact .f6
  | jS a c=>exact .jS a c
  | @rB r1 k i off a hu gH =>
   unfold lT;split
   ·rename_i e;subst e;exact .rB a (Fa k hu) (by rw[Fb];exact gH)
   ·exact c1.rel (.rB a hu gH)
  | @ref r1 k i off sz eU m hu gH =>
   unfold lT;split
   ·rename_i e;subst e;exact .ref (Fa k hu) (by rw[Fb];exact gH)
   ·exact c1.rel (.ref hu gH)
  | @oM r1 k b3 len a bo cq hu gH =>
   unfold lT;split
   ·rename_i e;subst e;exact .oM a bo cq (Fa k hu) (by rw[Fb];exact gH)
   ·exact c1.rel (.oM a bo cq hu gH)
  | @o7 r1 k sz hu gH =>
   unfold lT;split
   ·rename_i e;subst e;exact .o7 (Fa k hu) (by rw[Fb];exact gH)
   ·exact c1.rel (.o7 hu gH)
  | @bk r1 k b3 len sz eU m c a hu gH aX a3 nF =>
   unfold lT;split
   ·rename_i e;subst e;exact .bk (Fa k hu) (by rw[Fb];exact gH) aX a3 nF
   ·exact c1.rel (.bk hu gH aX a3 nF)
  | @og r1 c sz v h0 ih =>
   unfold lT;split
   ·exact .og (c1.rel h0)
   ·exact c1.rel (.og h0)
  | @pj r1 c sz k n v h0 ih =>
   unfold lT;split
   ·rename_i e;subst e;unfold lT at ih;rw[dw rfl] at ih;exact .pj (by rw[show k+(l.length+c)=l.length+(k+c) by omega];exact ih)
   ·exact c1.rel (.pj h0)
  | lj sz a c h=>exact .lj sz a c h
  | isl cs aU ah aX a3 hw jI mB ih=>exact c1.rel (.isl cs aU ah aX a3 hw jI mB)
  | fa cs aU ah aX hw jI mB ih=>exact c1.rel (.fa cs aU ah aX hw jI mB)
  | q8 sz=>exact .q8 sz
  | qw h0 ih=>exact c1.rel (.qw h0)
  | agg vs aX jI mB ih =>
   unfold lT;rw[HX];refine .agg vs (by simpa using aX) jI fun j x v ab bg=> ?_;rw[dJ,Option.map_eq_some_iff] at ab;obtain⟨y,a1,rfl⟩:=ab;exact ih j y v a1 bg
  | dX vs aX mB ih =>
   unfold lT;rw[HX];refine .dX vs (by simpa using aX) fun j x v ab bg=> ?_;rw[dJ,Option.map_eq_some_iff] at ab;obtain⟨y,a1,rfl⟩:=ab;exact ih j y v a1 bg
  | fn vs aX mB ih=>exact c1.rel (.fn vs aX mB)
 refine⟨bY,{tojt:=⟨?_,?_,?_,h.hY,h.mlt,h.oU,?_,h.low⟩,env:=fun t=>by rw[show s2.E=s.E by rw[<- vu];rfl];exact c1.rel (h.env t),defers:=h.defers,kP:=h.kP},FA⟩
 ·intro q k I an
  rcases bs q k I an with ⟨-,-,p,e1,aB,bP⟩|⟨-,e1,aB,-⟩
  ·rw[bP]
   subst aB;have ah:=h.obj fq _ p e1
   cases lx:aF fq (k-l.length) with
   | none=>rw[lx] at ah;simp only[kd] at ah ⊢;simp[nG,ah]
   | some vJ =>
    obtain⟨b,m⟩:=vJ;rw[lx] at ah;obtain⟨c,fp,f1,f2,f3,f4⟩:=ah;refine⟨c,fp,f1,f2,?_,fun j x ab=> ?_⟩
    ·intro e he;simp only[nG,List.mem_map] at he;obtain⟨e2,m9,rfl⟩:=he;simpa [nG] using f3 e2 m9
    ·simp only[nG] at ab;rw[map_flatten,dJ,Option.map_eq_some_iff] at ab;obtain⟨y,a1,rfl⟩:=ab;obtain⟨u,jV,ma,ia⟩:=f4 j y a1;exact⟨u,jV,ma,FA y u ia⟩
  ·rw[aB];exact c1.obj (fun b m _=>rfl) (h.obj q k I e1)
 ·intro q k I q1 lX bX b m aJ h1 o U ak
  rcases bs q k I h1 with ⟨rfl,f1,p,e1,aB,bP⟩|⟨f1,e1,aB,f2⟩<;>rcases bs q1 lX bX o with ⟨rfl,Cq,lo,ot,rc,wG⟩|⟨Cq,ot,rc,aj8⟩
  ·rw[bP] at U;rw[wG] at ak;obtain⟨-,e⟩:=h.inj _ _ _ _ _ _ b m aJ e1 ot U ak;exact⟨rfl,by omega⟩
  ·rw[bP] at U;rw[rc] at ak;obtain⟨e,-⟩:=h.inj _ _ _ _ _ _ b m aJ e1 ot U ak;exact absurd e.symm Cq
  ·rw[aB] at U;rw[wG] at ak;obtain⟨e,-⟩:=h.inj _ _ _ _ _ _ b m aJ e1 ot U ak;exact absurd e f1
  ·rw[aB] at U;rw[rc] at ak;exact h.inj _ _ _ _ _ _ b m aJ e1 ot U ak
 ·intro q k I b m h1 o
  rcases bs q k I h1 with ⟨-,-,p,e1,aB,bP⟩|⟨-,e1,aB,-⟩
  ·rw[bP] at o;exact h.own fq _ p b m e1 o
  ·rw[aB] at o;exact h.own q k I b m e1 o
 ·exact c1.stay h.stay
end
def aH.jo:aH->Bool
 | .dead | .b _ | .n .. | .s _ | .js | .f6 | .jS | .isl .. | .fa .. | .hE .. => true
 | _=>false
def aH.Ew:aH->Bool
 | .agg c=>c.all aH.jo
 | .fn _ c=>c.all aH.jo
 | x=>x.jo
def aH.UT:aH->Bool
 | .dX c=>c.all aH.Ew
 | x=>x.Ew
section
variable {w:World} {ok:Nat->Prop} {bh:kk} {bm:j6}
theorem Rel.B1 {x:aH}{v:Value}(h:Rel w ok bh bm x v)(aS:x.jo=true):Pure x:=by
 cases h with
 | dead=>exact .dead
 | b=>exact .b _
 | n=>exact .n _ _
 | s=>exact .s _
 | js=>exact .js
 | f6=>exact .f6
 | jS=>exact .jS
 | lj=>exact .isl (by simp)
 | isl cs aU ah=>exact .isl ah
 | fa cs aU ah=>exact .fa ah
 | q8 sz=>exact .q8 sz
 | qw h=>cases h with|fa cs aU ah=>exact .qw fun x ab=>ah _ (List.mem_singleton.2 rfl) x ab
 | _=>simp[aH.jo] at aS
theorem R5 {c:List aH}{vs:List Value}(aX:vs.length=c.length)(ai:∀(j:Nat) x u,c[j]? = some x->vs[j]? = some u->Rel w ok bh bm x u)
 (aS:c.all aH.jo=true) : ∀x∈c,Pure x:=by
 intro x ab;obtain⟨j,av⟩:=List.getElem?_of_mem ab;have ez:j<vs.length:=by have:=gB av;omega
 exact(ai j x _ av (dz ez)).B1 (List.all_eq_true.1 aS x ab)
theorem Rel.Ia {x:aH}{v:Value}(h:Rel w ok bh bm x v)(aS:x.Ew=true):Pure x:=by
 cases h with
 | agg vs aX a3 ai=>exact .agg (R5 aX ai aS)
 | fn vs aX ai=>exact .fn (R5 aX ai aS)
 | dead=>exact .dead
 | b=>exact .b _
 | n=>exact .n _ _
 | s=>exact .s _
 | js=>exact .js
 | f6=>exact .f6
 | jS=>exact .jS
 | lj=>exact .isl (by simp)
 | isl cs aU ah=>exact .isl ah
 | fa cs aU ah=>exact .fa ah
 | q8 sz=>exact .q8 sz
 | qw h=>cases h with|fa cs aU ah=>exact .qw fun x ab=>ah _ (List.mem_singleton.2 rfl) x ab
 | _=>simp[aH.Ew,aH.jo] at aS
theorem Rel.afX {x:aH}{v:Value}(h:Rel w ok bh bm x v)(aS:x.UT=true):Pure x:=by
 by_cases cf : ∃c,x = .dX c
 ·obtain⟨c,rfl⟩:=cf;obtain⟨vs,rfl,aX,ai⟩:=h.BE;refine .dX fun x ab=> ?_;obtain⟨j,av⟩:=List.getElem?_of_mem ab;have ez:j<vs.length:=(by have:=gB av;omega);exact(ai j x _ av (dz ez)).Ia (List.all_eq_true.1 aS x ab)
 ·refine h.Ia ?_;cases x<;>first|exact aS|exact absurd ⟨_,rfl⟩ cf
end
def cd:List Nat->Nat->Option Nat
 | [],_=>none
 | x::l,r=>if x=r then some 0 else (cd l r).map (· + 1)
theorem R6 : ∀ {l:List Nat} {r j:Nat},cd l r=some j->l[j]? = some r
 | x::l,r,j,h=>by
  unfold cd at h;split at h
  ·simp at h;subst h;simp[*]
  ·rw[Option.map_eq_some_iff] at h;obtain⟨i,ad,rfl⟩:=h;simpa using R6 ad
theorem R7 : ∀ {l:List Nat} {r j:Nat},l.Nodup->l[j]? = some r->cd l r=some j
 | x::l,r,j,aS,h=>by
  rw[List.nodup_cons] at aS;unfold cd
  cases j with
  | zero=>simp at h;simp[h]
  | succ j =>
   simp at h;have:x≠r:=(by rintro rfl;exact aS.1 (dH h));rw[dy this,R7 aS.2 h];rfl
def FB (ew:Nat)(kq:List a8)(bN:hh->Bool)(x c7:aH):Prop :=
 (c7=x/\x.jo=true)\/(∃c sz,x = .jT ew c sz none/\c7 = .isl sz [])\/ ∃k b3 len I,(x = .bk ew k b3 len\/ ∃c sz kl,k=kl+c/\b3=0/\x = .jT ew c sz (some (kl,len)))/\d5 (some kq) k=some I/\bN I.cN=true/\b3+len<=I.es.length /\
   i7 ((I.es.drop b3).take len)/\c7 = .isl I.sz ((I.es.drop b3).take len)
def Gl (ew:Nat)(kq:List a8)(bN:hh->Bool)(sz:Nat)(es ht:List (List aH)):Prop :=
 ht.length=es.length/\(∀e∈ht,e.length=sz)/\ ∀(j:Nat) x c7,es.flatten[j]? = some x->ht.flatten[j]? = some c7->FB ew kq bN x c7
def mR (a2:Nat->Option (List a8))(b9:Nat->Option Nat)(a6:hQ)(bN:hh->Bool):tH->aH->Option (aH×List Prop)
 | .id,x=>if x.jo then some (x,[]) else
  match x with
  | .ref r k i off=>match b9 r with
   | some j=>some (.ref j k i off,[])
   | none=>none
  | .bk r k b3 len=>match b9 r with
   | some j=>some (.bk j k b3 len,[])
   | none=>none
  | .jT r c sz h=>match b9 r with
   | some j=>some (.jT j c sz h,[])
   | none=>none
  | _=>none
 | .gg sz,.f6=>some (.isl sz [],[])
 | .gg sz,.jS=>some (.isl sz [],[])
 | .e7 ht,.bk r k b3 len=>match d5 (a2 r) k with
  | some I=>if bN I.cN && (b9 r).isNone then some (.isl I.sz ht,[ht=(I.es.drop b3).take len,b3+len<=I.es.length,i7 ht]) else none
  | none=>none
 | .kw,_=>some (.dead,[])
 | .cO y,x=>if x.jo then some (y,[x=y]) else none
 | .len n,.bk r k b3 len=>match b9 r with
  | some j=>some (.bk j k b3 n,[len=n])
  | none=>none
 | .uD sz,x=>match x with
  | .js=>some (.hE sz none,[])
  | .fa IF [c] 0 0=>if IF=sz then some (.hE sz (some c),[]) else none
  | _=>none
 | .at_ j i n,.bk r k b3 len=>some (.bk j i b3 n,[a6 j i=some (r,k),len=n])
 | .at_ j i _,.ref r k x y=>some (.ref j i x y,[a6 j i=some (r,k)])
 | .view ew I ht,.bk r k b3 len=>match a2 r,a2 ew with
  | some row,some kq=>if (b9 r).isNone && (b9 ew).isNone then
   some (.isl I.sz ht,[d5 (some row) k=some I,bN I.cN=true,b3+len<=I.es.length,i7 ht,Gl ew kq bN I.sz ((I.es.drop b3).take len) ht]) else none
  | _,_=>none
 | _,_=>none
def mS {α β:Type}(f:α->β->Option (β×List Prop)):List α->List β->Option (List β×List Prop)
 | [],[]=>some ([],[])
 | a::l,b::m=>match f a b,mS f l m with
  | some (k1,bX),some (aJ,aP)=>some (k1::aJ,bX++aP)
  | _,_=>none
 | _,_=>none
def pL (a2:Nat->Option (List a8))(b9:Nat->Option Nat)(a6:hQ)(bN:hh->Bool):CI->aH->Option (aH×List Prop)
 | .cZ c,x=>if x.Ew then (match c with | .id=>some (x,[]) | .kw=>some (.dead,[]) | .cO y=>some (y,[x=y])|c=>mR a2 b9 a6 bN c x) else mR a2 b9 a6 bN c x
 | .agg l,.agg c=>match mS (mR a2 b9 a6 bN) l c with
  | some (eJ,al)=>some (.agg eJ,al)
  | none=>none
 | .ptr l,.ref r k i off=>match d5 (a2 r) k with
  | some I=>match I.es with
   | [c]=>if bN I.cN && (b9 r).isNone then
    match mS (mR a2 b9 a6 bN) l c with
    | some (eJ,al)=>some (.fa I.sz [eJ] i off,al++[i7 [eJ]])
    | none=>none
    else none
   | _=>none
  | none=>none
 | .vj l,x=>match x with
  | .ref r k 0 0=>match d5 (a2 r) k with
   | some I=>match I.es with
    | [c]=>if bN I.cN && (b9 r).isNone then
     match mS (mR a2 b9 a6 bN) l c with
     | some (eJ,al)=>some (.hE I.sz (some eJ),al++[i7 [eJ]])
     | none=>none
     else none
    | _=>none
   | none=>none
  | _=>none
 | _,_=>none
def pc (a2:Nat->Option (List a8))(b9:Nat->Option Nat)(a6:hQ)(bN:hh->Bool):mF->aH->Option (aH×List Prop)
 | .bo c,x=>if x.UT then (match c with | .cZ .id=>some (x,[])|c=>pL a2 b9 a6 bN c x) else pL a2 b9 a6 bN c x
 | .comp l,.dX c=>match mS (pL a2 b9 a6 bN) l c with
  | some (eJ,al)=>some (.dX eJ,al)
  | none=>none
 | .comp l,.fn f c=>match mS (pL a2 b9 a6 bN) l c with
  | some (eJ,al)=>some (.fn f eJ,al)
  | none=>none
 | _,_=>none
def wa (row:List a8):Prop:= ∀I∈row,i7 I.es/\I.cN = .live
def nS (row:List a8):Prop:= ∀I∈row,I.cN = .live\/I.cN = .gone
def pu (b9:Nat->Option Nat):aH->aH
 | .ref r k i off=>match b9 r with|some j=> .ref j k i off|none=> .dead
 | .bk r k b3 len=>match b9 r with|some j=> .bk j k b3 len|none=> .dead
 | .jT r c sz h=>match b9 r with|some j=> .jT j c sz h|none=> .dead
 | x=>if x.jo then x else .dead
def kG (b9:Nat->Option Nat)(I:a8):a8:={I with es:=I.es.map fun e=>e.map (pu b9)}
def ke (a2:Nat->Option (List a8))(b9:Nat->Option Nat)(a6:hQ)(bN:hh->Bool):jx->List a8->Option (List a8×List Prop)
 | .pure,row=>some (row,[wa row])
 | .cO eN,row=>some (eN,[row=eN,wa eN])
 | .bp eN,row=>some (eN,[eN=row.map (kG b9),nS row])
 | .box l,[I]=>match I.es with
  | [c]=>if I.cN = .live then match mS (mR a2 b9 a6 bN) l c with
   | some (eJ,al)=>some ([{I with es:=[eJ]}],al)
   | none=>none
   else none
  | _=>none
 | _,_=>none
structure vK (q:aH->Prop) (bN:hh->Bool):Prop extends Down q where
 all : ∀k,bN k=true-> ∀x,q x
theorem wJ (bN:hh->Bool):vK nd bN:={toDown:=afT,all:=fun _ _ _=>trivial}
theorem ag6:vK b2 (fun _=>false):={toDown:=afV,all:=fun _ h=>by simp at h}
structure n9 (s:S) (a6:hQ) (b9:Nat->Option Nat) (bN:hh->Bool):Prop where
 ad : ∀r j,b9 r=some j-> ∀k,a6 j k=some (r,k)
 aS : ∀r,b9 r=none-> ∀k I,s.al r k=some I->bN I.cN=true-> ∀j i,a6 j i≠some (r,k)
section
variable {g:G} {s:S} {aF:ga} {w:World} {a6:hQ} {b9:Nat->Option Nat} {bN:hh->Bool} {q:aH->Prop}
theorem Hp {α β:Type}(f:α->β->Option (β×List Prop)): ∀(l:List α) (m aJ:List β) (al:List Prop),mS f l m=some (aJ,al) ->
 aJ.length=m.length/\l.length=m.length/\ ∀(j:Nat) b k1,m[j]? = some b->aJ[j]? = some k1-> ∃x ck,l[j]? = some x/\f x b=some (k1,ck)/\ ∀p∈ck,p∈al
 | [],[],aJ,al,h=>by simp[mS] at h;obtain⟨rfl,rfl⟩:=h;exact⟨rfl,rfl,fun j b k1 aU=>by simp at aU⟩
 | [],_::_,_,_,h=>by simp[mS] at h
 | _::_,[],_,_,h=>by simp[mS] at h
 | x::l,b::m,aJ,al,h=>by
  simp only[mS] at h;split at h
  ·rename_i k1 bX ik aP h1 o
   simp only[dB,dD] at h;obtain⟨rfl,rfl⟩:=h;obtain⟨e1,aB,bP⟩:=Hp f l m ik aP o;refine⟨by simp[e1],by simp[aB],fun j c eJ a3 uu=> ?_⟩
   cases j with
   | zero =>
    simp at a3 uu;subst a3;subst uu;exact⟨x,bX,rfl,h1,fun p ah=>by simp[ah]⟩
   | succ j =>
    simp at a3 uu;obtain⟨y,ck,f1,f2,f3⟩:=bP j c eJ a3 uu;exact⟨y,ck,by simpa using f1,f2,fun p ah=>by simp[f3 p ah]⟩
  ·simp at h
theorem Lk (et:jt g s aF w)(H:n9 s a6 b9 bN)(bG:vK q bN){c:tH}{x c7:aH}{al:List Prop}(h:mR s.a2 b9 a6 bN c x=some (c7,al))(bs:∀p∈al,p)
 (a5:q x) {v:Value} (ai:Rel w (s.ok g aF w) s.bh (s.bm aF) x v):iT s a6 bN q x c7:=by
 have kr : ∀ {r k b3 len:Nat},x = .bk r k b3 len->s.bh r k:=by intro r k b3 len e;subst e;cases ai<;>assumption
 cases c with
 | id =>
  simp only[mR] at h;split at h
  ·rename_i aS;simp only[dB,dD] at h;obtain⟨rfl,rfl⟩:=h;exact .pure (ai.B1 aS) a5
  ·split at h
   ·rename_i r k i off _
    split at h
    ·rename_i j av;simp only[dB,dD] at h;obtain⟨rfl,rfl⟩:=h;exact .ref i off (H.ad r j av k) (by cases ai<;>assumption)
    ·simp at h
   ·rename_i r k b3 len _
    split at h
    ·rename_i j av;simp only[dB,dD] at h;obtain⟨rfl,rfl⟩:=h;exact .bk b3 len (H.ad r j av k) (kr rfl)
    ·simp at h
   ·rename_i r c sz gH _
    split at h
    ·rename_i j av;simp only[dB,dD] at h;obtain⟨rfl,rfl⟩:=h;exact .jT gH (fun k=>H.ad r j av _)
    ·simp at h
   ·simp at h
 | gg sz =>
  cases x<;>simp[mR] at h
  ·obtain⟨rfl,rfl⟩:=h;exact .f6 sz
  ·obtain⟨rfl,rfl⟩:=h;exact .jS sz
 | e7 ht =>
  cases x<;>simp only[mR,reduceCtorEq] at h;rename_i r k b3 len;split at h
  ·rename_i I an
   split at h
   ·rename_i a3
    simp only[dM,Option.isNone_iff_eq_none] at a3;simp only[dB,dD] at h;obtain⟨rfl,rfl⟩:=h;have h1:ht=(I.es.drop b3).take len:=bs _ (by simp);have o:b3+len<=I.es.length:=bs _ (by simp);have U:i7 ht:=bs _ (by simp);have eK:s.al r k=some I:=an
    have hlen : ∀e∈I.es,e.length=I.sz:=by
     have gq:=et.obj r k I eK
     cases ah:aF r k with
     | none=>rw[ah] at gq;simp only[kd] at gq;rw[gq];simp
     | some q=>rw[ah] at gq;obtain⟨_,_,_,_,e,_⟩:=gq;exact e
    refine .isl eK a3.1 (H.aS r a3.2 k I eK a3.1) o U ?_ ?_ ?_
    ·rw[h1];exact fun e he=>hlen e (List.mem_of_mem_drop (List.mem_of_mem_take he))
    ·rw[h1];simp;omega
    ·intro j y nk a1 pv;rw[h1] at pv;rw[a1] at pv;simp at pv;subst pv;rw[h1] at U;obtain⟨e,he,FC⟩:=uO a1;exact .pure (U e he y FC) (bG.all _ a3.1 y)
   ·simp at h
  ·simp at h
 | kw =>
  simp only[mR,dB,dD] at h;obtain⟨rfl,rfl⟩:=h;exact .dead x
 | cO y =>
  simp only[mR] at h;split at h
  ·rename_i aS;simp only[dB,dD] at h;obtain⟨rfl,rfl⟩:=h;have e:x=y:=bs _ (by simp);subst e;exact .pure (ai.B1 aS) a5
  ·simp at h
 | len n =>
  cases x<;>simp only[mR,reduceCtorEq] at h;rename_i r k b3 len;split at h
  ·rename_i j av;simp only[dB,dD] at h;obtain⟨rfl,rfl⟩:=h;have e:len=n:=bs _ (by simp);subst e;exact .bk b3 len (H.ad r j av k) (kr rfl)
  ·simp at h
 | at_ j i n =>
  cases x<;>simp only[mR,reduceCtorEq] at h
  ·rename_i r k x y;simp only[dB,dD] at h;obtain⟨rfl,rfl⟩:=h;exact .ref x y (bs _ (List.mem_cons_self)) (by cases ai<;>assumption)
  ·rename_i r k b3 len;simp only[dB,dD] at h;obtain⟨rfl,rfl⟩:=h;have e:len=n:=bs _ (by simp);subst e;exact .bk b3 len (bs _ (List.mem_cons_self)) (kr rfl)
 | view ew I ht =>
  cases x<;>simp only[mR,reduceCtorEq] at h;rename_i r k b3 len;split at h
  ·rename_i row kq ei afY
   split at h
   ·rename_i a3
    simp only[dM,Option.isNone_iff_eq_none] at a3;simp only[dB,dD] at h;obtain⟨rfl,rfl⟩:=h;have h1:d5 (some row) k=some I:=bs _ (by simp);have o:bN I.cN=true:=bs _ (by simp);have U:b3+len<=I.es.length:=bs _ (by simp);have ak:i7 ht:=bs _ (by simp);have ax:Gl ew kq bN I.sz ((I.es.drop b3).take len) ht:=bs _ (by simp);have eK:s.al r k=some I:=(by unfold S.al;rw[ei];exact h1);obtain⟨d1,d2,NO⟩:=ax;refine .isl eK o (H.aS r a3.1 k I eK o) U ak d2 (by rw[d1];simp;omega) fun j y nk a1 pv=> ?_;rcases NO j y nk a1 pv with ⟨rfl,aS⟩|⟨cq,VO,rfl,rfl⟩|⟨k2,IL,Ip,p,FD,e1,aB,bP,dd,rfl⟩
    ·obtain⟨e,he,FC⟩:=uO pv;exact .pure (ak e he nk FC) (bG.all _ o _)
    ·exact .og _ _ _
    ·have mh:s.al ew k2=some p:=by unfold S.al;rw[afY];exact e1
     have hlen : ∀e∈p.es,e.length=p.sz:=by
      have gq:=et.obj ew k2 p mh
      cases ah:aF ew k2 with
      | none=>rw[ah] at gq;simp only[kd] at gq;rw[gq];simp
      | some q=>rw[ah] at gq;obtain⟨_,_,_,_,e,_⟩:=gq;exact e
     have UU:iT s a6 bN q (.bk ew k2 IL Ip) (.isl p.sz ((p.es.drop IL).take Ip)):=(by refine .isl mh aB (H.aS ew a3.2 k2 p mh aB) bP dd (fun e he=>hlen e (List.mem_of_mem_drop (List.mem_of_mem_take he))) (by simp;omega) fun j z akN cC uw=> ?_;rw[cC] at uw;simp at uw;subst uw;obtain⟨e,he,ag7⟩:=uO cC;exact .pure (dd e he z ag7) (bG.all _ aB _));rcases FD with rfl|⟨cZ,aj9,kl,rfl,rfl,rfl⟩
     ·exact UU
     ·exact .pj UU
   ·simp at h
  ·simp at h
 | uD sz =>
  simp only[mR] at h;split at h
  ·simp only[dB,dD] at h;obtain⟨rfl,rfl⟩:=h;exact .H9 _
  ·split at h
   ·rename_i e;subst e;simp only[dB,dD] at h;obtain⟨rfl,rfl⟩:=h;exact .hE (.pure (ai.B1 rfl) a5)
   ·simp at h
  ·simp at h
theorem D6 (et:jt g s aF w)(H:n9 s a6 b9 bN)(bG:vK q bN){l:List tH}{c eJ:List aH}{al:List Prop}(h:mS (mR s.a2 b9 a6 bN) l c=some (eJ,al))(bs:∀p∈al,p)
 (a5 : ∀x∈c,q x) {vs:List Value} (aX:vs.length=c.length) (ai : ∀(j:Nat) x u,c[j]? = some x->vs[j]? = some u->Rel w (s.ok g aF w) s.bh (s.bm aF) x u) :
 eJ.length=c.length/\ ∀(j:Nat) x c7,c[j]? = some x->eJ[j]? = some c7->iT s a6 bN q x c7:=by
 obtain⟨e1,aB,bP⟩:=Hp _ l c eJ al h;refine⟨e1,fun j x c7 ab ex=> ?_⟩;obtain⟨y,ck,f1,f2,f3⟩:=bP j x c7 ab ex;have ez:j<vs.length:=by have:=gB ab;omega
 exact Lk et H bG f2 (fun p ah=>bs p (f3 p ah)) (a5 x (dH ab)) (ai j x _ ab (dz ez))
theorem Ll (et:jt g s aF w)(H:n9 s a6 b9 bN)(bG:vK q bN){c:CI}{x c7:aH}{al:List Prop}(h:pL s.a2 b9 a6 bN c x=some (c7,al))(bs:∀p∈al,p)
 (a5:q x) {v:Value} (ai:Rel w (s.ok g aF w) s.bh (s.bm aF) x v):iT s a6 bN q x c7:=by
 cases c with
 | cZ c =>
  simp only[pL] at h;split at h
  ·rename_i aS
   split at h
   ·simp only[dB,dD] at h;obtain⟨rfl,rfl⟩:=h;exact .pure (ai.Ia aS) a5
   ·simp only[dB,dD] at h;obtain⟨rfl,rfl⟩:=h;exact .dead _
   ·simp only[dB,dD] at h;obtain⟨rfl,rfl⟩:=h;have e:=bs _ (List.mem_singleton.2 rfl);subst e;exact .pure (ai.Ia aS) a5
   ·exact Lk et H bG h bs a5 ai
  ·exact Lk et H bG h bs a5 ai
 | agg l =>
  cases x<;>simp only[pL,reduceCtorEq] at h;rename_i c;split at h
  ·rename_i eJ oY a3;simp only[dB,dD] at h;obtain⟨rfl,rfl⟩:=h;obtain⟨vs,rfl,aX,-,FE⟩:=ai.BD;obtain⟨e1,aB⟩:=D6 et H bG a3 bs (fun y a1=>bG.agg _ _ a5 a1) aX FE;exact .agg e1 aB
  ·simp at h
 | ptr l =>
  cases x<;>simp only[pL,reduceCtorEq] at h;rename_i r k i off;split at h
  ·rename_i I an
   split at h
   ·rename_i c iK
    split at h
    ·rename_i a3
     simp only[dM,Option.isNone_iff_eq_none] at a3;split at h
     ·rename_i eJ oY jI
      simp only[dB,dD] at h;obtain⟨rfl,rfl⟩:=h;have eK:s.al r k=some I:=an;have gq:=et.obj r k I eK
      cases ah:aF r k with
      | none=>rw[ah] at gq;simp only[kd] at gq;rw[iK] at gq;simp at gq
      | some q =>
       obtain⟨b,m⟩:=q;rw[ah] at gq;obtain⟨cJ,fp,g1,g2,g3,g4⟩:=gq;have Mw:c.length=I.sz:=g3 c (by rw[iK];simp);have kQ:I.es.flatten=c:=(by rw[iK];simp);have hcs : ∀j:Nat,j<c.length-> ∃u,cJ[j]? = some u/\Rel w (s.ok g aF w) s.bh (s.bm aF) c[j]! u:=(by intro j av;obtain⟨u,jV,-,ia⟩:=g4 j c[j] (by rw[kQ];exact dz av);exact⟨u,jV,by rw[getElem!_pos c j av];exact ia⟩);obtain⟨e1,aB⟩:=D6 (vs:=(List.range c.length).map fun j=>(cJ[j]?).getD undef) et H bG jI (fun p ah=>bs p (by simp[ah])) (fun y _=>bG.all _ a3.1 y) (by simp) (by intro j y u a1 hu;have av:=gB a1;rw[dJ,List.getElem?_range av] at hu;simp only[Option.map_some,dB] at hu;obtain⟨mo,jV,ia⟩:=hcs j av;rw[jV] at hu;simp at hu;subst hu;rw[dz av] at a1;simp at a1;subst a1;rw[getElem!_pos c j av] at ia;exact ia);have vb:i7 [eJ]:=bs _ (by simp);refine .fa i off eK a3.1 (H.aS r a3.2 k I eK a3.1) (by rw[iK];simp) vb (by simp;omega) (by rw[iK];rfl) ?_
       ·intro j y nk a1 pv;rw[kQ] at a1;simp only[List.flatten_cons,List.flatten_nil,List.append_nil] at pv;exact aB j y nk a1 pv
     ·simp at h
    ·simp at h
   ·simp at h
  ·simp at h
 | vj l =>
  simp only[pL] at h;split at h
  ·rename_i r k
   split at h
   ·rename_i I an
    split at h
    ·rename_i c iK
     split at h
     ·rename_i a3
      simp only[dM,Option.isNone_iff_eq_none] at a3;split at h
      ·rename_i eJ oY jI
       simp only[dB,dD] at h;obtain⟨rfl,rfl⟩:=h;have eK:s.al r k=some I:=an;have gq:=et.obj r k I eK
       cases ah:aF r k with
       | none=>rw[ah] at gq;simp only[kd] at gq;rw[iK] at gq;simp at gq
       | some q =>
        obtain⟨b,m⟩:=q;rw[ah] at gq;obtain⟨cJ,fp,g1,g2,g3,g4⟩:=gq;have Mw:c.length=I.sz:=g3 c (by rw[iK];simp);have kQ:I.es.flatten=c:=(by rw[iK];simp);have hcs : ∀j:Nat,j<c.length-> ∃u,cJ[j]? = some u/\Rel w (s.ok g aF w) s.bh (s.bm aF) c[j]! u:=(by intro j av;obtain⟨u,jV,-,ia⟩:=g4 j c[j] (by rw[kQ];exact dz av);exact⟨u,jV,by rw[getElem!_pos c j av];exact ia⟩);obtain⟨e1,aB⟩:=D6 (vs:=(List.range c.length).map fun j=>(cJ[j]?).getD undef) et H bG jI (fun p ah=>bs p (by simp[ah])) (fun y _=>bG.all _ a3.1 y) (by simp) (by intro j y u a1 hu;have av:=gB a1;rw[dJ,List.getElem?_range av] at hu;simp only[Option.map_some,dB] at hu;obtain⟨mo,jV,ia⟩:=hcs j av;rw[jV] at hu;simp at hu;subst hu;rw[dz av] at a1;simp at a1;subst a1;rw[getElem!_pos c j av] at ia;exact ia);have vb:i7 [eJ]:=bs _ (by simp);refine .hE (.fa 0 0 eK a3.1 (H.aS r a3.2 k I eK a3.1) (by rw[iK];simp) vb (by simp;omega) (by rw[iK];rfl) ?_)
        ·intro j y nk a1 pv;rw[kQ] at a1;simp only[List.flatten_cons,List.flatten_nil,List.append_nil] at pv;exact aB j y nk a1 pv
      ·simp at h
     ·simp at h
    ·simp at h
   ·simp at h
  ·simp at h
theorem Ec (et:jt g s aF w)(H:n9 s a6 b9 bN)(bG:vK q bN){c:mF}{x c7:aH}{al:List Prop}(h:pc s.a2 b9 a6 bN c x=some (c7,al))(bs:∀p∈al,p)
 (a5:q x) {v:Value} (ai:Rel w (s.ok g aF w) s.bh (s.bm aF) x v):iT s a6 bN q x c7:=by
 have key : ∀(l:List CI) (c eJ:List aH) (oY:List Prop) (vs:List Value),mS (pL s.a2 b9 a6 bN) l c=some (eJ,oY)->(∀p∈oY,p)->(∀x∈c,q x)->vs.length=c.length ->
  (∀(j:Nat) x u,c[j]? = some x->vs[j]? = some u->Rel w (s.ok g aF w) s.bh (s.bm aF) x u)->eJ.length=c.length/\ ∀(j:Nat) x c7,c[j]? = some x->eJ[j]? = some c7->iT s a6 bN q x c7:=by
  intro l c eJ oY vs h bs a5 aX ai;obtain⟨e1,aB,bP⟩:=Hp _ l c eJ oY h;refine⟨e1,fun j x c7 ab ex=> ?_⟩;obtain⟨y,ck,f1,f2,f3⟩:=bP j x c7 ab ex;have ez:j<vs.length:=(by have:=gB ab;omega);exact Ll et H bG f2 (fun p ah=>bs p (f3 p ah)) (a5 x (dH ab)) (ai j x _ ab (dz ez))
 cases c with
 | bo c =>
  simp only[pc] at h;split at h
  ·rename_i aS
   split at h
   ·simp only[dB,dD] at h;obtain⟨rfl,rfl⟩:=h;exact .pure (ai.afX aS) a5
   ·exact Ll et H bG h bs a5 ai
  ·exact Ll et H bG h bs a5 ai
 | comp l =>
  cases x<;>simp only[pc,reduceCtorEq] at h
  ·rename_i c
   split at h
   ·rename_i eJ oY a3;simp only[dB,dD] at h;obtain⟨rfl,rfl⟩:=h;obtain⟨vs,rfl,aX,FE⟩:=ai.BE;obtain⟨e1,aB⟩:=key l c eJ oY vs a3 bs (fun y a1=>bG.dX _ _ a5 a1) aX FE;exact .dX e1 aB
   ·simp at h
  ·rename_i f c
   split at h
   ·rename_i eJ oY a3;simp only[dB,dD] at h;obtain⟨rfl,rfl⟩:=h;obtain⟨vs,rfl,aX,FE⟩:=ai.HW;obtain⟨e1,aB⟩:=key l c eJ oY vs a3 bs (fun y a1=>bG.fn _ _ _ a5 a1) aX FE;exact .fn e1 aB
   ·simp at h
theorem UW (et:jt g s aF w)(H:n9 s a6 b9 bN){r:Nat}{ld:Nat->Nat}{row:List a8}(ei:∀k I,d5 (some row) k=some I->s.al r (ld k)=some I)
 (a5 : ∀k I,d5 (some row) k=some I-> ∀e∈I.es,∀x∈e,q x) :
 ∀(k:Nat) ck,d5 (some (row.map (kG b9))) k=some ck-> ∃I,d5 (some row) k=some I/\pW s a6 bN q I ck:=by
 intro k ck eK;rw[lv,dJ] at eK
 cases aY:row[k]? with
 | none=>rw[aY] at eK;simp at eK
 | some I =>
  rw[aY] at eK;simp only[Option.map_some,dA] at eK;split at eK
  ·simp at eK
  ·rename_i dp
   simp only[dB] at eK;subst eK;have an:d5 (some row) k=some I:=(by rw[lv,aY,dA,dy (by simpa [kG] using dp)]);have bK:s.al r (ld k)=some I:=ei k I an;refine⟨I,an,?_⟩;have gq:=et.obj r (ld k) I bK
   have hlen : ∀e∈I.es,e.length=I.sz:=by
    cases ah:aF r (ld k) with
    | none=>rw[ah] at gq;simp only[kd] at gq;rw[gq];simp
    | some q=>rw[ah] at gq;obtain⟨_,_,_,_,e,_⟩:=gq;exact e
   refine⟨rfl,.inl rfl,by simp[kG],?_,fun j x c7 ab ex=> ?_⟩
   ·intro e he;simp only[kG,List.mem_map] at he;obtain⟨e2,m9,rfl⟩:=he;simpa using hlen e2 m9
   ·simp only[kG] at ex
    rw[map_flatten,dJ,ab] at ex;simp only[Option.map_some,dB] at ex;subst ex;obtain⟨e,he,sR⟩:=uO ab;have ag8:=a5 k I an e he x sR
    cases ah:aF r (ld k) with
    | none=>rw[ah] at gq;simp only[kd] at gq;rw[gq] at ab;simp at ab
    | some vJ =>
     obtain⟨b,m⟩:=vJ;rw[ah] at gq;obtain⟨c,fp,f1,f2,f3,f4⟩:=gq;obtain⟨u,jV,ma,ia⟩:=f4 j x ab
     cases x with
     | ref bR k2 nI agt =>
      cases cf:b9 bR with
      | none=>simp only[pu,cf];exact .dead _
      | some zf=>simp only[pu,cf];exact .ref nI agt (H.ad _ _ cf _) (by cases ia<;>assumption)
     | bk bR k2 IL Ip =>
      cases cf:b9 bR with
      | none=>simp only[pu,cf];exact .dead _
      | some zf=>simp only[pu,cf];exact .bk IL Ip (H.ad _ _ cf _) (by cases ia<;>assumption)
     | jT bR cq VO o =>
      cases cf:b9 bR with
      | none=>simp only[pu,cf];exact .dead _
      | some zf=>simp only[pu,cf];exact .jT o (fun k=>H.ad _ _ cf _)
     | _ =>
      simp only[pu];split
      ·rename_i aS;exact .pure (ia.B1 aS) ag8
      ·exact .dead _
theorem Hq (et:jt g s aF w)(H:n9 s a6 b9 bN)(bG:vK q bN){c:jx}{r:Nat}{ld:Nat->Nat}{row eN:List a8}{al:List Prop}(ei:∀k I,d5 (some row) k=some I->s.al r (ld k)=some I)
 (h:ke s.a2 b9 a6 bN c row=some (eN,al)) (bs : ∀p∈al,p) (a5 : ∀k I,d5 (some row) k=some I-> ∀e∈I.es,∀x∈e,q x) :
 eN.length=row.length/\(∀k I,d5 (some row) k=some I->I.cN = .live) /\
 ∀(k:Nat) ck,d5 (some eN) k=some ck-> ∃I,d5 (some row) k=some I/\pW s a6 bN q I ck:=by
 have hlen : ∀k I,d5 (some row) k=some I-> ∀e∈I.es,e.length=I.sz:=by
  intro k I an;have eK:s.al r (ld k)=some I:=ei k I an;have gq:=et.obj r (ld k) I eK
  cases ah:aF r (ld k) with
  | none=>rw[ah] at gq;simp only[kd] at gq;rw[gq];simp
  | some q=>rw[ah] at gq;obtain⟨_,_,_,_,e,_⟩:=gq;exact e
 have vb:wa row->(∀k I,d5 (some row) k=some I->I.cN = .live) /\
  ∀(k:Nat) ck,d5 (some row) k=some ck-> ∃I,d5 (some row) k=some I/\pW s a6 bN q I ck:=by
  intro ah
  have uq : ∀k I,d5 (some row) k=some I->I∈row:=by
   intro k I an;unfold d5 at an;simp only at an;split at an
   ·rename_i ck eK
    split at an
    ·simp at an
    ·simp at an;subst an;exact dH eK
   ·simp at an
  refine⟨fun k I an=>(ah I (uq k I an)).2,fun k I an=>⟨I,an,rfl,.inl rfl,rfl,hlen k I an,fun j x c7 ab ex=> ?_⟩⟩;rw[ab] at ex;simp at ex;subst ex;obtain⟨e,he,sR⟩:=uO ab;exact .pure ((ah I (uq k I an)).1 e he x sR) (a5 k I an e he x sR)
 cases c with
 | pure =>
  simp only[ke,dB,dD] at h;obtain⟨rfl,rfl⟩:=h;exact⟨rfl,vb (bs _ (by simp))⟩
 | cO aK =>
  simp only[ke,dB,dD] at h;obtain⟨rfl,rfl⟩:=h;have e:row=aK:=bs _ (by simp);subst e;exact⟨rfl,vb (bs _ (by simp))⟩
 | bp aK =>
  simp only[ke,dB,dD] at h;obtain⟨rfl,rfl⟩:=h;have e:aK=row.map (kG b9):=bs _ (by simp);have MZ:nS row:=bs _ (by simp);subst e
  refine⟨by simp,fun k I an=>by
   unfold d5 at an;simp only at an;split at an
   ·rename_i ck eK
    split at an
    ·simp at an
    ·rename_i dp;simp at an;subst an;exact(MZ _ (dH eK)).resolve_right dp
   ·simp at an,UW et H ei a5⟩
 | rx aK=>cases row with
  | nil=>simp[ke] at h
  | cons I l=>cases l<;>simp[ke] at h
 | drop=>cases row with
  | nil=>simp[ke] at h
  | cons I l=>cases l<;>simp[ke] at h
 | box l =>
  match row,h with
  | [I],h =>
   simp only[ke] at h;split at h
   ·rename_i c iK
    split at h
    ·rename_i ps
     split at h
     ·rename_i eJ oY a3
      simp only[dB,dD] at h;obtain⟨rfl,rfl⟩:=h;have h0:d5 (some [I]) 0=some I:=(by rw[nq];simp[ps]);refine⟨rfl,fun k p ah=> ?_,fun k p ah=> ?_⟩
      ·rw[nq] at ah
       split at ah
       ·simp at ah;subst ah;exact ps
       ·simp at ah
      ·rw[nq] at ah
       split at ah
       ·rename_i vv
        obtain⟨rfl,-⟩:=vv;simp only[dB] at ah;subst ah;refine⟨I,h0,?_⟩;have eK:s.al r (ld 0)=some I:=ei 0 I h0;have gq:=et.obj r (ld 0) I eK
        cases lx:aF r (ld 0) with
        | none=>rw[lx] at gq;simp only[kd] at gq;rw[iK] at gq;simp at gq
        | some q =>
         obtain⟨b,m⟩:=q;rw[lx] at gq;obtain⟨cJ,fp,g1,g2,g3,g4⟩:=gq;have Mw:c.length=I.sz:=g3 c (by rw[iK];simp);have kQ:I.es.flatten=c:=(by rw[iK];simp);obtain⟨e1,aB⟩:=D6 (vs:=(List.range c.length).map fun j=>(cJ[j]?).getD undef) et H bG a3 bs (fun y a1=>a5 0 I h0 c (by rw[iK];simp) y a1) (by simp) (by intro j y u a1 hu;have av:=gB a1;rw[dJ,List.getElem?_range av] at hu;simp only[Option.map_some,dB] at hu;obtain⟨mo,jV,-,ia⟩:=g4 j y (by rw[kQ];exact a1);rw[jV] at hu;simp at hu;subst hu;exact ia);refine⟨rfl,.inl rfl,by simp[iK],by simp;omega,fun j x c7 ab ex=> ?_⟩;rw[kQ] at ab;simp only[List.flatten_cons,List.flatten_nil,List.append_nil] at ex;exact aB j x c7 ab ex
       ·simp at ah
     ·simp at h
    ·simp at h
   ·simp at h
  | [],h=>simp[ke] at h
  | _::_::_,h=>simp[ke] at h
end
def Hr (P:Program)(f:FuncId):Prop:= ∃fn,P.funcs[f]? = some fn/\(fn.name == "runtime.NumGoroutine")=false/\fn.body.isSome=true
def Con (P:Program)(f:FuncId)(args:List aH)(T:List (List a8))(r:aH)(h3:List (List a8)):Prop:=Hr P f/\afU P f args T r h3
def vc (k:hh):Bool:=k = .jH
def lM (_:hh):Bool:=true
def l4 (_:hh):Bool:=false
def Src.r:Src->Nat
 | .row r=>r
 | .al r _ _=>r
def Src.has:Src->Nat->Nat->Prop
 | .row r,q,_=>q=r
 | .al r k _,q,ey=>q=r/\ey=k
def Src.lp:Src->Nat->Nat
 | .row _,k=>k
 | .al ..,_=>0
def lU (l:List Src):hQ:=fun j i=>match l[j]? with
 | some (.row r)=>some (r,i)
 | some (.al r k _)=>if i=0 then some (r,k) else none
 | none=>none
def qx (n:Nat):List Src->Nat->Option Nat
 | [],_=>none
 | .row r::l,q=>if r=q then some n else qx (n+1) l q
 | .al .. :: l,q=>qx (n+1) l q
def ks (n:Nat):List Src->hQ
 | [],_,_=>none
 | .row r::l,q,k=>if q=r then some (n,k) else ks (n+1) l q k
 | .al r ey _::l,q,k=>if q=r/\k=ey then some (n,0) else ks (n+1) l q k
def vd (l:List Src):Nat->Option Nat:=fun j=>match l[j]? with
 | some (.row r)=>some r
 | _=>none
def apart:Src->Src->Option (List Prop)
 | .al r k _,.al fq ey _=>if r=fq then some [k≠ey] else some []
 | a,b=>if a.r=b.r then none else some []
def HY (a:Src):List Src->Option (List Prop)
 | []=>some []
 | b::l=>match apart a b,HY a l with
  | some x,some y=>some (x++y)
  | _,_=>none
def Ib:List Src->Option (List Prop)
 | []=>some []
 | a::l=>match HY a l,Ib l with
  | some x,some y=>some (x++y)
  | _,_=>none
def Fc (l:List Src):Prop:=l.Pairwise fun a b=> ∀r k,¬(a.has r k/\b.has r k)
theorem adF {a b:Src}{al:List Prop}(h:apart a b=some al)(bs:∀p∈al,p): ∀r k,¬(a.has r k/\b.has r k):=by
 rintro r k ⟨h1,o⟩
 have ai : ∀c:Src,c.has r k->c.r=r:=fun c a3=>by
  cases c with
  | row r0=>exact Eq.symm a3
  | al r0 kl mI=>exact Eq.symm a3.1
 have e:=(ai a h1).trans (ai b o).symm
 cases a with
 | row r0=>simp only[apart] at h;rw[dw e] at h;simp at h
 | al r0 kl mI =>
  cases b with
  | row r1=>simp only[apart] at h;rw[dw e] at h;simp at h
  | al r1 lX bX =>
   simp only[apart] at h;rw[dw (show r0=r1 from e)] at h;simp only[dB] at h;subst h;exact bs _ (List.mem_singleton.2 rfl) (h1.2.symm.trans o.2)
theorem SC {a:Src}: ∀ {l:List Src} {al:List Prop},HY a l=some al->(∀p∈al,p)-> ∀b∈l,∀r k,¬(a.has r k/\b.has r k)
 | [],_,_,_,_,aU=>by simp at aU
 | b::l,al,h,bs,c,a3=>by
  simp only[HY] at h;split at h
  ·rename_i x y h1 o
   simp only[dB] at h;subst h;rcases List.mem_cons.1 a3 with rfl|a3
   ·exact adF h1 fun p ah=>bs p (by simp[ah])
   ·exact SC o (fun p ah=>bs p (by simp[ah])) c a3
  ·simp at h
theorem Tc : ∀ {l:List Src} {al:List Prop},Ib l=some al->(∀p∈al,p)->Fc l
 | [],_,_,_=>List.Pairwise.nil
 | a::l,al,h,bs=>by
  simp only[Ib] at h;split at h
  ·rename_i x y h1 o;simp only[dB] at h;subst h;exact List.pairwise_cons.2 ⟨SC h1 fun p ah=>bs p (by simp[ah]),Tc o fun p ah=>bs p (by simp[ah])⟩
  ·simp at h
theorem wc {l:List Src}{j i r k:Nat}:lU l j i=some (r,k)↔ ∃a,l[j]? = some a/\a.has r k/\i=a.lp k:=by
 unfold lU
 cases h:l[j]? with
 | none=>simp
 | some a =>
  cases a with
  | row r0 =>
   simp only[dB,dD,exists_eq_left',Src.has,Src.lp];constructor<;>rintro⟨a,b⟩<;>exact⟨a.symm,b⟩
  | al r0 kl I =>
   simp only[dB,exists_eq_left',Src.has,Src.lp];by_cases e:i=0
   ·rw[dw e];simp only[dB,dD,e,and_true];constructor<;>rintro⟨a,b⟩<;>exact⟨a.symm,b.symm⟩
   ·rw[dy e];simp[e]
theorem xR : ∀ {l:List Src} {n r k j i:Nat},ks n l r k=some (j,i)-> ∃a,n<=j/\l[j-n]? = some a/\a.has r k/\i=a.lp k
 | [],_,_,_,_,_,h=>by simp[ks] at h
 | .row r0::l,n,r,k,j,i,h=>by
  simp only[ks] at h;split at h
  ·rename_i e;simp only[dB,dD] at h;obtain⟨rfl,rfl⟩:=h;exact⟨.row r0,dE _,by simp,e,rfl⟩
  ·obtain⟨a,h1,o,U,ak⟩:=xR h;exact⟨a,by omega,by rw[show j-n=(j-(n+1))+1 by omega,List.getElem?_cons_succ];exact o,U,ak⟩
 | .al r0 kl I::l,n,r,k,j,i,h=>by
  simp only[ks] at h;split at h
  ·rename_i e;simp only[dB,dD] at h;obtain⟨rfl,rfl⟩:=h;exact⟨.al r0 kl I,dE _,by simp,e,rfl⟩
  ·obtain⟨a,h1,o,U,ak⟩:=xR h;exact⟨a,by omega,by rw[show j-n=(j-(n+1))+1 by omega,List.getElem?_cons_succ];exact o,U,ak⟩
theorem t0 (n:Nat)(a:Src)(l:List Src)(r k:Nat)(h:¬a.has r k):ks n (a::l) r k=ks (n+1) l r k:=by cases a<;>simp only[ks,Src.has] at h ⊢ <;> rw[dy h]
theorem adG (n:Nat)(a:Src)(l:List Src)(r k:Nat)(h:a.has r k):ks n (a::l) r k=some (n,a.lp k):=by cases a<;>simp only[ks,Src.has,Src.lp] at h ⊢ <;> rw[dw h]
theorem Ex : ∀ {l:List Src} {n r k j:Nat} {a:Src},Fc l->l[j]? = some a->a.has r k->ks n l r k=some (n+j,a.lp k)
 | b::l,n,r,k,0,a,_,h,bI=>by simp at h;subst h;exact adG n b l r k bI
 | b::l,n,r,k,j+1,a,bG,h,bI=>by simp at h;have bG:=List.pairwise_cons.1 bG;rw[t0 n b l r k fun aU=>bG.1 a (dH h) r k ⟨aU,bI⟩,Ex (j:=j) bG.2 h bI];congr 2;omega
theorem afd {a:Src}{r k fq ey:Nat}(h:a.has r k)(c0:a.has fq ey)(e:a.lp k=a.lp ey):r=fq/\k=ey:=by cases a<;>simp only[Src.has,Src.lp] at h c0 e<;>omega
theorem aey {l:List Src}{n r k fq ey:Nat}{p:Nat×Nat}(h:ks n l r k=some p)(c0:ks n l fq ey=some p):r=fq/\k=ey:=by obtain⟨j,i⟩:=p;obtain⟨a,h1,o,U,ak⟩:=xR h;obtain⟨er,sQ,M0,ag9,aka⟩:=xR c0;rw[o] at M0;simp at M0;subst M0;exact afd U ag9 (by omega)
theorem K8 : ∀ {l:List Src} {n r j:Nat},qx n l r=some j->n<=j/\l[j-n]? = some (.row r)
 | [],_,_,_,h=>by simp[qx] at h
 | .row r0::l,n,r,j,h=>by
  simp only[qx] at h;split at h
  ·rename_i e;simp at h;subst h;subst e;exact⟨dE _,by simp⟩
  ·obtain⟨h1,o⟩:=K8 h;exact⟨by omega,by rw[show j-n=(j-(n+1))+1 by omega,List.getElem?_cons_succ];exact o⟩
 | .al r0 kl I::l,n,r,j,h=>by simp only[qx] at h;obtain⟨h1,o⟩:=K8 h;exact⟨by omega,by rw[show j-n=(j-(n+1))+1 by omega,List.getElem?_cons_succ];exact o⟩
theorem SD : ∀ {l:List Src} {n r:Nat},qx n l r=none->Src.row r ∉ l
 | [],_,_,_=>by simp
 | .row r0::l,n,r,h=>by
  simp only[qx] at h;split at h
  ·simp at h
  ·rename_i e;simp only[List.mem_cons,Src.row.injEq,not_or];exact⟨fun h=>e h.symm,SD h⟩
 | .al r0 kl I::l,n,r,h=>by simp only[qx] at h;simp only[List.mem_cons,reduceCtorEq,false_or];exact SD h
def nu (a2:Nat->Option (List a8))(b9:Nat->Option Nat)(a6:hQ):List Src->List jx->Option (List (List a8)×List Prop)
 | [],[]=>some ([],[])
 | .row r::l,c::dm=>match a2 r with
  | some row=>match ke a2 b9 a6 vc c row,nu a2 b9 a6 l dm with
   | some (eN,bX),some (T,aP)=>some (eN::T,bX++aP)
   | _,_=>none
  | none=>none
 | .al r k I::l,c::dm=>match a2 r with
  | some row=>match ke a2 b9 a6 vc c [I],nu a2 b9 a6 l dm with
   | some (eN,bX),some (T,aP)=>some (eN::T,(d5 (some row) k=some I)::(bX++aP))
   | _,_=>none
  | none=>none
 | _,_=>none
def mf (zg:Nat->Option (List a8))(b9:Nat->Option Nat)(lY:hQ):(Nat->Option (List a8))->List Src->List jx->List (List a8)->Option (List (Nat×List a8)×List Prop)
 | _,[],[],[]=>some ([],[])
 | a2,.row q::l,c::dm,row::T=>match ke zg b9 lY l4 c row with
  | some (eN,bX)=>match mf zg b9 lY (fun x=>if x=q then some eN else a2 x) l dm T with
   | some (u,aP)=>some ((q,eN)::u,bX++aP)
   | none=>none
  | none=>none
 | a2,.al q k _::l,c::dm,row::T=>match a2 q with
  | some mY=>match ke zg b9 lY l4 c row with
   | some ([ck],bX)=>match mf zg b9 lY (fun x=>if x=q then some (mY.set k ck) else a2 x) l dm T with
    | some (u,aP)=>some ((q,mY.set k ck)::u,bX++aP)
    | none=>none
   | _=>none
  | none=>none
 | _,_,_,_=>none
def ou (T:List (List a8)):Prop:= ∀row∈T,∀I∈row,∀e∈I.es,∀x∈e,b2 x
def B2 (P:Program)(a2:Nat->Option (List a8))(a4:Nat)(f:FuncId)(args:List aH)(cJ:Gg):Option iQ :=
 let l:=if cJ.fc.length=cJ.a6.length then cJ.a6 else cJ.a6++[.row a4]
 match Ib cJ.a6 with
 | none=>none
 | some mI =>
  if cJ.a6.any (fun a=>decide (a.r=a4)) then none else
  if cJ.fe then
   match cJ.a6 with
   | [] =>
    match mS (pc a2 (fun _=>none) (lU []) lM) cJ.ac args,pc (fun j=>cJ.fc[j]?) (vd l) (ks 0 l) l4 cJ.gR cJ.r,
     mf (fun j=>cJ.fc[j]?) (vd l) (ks 0 l) a2 l cJ.hZ cJ.fc with
    | some (sH,bX),some (fq,fJ),some (u,eQ)=>some {val:=fq,gE:=u,f7:=bX++fJ++eQ++[Con P f sH [] cJ.r cJ.fc,b2 cJ.r]++(if cJ.fc.isEmpty then [] else [ou cJ.fc])}
    | _,_,_=>none
   | _=>none
  else
   match mS (pc a2 (qx 0 cJ.a6) (lU cJ.a6) vc) cJ.ac args,nu a2 (qx 0 cJ.a6) (lU cJ.a6) cJ.a6 cJ.dm,
    pc (fun j=>cJ.fc[j]?) (vd l) (ks 0 l) l4 cJ.gR cJ.r,mf (fun j=>cJ.fc[j]?) (vd l) (ks 0 l) a2 l cJ.hZ cJ.fc with
   | some (sH,bX),some (T,aP),some (fq,fJ),some (u,eQ) =>
    some {val:=fq,gE:=u,f7:=mI++bX++aP++fJ++eQ++[Con P f sH T cJ.r cJ.fc]}
   | _,_,_,_=>none
theorem R8 {a2:Nat->Option (List a8)}{b9:Nat->Option Nat}{a6:hQ}{bN:hh->Bool}{c:jx}{row eN:List a8}{al:List Prop}(h:ke a2 b9 a6 bN c row=some (eN,al))(bs:∀p∈al,p):
 ∀k I,d5 (some row) k=some I->I.cN = .live:=by
 have uq : ∀k I,d5 (some row) k=some I->I∈row/\I.cN≠ .gone:=by
  intro k I an;rw[lv] at an
  cases aY:row[k]? with
  | none=>rw[aY] at an;simp at an
  | some p =>
   rw[aY,dA] at an;split at an
   ·simp at an
   ·rename_i e;simp at an;subst an;exact⟨dH aY,e⟩
 intro k I an;obtain⟨h1,o⟩:=uq k I an
 cases c with
 | pure =>
  simp only[ke,dB,dD] at h;obtain⟨rfl,rfl⟩:=h;exact((bs _ (List.mem_singleton.2 rfl):wa row) I h1).2
 | cO aK =>
  simp only[ke,dB,dD] at h;obtain⟨rfl,rfl⟩:=h;have e:row=aK:=bs _ (by simp);have ah:wa aK:=bs _ (by simp);exact(ah I (e▸h1)).2
 | bp aK =>
  simp only[ke,dB,dD] at h;obtain⟨rfl,rfl⟩:=h;have ah:nS row:=bs _ (by simp);exact(ah I h1).resolve_right o
 | rx aK=>cases row with
  | nil=>simp[ke] at h
  | cons I l=>cases l<;>simp[ke] at h
 | drop=>cases row with
  | nil=>simp[ke] at h
  | cons I l=>cases l<;>simp[ke] at h
 | box l =>
  match row,h,h1 with
  | [p],h,h1 =>
   simp only[ke] at h;rw[List.mem_singleton] at h1;subst h1;split at h
   ·split at h
    ·rename_i e;exact e
    ·simp at h
   ·simp at h
  | [],h,_=>simp[ke] at h
  | _::_::_,h,_=>simp[ke] at h
section
variable {P:Program} {g:G} {s:S} {aF:ga} {a:Act} {w:World}
theorem K9 (et:jt g s aF w){a6:hQ}{b9:Nat->Option Nat}(H:n9 s a6 b9 vc): ∀(l:List Src) (dm:List jx) (T:List (List a8)) (al:List Prop),
 nu s.a2 b9 a6 l dm=some (T,al)->(∀p∈al,p)->T.length=l.length/\ ∀(j:Nat) eN b,T[j]? = some eN->l[j]? = some b ->
  (∀r k I,b.has r k->s.al r k=some I->I.cN = .live)/\(∀r k,b.has r k->s.bh r k->b.lp k<eN.length) /\
  (∀r k I,b = .al r k I->s.al r k=some I) /\
  ∀(i:Nat) ck,d5 (some eN) i=some ck-> ∃r k I,b.has r k/\i=b.lp k/\s.al r k=some I/\pW s a6 vc nd I ck
 | [],[],T,al,h,_=>by simp[nu] at h;obtain⟨rfl,rfl⟩:=h;exact⟨rfl,fun j eN r av=>by simp at av⟩
 | .row r::l,c::dm,T,al,h,bs=>by
  simp only[nu] at h;split at h
  ·rename_i row ei
   split at h
   ·rename_i az bX oE aP h1 o
    simp only[dB,dD] at h;obtain⟨rfl,rfl⟩:=h;obtain⟨e1,aB⟩:=K9 et H l dm oE aP o (fun p ah=>bs p (by simp[ah]));have kF : ∀k,s.al r k=d5 (some row) k:=fun k=>(by unfold S.al;rw[ei]);obtain⟨f0,f1,f2⟩:=Hq (q:=nd) (ld:=id) et H (wJ _) (fun k I an=>(kF k).trans an) h1 (fun p ah=>bs p (by simp[ah])) (fun _ _ _ _ _ _ _=>trivial);refine⟨by simp[e1],fun j eN b av aU=> ?_⟩
    cases j with
    | zero =>
     simp at av aU;subst av;subst aU;refine⟨fun q k I a5 an=> ?_,fun q k a5 hu=> ?_,fun _ _ _ e=>by simp at e,fun i ck eK=> ?_⟩
     ·have a5:q=r:=a5;subst a5;rw[kF] at an;exact f1 k I an
     ·have a5:q=r:=a5;subst a5;rw[f0];simpa [S.bh,ei,Src.lp] using hu
     ·obtain⟨I,g1,g2⟩:=f2 i ck eK;exact⟨r,i,I,rfl,rfl,(kF i).trans g1,g2⟩
    | succ j=>simp at av aU;exact aB j eN b av aU
   ·simp at h
  ·simp at h
 | .al r kl mI::l,c::dm,T,al,h,bs=>by
  simp only[nu] at h;split at h
  ·rename_i row ei
   split at h
   ·rename_i az bX oE aP h1 o
    simp only[dB,dD] at h;obtain⟨rfl,rfl⟩:=h;obtain⟨e1,aB⟩:=K9 et H l dm oE aP o (fun p ah=>bs p (by simp[ah]));have an:s.al r kl=some mI:=by unfold S.al;rw[ei];exact bs _ (by simp)
    have m7 : ∀k I,d5 (some [mI]) k=some I->k=0/\I=mI:=fun k I aY=>by
     rw[nq] at aY;split at aY
     ·rename_i e;simp at aY;exact⟨e.1,aY.symm⟩
     ·simp at aY
    have M1:mI.cN≠ .gone:=by
     unfold S.al at an;rw[ei,lv] at an
     cases aY:row[kl]? with
     | none=>rw[aY] at an;simp at an
     | some p =>
      rw[aY,dA] at an;split at an
      ·simp at an
      ·rename_i e;simp at an;subst an;exact e
    obtain⟨f0,f1,f2⟩:=Hq (q:=nd) (ld:=fun _=>kl) (r:=r) et H (wJ _) (fun k I aY=>by rw[(m7 k I aY).2];exact an) h1 (fun p ah=>bs p (by simp[ah])) (fun _ _ _ _ _ _ _=>trivial);refine⟨by simp[e1],fun j eN b av aU=> ?_⟩
    cases j with
    | zero =>
     simp at av aU;subst av;subst aU;refine⟨fun q k I a5 rU=> ?_,fun q k a5 hu=> ?_,fun fq ey ck e=> ?_,fun i ck eK=> ?_⟩
     ·obtain⟨rfl,rfl⟩:q=r/\k=kl:=a5;rw[an] at rU;simp at rU;subst rU;exact f1 0 mI (by rw[nq];simp[M1])
     ·rw[f0];simp[Src.lp]
     ·cases e;exact an
     ·obtain⟨I,g1,g2⟩:=f2 i ck eK;obtain⟨rfl,rfl⟩:=m7 i I g1;exact⟨r,kl,I,⟨rfl,rfl⟩,rfl,an,g2⟩
    | succ j=>simp at av aU;exact aB j eN b av aU
   ·simp at h
  ·simp at h
 | [],_::_,_,_,h,_=>by simp[nu] at h
 | .row _::_,[],_,_,h,_=>by simp[nu] at h
 | .al .. :: _,[],_,_,h,_=>by simp[nu] at h
theorem KZ {gT:G}{s1:S}{l9:ga}{bV:World}(et:jt gT s1 l9 bV){lY:hQ}{q:aH->Prop}{b9:Nat->Option Nat}(H:n9 s1 lY b9 l4)(bG:vK q l4)
 (a5 : ∀j i I,s1.al j i=some I-> ∀e∈I.es,∀x∈e,q x) :
 ∀(l:List Src) (dm:List jx) (T:List (List a8)) (u:List (Nat×List a8)) (al:List Prop) (n:Nat) (s:S),Fc l->(∀j row,T[j]? = some row->s1.a2 (n+j)=some row) ->
 (∀r k j i,ks n l r k=some (j,i)->s.bh r k->s1.bh j i)->(∀r k I,Src.al r k I∈l->s.bh r k) ->
 mf s1.a2 b9 lY s.a2 l dm T=some (u,al)->(∀p∈al,p)->T.length=l.length/\(s.jh u).E=s.E /\
  (∀r k I,(s.jh u).al r k=some I->(∃j i p,ks n l r k=some (j,i)/\s1.al j i=some p/\pW s1 lY l4 q p I)\/(ks n l r k=none/\s.al r k=some I)) /\
  (∀r k,s.bh r k->(s.jh u).bh r k)/\(∀r k j i,ks n l r k=some (j,i)->s1.bh j i->(s.jh u).bh r k)
 | [],[],[],u,al,n,s,_,_,_,_,h,_=>by simp[mf] at h;obtain⟨rfl,rfl⟩:=h;exact⟨rfl,rfl,fun r k I an=> .inr ⟨rfl,an⟩,fun r k h=>h,fun r k j i h=>by simp[ks] at h⟩
 | .row q0::l,c::dm,row::T,u,al,n,s,s0,h2,hu,tx,h,bs=>by
  simp only[mf] at h;split at h
  ·rename_i eN bX h1
   split at h
   ·rename_i ma aP o
    simp only[dB,dD] at h;obtain⟨rfl,rfl⟩:=h;have FF:=List.pairwise_cons.1 s0;have jj:s1.a2 n=some row:=h2 0 row rfl;have yJ : ∀k,s1.al n k=d5 (some row) k:=fun k=>(by unfold S.al;rw[jj]);obtain⟨f0,f1,f2⟩:=Hq (q:=q) (ld:=id) (r:=n) et H bG (fun k I an=>(yJ k).trans an) h1 (fun p ah=>bs p (by simp[ah])) (fun k I an=>a5 n k I ((yJ k).trans an));have hl : ∀k j i,ks (n+1) l q0 k≠some (j,i):=fun k j i hm=>by obtain⟨b,jm,ik,r9,NP⟩:=xR hm;exact FF.1 b (dH ik) q0 k ⟨rfl,r9⟩
    have Cc : ∀r k,s.bh r k->(s.setRow q0 eN).bh r k:=fun r k aY=>by
     rw[oK];by_cases e:r=q0
     ·subst e;rw[dw rfl,f0];have:=hu r k n k (by simp[ks]) aY;simpa [S.bh,jj] using this
     ·rw[dy e];exact aY
    obtain⟨e1,aB,bP,dd,dW⟩:=KZ et H bG a5 l dm T ma aP (n+1) (s.setRow q0 eN) FF.2 (fun j row av=>by rw[Nat.add_assoc,Nat.add_comm 1 j];exact h2 (j+1) row (by simpa using av))
     (fun r k j i hm aY=>by have c6:r≠q0:=(by rintro rfl;exact hl _ _ _ hm);refine hu r k j i ?_ (by rw[oK,dy c6] at aY;exact aY);rw[t0 n (.row q0) l r k c6];exact hm)
     (fun r k I hm=>Cc r k (tx r k I (by simp[hm]))) o (fun p ah=>bs p (by simp[ah]))
    refine⟨by simp[e1],aB,fun r k I an=> ?_,fun r k aY=>dd r k (Cc r k aY),fun r k j i hm aY=> ?_⟩
    ·rcases bP r k I an with ⟨j,i,p,jm,ik,r9⟩|⟨jm,ik⟩
     ·have c6:r≠q0:=(by rintro rfl;exact hl _ _ _ jm);exact .inl ⟨j,i,p,by rw[t0 n (.row q0) l r k c6];exact jm,ik,r9⟩
     ·rw[mN] at ik
      by_cases e:r=q0
      ·subst e;rw[dw rfl] at ik;obtain⟨p,g1,g2⟩:=f2 k I ik;exact .inl ⟨n,k,p,by simp[ks],(yJ k).trans g1,g2⟩
      ·rw[dy e] at ik;exact .inr ⟨by rw[t0 n (.row q0) l r k e];exact jm,ik⟩
    ·by_cases e:r=q0
     ·subst e;simp only[ks,if_true] at hm;simp only[dB,dD] at hm;obtain⟨rfl,rfl⟩:=hm;refine dd r k ?_;rw[oK,dw rfl,f0];simpa [S.bh,jj] using aY
     ·rw[t0 n (.row q0) l r k e] at hm;exact dW r k j i hm aY
   ·simp at h
  ·simp at h
 | .al q0 kl mI::l,c::dm,row::T,u,al,n,s,s0,h2,hu,tx,h,bs=>by
  simp only[mf] at h;split at h
  ·rename_i mY Iq
   split at h
   ·rename_i ck bX h1
    split at h
    ·rename_i ma aP o
     simp only[dB,dD] at h;obtain⟨rfl,rfl⟩:=h;have FF:=List.pairwise_cons.1 s0;have jj:s1.a2 n=some row:=h2 0 row rfl;have yJ : ∀k,s1.al n k=d5 (some row) k:=fun k=>(by unfold S.al;rw[jj]);obtain⟨f0,f1,f2⟩:=Hq (q:=q) (ld:=id) (r:=n) et H bG (fun k I an=>(yJ k).trans an) h1 (fun p ah=>bs p (by simp[ah])) (fun k I an=>a5 n k I ((yJ k).trans an));have hl : ∀j i,ks (n+1) l q0 kl≠some (j,i):=fun j i hm=>(by obtain⟨b,jm,ik,r9,NP⟩:=xR hm;exact FF.1 b (dH ik) q0 kl ⟨⟨rfl,rfl⟩,r9⟩);have Cc : ∀r k,s.bh r k->(s.setRow q0 (mY.set kl ck)).bh r k:=GW s Iq (by simp);have vv:kl<mY.length:=by have:=tx q0 kl mI (by simp);simpa [S.bh,Iq] using this
     obtain⟨e1,aB,bP,dd,dW⟩:=KZ et H bG a5 l dm T ma aP (n+1) (s.setRow q0 (mY.set kl ck)) FF.2 (fun j row av=>by rw[Nat.add_assoc,Nat.add_comm 1 j];exact h2 (j+1) row (by simpa using av))
      (fun r k j i hm aY=>by
        have c6 : ¬(Src.al q0 kl mI).has r k:=(by rintro⟨rfl,rfl⟩;exact hl _ _ hm);refine hu r k j i (by rw[t0 n _ l r k c6];exact hm) ?_;rw[oK] at aY;split at aY
        ·rename_i e;subst e;simpa [S.bh,Iq] using aY
        ·exact aY)
      (fun r k I hm=>Cc r k (tx r k I (by simp[hm]))) o (fun p ah=>bs p (by simp[ah]))
     refine⟨by simp[e1],aB,fun r k I an=> ?_,fun r k aY=>dd r k (Cc r k aY),fun r k j i hm aY=> ?_⟩
     ·rcases bP r k I an with ⟨j,i,p,jm,ik,r9⟩|⟨jm,ik⟩
      ·have c6 : ¬(Src.al q0 kl mI).has r k:=(by rintro⟨rfl,rfl⟩;exact hl _ _ jm);exact .inl ⟨j,i,p,by rw[t0 n _ l r k c6];exact jm,ik,r9⟩
      ·rw[mN] at ik
       by_cases e:r=q0
       ·subst e
        rw[dw rfl,lv,List.getElem?_set] at ik;by_cases aB:kl=k
        ·subst aB;rw[dw rfl,dw vv,dA] at ik;have r9:d5 (some [ck]) 0=some I:=(by rw[lv];exact ik);obtain⟨p,g1,g2⟩:=f2 0 I r9;exact .inl ⟨n,0,p,by simp[ks],(yJ 0).trans g1,g2⟩
        ·rw[dy aB] at ik;have c6 : ¬(Src.al r kl mI).has r k:=(by rintro⟨-,rfl⟩;exact aB rfl);exact .inr ⟨by rw[t0 n _ l r k c6];exact jm,by unfold S.al;rw[Iq,lv];exact ik⟩
       ·rw[dy e] at ik;have c6 : ¬(Src.al q0 kl mI).has r k:=(by rintro⟨rfl,-⟩;exact e rfl);exact .inr ⟨by rw[t0 n _ l r k c6];exact jm,ik⟩
     ·by_cases e:(Src.al q0 kl mI).has r k
      ·obtain⟨rfl,rfl⟩:=e;exact dd r k (Cc r k (tx r k mI (by simp)))
      ·rw[t0 n _ l r k e] at hm;exact dW r k j i hm aY
    ·simp at h
   ·simp at h
  ·simp at h
 | [],[],_::_,_,_,_,_,_,_,_,_,h,_=>by simp[mf] at h
 | [],_::_,_,_,_,_,_,_,_,_,_,h,_=>by simp[mf] at h
 | .row _::_,[],_,_,_,_,_,_,_,_,_,h,_=>by simp[mf] at h
 | .al .. :: _,[],_,_,_,_,_,_,_,_,_,h,_=>by simp[mf] at h
 | .row _::_,_::_,[],_,_,_,_,_,_,_,_,h,_=>by simp[mf] at h
 | .al .. :: _,_::_,[],_,_,_,_,_,_,_,_,h,_=>by simp[mf] at h
theorem Td (h:c8 g s aF a w){a4:Nat}(fB:s.a2 a4=none){f:FuncId}{args:List aH}{cJ:Gg}{l:List Src}(oX:l=if cJ.fc.length=cJ.a6.length then cJ.a6 else cJ.a6++[.row a4])
 (s0:Fc cJ.a6) (yR : ∀a∈cJ.a6,a.r≠a4) {bN:hh->Bool} {A:Nat->Prop} {q:aH->Prop} {T:List (List a8)} {b9:Nat->Option Nat}
 (hA : ∀b,A b->b<w.heap.size) (MW : ∀b,s.ok g aF w b->A b) (MX : ∀r k I b m,s.al r k=some I->bN I.cN=true->aF r k=some (b,m)->A b)
 (aha:(∀b,A b->s.ok g aF w b)\/(∀x,q x->b2 x)) (bG:vK q l4) (Jf:n9 s (lU cJ.a6) b9 bN)
 (di:rV s (lU cJ.a6) bN nd (fG T).a2) (rG : ∀r k I,(∃j i,lU cJ.a6 j i=some (r,k))->s.al r k=some I->I.cN = .live) (hex : ∀r k I,Src.al r k I∈cJ.a6->s.bh r k)
 {sH:List aH} {bX:List Prop} (oo:mS (pc s.a2 b9 (lU cJ.a6) bN) cJ.ac args=some (sH,bX)) (ty : ∀p∈bX,p)
 {fq:aH} {fJ:List Prop} (Cl:pc (fun j=>cJ.fc[j]?) (vd l) (ks 0 l) l4 cJ.gR cJ.r=some (fq,fJ)) (M2 : ∀p∈fJ,p)
 {u:List (Nat×List a8)} {eQ:List Prop} (FG:mf (fun j=>cJ.fc[j]?) (vd l) (ks 0 l) s.a2 l cJ.hZ cJ.fc=some (u,eQ)) (ahb : ∀p∈eQ,p)
 (Cd:Con P f sH T cJ.r cJ.fc) (ahc:q cJ.r) (ahd : ∀j i I,(fG cJ.fc).al j i=some I-> ∀e∈I.es,∀x∈e,q x)
 {vs:List Value} (aX:vs.length=args.length) (hargs : ∀(j:Nat) x v,args[j]? = some x->vs[j]? = some v->Rel w (s.ok g aF w) s.bh (s.bm aF) x v) :
 Hr P f/\Calls P f vs.toArray w fun e bV=> ∃v bY,e = .returned v/\c8 g (s.jh u) bY a bV/\Rel bV ((s.jh u).ok g bY bV) (s.jh u).bh ((s.jh u).bm bY) fq v:=by
 have M3:Fc l:=by
  subst oX;split
  ·exact s0
  ·refine List.pairwise_append.2 ⟨s0,List.pairwise_singleton _ _,fun b aU c a3 r k gH=> ?_⟩
   rw[List.mem_singleton] at a3;subst a3;have h1:r=a4:=gH.2;subst h1
   cases b with
   | row r0=>exact yR _ aU (Eq.symm gH.1)
   | al r0 kl mI=>exact yR _ aU (Eq.symm gH.1.1)
 have VP : ∀(j:Nat) b,cJ.a6[j]? = some b->l[j]? = some b:=by
  intro j b av;subst oX;split
  ·exact av
  ·rw[List.getElem?_append_left (gB av)];exact av
 have FH : ∀(j:Nat) b,l[j]? = some b->cJ.a6[j]? = some b\/b = .row a4:=by
  intro j b av;subst oX;split at av
  ·exact .inl av
  ·rw[List.getElem?_append] at av
   split at av
   ·exact .inl av
   ·right;have:=gB av;simp at this;rw[show j-cJ.a6.length=0 by omega] at av;simpa using av.symm
 refine⟨Cd.1,?_⟩;obtain⟨gT,q1,aV,bQ,NQ,cr,du,ef,gb⟩:=enter h.tojt A hA MW MX di rG;obtain⟨e1,aB,bP⟩:=Hp _ _ _ _ _ oo;have:=Cd.2 gT (kR aF (lU cJ.a6)) w vs.toArray q1 bQ NQ cr ef (by simp[aX,e1]) (by intro j c7 v ex bg;have av:j<args.length:=(by have:=gB ex;omega);have ab:=dz av;obtain⟨c,ck,f1,f2,f3⟩:=bP j _ c7 ab ex;have Fs:vs[j]? = some v:=(by simpa using bg);exact gb (Ec h.tojt Jf (wJ _) f2 (fun p ah=>ty p (f3 p ah)) trivial (hargs j _ v ab Fs)) (hargs j _ v ab Fs));refine this.mono fun e bV Fp=> ?_;obtain⟨v,l9,rfl,Cr,bg⟩:=Fp
 have WM:n9 (fG cJ.fc) (ks 0 l) (vd l) l4:=by
  refine⟨fun j r av k=> ?_,fun _ _ _ _ _ bI=>by simp[l4] at bI⟩;unfold vd at av;split at av
  ·rename_i r0 mB;simp at av;subst av;have:=Ex (n:=0) (r:=r0) (k:=k) M3 mB rfl;simpa [Src.lp] using this
  ·simp at av
 have EH : ∀j i r k,lU cJ.a6 j i=some (r,k)->ks 0 l r k=some (j,i):=fun j i r k hm=>by obtain⟨b,jm,ik,rfl⟩:=wc.1 hm;have:=Ex (n:=0) M3 (VP j b jm) ik;simpa using this
 have Io : ∀r k j i,ks 0 l r k=some (j,i)->lU cJ.a6 j i=some (r,k)\/ ¬s.bh r k:=fun r k j i hm=>by
  obtain⟨b,-,ik,r9,NP⟩:=xR hm;rcases FH j b (by simpa using ik) with e|e
  ·exact .inl (wc.2 ⟨b,e,r9,NP⟩)
  ·subst e;have:r=a4:=r9;subst this;exact .inr (A2 fB k)
 obtain⟨jV,ma,ia,aiq,air⟩:=KZ (s1:=fG cJ.fc) Cr WM bG ahd l cJ.hZ cJ.fc u eQ 0 s M3 (fun j row av=>by simpa [fG] using av)
  (fun r k j i hm aY=>by
    rcases Io r k j i hm with e|e
    ·exact(Cr.stay j i (by rw[NQ];exact di.bh _ _ _ _ e aY)).1
    ·exact absurd aY e)
  (fun r k I hm=>by
    obtain⟨j,av⟩:=List.getElem?_of_mem hm;rcases FH j _ av with e|e
    ·exact hex r k I (dH e)
    ·cases e) FG ahb
 obtain⟨mH,f1,f2⟩:=leave (q0:=nd) (q:=q) h q1 (by rw[aV];exact aha) NQ cr du rG di Cr EH Io (fun r k fq ey p=>aey) (s2:=s.jh u) ma ia aiq air
  (Ec Cr WM bG Cl M2 ahc bg) bg
 exact⟨v,mH,rfl,f1,f2⟩
theorem abw (h:c8 g s aF a w){a4:Nat}(fB:s.a2 a4=none){f:FuncId}{args:List aH}{cJ:Gg}{bF:iQ}(ay:B2 P s.a2 a4 f args cJ=some bF)(cR:∀p∈bF.f7,p)
 {vs:List Value} (aX:vs.length=args.length) (hargs : ∀(j:Nat) x v,args[j]? = some x->vs[j]? = some v->Rel w (s.ok g aF w) s.bh (s.bm aF) x v) :
 Hr P f/\Calls P f vs.toArray w fun e bV=> ∃v bY,e = .returned v/\c8 g (s.jh bF.gE) bY a bV/\Rel bV ((s.jh bF.gE).ok g bY bV) (s.jh bF.gE).bh ((s.jh bF.gE).bm bY) bF.val v:=by
 unfold B2 at ay;simp only at ay;generalize oX:(if cJ.fc.length=cJ.a6.length then cJ.a6 else cJ.a6++[.row a4])=l at ay;split at ay
 ·simp at ay
 ·rename_i mI sS
  split at ay
  ·simp at ay
  ·rename_i agu
   have yR : ∀a∈cJ.a6,a.r≠a4:=fun b aU e=>agu (List.any_eq_true.2 ⟨b,aU,by simpa using e⟩);split at ay
   ·
    split at ay
    ·rename_i wK
     split at ay
     ·rename_i sH bX fq fJ u eQ oo Cl FG
      simp only[dB] at ay;subst ay;have Cd:Con P f sH [] cJ.r cJ.fc:=cR _ (by simp);have FI:b2 cJ.r:=cR _ (by simp)
      have agv:ou cJ.fc:=by
       by_cases e:cJ.fc=[]
       ·rw[e];intro row ei;simp at ei
       ·exact cR _ (by have:cJ.fc.isEmpty=false:=(by simpa [List.isEmpty_iff] using e);simp[this])
      refine Td (bN:=lM) (A:=fun b=>b<w.heap.size) (q:=b2) (T:=[]) (b9:=fun _=>none) h fB oX.symm (by rw[wK];exact List.Pairwise.nil) yR (fun _ aU=>aU) (fun b aU=>aU.1)
       (fun r k I b m an _ ah=>Ev h.tojt an ah) (.inr fun _ ab=>ab) ag6 ?_ ?_ ?_ ?_ (by rw[wK];exact oo) (fun p ah=>cR p (by simp[ah])) Cl (fun p ah=>cR p (by simp[ah])) FG (fun p ah=>cR p (by simp[ah])) Cd FI ?_ aX hargs
      ·refine⟨fun _ _ e=>by simp at e,fun r _ k I _ _ j i e=> ?_⟩;rw[wK] at e;simp[lU] at e
      ·refine⟨fun j i jc fk p e=> ?_,fun j i ck e=> ?_,fun j i r k e=> ?_⟩
       ·rw[wK] at e;simp[lU] at e
       ·simp[fG,d5] at e
       ·rw[wK] at e;simp[lU] at e
      ·rintro r k I ⟨j,i,e⟩;rw[wK] at e;simp[lU] at e
      ·rintro r k I e;rw[wK] at e;simp at e
      ·intro j i I an e he x ab
       have an:d5 (cJ.fc[j]?) i=some I:=an
       cases ai:cJ.fc[j]? with
       | none=>rw[ai] at an;simp[d5] at an
       | some row =>
        rw[ai,lv] at an
        cases aY:row[i]? with
        | none=>rw[aY] at an;simp at an
        | some p =>
         rw[aY,dA] at an;split at an
         ·simp at an
         ·simp at an;subst an;exact agv row (dH ai) p (dH aY) e he x ab
     ·simp at ay
    ·simp at ay
   ·split at ay
    ·rename_i sH bX T aP fq fJ u eQ oo Ck Cl FG
     simp only[dB] at ay;subst ay;have s0:=Tc sS fun p ah=>cR p (by simp[ah]);have Cd:Con P f sH T cJ.r cJ.fc:=cR _ (by simp);have ad : ∀r j,qx 0 cJ.a6 r=some j-> ∀k,lU cJ.a6 j k=some (r,k):=fun r j av k=>by obtain⟨-,o⟩:=K8 av;simp only[lU,show cJ.a6[j]? = some (.row r) by simpa using o]
     have MZ : ∀(l:List Src) (dm:List jx) (T:List (List a8)) (al:List Prop),nu s.a2 (qx 0 cJ.a6) (lU cJ.a6) l dm=some (T,al)->(∀p∈al,p) ->
      ∀b∈l,∀r k I,b.has r k->s.al r k=some I->I.cN≠ .jH:=by
      intro l
      induction l with
      | nil=>intro _ _ _ _ _ b aU;simp at aU
      | cons b l ih =>
       intro dm T al h0 bs c a3 r k I gH an
       cases dm with
       | nil=>cases b<;>simp[nu] at h0
       | cons cZ dm =>
        cases b with
        | row r0 =>
         simp only[nu] at h0;split at h0
         ·rename_i row ei
          split at h0
          ·rename_i az p1 oE hM h1 o
           simp only[dB,dD] at h0;obtain⟨rfl,rfl⟩:=h0;rcases List.mem_cons.1 a3 with rfl|a3
           ·have e:r=r0:=gH;subst e;have eK:d5 (some row) k=some I:=(by unfold S.al at an;rw[ei] at an;exact an);have:=R8 h1 (fun p ah=>bs p (by simp[ah])) k I eK;rw[this];simp
           ·exact ih dm oE hM o (fun p ah=>bs p (by simp[ah])) c a3 r k I gH an
          ·simp at h0
         ·simp at h0
        | al r0 kl mI =>
         simp only[nu] at h0;split at h0
         ·rename_i row ei
          split at h0
          ·rename_i az p1 oE hM h1 o
           simp only[dB,dD] at h0;obtain⟨rfl,rfl⟩:=h0;rcases List.mem_cons.1 a3 with rfl|a3
           ·obtain⟨rfl,rfl⟩:=gH
            have ty:d5 (some row) k=some mI:=bs _ (by simp);have eK:d5 (some row) k=some I:=(by unfold S.al at an;rw[ei] at an;exact an);rw[ty] at eK;simp at eK;subst eK
            have M1:mI.cN≠ .gone:=by
             rw[lv] at ty
             cases aY:row[k]? with
             | none=>rw[aY] at ty;simp at ty
             | some p =>
              rw[aY,dA] at ty;split at ty
              ·simp at ty
              ·rename_i e;simp at ty;subst ty;exact e
            have:=R8 h1 (fun p ah=>bs p (by simp[ah])) 0 mI (by rw[nq];simp[M1]);rw[this];simp
           ·exact ih dm oE hM o (fun p ah=>bs p (by simp[ah])) c a3 r k I gH an
          ·simp at h0
         ·simp at h0
     have Jf:n9 s (lU cJ.a6) (qx 0 cJ.a6) vc:=(by refine⟨ad,fun r ai k I an bI j i hm=> ?_⟩;obtain⟨b,jm,ik,-⟩:=wc.1 hm;exact MZ cJ.a6 cJ.dm T aP Ck (fun p ah=>cR p (by simp[ah])) b (dH jm) r k I ik an (by simpa [vc] using bI));obtain⟨t1,t2⟩:=K9 h.tojt Jf cJ.a6 cJ.dm T aP Ck (fun p ah=>cR p (by simp[ah]));have nc : ∀j b,cJ.a6[j]? = some b-> ∃eN,T[j]? = some eN:=fun j b av=>by have:j<T.length:=(by have:=gB av;omega);exact⟨_,dz this⟩
     refine Td (bN:=vc) (A:=s.ok g aF w) (q:=nd) (T:=T) h fB oX.symm s0 yR (fun b aU=>aU.1) (fun b aU=>aU)
      (fun r k I b m an aY ah=>afb h.tojt an (by simpa [vc] using aY) ah) (.inl fun _ aU=>aU) (wJ _) Jf ?_ ?_ ?_ oo (fun p ah=>cR p (by simp[ah])) Cl (fun p ah=>cR p (by simp[ah])) FG
      (fun p ah=>cR p (by simp[ah])) Cd trivial (fun _ _ _ _ _ _ _ _=>trivial) aX hargs
     ·refine⟨fun j i jc fk p e e2=> ?_,fun j i ck eK=> ?_,fun j i r k e hu=> ?_⟩
      ·obtain⟨r,k⟩:=p;obtain⟨b,jm,ik,rfl⟩:=wc.1 e;obtain⟨k1,ahe,ahf,rfl⟩:=wc.1 e2;have e1:=Ex (n:=0) s0 jm ik;have aB:=Ex (n:=0) s0 ahe ahf;rw[e1] at aB;simpa using aB
      ·have av:j<T.length:=by
        rcases Nat.lt_or_ge j T.length with e|e
        ·exact e
        ·have:(fG T).a2 j=none:=List.getElem?_eq_none e;rw[this] at eK;simp[d5] at eK
       have VQ:T[j]? = some T[j]:=dz av;have VR:cJ.a6[j]? = some (cJ.a6[j]'(by omega)):=dz (by omega);have rU:d5 (some T[j]) i=some ck:=(by have:(fG T).a2 j=some T[j]:=VQ;rw[this] at eK;exact eK);obtain⟨r,k,I,n1,km,ais,ait⟩:=(t2 j _ _ VQ VR).2.2.2 i ck rU;exact⟨r,k,I,wc.2 ⟨_,VR,n1,km⟩,ais,ait⟩
      ·obtain⟨b,jm,ik,rfl⟩:=wc.1 e;obtain⟨eN,uj⟩:=nc j b jm;have:=(t2 j eN b uj jm).2.1 r k ik hu;show b.lp k<((T[j]?).getD []).length;rw[uj];exact this
     ·rintro r k I ⟨j,i,e⟩ an;obtain⟨b,jm,ik,-⟩:=wc.1 e;obtain⟨eN,uj⟩:=nc j b jm;exact(t2 j eN b uj jm).1 r k I ik an
     ·intro r k I hm;obtain⟨j,av⟩:=List.getElem?_of_mem hm;obtain⟨eN,uj⟩:=nc j _ av;exact Ho ((t2 j eN _ uj av).2.2.1 r k I rfl)
    ·simp at ay
end
end Go.VL
