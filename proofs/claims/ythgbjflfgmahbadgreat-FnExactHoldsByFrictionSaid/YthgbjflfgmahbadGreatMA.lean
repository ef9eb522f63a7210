/- Lemmas, plain functions of the program, and what they answer. No condition. -/
import Derived.Below
import Derived.Eval
import Derived.KernelRfl
import Derived.Laws.Append
import Derived.Laws.AppendOwn
import Derived.Laws.BytesString
import Derived.Laws.Cells
import Derived.Laws.CopyRow
import Derived.Laws.Entries
import Derived.Laws.MakeOwn
import Derived.Laws.OwnMore
import Derived.Laws.Rows
import Derived.Laws.Slices
import Derived.Laws.Tables
import Derived.Orders
namespace Go.VL
set_option linter.unusedVariables false
set_option linter.unusedSimpArgs false
open Go
abbrev ar:=List Int
theorem dw{c:Prop}{h:Decidable c}(i:c){α:Sort _}{t e:α}:ite c t e=t:=if_pos i
theorem dx(n:Nat):(n:Int).toNat=n:=rfl
theorem dy{c:Prop}{h:Decidable c}(i:¬c){α:Sort _}{t e:α}:ite c t e=e:=if_neg i
theorem dz{α:Type _}{l:List α}{i:Nat}(h:i<l.length):l[i]? = some l[i]:=List.getElem?_eq_getElem h
theorem dA{α β:Type _}(a:α)(f:α->Option β):(some a).bind f=f a:=rfl
theorem dB{α:Type _}(a b:α):(some a=some b)=(a=b):=Option.some.injEq a b
theorem dC{α β:Type _}:bind=@Option.bind α β:=rfl
theorem dD{α β:Type _}(a:α)(b:β)(c:α)(d:β):((a,b)=(c,d))=(a=c/\b=d):=Prod.mk.injEq a b c d
theorem dE{α:Type _}{a b:List α}:(a++b).length=a.length+b.length:=List.length_append
theorem dF(n:Nat):n<=n:=Nat.le_refl n
theorem dG(n:Nat):0+n=n:=Nat.zero_add n
theorem dH{α:Type _}{l:List α}{i:Nat}{a:α}(e:l[i]? = some a):a∈l:=List.mem_of_getElem? e
theorem dI{α:Type _}{a b:α}(h:some a=some b):a=b:=Option.some.inj h
theorem dJ{α β:Type _}{f:α->β}{l:List α}{i:Nat}:(l.map f)[i]? =l[i]?.map f:=List.getElem?_map
theorem dK{a b c:Int}(h:a<=b)(i:0<=c):c*a<=c*b:=Int.mul_le_mul_of_nonneg_left h i
theorem dL{n m:Nat}(k:Nat)(h:n<=m):n*k<=m*k:=Nat.mul_le_mul_right k h
theorem dM(a b:Bool):((a&&b)=true)=(a=true/\b=true):=Bool.and_eq_true a b
theorem dN(a b:Int):((a*b:Int):Rat)=a*b:=Rat.intCast_mul a b
theorem dO{a b:Rat}(h:0<=a)(i:0<=b):0<=a*b:=Rat.mul_nonneg h i
inductive aF where
 | dead
 | b (x:Bool)
 | n (k:IntKind) (x:Int)
 | s (x:ByteArray)
 | jW
 | fT
 | kg
 | ref (r k i off:Nat)
 | bb (r k b6 len:Nat)
 | kh (r c sz:Nat) (h:Option (Nat×Nat))
 | isl (sz:Nat) (es:List (List aF))
 | fo (sz:Nat) (es:List (List aF)) (i off:Nat)
 | hh (sz:Nat) (c:Option (List aF))
 | agg (c:List aF)
 | ea (vs:List aF)
 | fn (f:Nat) (cap:List aF)
 deriving Inhabited
inductive hC where
 | live|j3|gone
 deriving DecidableEq,Inhabited
structure a3 where
 sz:Nat
 es:List (List aF)
 cT:hC
 deriving Inhabited
structure S where
 E:Nat->aF
 a5:Nat->Option (List a3)
abbrev lD (v:Value):Bool:=v.oneCell'
abbrev gv:=Nat->Nat->Option (Nat×Nat)
abbrev kr:=Nat->Nat->Option (Nat×Option (Nat×Nat))
abbrev kz:=Nat->Nat->Prop
inductive Pure:aF->Prop
 | dead:Pure .dead
 | b (x:Bool):Pure (.b x)
 | n (k:IntKind) (x:Int):Pure (.n k x)
 | s (x:ByteArray):Pure (.s x)
 | jW:Pure .jW
 | fT:Pure .fT
 | kg:Pure .kg
 | isl {sz:Nat} {es:List (List aF)} (h : ∀e∈es,∀x∈e,Pure x):Pure (.isl sz es)
 | fo {sz i off:Nat} {es:List (List aF)} (h : ∀e∈es,∀x∈e,Pure x):Pure (.fo sz es i off)
 | rK (sz:Nat):Pure (.hh sz none)
 | q3 {sz:Nat} {c:List aF} (h : ∀x∈c,Pure x):Pure (.hh sz (some c))
 | agg {c:List aF} (h : ∀x∈c,Pure x):Pure (.agg c)
 | ea {c:List aF} (h : ∀x∈c,Pure x):Pure (.ea c)
 | fn {f:Nat} {c:List aF} (h : ∀x∈c,Pure x):Pure (.fn f c)
def jj (es:List (List aF)):Prop:= ∀e∈es,∀x∈e,Pure x
inductive Rel (w:World) (ok:Nat->Prop) (bg:kz) (bp:kr):aF->Value->Prop
 | dead (v:Value):Rel w ok bg bp .dead v
 | b (x:Bool):Rel w ok bg bp (.b x) (.bool x)
 | n (k:IntKind) (x:Int):Rel w ok bg bp (.n k x) (.int k x)
 | s (x:ByteArray):Rel w ok bg bp (.s x) (.string x)
 | jW:Rel w ok bg bp .jW (.pointer none)
 | fT:Rel w ok bg bp .fT (.slice none 0 0)
 | kg (a:Addr) (c:Nat):Rel w ok bg bp .kg (.slice (some a) 0 c)
 | sb {r k i off:Nat} (a:Option Addr) (hu:bg r k) (h : ∀sz p,bp r k≠some (sz,some p)):Rel w ok bg bp (.ref r k i off) (.pointer a)
 | ref {r k i off sz e4 m:Nat} (hu:bg r k) (h:bp r k=some (sz,some (e4,m))):Rel w ok bg bp (.ref r k i off) (.pointer (some ⟨e4,i*sz+off,none⟩))
 | pc {r k b6 len:Nat} (a:Option Addr) (l c:Nat) (hu:bg r k) (h:bp r k=none):Rel w ok bg bp (.bb r k b6 len) (.slice a l c)
 | pA {r k sz:Nat} (hu:bg r k) (h:bp r k=some (sz,none)):Rel w ok bg bp (.bb r k 0 0) (.slice none 0 0)
 | bb {r k b6 len sz e4 m c:Nat} {a:Option Addr} (hu:bg r k) (h:bp r k=some (sz,some (e4,m))) (aZ:len<=c) (aX:c<9223372036854775808)
  (hm:(b6+c)*sz=m/\(c=0\/a=some ⟨e4,b6*sz,none⟩)):Rel w ok bg bp (.bb r k b6 len) (.slice a len c)
 | oL {r c sz:Nat} {v:Value} (h:Rel w ok bg bp (.isl sz []) v):Rel w ok bg bp (.kh r c sz none) v
 | pO {r c sz k n:Nat} {v:Value} (h:Rel w ok bg bp (.bb r (k+c) 0 n) v):Rel w ok bg bp (.kh r c sz (some (k,n))) v
 | lG (sz:Nat) (a:Option Addr) (c:Nat) (h:a=none->c=0):Rel w ok bg bp (.isl sz []) (.slice a 0 c)
 | isl {sz:Nat} {es:List (List aF)} {e4 off c:Nat} (cs:Nat->Value) (aP:ok e4) (ah:jj es) (aZ : ∀e∈es,e.length=sz) (aX:es.length<=c)
  (hw : ∀(j:Nat) x,es.flatten[j]? = some x->w.cell? ⟨e4,off+j,none⟩=some (cs j)) (lp : ∀(j:Nat) x,es.flatten[j]? = some x->lD (cs j)=true)
  (aj : ∀(j:Nat) x,es.flatten[j]? = some x->Rel w ok bg bp x (cs j)):Rel w ok bg bp (.isl sz es) (.slice (some ⟨e4,off,none⟩) es.length c)
 | fo {sz:Nat} {es:List (List aF)} {e4 o i off:Nat} (cs:Nat->Value) (aP:ok e4) (ah:jj es) (aZ : ∀e∈es,e.length=sz)
  (hw : ∀(j:Nat) x,es.flatten[j]? = some x->w.cell? ⟨e4,o+j,none⟩=some (cs j)) (lp : ∀(j:Nat) x,es.flatten[j]? = some x->lD (cs j)=true)
  (aj : ∀(j:Nat) x,es.flatten[j]? = some x->Rel w ok bg bp x (cs j)):Rel w ok bg bp (.fo sz es i off) (.pointer (some ⟨e4,o+(i*sz+off),none⟩))
 | rK (sz:Nat):Rel w ok bg bp (.hh sz none) (.pointer none)
 | q3 {sz:Nat} {c:List aF} {v:Value} (h:Rel w ok bg bp (.fo sz [c] 0 0) v):Rel w ok bg bp (.hh sz (some c)) v
 | agg {c:List aF} (vs:List Value) (aZ:vs.length=c.length) (lp : ∀(j:Nat) v,vs[j]? = some v->lD v=true)
  (aj : ∀(j:Nat) x v,c[j]? = some x->vs[j]? = some v->Rel w ok bg bp x v):Rel w ok bg bp (.agg c) (.agg vs.toArray)
 | ea {c:List aF} (vs:List Value) (aZ:vs.length=c.length)
  (aj : ∀(j:Nat) x v,c[j]? = some x->vs[j]? = some v->Rel w ok bg bp x v):Rel w ok bg bp (.ea c) (.tuple vs.toArray)
 | fn {f:Nat} {c:List aF} (vs:List Value) (aZ:vs.length=c.length)
  (aj : ∀(j:Nat) x v,c[j]? = some x->vs[j]? = some v->Rel w ok bg bp x v):Rel w ok bg bp (.fn f c) (.func (.func f) #[] vs.toArray)
theorem Rel.mono {w bY:World}{ok mi:Nat->Prop}{bg oP:kz}{bp n8:kr}{a:aF}{v:Value}(h:Rel w ok bg bp a v)
 (oQ : ∀b,ok b->mi b) (hw : ∀b,ok b->bY.heap[b]? = w.heap[b]?)
 (kK : ∀r k,bg r k->oP r k) (m5 : ∀r k,bg r k->n8 r k=bp r k\/n8 r k=none):Rel bY mi oP n8 a v:=by
 have lp : ∀b o,ok b->bY.cell? ⟨b,o,none⟩=w.cell? ⟨b,o,none⟩:=fun b o aP=>World.cell?_of_block (hw b aP)
 induction h with
 | dead v=>exact .dead v
 | b x=>exact .b x
 | n k x=>exact .n k x
 | s x=>exact .s x
 | jW=>exact .jW
 | fT=>exact .fT
 | kg a c=>exact .kg a c
 | @sb r k i off a hu h =>
  refine .sb a (kK r k hu) fun sz p=> ?_;rcases m5 r k hu with e|e<;>rw[e]
  ·exact h sz p
  ·simp
 | @ref r k i off sz e4 m hu h =>
  rcases m5 r k hu with e|e
  ·exact .ref (kK r k hu) (e.trans h)
  ·exact .sb _ (kK r k hu) fun sz p=>by rw[e];simp
 | @pc r k b6 len a l c hu h=>exact .pc a l c (kK r k hu) (by rcases m5 r k hu with e|e<;>rw[e];exact h)
 | @pA r k sz hu h =>
  rcases m5 r k hu with e|e
  ·exact .pA (kK r k hu) (e.trans h)
  ·exact .pc _ _ _ (kK r k hu) e
 | @bb r k b6 len sz e4 m c a hu h aZ aX hm =>
  rcases m5 r k hu with e|e
  ·exact .bb (kK r k hu) (e.trans h) aZ aX hm
  ·exact .pc _ _ _ (kK r k hu) e
 | oL h ih=>exact .oL ih
 | pO h ih=>exact .pO ih
 | lG sz a c h=>exact .lG sz a c h
 | isl cs aP ah aZ aX Gr iS aj ih=>exact .isl cs (oQ _ aP) ah aZ aX (fun j x aa=>(lp _ _ aP).trans (Gr j x aa)) iS ih
 | fo cs aP ah aZ Gr iS aj ih=>exact .fo cs (oQ _ aP) ah aZ (fun j x aa=>(lp _ _ aP).trans (Gr j x aa)) iS ih
 | rK sz=>exact .rK sz
 | q3 h ih=>exact .q3 ih
 | agg vs aZ iS aj ih=>exact .agg vs aZ iS ih
 | ea vs aZ aj ih=>exact .ea vs aZ ih
 | fn vs aZ aj ih=>exact .fn vs aZ ih
structure G where
 oG:World
 A:Nat->Prop
 rS:Nat->Prop
 N:Nat
 m:Nat
 ra:kz
 uq:kr
def S.bg (s:S)(r k:Nat):Prop:=k<((s.a5 r).getD []).length
def ee (row:Option (List a3))(k:Nat):Option a3 :=
 match row with
 | some l=>match l[k]? with
  | some o=>if o.cT = .gone then none else some o
  | none=>none
 | none=>none
def S.al (s:S)(r k:Nat):Option a3:=ee (s.a5 r) k
def S.bp (s:S)(aH:gv):kr:=fun r k=>(s.al r k).map fun o=>(o.sz,aH r k)
def S.nG (s:S)(aH:gv)(b:Nat):Prop:= ∃r k o m,s.al r k=some o/\o.cT = .live/\aH r k=some (b,m)
def S.ok (s:S)(g:G)(aH:gv)(w:World)(b:Nat):Prop :=
 b<w.heap.size/\(g.A b\/g.oG.heap.size<=b\/g.rS b)/\ ¬s.nG aH b
def ku (w:World)(ok:Nat->Prop)(bg:kz)(bp:kr)(o:a3):Option (Nat×Nat)->Prop
 | none=>o.es=[]
 | some (e4,m)=> ∃c fA,w.heap[e4]? = some (.cells c fA (0,0))/\c.size=m/\(∀e∈o.es,e.length=o.sz) /\
  ∀(j:Nat) x,o.es.flatten[j]? = some x-> ∃v,c[j]? = some v/\lD v=true/\Rel w ok bg bp x v
structure F2 (g:G) (w:World):Prop where
 os:w.os=g.oG.os
 tape:w.tape=g.oG.tape
 output:w.output=g.oG.output
 size:g.oG.heap.size<=w.heap.size
 block : ∀b,b<g.oG.heap.size-> ¬g.rS b->w.heap[b]? = g.oG.heap[b]?
structure jN (g:G) (s:S) (aH:gv) (w:World):Prop where
 obj : ∀r k o,s.al r k=some o->ku w (s.ok g aH w) s.bg (s.bp aH) o (aH r k)
 inj : ∀r k o fB eG cw b m aJ,s.al r k=some o->s.al fB eG=some cw->aH r k=some (b,m)->aH fB eG=some (b,aJ)->r=fB/\k=eG
 own : ∀r k o b m,s.al r k=some o->aH r k=some (b,m)->g.oG.heap.size<=b\/g.rS b
 ik:F2 g w
 mlt : ∀b,g.rS b->b<g.oG.heap.size
 po : ∀b,g.A b->b<g.oG.heap.size
 stay : ∀j k,g.ra j k->s.bg j k/\(s.bp aH j k=g.uq j k\/s.bp aH j k=none)
 low : ∀j k,g.ra j k->j<g.m
structure dg (g:G) (s:S) (aH:gv) (a:Act) (w:World):Prop extends jN g s aH w where
 env : ∀t,Rel w (s.ok g aH w) s.bg (s.bp aH) (s.E t) (a.tmps.getD t undef)
 defers:a.defers=[]
 k4:g.N<=a.tmps.size
def ofValue:Value->aF
 | .bool x=> .b x
 | .int k x=> .n k x
 | .string x=> .s x
 | .pointer none=> .jW
 | .slice none 0 0=> .fT
 | _=> .dead
theorem S5 {w:World}{ok:Nat->Prop}{bg:kz}{bp:kr}(v:Value):Rel w ok bg bp (ofValue v) v:=by unfold ofValue;split<;>constructor
def fG (E:Nat->aF):Operand->aF
 | .tmp t=>E t
 | .const v=>ofValue v
 | .global _=> .dead
 | .func f=> .fn f []
theorem dg.eval {g:G}{s:S}{aH:gv}{a:Act}{w:World}(h:dg g s aH a w)(x:Operand):
 Rel w (s.ok g aH w) s.bg (s.bp aH) (fG s.E x) (a.eval x):=by
 cases x with
 | tmp t=>exact h.env t
 | const v=>exact S5 v
 | global g=>exact .dead _
 | func f=>exact .fn [] rfl (fun j x v aa=>by simp at aa)
def aF.cells:aF->List aF
 | .agg c=>c
 | x=>[x]
def aF.one:aF->Bool
 | .dead | .agg _ | .ea _=>false
 | _=>true
def aF.Cv:aF->Bool
 | .dead | .ea _=>false
 | _=>true
theorem aF.S6 {v:aF}(h:v.Cv=true):v.one=true\/ ∃c,v = .agg c:=by cases v<;>first|exact .inl rfl|exact .inr ⟨_,rfl⟩|simp[aF.Cv] at h
theorem Rel.lD {w:World}{ok:Nat->Prop}{bg:kz}{bp:kr}{a:aF}{v:Value}(h:Rel w ok bg bp a v)(bF:a.one=true):lD v=true:=by
 cases h with
 | q3 h=>cases h;rfl
 | oL h=>cases h<;>rfl
 | pO h=>cases h<;>rfl
 | _=>first|rfl|simp[aF.one] at bF
theorem Rel.cellsOf {w:World}{ok:Nat->Prop}{bg:kz}{bp:kr}{a:aF}{v:Value}(h:Rel w ok bg bp a v)(bF:a.one=true\/ ∃c,a = .agg c):
 ∃vs:List Value,v.cells=vs.toArray/\vs.length=a.cells.length/\(∀(j:Nat) x,vs[j]? = some x->VL.lD x=true) /\
  ∀(j:Nat) x u,a.cells[j]? = some x->vs[j]? = some u->Rel w ok bg bp x u:=by
 rcases bF with bF|⟨c,rfl⟩
 ·have aX:=h.lD bF
  refine⟨[v],?_,?_,?_,?_⟩
  ·cases v<;>first|rfl|simp[VL.lD,Value.oneCell'] at aX
  ·cases a<;>first|rfl|simp[aF.one] at bF
  ·intro j x aa
   cases j with
   | zero=>simp at aa;subst aa;exact aX
   | succ j=>simp at aa
  ·intro j x u aa hu
   have e:a.cells=[a]:=by cases a<;>first|rfl|simp[aF.one] at bF
   rw[e] at aa
   cases j with
   | zero=>simp at aa hu;subst aa;subst hu;exact h
   | succ j=>simp at aa
 ·cases h with
  | agg vs aZ lp aj=>exact⟨vs,rfl,aZ,lp,aj⟩
def S.put (s:S)(dst:Option Tmp)(v:aF):S :=
 match dst with
 | some t=>{s with E:=fun u=>if u=t then v else s.E u}
 | none=>s
def S.setRow (s:S)(r:Nat)(row:List a3):S:={s with a5:=fun q=>if q=r then some row else s.a5 q}
@[simp] theorem S.xk (s:S) (dst:Option Tmp) (v:aF):(s.put dst v).a5=s.a5:=by cases dst<;>rfl
@[simp] theorem S.alO (s:S) (r:Nat) (row:List a3):(s.setRow r row).E=s.E:=rfl
theorem Fi {s b5:S}(h:b5.a5=s.a5):b5.al=s.al:=by funext r k;simp[S.al,h]
theorem Cw {s b5:S}(h:b5.a5=s.a5):b5.bg=s.bg:=by funext r k;simp[S.bg,h]
theorem Cx {s b5:S}(h:b5.a5=s.a5)(aH:gv):b5.bp aH=s.bp aH:=by unfold S.bp;rw[Fi h]
theorem ac8 {s b5:S}(h:b5.a5=s.a5)(aH:gv):b5.nG aH=s.nG aH:=by unfold S.nG;rw[Fi h]
theorem Fj {s b5:S}(h:b5.a5=s.a5)(g:G)(aH:gv)(w:World):b5.ok g aH w=s.ok g aH w:=by funext b;unfold S.ok;rw[ac8 h]
theorem jN.congr {g:G}{s b5:S}{aH:gv}{w:World}(h:jN g s aH w)(e:b5.a5=s.a5):jN g b5 aH w where
 obj:=by rw[Fi e,Cw e,Cx e,Fj e];exact h.obj
 inj:=by rw[Fi e];exact h.inj
 own:=by rw[Fi e];exact h.own
 ik:=h.ik
 mlt:=h.mlt
 po:=h.po
 stay:=by rw[Cw e,Cx e];exact h.stay
 low:=h.low
theorem afA (a:Act)(dst:Option Tmp)(v:Value)(t:Nat)(fM:∀d,dst=some d->d<a.tmps.size):
 (a.put dst v).tmps.getD t undef=if dst=some t then v else a.tmps.getD t undef:=by
 cases dst with
 | none=>simp[Act.put]
 | some d =>
  have:=fM d rfl;simp only[Act.put,Array.getD_eq_getD_getElem?,Array.getElem?_setIfInBounds,dB];by_cases e:d=t
  ·subst e;simp[this]
  ·simp[e]
theorem dg.put {g:G}{s:S}{aH:gv}{a:Act}{w:World}(h:dg g s aH a w)(dst:Option Tmp){x:aF}{v:Value}
 (bH : ∀d,dst=some d->d<g.N) (aj:Rel w (s.ok g aH w) s.bg (s.bp aH) x v):dg g (s.put dst x) aH (a.put dst v) w where
 tojN:=h.tojN.congr (S.xk s dst x)
 env:=by
  have e:=S.xk s dst x;rw[Fj e,Cw e,Cx e];intro t;rw[afA a dst v t fun d sv=>Nat.lt_of_lt_of_le (bH d sv) h.k4]
  cases dst with
  | none=>simpa [S.put] using h.env t
  | some d =>
   simp only[S.put,dB];by_cases e:t=d
   ·subst e;simpa using aj
   ·rw[dy e,dy (Ne.symm e)];exact h.env t
 defers:=by cases dst<;>exact h.defers
 k4:=by cases dst<;>simpa [Act.put] using h.k4
structure Step (g:G) (s:S) (aH:gv) (w:World) (b5:S) (b0:gv) (bY:World):Prop where
 bg : ∀r k,s.bg r k->b5.bg r k
 bp : ∀r k,s.bg r k->b5.bp b0 r k=s.bp aH r k\/b5.bp b0 r k=none
 live : ∀b,b5.nG b0 b->s.nG aH b\/w.heap.size<=b
 heap : ∀b,b<w.heap.size-> ¬s.nG aH b->bY.heap[b]? = w.heap[b]?
 size:w.heap.size<=bY.heap.size
theorem Step.ok {g:G}{s b5:S}{aH b0:gv}{w bY:World}(h:Step g s aH w b5 b0 bY)(b:Nat)(aP:s.ok g aH w b):b5.ok g b0 bY b :=
 ⟨Nat.lt_of_lt_of_le aP.1 h.size,aP.2.1,fun aZ=>by
  rcases h.live b aZ with h1|h1
  ·exact aP.2.2 h1
  ·exact absurd aP.1 (by omega)⟩
theorem Step.rel {g:G}{s b5:S}{aH b0:gv}{w bY:World}(h:Step g s aH w b5 b0 bY){x:aF}{v:Value}
 (aj:Rel w (s.ok g aH w) s.bg (s.bp aH) x v):Rel bY (b5.ok g b0 bY) b5.bg (b5.bp b0) x v :=
 aj.mono h.ok (fun b aP=>h.heap b aP.1 aP.2.2) h.bg h.bp
theorem Step.obj {g:G}{s b5:S}{aH b0:gv}{w bY:World}(h:Step g s aH w b5 b0 bY){o:a3}{p:Option (Nat×Nat)}
 (ah : ∀b m,p=some (b,m)->bY.heap[b]? = w.heap[b]?) (an:ku w (s.ok g aH w) s.bg (s.bp aH) o p) :
 ku bY (b5.ok g b0 bY) b5.bg (b5.bp b0) o p:=by
 cases p with
 | none=>exact an
 | some q =>
  obtain⟨b,m⟩:=q;obtain⟨c,fA,h1,h2,U,ai⟩:=an;refine⟨c,fA,(ah b m rfl).trans h1,h2,U,fun j x aa=> ?_⟩;obtain⟨v,e1,e2,bI⟩:=ai j x aa;exact⟨v,e1,e2,h.rel bI⟩
theorem Step.stay {g:G}{s b5:S}{aH b0:gv}{w bY:World}(h:Step g s aH w b5 b0 bY)
 (bL : ∀j k,g.ra j k->s.bg j k/\(s.bp aH j k=g.uq j k\/s.bp aH j k=none)) : ∀j k,g.ra j k->b5.bg j k/\(b5.bp b0 j k=g.uq j k\/b5.bp b0 j k=none):=by
 intro j k av;obtain⟨h1,h2⟩:=bL j k av;refine⟨h.bg j k h1,?_⟩;rcases h.bp j k h1 with e|e
 ·rw[e];exact h2
 ·exact .inr e
theorem F2.step {g:G}{w bY:World}(h:F2 g w)(h1:bY.os=w.os)(h2:bY.tape=w.tape)(U:bY.output=w.output)(ai:w.heap.size<=bY.heap.size)
 (aw : ∀b,b<g.oG.heap.size-> ¬g.rS b->bY.heap[b]? = w.heap[b]?):F2 g bY :=
 ⟨h1.trans h.os,h2.trans h.tape,U.trans h.output,Nat.le_trans h.size ai,fun b aP hm=>(aw b aP hm).trans (h.block b aP hm)⟩
theorem nk (s:S)(r:Nat)(row:List a3)(q k:Nat):(s.setRow r row).al q k=if q=r then ee (some row) k else s.al q k:=by unfold S.al S.setRow;by_cases e:q=r<;>simp[e]
theorem pb (s:S)(r:Nat)(row:List a3)(q k:Nat):(s.setRow r row).bg q k↔(if q=r then k<row.length else s.bg q k):=by unfold S.bg S.setRow;by_cases e:q=r<;>simp[e]
theorem Iw {s:S}{r k:Nat}{o:a3}(h:s.al r k=some o):s.bg r k:=by
 unfold S.al ee at h;unfold S.bg
 cases aj:s.a5 r with
 | none=>rw[aj] at h;simp at h
 | some l =>
  rw[aj] at h;simp only at h;rcases Nat.lt_or_ge k l.length with h1|h1
  ·simpa using h1
  ·rw[List.getElem?_eq_none h1] at h;simp at h
theorem B8 {s:S}{r:Nat}(h:s.a5 r=none)(k:Nat): ¬s.bg r k:=by simp[S.bg,h]
theorem HW (s:S){r:Nat}{l row:List a3}(aj:s.a5 r=some l)(aZ:l.length<=row.length)(q k:Nat)(h:s.bg q k):(s.setRow r row).bg q k:=by
 rw[pb];by_cases e:q=r
 ·subst e;rw[dw rfl];simp[S.bg,aj] at h;omega
 ·rw[dy e];exact h
theorem als {s:S}{r:Nat}(h:s.a5 r=none)(k:Nat):s.al r k=none:=by simp[S.al,h,ee]
def gv.set (aH:gv)(r k:Nat)(p:Option (Nat×Nat)):gv:=fun q j=>if q=r/\j=k then p else aH q j
theorem nU (o:a3)(k:Nat):ee (some [o]) k=if k=0/\o.cT≠ .gone then some o else none:=by
 unfold ee
 cases k with
 | zero=>by_cases h:o.cT = .gone<;>simp[h]
 | succ k=>simp
theorem Rel.drew {w:World}{ok:Nat->Prop}{bg:kz}{bp:kr}{x:aF}{v:Value}(h:Rel w ok bg bp x v):Rel w.drew ok bg bp x v :=
 h.mono (fun _ h=>h) (fun _ _=>rfl) (fun _ _ h=>h) (fun _ _ _=> .inl rfl)
theorem ku.drew {w:World}{ok:Nat->Prop}{bg:kz}{bp:kr}{o:a3}{p:Option (Nat×Nat)}(h:ku w ok bg bp o p):ku w.drew ok bg bp o p:=by
 cases p with
 | none=>exact h
 | some q =>
  obtain⟨c,fA,h1,h2,U,ai⟩:=h;exact⟨c,fA,h1,h2,U,fun j x aa=>let ⟨v,a,b,c⟩:=ai j x aa;⟨v,a,b,c.drew⟩⟩
theorem jN.drew {g:G}{s:S}{aH:gv}{w:World}(h:jN g s aH w):jN g s aH w.drew :=
 {obj:=fun r k o an=>(h.obj r k o an).drew,inj:=h.inj,own:=h.own,ik:=⟨h.ik.os,h.ik.tape,h.ik.output,h.ik.size,h.ik.block⟩,mlt:=h.mlt,po:=h.po,stay:=h.stay,low:=h.low}
theorem dg.drew {g:G}{s:S}{aH:gv}{a:Act}{w:World}(h:dg g s aH a w):dg g s aH a w.drew where
 tojN:=h.tojN.drew
 env:=fun t=>(h.env t).drew
 defers:=h.defers
 k4:=h.k4
theorem dg.alloc {g:G}{s:S}{aH:gv}{a:Act}{w:World}(h:dg g s aH a w){r:Nat}(aj:s.a5 r=none)(o:a3)(a1:o.cT = .live)
 (c:Array Value) (fA:TypeId) (hlen : ∀e∈o.es,e.length=o.sz)
 (aX : ∀(j:Nat) x,o.es.flatten[j]? = some x-> ∃v,c[j]? = some v/\lD v=true/\Rel w (s.ok g aH w) s.bg (s.bp aH) x v) :
 ∃b0,b0 r 0=some (w.heap.size,c.size)/\dg g (s.setRow r [o]) b0 a (w.alloc (.cells c fA)) /\
  ∀x v,Rel w (s.ok g aH w) s.bg (s.bp aH) x v->Rel (w.alloc (.cells c fA)) ((s.setRow r [o]).ok g b0 (w.alloc (.cells c fA))) (s.setRow r [o]).bg ((s.setRow r [o]).bp b0) x v:=by
 have nB : ∀q k,q≠r->(aH.set r 0 (some (w.heap.size,c.size))) q k=aH q k:=fun q k a0=>by simp[gv.set,a0]
 have bx : ∀q k,q≠r->(s.setRow r [o]).al q k=s.al q k:=fun q k a0=>by rw[nk,dy a0]
 have C4 : ∀k,(s.setRow r [o]).al r k=if k=0 then some o else none:=fun k=>by rw[nk,dw rfl,nU];simp[a1]
 have wi : ∀q k p b m,s.al q k=some p->aH q k=some (b,m)->b<w.heap.size:=fun q k p b m ah a0=>by have:=h.obj q k p ah;rw[a0] at this;obtain⟨eC,oy,hc,_⟩:=this;exact(Array.getElem?_eq_some_iff.1 hc).1
 have da:Step g s aH w (s.setRow r [o]) (aH.set r 0 (some (w.heap.size,c.size))) (w.alloc (.cells c fA)):=by
  refine⟨fun q k a0=>(pb _ _ _ _ _).2 (by rw[dy (by rintro rfl;exact B8 aj k a0)];exact a0),fun q k a0=> ?_,fun b aP=> ?_,fun b aP _=>heap_alloc_old w _ b aP,by simp⟩
  ·have dd:q≠r:=(by rintro rfl;exact B8 aj k a0);left;simp only[S.bp,bx q k dd,nB q k dd]
  ·obtain⟨q,k,p,m,h1,h2,U⟩:=aP
   by_cases e:q=r
   ·subst e
    rw[C4] at h1;by_cases e0:k=0
    ·subst e0;simp[gv.set] at U;right;omega
    ·simp[e0] at h1
   ·rw[bx q k e] at h1;rw[nB q k e] at U;exact .inl ⟨q,k,p,m,h1,h2,U⟩
 refine⟨aH.set r 0 (some (w.heap.size,c.size)),by simp[gv.set],?_,fun x v=>da.rel⟩;refine {tojN:=⟨?_,?_,?_,?_,h.mlt,h.po,da.stay h.stay,h.low⟩,env:=fun t=>da.rel (h.env t),defers:=h.defers,k4:=h.k4}
 ·intro q k p ah
  by_cases e:q=r
  ·subst e
   rw[C4] at ah;by_cases e0:k=0
   ·subst e0;simp at ah;subst ah;simp only[gv.set,and_self,if_true];exact⟨c,fA,heap_alloc_new w _,rfl,hlen,fun j x aa=>let ⟨v,e1,e2,bI⟩:=aX j x aa;⟨v,e1,e2,da.rel bI⟩⟩
   ·simp[e0] at ah
  ·rw[bx q k e] at ah;rw[nB q k e];exact da.obj (fun b m hm=>heap_alloc_old w _ b (wi q k p b m ah hm)) (h.obj q k p ah)
 ·intro q k p i7 eG lL b m aJ h1 h2 U ai
  by_cases e:q=r<;>by_cases fe:i7=r
  ·subst e;subst fe;rw[C4] at h1 h2;by_cases e0:k=0<;>by_cases e1:eG=0<;>simp[e0,e1] at h1 h2;exact⟨rfl,by omega⟩
  ·subst e;rw[C4] at h1;rw[bx _ _ fe] at h2;rw[nB _ _ fe] at ai;by_cases e0:k=0<;>simp[e0] at h1;subst e0;simp[gv.set] at U;have:=wi i7 eG lL b aJ h2 ai;omega
  ·subst fe;rw[bx _ _ e] at h1;rw[C4] at h2;rw[nB _ _ e] at U;by_cases e0:eG=0<;>simp[e0] at h2;subst e0;simp[gv.set] at ai;have:=wi q k p b m h1 U;omega
  ·rw[bx _ _ e] at h1;rw[bx _ _ fe] at h2;rw[nB _ _ e] at U;rw[nB _ _ fe] at ai;exact h.inj q k p i7 eG lL b m aJ h1 h2 U ai
 ·intro q k p b m h1 h2
  by_cases e:q=r
  ·subst e;rw[C4] at h1;by_cases e0:k=0<;>simp[e0] at h1;subst e0;simp[gv.set] at h2;left;have:=h.ik.size;omega
  ·rw[bx _ _ e] at h1;rw[nB _ _ e] at h2;exact h.own q k p b m h1 h2
 ·exact h.ik.step rfl rfl rfl (by simp) fun b aP _=>heap_alloc_old w _ b (Nat.lt_of_lt_of_le aP h.ik.size)
theorem Uq (l:List a3)(k:Nat)(o cw:a3)(h:ee (some l) k=some o)(a1:cw.cT≠ .gone)(j:Nat):
 ee (some (l.set k cw)) j=if j=k then some cw else ee (some l) j:=by
 unfold ee at *
 have et:k<l.length:=by
  rcases Nat.lt_or_ge k l.length with h1|h1
  ·exact h1
  ·simp[List.getElem?_eq_none h1] at h
 by_cases e:j=k
 ·subst e;simp[et,a1]
 ·simp only[List.getElem?_set,dy (Ne.symm e),dy e]
theorem dg.write {g:G}{s:S}{aH:gv}{a:Act}{w bY:World}(h:dg g s aH a w){r k b m:Nat}{l:List a3}{o:a3}(aj:s.a5 r=some l)(an:s.al r k=some o)
 (a1:o.cT = .live) (ah:aH r k=some (b,m)) (es:List (List aF)) (c:Array Value) (fA:TypeId)
 (hw:bY.heap[b]? = some (.cells c fA (0,0))) (fM:bY.heap.size=w.heap.size) (y3 : ∀q,q≠b->bY.heap[q]? = w.heap[q]?)
 (tw:bY.os=w.os) (NV:bY.tape=w.tape) (NA:bY.output=w.output) (hm:c.size=m)
 (hlen : ∀e∈es,e.length=o.sz)
 (aX : ∀(j:Nat) x,es.flatten[j]? = some x-> ∃v,c[j]? = some v/\lD v=true/\Rel w (s.ok g aH w) s.bg (s.bp aH) x v) :
 dg g (s.setRow r (l.set k {o with es})) aH a bY /\
  ∀x v,Rel w (s.ok g aH w) s.bg (s.bp aH) x v->Rel bY ((s.setRow r (l.set k {o with es})).ok g aH bY) (s.setRow r (l.set k {o with es})).bg ((s.setRow r (l.set k {o with es})).bp aH) x v:=by
 have hO:({o with es}:a3).cT≠ .gone:=by rw[a1];simp
 have bx : ∀q j,(s.setRow r (l.set k {o with es})).al q j=if q=r/\j=k then some {o with es} else s.al q j:=by
  intro q j;rw[nk];by_cases e:q=r
  ·subst e;have eN:ee (some l) k=some o:=(by rw[<- aj];exact an);rw[dw rfl,Uq l k o _ eN hO];by_cases e2:j=k<;>simp[e2,S.al,aj]
  ·simp[e]
 have sj:s.nG aH b:=⟨r,k,o,m,an,a1,ah⟩
 have da:Step g s aH w (s.setRow r (l.set k {o with es})) aH bY:=by
  refine⟨HW s aj (by simp),fun q j a0=> .inl ?_,fun q a0=> ?_,fun q a0 aZ=>y3 q fun e=>aZ (e▸sj),Nat.le_of_eq fM.symm⟩
  ·simp only[S.bp,bx]
   by_cases e:q=r/\j=k
   ·obtain⟨rfl,rfl⟩:=e;simp[an]
   ·rw[dy e]
  ·obtain⟨i7,j,p,aJ,h1,h2,U⟩:=a0
   rw[bx] at h1;by_cases e:i7=r/\j=k
   ·obtain⟨rfl,rfl⟩:=e;exact .inl ⟨i7,j,o,aJ,an,a1,U⟩
   ·rw[dy e] at h1;exact .inl ⟨i7,j,p,aJ,h1,h2,U⟩
 refine⟨{tojN:=⟨?_,?_,?_,?_,h.mlt,h.po,da.stay h.stay,h.low⟩,env:=fun t=>da.rel (h.env t),defers:=h.defers,k4:=h.k4},fun x v=>da.rel⟩
 ·intro q j p lV
  rw[bx] at lV;by_cases e:q=r/\j=k
  ·obtain⟨rfl,rfl⟩:=e;simp at lV;subst lV;rw[ah];exact⟨c,fA,hw,hm,hlen,fun j x aa=>let ⟨v,e1,e2,bI⟩:=aX j x aa;⟨v,e1,e2,da.rel bI⟩⟩
  ·rw[dy e] at lV;refine da.obj (fun jR aJ ls=>y3 jR ?_) (h.obj q j p lV);rintro rfl;exact e (h.inj q j p r k o jR aJ m lV an ls ah)
 ·intro q j p i7 jv lL jR jH iw h1 h2 U ai
  have key : ∀q j p,(s.setRow r (l.set k {o with es})).al q j=some p-> ∃lL,s.al q j=some lL:=by
   intro q j p a0;rw[bx] at a0;by_cases e:q=r/\j=k
   ·obtain⟨rfl,rfl⟩:=e;exact⟨o,an⟩
   ·rw[dy e] at a0;exact⟨p,a0⟩
  obtain⟨p1,W2⟩:=key q j p h1;obtain⟨p2,Gs⟩:=key i7 jv lL h2;exact h.inj q j p1 i7 jv p2 jR jH iw W2 Gs U ai
 ·intro q j p jR aJ h1 h2
  rw[bx] at h1;by_cases e:q=r/\j=k
  ·obtain⟨rfl,rfl⟩:=e;exact h.own q j o jR aJ an h2
  ·rw[dy e] at h1;exact h.own q j p jR aJ h1 h2
 ·refine h.ik.step tw NV NA (Nat.le_of_eq fM.symm) fun jR oR ls=>y3 jR ?_
  rintro rfl;rcases h.own r k o jR m an ah with h1|h1
  ·omega
  ·exact ls h1
inductive uF where
 | id
 | eT (es:List (List aF))
 | gP (sz:Nat)
 | kN
 | cF (x:aF)
 | len (n:Nat)
 | uG (sz:Nat)
 | at_ (j i n:Nat)
 | view (eD:Nat) (o:a3) (es:List (List aF))
 deriving Inhabited
inductive DG where
 | cE (c:uF)
 | ptr (l:List uF)
 | xv (l:List uF)
 | agg (l:List uF)
 deriving Inhabited
inductive nd where
 | bc (c:DG)
 | comp (l:List DG)
 deriving Inhabited
inductive jS where
 | pure
 | box (l:List uF)
 | cF (row:List a3)
 | bu (row:List a3)
 | rx (row:List a3)
 | drop
 deriving Inhabited
structure n9 where
 bH:List (Nat×Nat):=[]
 lg:Option (Nat×Nat):=none
 deriving DecidableEq
inductive Src where
 | row (r:Nat)
 | al (r k:Nat) (o:a3)
 deriving Inhabited
structure He where
 a7:List Src:=[]
 d4:List jS:=[]
 ac:List nd
 r:aF
 fC:List (List a3):=[]
 hI:nd:= .bc (.cE .id)
 iN:List jS:=[]
 e7:List Nat:=[]
 eJ:Bool:=true
inductive gF where
 | none
 | R (t:Bool)
 | bT (c:List aF)
 | gI (o:a3) (c:List aF)
 | ev
 | call (c:He)
 | ay (m:Nat) (o:Option a3:=Option.none)
 | gM (t:Nat) (v:aF) (a:gF)
 | z9 (r:Nat) (a:gF)
 | xS (r n:Nat) (a:gF)
structure je where
 val:aF
 gW:List (Nat×List a3):=[]
 gq:List Prop:=[]
def Fy (P:Program)(t:TypeId):Bool :=
 match P.underlying t with
 | some (.struct _)|some (.array _ _)=>true
 | _=>false
def C5 (pu:ar):ByteArray:=pu.foldl (fun r n=>r.push (UInt8.ofNat n.toNat)) ByteArray.empty
def bytesOf:List (List aF)->Option ar
 | []=>some []
 | [.n .u8 n]::es=>(bytesOf es).map (n :: ·)
 | _=>none
def elemAt (es:List (List aF))(i:Nat):gF->Option (List aF×List Prop)
 | .bT c=>some (c,[es[i]? = some c])
 | .gI _ c=>some (c,[es[i]? = some c])
 | _=>match es[i]? with
  | some c=>some (c,[])
  | none=>none
def qk (row:Option (List a3))(k:Nat):gF->Option (a3×List Prop)
 | .gI o _=>match row with
  | some row=>some (o,[ee (some row) k=some o])
  | none=>none
 | _=>match ee row k with
  | some o=>some (o,[])
  | none=>none
def tl (P:Program)(t:TypeId)(c:List aF)(off:Nat):Option aF :=
 if !((P.underlying t).isSome && (P.info? t).isSome) then none else
 if Fy P t then (if off+P.cellsOf t<=c.length then some (.agg ((c.drop off).take (P.cellsOf t))) else none)
 else match c[off]? with
  | some x=>if x.one then some x else none
  | none=>none
def NB (op:BinOp)(x y:aF):Option (aF×List Prop) :=
 match x,y with
 | .n k a,.n eG b =>
  match op with
  | .shl=>some (.n k (k.wrap (a*2 ^ (min b.toNat k.bits))),[0<=b])
  | .shr=>some (.n k (a.fdiv (2 ^ (min b.toNat k.bits))),[0<=b])
  | _=>if k≠eG then none else
   match op with
   | .add=>some (.n k (k.wrap (a+b)),[])
   | .sub=>some (.n k (k.wrap (a-b)),[])
   | .mul=>some (.n k (k.wrap (a*b)),[])
   | .quo=>some (.n k (k.wrap (a.tdiv b)),[b≠0])
   | .rem=>some (.n k (a.tmod b),[b≠0])
   | .and=>some (.n k (k.wrap ((BitVec.ofInt k.bits a &&& BitVec.ofInt k.bits b).toNat)),[])
   | .or=>some (.n k (k.wrap ((BitVec.ofInt k.bits a ||| BitVec.ofInt k.bits b).toNat)),[])
   | .xor=>some (.n k (k.wrap ((BitVec.ofInt k.bits a ^^^ BitVec.ofInt k.bits b).toNat)),[])
   | .eql=>some (.b (a == b),[])
   | .neq=>some (.b (a != b),[])
   | .lss=>some (.b (decide (a<b)),[])
   | .leq=>some (.b (decide (a<=b)),[])
   | .gtr=>some (.b (decide (b<a)),[])
   | .geq=>some (.b (decide (b<=a)),[])
   | _=>none
 | .s a,.s b =>
  match op with
  | .add=>some (.s (a++b),[a.size+b.size<9223372036854775808])
  | .eql=>some (.b (a.toList == b.toList),[])
  | .neq=>some (.b (!(a.toList == b.toList)),[])
  | _=>none
 | _,_=>none
def ve (P:Program)(t:TypeId)(x y:aF):Option Bool :=
 match P.underlying t,x,y with
 | some .bool,.b a,.b c=>some (a == c)
 | some (.pointer _),.jW,.jW=>some true
 | some (.pointer _),.fo ..,.jW=>some false
 | some (.pointer _),.jW,.fo .. => some false
 | some (.slice _),.fT,.fT=>some true
 | some (.slice _),.kg,.fT=>some false
 | _,_,_=>none
def NW (op:UnOp)(x:aF):Option aF :=
 match op,x with
 | .neg,.n k a=>some (.n k (k.wrap (0-a)))
 | .not,.b a=>some (.b (!a))
 | _,_=>none
def fieldsOf (P:Program)(t:TypeId):Option (Array Field) :=
 match P.underlying t with
 | some (.struct mu)=>some mu
 | _=>none
def sk (P:Program)(t:TypeId):Option TypeId :=
 match P.underlying t with
 | some (.slice e)=>some e
 | _=>none
def s4 (P:Program)(t:TypeId):Option (List aF) :=
 match P.info? t with
 | some i=>match i.zero with
  | some v=>if v.cells.toList.all (·.oneCell') then some (v.cells.toList.map ofValue) else none
  | none=>none
 | none=>none
def F3 (P:Program)(t:TypeId):Option (Nat×TypeId) :=
 match P.underlying t with
 | some (.array n e)=>if (P.info? e).isSome/\P.cellsOf e≠0/\1<n then some (n,e) else none
 | _=>none
def sr (j:Int):List aF->List aF->Option (List aF)
 | [],[]=>some []
 | .n k x::a,.n eG y::b=>if k=eG then (sr j a b).map (.n k (if j=0 then x else y) :: ·) else none
 | _,_=>none
def M2 (P:Program)(t:TypeId)(x lM:aF):Option je :=
 match F3 P t,x,lM with
 | some (2,e),.agg cs,.n _ j=>match tl P e cs (0*P.cellsOf e),tl P e cs (1*P.cellsOf e) with
  | some (.agg a),some (.agg b)=>(sr j a b).map fun c=>{val:= .agg c,gq:=[0<=j,j<2]}
  | _,_=>none
 | _,_,_=>none
def CV (P:Program)(a5:Nat->Option (List a3))(t:TypeId)(x lM:aF)(db:gF):Option je :=
 match F3 P t,x,lM with
 | some (n,e),.ref r k i off,.n _ j=>match qk (a5 r) k db with
  | some (al,b4)=>match elemAt al.es i db with
   | some (_,aU)=>some {val:= .ref r k i (off+j.toNat*P.cellsOf e),gq:=b4++aU++[0<=j,j<n]}
   | none=>none
  | none=>none
 | _,_,_=>none
def Fz:aF->aF->aF
 | .fT,.isl sz []=> .isl sz []
 | .jW,.hh sz none=> .hh sz none
 | .fT,.kh r c sz none=> .kh r c sz none
 | x,_=>x
def uc:List aF->List aF->List aF
 | x::z,y::c=>Fz x y::uc z c
 | z,_=>z
def vX (z:List aF):gF->List aF
 | .bT c=>uc z c
 | _=>z
def setCells (c:List aF)(off:Nat)(vs:List aF):List aF:=c.take off++vs++c.drop (off+vs.length)
def u7:List aF->List (Nat×Nat×aF)->Option (List aF)
 | c,[]=>some c
 | c,(off,size,x)::rest =>
  if x.Cv && x.cells.length=size && decide (off+size<=c.length) then u7 (setCells c off x.cells) rest else none
def CW (sz:Nat):List (List aF)->List (Nat×aF)->Option (List (List aF))
 | es,[]=>some es
 | es,(i,x)::rest=>if x.Cv && x.cells.length=sz && decide (i<es.length) then CW sz (es.set i x.cells) rest else none
def ag:Option aF->Nat->Option (Nat×List Prop)
 | none,d=>some (d,[])
 | some (.n _ x),_=>some (x.toNat,[0<=x])
 | _,_=>none
def Mv (P:Program)(t:TypeId)(parts:List (Nat×aF)):Option je :=
 match F3 P t,s4 P t with
 | some (_,e),some z=>(u7 z (parts.map fun p=>(p.1*P.cellsOf e,P.cellsOf e,p.2))).map fun c=>{val:= .agg c}
 | _,_=>none
def fI (P:Program)(E:Nat->aF)(a5:Nat->Option (List a3))(a6:Nat)(o:Oper)(db:gF):Option je :=
 let jf:=fG E
 match o.op with
 | .move x | .assign x=>some {val:=jf x}
 | .pick c a b =>
  match jf c,db with
  | .b x,.R t=>some {val:=if t then jf a else jf b,gq:=[x=t]}
  | .b true,_=>some {val:=jf a}
  | .b false,_=>some {val:=jf b}
  | _,_=>none
 | .alloc t =>
  match s4 P t with
  | some c=>some {val:= .ref a6 0 0 0,gW:=[(a6,[⟨c.length,[c],.live⟩])]}
  | none=>none
 | .box _ x =>
  match jf x with
  | .agg c=>some {val:= .ref a6 0 0 0,gW:=[(a6,[⟨c.length,[c],.live⟩])]}
  | v=>if v.one then some {val:= .ref a6 0 0 0,gW:=[(a6,[⟨1,[[v]],.live⟩])]} else none
 | .load t x =>
  match jf x with
  | .ref r k i off =>
   match qk (a5 r) k db with
   | some (al,b4)=>match elemAt al.es i db with
    | some (c,aU)=>match tl P t c off with
     | some v=>some {val:=v,gq:=b4++aU}
     | none=>none
    | none=>none
   | none=>none
  | .fo _ es i off =>
   match elemAt es i db with
   | some (c,aU)=>match tl P t c off with
    | some v=>some {val:=v,gq:=aU}
    | none=>none
   | none=>none
  | _=>none
 | .store t x y =>
  match jf x with
  | .ref r k i off =>
   match a5 r with
   | none=>none
   | some row =>
   match qk (some row) k db with
   | some (al,b4) =>
    if al.cT≠ .live then none else
    let v:=jf y
    if v.Cv=false then none else
    if v.cells.length≠P.cellsOf t\/(P.info? t).isSome=false then none else
    match db with
    | .ev=>if off=0 then some {val:= .dead,gW:=[(r,row.set k {al with es:=al.es.set i v.cells})],gq:=b4++[i<al.es.length,v.cells.length=al.sz]} else none
    | _=>match elemAt al.es i db with
     | some (c,aU)=>if off+v.cells.length<=c.length then some {val:= .dead,gW:=[(r,row.set k {al with es:=al.es.set i (setCells c off v.cells)})],gq:=b4++aU} else none
     | none=>none
   | none=>none
  | _=>none
 | .nilCheck x =>
  match jf x with
  | .ref r k i off=>match qk (a5 r) k db with
   | some (al,b4)=>match elemAt al.es i db with
    | some (_,aU)=>some {val:= .ref r k i off,gq:=b4++aU}
    | none=>none
   | none=>none
  | .fo sz es i off=>some {val:= .fo sz es i off}
  | .fn f c=>some {val:= .fn f c}
  | _=>none
 | .binOp op t x y _ =>
  match NB op (jf x) (jf y) with
  | some (v,al)=>some {val:=v,gq:=al}
  | none=>match op with
   | .eql=>(ve P t (jf x) (jf y)).map fun r=>{val:= .b r}
   | .neq=>(ve P t (jf x) (jf y)).map fun r=>{val:= .b (!r)}
   | _=>none
 | .unOp op _ x=>(NW op (jf x)).map fun v=>{val:=v}
 | .convert src dst x =>
  match P.underlying dst,jf x with
  | some (.int k),.n _ a=>if (P.underlying src).isSome then some {val:= .n k (k.wrap a)} else none
  | some .string,.bb r k b6 len =>
   match (sk P src).bind P.underlying,ee (a5 r) k with
   | some (.int .u8),some al=>match bytesOf ((al.es.drop b6).take len) with
    | some pu=>if b6+len<=al.es.length/\al.sz=1 then some {val:= .s (C5 pu)} else none
    | none=>none
   | _,_=>none
  | _,_=>none
 | .makeFunc (.func f) first captured =>
  if first.size=0 then some {val:= .fn f (captured.toList.map jf)} else none
 | .makeSlice t l c =>
  match sk P t,jf l,jf c with
  | some e,.n _ l,.n _ c =>
   match P.info? e,s4 P e with
   | some i,some z=>if z.length=i.size then some {val:= .bb a6 0 0 l.toNat,gW:=[(a6,[⟨z.length,List.replicate l.toNat (vX z db),.live⟩])],gq:=[0<=l,l<=c,(i.bytes:Int)*c<=281474976710656,c<9223372036854775808]} else none
   | _,_=>none
  | _,_,_=>none
 | .fieldAddr t x f =>
  match fieldsOf P t with
  | some mu=>match mu[f]? with
   | some fd=>if P.cellsOf fd.type=0 then none else
    match jf x with
    | .ref r k i off=>match qk (a5 r) k db with
     | some (al,b4)=>match elemAt al.es i db with
      | some (_,aU)=>some {val:= .ref r k i (off+fd.offset),gq:=b4++aU}
      | none=>none
     | none=>none
    | .fo sz es i off=>some {val:= .fo sz es i (off+fd.offset)}
    | _=>none
   | none=>none
  | none=>none
 | .field t x f =>
  match fieldsOf P t with
  | some mu=>match mu[f]?,jf x with
   | some fd,.agg c=>(tl P fd.type c fd.offset).map fun v=>{val:=v}
   | _,_=>none
  | none=>none
 | .indexAddr t x lM =>
  match sk P t,jf lM with
  | some e,.n _ j =>
   match jf x with
   | .isl sz es=>if sz=P.cellsOf e/\sz≠0 then some {val:= .fo sz es j.toNat 0,gq:=[0<=j,j<es.length]} else none
   | .bb r k b6 len=>match a5 r with
    | some row=>match qk (some row) k db with
     | some (al,b4)=>if al.sz=P.cellsOf e/\al.sz≠0 then some {val:= .ref r k (b6+j.toNat) 0,gq:=b4++[0<=j,j<len]} else none
     | none=>none
    | none=>none
   | _=>none
  | _,_=>CV P a5 t (jf x) (jf lM) db
 | .index t x lM =>
  match P.underlying t,jf x,jf lM with
  | some .string,.s s,.n _ j=>some {val:= .n .u8 (s.data.toList.getD j.toNat 0).toNat,gq:=[0<=j,j<s.size]}
  | _,_,_=>M2 P t (jf x) (jf lM)
 | .extract x i =>
  match jf x with
  | .ea vs=>(vs[i]?).map fun v=>{val:=v}
  | _=>none
 | .slice t x b6 ad none =>
  match P.underlying t,jf x with
  | some (.slice e),.isl sz es =>
   match ag (b6.map jf) 0,ag (ad.map jf) es.length with
   | some (l,b4),some (h,aU)=>if sz=P.cellsOf e/\sz≠0 then some {val:= .isl sz ((es.drop l).take (h-l)),gq:=b4++aU++[l<=h,h<=es.length]} else none
   | _,_=>none
  | some (.slice e),.bb r k Yb len =>
   match a5 r with
   | none=>none
   | some row=>match qk (some row) k db with
    | none=>none
    | some (al,Yc) =>
     match ag (b6.map jf) 0,ag (ad.map jf) len with
     | some (l,b4),some (h,aU)=>if al.sz=P.cellsOf e/\al.sz≠0 then some {val:= .bb r k (Yb+l) (h-l),gq:=Yc++b4++aU++[l<=h,h<=len]} else none
     | _,_=>none
  | some .string,.s s =>
   match ag (b6.map jf) 0,ag (ad.map jf) s.size with
   | some (l,b4),some (h,aU)=>some {val:= .s (s.extract l h),gq:=b4++aU++[l<=h,h<=s.size]}
   | _,_=>none
  | _,_=>none
 | .build t parts =>
  match fieldsOf P t,s4 P t with
  | some mu,some z =>
   if mu.toList.all (fun f=>(P.info? f.type).isSome)=false then none else
   match parts.toList.mapM fun (p:Nat×Operand)=>(mu[p.1]?).map fun fd=>(fd.offset,P.cellsOf fd.type,jf p.2) with
   | some l=>(u7 z l).map fun c=>{val:= .agg c}
   | none=>none
  | _,_=>Mv P t (parts.toList.map fun p=>(p.1,jf p.2))
 | .buildSlice t len parts =>
  match sk P t with
  | some e=>match s4 P e with
   | some z =>
    if len*z.length>16777216\/z.length≠P.cellsOf e\/z.length=0 then none else
    match CW z.length (List.replicate len z) (parts.toList.map fun p=>(p.1,jf p.2)) with
    | some es=>some {val:= .bb a6 0 0 len,gW:=[(a6,[⟨z.length,es,.live⟩])]}
    | none=>none
   | none=>none
  | none=>none
 | .call {callee:= .builtin .len,args,argTypes} =>
  match args.toList.map jf,P.underlying (argTypes.getD 0 0),decide (argTypes.size=1) with
  | [.isl _ es],some (.slice _),true=>some {val:= .n .i64 es.length}
  | [.bb r k _ len],some (.slice _),true=>match a5 r with
   | some row=>match qk (some row) k db with
    | some (_,b4)=>some {val:= .n .i64 len,gq:=b4}
    | none=>none
   | none=>none
  | [.fT],some (.slice _),true=>some {val:= .n .i64 0}
  | [.s x],some .string,true=>some {val:= .n .i64 x.size}
  | _,_,_=>none
 | _=>none
theorem ru {α:Type}{sz:Nat}(bL:0<sz): ∀(es:List (List α)) (_ : ∀e∈es,e.length=sz) (j:Nat),
 es.flatten[j]? = (es[j / sz]?).bind (·[j % sz]?)
 | [],_,j=>by simp
 | e::es,h,j=>by
  have he:e.length=sz:=h e (by simp);rw[List.flatten_cons,List.getElem?_append];by_cases av:j<sz
  ·rw[dw (by omega),Nat.div_eq_of_lt av,Nat.mod_eq_of_lt av];simp
  ·rw[dy (by omega),he,ru bL es (fun fe nL=>h fe (by simp[nL])) (j-sz)];have h1:j / sz=(j-sz) / sz+1:=Nat.div_eq_sub_div bL (by omega);have h2:j % sz=(j-sz) % sz:=Nat.mod_eq_sub_mod (by omega);rw[h1,h2];simp
theorem E7 {α:Type}{sz:Nat}{es:List (List α)}(aZ:∀e∈es,e.length=sz){i:Nat}{c:List α}(he:es[i]? = some c){j:Nat}(av:j<sz):
 es.flatten[i*sz+j]? = c[j]? := by
 have bL:0<sz:=by omega
 rw[ru bL es aZ];have h1:(i*sz+j) / sz=i:=by rw[Nat.mul_comm,Nat.mul_add_div bL,Nat.div_eq_of_lt av];omega
 have h2:(i*sz+j) % sz=j:=by rw[Nat.mul_comm,Nat.mul_add_mod,Nat.mod_eq_of_lt av]
 rw[h1,h2,he];rfl
theorem S7 {α:Type}{sz:Nat}{es:List (List α)}(aZ:∀e∈es,e.length=sz){i:Nat}{c eC:List α}(he:es[i]? = some c)(aX:eC.length=sz)(j:Nat):
 (es.set i eC).flatten[j]? = if i*sz<=j/\j<i*sz+sz then eC[j-i*sz]? else es.flatten[j]? := by
 rcases Nat.eq_zero_or_pos sz with h0|bL
 ·subst h0
  have e1 : ∀(l:List (List α)),(∀e∈l,e.length=0)->l.flatten=[]:=by
   intro l aZ;induction l with
   | nil=>rfl
   | cons a l ih=>rw[List.flatten_cons,ih fun e he=>aZ e (by simp[he])];have:=aZ a (by simp);simp_all
  rw[e1 _ aZ,e1 (es.set i eC) (by
   intro e hm;rcases List.mem_or_eq_of_mem_set hm with h|h
   ·exact aZ e h
   ·exact h▸aX)]
  simp
 ·have NX : ∀e∈es.set i eC,e.length=sz:=by
   intro e hm;rcases List.mem_or_eq_of_mem_set hm with h|h
   ·exact aZ e h
   ·exact h▸aX
  have ad:i<es.length:=by
   rcases Nat.lt_or_ge i es.length with h|h
   ·exact h
   ·rw[List.getElem?_eq_none h] at he;simp at he
  rw[ru bL _ NX,ru bL _ aZ];by_cases a0:j / sz=i
  ·have h1:i*sz<=j/\j<i*sz+sz:=by
    subst a0;constructor
    ·exact Nat.div_mul_le_self j sz
    ·have:=Nat.lt_div_mul_add (a:=j) bL;omega
   rw[dw h1,a0,List.getElem?_set_self ad];have:j % sz=j-i*sz:=(by subst a0;have:=Nat.div_add_mod j sz;rw[Nat.mul_comm] at this;omega);simp[this]
  ·have h1 : ¬(i*sz<=j/\j<i*sz+sz):=by
    rintro⟨a,b⟩;apply a0;obtain⟨d,rfl⟩ : ∃d,j=i*sz+d:=⟨j-i*sz,by omega⟩;rw[Nat.mul_comm i sz,Nat.mul_add_div bL,Nat.div_eq_of_lt (by omega)];omega
   rw[dy h1,List.getElem?_set_ne (Ne.symm a0)]
def qF (w:World)(ok:Nat->Prop)(bg:kz)(bp:kr)(e4 o sz:Nat)(es:List (List aF)):Prop :=
 (∀e∈es,e.length=sz)/\ ∀(j:Nat) x,es.flatten[j]? = some x-> ∃v,w.cell? ⟨e4,o+j,none⟩=some v/\lD v=true/\Rel w ok bg bp x v
theorem ku.rd {w:World}{ok:Nat->Prop}{bg:kz}{bp:kr}{o:a3}{e4 m:Nat}(h:ku w ok bg bp o (some (e4,m))):qF w ok bg bp e4 0 o.sz o.es:=by obtain⟨c,fA,h1,h2,U,ai⟩:=h;refine⟨U,fun j x aa=> ?_⟩;obtain⟨v,e1,e2,bI⟩:=ai j x aa;exact⟨v,by rw[cell_of_row w e4 (0+j) c fA (0,0) h1,dG];exact e1,e2,bI⟩
theorem alF {w:World}{ok:Nat->Prop}{bg:kz}{bp:kr}{x:aF}{v:Value}(h:Rel w ok bg bp x v)(an:x.one=true):v.oneCell'=true:=h.lD an
theorem TR {P:Program}{t:TypeId}(h:(P.underlying t).isSome=true)(w:World):(isAgg t).run P w = .ok (Fy P t) w:=by
 cases bH:P.underlying t with
 | none=>simp[bH] at h
 | some d=>cases d<;>simp[isAgg,Fy,run_underlying bH,bH]
theorem vH {P:Program}{t:TypeId}(h:(P.info? t).isSome=true)(w:World):(sizeOf t).run P w = .ok (P.cellsOf t) w:=by
 cases ad:P.info? t with
 | none=>simp[ad] at h
 | some i=>simp[sizeOf,typeInfo,ad,Program.cellsOf]
theorem tY (b o n:Nat):(⟨b,o,none⟩:Addr).add n=⟨b,o+n,none⟩:=by unfold Addr.add;split<;>simp_all
theorem L8 {P:Program}{w:World}{ok:Nat->Prop}{bg:kz}{bp:kr}{e4 o sz i off:Nat}{es:List (List aF)}{c:List aF}{t:TypeId}{x:aF}
 (jY:qF w ok bg bp e4 o sz es) (he:es[i]? = some c) (cq:tl P t c off=some x) :
 ∃v,(Instr.loadAt t (.pointer (some ⟨e4,o+(i*sz+off),none⟩))).run P w = .ok v w/\Rel w ok bg bp x v:=by
 have hlen:c.length=sz:=jY.1 c (dH he);unfold tl at cq;split at cq
 ·simp at cq
 ·rename_i ad
  simp only[Bool.not_eq_true',Bool.not_eq_false,dM] at ad;have lp : ∀j,j<sz-> ∃y v,c[j]? = some y/\w.cell? ⟨e4,o+(i*sz+j),none⟩=some v/\lD v=true/\Rel w ok bg bp y v:=(by intro j av;have aW:c[j]? = some c[j]:=dz (by omega);obtain⟨v,e1,e2,bI⟩:=jY.2 (i*sz+j) c[j] (by rw[E7 jY.1 he av,aW]);exact⟨_,v,aW,e1,e2,bI⟩);simp only[Instr.loadAt,Instr.sureAddr,loadVar,Sem.run_bind,Sem.run_pure,Result.andThen,TR ad.1,vH ad.2];split at cq
  ·rename_i um
   rw[um];split at cq
   ·rename_i hle
    simp at cq;subst cq;have aZ:=run_loadCells (P:=P) w ⟨e4,o+(i*sz+off),none⟩ (P.cellsOf t) (fun j=>(w.cell? ⟨e4,o+(i*sz+(off+j)),none⟩).getD undef) (by intro j av;obtain⟨y,v,-,e1,-,-⟩:=lp (off+j) (by omega);rw[tY,show o+(i*sz+off)+j=o+(i*sz+(off+j)) by omega,e1];rfl);refine⟨.agg (List.map (fun j=>(w.cell? ⟨e4,o+(i*sz+(off+j)),none⟩).getD undef) (List.range (P.cellsOf t))).toArray,by simp[aZ,Result.andThen,vH ad.2],?_⟩;refine .agg _ (by simp;omega) ?_ ?_
    ·intro j v bf;rw[dJ,Option.map_eq_some_iff] at bf;obtain⟨q,nv,rfl⟩:=bf;obtain⟨qs,Db⟩:=List.getElem?_eq_some_iff.1 nv;have a0:j<P.cellsOf t:=(by simpa using qs);obtain rfl:j=q:=(by simpa using Db);obtain⟨y,v,-,e1,e2,-⟩:=lp (off+j) (by omega);rw[e1];exact e2
    ·intro j y v aW bf;rw[dJ,Option.map_eq_some_iff] at bf;obtain⟨q,nv,rfl⟩:=bf;obtain⟨qs,Db⟩:=List.getElem?_eq_some_iff.1 nv;have a0:j<P.cellsOf t:=(by simpa using qs);obtain rfl:j=q:=(by simpa using Db);rw[List.getElem?_take,dw a0,List.getElem?_drop] at aW;obtain⟨nR,v,h0,e1,e2,bI⟩:=lp (off+j) (by omega);rw[h0] at aW;simp at aW;subst aW;rw[e1];exact bI
   ·simp at cq
  ·rename_i um
   have um:Fy P t=false:=(by simpa using um);rw[um];split at cq
   ·rename_i y aW
    split at cq
    ·simp at cq;subst cq
     have C6:off<sz:=by
      rcases Nat.lt_or_ge off c.length with h|h
      ·omega
      ·rw[List.getElem?_eq_none h] at aW;simp at aW
     obtain⟨nR,v,h0,e1,e2,bI⟩:=lp off C6;rw[h0] at aW;simp at aW;subst aW;exact⟨v,by simp[e1],bI⟩
    ·simp at cq
   ·simp at cq
theorem R4 {c:List aF}{off:Nat}{vs:List aF}(h:off+vs.length<=c.length):(setCells c off vs).length=c.length:=by simp[setCells];omega
theorem LZ {c:List aF}{off:Nat}{vs:List aF}(h:off+vs.length<=c.length)(j:Nat):
 (setCells c off vs)[j]? = if off<=j/\j<off+vs.length then vs[j-off]? else c[j]? := by
 unfold setCells;rw[List.append_assoc,List.getElem?_append];have h1:(c.take off).length=off:=by simp;omega
 rw[h1];by_cases a:j<off
 ·rw[dw a,dy (by omega),List.getElem?_take,dw a]
 ·rw[dy a,List.getElem?_append]
  by_cases b:j<off+vs.length
  ·rw[dw (by omega),dw ⟨by omega,b⟩]
  ·rw[dy (by omega),dy (by omega),List.getElem?_drop];congr 1;omega
theorem ahk {c:Array Value}{p:Nat}{vs:List Value}(h:p+vs.length<=c.size)(j:Nat):
 (c.toList.take p++vs++c.toList.drop (p+vs.length)).toArray[j]? = if p<=j/\j<p+vs.length then vs[j-p]? else c[j]? := by
 rw[List.getElem?_toArray,List.append_assoc,List.getElem?_append];have h1:(c.toList.take p).length=p:=by simp;omega
 rw[h1];by_cases a:j<p
 ·rw[dw a,dy (by omega),List.getElem?_take,dw a,Array.getElem?_toList]
 ·rw[dy a,List.getElem?_append]
  by_cases b:j<p+vs.length
  ·rw[dw (by omega),dw ⟨by omega,b⟩]
  ·rw[dy (by omega),dy (by omega),List.getElem?_drop,Array.getElem?_toList];congr 1;omega
theorem ads {P:Program}{g:G}{s:S}{aH:gv}{a:Act}{w:World}(h:dg g s aH a w){r k b m i off:Nat}{l:List a3}{o:a3}{c:List aF}
 (aj:s.a5 r=some l) (an:s.al r k=some o) (a1:o.cT = .live) (ah:aH r k=some (b,m)) (he:o.es[i]? = some c)
 {t:TypeId} (NY:(P.info? t).isSome=true) {x:aF} {v:Value} (aa:Rel w (s.ok g aH w) s.bg (s.bp aH) x v) (nJ:x.one=true\/ ∃c,x = .agg c)
 (fM:x.cells.length=P.cellsOf t) (jt:off+x.cells.length<=c.length) :
 ∃bY,(Instr.storeAt t (.pointer (some ⟨b,i*o.sz+off,none⟩)) v).run P w = .ok () bY /\
  dg g (s.setRow r (l.set k {o with es:=o.es.set i (setCells c off x.cells)})) aH a bY:=by
 obtain⟨vs,bf,sw,lp,gk⟩:=aa.cellsOf nJ;have bx:=h.obj r k o an;rw[ah] at bx;obtain⟨cQ,fA,h1,h2,U,ai⟩:=bx;have hlen:c.length=o.sz:=U c (dH he)
 have C7:i*o.sz+off+vs.length<=cQ.size:=by
  rcases Nat.eq_zero_or_pos o.sz with cH|cH
  ·have:off=0:=(by omega);have:vs.length=0:=(by omega);rw[cH];omega
  ·have aZ:o.es.flatten[i*o.sz+(o.sz-1)]? = some (c[o.sz-1]'(by omega)):=by
    rw[E7 U he (by omega)];exact dz (by omega)
   obtain⟨Yd,e1,-,-⟩:=ai _ _ aZ;have:=(Array.getElem?_eq_some_iff.1 e1).1;omega
 have oa:=run_storeCells_at P b (i*o.sz+off) fA vs 0 cQ w h1 (by simpa using C7) (fun Yd Gt=>by obtain⟨q,a0⟩:=List.getElem?_of_mem Gt;exact lp q Yd a0);simp only[Nat.add_zero] at oa
 have ko:(Instr.storeAt t (.pointer (some ⟨b,i*o.sz+off,none⟩)) v).run P w =
  .ok () (w.setRow b (cQ.toList.take (i*o.sz+off)++vs++cQ.toList.drop (i*o.sz+off+vs.length)).toArray):=by
  have bL:v.cells.size=P.cellsOf t:=(by rw[bf];simpa using sw.trans fM);simp only[Instr.storeAt,Instr.sureAddr,storeVar,Sem.run_bind,Sem.run_pure,Result.andThen,vH NY,bL,ne_eq,not_true_eq_false,if_false];rw[bf];simpa using oa
 refine⟨_,ko,?_⟩;have aiy:(w.setRow b (cQ.toList.take (i*o.sz+off)++vs++cQ.toList.drop (i*o.sz+off+vs.length)).toArray).heap.size=w.heap.size:=size_setRow _ _ _;have vf:(setCells c off x.cells).length=o.sz:=by rw[R4 jt];exact hlen
 refine(h.write aj an a1 ah _ _ fA (setRow_heap w b cQ _ fA _ h1) aiy (fun q a0=>setRow_other w b q _ a0) rfl rfl rfl ?_ ?_ ?_).1
 ·simp;omega
 ·intro e hm
  rcases List.mem_or_eq_of_mem_set hm with c3|c3
  ·exact U e c3
  ·exact c3▸vf
 ·intro j y aW
  rw[ahk C7];rw[S7 U he vf] at aW;by_cases nM:i*o.sz<=j/\j<i*o.sz+o.sz
  ·rw[dw nM,LZ jt] at aW
   by_cases WB:off<=j-i*o.sz/\j-i*o.sz<off+x.cells.length
   ·rw[dw WB] at aW;rw[dw ⟨by omega,by omega⟩];have a0:j-(i*o.sz+off)<vs.length:=(by omega);refine⟨vs[j-(i*o.sz+off)],dz a0,lp _ _ (dz a0),gk (j-i*o.sz-off) y _ aW ?_⟩;rw[show j-i*o.sz-off=j-(i*o.sz+off) by omega];exact dz a0
   ·rw[dy WB] at aW;rw[dy (by omega)];refine ai j y ?_;rw[show j=i*o.sz+(j-i*o.sz) by omega,E7 U he (by omega)];exact aW
  ·rw[dy nM] at aW;rw[dy (by rw[sw];omega)];exact ai j y aW
def S.jD (s:S)(u:List (Nat×List a3)):S:=u.foldl (fun s p=>s.setRow p.1 p.2) s
@[simp] theorem S.alP (s:S):s.jD []=s:=rfl
@[simp] theorem S.alQ (s:S) (p:Nat×List a3):s.jD [p]=s.setRow p.1 p.2:=rfl
section
variable {w:World} {ok:Nat->Prop} {bg:kz} {bp:kr} {v:Value}
theorem Rel.xl {x:Bool}(h:Rel w ok bg bp (.b x) v):v = .bool x:=by cases h;rfl
theorem Rel.qh {k:IntKind}{x:Int}(h:Rel w ok bg bp (.n k x) v):v = .int k x:=by cases h;rfl
theorem Rel.CX {x:ByteArray}(h:Rel w ok bg bp (.s x) v):v = .string x:=by cases h;rfl
theorem Rel.yN (h:Rel w ok bg bp .jW v):v = .pointer none:=by cases h;rfl
theorem Rel.r8 (h:Rel w ok bg bp .fT v):v = .slice none 0 0:=by cases h;rfl
theorem Rel.IL (h:Rel w ok bg bp .kg v): ∃a c,v = .slice (some a) 0 c:=by cases h;exact⟨_,_,rfl⟩
theorem Rel.Ur {sz:Nat}(h:Rel w ok bg bp (.hh sz none) v):v = .pointer none:=by cases h;rfl
theorem Rel.Mw {sz:Nat}{c:List aF}(h:Rel w ok bg bp (.hh sz (some c)) v):Rel w ok bg bp (.fo sz [c] 0 0) v:=by cases h;assumption
theorem Rel.Jb {f:Nat}{c:List aF}(h:Rel w ok bg bp (.fn f c) v): ∃vs:List Value,v = .func (.func f) #[] vs.toArray/\vs.length=c.length /\
 ∀(j:Nat) x u,c[j]? = some x->vs[j]? = some u->Rel w ok bg bp x u:=by
 cases h with|fn vs aZ aj=>exact⟨vs,rfl,aZ,aj⟩
theorem Rel.CD {c:List aF}(h:Rel w ok bg bp (.agg c) v): ∃vs:List Value,v = .agg vs.toArray/\vs.length=c.length/\(∀(j:Nat) u,vs[j]? = some u->VL.lD u=true) /\
 ∀(j:Nat) x u,c[j]? = some x->vs[j]? = some u->Rel w ok bg bp x u:=by
 cases h with|agg vs aZ aX aj=>exact⟨vs,rfl,aZ,aX,aj⟩
theorem Rel.CE {c:List aF}(h:Rel w ok bg bp (.ea c) v): ∃vs:List Value,v = .tuple vs.toArray/\vs.length=c.length /\
 ∀(j:Nat) x u,c[j]? = some x->vs[j]? = some u->Rel w ok bg bp x u:=by
 cases h with|ea vs aZ aj=>exact⟨vs,rfl,aZ,aj⟩
theorem Rel.yW {r k i off sz:Nat}{p:Option (Nat×Nat)}(h:Rel w ok bg bp (.ref r k i off) v)(cq:bp r k=some (sz,p)):
 p=none\/ ∃b m,p=some (b,m)/\v = .pointer (some ⟨b,i*sz+off,none⟩):=by
 cases h with
 | sb a hu aY =>
  cases p with
  | none=>exact .inl rfl
  | some q=>exact absurd cq (aY _ _)
 | ref hu h =>
  rw[cq] at h;simp only[dB,dD] at h;obtain⟨rfl,rfl⟩:=h;exact .inr ⟨_,_,rfl,rfl⟩
theorem Rel.alW {r k i off:Nat}(h:Rel w ok bg bp (.ref r k i off) v): ∃a,v = .pointer a:=by
 cases h with
 | sb a=>exact⟨a,rfl⟩
 | ref=>exact⟨_,rfl⟩
theorem Rel.TS {r k i off sz b m:Nat}(h:Rel w ok bg bp (.ref r k i off) v)(cq:bp r k=some (sz,some (b,m)))(WC:Nat):
 Rel w ok bg bp (.ref r k i WC) (.pointer (some ⟨b,i*sz+WC,none⟩)):=by
 cases h with
 | sb a hu aY=>exact absurd cq (aY _ _)
 | ref hu h=>exact .ref hu cq
theorem Rel.CF {sz i off:Nat}{es:List (List aF)}(h:Rel w ok bg bp (.fo sz es i off) v): ∃e4 o,(ok e4/\jj es)/\v = .pointer (some ⟨e4,o+(i*sz+off),none⟩)/\qF w ok bg bp e4 o sz es:=by
 cases h with
 | fo cs aP ah aZ hw aX aj=>exact⟨_,_,⟨aP,ah⟩,rfl,aZ,fun j x aa=>⟨cs j,hw j x aa,aX j x aa,aj j x aa⟩⟩
theorem Rel.Ft {r k b6 len sz:Nat}{p:Option (Nat×Nat)}(h:Rel w ok bg bp (.bb r k b6 len) v)(cq:bp r k=some (sz,p)):
 (p=none/\b6=0/\len=0/\v = .slice none 0 0)\/ ∃b m a c,p=some (b,m)/\v = .slice a len c/\len<=c/\c<9223372036854775808/\(c=0\/(a=some ⟨b,b6*sz,none⟩/\(b6+c)*sz=m)):=by
 cases h with
 | pc a l c hu aY=>rw[cq] at aY;simp at aY
 | pA hu h =>
  rw[cq] at h;simp only[dB,dD] at h;exact .inl ⟨h.2,rfl,rfl,rfl⟩
 | bb hu h aZ aX hm =>
  rw[cq] at h;simp only[dB,dD] at h;obtain⟨rfl,rfl⟩:=h;exact .inr ⟨_,_,_,_,rfl,rfl,aZ,aX,hm.2.imp id fun e=>⟨e,hm.1⟩⟩
theorem Rel.yO {r k b6 len sz:Nat}{p:Option (Nat×Nat)}(h:Rel w ok bg bp (.bb r k b6 len) v)(cq:bp r k=some (sz,p)):
 (p=none/\b6=0/\len=0/\v = .slice none 0 0)\/ ∃b m a c,p=some (b,m)/\v = .slice a len c/\len<=c/\c<9223372036854775808/\(b6+c)*sz=m/\(c=0\/a=some ⟨b,b6*sz,none⟩):=by
 cases h with
 | pc a l c hu aY=>rw[cq] at aY;simp at aY
 | pA hu h =>
  rw[cq] at h;simp only[dB,dD] at h;exact .inl ⟨h.2,rfl,rfl,rfl⟩
 | bb hu h aZ aX hm =>
  rw[cq] at h;simp only[dB,dD] at h;obtain⟨rfl,rfl⟩:=h;exact .inr ⟨_,_,_,_,rfl,rfl,aZ,aX,hm⟩
theorem Rel.alG {r k b6 len:Nat}(h:Rel w ok bg bp (.bb r k b6 len) v): ∃a l c,v = .slice a l c:=by cases h<;>exact⟨_,_,_,rfl⟩
theorem Rel.vQ {sz:Nat}{es:List (List aF)}(h:Rel w ok bg bp (.isl sz es) v):
 (es=[]/\ ∃a c,v = .slice a 0 c/\(a=none->c=0))\/ ∃e4 off c,(ok e4/\jj es)/\v = .slice (some ⟨e4,off,none⟩) es.length c/\es.length<=c/\qF w ok bg bp e4 off sz es:=by
 cases h with
 | lG sz a c h=>exact .inl ⟨rfl,a,c,rfl,h⟩
 | isl cs aP ah aZ aX hw iS aj=>exact .inr ⟨_,_,_,⟨aP,ah⟩,rfl,aX,aZ,fun j x aa=>⟨cs j,hw j x aa,iS j x aa,aj j x aa⟩⟩
theorem qF.isl {e4 off c sz:Nat}{es:List (List aF)}(h:qF w ok bg bp e4 off sz es)(aP:ok e4/\jj es)(aX:es.length<=c):Rel w ok bg bp (.isl sz es) (.slice (some ⟨e4,off,none⟩) es.length c):=by
 have aa : ∀j:Nat,∃v,∀x,es.flatten[j]? = some x->w.cell? ⟨e4,off+j,none⟩=some v/\VL.lD v=true/\Rel w ok bg bp x v:=by
  intro j
  cases av:es.flatten[j]? with
  | none=>exact⟨undef,fun x aa=>by simp at aa⟩
  | some y =>
   obtain⟨v,h1⟩:=h.2 j y av;exact⟨v,fun x aa=>by simp at aa;subst aa;exact h1⟩
 exact .isl (fun j=>(aa j).choose) aP.1 aP.2 h.1 aX (fun j x av=>((aa j).choose_spec x av).1) (fun j x av=>((aa j).choose_spec x av).2.1) (fun j x av=>((aa j).choose_spec x av).2.2)
theorem qF.fo {e4 o i off sz:Nat}{es:List (List aF)}(h:qF w ok bg bp e4 o sz es)(aP:ok e4/\jj es):Rel w ok bg bp (.fo sz es i off) (.pointer (some ⟨e4,o+(i*sz+off),none⟩)):=by
 have aa : ∀j:Nat,∃v,∀x,es.flatten[j]? = some x->w.cell? ⟨e4,o+j,none⟩=some v/\VL.lD v=true/\Rel w ok bg bp x v:=by
  intro j
  cases av:es.flatten[j]? with
  | none=>exact⟨undef,fun x aa=>by simp at aa⟩
  | some y =>
   obtain⟨v,h1⟩:=h.2 j y av;exact⟨v,fun x aa=>by simp at aa;subst aa;exact h1⟩
 exact .fo (fun j=>(aa j).choose) aP.1 aP.2 h.1 (fun j x av=>((aa j).choose_spec x av).1) (fun j x av=>((aa j).choose_spec x av).2.1) (fun j x av=>((aa j).choose_spec x av).2.2)
end
def Fin (P:Program)(g:G)(s:S)(a:Act)(w:World)(o:Oper)(bG:je):Prop :=
 ∃v bY b0,((execOp a.eval o).run P w = .ok (.value v) bY\/((execOp a.eval o).run P w = .ok .skip bY/\v=undef)) /\
  dg g (s.jD bG.gW) b0 a bY/\Rel bY ((s.jD bG.gW).ok g b0 bY) (s.jD bG.gW).bg ((s.jD bG.gW).bp b0) bG.val v
section
variable {P:Program} {g:G} {s:S} {aH:gv} {a:Act} {w:World} {o:Oper} {db:gF} {a6:Nat} {bG:je}
theorem jy (h:dg g s aH a w){v:Value}(ko:(execOp a.eval o).run P w = .ok (.value v) w)(hu:bG.gW=[])
 (aj:Rel w (s.ok g aH w) s.bg (s.bp aH) bG.val v):Fin P g s a w o bG :=
 ⟨v,w,aH,.inl ko,by rw[hu];exact h,by rw[hu];exact aj⟩
theorem U5 {x:Operand}(h:dg g s aH a w)(an:o.op = .move x\/o.op = .assign x)(aD:fI P s.E s.a5 a6 o db=some bG):Fin P g s a w o bG:=by
 have:bG={val:=fG s.E x}:=by rcases an with an|an<;>simp[fI,an] at aD<;>exact aD.symm
 subst this;refine jy (v:=a.eval x) h ?_ rfl (h.eval x);rcases an with an|an<;>simp[execOp,an]
theorem agF {c x y:Operand}(h:dg g s aH a w)(an:o.op = .pick c x y)(aD:fI P s.E s.a5 a6 o db=some bG)(cW:∀p∈bG.gq,p):Fin P g s a w o bG:=by
 have aX:=h.eval c;simp only[fI,an] at aD
 have key : ∀t:Bool,fG s.E c = .b t->bG.gW=[]->bG.val=(if t then fG s.E x else fG s.E y)->Fin P g s a w o bG:=by
  intro t cq hu bf;rw[cq] at aX;have e:a.eval c = .bool t:=aX.xl;refine jy (v:=if t then a.eval x else a.eval y) h (by simp[execOp,an,e,asBool]) hu ?_;rw[bf];cases t
  ·exact h.eval y
  ·exact h.eval x
 split at aD
 ·rename_i z t cH;simp at aD;subst aD;have e:z=t:=cW _ (by simp);subst e;exact key z cH rfl rfl
 ·rename_i cH _;simp at aD;subst aD;exact key true cH rfl rfl
 ·rename_i cH _;simp at aD;subst aD;exact key false cH rfl rfl
 ·simp at aD
theorem IM (h:dg g s aH a w)(fN:s.a5 a6=none){v:Value}{al:a3}{c:Array Value}{fA:TypeId}(a1:al.cT = .live)
 (ko:(execOp a.eval o).run P w = .ok (.value v) (w.alloc (.cells c fA))) (hu:bG.gW=[(a6,[al])]) (hlen : ∀e∈al.es,e.length=al.sz)
 (aX : ∀(j:Nat) x,al.es.flatten[j]? = some x-> ∃v,c[j]? = some v/\lD v=true/\Rel w (s.ok g aH w) s.bg (s.bp aH) x v)
 (hval : ∀(bY:World) (mi:Nat->Prop) (oP:kz) (n8:kr),oP a6 0->n8 a6 0=some (al.sz,some (w.heap.size,c.size))->Rel bY mi oP n8 bG.val v):Fin P g s a w o bG:=by
 obtain⟨b0,ah,bL,-⟩:=h.alloc fN al a1 c fA hlen aX;have h1:(s.setRow a6 [al]).bg a6 0:=by rw[pb];simp
 have h2:(s.setRow a6 [al]).bp b0 a6 0=some (al.sz,some (w.heap.size,c.size)):=by simp[S.bp,nk,nU,a1,ah]
 exact⟨v,_,b0,.inl ko,by rw[hu];exact bL,by rw[hu];exact hval _ _ _ _ h1 h2⟩
theorem E8 {t:TypeId}{z:List aF}(cH:s4 P t=some z): ∃i fp,P.info? t=some i/\i.zero=some fp/\z=fp.cells.toList.map ofValue /\
 ∀(j:Nat) x,z[j]? = some x-> ∃v,fp.cells[j]? = some v/\lD v=true/\ ∀(w:World) (ok:Nat->Prop) (bg:kz) (bp:kr),Rel w ok bg bp x v:=by
 unfold s4 at cH
 cases ad:P.info? t with
 | none=>simp[ad] at cH
 | some i =>
  cases mj:i.zero with
  | none=>simp[ad,mj] at cH
  | some fp =>
   simp only[ad,mj] at cH;split at cH
   ·rename_i pP;simp only[dB] at cH;refine⟨i,fp,rfl,mj,cH.symm,fun j x aa=> ?_⟩;subst cH;rw[dJ,Option.map_eq_some_iff] at aa;obtain⟨v,bf,rfl⟩:=aa;refine⟨v,by rw[<- Array.getElem?_toList];exact bf,?_,fun w ok bg bp=>S5 v⟩;exact List.all_eq_true.1 pP v (dH bf)
   ·simp at cH
theorem afB {t:TypeId}(h:dg g s aH a w)(fN:s.a5 a6=none)(an:o.op = .alloc t)(aD:fI P s.E s.a5 a6 o db=some bG):Fin P g s a w o bG:=by
 simp only[fI,an] at aD;split at aD
 ·rename_i z cH
  obtain⟨i,fp,ad,mj,e,lp⟩:=E8 cH;simp only[dB] at aD;subst aD;refine IM (v:= .pointer (some ⟨w.heap.size,0,none⟩)) (c:=fp.cells) (fA:=t) (al:=⟨z.length,[z],.live⟩) h fN rfl ?_ rfl (by simp) ?_ ?_
  ·simp[execOp,an,Instr.alloc,zeroValue,typeInfo,ad,mj,newVar,newRow]
  ·intro j x aa;simp only[List.flatten_cons,List.flatten_nil,List.append_nil] at aa;obtain⟨v,h1,h2,U⟩:=lp j x aa;exact⟨v,h1,h2,U _ _ _ _⟩
  ·intro bY mi oP n8 hu cq;have:=Rel.ref (w:=bY) (ok:=mi) (i:=0) (off:=0) hu cq;simpa using this
 ·simp at aD
theorem ahl {t:TypeId}{x:Operand}(h:dg g s aH a w)(fN:s.a5 a6=none)(an:o.op = .box t x)(aD:fI P s.E s.a5 a6 o db=some bG):Fin P g s a w o bG:=by
 simp only[fI,an] at aD;have aa:=h.eval x
 have key : ∀al:a3,al.cT = .live->al.es=[(fG s.E x).cells]->al.sz=(fG s.E x).cells.length->((fG s.E x).one=true\/ ∃c,fG s.E x = .agg c) ->
  bG.gW=[(a6,[al])]->bG.val = .ref a6 0 0 0->Fin P g s a w o bG:=by
  intro al a1 i4 fM nJ hu bf;obtain⟨vs,e1,e2,bI,c1⟩:=aa.cellsOf nJ;refine IM (v:= .pointer (some ⟨w.heap.size,0,none⟩)) (c:=(a.eval x).cells) (fA:=t) h fN a1 ?_ hu ?_ ?_ ?_
  ·simp[execOp,an,Instr.box,newVar,newRow]
  ·intro e he;rw[i4] at he;simp at he;rw[he,fM]
  ·intro j y aW
   rw[i4] at aW;simp only[List.flatten_cons,List.flatten_nil,List.append_nil] at aW
   have av:j<vs.length:=by
    rcases Nat.lt_or_ge j (fG s.E x).cells.length with c3|c3
    ·omega
    ·rw[List.getElem?_eq_none c3] at aW;simp at aW
   refine⟨vs[j],by rw[e1];simp[av],bI j _ (dz av),c1 j y _ aW (dz av)⟩
  ·intro bY mi oP n8 qt cq;have:=Rel.ref (w:=bY) (ok:=mi) (i:=0) (off:=0) qt cq;rw[bf];simpa using this
 split at aD
 ·rename_i c aX;simp only[dB] at aD;subst aD;exact key _ rfl (by rw[aX];rfl) (by rw[aX];rfl) (.inr ⟨c,aX⟩) rfl rfl
 ·split at aD
  ·rename_i nJ
   simp only[dB] at aD;subst aD;have e:(fG s.E x).cells=[fG s.E x]:=by generalize fG s.E x=y at nJ;cases y<;>first|rfl|simp[aF.one] at nJ
   exact key _ rfl (by rw[e]) (by rw[e];rfl) (.inl nJ) rfl rfl
  ·simp at aD
theorem jL {s:S}{aH:gv}{r k:Nat}{al:a3}(h:s.al r k=some al):s.bp aH r k=some (al.sz,aH r k):=by simp[S.bp,h]
theorem vR {row:Option (List a3)}{k:Nat}{al:a3}{b4:List Prop}(h:qk row k db=some (al,b4))(cW:∀p∈b4,p):ee row k=some al:=by
 unfold qk at h;split at h
 ·split at h
  ·simp at h;obtain⟨rfl,rfl⟩:=h;exact cW _ (by simp)
  ·simp at h
 ·split at h
  ·rename_i c3;simp at h;obtain⟨rfl,rfl⟩:=h;exact c3
  ·simp at h
theorem Cr {es:List (List aF)}{i:Nat}{c:List aF}{b4:List Prop}(h:elemAt es i db=some (c,b4))(cW:∀p∈b4,p):es[i]? = some c:=by
 unfold elemAt at h;split at h
 ·simp at h;obtain⟨rfl,rfl⟩:=h;exact cW _ (by simp)
 ·simp at h;obtain⟨rfl,rfl⟩:=h;exact cW _ (by simp)
 ·split at h
  ·rename_i c3;simp at h;obtain⟨rfl,rfl⟩:=h;exact c3
  ·simp at h
theorem agG {t:TypeId}{x:Operand}(h:dg g s aH a w)(an:o.op = .load t x)(aD:fI P s.E s.a5 a6 o db=some bG)(cW:∀p∈bG.gq,p):Fin P g s a w o bG:=by
 simp only[fI,an] at aD;have aa:=h.eval x;split at aD
 ·rename_i r k i off iv
  rw[iv] at aa;split at aD
  ·rename_i al b4 bx
   split at aD
   ·rename_i c aU oz
    split at aD
    ·rename_i v bf
     simp only[dB] at aD;subst aD;have kW:s.al r k=some al:=vR bx fun p ah=>cW p (by simp[ah]);have rL:=Cr oz fun p ah=>cW p (by simp[ah]);have gk:=h.obj r k al kW;rcases aa.yW (jL kW) with h0|⟨b,m,ah,hval⟩
     ·rw[h0] at gk;simp only[ku] at gk;rw[gk] at rL;simp at rL
     ·rw[ah] at gk;obtain⟨u,h1,h2⟩:=L8 (P:=P) gk.rd rL bf;refine jy (v:=u) h ?_ rfl h2;rw[dG] at h1;simp[execOp,an,hval,h1]
    ·simp at aD
   ·simp at aD
  ·simp at aD
 ·rename_i sz es i off iv
  rw[iv] at aa;split at aD
  ·rename_i c aU oz
   split at aD
   ·rename_i v bf;simp only[dB] at aD;subst aD;have rL:=Cr oz fun p ah=>cW p (by simp[ah]);obtain⟨e4,cw,aP,hval,jY⟩:=aa.CF;obtain⟨u,h1,h2⟩:=L8 (P:=P) jY rL bf;refine jy (v:=u) h ?_ rfl h2;simp[execOp,an,hval,h1]
   ·simp at aD
  ·simp at aD
 ·simp at aD
end
section
variable {P:Program} {g:G} {s:S} {aH:gv} {a:Act} {w:World} {o:Oper} {db:gF} {a6:Nat} {bG:je}
theorem TT (h:dg g s aH a w){r k i off:Nat}{row:List a3}{al:a3}{c:List aF}{t:TypeId}{x y:Operand}(an:o.op = .store t x y)
 (iv:fG s.E x = .ref r k i off) (ep:s.a5 r=some row) (bx:s.al r k=some al) (a1:al.cT = .live) (oz:al.es[i]? = some c)
 (nJ:(fG s.E y).one=true\/ ∃c,fG s.E y = .agg c) (fM:(fG s.E y).cells.length=P.cellsOf t) (NY:(P.info? t).isSome=true)
 (jt:off+(fG s.E y).cells.length<=c.length) (aD:bG.val = .dead) (hu:bG.gW=[(r,row.set k {al with es:=al.es.set i (setCells c off (fG s.E y).cells)})]):Fin P g s a w o bG:=by
 have aa:=h.eval x;rw[iv] at aa;have gk:=h.obj r k al bx;rcases aa.yW (jL bx) with h0|⟨b,m,ah,hval⟩
 ·rw[h0] at gk;simp only[ku] at gk;rw[gk] at oz;simp at oz
 ·obtain⟨bY,h1,h2⟩:=ads (P:=P) h ep bx a1 ah oz NY (h.eval y) nJ fM jt;refine⟨undef,bY,aH,.inr ⟨?_,rfl⟩,by rw[hu];exact h2,by rw[aD];exact .dead _⟩;simp[execOp,an,hval,h1]
theorem afC {t:TypeId}{x y:Operand}(h:dg g s aH a w)(an:o.op = .store t x y)(aD:fI P s.E s.a5 a6 o db=some bG)(cW:∀p∈bG.gq,p):Fin P g s a w o bG:=by
 simp only[fI,an] at aD;split at aD
 ·rename_i r k i off iv
  split at aD
  ·simp at aD
  ·rename_i row ep
   split at aD
   ·rename_i al b4 aiz
    split at aD
    ·simp at aD
    ·rename_i a1
     have a1:al.cT = .live:=(by simpa using a1);split at aD
     ·simp at aD
     ·rename_i nJ
      have nJ:=aF.S6 (by simpa using nJ);split at aD
      ·simp at aD
      ·rename_i fM
       simp only[not_or,Decidable.not_not,Bool.not_eq_false] at fM;have kW:(∀p∈b4,p)->s.al r k=some al:=fun bF=>(by have:=vR aiz bF;unfold S.al;rw[ep];exact this);split at aD
       ·split at aD
        ·rename_i C6
         simp only[dB] at aD;subst aD;subst C6;have et:i<al.es.length:=cW _ (by simp);have iS:(fG s.E y).cells.length=al.sz:=cW _ (by simp);have F4:=kW fun p ah=>cW p (by simp[ah])
         have hlen:(al.es[i]).length=al.sz:=by
          have gk:=h.obj r k al F4
          cases ah:aH r k with
          | none=>rw[ah] at gk;simp only[ku] at gk;rw[gk] at et;simp at et
          | some q =>
           rw[ah] at gk;obtain⟨_,_,_,_,U,_⟩:=gk;exact U _ (List.getElem_mem et)
         refine TT h an iv ep F4 a1 (c:=al.es[i]) (dz et) nJ fM.1 fM.2 (by omega) rfl ?_;have e:setCells al.es[i] 0 (fG s.E y).cells=(fG s.E y).cells:=(by simp[setCells,hlen,iS]);rw[e]
        ·simp at aD
       ·split at aD
        ·rename_i c aU oz
         split at aD
         ·rename_i jt;simp only[dB] at aD;subst aD;exact TT h an iv ep (kW fun p ah=>cW p (by simp[ah])) a1 (Cr oz fun p ah=>cW p (by simp[ah])) nJ fM.1 fM.2 jt rfl rfl
         ·simp at aD
        ·simp at aD
   ·simp at aD
 ·simp at aD
theorem adt {x:Operand}(h:dg g s aH a w)(an:o.op = .nilCheck x)(aD:fI P s.E s.a5 a6 o db=some bG)(cW:∀p∈bG.gq,p):Fin P g s a w o bG:=by
 simp only[fI,an] at aD;have aa:=h.eval x;split at aD
 ·rename_i r k i off iv
  rw[iv] at aa;split at aD
  ·rename_i al b4 bx
   split at aD
   ·rename_i c aU oz
    simp only[dB] at aD;subst aD;have kW:s.al r k=some al:=vR bx fun p ah=>cW p (by simp[ah]);have rL:=Cr oz fun p ah=>cW p (by simp[ah]);have gk:=h.obj r k al kW;rcases aa.yW (jL kW) with h0|⟨b,m,ah,hval⟩
    ·rw[h0] at gk;simp only[ku] at gk;rw[gk] at rL;simp at rL
    ·refine jy (v:=a.eval x) h ?_ rfl aa;simp[execOp,an,hval]
   ·simp at aD
  ·simp at aD
 ·rename_i sz es i off iv;rw[iv] at aa;simp only[dB] at aD;subst aD;obtain⟨e4,cw,aP,hval,jY⟩:=aa.CF;refine jy (v:=a.eval x) h ?_ rfl aa;simp[execOp,an,hval]
 ·rename_i f c iv;rw[iv] at aa;simp only[dB] at aD;subst aD;obtain⟨vs,hval,-⟩:=aa.Jb;refine jy (v:=a.eval x) h ?_ rfl aa;simp[execOp,an,hval]
 ·simp at aD
theorem aeD {op:BinOp}{t:TypeId}{x y z:aF}{al:List Prop}(aD:NB op x y=some (z,al))(cW:∀p∈al,p)
 {ok:Nat->Prop} {bg:kz} {bp:kr} {mW mX:Value} (aa:Rel w ok bg bp x mW) (aW:Rel w ok bg bp y mX) (p q:Operand) :
 ∃v,((do eqGuard op t p q mW mX;binOp op t mW mX):Sem Value).run P w = .ok v w/\Rel w ok bg bp z v:=by
 unfold NB at aD;split at aD
 ·rename_i k n eG o1
  have jg:=aa.qh;have j8:=aW.qh;subst jg;subst j8;have dn : ∀op,eqGuard op t p q (.int k n) (.int eG o1)=pure ():=fun op=>eqGuard_at_int ..;simp only[Sem.run_bind,dn,Sem.run_pure,Result.andThen_ok];split at aD
  ·simp only[dB,dD] at aD;obtain⟨rfl,rfl⟩:=aD;have h0:0<=o1:=cW _ (by simp);exact⟨_,by simp[binOp,Op.shift,show ¬o1<0 by omega],.n _ _⟩
  ·simp only[dB,dD] at aD;obtain⟨rfl,rfl⟩:=aD;have h0:0<=o1:=cW _ (by simp);exact⟨_,by simp[binOp,Op.shift,show ¬o1<0 by omega],.n _ _⟩
  ·split at aD
   ·simp at aD
   ·rename_i a1
    have a1:k=eG:=(by simpa using a1);subst a1;split at aD<;>simp only[dB,dD,reduceCtorEq] at aD
    all_goals (obtain⟨rfl,rfl⟩:=aD)
    case h_4|h_5 =>
     have h0:o1≠0:=cW _ (by simp);exact⟨_,by simp[binOp,Op.intDiv,h0],.n _ _⟩
    all_goals first
     | (refine⟨_,?_,.n _ _⟩;rw[binOp_add];rfl)
     | (refine⟨_,?_,.n _ _⟩;rw[binOp_sub];rfl)
     | (refine⟨_,?_,.n _ _⟩;rw[binOp_mul];rfl)
     | (refine⟨_,?_,.n _ _⟩;rw[binOp_and];rfl)
     | (refine⟨_,?_,.n _ _⟩;rw[binOp_or];rfl)
     | (refine⟨_,?_,.n _ _⟩;rw[binOp_xor];rfl)
     | (refine⟨_,?_,.b _⟩;simp[binOp,Op.intCmp];done)
 ·rename_i df nR
  have jg:=aa.CX;have j8:=aW.CX;subst jg;subst j8;have dn : ∀op,eqGuard op t p q (.string df) (.string nR)=pure ():=fun op=>eqGuard_at_string ..;simp only[Sem.run_bind,dn,Sem.run_pure,Result.andThen_ok];split at aD<;>simp only[dB,dD,reduceCtorEq] at aD
  all_goals (obtain⟨rfl,rfl⟩:=aD)
  ·have h0:df.size+nR.size<9223372036854775808:=cW _ (by simp);refine⟨_,?_,.s _⟩;have h1 : ¬((df.size+nR.size:Nat):Int)>IntKind.i64.max:=(by rw[IntKind.max_i64];omega);rw[IntKind.max_i64] at h1;simp[binOp,Op.stringOp];omega
  ·exact⟨_,by simp[binOp,Op.stringOp],.b _⟩
  ·exact⟨_,by simp[binOp,Op.stringOp],.b _⟩
 ·simp at aD
theorem yI (t:TypeId)(x y:Value):Op.equal t x y=Op.equalIn (9999+1) t x y:=rfl
theorem EP {t:TypeId}{a b:Bool}(d:Nat)(bH:P.underlying t=some .bool):(Op.equalIn (d+1) t (.bool a) (.bool b)).run P w = .ok (a == b) w:=by unfold Op.equalIn;simp[run_underlying bH]
theorem E9 {t e:TypeId}(d:Nat)(bH:P.underlying t=some (.pointer e)):(Op.equalIn (d+1) t (.pointer none) (.pointer none)).run P w = .ok true w:=by unfold Op.equalIn;simp[run_underlying bH]
theorem Fa {t e:TypeId}{a:Addr}(d:Nat)(bH:P.underlying t=some (.pointer e)):(Op.equalIn (d+1) t (.pointer (some a)) (.pointer none)).run P w = .ok false w:=by unfold Op.equalIn;simp[run_underlying bH]
theorem Fb {t e:TypeId}{a:Addr}(d:Nat)(bH:P.underlying t=some (.pointer e)):(Op.equalIn (d+1) t (.pointer none) (.pointer (some a))).run P w = .ok false w:=by unfold Op.equalIn;simp[run_underlying bH]
theorem Fc {t e:TypeId}(d:Nat)(bH:P.underlying t=some (.slice e)):(Op.equalIn (d+1) t (.slice none 0 0) (.slice none 0 0)).run P w = .ok true w:=by unfold Op.equalIn;simp[run_underlying bH]
theorem Tn {t e:TypeId}{a:Addr}{c:Nat}(d:Nat)(bH:P.underlying t=some (.slice e))(n:Nat):(Op.equalIn (d+1) t (.slice (some a) n c) (.slice none 0 0)).run P w = .ok false w:=by unfold Op.equalIn;simp[run_underlying bH]
theorem Cy {t:TypeId}{x y:aF}{r:Bool}(aD:ve P t x y=some r)
 {ok:Nat->Prop} {bg:kz} {bp:kr} {mW mX:Value} (aa:Rel w ok bg bp x mW) (aW:Rel w ok bg bp y mX) (p q:Operand) :
 ((do eqGuard .eql t p q mW mX;binOp .eql t mW mX):Sem Value).run P w = .ok (.bool r) w /\
 ((do eqGuard .neq t p q mW mX;binOp .neq t mW mX):Sem Value).run P w = .ok (.bool !r) w:=by
 have key : ∀b:Bool,(∀op,eqGuard op t p q mW mX=pure ())->binOp .eql t mW mX=(do pure (.bool (<- Op.equal t mW mX)))->binOp .neq t mW mX=(do pure (.bool (!(<- Op.equal t mW mX)))) ->
  (Op.equal t mW mX).run P w = .ok b w->((do eqGuard .eql t p q mW mX;binOp .eql t mW mX):Sem Value).run P w = .ok (.bool b) w /\
  ((do eqGuard .neq t p q mW mX;binOp .neq t mW mX):Sem Value).run P w = .ok (.bool !b) w:=by
  intro b dn h1 h2 U;constructor
  ·rw[dn,h1];simp[U]
  ·rw[dn,h2];simp[U]
 unfold ve at aD;split at aD
 ·rename_i df nR bH;simp only[dB] at aD;subst aD;have jg:=aa.xl;have j8:=aW.xl;subst jg;subst j8;exact key _ (fun op=>eqGuard_at_bool ..) rfl rfl (by rw[yI];first|exact EP _ bH|exact E9 _ bH|exact Fa _ bH|exact Fb _ bH|exact Fc _ bH)
 ·rename_i e bH;simp only[dB] at aD;subst aD;have jg:=aa.yN;have j8:=aW.yN;subst jg;subst j8;exact key _ (fun op=>eqGuard_at_pointer ..) rfl rfl (by rw[yI];first|exact EP _ bH|exact E9 _ bH|exact Fa _ bH|exact Fb _ bH|exact Fc _ bH)
 ·rename_i e sz es i off bH;simp only[dB] at aD;subst aD;obtain⟨e4,cw,-,jg,-⟩:=aa.CF;have j8:=aW.yN;subst jg;subst j8;exact key _ (fun op=>eqGuard_at_pointer ..) rfl rfl (by rw[yI];first|exact EP _ bH|exact E9 _ bH|exact Fa _ bH|exact Fb _ bH|exact Fc _ bH)
 ·rename_i e sz es i off bH;simp only[dB] at aD;subst aD;obtain⟨e4,cw,-,j8,-⟩:=aW.CF;have jg:=aa.yN;subst jg;subst j8;exact key _ (fun op=>eqGuard_at_pointer ..) rfl rfl (by rw[yI];first|exact EP _ bH|exact E9 _ bH|exact Fa _ bH|exact Fb _ bH|exact Fc _ bH)
 ·rename_i e bH;simp only[dB] at aD;subst aD;have jg:=aa.r8;have j8:=aW.r8;subst jg;subst j8;exact key _ (fun op=>eqGuard_at_slice ..) rfl rfl (by rw[yI];first|exact EP _ bH|exact E9 _ bH|exact Fa _ bH|exact Fb _ bH|exact Fc _ bH)
 ·rename_i e bH;simp only[dB] at aD;subst aD;obtain⟨Aa,c,jg⟩:=aa.IL;have j8:=aW.r8;subst jg;subst j8;exact key _ (fun op=>eqGuard_at_slice ..) rfl rfl (by rw[yI];exact Tn _ bH 0)
 ·simp at aD
theorem VH {t e:TypeId}(bH:P.underlying t=some (.slice e)){sz:Nat}{es:List (List aF)}(dd:es≠[])
 {ok:Nat->Prop} {bg:kz} {bp:kr} {mW mX:Value} (aa:Rel w ok bg bp (.isl sz es) mW) (aW:Rel w ok bg bp .fT mX) (p q:Operand) :
 ((do eqGuard .eql t p q mW mX;binOp .eql t mW mX):Sem Value).run P w = .ok (.bool false) w /\
 ((do eqGuard .neq t p q mW mX;binOp .neq t mW mX):Sem Value).run P w = .ok (.bool true) w:=by
 rcases aa.vQ with ⟨h0,-⟩|⟨e4,off,c,-,jg,-⟩
 ·exact absurd h0 dd
 ·have j8:=aW.r8
  subst jg;subst j8;have U:(Op.equal t (.slice (some ⟨e4,off,none⟩) es.length c) (.slice none 0 0)).run P w = .ok false w:=(by rw[yI];exact Tn _ bH _);have dn : ∀op,eqGuard op t p q (.slice (some ⟨e4,off,none⟩) es.length c) (.slice none 0 0)=pure ():=fun op=>eqGuard_at_slice ..;have h1:binOp .eql t (.slice (some ⟨e4,off,none⟩) es.length c) (.slice none 0 0)=(do pure (.bool (<- Op.equal t (.slice (some ⟨e4,off,none⟩) es.length c) (.slice none 0 0)))):=rfl;have h2:binOp .neq t (.slice (some ⟨e4,off,none⟩) es.length c) (.slice none 0 0)=(do pure (.bool (!(<- Op.equal t (.slice (some ⟨e4,off,none⟩) es.length c) (.slice none 0 0))))):=rfl;constructor
  ·rw[dn,h1];simp[U]
  ·rw[dn,h2];simp[U]
theorem afD {op:BinOp}{t cN:TypeId}{x y:Operand}(h:dg g s aH a w)(an:o.op = .binOp op t x y cN)(aD:fI P s.E s.a5 a6 o db=some bG)(cW:∀p∈bG.gq,p):Fin P g s a w o bG:=by
 simp only[fI,an] at aD;have aa:=h.eval x;have aW:=h.eval y;split at aD
 ·rename_i v al aP;simp only[dB] at aD;subst aD;obtain⟨u,h1,h2⟩:=aeD (P:=P) (t:=t) aP cW aa aW x y;refine jy (v:=u) h ?_ rfl h2;simp only[execOp,an];rw[Sem.run_bind,h1];rfl
 ·split at aD
  ·cases he:ve P t (fG s.E x) (fG s.E y) with
   | none=>simp[he] at aD
   | some r =>
    simp[he] at aD;subst aD;refine jy (v:= .bool r) h ?_ rfl (.b r);simp only[execOp,an];rw[Sem.run_bind,(Cy (w:=w) he aa aW x y).1];rfl
  ·cases he:ve P t (fG s.E x) (fG s.E y) with
   | none=>simp[he] at aD
   | some r =>
    simp[he] at aD;subst aD;refine jy (v:= .bool !r) h ?_ rfl (.b _);simp only[execOp,an];rw[Sem.run_bind,(Cy (w:=w) he aa aW x y).2];rfl
  ·simp at aD
theorem agH {op:UnOp}{t:TypeId}{x:Operand}(h:dg g s aH a w)(an:o.op = .unOp op t x)(aD:fI P s.E s.a5 a6 o db=some bG):Fin P g s a w o bG:=by
 simp only[fI,an] at aD;have aa:=h.eval x
 cases he:NW op (fG s.E x) with
 | none=>simp[he] at aD
 | some v =>
  simp[he] at aD;subst aD;unfold NW at he;split at he
  ·rename_i k n iv;rw[iv] at aa;simp only[dB] at he;subst he;refine jy (v:= .int k (k.wrap (0-n))) h ?_ rfl (.n _ _);simp[execOp,an,aa.qh,Op.unary,Op.intArith]
  ·rename_i b iv;rw[iv] at aa;simp only[dB] at he;subst he;refine jy (v:= .bool !b) h ?_ rfl (.b _);simp[execOp,an,aa.xl,Op.unary]
  ·simp at he
theorem adW {t cN:TypeId}{x:Operand}(h:dg g s aH a w)(an:o.op = .convert t cN x)(aD:fI P s.E s.a5 a6 o db=some bG):Fin P g s a w o bG:=by
 simp only[fI,an] at aD;have aa:=h.eval x;split at aD
 ·rename_i k eG n bH iv
  rw[iv] at aa;split at aD
  case isFalse=>simp at aD
  rename_i bL;simp only[dB] at aD;subst aD;refine jy (v:= .int k (k.wrap n)) h ?_ rfl (.n _ _)
  cases W3:P.underlying t with
  | none=>simp[W3] at bL
  | some d=>simp[execOp,an,aa.qh,convert,run_underlying bH,run_underlying W3,Conv.intToInt]
 ·rename_i r k b6 len bH iv
  rw[iv] at aa;split at aD
  ·rename_i al Jw bx
   split at aD
   ·rename_i pu Gu
    split at aD
    ·rename_i aX
     simp only[dB] at aD;subst aD
     obtain⟨e,bL,he⟩ : ∃e,P.underlying t=some (.slice e)/\P.underlying e=some (.int .u8):=by
      unfold sk at Jw;split at Jw
      ·rename_i e bL;exact⟨e,bL,Jw⟩
      ·simp at Jw
     have eN:s.al r k=some al:=bx;have gk:=h.obj r k al eN
     have hzero : ∀(lN:Option Addr) (c:Nat),len=0->(convert t cN (.slice lN 0 c)).run P w = .ok (.string (C5 pu)) w:=by
      intro lN c h0;subst h0;have:pu=[]:=(by simpa [bytesOf] using Gu);subst this
      cases lN with
      | none=>rw[run_convert_bytes_string w t cN e none 0 c bL he bH];simp[Conv.bytesToString,C5]
      | some lN =>
       rw[run_convert_bytes_string w t cN e (some lN) 0 c bL he bH,run_bytesToString w lN 0 c [] (by have:=run_loadCells_list (P:=P) w lN [] (fun j v av=>by simp at av);simpa using this)];rfl
     rcases aa.Ft (jL eN) with ⟨ah,rfl,rfl,hval⟩|⟨b,m,A,c,ah,hval,ur,wv,hm⟩
     ·refine jy (v:= .string (C5 pu)) h ?_ rfl (.s _);simp[execOp,an,hval,hzero none 0 rfl]
     ·refine jy (v:= .string (C5 pu)) h ?_ rfl (.s _)
      by_cases h0:len=0
      ·subst h0;simp[execOp,an,hval,hzero A c rfl]
      ·rcases hm with hm|⟨hA,hm⟩
       ·omega
       ·subst hA
        rw[ah] at gk;have jY:=gk.rd
        have Dc : ∀(es:List (List aF)) (pu:ar),bytesOf es=some pu->es.length=pu.length/\ ∀(i:Nat) n,pu[i]? = some n->es[i]? = some [.n .u8 n]:=by
         intro es
         induction es with
         | nil=>intro pu h;simp[bytesOf] at h;subst h;exact⟨rfl,fun i n ad=>by simp at ad⟩
         | cons x es ih =>
          intro pu h;unfold bytesOf at h;split at h
          ·simp at *
          ·rename_i nf amr Dd
           simp only[List.cons.injEq] at Dd;obtain⟨rfl,rfl⟩:=Dd;rw[Option.map_eq_some_iff] at h;obtain⟨f5,JP,rfl⟩:=h;obtain⟨e1,e2⟩:=ih f5 JP;refine⟨by simp[e1],fun i n ad=> ?_⟩
           cases i with
           | zero=>simp at ad;subst ad;rfl
           | succ i=>simpa using e2 i n (by simpa using ad)
          ·simp at h
        obtain⟨e1,e2⟩:=Dc _ _ Gu;have hlen:pu.length=len:=(by rw[<- e1];simp;omega);have ah4:(loadCells ⟨b,b6*al.sz,none⟩ len).run P w = .ok (pu.map (Value.int .u8)).toArray w:=(by have:=run_loadCells_list (P:=P) w ⟨b,b6*al.sz,none⟩ (pu.map (Value.int .u8)) (fun j v av=>by rw[dJ,Option.map_eq_some_iff] at av;obtain⟨n,aY,rfl⟩:=av;have nM:=e2 j n aY;have zG:j<len:=(by rw[<- hlen];exact(List.getElem?_eq_some_iff.1 aY).1);rw[List.getElem?_take_of_lt zG,List.getElem?_drop] at nM;obtain⟨v,v1,v2,v3⟩:=jY.2 ((b6+j)*al.sz+0) (.n .u8 n) (by rw[E7 jY.1 nM (by omega)];rfl);have bf:=v3.qh;subst bf;rw[tY,<- v1,aX.2];congr 2;omega);rw[List.length_map,hlen] at this;exact this);have h2:=run_bytesToString w ⟨b,b6*al.sz,none⟩ len c pu ah4;rw[<- run_convert_bytes_string w t cN e _ len c bL he bH] at h2;simp[execOp,an,hval,h2,C5]
    ·simp at aD
   ·simp at aD
  ·simp at aD
 ·simp at aD
theorem adu {f:Fn}{Hf cQ:Array Operand}(h:dg g s aH a w)(an:o.op = .makeFunc f Hf cQ)(aD:fI P s.E s.a5 a6 o db=some bG):Fin P g s a w o bG:=by
 cases f with
 | func n =>
  simp only[fI,an] at aD;split at aD
  ·rename_i ajh
   simp only[dB] at aD;subst aD;refine jy (v:= .func (.func n) #[] (cQ.map a.eval)) h ?_ rfl ?_
   ·have:Hf = #[]:=(by simpa using ajh);subst this;simp[execOp,an,Instr.makeFunc]
   ·have:=Rel.fn (f:=n) (c:=cQ.toList.map (fG s.E)) (w:=w) (ok:=s.ok g aH w) (bg:=s.bg) (bp:=s.bp aH) (cQ.toList.map a.eval) (by simp) (by
     intro j x v aa bf;rw[dJ,Option.map_eq_some_iff] at aa bf;obtain⟨p,ah,rfl⟩:=aa;obtain⟨q,a0,rfl⟩:=bf;rw[ah] at a0;simp at a0;subst a0;exact h.eval p)
    have e:(cQ.toList.map a.eval).toArray=cQ.map a.eval:=(by apply Array.ext';rw[Array.toList_map]);rw[e] at this;exact this
  ·simp at aD
 | _=>simp[fI,an] at aD
theorem adX {i:Nat}{x:Operand}(h:dg g s aH a w)(an:o.op = .extract x i)(aD:fI P s.E s.a5 a6 o db=some bG):Fin P g s a w o bG:=by
 simp only[fI,an] at aD;have aa:=h.eval x;split at aD
 ·rename_i vs iv
  rw[iv] at aa
  cases ad:vs[i]? with
  | none=>simp[ad] at aD
  | some v =>
   simp[ad] at aD;subst aD;obtain⟨bg,hval,aZ,aj⟩:=aa.CE
   have et:i<bg.length:=by
    rcases Nat.lt_or_ge i vs.length with c3|c3
    ·omega
    ·rw[List.getElem?_eq_none c3] at ad;simp at ad
   have hu:bg[i]? = some bg[i]:=dz et;refine jy (v:=bg[i]) h ?_ rfl (aj i v _ ad hu);simp[execOp,an,hval,Instr.extract,hu]
 ·simp at aD
end
section
variable {P:Program} {g:G} {s:S} {aH:gv} {a:Act} {w:World} {o:Oper} {db:gF} {a6:Nat} {bG:je}
theorem uW {t e:TypeId}(h:sk P t=some e):P.underlying t=some (.slice e):=by
 unfold sk at h;split at h
 ·rename_i fe he;simp at h;subst h;exact he
 ·simp at h
theorem L0 {t:TypeId}{mu:Array Field}(h:fieldsOf P t=some mu):P.underlying t=some (.struct mu):=by
 unfold fieldsOf at h;split at h
 ·rename_i fe he;simp at h;subst h;exact he
 ·simp at h
theorem SL : ∀(z c:List aF),(uc z c).length=z.length
 | x::z,y::c=>by simp[uc,SL z c]
 | [],_=>by simp[uc]
 | _::_,[]=>by simp[uc]
theorem ac9 (z:List aF)(db:gF):(vX z db).length=z.length:=by
 unfold vX;split
 ·exact SL z _
 ·rfl
theorem adY (x y:aF){w:World}{ok:Nat->Prop}{bg:kz}{bp:kr}{v:Value}(h:Rel w ok bg bp x v):Rel w ok bg bp (Fz x y) v:=by
 unfold Fz;split
 ·rw[h.r8];exact .lG _ _ _ (fun _=>rfl)
 ·rw[h.yN];exact .rK _
 ·rw[h.r8];exact .oL (.lG _ _ _ (fun _=>rfl))
 ·exact h
theorem TU : ∀(z c:List aF) (j:Nat) q,(uc z c)[j]? = some q-> ∃x,z[j]? = some x/\(q=x\/ ∃y,q=Fz x y)
 | x::z,y::c,0,q,h=>by simp[uc] at h;exact⟨x,rfl,.inr ⟨y,h.symm⟩⟩
 | x::z,y::c,j+1,q,h=>by simp only[uc,List.getElem?_cons_succ] at h;simpa using TU z c j q h
 | [],c,j,q,h=>by simp[uc] at h
 | x::z,[],j,q,h=>⟨q,by simpa [uc] using h,.inl rfl⟩
theorem afE (z:List aF)(db:gF)(j:Nat)(q:aF)(h:(vX z db)[j]? = some q): ∃x,z[j]? = some x/\(q=x\/ ∃y,q=Fz x y):=by
 unfold vX at h;split at h
 ·exact TU z _ j q h
 ·exact⟨q,h,.inl rfl⟩
theorem ada {t:TypeId}{x y:Operand}(h:dg g s aH a w)(fN:s.a5 a6=none)(an:o.op = .makeSlice t x y)(aD:fI P s.E s.a5 a6 o db=some bG)(cW:∀p∈bG.gq,p):Fin P g s a w o bG:=by
 simp only[fI,an] at aD;have aa:=h.eval x;have aW:=h.eval y;split at aD
 ·rename_i e lO l kA c he aiA aiB
  rw[aiA] at aa;rw[aiB] at aW;split at aD
  ·rename_i i z ad cH
   obtain⟨ft,fp,ml,mj,sN,VI⟩:=E8 cH;rw[ad] at ml;simp at ml;subst ml;simp only[Option.ite_none_right_eq_some,dB] at aD;obtain⟨fM,aD⟩:=aD;subst aD;have oz:=ac9 z db
   have lp : ∀(j:Nat) q,(vX z db)[j]? = some q-> ∃v,fp.cells[j]? = some v/\VL.lD v=true/\ ∀w ok bg bp,Rel w ok bg bp q v:=by
    intro j q a0;obtain⟨x,eE,pp⟩:=afE z db j q a0;obtain⟨v,v1,v2,v3⟩:=VI j x eE;refine⟨v,v1,v2,fun w ok bg bp=> ?_⟩;rcases pp with rfl|⟨y,rfl⟩
    ·exact v3 w ok bg bp
    ·exact adY x y (v3 w ok bg bp)
   clear VI;have h0:0<=l:=cW _ (by simp);have h1:l<=c:=cW _ (by simp);have h2:(i.bytes:Int)*c<=281474976710656:=cW _ (by simp);have U:c<9223372036854775808:=cW _ (by simp);have pq:z.length=fp.cells.size:=(by rw[sN];simp);have ko:=run_make (P:=P) w t e i fp (uW he) ad mj lO kA l c h0 h1 h2 (by omega);refine IM (v:= .slice (some ⟨w.heap.size,0,none⟩) l.toNat c.toNat) (al:=⟨z.length,List.replicate l.toNat (vX z db),.live⟩) (c:=madeCells fp.cells (c.toNat*i.size)) (fA:=e) h fN rfl ?_ rfl ?_ ?_ ?_
   ·simp[execOp,an,aa.qh,aW.qh,ko]
   ·intro fe nL;rw[List.eq_of_mem_replicate nL];exact oz
   ·intro j q a0
    have aZ : ∀fe∈List.replicate l.toNat (vX z db),fe.length=z.length:=fun fe nL=>(by rw[List.eq_of_mem_replicate nL];exact oz);rcases Nat.eq_zero_or_pos z.length with us|JQ
    ·have:vX z db=[]:=List.length_eq_zero_iff.1 (by omega);rw[this] at a0;simp at a0
    ·rw[ru JQ _ aZ,List.getElem?_replicate] at a0
     by_cases av:j / z.length<l.toNat
     ·rw[dw av] at a0;simp only[dA] at a0;obtain⟨v,e1,e2,bI⟩:=lp _ _ a0;refine⟨v,?_,e2,bI _ _ _ _⟩;have et:j<c.toNat*i.size:=(by rw[<- fM];have:j<l.toNat*z.length:=(Nat.div_lt_iff_lt_mul JQ).1 av;exact Nat.lt_of_lt_of_le this (dL _ (by omega)));simp only[madeCells];rw[Array.getElem?_map,Array.getElem?_range];simp only[et,if_true,Option.map_some];rw[pq] at e1;have hm:j % fp.cells.size<fp.cells.size:=Nat.mod_lt _ (by omega);rw[Array.getElem?_eq_getElem hm] at e1;rw[getElem!_pos fp.cells _ hm];exact e1
     ·rw[dy av] at a0;simp at a0
   ·intro bY mi oP n8 hu cq;refine Rel.bb hu cq (by omega) (by omega) ⟨?_,.inr (by simp)⟩;rw[size_madeCells];simp only[dG,fM]
  ·simp at aD
 ·simp at aD
theorem adb {t:TypeId}{x:Operand}{f:Nat}(h:dg g s aH a w)(an:o.op = .fieldAddr t x f)(aD:fI P s.E s.a5 a6 o db=some bG)(cW:∀p∈bG.gq,p):Fin P g s a w o bG:=by
 simp only[fI,an] at aD;have aa:=h.eval x;split at aD
 ·rename_i mu Gv
  split at aD
  ·rename_i fd xE
   split at aD
   ·simp at aD
   ·rename_i W4
    have ad:(P.info? fd.type).isSome=true:=by
     cases ad:P.info? fd.type with
     | none=>simp[Program.cellsOf,ad] at W4
     | some i=>rfl
    have ko : ∀A:Addr,A.spot=none->(Instr.fieldAt t (.pointer (some A)) f).run P w = .ok (.pointer (some ⟨A.block,A.off+fd.offset,none⟩)) w:=(by intro A hA;have e:A.add fd.offset=⟨A.block,A.off+fd.offset,none⟩:=(by obtain⟨b,o,sp⟩:=A;simp only at hA;subst hA;exact tY b o _);simp[Instr.fieldAt,run_underlying (L0 Gv),xE,Instr.sureAddr,fieldPlace,vH ad,W4,e]);split at aD
    ·rename_i r k i off iv
     rw[iv] at aa;split at aD
     ·rename_i al b4 bx
      split at aD
      ·rename_i c aU oz
       simp only[dB] at aD;subst aD;have kW:s.al r k=some al:=vR bx fun p ah=>cW p (by simp[ah]);have rL:=Cr oz fun p ah=>cW p (by simp[ah]);have gk:=h.obj r k al kW;rcases aa.yW (jL kW) with h0|⟨b,m,ah,hval⟩
       ·rw[h0] at gk;simp only[ku] at gk;rw[gk] at rL;simp at rL
       ·refine jy (v:= .pointer (some ⟨b,i*al.sz+(off+fd.offset),none⟩)) h ?_ rfl ?_
        ·simp[execOp,an,hval,ko,Nat.add_assoc]
        ·exact aa.TS ((jL kW).trans (by rw[ah])) _
      ·simp at aD
     ·simp at aD
    ·rename_i sz es i off iv;rw[iv] at aa;simp only[dB] at aD;subst aD;obtain⟨e4,cw,aP,hval,jY⟩:=aa.CF;refine jy (v:= .pointer (some ⟨e4,cw+(i*sz+(off+fd.offset)),none⟩)) h ?_ rfl (jY.fo aP);simp[execOp,an,hval,ko,Nat.add_assoc]
    ·simp at aD
  ·simp at aD
 ·simp at aD
theorem MS {t e:TypeId}{n:Nat}(h:F3 P t=some (n,e)):P.underlying t=some (.array n e)/\(P.info? e).isSome=true/\P.cellsOf e≠0/\1<n:=by
 unfold F3 at h;split at h
 ·rename_i o1 fe hu
  split at h
  ·rename_i aX;simp only[dB,dD] at h;obtain⟨rfl,rfl⟩:=h;exact⟨hu,aX⟩
  ·simp at h
 ·simp at h
theorem afF {t:TypeId}{x y:Operand}(h:dg g s aH a w)(an:o.op = .indexAddr t x y)(aD:CV P s.a5 t (fG s.E x) (fG s.E y) db=some bG)(cW:∀p∈bG.gq,p):Fin P g s a w o bG:=by
 unfold CV at aD;have aa:=h.eval x;have aW:=h.eval y;split at aD
 ·rename_i n e r k i off cT j hM wj F5
  rw[wj] at aa;rw[F5] at aW;obtain⟨hu,ad,aX,aY⟩:=MS hM;split at aD
  ·rename_i al b4 bx
   split at aD
   ·rename_i c aU oz
    simp only[dB] at aD;subst aD;have kW:s.al r k=some al:=vR bx fun p ah=>cW p (by simp[ah]);have rL:=Cr oz fun p ah=>cW p (by simp[ah]);have h0:0<=j:=cW _ (by simp);have h1:j<n:=cW _ (by simp);have gk:=h.obj r k al kW;rcases aa.yW (jL kW) with cH|⟨b,m,ah,hval⟩
    ·rw[cH] at gk;simp only[ku] at gk;rw[gk] at rL;simp at rL
    ·refine jy (v:= .pointer (some ⟨b,i*al.sz+(off+j.toNat*P.cellsOf e),none⟩)) h ?_ rfl ?_
     ·simp[execOp,an,hval,aW.qh,Instr.indexAt,asIntOf,run_underlying hu,Instr.sureAddr,h0,h1,vH ad,tY,Nat.add_assoc]
     ·exact aa.TS ((jL kW).trans (by rw[ah])) _
   ·simp at aD
  ·simp at aD
 ·simp at aD
theorem ade {t:TypeId}{x y:Operand}(h:dg g s aH a w)(an:o.op = .indexAddr t x y)(aD:fI P s.E s.a5 a6 o db=some bG)(cW:∀p∈bG.gq,p):Fin P g s a w o bG:=by
 simp only[fI,an] at aD;have aa:=h.eval x;have aW:=h.eval y;split at aD
 ·rename_i e k j he iv
  rw[iv] at aW;have hu:=uW he
  have ko : ∀(b o len cap:Nat),0<=j->j<len->(P.info? e).isSome=true ->
   (Instr.indexAt t (.slice (some ⟨b,o,none⟩) len cap) (.int k j)).run P w = .ok (.pointer (some ⟨b,o+j.toNat*P.cellsOf e,none⟩)) w:=by
   intro b o len cap h0 h1 ad;have fe:=tY b o (j.toNat*P.cellsOf e);simp[Instr.indexAt,asIntOf,run_underlying hu,h0,h1,vH ad,fe]
  have zh : ∀sz,sz=P.cellsOf e->sz≠0->(P.info? e).isSome=true:=by
   intro sz bL cH
   cases ad:P.info? e with
   | none=>simp[Program.cellsOf,ad] at bL;exact absurd bL cH
   | some i=>rfl
  split at aD
  ·rename_i sz es wj
   rw[wj] at aa;simp only[Option.ite_none_right_eq_some,dB] at aD;obtain⟨⟨bL,cH⟩,aD⟩:=aD;subst aD;have h0:0<=j:=cW _ (by simp);have h1:j<es.length:=cW _ (by simp);rcases aa.vQ with ⟨Gw,-⟩|⟨e4,off,c,aP,hval,aX,jY⟩
   ·subst Gw;simp at h1;omega
   ·refine jy (v:= .pointer (some ⟨e4,off+(j.toNat*sz+0),none⟩)) h ?_ rfl (jY.fo aP);simp[execOp,an,hval,aW.qh,ko _ _ _ _ h0 h1 (zh sz bL cH),bL]
  ·rename_i r q b6 len wj
   rw[wj] at aa;split at aD
   ·rename_i row ep
    split at aD
    ·rename_i al b4 bx
     simp only[Option.ite_none_right_eq_some,dB] at aD;obtain⟨⟨bL,cH⟩,aD⟩:=aD;subst aD;have kW:s.al r q=some al:=(by unfold S.al;rw[ep];exact vR bx fun p ah=>cW p (by simp[ah]));have h0:0<=j:=cW _ (by simp);have h1:j<len:=cW _ (by simp);rcases aa.Ft (jL kW) with ⟨-,-,h2,-⟩|⟨b,m,A,c,ah,hval,aZ,-,hm⟩
     ·subst h2;simp at h1;omega
     ·rcases hm with hm|⟨hA,hm⟩
      ·omega
      ·subst hA;have kK:=Iw kW;refine jy (v:= .pointer (some ⟨b,(b6+j.toNat)*al.sz+0,none⟩)) h ?_ rfl (.ref kK ((jL kW).trans (by rw[ah])));simp[execOp,an,hval,aW.qh,ko _ _ _ _ h0 h1 (zh _ bL cH),bL,Nat.add_mul]
    ·simp at aD
   ·simp at aD
  ·simp at aD
 ·exact afF h an aD cW
theorem ahm {c:Call}(h:dg g s aH a w)(an:o.op = .call c)(aX:c.callee = .builtin .len)(aD:fI P s.E s.a5 a6 o db=some bG)(cW:∀p∈bG.gq,p):Fin P g s a w o bG:=by
 obtain⟨JR,args,oS⟩:=c;simp only at aX;subst aX;simp only[fI,an] at aD
 have key : ∀(x:Operand) (n:Nat) (t:TypeId) (v:Value),args.toList=[x]->oS = #[t]->bG.val = .n .i64 n->bG.gW=[]->a.eval x=v ->
  (Builtin.len_ #[t] o.type #[v]).run P w = .ok (goInt n) w->Fin P g s a w o bG:=by
  intro x n t v hargs nN aj i5 bf ko;subst nN;refine jy (v:=goInt n) h ?_ i5 (by rw[aj];exact .n _ _);have bF:args = #[x]:=(by apply Array.ext';simpa using hargs);subst bF;simp[execOp,an,resolve,invoke,builtin,bf,ko]
 have hargs : ∀y,args.toList.map (fG s.E)=[y]-> ∃x,args.toList=[x]/\fG s.E x=y:=by
  intro y aW
  match aZ:args.toList,aW with
  | [x],aW=>simp at aW;exact⟨x,rfl,aW⟩
 have ql:decide (oS.size=1)=true-> ∃t,oS = #[t]/\oS.getD 0 0=t:=by
  intro fM;have fM:oS.size=1:=(by simpa using fM);obtain⟨l⟩:=oS
  match l,fM with
  | [t],_=>exact⟨t,rfl,rfl⟩
 split at aD
 ·rename_i sz es e hm hu fM
  obtain⟨x,aa,iv⟩:=hargs _ hm;obtain⟨t,cq,ob⟩:=ql fM;rw[ob] at hu;simp only[dB] at aD;have aj:=h.eval x;rw[iv] at aj;rcases aj.vQ with ⟨Gw,A,c,hval,hA⟩|⟨e4,off,c,aP,hval,-⟩
  ·exact key x es.length t _ aa cq (by rw[<- aD]) (by rw[<- aD]) hval (by subst Gw;simp[Builtin.len_,run_underlying hu])
  ·exact key x es.length t _ aa cq (by rw[<- aD]) (by rw[<- aD]) hval (by simp[Builtin.len_,run_underlying hu])
 ·rename_i r k b6 len e hm hu fM
  obtain⟨x,aa,iv⟩:=hargs _ hm;obtain⟨t,cq,ob⟩:=ql fM;rw[ob] at hu;split at aD
  ·rename_i row ep
   split at aD
   ·rename_i al b4 bx
    simp only[dB] at aD;have aj:=h.eval x;rw[iv] at aj;have kW:s.al r k=some al:=(by unfold S.al;rw[ep];exact vR bx fun p ah=>cW p (by rw[<- aD];exact ah));rcases aj.Ft (jL kW) with ⟨-,-,h2,hval⟩|⟨b,m,A,c,ah,hval,-⟩
    ·exact key x len t _ aa cq (by rw[<- aD]) (by rw[<- aD]) hval (by subst h2;simp[Builtin.len_,run_underlying hu])
    ·exact key x len t _ aa cq (by rw[<- aD]) (by rw[<- aD]) hval (by simp[Builtin.len_,run_underlying hu])
   ·simp at aD
  ·simp at aD
 ·rename_i e hm hu fM;obtain⟨x,aa,iv⟩:=hargs _ hm;obtain⟨t,cq,ob⟩:=ql fM;rw[ob] at hu;simp only[dB] at aD;have aj:=h.eval x;rw[iv] at aj;exact key x 0 t _ aa cq (by rw[<- aD];rfl) (by rw[<- aD]) aj.r8 (by simp[Builtin.len_,run_underlying hu])
 ·rename_i b hm hu fM;obtain⟨x,aa,iv⟩:=hargs _ hm;obtain⟨t,cq,ob⟩:=ql fM;rw[ob] at hu;simp only[dB] at aD;have aj:=h.eval x;rw[iv] at aj;exact key x b.size t _ aa cq (by rw[<- aD]) (by rw[<- aD]) aj.CX (by simp[Builtin.len_,run_underlying hu])
 ·simp at aD
theorem HX {ok:Nat->Prop}{bg:kz}{bp:kr}{e4 off sz:Nat}{es:List (List aF)}(h:qF w ok bg bp e4 off sz es)(l n:Nat)(aZ:l<=es.length):
 qF w ok bg bp e4 (off+l*sz) sz ((es.drop l).take n):=by
 have vd : ∀e∈(es.drop l).take n,e.length=sz:=fun e he=>h.1 e (List.mem_of_mem_drop (List.mem_of_mem_take he));refine⟨vd,fun j x aa=> ?_⟩;rcases Nat.eq_zero_or_pos sz with h0|bL
 ·have e1 : ∀(l:List (List aF)),(∀e∈l,e.length=0)->l.flatten=[]:=by
   intro l aZ;induction l with
   | nil=>rfl
   | cons a l ih=>rw[List.flatten_cons,ih fun e he=>aZ e (by simp[he])];have:=aZ a (by simp);simp_all
  rw[e1 _ (fun e he=>(vd e he).trans h0)] at aa;simp at aa
 ·rw[ru bL _ vd] at aa
  have av:j / sz<n:=by
   rcases Nat.lt_or_ge (j / sz) n with c3|c3
   ·exact c3
   ·rw[List.getElem?_eq_none (by simp;omega)] at aa;simp at aa
  rw[List.getElem?_take,dw av,List.getElem?_drop] at aa;obtain⟨v,e1,e2,bI⟩:=h.2 (l*sz+j) x (by rw[ru bL es h.1];have fP:(l*sz+j) / sz=l+j / sz:=(by rw[Nat.mul_comm,Nat.mul_add_div bL]);have fH:(l*sz+j) % sz=j % sz:=(by rw[Nat.mul_comm,Nat.mul_add_mod]);rw[fP,fH];exact aa);exact⟨v,by rw[Nat.add_assoc];exact e1,e2,bI⟩
theorem HR {t e:TypeId}(hu:P.underlying t=some (.slice e))(ad:(P.info? e).isSome=true)(A:Option Addr)(len cap:Nat)(b6 ml:Option Value)(l h:Nat)
 (W5:(b6=none/\l=0)\/ ∃k,b6=some (.int k l)) (W6:(ml=none/\h=len)\/ ∃k,ml=some (.int k h)) (h1:l<=h) (h2:h<=len) (U:len<=cap) :
 (Instr.sliceAt t (.slice A len cap) b6 ml none).run P w = .ok (.slice (if cap=l then A else A.map (·.add (l*P.cellsOf e))) (h-l) (cap-l)) w:=by
 have aP : ∀(k:IntKind) (n y:Nat) (code:BoundsCode),n<=y->(Instr.sliceBound (.int k n) y code).run P w = .ok n w:=by intro k n y code aY;simp[Instr.sliceBound,asIntOf,aY]
 rcases W5 with ⟨rfl,rfl⟩|⟨lO,rfl⟩<;>rcases W6 with ⟨rfl,rfl⟩|⟨kA,rfl⟩ <;>
  simp[Instr.sliceAt,Instr.slice,run_underlying hu,Instr.sliceBounds,vH ad,aP,h1,h2,U,Nat.le_trans h2 U]
theorem CN {x:Option Operand}(h:dg g s aH a w){d n:Nat}{al:List Prop}(aP:ag (x.map (fG s.E)) d=some (n,al))(cW:∀p∈al,p):
 (x.map a.eval=none/\n=d)\/ ∃k,x.map a.eval=some (.int k n):=by
 cases x with
 | none=>simp[ag] at aP;exact .inl ⟨rfl,aP.1.symm⟩
 | some x =>
  have aa:=h.eval x;simp only[Option.map_some] at aP ⊢;unfold ag at aP;split at aP
  ·rename_i he;simp at he
  ·rename_i _ k y he;simp only[dB] at he;rw[he] at aa;simp only[dB,dD] at aP;obtain⟨rfl,rfl⟩:=aP;have h0:0<=y:=cW _ (by simp);refine .inr ⟨k,?_⟩;rw[aa.qh,Int.toNat_of_nonneg h0]
  ·simp at aP
theorem afG {t:TypeId}{x:Operand}{b6 ad:Option Operand}(h:dg g s aH a w)(an:o.op = .slice t x b6 ad none)(aD:fI P s.E s.a5 a6 o db=some bG)(cW:∀p∈bG.gq,p):Fin P g s a w o bG:=by
 simp only[fI,an] at aD;have aa:=h.eval x
 have zh : ∀sz e,sz=P.cellsOf e->sz≠0->(P.info? e).isSome=true:=by
  intro sz e bL cH
  cases ad:P.info? e with
  | none=>simp[Program.cellsOf,ad] at bL;exact absurd bL cH
  | some i=>rfl
 split at aD
 ·rename_i e sz es hu iv
  rw[iv] at aa;split at aD
  ·rename_i l b4 n aU aZ aY
   simp only[Option.ite_none_right_eq_some,dB] at aD;obtain⟨⟨bL,cH⟩,aD⟩:=aD;subst aD;have jw:=CN h aZ fun p ah=>cW p (by simp[ah]);have kO:=CN h aY fun p ah=>cW p (by simp[ah]);have h1:l<=n:=cW _ (by simp);have h2:n<=es.length:=cW _ (by simp);rcases aa.vQ with ⟨Gw,A,c,hval,hA⟩|⟨e4,off,c,aP,hval,aX,jY⟩
   ·subst Gw
    have Gx:n=0:=(by simpa using h2);subst Gx;have pr:l=0:=(by omega);subst pr;refine jy (v:= .slice (if c=0 then A else A.map (·.add (0*P.cellsOf e))) (0-0) (c-0)) h ?_ rfl ?_
    ·have:=HR (w:=w) hu (zh sz e bL cH) A 0 c (b6.map a.eval) (ad.map a.eval) 0 0 jw kO (dF _) (dF _) (Nat.zero_le _);simp only[execOp,an,hval];simp only[Option.map_none,Sem.run_bind,this];rfl
    ·refine .lG sz _ _ fun aY=> ?_
     split at aY
     ·rename_i oA;omega
     ·have:=hA (by simpa using aY);omega
   ·have hlen:((es.drop l).take (n-l)).length=n-l:=by simp;omega
    refine jy (v:= .slice (if c=l then some ⟨e4,off,none⟩ else (some (⟨e4,off,none⟩:Addr)).map (·.add (l*P.cellsOf e))) (n-l) (c-l)) h ?_ rfl ?_
    ·have:=HR (w:=w) hu (zh sz e bL cH) (some ⟨e4,off,none⟩) es.length c (b6.map a.eval) (ad.map a.eval) l n jw kO h1 h2 aX;simp only[execOp,an,hval];simp only[Option.map_none,Sem.run_bind,this];rfl
    ·by_cases iS:c=l
     ·have:n-l=0:=(by omega);rw[this];show Rel _ _ _ _ (.isl sz ((es.drop l).take 0)) _;rw[List.take_zero];exact .lG sz _ _ (fun _=>by omega)
     ·rw[dy iS];simp only[Option.map_some,tY,<- bL];have aj:=(HX jY l (n-l) (by omega)).isl (c:=c-l) ⟨aP.1,fun e he=>aP.2 e (List.mem_of_mem_drop (List.mem_of_mem_take he))⟩ (by rw[hlen];omega);rw[hlen] at aj;exact aj
  ·simp at aD
 ·rename_i e r k Yb len hu iv
  rw[iv] at aa;split at aD
  ·simp at aD
  ·rename_i row ep
   split at aD
   ·simp at aD
   ·rename_i al Yc bx
    split at aD
    ·rename_i l b4 n aU aZ aY
     simp only[Option.ite_none_right_eq_some,dB] at aD;obtain⟨⟨bL,cH⟩,aD⟩:=aD;subst aD;have kW:s.al r k=some al:=(by unfold S.al;rw[ep];exact vR bx fun p ah=>cW p (by simp[ah]));have jw:=CN h aZ fun p ah=>cW p (by simp[ah]);have kO:=CN h aY fun p ah=>cW p (by simp[ah]);have h1:l<=n:=cW _ (by simp);have h2:n<=len:=cW _ (by simp);have kK:=Iw kW;rcases aa.yO (jL kW) with ⟨ah,rfl,rfl,hval⟩|⟨b,m,A,c,ah,hval,ur,wv,oc,hm⟩
     ·have Gx:n=0:=(by omega);subst Gx;have pr:l=0:=(by omega);subst pr;refine jy (v:= .slice none 0 0) h ?_ rfl (.pA kK ((jL kW).trans (by rw[ah])));have:=HR (w:=w) hu (zh _ e bL cH) none 0 0 (b6.map a.eval) (ad.map a.eval) 0 0 jw kO (dF _) (dF _) (dF _);simp only[execOp,an,hval];simp only[Option.map_none,Sem.run_bind,this];rfl
     ·refine jy (v:= .slice (if c=l then A else A.map (·.add (l*P.cellsOf e))) (n-l) (c-l)) h ?_ rfl ?_
      ·have:=HR (w:=w) hu (zh _ e bL cH) A len c (b6.map a.eval) (ad.map a.eval) l n jw kO h1 h2 ur;simp only[execOp,an,hval];simp only[Option.map_none,Sem.run_bind,this];rfl
      ·refine Rel.bb kK ((jL kW).trans (by rw[ah])) (by omega) (by omega) ?_
       refine⟨by rw[<- oc];congr 1;omega,?_⟩;by_cases iS:c=l
       ·exact .inl (by omega)
       ·rcases hm with hm|hA
        ·exact .inl (by omega)
        ·refine .inr ?_;rw[dy iS,hA];simp only[Option.map_some,tY,<- bL,Nat.add_mul]
    ·simp at aD
 ·rename_i b hu iv
  rw[iv] at aa;split at aD
  ·rename_i l b4 n aU aZ aY
   simp only[dB] at aD;subst aD;have jw:=CN h aZ fun p ah=>cW p (by simp[ah]);have kO:=CN h aY fun p ah=>cW p (by simp[ah]);have h1:l<=n:=cW _ (by simp);have h2:n<=b.size:=cW _ (by simp);refine jy (v:= .string (b.extract l n)) h ?_ rfl (.s _);have aP : ∀(k:IntKind) (n y:Nat) (code:BoundsCode),n<=y->(Instr.sliceBound (.int k n) y code).run P w = .ok n w:=(by intro k n y code aY;simp[Instr.sliceBound,asIntOf,aY]);simp only[execOp,an,aa.CX,Option.map_none]
   rcases jw with ⟨e1,rfl⟩|⟨lO,e1⟩<;>rcases kO with ⟨e2,rfl⟩|⟨kA,e2⟩<;>rw[e1,e2] <;>
    simp[Instr.sliceAt,Instr.slice,run_underlying hu,Instr.sliceBounds,aP,h1,h2]
  ·simp at aD
 ·simp at aD
end
section
variable {P:Program} {g:G} {s:S} {aH:gv} {a:Act} {w:World} {o:Oper} {db:gF} {a6:Nat} {bG:je}
theorem To {ok:Nat->Prop}{bg:kz}{bp:kr}{t:TypeId}{c:List aF}{off:Nat}{x:aF}{vs:List Value}(aZ:vs.length=c.length)
 (lp : ∀(j:Nat) u,vs[j]? = some u->lD u=true) (aj : ∀(j:Nat) x u,c[j]? = some x->vs[j]? = some u->Rel w ok bg bp x u)
 (cq:tl P t c off=some x) : ∃v,(part t vs.toArray off).run P w = .ok v w/\Rel w ok bg bp x v:=by
 unfold tl at cq;split at cq
 ·simp at cq
 ·rename_i ad
  simp only[Bool.not_eq_true',Bool.not_eq_false,dM] at ad;simp only[part,Sem.run_bind,TR ad.1,Result.andThen];split at cq
  ·rename_i um
   rw[um];split at cq
   ·rename_i hle
    simp at cq;subst cq;have e:(vs.toArray.extract off (off+P.cellsOf t))=((vs.drop off).take (P.cellsOf t)).toArray:=(by apply Array.ext';simp[List.extract_eq_take_drop]);refine⟨.agg ((vs.drop off).take (P.cellsOf t)).toArray,by simp[vH ad.2],?_⟩;refine .agg _ (by simp;omega) ?_ ?_
    ·intro j v bf
     rw[List.getElem?_take] at bf;split at bf
     ·rw[List.getElem?_drop] at bf;exact lp _ _ bf
     ·simp at bf
    ·intro j y v aW bf
     rw[List.getElem?_take] at bf aW;split at bf
     ·rename_i av;rw[dw av] at aW;rw[List.getElem?_drop] at bf aW;exact aj _ _ _ aW bf
     ·simp at bf
   ·simp at cq
  ·rename_i um
   have um:Fy P t=false:=(by simpa using um);rw[um];split at cq
   ·rename_i y aW
    split at cq
    ·simp at cq;subst cq
     have C6:off<vs.length:=by
      rcases Nat.lt_or_ge off c.length with h|h
      ·omega
      ·rw[List.getElem?_eq_none h] at aW;simp at aW
     exact⟨vs[off],by simp[C6],aj off y _ aW (dz C6)⟩
    ·simp at cq
   ·simp at cq
theorem afH {t:TypeId}{x:Operand}{f:Nat}(h:dg g s aH a w)(an:o.op = .field t x f)(aD:fI P s.E s.a5 a6 o db=some bG):Fin P g s a w o bG:=by
 simp only[fI,an] at aD;have aa:=h.eval x;split at aD
 ·rename_i mu Gv
  split at aD
  ·rename_i fd c xE iv
   rw[iv] at aa
   cases cq:tl P fd.type c fd.offset with
   | none=>simp[cq] at aD
   | some v =>
    simp[cq] at aD;subst aD;obtain⟨vs,hval,aZ,aX,aj⟩:=aa.CD;obtain⟨u,h1,h2⟩:=To aZ aX aj cq;refine jy (v:=u) h ?_ rfl h2;simp[execOp,an,hval,Instr.field,run_underlying (L0 Gv),xE,asAgg,h1]
  ·simp at aD
 ·simp at aD
theorem TV : ∀ {a b c:List aF},sr 0 a b=some c->c=a
 | [],[],c,h=>by simp[sr] at h;exact h
 | .n k x::a,.n eG y::b,c,h=>by
  unfold sr at h;split at h
  ·cases hm:sr 0 a b with
   | none=>simp[hm] at h
   | some d=>simp[hm] at h;rw[<- h,TV hm]
  ·simp at h
 | [],_::_,_,h=>by simp[sr] at h
theorem Us {j:Int}(av:j≠0): ∀ {a b c:List aF},sr j a b=some c->c=b
 | [],[],c,h=>by simp[sr] at h;exact h
 | .n k x::a,.n eG y::b,c,h=>by
  unfold sr at h;split at h
  ·rename_i a1
   subst a1
   cases hm:sr j a b with
   | none=>simp[hm] at h
   | some d=>simp[hm,av] at h;rw[<- h,Us av hm]
  ·simp at h
 | [],_::_,_,h=>by simp[sr] at h
theorem aeE {t:TypeId}{x y:Operand}(h:dg g s aH a w)(an:o.op = .index t x y)(aD:M2 P t (fG s.E x) (fG s.E y)=some bG)(cW:∀p∈bG.gq,p):Fin P g s a w o bG:=by
 unfold M2 at aD;have aa:=h.eval x;have aW:=h.eval y;split at aD
 ·rename_i e cs cT j hM wj F5
  rw[wj] at aa;rw[F5] at aW;obtain⟨hu,ad,-,-⟩:=MS hM;split at aD
  ·rename_i eh jR bF aP
   cases hm:sr j eh jR with
   | none=>simp[hm] at aD
   | some c =>
    simp only[hm,Option.map_some,dB] at aD;subst aD;have h0:0<=j:=cW _ (by simp);have h1:j<2:=cW _ (by simp);obtain⟨vs,hval,aZ,aX,aj⟩:=aa.CD
    have key:tl P e cs (j.toNat*P.cellsOf e)=some (.agg c):=by
     have:j=0\/j=1:=(by omega);rcases this with rfl|rfl
     ·rw[TV hm];exact bF
     ·rw[Us (by decide) hm];exact aP
    obtain⟨u,lO,kA⟩:=To aZ aX aj key;refine jy (v:=u) h ?_ rfl kA;simp[execOp,an,hval,aW.qh,Instr.index,asIntOf,run_underlying hu,h0,h1,vH ad,lO]
  ·simp at aD
 ·simp at aD
theorem afI {t:TypeId}{x y:Operand}(h:dg g s aH a w)(an:o.op = .index t x y)(aD:fI P s.E s.a5 a6 o db=some bG)(cW:∀p∈bG.gq,p):Fin P g s a w o bG:=by
 simp only[fI,an] at aD;have aa:=h.eval x;have aW:=h.eval y;split at aD
 ·rename_i b k j hu wj F5
  rw[wj] at aa;rw[F5] at aW;simp only[dB] at aD;subst aD;have h0:0<=j:=cW _ (by simp);have h1:j<b.size:=cW _ (by simp);have h2:j.toNat<b.size:=(by omega);refine jy (v:= .int .u8 (b[j.toNat]).toNat) h ?_ rfl ?_
  ·simp[execOp,an,aa.CX,aW.qh,Instr.index,asIntOf,run_underlying hu,h0,h2]
  ·have e:b.data.toList.getD j.toNat 0=b[j.toNat]:=by
    rw[List.getD_eq_getElem?_getD,Array.getElem?_toList,Array.getElem?_eq_getElem (by simpa using h2)];rfl
   show Rel _ _ _ _ (.n .u8 _) _;rw[e];exact .n _ _
 ·exact aeE h an aD cW
theorem aeF (off:Nat): ∀(vs:List Value) (n:Nat) (cs:Array Value) (j:Nat),off+n+vs.length<=cs.size ->
 ((vs.zipIdx n).foldl (fun cs (x:Value×Nat)=>cs.setIfInBounds (off+x.2) x.1) cs)[j]? = if off+n<=j/\j<off+n+vs.length then vs[j-(off+n)]? else cs[j]? := by
 intro vs
 induction vs with
 | nil=>intro n cs j h;simp;intro h1 h2;omega
 | cons v vs ih =>
  intro n cs j h;simp only[List.length_cons] at h;simp only[List.zipIdx_cons,List.foldl_cons];rw[ih (n+1) _ j (by simp;omega)];simp only[List.length_cons,Array.getElem?_setIfInBounds];by_cases h1:j=off+n
  ·subst h1;rw[dy (by omega),dw rfl,dw (by omega),dw (by omega)];simp
  ·by_cases h2:off+(n+1)<=j/\j<off+(n+1)+vs.length
   ·rw[dw h2,dw (by omega)];rw[show j-(off+n)=(j-(off+(n+1)))+1 by omega];rfl
   ·rw[dy h2,dy (fun e=>h1 e.symm),dy (by omega)]
theorem acs (off:Nat): ∀(vs:List (Value×Nat)) (cs:Array Value),(vs.foldl (fun cs (x:Value×Nat)=>cs.setIfInBounds (off+x.2) x.1) cs).size=cs.size:=by
 intro vs
 induction vs with
 | nil=>intro cs;rfl
 | cons v vs ih=>intro cs;simp only[List.foldl_cons];rw[ih];simp
def DH (w:World)(ok:Nat->Prop)(bg:kz)(bp:kr)(c:List aF)(cs:Array Value):Prop :=
 cs.size=c.length/\(∀(j:Nat) u,cs[j]? = some u->lD u=true)/\ ∀(j:Nat) x u,c[j]? = some x->cs[j]? = some u->Rel w ok bg bp x u
theorem afJ {ok:Nat->Prop}{bg:kz}{bp:kr}{c:List aF}{cs:Array Value}(h:DH w ok bg bp c cs){x:aF}{v:Value}{off:Nat}(aa:Rel w ok bg bp x v)(aX:x.Cv=true)
 (jt:off+x.cells.length<=c.length):v.cells.size=x.cells.length /\
   DH w ok bg bp (setCells c off x.cells) (v.cells.zipIdx.foldl (fun cs (y:Value×Nat)=>cs.setIfInBounds (off+y.2) y.1) cs):=by
 obtain⟨vs,bf,aZ,lp,aj⟩:=aa.cellsOf (aF.S6 aX);have nN : ∀j,(v.cells.zipIdx.foldl (fun cs (y:Value×Nat)=>cs.setIfInBounds (off+y.2) y.1) cs)[j]? = if off<=j/\j<off+vs.length then vs[j-off]? else cs[j]? := by intro j;rw[bf];have:=aeF off vs 0 cs j (by rw[h.1];omega);simp only[Nat.add_zero] at this;rw[<- this,<- Array.foldl_toList,Array.toList_zipIdx]
 refine⟨by rw[bf];simpa using aZ,?_,?_,?_⟩
 ·rw[R4 jt,<- h.1,<- Array.foldl_toList,acs]
 ·intro j u hu
  rw[nN] at hu;split at hu
  ·exact lp _ _ hu
  ·exact h.2.1 _ _ hu
 ·intro j y u aW hu
  rw[nN] at hu;rw[LZ jt] at aW;by_cases nM:off<=j/\j<off+x.cells.length
  ·rw[dw nM] at aW;rw[dw (by rw[aZ];exact nM)] at hu;exact aj _ _ _ aW hu
  ·rw[dy nM] at aW;rw[dy (by rw[aZ];exact nM)] at hu;exact h.2.2 _ _ _ aW hu
theorem L9 {ok:Nat->Prop}{bg:kz}{bp:kr}(place:Nat->Option (Nat×Nat)): ∀(l:List (Nat×Nat×aF)) (kN:List (Nat×Value)) (c:List aF) (cs:Array Value) (eC:List aF),
 DH w ok bg bp c cs->l.length=kN.length ->
 (∀(j:Nat) off size x i v,l[j]? = some (off,size,x)->kN[j]? = some (i,v)->place i=some (off,size)/\Rel w ok bg bp x v) ->
 u7 c l=some eC-> ∃m6,Instr.fill place cs kN=some m6/\DH w ok bg bp eC m6:=by
 intro l
 induction l with
 | nil =>
  intro kN c cs eC h aZ _ cg;have:kN=[]:=List.length_eq_zero_iff.1 (by simpa using aZ.symm);subst this;simp[u7] at cg;subst cg;exact⟨cs,rfl,h⟩
 | cons q l ih =>
  intro kN c cs eC h aZ ah cg;obtain⟨off,size,x⟩:=q
  match kN,aZ with
  | (i,v)::kN,aZ =>
   obtain⟨NZ,aa⟩:=ah 0 off size x i v rfl rfl;simp only[u7] at cg;split at cg
   ·rename_i aX;simp only[dM,decide_eq_true_eq] at aX;obtain⟨⟨h1,h2⟩,U⟩:=aX;obtain⟨e1,e2⟩:=afJ h aa h1 (off:=off) (by omega);obtain⟨m6,f1,f2⟩:=ih kN _ _ eC e2 (by simpa using aZ) (fun j off size x i v a b=>ah (j+1) off size x i v a b) cg;refine⟨m6,?_,f2⟩;rw[Instr.fill];simp only[NZ];have hO : ¬(decide (v.cells.size≠size) || decide (off+v.cells.size>cs.size))=true:=(by simp;rw[e1,h.1];omega);rw[dy hO];exact f1
   ·simp at cg
theorem mapM_some {α β:Type}(f:α->β)(p:α->Option β): ∀(l:List α),(∀x∈l,p x=some (f x))->l.mapM p=some (l.map f)
 | [],_=>rfl
 | x::l,h=>by rw[List.mapM_cons,h x (by simp),mapM_some f p l fun y aW=>h y (by simp[aW])];rfl
theorem U6 {α β:Type}(p:α->Option β): ∀(l:List α) (hR:List β),l.mapM p=some hR->hR.length=l.length/\ ∀(j:Nat) x y,l[j]? = some x->hR[j]? = some y->p x=some y
 | [],hR,h=>by simp at h;subst h;exact⟨rfl,fun j x y aa=>by simp at aa⟩
 | a::l,hR,h=>by
  rw[List.mapM_cons] at h
  cases bF:p a with
  | none=>simp[bF] at h
  | some b =>
   cases aZ:l.mapM p with
   | none=>simp[bF,aZ] at h
   | some r =>
    simp[bF,aZ] at h;subst h;obtain⟨h1,h2⟩:=U6 p l r aZ;refine⟨by simp[h1],fun j x y aa aW=> ?_⟩
    cases j with
    | zero=>simp at aa aW;subst aa;subst aW;exact bF
    | succ j=>simp at aa aW;exact h2 j x y aa aW
theorem MT {t:TypeId}{z:List aF}(cH:s4 P t=some z): ∃i fp,P.info? t=some i/\i.zero=some fp/\fp.cells.size=z.length/\DH w (s.ok g aH w) s.bg (s.bp aH) z fp.cells:=by
 obtain⟨i,fp,ad,mj,sN,lp⟩:=E8 cH;have bL:fp.cells.size=z.length:=by rw[sN];simp
 refine⟨i,fp,ad,mj,bL,bL,fun j u hu=> ?_,fun j x u aa hu=> ?_⟩
 ·have av:j<z.length:=by
   have:=(Array.getElem?_eq_some_iff.1 hu).1;omega
  obtain⟨v,e1,e2,-⟩:=lp j z[j] (dz av);rw[hu] at e1;simp at e1;subst e1;exact e2
 ·obtain⟨v,e1,-,bI⟩:=lp j x aa;rw[hu] at e1;simp at e1;subst e1;exact bI _ _ _ _
theorem adv {t:TypeId}{parts:Array (Nat×Operand)}(h:dg g s aH a w)(an:o.op = .build t parts)(aD:Mv P t (parts.toList.map fun p=>(p.1,fG s.E p.2))=some bG):Fin P g s a w o bG:=by
 unfold Mv at aD;split at aD
 ·rename_i n e z hM cH
  obtain⟨hu,ad,-,-⟩:=MS hM;rw[List.map_map] at aD
  cases cg:u7 z (parts.toList.map ((fun p:Nat×aF=>(p.1*P.cellsOf e,P.cellsOf e,p.2))∘fun p=>(p.1,fG s.E p.2))) with
  | none=>rw[cg] at aD;simp at aD
  | some c =>
   rw[cg] at aD;simp only[Option.map_some,dB] at aD;subst aD;obtain⟨it,fp,zH,mj,fM,hcs⟩:=MT (w:=w) (s:=s) (g:=g) (aH:=aH) cH;obtain⟨OV,De⟩:=Option.isSome_iff_exists.1 ad;have ah5:P.cellsOf e=OV.size:=(by simp[Program.cellsOf,De]);obtain⟨m6,f1,f2⟩:=L9 (w:=w) (ok:=s.ok g aH w) (bg:=s.bg) (bp:=s.bp aH) (fun i=>some (i*OV.size,OV.size)) _ (parts.map fun (i,x)=>(i,a.eval x)).toList z fp.cells c hcs (by simp) (by intro j off size x i v av bf;simp only[dJ,Option.map_eq_some_iff,Function.comp,dD] at av;simp only[Array.toList_map,dJ,Option.map_eq_some_iff] at bf;obtain⟨p,ah,e1,e2,bI⟩:=av;obtain⟨⟨ft,df⟩,mR,bf⟩:=bf;simp only[dD] at bf;obtain⟨rfl,rfl⟩:=bf;rw[ah] at mR;have:=dI mR;subst this;refine⟨by rw[<- e1,<- e2,ah5],?_⟩;rw[<- bI];exact h.eval _) cg;have aP:P.built t (parts.map fun (i,x)=>(i,a.eval x)).toList=some m6:=(by unfold Program.built;simp only[zH,hu,mj,De];exact f1);refine jy (v:= .agg m6) h ?_ rfl ?_
   ·have:=run_build w t _ m6 aP;simp[execOp,an,this]
   ·have:=Rel.agg (w:=w) (ok:=s.ok g aH w) (bg:=s.bg) (bp:=s.bp aH) (c:=c) m6.toList (by simpa using f2.1) (fun j u hu=>f2.2.1 j u (by simpa using hu)) (fun j x u aa hu=>f2.2.2 j x u aa (by simpa using hu));simpa using this
 ·simp at aD
theorem afK {t:TypeId}{parts:Array (Nat×Operand)}(h:dg g s aH a w)(an:o.op = .build t parts)(aD:fI P s.E s.a5 a6 o db=some bG):Fin P g s a w o bG:=by
 simp only[fI,an] at aD;split at aD
 ·rename_i mu z Gv cH
  split at aD
  ·simp at aD
  ·rename_i pP
   have pP : ∀f∈mu.toList,(P.info? f.type).isSome=true:=(by rw[Bool.not_eq_false] at pP;exact List.all_eq_true.1 pP);split at aD
   ·rename_i l aZ
    cases cg:u7 z l with
    | none=>simp[cg] at aD
    | some c =>
     simp[cg] at aD;subst aD;obtain⟨it,fp,zH,mj,fM,hcs⟩:=MT (w:=w) (s:=s) (g:=g) (aH:=aH) cH;obtain⟨lv,lh⟩:=U6 _ _ _ aZ
     have aiC:mu.toList.mapM (fun f=>(P.info? f.type).map fun i=>(f.offset,i.size))=some (mu.toList.map fun f=>(f.offset,P.cellsOf f.type)):=by
      refine mapM_some (fun f:Field=>(f.offset,P.cellsOf f.type)) _ _ fun f cg=> ?_;have:=pP f cg
      cases ad:P.info? f.type with
      | none=>simp[ad] at this
      | some i=>simp[Program.cellsOf,ad]
     obtain⟨m6,f1,f2⟩:=L9 (w:=w) (ok:=s.ok g aH w) (bg:=s.bg) (bp:=s.bp aH) ((mu.toList.map fun f=>(f.offset,P.cellsOf f.type)).toArray[·]?) l (parts.map fun (i,x)=>(i,a.eval x)).toList z fp.cells c hcs (by simpa using lv) (by intro j off size x i v av bf;simp only[Array.toList_map,dJ,Option.map_eq_some_iff] at bf;obtain⟨⟨ft,df⟩,ah,bf⟩:=bf;simp only[dD] at bf;obtain⟨rfl,rfl⟩:=bf;have:=lh j _ _ ah av;simp only[Option.map_eq_some_iff,dD] at this;obtain⟨fd,h1,h2,U,ai⟩:=this;subst h2;subst U;subst ai;refine⟨?_,h.eval df⟩;rw[List.getElem?_toArray,dJ,Array.getElem?_toList,h1];rfl) cg;have aP:P.built t (parts.map fun (i,x)=>(i,a.eval x)).toList=some m6:=(by unfold Program.built;simp only[zH,L0 Gv,mj,aiC];exact f1);refine jy (v:= .agg m6) h ?_ rfl ?_
     ·have:=run_build w t _ m6 aP;simp[execOp,an,this]
     ·have:=Rel.agg (w:=w) (ok:=s.ok g aH w) (bg:=s.bg) (bp:=s.bp aH) (c:=c) m6.toList (by simpa using f2.1) (fun j u hu=>f2.2.1 j u (by simpa using hu)) (fun j x u aa hu=>f2.2.2 j x u aa (by simpa using hu));simpa using this
   ·simp at aD
 ·exact adv h an aD
theorem abr {sz:Nat}{es:List (List aF)}(aZ:∀e∈es,e.length=sz){i:Nat}(ad:i<es.length){c:List aF}(aX:c.length=sz):
 setCells es.flatten (i*sz) c=(es.set i c).flatten:=by
 have hlen : ∀(es:List (List aF)),(∀e∈es,e.length=sz)->es.flatten.length=es.length*sz:=by
  intro es
  induction es with
  | nil=>simp
  | cons e es ih =>
   intro h;rw[List.flatten_cons,dE,ih fun x aa=>h x (by simp[aa]),h e (by simp),List.length_cons,Nat.add_mul];omega
 have jt:i*sz+c.length<=es.flatten.length:=by rw[hlen es aZ,aX];have:=dL sz (show i+1<=es.length by omega);rw[Nat.add_mul] at this;omega
 apply List.ext_getElem?;intro j;rw[LZ jt,S7 aZ (dz ad) aX,aX]
theorem Tp {sz:Nat}: ∀(l:List (Nat×aF)) (es hP:List (List aF)),(∀e∈es,e.length=sz)->CW sz es l=some hP ->
 u7 es.flatten (l.map fun p=>(p.1*sz,sz,p.2))=some hP.flatten/\(∀e∈hP,e.length=sz)/\hP.length=es.length
 | [],es,hP,aZ,h=>by simp[CW] at h;subst h;exact⟨rfl,aZ,rfl⟩
 | (i,x)::l,es,hP,aZ,h=>by
  simp only[CW] at h;split at h
  ·rename_i aX
   simp only[dM,decide_eq_true_eq] at aX;obtain⟨⟨h1,h2⟩,U⟩:=aX
   have NX : ∀e∈es.set i x.cells,e.length=sz:=by
    intro e hm;rcases List.mem_or_eq_of_mem_set hm with c3|c3
    ·exact aZ e c3
    ·exact c3▸h2
   obtain⟨fP,fH,bC⟩:=Tp l (es.set i x.cells) hP NX h;have e:=abr aZ U h2
   have jt:i*sz+sz<=es.flatten.length:=by
    have:(setCells es.flatten (i*sz) x.cells).length=(es.set i x.cells).flatten.length:=by rw[e]
    have a0 : ∀(es:List (List aF)),(∀e∈es,e.length=sz)->es.flatten.length=es.length*sz:=by
     intro es
     induction es with
     | nil=>simp
     | cons e es ih =>
      intro h;rw[List.flatten_cons,dE,ih fun x aa=>h x (by simp[aa]),h e (by simp),List.length_cons,Nat.add_mul];omega
    rw[a0 es aZ];have:=dL sz (show i+1<=es.length by omega);rw[Nat.add_mul] at this;omega
   refine⟨?_,fH,by simpa using bC⟩;simp only[List.map_cons,u7,h1,h2,jt,decide_true,Bool.and_self,if_true];rw[e];exact fP
  ·simp at h
theorem acO {t:TypeId}{len:Nat}{parts:Array (Nat×Operand)}(h:dg g s aH a w)(fN:s.a5 a6=none)(an:o.op = .buildSlice t len parts)(aD:fI P s.E s.a5 a6 o db=some bG):Fin P g s a w o bG:=by
 simp only[fI,an] at aD;split at aD
 ·rename_i e he
  split at aD
  ·rename_i z cH
   split at aD
   ·simp at aD
   ·rename_i aX
    simp only[not_or,Nat.not_lt,Decidable.not_not] at aX;obtain⟨oT,Df,Dg⟩:=aX;split at aD
    ·rename_i es i4
     simp only[dB] at aD;subst aD;obtain⟨it,fp,zH,mj,fM,hcs⟩:=MT (w:=w) (s:=s) (g:=g) (aH:=aH) cH;have lp:P.cellsOf e=it.size:=(by simp[Program.cellsOf,zH]);have WD : ∀x∈List.replicate len z,x.length=z.length:=fun x aa=>(by rw[List.eq_of_mem_replicate aa]);obtain⟨f1,f2,f3⟩:=Tp _ _ _ WD i4
     have us:DH w (s.ok g aH w) s.bg (s.bp aH) (List.replicate len z).flatten ((Array.range (len*it.size)).map (fp.cells[· % fp.cells.size]!)):=by
      have JQ:0<z.length:=(by omega);have nN : ∀j,j<len*it.size->((Array.range (len*it.size)).map (fp.cells[· % fp.cells.size]!))[j]? = fp.cells[j % z.length]? := (by intro j av;rw[Array.getElem?_map,Array.getElem?_range];simp only[av,if_true,Option.map_some];have hm:j % fp.cells.size<fp.cells.size:=Nat.mod_lt _ (by omega);rw[getElem!_pos fp.cells _ hm,<- fM,Array.getElem?_eq_getElem hm]);have et : ∀(j:Nat) u,((Array.range (len*it.size)).map (fp.cells[· % fp.cells.size]!))[j]? = some u->j<len*it.size:=(by intro j u hu;have:=(Array.getElem?_eq_some_iff.1 hu).1;simpa using this);refine⟨by simp[<- lp,<- Df],fun j u hu=> ?_,fun j x u aa hu=> ?_⟩
      ·have av:=et j u hu;rw[nN j av] at hu;exact hcs.2.1 _ _ hu
      ·have av:=et j u hu
       rw[nN j av] at hu;rw[ru JQ _ WD,List.getElem?_replicate] at aa;split at aa
       ·exact hcs.2.2 _ _ _ aa hu
       ·simp at aa
     obtain⟨m6,g1,g2⟩:=L9 (w:=w) (ok:=s.ok g aH w) (bg:=s.bg) (bp:=s.bp aH) (fun i=>some (i*it.size,it.size)) ((parts.toList.map fun p=>(p.1,fG s.E p.2)).map fun p=>(p.1*z.length,z.length,p.2)) (parts.map fun (i,x)=>(i,a.eval x)).toList _ _ es.flatten us (by simp) (by intro j off size x i v av bf;simp only[Array.toList_map,dJ,Option.map_eq_some_iff,List.map_map] at bf av;obtain⟨⟨ft,df⟩,ah,bf⟩:=bf;obtain⟨⟨i2,x2⟩,Gs,av⟩:=av;rw[ah] at Gs;simp only[dB,dD] at Gs bf;obtain⟨rfl,rfl⟩:=Gs;obtain⟨rfl,rfl⟩:=bf;simp only[Function.comp,dD] at av;obtain⟨rfl,rfl,rfl⟩:=av;exact⟨by rw[<- lp,<- Df],h.eval df⟩) f1
     have ko:(Instr.buildSlice t len (parts.map fun (i,x)=>(i,a.eval x))).run P w = .ok (.slice (some ⟨w.heap.size,0,none⟩) len len) (w.alloc (.cells m6 e)):=by
      have h1 : ¬len*it.size>2 ^ 24:=(by rw[<- lp,<- Df];omega);by_cases h0:len*it.size=0
      ·have pr:len=0:=by
        rcases Nat.eq_zero_or_pos len with c3|c3
        ·exact c3
        ·have:0<len*it.size:=Nat.mul_pos c3 (by omega);omega
       subst pr;have e0:((Array.range (0*it.size)).map (fp.cells[· % fp.cells.size]!)) = #[]:=(by simp);rw[e0] at g1
       have ah:parts = #[]:=by
        obtain⟨l⟩:=parts
        match l,i4 with
        | [],_=>rfl
        | p::l,i4=>simp[CW] at i4
       subst ah;have aiD:m6 = #[]:=(by simpa [Instr.fill] using g1.symm);subst aiD;simp[Instr.buildSlice,run_underlying (uW he),sizeOf,typeInfo,zH,newRow,Instr.fill];rw[Array.range_zero',Array.map_empty]
      ·simp only[Instr.buildSlice,run_underlying (uW he),sizeOf,typeInfo,zH,newRow,zeroValue,mj,Sem.run_bind,Result.andThen_ok,run_program,Sem.run_pure,Sem.run_ite,h1,h0,if_false];rw[g1];rfl
     refine IM (v:= .slice (some ⟨w.heap.size,0,none⟩) len len) (al:=⟨z.length,es,.live⟩) (c:=m6) (fA:=e) h fN rfl ?_ rfl f2 ?_ ?_
     ·simp[execOp,an,ko]
     ·intro j x aa
      have av:j<m6.size:=by
       rw[g2.1];rcases Nat.lt_or_ge j es.flatten.length with c3|c3
       ·exact c3
       ·rw[List.getElem?_eq_none c3] at aa;simp at aa
      have hu:m6[j]? = some m6[j]:=Array.getElem?_eq_getElem av;exact⟨_,hu,g2.2.1 _ _ hu,g2.2.2 _ _ _ aa hu⟩
     ·intro bY mi oP n8 hu cq
      refine Rel.bb hu cq (dF _) ?_ ⟨?_,.inr (by simp)⟩
      ·have:len<=len*z.length:=Nat.le_mul_of_pos_right _ (by omega);omega
      ·rw[g2.1]
       have a0 : ∀(es:List (List aF)),(∀e∈es,e.length=z.length)->es.flatten.length=es.length*z.length:=by
        intro es
        induction es with
        | nil=>simp
        | cons e es ih =>
         intro h;rw[List.flatten_cons,dE,ih fun x aa=>h x (by simp[aa]),h e (by simp),List.length_cons,Nat.add_mul];omega
       rw[a0 es f2,f3];simp
    ·simp at aD
  ·simp at aD
 ·simp at aD
theorem Im (h:dg g s aH a w)(fN:s.a5 a6=none)(aD:fI P s.E s.a5 a6 o db=some bG)(cW:∀p∈bG.gq,p):Fin P g s a w o bG:=by
 cases an:o.op with
 | move x=>exact U5 h (.inl an) aD
 | assign x=>exact U5 h (.inr an) aD
 | pick c x y=>exact agF h an aD cW
 | alloc t=>exact afB h fN an aD
 | box t x=>exact ahl h fN an aD
 | load t x=>exact agG h an aD cW
 | store t x y=>exact afC h an aD cW
 | nilCheck x=>exact adt h an aD cW
 | binOp op t x y cN=>exact afD h an aD cW
 | unOp op t x=>exact agH h an aD
 | convert t cN x=>exact adW h an aD
 | makeFunc f Hf cQ=>exact adu h an aD
 | makeSlice t x y=>exact ada h fN an aD cW
 | fieldAddr t x f=>exact adb h an aD cW
 | field t x f=>exact afH h an aD
 | indexAddr t x y=>exact ade h an aD cW
 | index t x y=>exact afI h an aD cW
 | extract x i=>exact adX h an aD
 | slice t x b6 ad OW =>
  cases OW with
  | none=>exact afG h an aD cW
  | some m=>simp[fI,an] at aD
 | build t kN=>exact afK h an aD
 | buildSlice t n kN=>exact acO h fN an aD
 | call c =>
  obtain⟨JR,args,oS⟩:=c
  cases JR with
  | builtin b=>cases b<;>first|exact ahm h an rfl aD cW|simp[fI,an] at aD
  | value f=>simp[fI,an] at aD
  | invoke r m=>simp[fI,an] at aD
 | _=>simp[fI,an] at aD
end
def ahn:Option a3->gF
 | some o=> .gI o []
 | none=> .none
def uf (sz:Nat)(a5:Nat->Option (List a3))(a:gF):aF->Option (List (List aF)×List Prop)
 | .isl JS es=>if JS=sz then some (es,[]) else none
 | .bb r k b6 len=>match qk (a5 r) k a with
  | some (al,b4)=>if al.sz=sz then some ((al.es.drop b6).take len,b4++[b6+len<=al.es.length]) else none
  | none=>none
 | .fT=>some ([],[])
 | .kg=>some ([],[])
 | _=>none
def y4 (P:Program)(sz:Nat)(z:List aF)(a5:Nat->Option (List a3))(a:gF)(t cN:TypeId)(y:aF):Option (List (List aF)×List Prop) :=
 if t=cN then uf sz a5 a y else
 match P.underlying cN,y with
 | some (.int _),.n .i64 n=>some (List.replicate n.toNat z,[0<=n,n<9223372036854775808])
 | _,_=>none
def pT (P:Program)(E:Nat->aF)(a5:Nat->Option (List a3))(a6:Nat)(b:Builtin)(args:List aF)(oS:List TypeId)(db:gF):Option je :=
 match b,args,oS,db with
 | .append,[x,y],[t,cN],.ay m o =>
  match sk P t with
  | none=>none
  | some e=>match P.info? e,s4 P e with
   | some i,some z =>
    if z.length≠i.size\/i.size=0\/i.bytes=0 then none else
    match y4 P i.size z a5 (ahn o) t cN y with
    | none=>none
    | some (bM,b4)=>match x with
     | .fT=>some {val:= .bb a6 0 0 m,gW:=[(a6,[⟨i.size,bM,.live⟩])],gq:=b4++[m=bM.length,m*i.bytes<=140737488355328]}
     | .bb r k 0 len=>match a5 r with
      | none=>none
      | some row=>match ee (some row) k with
       | none=>none
       | some al=>if al.cT = .live/\al.sz=i.size/\a6≠r then
        some {val:= .bb a6 0 0 m,gW:=[(a6,[⟨i.size,al.es.take len++bM,.live⟩]),(r,row.set k {al with cT:= .gone})],gq:=b4++[len<=al.es.length,m=len+bM.length,m*i.bytes<=140737488355328]} else none
     | _=>none
   | _,_=>none
 | .append,[x,y],[t,cN],.ev =>
  match sk P t with
  | none=>none
  | some e=>match P.info? e,s4 P e with
   | some i,some z =>
    if z.length≠i.size\/i.size=0\/i.bytes=0 then none else
    match y4 P i.size z a5 .none t cN y with
    | none=>none
    | some (bM,b4)=>match x with
     | .bb r k 0 len=>match a5 r with
      | none=>none
      | some row=>match ee (some row) k with
       | none=>none
       | some al=>if al.cT = .live/\al.sz=i.size then
        some {val:= .bb r k 0 (len+bM.length),gW:=[(r,row.set k {al with es:=al.es.take len++bM})],gq:=b4++[len+bM.length<=al.es.length,bM.length*i.bytes<=140737488355328]} else none
     | _=>none
   | _,_=>none
 | .copy,[.bb r k 0 len,y],[t,_],_ =>
  match sk P t with
  | none=>none
  | some e=>match P.info? e with
   | none=>none
   | some i=>match uf i.size a5 .none y with
    | none=>none
    | some (bM,b4)=>match a5 r with
     | none=>none
     | some row=>match ee (some row) k with
      | none=>none
      | some al=>if al.cT = .live/\al.sz=i.size/\i.size≠0 then
       some {val:= .n .i64 bM.length,gW:=[(r,row.set k {al with es:=bM++al.es.drop bM.length})],gq:=b4++[bM.length<=len,len<=al.es.length]} else none
 | .clear,[.bb r k 0 len],[t],_ =>
  match sk P t with
  | none=>none
  | some e=>match P.info? e,s4 P e with
   | some i,some z=>match a5 r with
    | none=>none
    | some row=>match ee (some row) k with
     | none=>none
     | some al=>if al.cT = .live/\al.sz=i.size/\z.length=i.size/\i.size≠0 then
      some {val:= .ea [],gW:=[(r,row.set k {al with es:=List.replicate len z})],gq:=[al.es.length=len]} else none
   | _,_=>none
 | .min,[.n k x,.n eG y],_,_=>if k=eG then some {val:= .n k (if y<x then y else x)} else none
 | _,_,_,_=>none
section
variable {g:G} {s:S} {aH:gv} {a:Act} {w bY:World}
theorem dg.gone (h:dg g s aH a w){r k:Nat}{l:List a3}{o:a3}(aj:s.a5 r=some l)(an:s.al r k=some o):
 dg g (s.setRow r (l.set k {o with cT:= .gone})) aH a w /\
  ∀x v,Rel w (s.ok g aH w) s.bg (s.bp aH) x v->Rel w ((s.setRow r (l.set k {o with cT:= .gone})).ok g aH w) (s.setRow r (l.set k {o with cT:= .gone})).bg ((s.setRow r (l.set k {o with cT:= .gone})).bp aH) x v:=by
 have bx : ∀q j p,(s.setRow r (l.set k {o with cT:= .gone})).al q j=some p->s.al q j=some p/\ ¬(q=r/\j=k):=by
  intro q j p ah;rw[nk] at ah;by_cases e:q=r
  ·subst e
   rw[dw rfl] at ah;unfold ee at ah;simp only[List.getElem?_set] at ah;by_cases e2:k=j
   ·subst e2
    by_cases a1:k<l.length
    ·simp[a1] at ah
    ·simp[a1] at ah
   ·rw[dy e2] at ah;refine⟨?_,fun hc=>e2 hc.2.symm⟩;unfold S.al;rw[aj];exact ah
  ·rw[dy e] at ah;exact⟨ah,fun hc=>e hc.1⟩
 have da:Step g s aH w (s.setRow r (l.set k {o with cT:= .gone})) aH w:=by
  refine⟨HW s aj (by simp),fun q j a0=> ?_,fun b aZ=> ?_,fun _ _ _=>rfl,dF _⟩
  ·cases ah:(s.setRow r (l.set k {o with cT:= .gone})).al q j with
   | none=>right;simp[S.bp,ah]
   | some p=>left;simp[S.bp,ah,(bx q j p ah).1]
  ·obtain⟨q,j,p,m,h1,h2,U⟩:=aZ;exact .inl ⟨q,j,p,m,(bx q j p h1).1,h2,U⟩
 refine⟨{tojN:=⟨?_,?_,?_,h.ik,h.mlt,h.po,da.stay h.stay,h.low⟩,env:=fun t=>da.rel (h.env t),defers:=h.defers,k4:=h.k4},fun x v=>da.rel⟩
 ·intro q j p ah;exact da.obj (fun b m _=>rfl) (h.obj q j p (bx q j p ah).1)
 ·intro q j p i7 jv lL b m aJ h1 h2 U ai;exact h.inj q j p i7 jv lL b m aJ (bx q j p h1).1 (bx i7 jv lL h2).1 U ai
 ·intro q j p b m h1 h2;exact h.own q j p b m (bx q j p h1).1 h2
theorem dg.U7 (h:dg g s aH a w){a6 sz:Nat}(fN:s.a5 a6=none):
 ∃b0,b0 a6 0=none/\dg g (s.setRow a6 [⟨sz,[],.live⟩]) b0 a w:=by
 have bx : ∀q k,q≠a6->(s.setRow a6 [⟨sz,[],.live⟩]).al q k=s.al q k:=fun q k a0=>by rw[nk,dy a0]
 let b0:gv:=fun q k=>if q=a6 then none else aH q k
 have dd : ∀q k,s.bg q k->q≠a6:=by rintro q k a0 rfl;exact B8 fN k a0
 have NC : ∀k o,(s.setRow a6 [⟨sz,[],.live⟩]).al a6 k=some o->o=⟨sz,[],.live⟩:=by
  intro k o an;rw[nk,dw rfl,nU] at an;split at an
  ·simp at an;exact an.symm
  ·simp at an
 have da:Step g s aH w (s.setRow a6 [⟨sz,[],.live⟩]) b0 w:=by
  refine⟨fun q k a0=>(pb _ _ _ _ _).2 (by rw[dy (dd q k a0)];exact a0),fun q k a0=> .inl ?_,fun b aZ=> ?_,fun _ _ _=>rfl,dF _⟩
  ·simp[S.bp,bx q k (dd q k a0),b0,dd q k a0]
  ·obtain⟨q,k,o,m,h1,h2,U⟩:=aZ
   by_cases e:q=a6
   ·subst e;simp[b0] at U
   ·rw[bx q k e] at h1;simp only[b0,dy e] at U;exact .inl ⟨q,k,o,m,h1,h2,U⟩
 refine⟨b0,by simp[b0],{tojN:=⟨?_,?_,?_,h.ik,h.mlt,h.po,da.stay h.stay,h.low⟩,env:=fun t=>da.rel (h.env t),defers:=h.defers,k4:=h.k4}⟩
 ·intro q k o an
  by_cases e:q=a6
  ·subst e;rw[NC k o an];simp[b0,ku]
  ·rw[bx q k e] at an;have:=da.obj (fun b m _=>rfl) (h.obj q k o an);simpa [b0,e] using this
 ·intro q k o i7 eG cw b m aJ h1 h2 U ai;have e:q≠a6:=(by rintro rfl;simp[b0] at U);have fe:i7≠a6:=(by rintro rfl;simp[b0] at ai);rw[bx q k e] at h1;rw[bx i7 eG fe] at h2;simp only[b0,dy e] at U;simp only[b0,dy fe] at ai;exact h.inj q k o i7 eG cw b m aJ h1 h2 U ai
 ·intro q k o b m h1 h2;have e:q≠a6:=(by rintro rfl;simp[b0] at h2);rw[bx q k e] at h1;simp only[b0,dy e] at h2;exact h.own q k o b m h1 h2
theorem dg.turn (h:dg g s aH a w){r k b m a6:Nat}{l:List a3}{o:a3}(aj:s.a5 r=some l)(an:s.al r k=some o)(a1:o.cT = .live)(ah:aH r k=some (b,m))
 (fN:s.a5 a6=none) (cw:a3) (oU:cw.cT = .live) (c:Array Value) (fA:TypeId)
 (hw:bY.heap[b]? = some (.cells c fA (0,0))) (fM:bY.heap.size=w.heap.size) (y3 : ∀q,q≠b->bY.heap[q]? = w.heap[q]?)
 (tw:bY.os=w.os) (NV:bY.tape=w.tape) (NA:bY.output=w.output) (hm:c.size=m) (hlen : ∀e∈cw.es,e.length=cw.sz)
 (aX : ∀(j:Nat) x,cw.es.flatten[j]? = some x-> ∃v,c[j]? = some v/\lD v=true/\Rel w (s.ok g aH w) s.bg (s.bp aH) x v) :
 ∃b0,b0 a6 0=some (b,m)/\dg g ((s.setRow a6 [cw]).setRow r (l.set k {o with cT:= .gone})) b0 a bY:=by
 have dd:r≠a6:=by rintro rfl;rw[fN] at aj;simp at aj
 have WE : ∀k,¬s.bg a6 k:=B8 fN
 let b5:=(s.setRow a6 [cw]).setRow r (l.set k {o with cT:= .gone})
 let b0:gv:=aH.set a6 0 (some (b,m))
 have bx : ∀q j p,b5.al q j=some p->(q=a6/\j=0/\p=cw)\/(q≠a6/\s.al q j=some p/\ ¬(q=r/\j=k)):=by
  intro q j p a0;rw[nk] at a0;by_cases e:q=r
  ·subst e
   rw[dw rfl] at a0;unfold ee at a0;simp only[List.getElem?_set] at a0;by_cases e2:k=j
   ·subst e2;by_cases a1:k<l.length<;>simp[a1] at a0
   ·rw[dy e2] at a0;refine .inr ⟨dd,?_,fun hc=>e2 hc.2.symm⟩;unfold S.al;rw[aj];exact a0
  ·rw[dy e,nk] at a0
   by_cases e2:q=a6
   ·subst e2
    rw[dw rfl,nU] at a0;split at a0
    ·rename_i h0;simp at a0;exact .inl ⟨rfl,h0.1,a0.symm⟩
    ·simp at a0
   ·rw[dy e2] at a0;exact .inr ⟨e2,a0,fun hc=>e hc.1⟩
 have nB : ∀q j,q≠a6->b0 q j=aH q j:=fun q j a0=>by simp[b0,gv.set,a0]
 have Dh:b0 a6 0=some (b,m):=by simp[b0,gv.set]
 have sj:s.nG aH b:=⟨r,k,o,m,an,a1,ah⟩
 have kK : ∀q j,s.bg q j->b5.bg q j:=fun q j a0=>by
  have e:q≠a6:=fun e=>WE j (e▸a0);rw[pb,pb,dy e];by_cases e2:q=r
  ·subst e2;rw[dw rfl];simpa [S.bg,aj] using a0
  ·rw[dy e2];exact a0
 have da:Step g s aH w b5 b0 bY:=by
  refine⟨kK,fun q j a0=> ?_,fun q aZ=> ?_,fun q a0 aZ=>y3 q fun e=>aZ (e▸sj),Nat.le_of_eq fM.symm⟩
  ·have pp:q≠a6:=fun e=>WE j (e▸a0)
   cases lV:b5.al q j with
   | none=>right;simp[S.bp,lV]
   | some p =>
    left;rcases bx q j p lV with ⟨e,-⟩|⟨-,e2,-⟩
    ·exact absurd e pp
    ·simp[S.bp,lV,e2,nB q j pp]
  ·obtain⟨i7,j,p,aJ,h1,h2,U⟩:=aZ
   rcases bx i7 j p h1 with ⟨rfl,rfl,rfl⟩|⟨e1,e2,-⟩
   ·rw[Dh] at U;simp at U;exact .inl (U.1▸sj)
   ·rw[nB i7 j e1] at U;exact .inl ⟨i7,j,p,aJ,e2,h2,U⟩
 refine⟨b0,Dh,{tojN:=⟨?_,?_,?_,?_,h.mlt,h.po,da.stay h.stay,h.low⟩,env:=fun t=>da.rel (h.env t),defers:=h.defers,k4:=h.k4}⟩
 ·intro q j p lV
  rcases bx q j p lV with ⟨rfl,rfl,rfl⟩|⟨e1,e2,bI⟩
  ·rw[Dh];exact⟨c,fA,hw,hm,hlen,fun i x aa=>let ⟨v,f1,f2,f3⟩:=aX i x aa;⟨v,f1,f2,da.rel f3⟩⟩
  ·rw[nB q j e1];refine da.obj (fun jR aJ ls=>y3 jR ?_) (h.obj q j p e2);rintro rfl;exact bI (h.inj q j p r k o jR aJ m e2 an ls ah)
 ·intro q j p i7 jv lL jR jH iw h1 h2 U ai
  rcases bx q j p h1 with ⟨rfl,rfl,rfl⟩|⟨e1,e2,bI⟩<;>rcases bx i7 jv lL h2 with ⟨rfl,rfl,rfl⟩|⟨oV,rO,xF⟩
  ·exact⟨rfl,rfl⟩
  ·rw[Dh] at U;simp at U;rw[nB i7 jv oV] at ai;obtain⟨rfl,rfl⟩:=U;exact absurd (h.inj i7 jv lL r k o b iw m rO an ai ah) xF
  ·rw[Dh] at ai;simp at ai;rw[nB q j e1] at U;obtain⟨rfl,rfl⟩:=ai;exact absurd (h.inj q j p r k o b jH m e2 an U ah) bI
  ·rw[nB q j e1] at U;rw[nB i7 jv oV] at ai;exact h.inj q j p i7 jv lL jR jH iw e2 rO U ai
 ·intro q j p jR aJ h1 h2
  rcases bx q j p h1 with ⟨rfl,rfl,rfl⟩|⟨e1,e2,-⟩
  ·rw[Dh] at h2;simp at h2;rw[<- h2.1];exact h.own r k o b m an ah
  ·rw[nB q j e1] at h2;exact h.own q j p jR aJ e2 h2
 ·refine h.ik.step tw NV NA (Nat.le_of_eq fM.symm) fun jR oR ls=>y3 jR ?_
  rintro rfl;rcases h.own r k o jR m an ah with h1|h1
  ·omega
  ·exact ls h1
theorem qF.pQ {ok:Nat->Prop}{bg:kz}{bp:kr}{e4 o sz:Nat}{es:List (List aF)}(h:qF w ok bg bp e4 o sz es):
 ∃vs:List Value,vs.length=es.length*sz/\(∀(j:Nat) u,vs[j]? = some u->w.cell? ((⟨e4,o,none⟩:Addr).add j)=some u)/\(∀u∈vs,u.oneCell'=true) /\
  ∀(j:Nat) x u,es.flatten[j]? = some x->vs[j]? = some u->Rel w ok bg bp x u:=by
 have k5:es.flatten.length=es.length*sz:=by
  have : ∀(es:List (List aF)),(∀e∈es,e.length=sz)->es.flatten.length=es.length*sz:=by
   intro es
   induction es with
   | nil=>intro _;simp
   | cons e es ih =>
    intro hc;rw[List.flatten_cons,dE,ih fun x aa=>hc x (by simp[aa]),hc e (by simp),List.length_cons,Nat.add_mul];omega
  exact this es h.1
 have aa : ∀i,i<es.length*sz-> ∃v,∀x,es.flatten[i]? = some x->w.cell? ⟨e4,o+i,none⟩=some v/\lD v=true/\Rel w ok bg bp x v:=by intro i ad;have av:=dz (l:=es.flatten) (i:=i) (by omega);obtain⟨v,h1⟩:=h.2 i _ av;exact⟨v,fun x aa=>by rw[av] at aa;simp at aa;subst aa;exact h1⟩
 let vs:List Value:=(List.range (es.length*sz)).map fun i=>if ad:i<es.length*sz then (aa i ad).choose else undef
 have sw:vs.length=es.length*sz:=by simp[vs]
 have nN : ∀(i:Nat) u x,vs[i]? = some u->es.flatten[i]? = some x->w.cell? ⟨e4,o+i,none⟩=some u/\lD u=true/\Rel w ok bg bp x u:=by
  intro i u x hu Gy
  have ad:i<es.length*sz:=by
   rcases Nat.lt_or_ge i vs.length with c3|c3
   ·omega
   ·rw[List.getElem?_eq_none c3] at hu;simp at hu
  simp only[vs,dJ,List.getElem?_range ad,Option.map_some,dif_pos ad,dB] at hu;subst hu;exact(aa i ad).choose_spec x Gy
 have hex : ∀(i:Nat) u,vs[i]? = some u-> ∃x,es.flatten[i]? = some x:=by
  intro i u hu
  have ad:i<es.flatten.length:=by
   rcases Nat.lt_or_ge i vs.length with c3|c3
   ·omega
   ·rw[List.getElem?_eq_none c3] at hu;simp at hu
  exact⟨_,dz ad⟩
 refine⟨vs,sw,fun j u hu=> ?_,fun u hu=> ?_,fun j x u eE hu=>(nN j u x hu eE).2.2⟩
 ·obtain⟨x,Gy⟩:=hex j u hu;rw[tY];exact(nN j u x hu Gy).1
 ·obtain⟨j,av⟩:=List.getElem?_of_mem hu;obtain⟨x,Gy⟩:=hex j u av;exact(nN j u x av Gy).2.1
theorem acu {es bM:List (List aF)}{sz:Nat}{xs news:List Value}(aa:xs.length=es.length*sz)(he:∀e∈es,e.length=sz){j:Nat}{x:aF}(h:(es++bM).flatten[j]? = some x)
 {ok:Nat->Prop} {bg:kz} {bp:kr} (h1 : ∀(j:Nat) x u,es.flatten[j]? = some x->xs[j]? = some u->Rel w ok bg bp x u) (h2 : ∀(j:Nat) x u,bM.flatten[j]? = some x->news[j]? = some u->Rel w ok bg bp x u)
 {u:Value} (hu:(xs++news)[j]? = some u):Rel w ok bg bp x u:=by
 have k5:es.flatten.length=es.length*sz:=by
  have : ∀(es:List (List aF)),(∀e∈es,e.length=sz)->es.flatten.length=es.length*sz:=by
   intro es
   induction es with
   | nil=>intro _;simp
   | cons e es ih =>
    intro hc;rw[List.flatten_cons,dE,ih fun x aa=>hc x (by simp[aa]),hc e (by simp),List.length_cons,Nat.add_mul];omega
  exact this es he
 rw[List.flatten_append,List.getElem?_append] at h;rw[List.getElem?_append] at hu;by_cases av:j<es.flatten.length
 ·rw[dw av] at h;rw[dw (by omega)] at hu;exact h1 j x u h hu
 ·rw[dy av] at h;rw[dy (by omega)] at hu;rw[k5] at h;rw[aa] at hu;exact h2 _ x u h hu
variable {P:Program}
theorem Ut (h:dg g s aH a w){sz:Nat}{x:aF}{gB:gF}{bM:List (List aF)}{al:List Prop}(he:uf sz s.a5 gB x=some (bM,al))(bx:∀p∈al,p){v:Value}(bf:Rel w (s.ok g aH w) s.bg (s.bp aH) x v):
 ∃A c,v = .slice A bM.length c/\(∀e∈bM,e.length=sz)/\(bM.length=0\/ ∃e4 off,A=some ⟨e4,off,none⟩/\qF w (s.ok g aH w) s.bg (s.bp aH) e4 off sz bM):=by
 cases x with
 | isl JS es =>
  simp only[uf] at he;split at he
  ·rename_i bL
   subst bL;simp only[dB,dD] at he;obtain⟨rfl,rfl⟩:=he;rcases bf.vQ with ⟨rfl,A,c,rfl,-⟩|⟨e4,off,c,-,rfl,-,jY⟩
   ·exact⟨A,c,rfl,by simp,.inl rfl⟩
   ·exact⟨_,c,rfl,jY.1,.inr ⟨e4,off,rfl,jY⟩⟩
  ·simp at he
 | bb r k b6 len =>
  simp only[uf] at he;split at he
  ·rename_i ps b4 kW
   split at he
   ·rename_i bL
    simp only[dB,dD] at he;obtain⟨rfl,rfl⟩:=he;have jt:b6+len<=ps.es.length:=bx _ (by simp);have an:s.al r k=some ps:=vR kW (fun p ah=>bx p (by simp[ah]));have gk:=h.obj r k ps an;have aZ:((ps.es.drop b6).take len).length=len:=(by simp;omega);rcases bf.Ft (jL an) with ⟨-,rfl,rfl,rfl⟩|⟨b,m,A,c,ah,rfl,ur,-,hm⟩
    ·exact⟨none,0,by simp,by simp,.inl (by simp)⟩
    ·rw[ah] at gk
     have jY:=gk.rd;subst bL;have zy:=HX jY b6 len (by omega);refine⟨A,c,by rw[aZ],zy.1,?_⟩;rcases hm with rfl|⟨rfl,-⟩
     ·left;rw[aZ];omega
     ·right;rw[dG] at zy;exact⟨b,_,rfl,zy⟩
   ·simp at he
  ·simp at he
 | fT =>
  simp only[uf,dB,dD] at he;obtain⟨rfl,rfl⟩:=he;rw[bf.r8];exact⟨none,0,rfl,by simp,.inl rfl⟩
 | kg =>
  simp only[uf,dB,dD] at he;obtain⟨rfl,rfl⟩:=he;obtain⟨A,c,rfl⟩:=bf.IL;exact⟨some A,c,rfl,by simp,.inl rfl⟩
 | _=>simp[uf] at he
structure ND (P:Program) (w:World) (t cN fA e:TypeId) (i:TypeInfo) (fp pv:Value) (n:Nat) (vs:List Value):Prop where
 zero:n=0-> ∀(B:Option Addr) (len cap:Nat),len<=cap->(Builtin.append_ #[t,cN] fA #[.slice B len cap,pv]).run P w = .ok (.slice B len cap) w
 nil:0<n->(n:Int)<=9223372036854775807->n*i.bytes<=140737488355328 ->
  (Builtin.append_ #[t,cN] fA #[.slice none 0 0,pv]).run P w = .ok (.slice (some ⟨w.heap.size,0,none⟩) n (grownCap w n 0 e)) (w.drew.alloc (.cells (vs.toArray++Builtin.zeroCells fp.cells (grownCap w n 0 e-n)) e))
 room:0<n-> ∀(g kf nK:Nat) (nw:Array Value) (fe:TypeId),w.heap[g]? = some (.cells nw fe (0,0))->kf+n<=nK->kf*i.size+vs.length<=nw.size->n*i.bytes<=140737488355328 ->
  (Builtin.append_ #[t,cN] fA #[.slice (some ⟨g,0,none⟩) kf nK,pv]).run P w = .ok (.slice (some ⟨g,0,none⟩) (kf+n) nK) (w.setRow g (nw.toList.take (kf*i.size)++vs++nw.toList.drop (kf*i.size+vs.length)).toArray)
 grow:0<n-> ∀(b:Addr) (kf nK:Nat) (zz:List Value),zz.length=kf*i.size->(∀(j:Nat) v,zz[j]? = some v->w.cell? (b.add j)=some v)->nK<kf+n->((kf+n:Nat):Int)<=9223372036854775807->Builtin.nextslicecap (kf+n) nK*i.bytes<=281474976710656->n*i.bytes<=140737488355328 ->
  (Builtin.append_ #[t,cN] fA #[.slice (some b) kf nK,pv]).run P w = .ok (.slice (some ⟨w.heap.size,0,none⟩) (kf+n) (grownCap w (kf+n) nK e))
    (w.drew.alloc (.cells (zz.toArray++vs.toArray++Builtin.zeroCells fp.cells (grownCap w (kf+n) nK e-(kf+n))) e))
theorem abt (t fA e:TypeId)(i:TypeInfo)(cq:P.underlying t=some (.slice e))(ad:P.info? e=some i)
 (g kf nK:Nat) (nw:Array Value) (fe:TypeId) (dn:w.heap[g]? = some (.cells nw fe (0,0)))
 (a:Addr) (m c:Nat) (news:List Value) (aZ:news.length=m*i.size) (ah6 : ∀j u,news[j]? = some u->w.cell? (a.add j)=some u) (h1 : ∀u∈news,u.oneCell'=true)
 (vY:kf+m<=nK) (jt:kf*i.size+news.length<=nw.size) :
 (Builtin.append_ #[t,t] fA #[.slice (some ⟨g,0,none⟩) kf nK,.slice (some a) m c]).run P w =
   .ok (.slice (some ⟨g,0,none⟩) (kf+m) nK) (w.setRow g (nw.toList.take (kf*i.size)++news++nw.toList.drop (kf*i.size+news.length)).toArray):=by
 have cg:=run_firstCells_some (P:=P) w i.size m a m c news aZ ah6;have oa:=run_storeCells_at P g (kf*i.size) fe news 0 nw w dn (by simpa using jt) h1;simp only[Nat.add_zero] at oa;simp[Builtin.append_,run_underlying cq,sizeOf,typeInfo,ad,Builtin.lenOf,vY,cg,Addr.add_lit,oa]
theorem Tq {t fA e:TypeId}{i:TypeInfo}{fp:Value}(cq:P.underlying t=some (.slice e))(ad:P.info? e=some i)(cH:i.zero=some fp){A:Option Addr}{n c:Nat}{vs:List Value}(aZ:vs.length=n*i.size)
 (hA:n=0\/ ∃a,A=some a/\ ∀(j:Nat) u,vs[j]? = some u->w.cell? (a.add j)=some u) (h1 : ∀u∈vs,u.oneCell'=true):ND P w t t fA e i fp (.slice A n c) n vs where
 zero:=fun h0 B len cap F6=>by subst h0;cases A<;>cases B<;>simp[Builtin.append_,run_underlying cq,sizeOf,typeInfo,ad,Builtin.lenOf,F6,Builtin.firstCells,loadCells,loadCellsFrom,storeCells]
 nil:=fun h0 zI Di=>by obtain⟨a,rfl,bF⟩:=hA.resolve_left (by omega);exact run_append_nil (P:=P) w t fA e i fp cq ad cH a n c vs aZ bF h0 zI (by omega)
 room:=fun aY g kf nK nw fe dn vY jt _=>by obtain⟨a,rfl,bF⟩:=hA.resolve_left (by omega);exact abt t fA e i cq ad g kf nK nw fe dn a n c vs aZ bF h1 vY jt
 grow:=fun aY b kf nK zz an hold dn zI jt _=>by obtain⟨a,rfl,bF⟩:=hA.resolve_left (by omega);exact run_append_grow (P:=P) w t fA e i fp cq ad cH b kf nK zz an hold a n c vs aZ bF dn zI jt
theorem adZ {t cN fA e:TypeId}{i:TypeInfo}{fp:Value}{k:IntKind}(cq:P.underlying t=some (.slice e))(ob:P.underlying cN=some (.int k))(ad:P.info? e=some i)(cH:i.zero=some fp)(nx:fp.cells.size=i.size){m:Nat}(amk:(m:Int)<9223372036854775808)
 (h1 : ∀u∈(Builtin.zeroCells fp.cells m).toList,u.oneCell'=true):ND P w t cN fA e i fp (.int .i64 m) m (Builtin.zeroCells fp.cells m).toList:=by
 have hw:IntKind.i64.wrap (m:Int)=m:=by simp[IntKind.wrap,IntKind.bits,IntKind.signed];omega
 have pk : ¬((m:Int)<0):=by omega
 have us : ∀aJ,aJ*i.size=0->Builtin.zeroCells fp.cells aJ = #[]:=fun aJ hm=>by apply Array.eq_empty_of_size_eq_zero;rw[size_zeroCells,nx,hm]
 have JT : ∀bY:World,(if m*i.size=0 then (pure #[]:Sem (Array Value)) else do pure (Builtin.zeroCells (<- zeroValue e).cells m)).run P bY = .ok (Builtin.zeroCells fp.cells m) bY:=fun bY=>by
  split
  ·rename_i hm;rw[us _ hm];rfl
  ·simp[zeroValue,typeInfo,ad,cH]
 have NE : ∀b:Nat,m*b<=140737488355328-> ¬(281474976710656<(m:Int)*(b:Int)):=fun b aP=>by have:((m*b:Nat):Int)<=140737488355328:=(by omega);rw[Int.natCast_mul] at this;omega
 refine⟨fun aY B len cap F6=> ?_,fun aY zI Di=> ?_,fun aY g kf nK nw fe dn vY jt Di=> ?_,fun aY b kf nK zz an hold dn zI jt Di=> ?_⟩
 ·subst aY;have N0:IntKind.i64.wrap 0=0:=(by simpa using hw);cases B<;>simp[Builtin.append_,run_underlying cq,run_underlying ob,sizeOf,typeInfo,ad,F6,asInt,asIntOf,N0,storeCells]
 ·have JU : ¬m=0:=by omega
  have F7 : ¬(9223372036854775807<(m:Int)):=(by omega);have xw:=NE _ Di;have F8 : ¬(281474976710656<Builtin.nextslicecap m 0*i.bytes):=(by rw[nextslicecap_zero aY];omega);have h2:=JT w.drew;by_cases hm:m*i.size=0
  ·simp[Builtin.append_,run_underlying cq,run_underlying ob,sizeOf,typeInfo,zeroValue,ad,cH,asInt,asIntOf,hw,pk,xw,JU,F7,F8,Question.forced,run_firstCells_none,newRow,grownCap,hm,us _ hm]
  ·simp[Builtin.append_,run_underlying cq,run_underlying ob,sizeOf,typeInfo,zeroValue,ad,cH,asInt,asIntOf,hw,pk,xw,JU,F7,F8,Question.forced,run_firstCells_none,newRow,grownCap,hm]
 ·have xw:=NE _ Di
  have oa:=run_storeCells_at P g (kf*i.size) fe (Builtin.zeroCells fp.cells m).toList 0 nw w dn (by simpa using jt) h1;simp only[Nat.add_zero] at oa;by_cases hm:m*i.size=0
  ·rw[us _ hm] at oa;have aiE:(storeCells ⟨g,kf*i.size,none⟩ []).run P w = .ok () (w.setRow g nw):=(by simpa using oa);simp[Builtin.append_,run_underlying cq,run_underlying ob,sizeOf,typeInfo,zeroValue,ad,cH,asInt,asIntOf,hw,pk,xw,vY,hm,us _ hm,Addr.add_lit,aiE]
  ·simp[Builtin.append_,run_underlying cq,run_underlying ob,sizeOf,typeInfo,zeroValue,ad,cH,asInt,asIntOf,hw,pk,xw,vY,hm,Addr.add_lit,oa]
 ·have xw:=NE _ Di
  have W7 : ¬(kf+m<=nK):=(by omega);have F7 : ¬(9223372036854775807<((kf:Int)+(m:Int))):=(by omega);have F8 : ¬(281474976710656<Builtin.nextslicecap (kf+m) nK*i.bytes):=(by omega);have W8:=run_firstCells_some (P:=P) w.drew i.size kf b kf nK zz an (by simpa using hold);by_cases hm:m*i.size=0
  ·simp[Builtin.append_,run_underlying cq,run_underlying ob,sizeOf,typeInfo,zeroValue,ad,cH,asInt,asIntOf,hw,pk,xw,W7,F7,F8,Question.forced,W8,newRow,grownCap,hm,us _ hm]
  ·simp[Builtin.append_,run_underlying cq,run_underlying ob,sizeOf,typeInfo,zeroValue,ad,cH,asInt,asIntOf,hw,pk,xw,W7,F7,F8,Question.forced,W8,newRow,grownCap,hm]
theorem LH {a6:Nat}{e:TypeId}{v:Value}{i:TypeInfo}{m:Nat}(h:dg g s aH a w)(fN:s.a5 a6=none){es:List (List aF)}(hlen:∀x∈es,x.length=i.size)(hm:m=es.length)
 {pQ:List Value} {wK:Array Value} {cap:Nat} (sw:pQ.length=es.length*i.size) (nJ : ∀u∈pQ,u.oneCell'=true) (aji:wK.size=(cap-m)*i.size) (F6:m<=cap) (aiF:cap<9223372036854775808)
 (gk : ∀(j:Nat) x u,es.flatten[j]? = some x->pQ[j]? = some u->Rel w (s.ok g aH w) s.bg (s.bp aH) x u)
 (bf:v = .slice (some ⟨w.heap.size,0,none⟩) m cap) :
 ∃b0,dg g (s.setRow a6 [⟨i.size,es,.live⟩]) b0 a (w.drew.alloc (.cells (pQ.toArray++wK) e)) /\
  Rel (w.drew.alloc (.cells (pQ.toArray++wK) e)) ((s.setRow a6 [⟨i.size,es,.live⟩]).ok g b0 (w.drew.alloc (.cells (pQ.toArray++wK) e))) (s.setRow a6 [⟨i.size,es,.live⟩]).bg ((s.setRow a6 [⟨i.size,es,.live⟩]).bp b0) (.bb a6 0 0 m) v:=by
 have bH:=h.drew
 have k5:es.flatten.length=es.length*i.size:=by
  have : ∀(es:List (List aF)),(∀e∈es,e.length=i.size)->es.flatten.length=es.length*i.size:=by
   intro es
   induction es with
   | nil=>intro _;simp
   | cons e es ih =>
    intro hc;rw[List.flatten_cons,dE,ih fun x aa=>hc x (by simp[aa]),hc e (by simp),List.length_cons,Nat.add_mul];omega
  exact this es hlen
 obtain⟨b0,p1,p2,-⟩:=bH.alloc fN ⟨i.size,es,.live⟩ rfl (pQ.toArray++wK) e hlen (fun j x aa=>by
  have av:j<pQ.length:=by
   rcases Nat.lt_or_ge j es.flatten.length with c3|c3
   ·omega
   ·rw[List.getElem?_eq_none c3] at aa;simp at aa
  refine⟨pQ[j],?_,nJ _ (List.getElem_mem av),?_⟩
  ·rw[Array.getElem?_append_left (by simpa using av)];simp[av]
  ·exact(gk j x _ aa (dz av)).drew)
 refine⟨b0,p2,?_⟩;subst bf;have an:(s.setRow a6 [⟨i.size,es,.live⟩]).al a6 0=some ⟨i.size,es,.live⟩:=by rw[nk,dw rfl,nU];simp
 refine Rel.bb (sz:=i.size) (e4:=w.heap.size) (m:=(pQ.toArray++wK).size) ((pb _ _ _ _ _).2 (by simp)) ?_ F6 aiF ⟨?_,.inr (by simp)⟩
 ·rw[jL an,p1];rfl
 ·simp only[Array.size_append,List.size_toArray,aji,sw,dG];rw[<- hm,<- Nat.add_mul];congr 1;omega
section
variable {o:Oper} {db:gF} {a6:Nat} {bG:je}
theorem TW (h:dg g s aH a w){t cN fA e:TypeId}{i:TypeInfo}{z:List aF}(hu:P.underlying t=some (.slice e))(ad:P.info? e=some i)(cH:s4 P e=some z)(pq:z.length=i.size)(lq:i.size≠0)
 {y:aF} {gB:gF} {bM:List (List aF)} {al:List Prop} (he:y4 P i.size z s.a5 gB t cN y=some (bM,al)) (bx : ∀p∈al,p) {pv:Value} (aW:Rel w (s.ok g aH w) s.bg (s.bp aH) y pv) :
 ∃fp vs,i.zero=some fp/\fp.cells.size=i.size/\ND P w t cN fA e i fp pv bM.length vs/\(∀x∈bM,x.length=i.size)/\vs.length=bM.length*i.size/\(∀u∈vs,u.oneCell'=true) /\
  ∀(j:Nat) x u,bM.flatten[j]? = some x->vs[j]? = some u->Rel w (s.ok g aH w) s.bg (s.bp aH) x u:=by
 obtain⟨ft,fp,ml,mj,sN,xG⟩:=E8 cH;rw[ad] at ml;simp at ml;subst ml;have nx:fp.cells.size=i.size:=by rw[<- pq,sN];simp
 unfold y4 at he;split at he
 ·rename_i ajj
  subst ajj;obtain⟨A,c,rfl,hlen,N1⟩:=Ut h he bx aW;rcases N1 with h0|⟨e4,off,rfl,jY⟩
  ·have:bM=[]:=List.length_eq_zero_iff.1 h0;subst this;exact⟨fp,[],mj,nx,Tq hu ad mj (by simp) (.inl rfl) (by simp),hlen,by simp,by simp,by simp⟩
  ·obtain⟨vs,v1,v2,v3,v4⟩:=jY.pQ;exact⟨fp,vs,mj,nx,Tq hu ad mj v1 (.inr ⟨_,rfl,v2⟩) v3,hlen,v1,v3,v4⟩
 ·split at he
  ·rename_i k n a1
   simp only[dB,dD] at he;obtain⟨rfl,rfl⟩:=he;have h0:0<=n:=bx _ (by simp);have zI:n<9223372036854775808:=bx _ (by simp);obtain⟨m,rfl⟩:=Int.eq_ofNat_of_zero_le h0;have ajk:pv = .int .i64 m:=(by cases aW;rfl);subst ajk;have nN : ∀(j:Nat) u,(Builtin.zeroCells fp.cells m).toList[j]? = some u->fp.cells[j % i.size]? = some u:=(by intro j u pU;have av:=(List.getElem?_eq_some_iff.1 pU).1;rw[Array.length_toList,size_zeroCells,nx] at av;have et:j % i.size<fp.cells.size:=(by rw[nx];exact Nat.mod_lt _ (by omega));rw[Array.getElem?_toList,Builtin.zeroCells,Array.getElem?_map,nx,Array.getElem?_range] at pU;rw[dw av] at pU;simp only[Option.map_some,dB] at pU;rw[<- pU,Array.getElem?_eq_getElem et,getElem!_pos fp.cells _ et]);refine⟨fp,(Builtin.zeroCells fp.cells m).toList,mj,nx,?_,?_,?_,?_,?_⟩
   ·simp only[List.length_replicate,dx];refine adZ hu a1 ad mj nx (by omega) fun u uu=> ?_;obtain⟨j,av⟩:=List.getElem?_of_mem uu;have h1:=nN j u av;have et:j % i.size<z.length:=(by rw[pq];exact Nat.mod_lt _ (by omega));obtain⟨v,v1,v2,-⟩:=xG _ _ (dz et);rw[h1] at v1;obtain rfl:=dI v1;exact v2
   ·intro x aa;rw[List.mem_replicate] at aa;rw[aa.2,pq]
   ·rw[Array.length_toList,size_zeroCells,nx];simp
   ·intro u uu;obtain⟨j,av⟩:=List.getElem?_of_mem uu;have h1:=nN j u av;have et:j % i.size<z.length:=(by rw[pq];exact Nat.mod_lt _ (by omega));obtain⟨v,v1,v2,-⟩:=xG _ _ (dz et);rw[h1] at v1;obtain rfl:=dI v1;exact v2
   ·intro j x u aa pU
    rw[ru (sz:=i.size) (by omega) _ (fun fe nL=>by rw[List.mem_replicate] at nL;rw[nL.2,pq])] at aa;have h1:=nN j u pU
    cases a0:(List.replicate (Int.toNat (m:Int)) z)[j / i.size]? with
    | none=>rw[a0] at aa;simp at aa
    | some fe =>
     have:=dH a0;rw[List.mem_replicate] at this;rw[a0,this.2] at aa;simp only[dA] at aa;obtain⟨v,v1,-,v3⟩:=xG _ _ aa;rw[h1] at v1;obtain rfl:=dI v1;exact v3 _ _ _ _
  ·simp at he
theorem ad0 (h:dg g s aH a w)(fN:s.a5 a6=none){x y:aF}{uH pv:Value}{t cN:TypeId}{m:Nat}{OX:Option a3}{fA:TypeId}(aD:pT P s.E s.a5 a6 .append [x,y] [t,cN] (.ay m OX)=some bG)(cW:∀p∈bG.gq,p)
 (aa:Rel w (s.ok g aH w) s.bg (s.bp aH) x uH) (aW:Rel w (s.ok g aH w) s.bg (s.bp aH) y pv) :
 ∃v bY b0,(Builtin.append_ #[t,cN] fA #[uH,pv]).run P w = .ok v bY/\dg g (s.jD bG.gW) b0 a bY/\Rel bY ((s.jD bG.gW).ok g b0 bY) (s.jD bG.gW).bg ((s.jD bG.gW).bp b0) bG.val v:=by
 simp only[pT] at aD;split at aD
 ·simp at aD
 ·rename_i e he
  have hu:=uW he;split at aD
  ·rename_i i z ad cH
   split at aD
   ·simp at aD
   ·rename_i aX
    simp only[not_or,Decidable.not_not] at aX;obtain⟨pq,lq,Dc⟩:=aX;split at aD
    ·simp at aD
    ·rename_i bM b4 uo
     have JV:=fun ah=>TW (fA:=fA) h hu ad cH pq lq uo ah aW;by_cases aho:True
     ·
      split at aD
      ·
       simp only[dB] at aD;subst aD;have hm:m=bM.length:=cW _ (by simp);have Gz:m*i.bytes<=140737488355328:=cW _ (by simp);obtain⟨fp,vs,mj,nx,hA,hlen,v1,v3,v4⟩:=JV (fun p ah=>cW p (by simp[ah]));clear JV;rw[aa.r8];by_cases h0:bM.length=0
       ·have:bM=[]:=List.length_eq_zero_iff.1 h0;subst this;obtain⟨b0,p1,p2⟩:=h.U7 (sz:=i.size) fN;refine⟨_,w,b0,hA.zero h0 none 0 0 (dF _),p2,?_⟩;subst hm;have an:(s.setRow a6 [⟨i.size,[],.live⟩]).al a6 0=some ⟨i.size,[],.live⟩:=(by rw[nk,dw rfl,nU];simp);exact .pA (sz:=i.size) ((pb _ _ _ _ _).2 (by simp)) (by show (s.setRow a6 [⟨i.size,[],.live⟩]).bp b0 a6 0=_;rw[jL an,p1])
       ··have xH:bM.length*1<=bM.length*i.bytes:=Nat.mul_le_mul_left _ (by omega)
         rw[hm] at Gz;have ko:=hA.nil (by omega) (by omega) (by omega);have W9:=grownCap_ge w bM.length 0 e;have hle:=grownCap_le_maxLen w bM.length 0 e (by simp only[maxLen];omega);simp only[maxLen] at hle
         obtain⟨b0,q1,q2⟩:=LH (e:=e) (i:=i) (m:=m) (pQ:=vs) (wK:=Builtin.zeroCells fp.cells (grownCap w bM.length 0 e-bM.length)) (cap:=grownCap w bM.length 0 e) h fN hlen hm v1 v3
          (by rw[size_zeroCells,nx,hm]) (by omega) (by omega) v4 rfl
         refine⟨.slice (some ⟨w.heap.size,0,none⟩) m (grownCap w bM.length 0 e),_,b0,?_,q1,q2⟩;rw[hm];exact ko
      ·
       rename_i r k len;split at aD
       ·simp at aD
       ·rename_i row ep
        split at aD
        ·simp at aD
        ·rename_i al bx
         split at aD
         ·rename_i zJ
          obtain⟨pV,fM,dd⟩:=zJ;simp only[dB] at aD;subst aD;have an:s.al r k=some al:=(by unfold S.al;rw[ep];exact bx);have jt:len<=al.es.length:=cW _ (by simp);have hm:m=len+bM.length:=cW _ (by simp);have Gz:m*i.bytes<=140737488355328:=cW _ (by simp);have xH:m*1<=m*i.bytes:=Nat.mul_le_mul_left _ (Nat.one_le_iff_ne_zero.2 Dc);obtain⟨fp,vs,mj,nx,hA,hlen,v1,v3,v4⟩:=JV (fun p ah=>cW p (by simp[ah]));clear JV;have ams:bM.length*i.bytes<=m*i.bytes:=dL _ (by omega);have gk:=h.obj r k al an;have N2:(al.es.take len).length=len:=(by simp;omega);have u9:(s.setRow a6 [⟨i.size,al.es.take len++bM,.live⟩]).a5 r=some row:=(by simp[S.setRow,Ne.symm dd,ep]);have sx : ∀b0:gv,((s.setRow a6 [⟨i.size,al.es.take len++bM,.live⟩]).setRow r (row.set k {al with cT:= .gone})).al a6 0=some ⟨i.size,al.es.take len++bM,.live⟩:=(by intro _;rw[nk,dy dd,nk,dw rfl,nU];simp);have F9:((s.setRow a6 [⟨i.size,al.es.take len++bM,.live⟩]).setRow r (row.set k {al with cT:= .gone})).bg a6 0:=(by rw[pb,dy dd,pb,dw rfl];simp);show ∃v bY b0,_/\dg g ((s.setRow a6 [⟨i.size,al.es.take len++bM,.live⟩]).setRow r (row.set k {al with cT:= .gone})) b0 a bY/\_;rcases aa.yO (jL an) with ⟨ah,-,rfl,rfl⟩|⟨b,M,hN,lZ,ah,rfl,ur,wv,ew,oc⟩
          ·
           rw[ah] at gk;simp only[ku] at gk;have i4:al.es.take 0++bM=bM:=(by simp);by_cases h0:bM.length=0
           ·have:bM=[]:=List.length_eq_zero_iff.1 h0;subst this;obtain⟨b0,p1,p2⟩:=h.U7 (sz:=i.size) fN;have sy:(s.setRow a6 [⟨i.size,[],.live⟩]).al r k=some al:=(by rw[nk,dy (Ne.symm dd)];exact an);have ah7:(s.setRow a6 [⟨i.size,[],.live⟩]).a5 r=some row:=(by simp[S.setRow,Ne.symm dd,ep]);obtain⟨vt,-⟩:=p2.gone ah7 sy;have Ga:al.es.take 0++([]:List (List aF))=[]:=(by simp);rw[Ga];rw[Ga] at F9 sx;refine⟨_,w,b0,hA.zero h0 none 0 0 (dF _),vt,?_⟩;subst hm;exact .pA (sz:=i.size) F9 ((jL (sx b0)).trans (by rw[p1]))
           ··have ls:m=bM.length:=by omega
             have ko:=hA.nil (by omega) (by omega) (by omega);have W9:=grownCap_ge w bM.length 0 e;have hle:=grownCap_le_maxLen w bM.length 0 e (by simp only[maxLen];omega);simp only[maxLen] at hle
             obtain⟨b0,q1,q2⟩:=LH (e:=e) (i:=i) (m:=m) (pQ:=vs) (wK:=Builtin.zeroCells fp.cells (grownCap w bM.length 0 e-bM.length)) (cap:=grownCap w bM.length 0 e) h fN hlen ls v1 v3
              (by rw[size_zeroCells,nx,ls]) (by omega) (by omega) v4 rfl
             rw[i4];rw[i4] at u9;have sy:(s.setRow a6 [⟨i.size,bM,.live⟩]).al r k=some al:=(by rw[nk,dy (Ne.symm dd)];exact an);obtain⟨vt,Hg⟩:=q1.gone u9 sy;refine⟨.slice (some ⟨w.heap.size,0,none⟩) m (grownCap w bM.length 0 e),_,b0,?_,vt,Hg _ _ q2⟩;rw[ls];exact ko
          ·
           rw[ah] at gk;have ah8:=gk;obtain⟨cQ,oy,g1,g2,g3,g4⟩:=gk
           have Gb : ∀e∈al.es.take len++bM,e.length=i.size:=by
            intro fe nL;rw[List.mem_append] at nL;rcases nL with c3|c3
            ·rw[g3 fe (List.mem_of_mem_take c3),fM]
            ·exact hlen fe c3
           have k5 : ∀(es:List (List aF)),(∀e∈es,e.length=i.size)->es.flatten.length=es.length*i.size:=by
            intro es
            induction es with
            | nil=>intro _;simp
            | cons e es ih =>
             intro hc;rw[List.flatten_cons,dE,ih fun x aa=>hc x (by simp[aa]),hc e (by simp),List.length_cons,Nat.add_mul];omega
           by_cases h0:bM.length=0
           ·
            have:bM=[]:=List.length_eq_zero_iff.1 h0;subst this;have Ga:al.es.take len++([]:List (List aF))=al.es.take len:=(by simp);rw[Ga];rw[Ga] at F9 sx Gb
            obtain⟨b0,p1,p2⟩:=h.turn ep an pV ah fN ⟨i.size,al.es.take len,.live⟩ rfl cQ oy g1 rfl (fun _ _=>rfl) rfl rfl rfl g2 Gb (fun j q a0=>by
             refine g4 j q ?_
             have av:j<(al.es.take len).flatten.length:=by
              rcases Nat.lt_or_ge j (al.es.take len).flatten.length with c3|c3
              ·exact c3
              ·rw[List.getElem?_eq_none c3] at a0;simp at a0
             have Xa:al.es.flatten=(al.es.take len).flatten++(al.es.drop len).flatten:=(by rw[<- List.flatten_append,List.take_append_drop]);rw[Xa,List.getElem?_append_left av];exact a0)
            refine⟨_,w,b0,hA.zero h0 hN len lZ ur,p2,?_⟩;have ls:m=len:=(by simpa using hm);subst ls;refine .bb (sz:=i.size) (e4:=b) (m:=M) F9 ((jL (sx b0)).trans (by rw[p1])) ur wv ?_;rw[<- fM];exact⟨ew,oc⟩
           ··
             have hold : ∃xs:List Value,xs.length=len*i.size/\(∀(j:Nat) u,xs[j]? = some u->w.cell? ((⟨b,0,none⟩:Addr).add j)=some u)/\(∀u∈xs,u.oneCell'=true) /\
              ∀(j:Nat) x u,(al.es.take len).flatten[j]? = some x->xs[j]? = some u->Rel w (s.ok g aH w) s.bg (s.bp aH) x u:=by
              have WG:=HX ah8.rd 0 len (by omega);simp only[List.drop_zero,Nat.zero_mul,Nat.add_zero] at WG;obtain⟨xs,x1,x2,ao,gw⟩:=WG.pQ;exact⟨xs,by rw[x1,N2,fM],x2,ao,gw⟩
             obtain⟨xs,x1,x2,ao,gw⟩:=hold;have ajl:xs.length=(al.es.take len).length*i.size:=by rw[N2];exact x1
             have U8 : ∀(j:Nat) x u,(al.es.take len++bM).flatten[j]? = some x->(xs++vs)[j]? = some u->Rel w (s.ok g aH w) s.bg (s.bp aH) x u :=
              fun j x u ajm pU=>acu ajl (fun fe nL=>by rw[g3 fe (List.mem_of_mem_take nL),fM]) ajm gw v4 pU
             have Gc:(al.es.take len++bM).length=m:=(by rw[dE,N2];exact hm.symm);by_cases vY:len+bM.length<=lZ
             ·
              rcases oc with rfl|rfl
              ·omega
              ·rw[Nat.zero_mul] at *
               rw[dG] at ew;have ahp:len*i.size+vs.length<=cQ.size:=(by rw[v1,g2,<- ew,fM,<- Nat.add_mul];exact dL _ vY);have ko:=hA.room (by omega) b len lZ cQ oy g1 vY ahp (by omega);have aiG:(w.setRow b (cQ.toList.take (len*i.size)++vs++cQ.toList.drop (len*i.size+vs.length)).toArray).heap.size=w.heap.size:=size_setRow _ _ _
               have Xb:xs=cQ.toList.take (len*i.size):=by
                apply List.ext_getElem?;intro j;rw[List.getElem?_take];by_cases av:j<len*i.size
                ·rw[dw av];have vg:j<xs.length:=(by omega);have:=x2 j _ (dz vg);rw[tY,cell_of_row w b (0+j) cQ oy (0,0) g1,dG] at this;rw[dz vg,<- this,Array.getElem?_toList]
                ·rw[dy av,List.getElem?_eq_none (by omega)]
               obtain⟨b0,p1,p2⟩:=h.turn ep an pV ah fN ⟨i.size,al.es.take len++bM,.live⟩ rfl _ oy (setRow_heap w b cQ _ oy _ g1) aiG (fun q a0=>setRow_other w b q _ a0) rfl rfl rfl
                (by rw[<- g2];simp;omega) Gb (fun j q a0=>by
                  have av:j<(xs++vs).length:=by
                   have:j<(al.es.take len++bM).flatten.length:=by
                    rcases Nat.lt_or_ge j (al.es.take len++bM).flatten.length with c3|c3
                    ·exact c3
                    ·rw[List.getElem?_eq_none c3] at a0;simp at a0
                   rw[k5 _ Gb,Gc] at this;rw[dE,x1,v1,<- Nat.add_mul,<- hm];exact this
                  refine⟨(xs++vs)[j],?_,?_,U8 j q _ a0 (dz av)⟩
                  ·rw[List.getElem?_toArray,List.getElem?_append_left (by rw[<- Xb];exact av),<- Xb];exact dz av
                  ·have:=List.getElem_mem av
                   rw[List.mem_append] at this;rcases this with c3|c3
                   ·exact ao _ c3
                   ·exact v3 _ c3)
               refine⟨_,_,b0,ko,p2,?_⟩;rw[<- hm];refine .bb (sz:=i.size) (e4:=b) (m:=M) F9 ((jL (sx b0)).trans (by rw[p1])) (by omega) wv ⟨?_,.inr (by simp)⟩;rw[dG,<- fM];exact ew
             ·
              have hA : ∃Aa:Addr,(hN=some Aa/\ ∀(j:Nat) u,xs[j]? = some u->w.cell? (Aa.add j)=some u)\/(hN=none/\len=0/\lZ=0):=by
               cases hN with
               | none =>
                refine⟨⟨0,0,none⟩,.inr ⟨rfl,?_⟩⟩;rcases oc with c3|c3
                ·omega
                ·simp at c3
               | some Aa =>
                refine⟨Aa,.inl ⟨rfl,?_⟩⟩;rcases oc with c3|c3
                ·have:len=0:=(by omega);have:xs=[]:=List.length_eq_zero_iff.1 (by rw[x1,this];simp);intro j u av;rw[this] at av;simp at av
                ·simp at c3;subst c3;exact x2
              have W9:=grownCap_ge w (len+bM.length) lZ e;have hle:=grownCap_le_maxLen w (len+bM.length) lZ e (by simp only[maxLen];omega);simp only[maxLen] at hle
              have ko:(Builtin.append_ #[t,cN] fA #[.slice hN len lZ,pv]).run P w = .ok (.slice (some ⟨w.heap.size,0,none⟩) (len+bM.length) (grownCap w (len+bM.length) lZ e))
               (w.drew.alloc (.cells ((xs++vs).toArray++Builtin.zeroCells fp.cells (grownCap w (len+bM.length) lZ e-(len+bM.length))) e)):=by
               have aiH:(xs++vs).toArray=xs.toArray++vs.toArray:=(by apply Array.ext';simp);rw[aiH];obtain⟨Aa,⟨rfl,ajn⟩|⟨rfl,pr,oA⟩⟩:=hA
               ·exact hA.grow (by omega) Aa len lZ xs x1 ajn (by omega) (by omega) (growslice_fits (by omega) (by rw[<- hm];exact Gz)) (by omega)
               ·subst pr;subst oA;have ajo:xs=[]:=List.length_eq_zero_iff.1 (by rw[x1];simp);subst ajo;have:=hA.nil (by omega) (by omega) (by omega);simpa using this
              obtain⟨b0,q1,q2⟩:=LH (e:=e) (i:=i) (m:=m) (pQ:=xs++vs) (wK:=Builtin.zeroCells fp.cells (grownCap w (len+bM.length) lZ e-(len+bM.length))) (cap:=grownCap w (len+bM.length) lZ e) h fN Gb Gc.symm
               (by rw[dE,x1,v1,Gc,hm,Nat.add_mul]) (fun u hu=>by
                 rw[List.mem_append] at hu;rcases hu with c3|c3
                 ·exact ao _ c3
                 ·exact v3 _ c3) (by rw[size_zeroCells,nx,hm]) (by omega) (by omega) U8 rfl
              have sy:(s.setRow a6 [⟨i.size,al.es.take len++bM,.live⟩]).al r k=some al:=(by rw[nk,dy (Ne.symm dd)];exact an);obtain⟨vt,Hg⟩:=q1.gone u9 sy;refine⟨.slice (some ⟨w.heap.size,0,none⟩) m (grownCap w (len+bM.length) lZ e),_,b0,?_,vt,Hg _ _ q2⟩;rw[hm];exact ko
         ·simp at aD
      ·simp at aD
     ·exact absurd trivial aho
  ·simp at aD
end
end
section
variable {P:Program} {g:G} {s:S} {aH:gv} {a:Act} {w:World}
theorem Fk {sz:Nat}: ∀ {es:List (List aF)},(∀e∈es,e.length=sz)->es.flatten.length=es.length*sz
 | [],_=>by simp
 | e::es,h=>by rw[List.flatten_cons,dE,Fk fun x aa=>h x (by simp[aa]),h e (by simp),List.length_cons,Nat.add_mul];omega
theorem dg.putAt (h:dg g s aH a w){r k p b M:Nat}{row:List a3}{al:a3}(aj:s.a5 r=some row)(an:s.al r k=some al)(a1:al.cT = .live)(nB:aH r k=some (b,M)){bM hP:List (List aF)}{vs:List Value}
 (hlen : ∀x∈bM,x.length=al.sz) (v1:vs.length=bM.length*al.sz) (v3 : ∀u∈vs,u.oneCell'=true) (v4 : ∀(j:Nat) x u,bM.flatten[j]? = some x->vs[j]? = some u->Rel w (s.ok g aH w) s.bg (s.bp aH) x u)
 (ah:p+bM.length<=al.es.length) (q:Nat) (i4:hP=(al.es.take p++bM++al.es.drop (p+bM.length)).take q) :
 ∃cQ oy,w.heap[b]? = some (.cells cQ oy (0,0))/\cQ.size=M/\al.es.length*al.sz<=M/\p*al.sz+vs.length<=cQ.size /\
  dg g (s.setRow r (row.set k {al with es:=hP})) aH a (w.setRow b (cQ.toList.take (p*al.sz)++vs++cQ.toList.drop (p*al.sz+vs.length)).toArray) /\
  ∀x v,Rel w (s.ok g aH w) s.bg (s.bp aH) x v->Rel (w.setRow b (cQ.toList.take (p*al.sz)++vs++cQ.toList.drop (p*al.sz+vs.length)).toArray) ((s.setRow r (row.set k {al with es:=hP})).ok g aH (w.setRow b (cQ.toList.take (p*al.sz)++vs++cQ.toList.drop (p*al.sz+vs.length)).toArray)) (s.setRow r (row.set k {al with es:=hP})).bg ((s.setRow r (row.set k {al with es:=hP})).bp aH) x v:=by
 have gk:=h.obj r k al an;rw[nB] at gk;obtain⟨cQ,oy,g1,g2,g3,g4⟩:=gk;have k5:=Fk g3
 have ew:al.es.length*al.sz<=M:=by
  rcases Nat.eq_zero_or_pos al.es.flatten.length with h0|lq
  ·omega
  ·obtain⟨v,e1,-⟩:=g4 (al.es.flatten.length-1) _ (dz (by omega));have:=(Array.getElem?_eq_some_iff.1 e1).1;omega
 have hmul:p*al.sz+bM.length*al.sz<=al.es.length*al.sz:=by rw[<- Nat.add_mul];exact dL _ ah
 have jt:p*al.sz+vs.length<=cQ.size:=by omega
 refine⟨cQ,oy,g1,g2,ew,jt,?_⟩
 have aiI : ∀e∈al.es.take p++bM++al.es.drop (p+bM.length),e.length=al.sz:=by
  intro e he;simp only[List.mem_append] at he;rcases he with (he|he)|he
  ·exact g3 e (List.mem_of_mem_take he)
  ·exact hlen e he
  ·exact g3 e (List.mem_of_mem_drop he)
 have hA:(al.es.take p).flatten.length=p*al.sz:=by rw[Fk fun e he=>g3 e (List.mem_of_mem_take he),List.length_take];congr 1;omega
 have fX:(al.es.take (p+bM.length)).flatten.length=p*al.sz+bM.length*al.sz:=by rw[Fk fun e he=>g3 e (List.mem_of_mem_take he),List.length_take,<- Nat.add_mul];congr 1;omega
 have akP:bM.flatten.length=bM.length*al.sz:=Fk hlen
 have h1 : ∀j,j<p*al.sz->(al.es.take p).flatten[j]? = al.es.flatten[j]? := fun j av=>by
  conv=>rhs;rw[<- List.take_append_drop p al.es,List.flatten_append,List.getElem?_append_left (by omega)]
 have h2 : ∀j,(al.es.drop (p+bM.length)).flatten[j]? = al.es.flatten[p*al.sz+bM.length*al.sz+j]? := fun j=>by
  conv=>rhs;rw[<- List.take_append_drop (p+bM.length) al.es,List.flatten_append,List.getElem?_append_right (by omega),fX]
  congr 1;omega
 refine h.write aj an a1 nB hP _ oy (setRow_heap w b cQ _ oy _ g1) (size_setRow _ _ _) (fun q a0=>setRow_other w b q _ a0) rfl rfl rfl (by rw[<- g2];simp;omega) ?_ ?_
 ·intro e he;rw[i4] at he;exact aiI e (List.mem_of_mem_take he)
 ·intro j x aa
  have eE:(al.es.take p++bM++al.es.drop (p+bM.length)).flatten[j]? = some x:=by
   rw[i4] at aa;have av:=(List.getElem?_eq_some_iff.1 aa).1
   conv=>lhs;rw[<- List.take_append_drop q (al.es.take p++bM++al.es.drop (p+bM.length)),List.flatten_append,List.getElem?_append_left av]
   exact aa
  rw[List.flatten_append,List.flatten_append] at eE;simp only[List.getElem?_toArray];have iS:(cQ.toList.take (p*al.sz)).length=p*al.sz:=(by rw[List.length_take,Array.length_toList];omega);by_cases bc:j<p*al.sz
  ·rw[List.append_assoc,List.getElem?_append_left (by omega),h1 j bc] at eE;obtain⟨v,e1,e2,bI⟩:=g4 j x eE;refine⟨v,?_,e2,bI⟩;rw[List.append_assoc,List.getElem?_append_left (by omega),List.getElem?_take,dw bc,Array.getElem?_toList];exact e1
  ·by_cases cj:j<p*al.sz+vs.length
   ·rw[List.append_assoc,List.getElem?_append_right (by omega),hA,List.getElem?_append_left (by omega)] at eE;have bf:j-p*al.sz<vs.length:=(by omega);refine⟨vs[j-p*al.sz],?_,v3 _ (List.getElem_mem bf),v4 _ _ _ eE (dz bf)⟩;rw[List.append_assoc,List.getElem?_append_right (by omega),iS,List.getElem?_append_left (by omega)];exact dz bf
   ·rw[List.getElem?_append_right (by rw[dE];omega),dE,hA,akP,h2] at eE;rw[show p*al.sz+bM.length*al.sz+(j-(p*al.sz+bM.length*al.sz))=j by omega] at eE;obtain⟨v,e1,e2,bI⟩:=g4 j x eE;refine⟨v,?_,e2,bI⟩;rw[List.getElem?_append_right (by rw[dE];omega),dE,iS,List.getElem?_drop,Array.getElem?_toList];rw[show p*al.sz+vs.length+(j-(p*al.sz+vs.length))=j by omega];exact e1
end
section
variable {P:Program} {g:G} {s:S} {aH:gv} {a:Act} {w:World} {a6:Nat} {bG:je}
theorem agI (h:dg g s aH a w){x y:aF}{uH pv:Value}{t cN fA:TypeId}(aD:pT P s.E s.a5 a6 .append [x,y] [t,cN] .ev=some bG)(cW:∀p∈bG.gq,p)
 (aa:Rel w (s.ok g aH w) s.bg (s.bp aH) x uH) (aW:Rel w (s.ok g aH w) s.bg (s.bp aH) y pv) :
 ∃v bY,(Builtin.append_ #[t,cN] fA #[uH,pv]).run P w = .ok v bY/\dg g (s.jD bG.gW) aH a bY/\Rel bY ((s.jD bG.gW).ok g aH bY) (s.jD bG.gW).bg ((s.jD bG.gW).bp aH) bG.val v:=by
 simp only[pT] at aD;split at aD
 ·simp at aD
 ·rename_i e he
  have hu:=uW he;split at aD
  ·rename_i i z ad cH
   split at aD
   ·simp at aD
   ·rename_i aX
    simp only[not_or,Decidable.not_not] at aX;obtain⟨pq,lq,Dc⟩:=aX;split at aD
    ·simp at aD
    ·rename_i bM b4 uo
     split at aD
     ·rename_i r k len
      split at aD
      ·simp at aD
      ·rename_i row ep
       split at aD
       ·simp at aD
       ·rename_i al bx
        split at aD
        ·rename_i zJ
         obtain⟨pV,fM⟩:=zJ;simp only[dB] at aD;subst aD;have an:s.al r k=some al:=(by unfold S.al;rw[ep];exact bx);have jt:len+bM.length<=al.es.length:=cW _ (by simp);have Gz:bM.length*i.bytes<=140737488355328:=cW _ (by simp);obtain⟨fp,vs,mj,nx,hA,hlen,v1,v3,v4⟩:=TW (fA:=fA) h hu ad cH pq lq uo (fun p ah=>cW p (by simp[ah])) aW;rw[<- fM] at v1;have Wi : ∀x∈bM,x.length=al.sz:=fun x aa=>by rw[hlen x aa,fM]
         have i4:al.es.take len++bM=(al.es.take len++bM++al.es.drop (len+bM.length)).take (len+bM.length) :=
          (List.take_left' (by rw[dE,List.length_take];omega)).symm
         rcases aa.yO (jL an) with ⟨ah,-,rfl,rfl⟩|⟨b,M,hN,lZ,ah,rfl,ur,wv,ew,oc⟩
         ·have gk:=h.obj r k al an
          rw[ah] at gk;simp only[ku] at gk;rw[gk] at jt;have h0:bM.length=0:=(by simp at jt;exact List.length_eq_zero_iff.2 jt);have zK:bM=[]:=List.length_eq_zero_iff.1 h0;subst zK
          have m3:row.set k {al with es:=al.es.take 0++[]}=row:=by
           have h1:({al with es:=al.es.take 0++[]}:a3)=al:=(by cases al;simp only[] at gk;subst gk;rfl);rw[h1]
           have h2:row[k]? = some al:=by
            unfold ee at bx;simp only at bx;split at bx
            ·rename_i cw eN
             split at bx
             ·simp at bx
             ·simp at bx;rw[<- bx];exact eN
            ·simp at bx
           exact List.ext_getElem? fun j=>by
            rw[List.getElem?_set];split
            ·rename_i e;subst e;have:=(List.getElem?_eq_some_iff.1 h2).1;rw[dw this,h2]
            ·rfl
          refine⟨_,w,hA.zero h0 none 0 0 (dF _),?_⟩
          have eQ:s.setRow r row=s:=by
           have:(fun q=>if q=r then some row else s.a5 q)=s.a5:=by
            funext q;split
            ·rename_i e;rw[e,ep]
            ·rfl
           show ({s with a5:=_}:S)=s;rw[this]
          show dg g (s.setRow r (row.set k {al with es:=al.es.take 0++[]})) aH a w/\Rel w ((s.setRow r (row.set k {al with es:=al.es.take 0++[]})).ok g aH w) (s.setRow r (row.set k {al with es:=al.es.take 0++[]})).bg ((s.setRow r (row.set k {al with es:=al.es.take 0++[]})).bp aH) (.bb r k 0 0) (.slice none 0 0);rw[m3,eQ];exact⟨h,aa⟩
         ·obtain⟨cQ,oy,bc,cj,jm,sO,qG,wL⟩:=h.putAt ep an pV ah Wi v1 v3 v4 jt (len+bM.length) i4
          have hle:al.es.length<=lZ:=(by rw[dG] at ew;rw[<- ew] at jm;exact Nat.le_of_mul_le_mul_right jm (by omega));by_cases oA:lZ=0
          ·have h0:bM.length=0:=(by omega);have pr:len=0:=(by omega);subst pr;have zK:bM=[]:=List.length_eq_zero_iff.1 h0;subst zK;have N3:vs=[]:=List.length_eq_zero_iff.1 (by simpa using v1);subst N3;have hw:w.setRow b (cQ.toList.take (0*al.sz)++[]++cQ.toList.drop (0*al.sz+0)).toArray=w:=(by simp only[Nat.zero_mul,List.take_zero,List.nil_append,dG,List.drop_zero,Array.toArray_toList];exact setRow_self w b cQ oy (0,0) bc);simp only[List.length_nil] at qG wL;rw[hw] at qG wL;exact⟨_,w,hA.zero h0 hN 0 lZ (Nat.zero_le _),qG,wL _ _ aa⟩
          ·have GA:hN=some ⟨b,0,none⟩:=by
            rcases oc with c3|c3
            ·exact absurd c3 oA
            ·simpa using c3
           subst GA;by_cases h0:bM.length=0
           ·have zK:bM=[]:=List.length_eq_zero_iff.1 h0;subst zK;have N3:vs=[]:=List.length_eq_zero_iff.1 (by simpa using v1);subst N3;have hw:w.setRow b (cQ.toList.take (len*al.sz)++[]++cQ.toList.drop (len*al.sz+0)).toArray=w:=(by simp only[List.append_nil,Nat.add_zero,List.take_append_drop,Array.toArray_toList];exact setRow_self w b cQ oy (0,0) bc);simp only[List.length_nil] at qG wL;rw[hw] at qG wL;exact⟨_,w,hA.zero h0 _ len lZ ur,qG,wL _ _ aa⟩
           ·have ko:=hA.room (by omega) b len lZ cQ oy bc (by omega) (by rw[<- fM];exact sO) Gz;rw[<- fM] at ko;refine⟨_,_,ko,qG,?_⟩;have F4:(s.setRow r (row.set k {al with es:=al.es.take len++bM})).al r k=some {al with es:=al.es.take len++bM}:=(by rw[nk,dw rfl,Uq row k al _ bx (by simp[pV]),dw rfl]);show Rel _ ((s.setRow r (row.set k {al with es:=al.es.take len++bM})).ok g aH _) (s.setRow r (row.set k {al with es:=al.es.take len++bM})).bg ((s.setRow r (row.set k {al with es:=al.es.take len++bM})).bp aH) (.bb r k 0 (len+bM.length)) _;refine .bb (sz:=al.sz) (e4:=b) (m:=M) (Iw F4) ((jL F4).trans (by rw[ah])) (by omega) wv ⟨ew,.inr (by simp)⟩
        ·simp at aD
     ·simp at aD
  ·simp at aD
end
section
variable {P:Program} {g:G} {s:S} {aH:gv} {a:Act} {w:World} {a6:Nat} {bG:je}
theorem S8 {s:S}{r k:Nat}{row:List a3}{al:a3}(aj:s.a5 r=some row)(an:ee (some row) k=some al):s.setRow r (row.set k al)=s:=by
 have h2:row[k]? = some al:=by
  unfold ee at an;simp only at an;split at an
  ·rename_i cw eN
   split at an
   ·simp at an
   ·simp at an;rw[<- an];exact eN
  ·simp at an
 have U:row.set k al=row:=List.ext_getElem? fun j=>by
  rw[List.getElem?_set];split
  ·rename_i e;subst e;have:=(List.getElem?_eq_some_iff.1 h2).1;rw[dw this,h2]
  ·rfl
 rw[U]
 have:(fun q=>if q=r then some row else s.a5 q)=s.a5:=by
  funext q;split
  ·rename_i e;rw[e,aj]
  ·rfl
 show ({s with a5:=_}:S)=s;rw[this]
theorem ad1 {e:TypeId}{i:TypeInfo}{z:List aF}{fp:Value}(nx:fp.cells.size=i.size)(pq:z.length=i.size)(lq:i.size≠0)
 (xG : ∀(j:Nat) x,z[j]? = some x-> ∃v,fp.cells[j]? = some v/\lD v=true/\ ∀(w:World) (ok:Nat->Prop) (bg:kz) (bp:kr),Rel w ok bg bp x v) (m:Nat) :
 (Builtin.zeroCells fp.cells m).toList.length=m*i.size/\(∀u∈(Builtin.zeroCells fp.cells m).toList,u.oneCell'=true) /\
   ∀(j:Nat) x u,(List.replicate m z).flatten[j]? = some x->(Builtin.zeroCells fp.cells m).toList[j]? = some u-> ∀(w:World) (ok:Nat->Prop) (bg:kz) (bp:kr),Rel w ok bg bp x u:=by
 have nN : ∀(j:Nat) u,(Builtin.zeroCells fp.cells m).toList[j]? = some u->fp.cells[j % i.size]? = some u:=by intro j u pU;have av:=(List.getElem?_eq_some_iff.1 pU).1;rw[Array.length_toList,size_zeroCells,nx] at av;have et:j % i.size<fp.cells.size:=(by rw[nx];exact Nat.mod_lt _ (by omega));rw[Array.getElem?_toList,Builtin.zeroCells,Array.getElem?_map,nx,Array.getElem?_range] at pU;rw[dw av] at pU;simp only[Option.map_some,dB] at pU;rw[<- pU,Array.getElem?_eq_getElem et,getElem!_pos fp.cells _ et]
 refine⟨?_,?_,?_⟩
 ·rw[Array.length_toList,size_zeroCells,nx]
 ·intro u uu;obtain⟨j,av⟩:=List.getElem?_of_mem uu;have h1:=nN j u av;have et:j % i.size<z.length:=(by rw[pq];exact Nat.mod_lt _ (by omega));obtain⟨v,v1,v2,-⟩:=xG _ _ (dz et);rw[h1] at v1;obtain rfl:=dI v1;exact v2
 ·intro j x u aa pU
  rw[ru (sz:=i.size) (by omega) _ (fun fe nL=>by rw[List.mem_replicate] at nL;rw[nL.2,pq])] at aa;have h1:=nN j u pU
  cases a0:(List.replicate m z)[j / i.size]? with
  | none=>rw[a0] at aa;simp at aa
  | some fe =>
   have:=dH a0;rw[List.mem_replicate] at this;rw[a0,this.2] at aa;simp only[dA] at aa;obtain⟨v,v1,-,v3⟩:=xG _ _ aa;rw[h1] at v1;obtain rfl:=dI v1;exact v3
theorem afL (h:dg g s aH a w){r k len:Nat}{y:aF}{uH pv:Value}{t cN fA:TypeId}{db:gF}(aD:pT P s.E s.a5 a6 .copy [.bb r k 0 len,y] [t,cN] db=some bG)(cW:∀p∈bG.gq,p)
 (aa:Rel w (s.ok g aH w) s.bg (s.bp aH) (.bb r k 0 len) uH) (aW:Rel w (s.ok g aH w) s.bg (s.bp aH) y pv) :
 ∃n bY,(Builtin.copy_ #[t,cN] fA #[uH,pv]).run P w = .ok (goInt n) bY/\dg g (s.jD bG.gW) aH a bY/\bG.val = .n .i64 n:=by
 simp only[pT] at aD;split at aD
 ·simp at aD
 ·rename_i e he
  have hu:=uW he;split at aD
  ·simp at aD
  ·rename_i i ad
   split at aD
   ·simp at aD
   ·rename_i bM b4 uo
    split at aD
    ·simp at aD
    ·rename_i row ep
     split at aD
     ·simp at aD
     ·rename_i al bx
      split at aD
      ·rename_i zJ
       obtain⟨pV,fM,lq⟩:=zJ;simp only[dB] at aD;subst aD;have an:s.al r k=some al:=(by unfold S.al;rw[ep];exact bx);have jt:bM.length<=len:=cW _ (by simp);have hle:len<=al.es.length:=cW _ (by simp);obtain⟨A,c,rfl,hlen,N1⟩:=Ut h uo (fun p ah=>cW p (by simp[ah])) aW;show ∃n bY,_/\dg g (s.setRow r (row.set k {al with es:=bM++al.es.drop bM.length})) aH a bY/\_;by_cases h0:bM.length=0
       ·have zK:bM=[]:=List.length_eq_zero_iff.1 h0
        subst zK;refine⟨0,w,?_,?_,rfl⟩
        ·rcases aa.yO (jL an) with ⟨-,-,rfl,rfl⟩|⟨b,M,hN,lZ,-,rfl,-,-,-,-⟩
         ·cases A<;>simp[Builtin.copy_,run_underlying hu,sizeOf,typeInfo,ad,Builtin.lenOf,Builtin.firstCells,loadCells,loadCellsFrom]
         ·cases A<;>cases hN<;>simp[Builtin.copy_,run_underlying hu,sizeOf,typeInfo,ad,Builtin.lenOf,Builtin.firstCells,loadCells,loadCellsFrom,storeCells]
        ·rw[show ({al with es:=[]++al.es.drop ([]:List (List aF)).length}:a3)=al from rfl,S8 ep bx];exact h
       ·obtain⟨e4,off,rfl,jY⟩:=N1.resolve_left h0
        obtain⟨vs,v1,v2,v3,v4⟩:=jY.pQ;rw[<- fM] at v1;rcases aa.yO (jL an) with ⟨-,-,rfl,-⟩|⟨b,M,hN,lZ,ah,rfl,ur,wv,ew,oc⟩
        ·exact absurd (Nat.le_zero.1 jt) h0
        ·have GA:hN=some ⟨b,0,none⟩:=by
          rcases oc with c3|c3
          ·exact absurd (show bM.length=0 by omega) h0
          ·simpa using c3
         subst GA
         obtain⟨cQ,oy,bc,cj,jm,sO,qG,-⟩:=h.putAt (p:=0) ep an pV ah (fun x aa=>by rw[hlen x aa,fM]) v1 v3 v4 (by omega) al.es.length (hP:=bM++al.es.drop bM.length)
          (by rw[List.take_zero,List.nil_append,dG];exact(List.take_of_length_le (by simp;omega)).symm)
         simp only[Nat.zero_mul,dG,List.take_zero,List.nil_append] at sO qG;have aZ:=run_firstCells_some (P:=P) w i.size bM.length ⟨e4,off,none⟩ bM.length c vs (by rw[v1,fM]) v2;have oa:=run_storeCells_at P b 0 oy vs 0 cQ w bc (by simpa using sO) v3;simp only[Nat.add_zero,List.take_zero,List.nil_append,dG] at oa;refine⟨bM.length,_,?_,qG,rfl⟩;simp[Builtin.copy_,run_underlying hu,sizeOf,typeInfo,ad,Builtin.lenOf,Nat.min_eq_left jt,aZ,oa]
      ·simp at aD
theorem aeG (h:dg g s aH a w){r k len:Nat}{uH:Value}{t fA:TypeId}{db:gF}(aD:pT P s.E s.a5 a6 .clear [.bb r k 0 len] [t] db=some bG)(cW:∀p∈bG.gq,p)
 (aa:Rel w (s.ok g aH w) s.bg (s.bp aH) (.bb r k 0 len) uH) :
 ∃bY,(Builtin.clear_ #[t] fA #[uH]).run P w = .ok (.tuple #[]) bY/\dg g (s.jD bG.gW) aH a bY/\bG.val = .ea []:=by
 simp only[pT] at aD;split at aD
 ·simp at aD
 ·rename_i e he
  have hu:=uW he;split at aD
  ·rename_i i z ad cH
   split at aD
   ·simp at aD
   ·rename_i row ep
    split at aD
    ·simp at aD
    ·rename_i al bx
     split at aD
     ·rename_i zJ
      obtain⟨pV,fM,pq,lq⟩:=zJ;simp only[dB] at aD;subst aD;have an:s.al r k=some al:=(by unfold S.al;rw[ep];exact bx);have hle:al.es.length=len:=cW _ (by simp);show ∃bY,_/\dg g (s.setRow r (row.set k {al with es:=List.replicate len z})) aH a bY/\_;by_cases h0:len=0
      ·subst h0
       refine⟨w,?_,?_,rfl⟩
       ·rcases aa.yO (jL an) with ⟨-,-,-,rfl⟩|⟨b,M,hN,lZ,-,rfl,-,-,-,-⟩
        ·simp[Builtin.clear_,run_underlying hu]
        ·cases hN<;>simp[Builtin.clear_,run_underlying hu]
       ·rw[show ({al with es:=List.replicate 0 z}:a3)=al by rw[List.replicate_zero,<- List.length_eq_zero_iff.1 hle],S8 ep bx];exact h
      ·obtain⟨ft,fp,ml,mj,sN,xG⟩:=E8 cH
       rw[ad] at ml;simp at ml;subst ml;have nx:fp.cells.size=i.size:=(by rw[<- pq,sN];simp);rcases aa.yO (jL an) with ⟨-,-,rfl,-⟩|⟨b,M,hN,lZ,ah,rfl,ur,wv,ew,oc⟩
       ·exact absurd rfl h0
       ·have GA:hN=some ⟨b,0,none⟩:=by
         rcases oc with c3|c3
         ·exact absurd (show len=0 by omega) h0
         ·simpa using c3
        subst GA;obtain⟨v1,v3,v4⟩:=ad1 (e:=e) nx pq lq xG len;rw[<- fM] at v1
        obtain⟨cQ,oy,bc,cj,jm,sO,qG,-⟩:=h.putAt (p:=0) (bM:=List.replicate len z) ep an pV ah (fun x aa=>by rw[List.mem_replicate] at aa;rw[aa.2,pq,fM]) (by simpa using v1) v3 (fun j x u h1 h2=>v4 j x u h1 h2 _ _ _ _)
         (by simp;omega) len (hP:=List.replicate len z)
         (by simp[hle])
        simp only[Nat.zero_mul,dG,List.take_zero,List.nil_append] at sO qG;have oa:=run_storeCells_at P b 0 oy (Builtin.zeroCells fp.cells len).toList 0 cQ w bc (by simpa using sO) v3;simp only[Nat.add_zero,List.take_zero,List.nil_append,dG] at oa;refine⟨_,?_,qG,rfl⟩
        cases len with
        | zero=>exact absurd rfl h0
        | succ n=>simp[Builtin.clear_,run_underlying hu,zeroValue,typeInfo,ad,mj,oa]
     ·simp at aD
  ·simp at aD
end
section
variable {g:G} {s:S} {aH:gv} {a:Act} {w:World}
def nH (row:List a3):List a3:=row.map fun o=>if o.cT = .live then {o with cT:= .j3} else o
theorem Uu (row:List a3)(k:Nat):ee (some (nH row)) k=(ee (some row) k).map fun o=>if o.cT = .live then {o with cT:= .j3} else o:=by
 simp only[ee,nH,dJ]
 cases row[k]? with
 | none=>rfl
 | some o =>
  obtain⟨sz,es,cT⟩:=o;cases cT<;>simp
theorem dg.freeze (h:dg g s aH a w){r:Nat}{row:List a3}(aj:s.a5 r=some row):dg g (s.setRow r (nH row)) aH a w:=by
 have bx : ∀q k o,(s.setRow r (nH row)).al q k=some o-> ∃p,s.al q k=some p/\o.sz=p.sz/\o.es=p.es/\(o.cT = .live->p.cT = .live/\q≠r):=by
  intro q k o an;by_cases e:q=r
  ·subst e;have:(s.setRow q (nH row)).a5 q=some (nH row):=(by simp[S.setRow]);unfold S.al at an;rw[this,Uu] at an;rw[Option.map_eq_some_iff] at an;obtain⟨p,ah,rfl⟩:=an;refine⟨p,by unfold S.al;rw[aj];exact ah,?_⟩;split<;>simp_all
  ·have:(s.setRow r (nH row)).a5 q=s.a5 q:=(by simp[S.setRow,e]);unfold S.al at an;rw[this] at an;exact⟨o,an,rfl,rfl,fun aZ=>⟨aZ,e⟩⟩
 have kK : ∀q k,s.bg q k->(s.setRow r (nH row)).bg q k:=HW s aj (by simp[nH])
 have m5 : ∀q k,(s.setRow r (nH row)).bp aH q k=s.bp aH q k:=by
  intro q k;by_cases e:q=r
  ·subst e
   simp only[S.bp,S.al];have:(s.setRow q (nH row)).a5 q=some (nH row):=(by simp[S.setRow]);rw[this,Uu,aj]
   cases ee (some row) k with
   | none=>rfl
   | some o=>simp only[Option.map_some,dB,dD,and_true];split<;>rfl
  ·have:(s.setRow r (nH row)).a5 q=s.a5 q:=(by simp[S.setRow,e]);simp[S.bp,S.al,this]
 have da:Step g s aH w (s.setRow r (nH row)) aH w:=⟨kK,fun q k _=> .inl (m5 q k),fun b aZ=>by obtain⟨q,k,o,m,h1,h2,U⟩:=aZ;obtain⟨p,p1,p2,vt,Hg⟩:=bx q k o h1;exact .inl ⟨q,k,p,m,p1,(Hg h2).1,U⟩,fun _ _ _=>rfl,dF _⟩;refine {tojN:=⟨?_,?_,?_,h.ik,h.mlt,h.po,?_,h.low⟩,env:=fun t=>da.rel (h.env t),defers:=h.defers,k4:=h.k4}
 ·intro q k o an
  obtain⟨p,p1,p2,vt,-⟩:=bx q k o an;have ah:=da.obj (fun b m _=>rfl) (h.obj q k p p1)
  cases nB:aH q k with
  | none=>rw[nB] at ah;simp only[ku] at ah ⊢;rw[vt];exact ah
  | some x =>
   obtain⟨b,m⟩:=x;rw[nB] at ah;obtain⟨c,fA,e1,e2,bI,c1⟩:=ah;exact⟨c,fA,e1,e2,by rw[p2,vt];exact bI,by rw[vt];exact c1⟩
 ·intro q k o i7 eG cw b m aJ h1 h2 U ai;obtain⟨p,p1,-⟩:=bx q k o h1;obtain⟨lL,ajp,-⟩:=bx i7 eG cw h2;exact h.inj q k p i7 eG lL b m aJ p1 ajp U ai
 ·intro q k o b m h1 h2;obtain⟨p,p1,-⟩:=bx q k o h1;exact h.own q k p b m p1 h2
 ·intro j k av;obtain⟨e1,e2⟩:=h.stay j k av;exact⟨kK j k e1,by rw[m5];exact e2⟩
end
def CO (P:Program)(t:TypeId):Bool :=
 match P.underlying t with
 | some (.pointer _)=>true
 | _=>false
def Dj (P:Program)(E:Nat->aF)(a5:Nat->Option (List a3))(a6:Nat)(o:Oper)(db:gF):Option je :=
 match o.op with
 | .call {callee:= .builtin b,args,argTypes}=>match b with
  | .len=>fI P E a5 a6 o db
  | b=>pT P E a5 a6 b (args.toList.map (fG E)) argTypes.toList db
 | .binOp op t x y _=>match db,op,fG E x,fG E y with
  | .ev,.eql,.isl _ es,.fT=>if (sk P t).isSome then some {val:= .b false,gq:=[es≠[]]} else none
  | .ev,.neq,.isl _ es,.fT=>if (sk P t).isSome then some {val:= .b true,gq:=[es≠[]]} else none
  | .ev,.eql,.hh _ none,.jW=>if CO P t then some {val:= .b true} else none
  | .ev,.neq,.hh _ none,.jW=>if CO P t then some {val:= .b false} else none
  | .ev,.eql,.hh _ (some _),.jW=>if CO P t then some {val:= .b false} else none
  | .ev,.neq,.hh _ (some _),.jW=>if CO P t then some {val:= .b true} else none
  | .ev,_,_,_=>none
  | _,_,_,_=>fI P E a5 a6 o db
 | .nilCheck x=>match db,fG E x with
  | .ev,.hh sz (some c)=>some {val:= .fo sz [c] 0 0}
  | .ev,_=>none
  | _,_=>fI P E a5 a6 o db
 | _=>fI P E a5 a6 o db
section
variable {P:Program} {g:G} {s:S} {aH:gv} {a:Act} {w:World} {o:Oper} {db:gF} {a6:Nat} {bG:je}
theorem IP {args:Array Operand}{E:Nat->aF}{x y:aF}(h:args.toList.map (fG E)=[x,y]): ∃p q,args = #[p,q]/\fG E p=x/\fG E q=y:=by
 obtain⟨l⟩:=args
 match l,h with
 | [p,q],h=>simp at h;exact⟨p,q,rfl,h.1,h.2⟩
theorem agJ {args:Array Operand}{E:Nat->aF}{x:aF}(h:args.toList.map (fG E)=[x]): ∃p,args = #[p]/\fG E p=x:=by
 obtain⟨l⟩:=args
 match l,h with
 | [p],h=>simp at h;exact⟨p,rfl,h⟩
theorem Io {t:TypeId}(h:CO P t=true): ∃e,P.underlying t=some (.pointer e):=by
 unfold CO at h;split at h
 ·rename_i e he;exact⟨e,he⟩
 ·simp at h
theorem aeH (h:dg g s aH a w)(fN:s.a5 a6=none)(aD:Dj P s.E s.a5 a6 o db=some bG)(cW:∀p∈bG.gq,p):Fin P g s a w o bG:=by
 unfold Dj at aD;split at aD
 ·rename_i b args oS an
  split at aD
  ·exact Im h fN aD cW
  ·rename_i b aP
   unfold pT at aD;split at aD
   ·rename_i x y t cN m OX hargs ql;have zi:pT P s.E s.a5 a6 .append [x,y] [t,cN] (.ay m OX)=some bG:=aD;obtain⟨p,q,rfl,rfl,rfl⟩:=IP hargs;obtain⟨l⟩:=oS;simp only at ql;subst ql;obtain⟨v,bY,b0,h1,h2,U⟩:=ad0 (fA:=o.type) h fN zi cW (h.eval p) (h.eval q);exact⟨v,bY,b0,.inl (by simp[execOp,an,resolve,invoke,builtin,h1]),h2,U⟩
   ·rename_i x y t cN hargs ql;have zi:pT P s.E s.a5 a6 .append [x,y] [t,cN] .ev=some bG:=aD;obtain⟨p,q,rfl,rfl,rfl⟩:=IP hargs;obtain⟨l⟩:=oS;simp only at ql;subst ql;obtain⟨v,bY,h1,h2,U⟩:=agI (fA:=o.type) h zi cW (h.eval p) (h.eval q);exact⟨v,bY,aH,.inl (by simp[execOp,an,resolve,invoke,builtin,h1]),h2,U⟩
   ·rename_i db r k len y t cN hargs ql;have zi:pT P s.E s.a5 a6 .copy [.bb r k 0 len,y] [t,cN] db=some bG:=aD;obtain⟨p,q,rfl,ah,rfl⟩:=IP hargs;obtain⟨l⟩:=oS;simp only at ql;subst ql;have aa:=h.eval p;rw[ah] at aa;obtain⟨n,bY,h1,h2,U⟩:=afL (fA:=o.type) h zi cW aa (h.eval q);refine⟨goInt n,bY,aH,.inl (by simp[execOp,an,resolve,invoke,builtin,h1]),h2,?_⟩;rw[U];exact .n _ _
   ·rename_i db r k len t hargs ql;have zi:pT P s.E s.a5 a6 .clear [.bb r k 0 len] [t] db=some bG:=aD;obtain⟨p,rfl,ah⟩:=agJ hargs;obtain⟨l⟩:=oS;simp only at ql;subst ql;have aa:=h.eval p;rw[ah] at aa;obtain⟨bY,h1,h2,U⟩:=aeG (fA:=o.type) h zi cW aa;refine⟨.tuple #[],bY,aH,.inl (by simp[execOp,an,resolve,invoke,builtin,h1]),h2,?_⟩;rw[U];exact .ea [] rfl (fun j x u av=>by simp at av)
   ·rename_i k x eG y hargs
    split at aD
    ·rename_i a1;simp only[dB] at aD;subst aD;subst a1;obtain⟨p,q,rfl,ah,a0⟩:=IP hargs;have aa:=h.eval p;have aW:=h.eval q;rw[ah] at aa;rw[a0] at aW;refine jy (v:= .int k (if y<x then y else x)) h ?_ rfl (.n _ _);simp[execOp,an,resolve,invoke,builtin,Builtin.min_,aa.qh,aW.qh,Builtin.min2]
    ·simp at aD
   ·simp at aD
 ·rename_i op t x y cN an
  split at aD
  ·rename_i sz es aa aW
   split at aD
   ·rename_i he;obtain⟨e,he⟩:=Option.isSome_iff_exists.1 he;simp only[dB] at aD;subst aD;have h1:=h.eval x;have h2:=h.eval y;rw[aa] at h1;rw[aW] at h2;have dd:es≠[]:=cW _ (by simp);refine jy (v:= .bool false) h ?_ rfl (.b _);simp only[execOp,an];rw[Sem.run_bind,(VH (w:=w) (uW he) dd h1 h2 x y).1];rfl
   ·simp at aD
  ·rename_i sz es aa aW
   split at aD
   ·rename_i he;obtain⟨e,he⟩:=Option.isSome_iff_exists.1 he;simp only[dB] at aD;subst aD;have h1:=h.eval x;have h2:=h.eval y;rw[aa] at h1;rw[aW] at h2;have dd:es≠[]:=cW _ (by simp);refine jy (v:= .bool true) h ?_ rfl (.b _);simp only[execOp,an];rw[Sem.run_bind,(VH (w:=w) (uW he) dd h1 h2 x y).2];rfl
   ·simp at aD
  ·rename_i sz aa aW
   split at aD
   ·rename_i cq;obtain⟨e,he⟩:=Io cq;simp only[dB] at aD;subst aD;have h1:=h.eval x;have h2:=h.eval y;rw[aa] at h1;rw[aW] at h2;have tx:Rel w (s.ok g aH w) s.bg (s.bp aH) .jW (a.eval x):=(by rw[h1.Ur];exact .jW);refine jy (v:= .bool true) h ?_ rfl (.b _);simp only[execOp,an];rw[Sem.run_bind,(Cy (w:=w) (r:=true) (by simp[ve,he]) tx h2 x y).1];rfl
   ·simp at aD
  ·rename_i sz aa aW
   split at aD
   ·rename_i cq;obtain⟨e,he⟩:=Io cq;simp only[dB] at aD;subst aD;have h1:=h.eval x;have h2:=h.eval y;rw[aa] at h1;rw[aW] at h2;have tx:Rel w (s.ok g aH w) s.bg (s.bp aH) .jW (a.eval x):=(by rw[h1.Ur];exact .jW);refine jy (v:= .bool false) h ?_ rfl (.b _);simp only[execOp,an];rw[Sem.run_bind,(Cy (w:=w) (r:=true) (by simp[ve,he]) tx h2 x y).2];rfl
   ·simp at aD
  ·rename_i sz c aa aW
   split at aD
   ·rename_i cq;obtain⟨e,he⟩:=Io cq;simp only[dB] at aD;subst aD;have h1:=h.eval x;have h2:=h.eval y;rw[aa] at h1;rw[aW] at h2;refine jy (v:= .bool false) h ?_ rfl (.b _);simp only[execOp,an];rw[Sem.run_bind,(Cy (w:=w) (r:=false) (by simp[ve,he]) h1.Mw h2 x y).1];rfl
   ·simp at aD
  ·rename_i sz c aa aW
   split at aD
   ·rename_i cq;obtain⟨e,he⟩:=Io cq;simp only[dB] at aD;subst aD;have h1:=h.eval x;have h2:=h.eval y;rw[aa] at h1;rw[aW] at h2;refine jy (v:= .bool true) h ?_ rfl (.b _);simp only[execOp,an];rw[Sem.run_bind,(Cy (w:=w) (r:=false) (by simp[ve,he]) h1.Mw h2 x y).2];rfl
   ·simp at aD
  ·simp at aD
  ·exact Im h fN aD cW
 ·rename_i x an
  split at aD
  ·rename_i sz c aa;simp only[dB] at aD;subst aD;have h1:=h.eval x;rw[aa] at h1;have h2:=h1.Mw;obtain⟨e4,off,aP,hval,jY⟩:=h2.CF;refine jy (v:=a.eval x) h ?_ rfl h2;rw[hval];simp only[execOp,an,hval];rfl
  ·simp at aD
  ·exact Im h fN aD cW
 ·exact Im h fN aD cW
end
theorem vC {es:List (List aF)}{j:Nat}{x:aF}(h:es.flatten[j]? = some x): ∃e∈es,x∈e:=by have:=dH h;rw[List.mem_flatten] at this;obtain⟨e,he,aa⟩:=this;exact⟨e,he,aa⟩
theorem Rel.pure {w:World}{ok mi:Nat->Prop}{bg oP:kz}{bp n8:kr}{x:aF}{v:Value}(h:Rel w ok bg bp x v)(ah:Pure x)(oQ:∀b,ok b->mi b):Rel w mi oP n8 x v:=by
 induction h with
 | dead v=>exact .dead v
 | b x=>exact .b x
 | n k x=>exact .n k x
 | s x=>exact .s x
 | jW=>exact .jW
 | fT=>exact .fT
 | kg a c=>exact .kg a c
 | sb=>cases ah
 | ref=>cases ah
 | pc=>cases ah
 | pA=>cases ah
 | bb=>cases ah
 | oL=>cases ah
 | pO=>cases ah
 | lG sz a c h=>exact .lG sz a c h
 | isl cs aP mR aZ aX hw iS aj ih =>
  cases ah with
  | isl h=>exact .isl cs (oQ _ aP) mR aZ aX hw iS fun j x aa=>ih j x aa (by obtain⟨e,he,ty⟩:=vC aa;exact h e he x ty)
 | fo cs aP mR aZ hw iS aj ih =>
  cases ah with
  | fo h=>exact .fo cs (oQ _ aP) mR aZ hw iS fun j x aa=>ih j x aa (by obtain⟨e,he,ty⟩:=vC aa;exact h e he x ty)
 | rK sz=>exact .rK sz
 | q3 h ih =>
  cases ah with
  | q3 ah=>exact .q3 (ih (.fo fun e he x aa=>by rw[List.mem_singleton] at he;subst he;exact ah x aa))
 | agg vs aZ iS aj ih =>
  cases ah with
  | agg h=>exact .agg vs aZ iS fun j x v aa bf=>ih j x v aa bf (h x (dH aa))
 | ea vs aZ aj ih =>
  cases ah with
  | ea h=>exact .ea vs aZ fun j x v aa bf=>ih j x v aa bf (h x (dH aa))
 | fn vs aZ aj ih =>
  cases ah with
  | fn h=>exact .fn vs aZ fun j x v aa bf=>ih j x v aa bf (h x (dH aa))
abbrev ib:=Nat->Nat->Option (Nat×Nat)
structure Down (q:aF->Prop):Prop where
 agg : ∀c x,q (.agg c)->x∈c->q x
 ea : ∀c x,q (.ea c)->x∈c->q x
 fn : ∀f c x,q (.fn f c)->x∈c->q x
inductive jh (s:S) (a7:ib) (bO:hC->Bool) (q:aF->Prop):aF->aF->Prop
 | dead (x:aF):jh s a7 bO q x .dead
 | pure {x:aF} (h:Pure x) (a0:q x):jh s a7 bO q x x
 | fT (sz:Nat):jh s a7 bO q .fT (.isl sz [])
 | kg (sz:Nat):jh s a7 bO q .kg (.isl sz [])
 | Jm (sz:Nat):jh s a7 bO q .jW (.hh sz none)
 | hh {sz:Nat} {x:aF} {c:List aF} (h:jh s a7 bO q x (.fo sz [c] 0 0)):jh s a7 bO q x (.hh sz (some c))
 | ref {r k j ft:Nat} (i off:Nat) (h:a7 j ft=some (r,k)) (hu:s.bg r k):jh s a7 bO q (.ref r k i off) (.ref j ft i off)
 | bb {r k j ft:Nat} (b6 len:Nat) (h:a7 j ft=some (r,k)) (hu:s.bg r k):jh s a7 bO q (.bb r k b6 len) (.bb j ft b6 len)
 | oL (r c sz:Nat):jh s a7 bO q (.kh r c sz none) (.isl sz [])
 | pO {r c sz k n:Nat} {df:aF} (h:jh s a7 bO q (.bb r (k+c) 0 n) df):jh s a7 bO q (.kh r c sz (some (k,n))) df
 | kh {r fB c eC sz:Nat} (h:Option (Nat×Nat)) (hm : ∀k,a7 fB (k+eC)=some (r,k+c)):jh s a7 bO q (.kh r c sz h) (.kh fB eC sz h)
 | fo {r k:Nat} {o:a3} {hP:List (List aF)} (i off:Nat) (an:s.al r k=some o) (bF:bO o.cT=true) (aj:(∀j i,a7 j i≠some (r,k))) (dd:o.es≠[]) (ah:jj hP) (hle : ∀e∈hP,e.length=o.sz) (aZ:hP.length=o.es.length)
  (h : ∀(j:Nat) x df,o.es.flatten[j]? = some x->hP.flatten[j]? = some df->jh s a7 bO q x df):jh s a7 bO q (.ref r k i off) (.fo o.sz hP i off)
 | isl {r k b6 len:Nat} {o:a3} {hP:List (List aF)} (an:s.al r k=some o) (bF:bO o.cT=true) (aj:(∀j i,a7 j i≠some (r,k))) (jt:b6+len<=o.es.length) (ah:jj hP) (hle : ∀e∈hP,e.length=o.sz) (aZ:hP.length=len)
  (h : ∀(j:Nat) x df,((o.es.drop b6).take len).flatten[j]? = some x->hP.flatten[j]? = some df->jh s a7 bO q x df):jh s a7 bO q (.bb r k b6 len) (.isl o.sz hP)
 | agg {c eC:List aF} (aZ:eC.length=c.length) (h : ∀(j:Nat) x df,c[j]? = some x->eC[j]? = some df->jh s a7 bO q x df):jh s a7 bO q (.agg c) (.agg eC)
 | ea {c eC:List aF} (aZ:eC.length=c.length) (h : ∀(j:Nat) x df,c[j]? = some x->eC[j]? = some df->jh s a7 bO q x df):jh s a7 bO q (.ea c) (.ea eC)
 | fn {f:Nat} {c eC:List aF} (aZ:eC.length=c.length) (h : ∀(j:Nat) x df,c[j]? = some x->eC[j]? = some df->jh s a7 bO q x df):jh s a7 bO q (.fn f c) (.fn f eC)
theorem uQ {sz:Nat}: ∀(es:List (List aF)),(∀e∈es,e.length=sz)->es.flatten.length=es.length*sz
 | [],_=>by simp
 | e::es,h=>by rw[List.flatten_cons,dE,uQ es fun x aa=>h x (by simp[aa]),h e (by simp),List.length_cons,Nat.add_mul];omega
theorem gH {α:Type}{l:List α}{j:Nat}{x:α}(h:l[j]? = some x):j<l.length:=by
 rcases Nat.lt_or_ge j l.length with c3|c3
 ·exact c3
 ·rw[List.getElem?_eq_none c3] at h;simp at h
theorem jh.rel {g:G}{s:S}{aH:gv}{w:World}{a7:ib}{bO:hC->Bool}{q:aF->Prop}(ew:jN g s aH w){mi:Nat->Prop}{oP:kz}{n8:kr}
 (H1 : ∀x v,q x->Pure x->Rel w (s.ok g aH w) s.bg (s.bp aH) x v->Rel w mi oP n8 x v)
 (Kp : ∀r k o b m,s.al r k=some o->bO o.cT=true->(∀j i,a7 j i≠some (r,k))->aH r k=some (b,m)->mi b)
 (Hh : ∀j i r k,a7 j i=some (r,k)->s.bg r k->oP j i/\(n8 j i=s.bp aH r k\/n8 j i=none)) {x df:aF} (bL:jh s a7 bO q x df) :
 ∀ {v:Value},Rel w (s.ok g aH w) s.bg (s.bp aH) x v->Rel w mi oP n8 df v:=by
 induction bL with
 | dead x=>intro v _;exact .dead v
 | pure ah a0=>intro v aj;exact H1 _ v a0 ah aj
 | fT sz=>intro v aj;rw[aj.r8];exact .lG sz none 0 (fun _=>rfl)
 | kg sz=>intro v aj;obtain⟨a,c,rfl⟩:=aj.IL;exact .lG sz (some a) c (fun h=>by simp at h)
 | Jm sz=>intro v aj;rw[aj.yN];exact .rK sz
 | hh h ih=>intro v aj;exact .q3 (ih aj)
 | @ref r k j ft i off av hu =>
  intro v aj;obtain⟨h1,h2⟩:=Hh j ft r k av hu
  cases aj with
  | sb a qt aY =>
   refine .sb a h1 fun sz p=> ?_;rcases h2 with e|e<;>rw[e]
   ·exact aY sz p
   ·simp
  | ref qt cq =>
   rcases h2 with e|e
   ·exact .ref h1 (e.trans cq)
   ·exact .sb _ h1 fun sz p=>by rw[e];simp
 | @bb r k j ft b6 len av hu =>
  intro v aj;obtain⟨h1,h2⟩:=Hh j ft r k av hu
  cases aj with
  | pc a l c qt aY =>
   refine .pc a l c h1 ?_;rcases h2 with e|e<;>rw[e];exact aY
  | pA qt cq =>
   rcases h2 with e|e
   ·exact .pA h1 (e.trans cq)
   ·exact .pc _ _ _ h1 e
  | bb qt cq aZ aX hm =>
   rcases h2 with e|e
   ·exact .bb h1 (e.trans cq) aZ aX hm
   ·exact .pc _ _ _ h1 e
 | oL r c sz =>
  intro v aj
  cases aj with
  | oL h0 =>
   rcases h0.vQ with ⟨-,a,c,rfl,bF⟩|⟨e4,off,c,-,rfl,-⟩
   ·exact .lG sz a c bF
   ·exact .lG sz _ c (fun h=>by simp at h)
 | pO h ih =>
  intro v aj
  cases aj with
  | pO h0=>exact ih h0
 | @kh r fB c eC sz h hm =>
  intro v aj
  cases aj with
  | oL h0 =>
   rcases h0.vQ with ⟨-,a,c,rfl,bF⟩|⟨e4,off,c,-,rfl,-⟩
   ·exact .oL (.lG sz a c bF)
   ·exact .oL (.lG sz _ c (fun h=>by simp at h))
  | @pO _ _ _ k n _ h0 =>
   refine .pO ?_
   cases h0 with
   | pc a l bc qt aY =>
    obtain⟨h1,h2⟩:=Hh _ _ _ _ (hm k) qt;refine .pc a l bc h1 ?_;rcases h2 with e|e<;>rw[e];exact aY
   | pA qt cq =>
    obtain⟨h1,h2⟩:=Hh _ _ _ _ (hm k) qt;rcases h2 with e|e
    ·exact .pA h1 (e.trans cq)
    ·exact .pc _ _ _ h1 e
   | bb qt cq aZ aX oc =>
    obtain⟨h1,h2⟩:=Hh _ _ _ _ (hm k) qt;rcases h2 with e|e
    ·exact .bb h1 (e.trans cq) aZ aX oc
    ·exact .pc _ _ _ h1 e
 | @fo r k o hP i off an bF aj dd N4 hle aZ h ih =>
  intro v bf;have gk:=ew.obj r k o an;rcases bf.yW (jL an) with h0|⟨b,m,ah,hval⟩
  ·rw[h0] at gk;exact absurd gk dd
  ·rw[ah] at gk;have jY:=gk.rd;rw[hval];have k5:hP.flatten.length=o.es.flatten.length:=(by rw[uQ hP hle,uQ o.es jY.1,aZ]);have zy:qF w mi oP n8 b 0 o.sz hP:=(by refine⟨hle,fun j df eE=> ?_⟩;have et:j<o.es.flatten.length:=(by rw[<- k5];exact gH eE);have aa:o.es.flatten[j]? = some o.es.flatten[j]:=dz et;obtain⟨u,e1,e2,bI⟩:=jY.2 j _ aa;exact⟨u,e1,e2,ih j _ df aa eE bI⟩);have:=zy.fo (i:=i) (off:=off) ⟨Kp r k o b m an bF aj ah,N4⟩;rw[dG] at this;exact this
 | @isl r k b6 len o hP an bF aj jt N4 hle aZ h ih =>
  intro v bf;have gk:=ew.obj r k o an;rcases bf.Ft (jL an) with ⟨ah,rfl,rfl,hval⟩|⟨b,m,A,c,ah,hval,ur,wv,hm⟩
  ·have:hP=[]:=List.length_eq_zero_iff.1 aZ;subst this;rw[hval];exact .lG _ none 0 (fun _=>rfl)
  ·rw[ah] at gk
   rw[hval];rcases Nat.eq_zero_or_pos len with h0|lq
   ·subst h0;have:hP=[]:=List.length_eq_zero_iff.1 aZ;subst this;exact .lG _ A c (fun aY=>by rcases hm with h1|⟨h1,-⟩<;>simp_all)
   ·rcases hm with hm|⟨hA,hm⟩
    ·omega
    ·subst hA;have jY:=HX gk.rd b6 len (by omega);rw[dG] at jY;have k5:hP.flatten.length=((o.es.drop b6).take len).flatten.length:=(by rw[uQ hP hle,uQ _ jY.1,aZ,List.length_take,List.length_drop,Nat.min_eq_left (by omega)]);have zy:qF w mi oP n8 b (b6*o.sz) o.sz hP:=(by refine⟨hle,fun j df eE=> ?_⟩;have et:j<((o.es.drop b6).take len).flatten.length:=(by rw[<- k5];exact gH eE);have aa:=dz et;obtain⟨u,e1,e2,bI⟩:=jY.2 j _ aa;exact⟨u,e1,e2,ih j _ df aa eE bI⟩);have:=zy.isl (c:=c) ⟨Kp r k o b m an bF aj ah,N4⟩ (by omega);rw[aZ] at this;exact this
 | @agg c eC aZ h ih =>
  intro v bf;obtain⟨vs,rfl,h1,h2,U⟩:=bf.CD;refine .agg vs (by omega) h2 fun j df u eE hu=> ?_;have et:j<c.length:=(by have:=gH eE;omega);exact ih j _ df (dz et) eE (U j _ u (dz et) hu)
 | @ea c eC aZ h ih =>
  intro v bf;obtain⟨vs,rfl,h1,U⟩:=bf.CE;refine .ea vs (by omega) fun j df u eE hu=> ?_;have et:j<c.length:=(by have:=gH eE;omega);exact ih j _ df (dz et) eE (U j _ u (dz et) hu)
 | @fn f c eC aZ h ih =>
  intro v bf;obtain⟨vs,rfl,h1,U⟩:=bf.Jb;refine .fn vs (by omega) fun j df u eE hu=> ?_;have et:j<c.length:=(by have:=gH eE;omega);exact ih j _ df (dz et) eE (U j _ u (dz et) hu)
structure qu (s:S) (a7:ib) (bO:hC->Bool) (q:aF->Prop) (o cw:a3):Prop where
 sz:cw.sz=o.sz
 cT:cw.cT=o.cT\/(cw.cT = .j3/\o.cT = .live)\/cw.cT = .gone
 len:cw.es.length=o.es.length
 each : ∀e∈cw.es,e.length=o.sz
 at_ : ∀(j:Nat) x df,o.es.flatten[j]? = some x->cw.es.flatten[j]? = some df->jh s a7 bO q x df
structure sA (s:S) (a7:ib) (bO:hC->Bool) (q:aF->Prop) (iU:Nat->Option (List a3)):Prop where
 inj : ∀j i jv ft p,a7 j i=some p->a7 jv ft=some p->j=jv/\i=ft
 at_ : ∀j i cw,ee (iU j) i=some cw-> ∃r k o,a7 j i=some (r,k)/\s.al r k=some o/\qu s a7 bO q o cw
 bg : ∀j i r k,a7 j i=some (r,k)->s.bg r k->i<((iU j).getD []).length
def k6 (aH:gv)(a7:ib):gv:=fun j i=>match a7 j i with
 | some (r,k)=>aH r k
 | none=>none
theorem CP {aH:gv}{a7:ib}{j i r k:Nat}(h:a7 j i=some (r,k)):k6 aH a7 j i=aH r k:=by simp[k6,h]
def nO (_:aF):Prop:=True
theorem ah9:Down nO:=⟨fun _ _ _ _=>trivial,fun _ _ _ _=>trivial,fun _ _ _ _ _=>trivial⟩
section
variable {g:G} {s:S} {aH:gv} {w:World} {a7:ib} {bO:hC->Bool} {q:aF->Prop} {b5:S}
theorem sA.al (h:sA s a7 bO q b5.a5){j i:Nat}{cw:a3}(an:b5.al j i=some cw): ∃r k o,a7 j i=some (r,k)/\s.al r k=some o/\qu s a7 bO q o cw:=h.at_ j i cw an
theorem U9 {o cw:a3}(h:qu s a7 bO q o cw)(aZ:cw.cT = .live):o.cT = .live:=by
 rcases h.cT with e|⟨e,-⟩|e
 ·exact e.symm.trans aZ
 ·rw[e] at aZ;simp at aZ
 ·rw[e] at aZ;simp at aZ
theorem sA.live (h:sA s a7 bO q b5.a5)(b:Nat)(aZ:b5.nG (k6 aH a7) b): ∃r k o m,s.al r k=some o/\o.cT = .live/\aH r k=some (b,m)/\ ∃j i,a7 j i=some (r,k):=by obtain⟨j,i,cw,m,h1,h2,U⟩:=aZ;obtain⟨r,k,o,e1,e2,bI⟩:=h.al h1;rw[CP e1] at U;exact⟨r,k,o,m,e2,U9 bI h2,U,j,i,e1⟩
theorem sA.JW (h:sA s a7 bO q b5.a5){j i r k:Nat}(av:a7 j i=some (r,k)):b5.bp (k6 aH a7) j i=s.bp aH r k\/b5.bp (k6 aH a7) j i=none:=by
 cases an:b5.al j i with
 | none=>right;simp[S.bp,an]
 | some cw =>
  obtain⟨fB,eG,o,e1,e2,bI⟩:=h.al an;rw[av] at e1;simp only[dB,dD] at e1;obtain⟨rfl,rfl⟩:=e1;left;rw[jL an,jL e2,bI.sz,CP av]
theorem jN.OY (ew:jN g s aH w)(h:sA s a7 bO q b5.a5){hj:G}(a1:F2 hj w)(FM:∀j k,hj.ra j k->b5.bg j k/\(b5.bp (k6 aH a7) j k=hj.uq j k\/b5.bp (k6 aH a7) j k=none))(zA:∀j k,hj.ra j k->j<hj.m)
 (aiJ : ∀b,hj.rS b->b<hj.oG.heap.size) (halt : ∀b,hj.A b->b<hj.oG.heap.size)
 (NF : ∀r k o b m,(∃j i,a7 j i=some (r,k))->s.al r k=some o->aH r k=some (b,m)->hj.oG.heap.size<=b\/hj.rS b)
 (H1 : ∀b,s.ok g aH w b->b5.ok hj (k6 aH a7) w b)
 (Kp : ∀r k o b m,s.al r k=some o->bO o.cT=true->(∀j i,a7 j i≠some (r,k))->aH r k=some (b,m)->b5.ok hj (k6 aH a7) w b) :
 jN hj b5 (k6 aH a7) w/\ ∀ {x df:aF} {v:Value},jh s a7 bO q x df->Rel w (s.ok g aH w) s.bg (s.bp aH) x v->Rel w (b5.ok hj (k6 aH a7) w) b5.bg (b5.bp (k6 aH a7)) df v:=by
 have gk : ∀ {x df:aF} {v:Value},jh s a7 bO q x df->Rel w (s.ok g aH w) s.bg (s.bp aH) x v->Rel w (b5.ok hj (k6 aH a7) w) b5.bg (b5.bp (k6 aH a7)) df v :=
  fun bL aj=>bL.rel ew (fun x v _ ah aj=>aj.pure ah H1) Kp (fun j i r k av hu=>⟨h.bg j i r k av hu,h.JW av⟩) aj
 refine⟨⟨?_,?_,?_,a1,aiJ,halt,FM,zA⟩,gk⟩
 ·intro j k cw eN
  obtain⟨r,eG,o,e1,e2,bI⟩:=h.al eN;have bx:=ew.obj r eG o e2;rw[CP e1]
  cases ah:aH r eG with
  | none =>
   rw[ah] at bx;simp only[ku] at bx ⊢;apply List.length_eq_zero_iff.1;rw[bI.len,bx];rfl
  | some q =>
   obtain⟨b,m⟩:=q;rw[ah] at bx;obtain⟨c,fA,h1,h2,U,ai⟩:=bx;have k5:cw.es.flatten.length=o.es.flatten.length:=(by rw[uQ _ bI.each,uQ _ U,bI.len]);refine⟨c,fA,h1,h2,by rw[bI.sz];exact bI.each,fun i df eE=> ?_⟩;have et:i<o.es.flatten.length:=(by rw[<- k5];exact gH eE);have aa:=dz et;obtain⟨u,f1,f2,f3⟩:=ai i _ aa;exact⟨u,f1,f2,gk (bI.at_ i _ df aa eE) f3⟩
 ·intro j k o jv eG cw b m aJ h1 h2 U ai;obtain⟨r,lO,p,e1,e2,-⟩:=h.al h1;obtain⟨fB,ajq,lL,oV,rO,-⟩:=h.al h2;rw[CP e1] at U;rw[CP oV] at ai;obtain⟨rfl,rfl⟩:=ew.inj r lO p fB ajq lL b m aJ e2 rO U ai;exact h.inj _ _ _ _ _ e1 oV
 ·intro j k o b m h1 h2;obtain⟨r,lO,p,e1,e2,-⟩:=h.al h1;rw[CP e1] at h2;exact NF r lO p b m ⟨j,k,e1⟩ e2 h2
theorem dg.Va {a:Act}(h:dg g s aH a w)(du:sA s a7 (fun _=>true) q b5.a5)(eQ:∀t,jh s a7 (fun _=>true) q (s.E t) (b5.E t))(Gd:∀j k,g.ra j k->a7 j k=some (j,k)):dg g b5 (k6 aH a7) a w:=by
 have hO : ∀b,b5.nG (k6 aH a7) b->s.nG aH b:=fun b aZ=>by obtain⟨r,k,o,m,h1,h2,U,-⟩:=du.live b aZ;exact⟨r,k,o,m,h1,h2,U⟩
 have FM : ∀j k,g.ra j k->b5.bg j k/\(b5.bp (k6 aH a7) j k=g.uq j k\/b5.bp (k6 aH a7) j k=none):=by
  intro j k av;obtain⟨e1,e2⟩:=h.stay j k av;refine⟨du.bg j k j k (Gd j k av) e1,?_⟩;rcases du.JW (aH:=aH) (Gd j k av) with e|e
  ·rw[e];exact e2
  ·exact .inr e
 obtain⟨h1,h2⟩:=h.tojN.OY du h.ik FM h.low h.mlt h.po (fun r k o b m _ an ah=>h.own r k o b m an ah)
  (fun b aP=>⟨aP.1,aP.2.1,fun aZ=>aP.2.2 (hO b aZ)⟩)
  (fun r k o b m an _ aj ah=>by
    have bx:=h.obj r k o an;rw[ah] at bx;obtain⟨c,fA,e1,-⟩:=bx;refine⟨(Array.getElem?_eq_some_iff.1 e1).1,?_,fun aZ=> ?_⟩
    ·rcases h.own r k o b m an ah with e|e
     ·exact .inr (.inl e)
     ·exact .inr (.inr e)
    ·obtain⟨fB,eG,cw,aJ,f1,f2,f3,⟨Ab,Hi,f4⟩⟩:=du.live b aZ;obtain⟨rfl,rfl⟩:=h.inj r k o fB eG cw b m aJ an f1 ah f3;exact aj Ab Hi f4)
 exact {tojN:=h1,env:=fun t=>h2 (eQ t) (h.env t),defers:=h.defers,k4:=h.k4}
end
def fS (T:List (List a3)):S:={E:=fun _=> .dead,a5:=fun r=>T[r]?}
def aia (P:Program)(f:FuncId)(args:List aF)(T:List (List a3))(r:aF)(im:List (List a3)):Prop :=
 ∀(g:G) (aH:gv) (w:World) (vs:Array Value),g.oG=w->g.m=T.length->g.ra=(fS T).bg->g.uq=(fS T).bp aH->jN g (fS T) aH w->vs.size=args.length ->
  (∀(j:Nat) x v,args[j]? = some x->vs[j]? = some v->Rel w ((fS T).ok g aH w) (fS T).bg ((fS T).bp aH) x v) ->
  Calls P f vs w fun e bY=> ∃v b0,e = .returned v/\jN g (fS im) b0 bY/\Rel bY ((fS im).ok g b0 bY) (fS im).bg ((fS im).bp b0) r v
inductive bW:aF->Prop
 | dead:bW .dead
 | b (x:Bool):bW (.b x)
 | n (k:IntKind) (x:Int):bW (.n k x)
 | s (x:ByteArray):bW (.s x)
 | jW:bW .jW
 | fT:bW .fT
 | kg:bW .kg
 | lG (sz:Nat):bW (.isl sz [])
 | ref (r k i off:Nat):bW (.ref r k i off)
 | bb (r k b6 len:Nat):bW (.bb r k b6 len)
 | kh (r c sz:Nat) (h:Option (Nat×Nat)):bW (.kh r c sz h)
 | agg {c:List aF} (h : ∀x∈c,bW x):bW (.agg c)
 | ea {c:List aF} (h : ∀x∈c,bW x):bW (.ea c)
theorem aib:Down bW:=⟨fun _ _ h aa=>by cases h with|agg h=>exact h _ aa,fun _ _ h aa=>by cases h with|ea h=>exact h _ aa,fun _ _ _ h=>by cases h⟩
theorem Rel.eJ {w bY:World}{ok mi:Nat->Prop}{bg oP:kz}{bp n8:kr}{x:aF}(bL:bW x): ∀ {v:Value},Pure x->Rel w ok bg bp x v->Rel bY mi oP n8 x v:=by
 induction bL with
 | dead=>intro v _ h;exact .dead v
 | b x=>intro v _ h;rw[h.xl];exact .b x
 | n k x=>intro v _ h;rw[h.qh];exact .n k x
 | s x=>intro v _ h;rw[h.CX];exact .s x
 | jW=>intro v _ h;rw[h.yN];exact .jW
 | fT=>intro v _ h;rw[h.r8];exact .fT
 | kg=>intro v _ h;obtain⟨a,c,rfl⟩:=h.IL;exact .kg a c
 | lG sz =>
  intro v _ h;rcases h.vQ with ⟨-,a,c,rfl,bF⟩|⟨e4,off,c,-,rfl,-⟩
  ·exact .lG sz a c bF
  ·exact .lG sz _ c (fun h=>by simp at h)
 | ref=>intro v ah;cases ah
 | bb=>intro v ah;cases ah
 | kh=>intro v ah;cases ah
 | @agg c aX ih =>
  intro v ah h;obtain⟨vs,rfl,h1,h2,U⟩:=h.CD
  cases ah with
  | agg ah=>exact .agg vs h1 h2 fun j x u aa hu=>ih x (dH aa) (ah x (dH aa)) (U j x u aa hu)
 | @ea c aX ih =>
  intro v ah h;obtain⟨vs,rfl,h1,U⟩:=h.CE
  cases ah with
  | ea ah=>exact .ea vs h1 fun j x u aa hu=>ih x (dH aa) (ah x (dH aa)) (U j x u aa hu)
section
variable {P:Program} {g:G} {s:S} {aH:gv} {a:Act} {w:World}
theorem FA (h:jN g s aH w){r k b m:Nat}{o:a3}(an:s.al r k=some o)(ah:aH r k=some (b,m)):b<w.heap.size:=by have:=h.obj r k o an;rw[ah] at this;obtain⟨c,fA,e,-⟩:=this;exact(Array.getElem?_eq_some_iff.1 e).1
theorem ahq (h:jN g s aH w){r k b m:Nat}{o:a3}(an:s.al r k=some o)(a1:o.cT = .j3)(ah:aH r k=some (b,m)):s.ok g aH w b:=by
 refine⟨FA h an ah,?_,?_⟩
 ·rcases h.own r k o b m an ah with e|e
  ·exact .inr (.inl e)
  ·exact .inr (.inr e)
 ·rintro⟨fB,eG,cw,aJ,h1,h2,U⟩;obtain⟨rfl,rfl⟩:=h.inj r k o fB eG cw b m aJ an h1 ah U;rw[an] at h1;simp at h1;subst h1;rw[a1] at h2;simp at h2
theorem enter (h:jN g s aH w){a7:ib}{bO:hC->Bool}{q:aF->Prop}{T:List (List a3)}(A:Nat->Prop)
 (hA : ∀b,A b->b<w.heap.size) (N5 : ∀b,s.ok g aH w b->A b)
 (N6 : ∀r k o b m,s.al r k=some o->bO o.cT=true->aH r k=some (b,m)->A b)
 (du:sA s a7 bO q (fS T).a5) (sj : ∀r k o,(∃j i,a7 j i=some (r,k))->s.al r k=some o->o.cT = .live) :
 ∃hj:G,hj.oG=w/\hj.A=A/\hj.m=T.length/\hj.ra=(fS T).bg/\hj.uq=(fS T).bp (k6 aH a7) /\
  (hj.rS=fun b=> ∃r k o m,(∃j i,a7 j i=some (r,k))/\s.al r k=some o/\aH r k=some (b,m))/\jN hj (fS T) (k6 aH a7) w /\
  ∀ {x df:aF} {v:Value},jh s a7 bO q x df->Rel w (s.ok g aH w) s.bg (s.bp aH) x v->Rel w ((fS T).ok hj (k6 aH a7) w) (fS T).bg ((fS T).bp (k6 aH a7)) df v:=by
 let hj:G:={oG:=w,A:=A,rS:=fun b=> ∃r k o m,(∃j i,a7 j i=some (r,k))/\s.al r k=some o/\aH r k=some (b,m),N:=0,m:=T.length,ra:=(fS T).bg,uq:=(fS T).bp (k6 aH a7)}
 refine⟨hj,rfl,rfl,rfl,rfl,rfl,rfl,?_⟩;have hO : ∀b,(fS T).nG (k6 aH a7) b-> ∃r k o m,s.al r k=some o/\o.cT = .live/\aH r k=some (b,m)/\ ∃j i,a7 j i=some (r,k):=fun b aZ=>du.live b aZ;refine jN.OY (b5:=fS T) (hj:=hj) h du ⟨rfl,rfl,rfl,dF _,fun _ _ _=>rfl⟩ (fun j k av=>⟨av,.inl rfl⟩) ?_ ?_ hA ?_ ?_ ?_
 ·intro j k av
  have av:k<((T[j]?).getD []).length:=av;rcases Nat.lt_or_ge j T.length with h1|h1
  ·exact h1
  ·rw[List.getElem?_eq_none h1] at av;simp at av
 ·rintro b ⟨r,k,o,m,-,an,ah⟩;exact FA h an ah
 ·intro r k o b m hm an ah;exact .inr ⟨r,k,o,m,hm,an,ah⟩
 ·intro b aP;refine⟨aP.1,.inl (N5 b aP),fun aZ=> ?_⟩;obtain⟨r,k,o,m,h1,h2,U,-⟩:=hO b aZ;exact aP.2.2 ⟨r,k,o,m,h1,h2,U⟩
 ·intro r k o b m an bF aj ah;refine⟨FA h an ah,.inl (N6 r k o b m an bF ah),fun aZ=> ?_⟩;obtain⟨fB,eG,cw,aJ,h1,h2,U,⟨j,i,av⟩⟩:=hO b aZ;obtain⟨rfl,rfl⟩:=h.inj r k o fB eG cw b m aJ an h1 ah U;exact aj j i av
theorem leave (h:dg g s aH a w){bY:World}{a7 mv:ib}{bO:hC->Bool}{q0 q:aF->Prop}{hj:G}{T fC:List (List a3)}{mH:gv}
 (dn:hj.oG=w) (hA:(∀b,hj.A b->s.ok g aH w b)\/(∀x,q x->bW x)) (zL:hj.ra=(fS T).bg) (m5:hj.uq=(fS T).bp (k6 aH a7))
 (ew:hj.rS=fun b=> ∃r k o m,(∃j i,a7 j i=some (r,k))/\s.al r k=some o/\aH r k=some (b,m))
 (sj : ∀r k o,(∃j i,a7 j i=some (r,k))->s.al r k=some o->o.cT = .live)
 (du:sA s a7 bO q0 (fS T).a5) (h1:jN hj (fS fC) mH bY)
 (FN : ∀j i r k,a7 j i=some (r,k)->mv r k=some (j,i)) (Jx : ∀r k j i,mv r k=some (j,i)->a7 j i=some (r,k)\/ ¬s.bg r k)
 (aiK : ∀r k fB eG p,mv r k=some p->mv fB eG=some p->r=fB/\k=eG)
 {s2:S} (eQ:s2.E=s.E)
 (bx : ∀r k o,s2.al r k=some o->(∃j i p,mv r k=some (j,i)/\(fS fC).al j i=some p/\qu (fS fC) mv (fun _=>false) q p o)\/(mv r k=none/\s.al r k=some o))
 (kK : ∀r k,s.bg r k->s2.bg r k) (aiL : ∀r k j i,mv r k=some (j,i)->(fS fC).bg j i->s2.bg r k)
 {x df:aF} {v:Value} (aa:jh (fS fC) mv (fun _=>false) q x df) (bf:Rel bY ((fS fC).ok hj mH bY) (fS fC).bg ((fS fC).bp mH) x v) :
 ∃ng,dg g s2 ng a bY/\Rel bY (s2.ok g ng bY) s2.bg (s2.bp ng) df v:=by
 let ng:gv:=fun r k=>match mv r k with|some (j,i)=>mH j i|none=>aH r k
 have p1 : ∀r k j i,mv r k=some (j,i)->ng r k=mH j i:=fun r k j i e=>by simp[ng,e]
 have p2 : ∀r k,mv r k=none->ng r k=aH r k:=fun r k e=>by simp[ng,e]
 have a1:=h1.ik;have fM:w.heap.size<=bY.heap.size:=by have:=a1.size;rw[dn] at this;exact this
 have wi : ∀b,b<w.heap.size-> ¬hj.rS b->bY.heap[b]? = w.heap[b]? := fun b aP ls=>by have:=a1.block b (by rw[dn];exact aP) ls;rw[dn] at this;exact this
 have JX : ∀j k p b m,(fS fC).al j k=some p->mH j k=some (b,m)->w.heap.size<=b\/ ∃r eG o aJ,(∃j i,a7 j i=some (r,eG))/\s.al r eG=some o/\aH r eG=some (b,aJ):=by
  intro j k p b m ah aP;rcases h1.own j k p b m ah aP with e|e
  ·rw[dn] at e;exact .inl e
  ·rw[ew] at e;exact .inr e
 have hold : ∀q k o b m,mv q k=none->s.al q k=some o->aH q k=some (b,m)->b<w.heap.size/\ ¬hj.rS b:=by intro q k o b m a0 an ah;refine⟨FA h.tojN an ah,fun ls=> ?_⟩;rw[ew] at ls;obtain⟨r,eG,cw,aJ,⟨j,i,aj⟩,eN,mR⟩:=ls;obtain⟨rfl,rfl⟩:=h.inj q k o r eG cw b m aJ an eN ah mR;rw[FN _ _ _ _ aj] at a0;simp at a0
 have VJ : ∀b,s2.nG ng b->(fS fC).nG mH b\/(∃q k o m,mv q k=none/\s.al q k=some o/\o.cT = .live/\aH q k=some (b,m)):=by
  rintro b ⟨q,k,o,m,an,pV,ah⟩;rcases bx q k o an with ⟨j,i,p,e1,e2,bI⟩|⟨e1,e2⟩
  ·rw[p1 _ _ _ _ e1] at ah;exact .inl ⟨j,i,p,m,e2,U9 bI pV,ah⟩
  ·rw[p2 _ _ e1] at ah;exact .inr ⟨q,k,o,m,e1,e2,pV,ah⟩
 have oQ : ∀b,s.ok g aH w b->s2.ok g ng bY b:=by
  intro b aP;refine⟨Nat.lt_of_lt_of_le aP.1 fM,aP.2.1,fun aZ=> ?_⟩;rcases VJ b aZ with ⟨j,k,p,m,e1,e2,bI⟩|⟨q,k,o,m,e1,e2,bI,c1⟩
  ·rcases JX j k p b m e1 bI with e|⟨r,eG,o,aJ,aj,an,ah⟩
   ·have:=aP.1;omega
   ·exact aP.2.2 ⟨r,eG,o,aJ,an,sj r eG o aj an,ah⟩
  ·exact aP.2.2 ⟨q,k,o,m,e2,bI,c1⟩
 have WH : ∀r k,s.bg r k->s2.bp ng r k=s.bp aH r k\/s2.bp ng r k=none:=by
  intro r k aj
  cases an:s2.al r k with
  | none=>right;simp[S.bp,an]
  | some o =>
   left;rcases bx r k o an with ⟨j,i,p,e1,e2,bI⟩|⟨e1,e2⟩
   ·rcases Jx r k j i e1 with av|av
    ·have oa:=(h1.stay j i (by rw[zL];exact du.bg _ _ _ _ av aj)).2
     rw[m5,jL e2] at oa
     have oa:some (p.sz,mH j i)=(fS T).bp (k6 aH a7) j i:=by
      rcases oa with e|e
      ·exact e
      ·simp at e
     have:=du.JW (b5:=fS T) (aH:=aH) av;rw[<- oa] at this;rw[jL an,bI.sz,p1 _ _ _ _ e1];rcases this with e|e
     ·exact e
     ·simp at e
    ·exact absurd aj av
   ·rw[jL an,jL e2,p2 _ _ e1]
 have aic : ∀b,s.ok g aH w b->bY.heap[b]? = w.heap[b]? := by intro b aP;refine wi b aP.1 fun ls=> ?_;rw[ew] at ls;obtain⟨r,eG,o,aJ,aj,an,ah⟩:=ls;exact aP.2.2 ⟨r,eG,o,aJ,an,sj r eG o aj an,ah⟩
 have gk : ∀ {y:aF} {u:Value},Rel w (s.ok g aH w) s.bg (s.bp aH) y u->Rel bY (s2.ok g ng bY) s2.bg (s2.bp ng) y u :=
  fun aj=>aj.mono oQ aic kK WH
 have aiM:(∀b,hj.A b->s.ok g aH w b)-> ∀b,(fS fC).ok hj mH bY b->s2.ok g ng bY b:=by
  intro hA b aP
  have NF:g.A b\/g.oG.heap.size<=b\/g.rS b:=by
   rcases aP.2.1 with e|e|e
   ·exact(hA b e).2.1
   ·rw[dn] at e;exact .inr (.inl (Nat.le_trans h.ik.size e))
   ·rw[ew] at e
    obtain⟨r,k,o,m,-,an,ah⟩:=e;rcases h.own r k o b m an ah with e|e
    ·exact .inr (.inl e)
    ·exact .inr (.inr e)
  refine⟨aP.1,NF,fun aZ=> ?_⟩;rcases VJ b aZ with e|⟨q,k,o,m,e1,e2,bI,c1⟩
  ·exact aP.2.2 e
  ·have a0:=hold q k o b m e1 e2 c1
   rcases aP.2.1 with e|e|e
   ·exact(hA b e).2.2 ⟨q,k,o,m,e2,bI,c1⟩
   ·rw[dn] at e;omega
   ·exact a0.2 e
 have Wj : ∀ {y nR:aF} {u:Value},jh (fS fC) mv (fun _=>false) q y nR->Rel bY ((fS fC).ok hj mH bY) (fS fC).bg ((fS fC).bp mH) y u->Rel bY (s2.ok g ng bY) s2.bg (s2.bp ng) nR u:=by
  intro y nR u bL aj;refine bL.rel h1 (fun x v a0 ah aj=> ?_) (fun _ _ _ _ _ _ bF _ _=>by simp at bF) ?_ aj
  ·rcases hA with hA|hA
   ·exact aj.pure ah (aiM hA)
   ·exact aj.eJ (hA x a0) ah
  ·intro r k j i a0 av
   refine⟨aiL r k j i a0 av,?_⟩
   cases an:s2.al r k with
   | none=>right;simp[S.bp,an]
   | some o =>
    left;rcases bx r k o an with ⟨jv,ft,p,e1,e2,bI⟩|⟨e1,-⟩
    ·rw[a0] at e1;simp only[dB,dD] at e1;obtain⟨rfl,rfl⟩:=e1;rw[jL an,jL e2,bI.sz,p1 _ _ _ _ a0]
    ·rw[a0] at e1;simp at e1
 refine⟨ng,{tojN:=⟨?_,?_,?_,?_,h.mlt,h.po,?_,h.low⟩,env:=fun t=>by rw[eQ];exact gk (h.env t),defers:=h.defers,k4:=h.k4},Wj aa bf⟩
 ·intro q k o an
  rcases bx q k o an with ⟨j,i,p,e1,e2,bI⟩|⟨e1,e2⟩
  ·have ah:=h1.obj j i p e2
   rw[p1 _ _ _ _ e1]
   cases lV:mH j i with
   | none =>
    rw[lV] at ah;simp only[ku] at ah ⊢;apply List.length_eq_zero_iff.1;rw[bI.len,ah];rfl
   | some wM =>
    obtain⟨b,m⟩:=wM;rw[lV] at ah;obtain⟨c,fA,f1,f2,f3,f4⟩:=ah;have k5:o.es.flatten.length=p.es.flatten.length:=(by rw[uQ _ bI.each,uQ _ f3,bI.len]);refine⟨c,fA,f1,f2,by rw[bI.sz];exact bI.each,fun i df eE=> ?_⟩;have et:i<p.es.flatten.length:=(by rw[<- k5];exact gH eE);have ld:=dz et;obtain⟨u,ki,mI,ix⟩:=f4 i _ ld;exact⟨u,ki,mI,Wj (bI.at_ i _ df ld eE) ix⟩
  ·have ah:=h.obj q k o e2
   rw[p2 _ _ e1]
   cases lV:aH q k with
   | none=>rw[lV] at ah;exact ah
   | some wM =>
    obtain⟨b,m⟩:=wM;rw[lV] at ah;obtain⟨c,fA,f1,f2,f3,f4⟩:=ah;obtain⟨xH,N7⟩:=hold q k o b m e1 e2 lV;refine⟨c,fA,(wi b xH N7).trans f1,f2,f3,fun i df eE=> ?_⟩;obtain⟨u,ki,mI,ix⟩:=f4 i df eE;exact⟨u,ki,mI,gk ix⟩
 ·intro q k o i7 eG cw b m aJ h2 U ai aw
  rcases bx q k o h2 with ⟨j,i,p,e1,e2,bI⟩|⟨e1,e2⟩<;>rcases bx i7 eG cw U with ⟨jv,ft,lL,oV,rO,xF⟩|⟨oV,rO⟩
  ·rw[p1 _ _ _ _ e1] at ai;rw[p1 _ _ _ _ oV] at aw;obtain⟨rfl,rfl⟩:=h1.inj j i p jv ft lL b m aJ e2 rO ai aw;exact aiK _ _ _ _ _ e1 oV
  ·rw[p1 _ _ _ _ e1] at ai;rw[p2 _ _ oV] at aw
   obtain⟨f1,f2⟩:=hold i7 eG cw b aJ oV rO aw;rcases JX j i p b m e2 ai with e|e
   ·omega
   ·exact absurd (by rw[ew];exact e) f2
  ·rw[p2 _ _ e1] at ai;rw[p1 _ _ _ _ oV] at aw
   obtain⟨f1,f2⟩:=hold q k o b m e1 e2 ai;rcases JX jv ft lL b aJ rO aw with e|e
   ·omega
   ·exact absurd (by rw[ew];exact e) f2
  ·rw[p2 _ _ e1] at ai;rw[p2 _ _ oV] at aw;exact h.inj q k o i7 eG cw b m aJ e2 rO ai aw
 ·intro q k o b m h2 ai
  rcases bx q k o h2 with ⟨j,i,p,e1,e2,bI⟩|⟨e1,e2⟩
  ·rw[p1 _ _ _ _ e1] at ai
   rcases JX j i p b m e2 ai with e|⟨r,eG,cw,aJ,aj,an,ah⟩
   ·exact .inl (Nat.le_trans h.ik.size e)
   ·exact h.own r eG cw b aJ an ah
  ·rw[p2 _ _ e1] at ai;exact h.own q k o b m e2 ai
 ·have e1:=a1.os;have e2:=a1.tape;have bI:=a1.output
  rw[dn] at e1 e2 bI;refine h.ik.step e1 e2 bI fM fun b aP pW=>wi b (Nat.lt_of_lt_of_le aP h.ik.size) fun ls=> ?_;rw[ew] at ls;obtain⟨r,k,o,m,-,an,ah⟩:=ls;rcases h.own r k o b m an ah with e|e
  ·omega
  ·exact pW e
 ·intro j k av
  obtain⟨e1,e2⟩:=h.stay j k av;refine⟨kK j k e1,?_⟩;rcases WH j k e1 with e|e
  ·rw[e];exact e2
  ·exact .inr e
def mm (a b n:Nat):aF->aF
 | .ref r k i off=>if r=a then .ref b (n+k) i off else .ref r k i off
 | .bb r k b6 len=>if r=a then .bb b (n+k) b6 len else .bb r k b6 len
 | .kh r c sz h=>if r=a then .kh b (n+c) sz h else .kh r c sz h
 | .agg c=> .agg (Dk c)
 | .ea c=> .ea (Dk c)
 | x=>x
where Dk:List aF->List aF
 | []=>[]
 | x::l=>mm a b n x::Dk l
def od (a b n:Nat)(o:a3):a3:={o with es:=o.es.map fun e=>e.map (mm a b n)}
def ug (o:a3):a3:=⟨0,[],.gone⟩
theorem Jc (a b n:Nat): ∀l:List aF,mm.Dk a b n l=l.map (mm a b n)
 | []=>rfl
 | x::l=>by rw[mm.Dk,Jc a b n l];rfl
theorem lS (l:List a3)(k:Nat):ee (some l) k=(l[k]?).bind fun o=>if o.cT = .gone then none else some o:=by unfold ee;cases h:l[k]? <;> simp[h]
theorem map_flatten {es:List (List aF)}(f:aF->aF):(es.map fun e=>e.map f).flatten=es.flatten.map f:=by
 induction es with
 | nil=>rfl
 | cons e es ih=>rw[List.map_cons,List.flatten_cons,List.flatten_cons,List.map_append,ih]
theorem dg.merge (h:dg g s aH a w){r fB:Nat}{l hR:List a3}(aj:s.a5 r=some l)(i5:s.a5 fB=some hR)(dd:fB≠r):
 ∃b0,dg g ((s.setRow fB (hR.map ug)).setRow r (l++hR.map (od fB r l.length))) b0 a w /\
  ∀x v,Rel w (s.ok g aH w) s.bg (s.bp aH) x v->Rel w (((s.setRow fB (hR.map ug)).setRow r (l++hR.map (od fB r l.length))).ok g b0 w)
   ((s.setRow fB (hR.map ug)).setRow r (l++hR.map (od fB r l.length))).bg (((s.setRow fB (hR.map ug)).setRow r (l++hR.map (od fB r l.length))).bp b0) (mm fB r l.length x) v:=by
 generalize wx:(s.setRow fB (hR.map ug)).setRow r (l++hR.map (od fB r l.length))=s2
 let b0:gv:=fun q k=>if q=r/\l.length<=k then aH fB (k-l.length) else aH q k
 have bx : ∀q k o,s2.al q k=some o->(q=r/\l.length<=k/\ ∃p,s.al fB (k-l.length)=some p/\o=od fB r l.length p/\b0 q k=aH fB (k-l.length)) \/
  (q≠fB/\s.al q k=some o/\b0 q k=aH q k/\ ¬(q=r/\l.length<=k)):=by
  intro q k o an;subst wx;rw[nk] at an;by_cases e:q=r
  ·subst e
   rw[dw rfl] at an;by_cases a1:l.length<=k
   ·left
    refine⟨rfl,a1,?_⟩;rw[lS,List.getElem?_append_right a1,dJ] at an
    cases ah:hR[k-l.length]? with
    | none=>rw[ah] at an;simp at an
    | some p =>
     rw[ah] at an;simp only[Option.map_some,dA] at an;split at an
     ·simp at an
     ·rename_i dn;simp only[dB] at an;refine⟨p,?_,an.symm,by simp[b0,a1]⟩;unfold S.al;rw[i5,lS,ah,dA,dy (by simpa [od] using dn)]
   ·right;refine⟨Ne.symm dd,?_,by simp[b0,a1],fun hc=>a1 hc.2⟩;unfold S.al;rw[aj,lS];rw[lS,List.getElem?_append_left (by omega)] at an;exact an
  ·rw[dy e,nk] at an
   by_cases e2:q=fB
   ·subst e2
    rw[dw rfl,lS,dJ] at an
    cases ah:hR[k]? with
    | none=>rw[ah] at an;simp at an
    | some p=>rw[ah] at an;simp[ug] at an
   ·rw[dy e2] at an;exact .inr ⟨e2,an,by simp[b0,e],fun hc=>e hc.1⟩
 have kK : ∀q k,s.bg q k->s2.bg q k:=by
  intro q k a0;subst wx;rw[pb];by_cases e:q=r
  ·subst e;rw[dw rfl];simp[S.bg,aj] at a0;simp;omega
  ·rw[dy e,pb]
   by_cases e2:q=fB
   ·subst e2;rw[dw rfl];simpa [S.bg,i5] using a0
   ·rw[dy e2];exact a0
 have Ge : ∀k,s.bg fB k->s2.bg r (l.length+k):=by intro k a0;subst wx;rw[pb,dw rfl];simp[S.bg,i5] at a0;simp;omega
 have Gf : ∀k,s2.bp b0 r (l.length+k)=s.bp aH fB k:=by
  intro k;subst wx;simp only[S.bp];rw[nk,dw rfl];unfold S.al;rw[i5,lS,lS,List.getElem?_append_right (by omega),dJ,show l.length+k-l.length=k by omega]
  cases ah:hR[k]? with
  | none=>simp
  | some p =>
   simp only[Option.map_some,dA];by_cases dn:p.cT = .gone
   ·rw[dw dn,dw (by simpa [od] using dn)];rfl
   ·rw[dy dn,dy (by simpa [od] using dn)];simp[b0,od]
 have m5 : ∀q k,s.bg q k->s2.bp b0 q k=s.bp aH q k\/s2.bp b0 q k=none:=by
  intro q k a0
  cases an:s2.al q k with
  | none=>right;simp[S.bp,an]
  | some o =>
   left;rcases bx q k o an with ⟨rfl,e2,-⟩|⟨-,e2,bI,-⟩
   ·simp[S.bg,aj] at a0;omega
   ·rw[jL an,jL e2,bI]
 have sj : ∀b,s2.nG b0 b->s.nG aH b:=by
  rintro b ⟨q,k,o,m,h1,h2,U⟩;rcases bx q k o h1 with ⟨-,-,p,e1,e2,bI⟩|⟨-,e1,e2,-⟩
  ·rw[bI] at U;subst e2;exact⟨fB,_,p,m,e1,h2,U⟩
  ·rw[e2] at U;exact⟨q,k,o,m,e1,h2,U⟩
 have da:Step g s aH w s2 b0 w:=⟨kK,m5,fun b aZ=> .inl (sj b aZ),fun _ _ _=>rfl,dF _⟩
 have GB : ∀x v,Rel w (s.ok g aH w) s.bg (s.bp aH) x v->Rel w (s2.ok g b0 w) s2.bg (s2.bp b0) (mm fB r l.length x) v:=by
  intro x v m7
  induction m7 with
  | dead v=>exact .dead v
  | b x=>exact .b x
  | n k x=>exact .n k x
  | s x=>exact .s x
  | jW=>exact .jW
  | fT=>exact .fT
  | kg a c=>exact .kg a c
  | @sb r1 k i off a hu hc =>
   unfold mm;split
   ·rename_i e;subst e;exact .sb a (Ge k hu) (by rw[Gf];exact hc)
   ·exact da.rel (.sb a hu hc)
  | @ref r1 k i off sz e4 m hu hc =>
   unfold mm;split
   ·rename_i e;subst e;exact .ref (Ge k hu) (by rw[Gf];exact hc)
   ·exact da.rel (.ref hu hc)
  | @pc r1 k b6 len a bc cj hu hc =>
   unfold mm;split
   ·rename_i e;subst e;exact .pc a bc cj (Ge k hu) (by rw[Gf];exact hc)
   ·exact da.rel (.pc a bc cj hu hc)
  | @pA r1 k sz hu hc =>
   unfold mm;split
   ·rename_i e;subst e;exact .pA (Ge k hu) (by rw[Gf];exact hc)
   ·exact da.rel (.pA hu hc)
  | @bb r1 k b6 len sz e4 m c a hu hc aZ aX oc =>
   unfold mm;split
   ·rename_i e;subst e;exact .bb (Ge k hu) (by rw[Gf];exact hc) aZ aX oc
   ·exact da.rel (.bb hu hc aZ aX oc)
  | @oL r1 c sz v h0 ih =>
   unfold mm;split
   ·exact .oL (da.rel h0)
   ·exact da.rel (.oL h0)
  | @pO r1 c sz k n v h0 ih =>
   unfold mm;split
   ·rename_i e;subst e;unfold mm at ih;rw[dw rfl] at ih;exact .pO (by rw[show k+(l.length+c)=l.length+(k+c) by omega];exact ih)
   ·exact da.rel (.pO h0)
  | lG sz a c h=>exact .lG sz a c h
  | isl cs aP ah aZ aX hw iS m7 ih=>exact da.rel (.isl cs aP ah aZ aX hw iS m7)
  | fo cs aP ah aZ hw iS m7 ih=>exact da.rel (.fo cs aP ah aZ hw iS m7)
  | rK sz=>exact .rK sz
  | q3 h0 ih=>exact da.rel (.q3 h0)
  | agg vs aZ iS m7 ih =>
   unfold mm;rw[Jc];refine .agg vs (by simpa using aZ) iS fun j x v aa bf=> ?_;rw[dJ,Option.map_eq_some_iff] at aa;obtain⟨y,aW,rfl⟩:=aa;exact ih j y v aW bf
  | ea vs aZ m7 ih =>
   unfold mm;rw[Jc];refine .ea vs (by simpa using aZ) fun j x v aa bf=> ?_;rw[dJ,Option.map_eq_some_iff] at aa;obtain⟨y,aW,rfl⟩:=aa;exact ih j y v aW bf
  | fn vs aZ m7 ih=>exact da.rel (.fn vs aZ m7)
 refine⟨b0,{tojN:=⟨?_,?_,?_,h.ik,h.mlt,h.po,?_,h.low⟩,env:=fun t=>by rw[show s2.E=s.E by rw[<- wx];rfl];exact da.rel (h.env t),defers:=h.defers,k4:=h.k4},GB⟩
 ·intro q k o an
  rcases bx q k o an with ⟨-,-,p,e1,e2,bI⟩|⟨-,e1,e2,-⟩
  ·rw[bI]
   subst e2;have ah:=h.obj fB _ p e1
   cases lV:aH fB (k-l.length) with
   | none=>rw[lV] at ah;simp only[ku] at ah ⊢;simp[od,ah]
   | some wM =>
    obtain⟨b,m⟩:=wM;rw[lV] at ah;obtain⟨c,fA,f1,f2,f3,f4⟩:=ah;refine⟨c,fA,f1,f2,?_,fun j x aa=> ?_⟩
    ·intro e he;simp only[od,List.mem_map] at he;obtain⟨fe,nL,rfl⟩:=he;simpa [od] using f3 fe nL
    ·simp only[od] at aa;rw[map_flatten,dJ,Option.map_eq_some_iff] at aa;obtain⟨y,aW,rfl⟩:=aa;obtain⟨u,ki,mI,ix⟩:=f4 j y aW;exact⟨u,ki,mI,GB y u ix⟩
  ·rw[e2];exact da.obj (fun b m _=>rfl) (h.obj q k o e1)
 ·intro q k o q1 lO b4 b m aJ h1 h2 U ai
  rcases bx q k o h1 with ⟨rfl,f1,p,e1,e2,bI⟩|⟨f1,e1,e2,f2⟩<;>rcases bx q1 lO b4 h2 with ⟨rfl,Dl,lL,oV,rO,xF⟩|⟨Dl,oV,rO,amt⟩
  ·rw[bI] at U;rw[xF] at ai;obtain⟨-,e⟩:=h.inj _ _ _ _ _ _ b m aJ e1 oV U ai;exact⟨rfl,by omega⟩
  ·rw[bI] at U;rw[rO] at ai;obtain⟨e,-⟩:=h.inj _ _ _ _ _ _ b m aJ e1 oV U ai;exact absurd e.symm Dl
  ·rw[e2] at U;rw[xF] at ai;obtain⟨e,-⟩:=h.inj _ _ _ _ _ _ b m aJ e1 oV U ai;exact absurd e f1
  ·rw[e2] at U;rw[rO] at ai;exact h.inj _ _ _ _ _ _ b m aJ e1 oV U ai
 ·intro q k o b m h1 h2
  rcases bx q k o h1 with ⟨-,-,p,e1,e2,bI⟩|⟨-,e1,e2,-⟩
  ·rw[bI] at h2;exact h.own fB _ p b m e1 h2
  ·rw[e2] at h2;exact h.own q k o b m e1 h2
 ·exact da.stay h.stay
end
def aF.jK:aF->Bool
 | .dead | .b _ | .n .. | .s _ | .jW | .fT | .kg | .isl .. | .fo .. | .hh .. => true
 | _=>false
def aF.FB:aF->Bool
 | .agg c=>c.all aF.jK
 | .fn _ c=>c.all aF.jK
 | x=>x.jK
def aF.Wk:aF->Bool
 | .ea c=>c.all aF.FB
 | x=>x.FB
section
variable {w:World} {ok:Nat->Prop} {bg:kz} {bp:kr}
theorem Rel.CY {x:aF}{v:Value}(h:Rel w ok bg bp x v)(aY:x.jK=true):Pure x:=by
 cases h with
 | dead=>exact .dead
 | b=>exact .b _
 | n=>exact .n _ _
 | s=>exact .s _
 | jW=>exact .jW
 | fT=>exact .fT
 | kg=>exact .kg
 | lG=>exact .isl (by simp)
 | isl cs aP ah=>exact .isl ah
 | fo cs aP ah=>exact .fo ah
 | rK sz=>exact .rK sz
 | q3 h=>cases h with|fo cs aP ah=>exact .q3 fun x aa=>ah _ (List.mem_singleton.2 rfl) x aa
 | _=>simp[aF.jK] at aY
theorem Tr {c:List aF}{vs:List Value}(aZ:vs.length=c.length)(aj:∀(j:Nat) x u,c[j]? = some x->vs[j]? = some u->Rel w ok bg bp x u)
 (aY:c.all aF.jK=true) : ∀x∈c,Pure x:=by
 intro x aa;obtain⟨j,av⟩:=List.getElem?_of_mem aa;have et:j<vs.length:=by have:=gH av;omega
 exact(aj j x _ av (dz et)).CY (List.all_eq_true.1 aY x aa)
theorem Rel.Jn {x:aF}{v:Value}(h:Rel w ok bg bp x v)(aY:x.FB=true):Pure x:=by
 cases h with
 | agg vs aZ aX aj=>exact .agg (Tr aZ aj aY)
 | fn vs aZ aj=>exact .fn (Tr aZ aj aY)
 | dead=>exact .dead
 | b=>exact .b _
 | n=>exact .n _ _
 | s=>exact .s _
 | jW=>exact .jW
 | fT=>exact .fT
 | kg=>exact .kg
 | lG=>exact .isl (by simp)
 | isl cs aP ah=>exact .isl ah
 | fo cs aP ah=>exact .fo ah
 | rK sz=>exact .rK sz
 | q3 h=>cases h with|fo cs aP ah=>exact .q3 fun x aa=>ah _ (List.mem_singleton.2 rfl) x aa
 | _=>simp[aF.FB,aF.jK] at aY
theorem Rel.aid {x:aF}{v:Value}(h:Rel w ok bg bp x v)(aY:x.Wk=true):Pure x:=by
 by_cases cq : ∃c,x = .ea c
 ·obtain⟨c,rfl⟩:=cq;obtain⟨vs,rfl,aZ,aj⟩:=h.CE;refine .ea fun x aa=> ?_;obtain⟨j,av⟩:=List.getElem?_of_mem aa;have et:j<vs.length:=(by have:=gH av;omega);exact(aj j x _ av (dz et)).Jn (List.all_eq_true.1 aY x aa)
 ·refine h.Jn ?_;cases x<;>first|exact aY|exact absurd ⟨_,rfl⟩ cq
end
def cl:List Nat->Nat->Option Nat
 | [],_=>none
 | x::l,r=>if x=r then some 0 else (cl l r).map (· + 1)
theorem Ts : ∀ {l:List Nat} {r j:Nat},cl l r=some j->l[j]? = some r
 | x::l,r,j,h=>by
  unfold cl at h;split at h
  ·simp at h;subst h;simp[*]
  ·rw[Option.map_eq_some_iff] at h;obtain⟨i,ad,rfl⟩:=h;simpa using Ts ad
theorem Tt : ∀ {l:List Nat} {r j:Nat},l.Nodup->l[j]? = some r->cl l r=some j
 | x::l,r,j,aY,h=>by
  rw[List.nodup_cons] at aY;unfold cl
  cases j with
  | zero=>simp at h;simp[h]
  | succ j =>
   simp at h;have:x≠r:=(by rintro rfl;exact aY.1 (dH h));rw[dy this,Tt aY.2 h];rfl
def GC (eD:Nat)(kJ:List a3)(bO:hC->Bool)(x df:aF):Prop :=
 (df=x/\x.jK=true)\/(∃c sz,x = .kh eD c sz none/\df = .isl sz [])\/ ∃k b6 len o,(x = .bb eD k b6 len\/ ∃c sz kB,k=kB+c/\b6=0/\x = .kh eD c sz (some (kB,len)))/\ee (some kJ) k=some o/\bO o.cT=true/\b6+len<=o.es.length /\
   jj ((o.es.drop b6).take len)/\df = .isl o.sz ((o.es.drop b6).take len)
def Hj (eD:Nat)(kJ:List a3)(bO:hC->Bool)(sz:Nat)(es hP:List (List aF)):Prop :=
 hP.length=es.length/\(∀e∈hP,e.length=sz)/\ ∀(j:Nat) x df,es.flatten[j]? = some x->hP.flatten[j]? = some df->GC eD kJ bO x df
def nr (a5:Nat->Option (List a3))(cd:Nat->Option Nat)(a7:ib)(bO:hC->Bool):uF->aF->Option (aF×List Prop)
 | .id,x=>if x.jK then some (x,[]) else
  match x with
  | .ref r k i off=>match cd r with
   | some j=>some (.ref j k i off,[])
   | none=>none
  | .bb r k b6 len=>match cd r with
   | some j=>some (.bb j k b6 len,[])
   | none=>none
  | .kh r c sz h=>match cd r with
   | some j=>some (.kh j c sz h,[])
   | none=>none
  | _=>none
 | .gP sz,.fT=>some (.isl sz [],[])
 | .gP sz,.kg=>some (.isl sz [],[])
 | .eT hP,.bb r k b6 len=>match ee (a5 r) k with
  | some o=>if bO o.cT && (cd r).isNone then some (.isl o.sz hP,[hP=(o.es.drop b6).take len,b6+len<=o.es.length,jj hP]) else none
  | none=>none
 | .kN,_=>some (.dead,[])
 | .cF y,x=>if x.jK then some (y,[x=y]) else none
 | .len n,.bb r k b6 len=>match cd r with
  | some j=>some (.bb j k b6 n,[len=n])
  | none=>none
 | .uG sz,x=>match x with
  | .jW=>some (.hh sz none,[])
  | .fo JS [c] 0 0=>if JS=sz then some (.hh sz (some c),[]) else none
  | _=>none
 | .at_ j i n,.bb r k b6 len=>some (.bb j i b6 n,[a7 j i=some (r,k),len=n])
 | .at_ j i _,.ref r k x y=>some (.ref j i x y,[a7 j i=some (r,k)])
 | .view eD o hP,.bb r k b6 len=>match a5 r,a5 eD with
  | some row,some kJ=>if (cd r).isNone && (cd eD).isNone then
   some (.isl o.sz hP,[ee (some row) k=some o,bO o.cT=true,b6+len<=o.es.length,jj hP,Hj eD kJ bO o.sz ((o.es.drop b6).take len) hP]) else none
  | _,_=>none
 | _,_=>none
def ns {α β:Type}(f:α->β->Option (β×List Prop)):List α->List β->Option (List β×List Prop)
 | [],[]=>some ([],[])
 | a::l,b::m=>match f a b,ns f l m with
  | some (jR,b4),some (aJ,aU)=>some (jR::aJ,b4++aU)
  | _,_=>none
 | _,_=>none
def qi (a5:Nat->Option (List a3))(cd:Nat->Option Nat)(a7:ib)(bO:hC->Bool):DG->aF->Option (aF×List Prop)
 | .cE c,x=>if x.FB then (match c with | .id=>some (x,[]) | .kN=>some (.dead,[]) | .cF y=>some (y,[x=y])|c=>nr a5 cd a7 bO c x) else nr a5 cd a7 bO c x
 | .agg l,.agg c=>match ns (nr a5 cd a7 bO) l c with
  | some (eC,al)=>some (.agg eC,al)
  | none=>none
 | .ptr l,.ref r k i off=>match ee (a5 r) k with
  | some o=>match o.es with
   | [c]=>if bO o.cT && (cd r).isNone then
    match ns (nr a5 cd a7 bO) l c with
    | some (eC,al)=>some (.fo o.sz [eC] i off,al++[jj [eC]])
    | none=>none
    else none
   | _=>none
  | none=>none
 | .xv l,x=>match x with
  | .ref r k 0 0=>match ee (a5 r) k with
   | some o=>match o.es with
    | [c]=>if bO o.cT && (cd r).isNone then
     match ns (nr a5 cd a7 bO) l c with
     | some (eC,al)=>some (.hh o.sz (some eC),al++[jj [eC]])
     | none=>none
     else none
    | _=>none
   | none=>none
  | _=>none
 | _,_=>none
def pH (a5:Nat->Option (List a3))(cd:Nat->Option Nat)(a7:ib)(bO:hC->Bool):nd->aF->Option (aF×List Prop)
 | .bc c,x=>if x.Wk then (match c with | .cE .id=>some (x,[])|c=>qi a5 cd a7 bO c x) else qi a5 cd a7 bO c x
 | .comp l,.ea c=>match ns (qi a5 cd a7 bO) l c with
  | some (eC,al)=>some (.ea eC,al)
  | none=>none
 | .comp l,.fn f c=>match ns (qi a5 cd a7 bO) l c with
  | some (eC,al)=>some (.fn f eC,al)
  | none=>none
 | _,_=>none
def w9 (row:List a3):Prop:= ∀o∈row,jj o.es/\o.cT = .live
def ox (row:List a3):Prop:= ∀o∈row,o.cT = .live\/o.cT = .gone
def pX (cd:Nat->Option Nat):aF->aF
 | .ref r k i off=>match cd r with|some j=> .ref j k i off|none=> .dead
 | .bb r k b6 len=>match cd r with|some j=> .bb j k b6 len|none=> .dead
 | .kh r c sz h=>match cd r with|some j=> .kh j c sz h|none=> .dead
 | x=>if x.jK then x else .dead
def k7 (cd:Nat->Option Nat)(o:a3):a3:={o with es:=o.es.map fun e=>e.map (pX cd)}
def kv (a5:Nat->Option (List a3))(cd:Nat->Option Nat)(a7:ib)(bO:hC->Bool):jS->List a3->Option (List a3×List Prop)
 | .pure,row=>some (row,[w9 row])
 | .cF eU,row=>some (eU,[row=eU,w9 eU])
 | .bu eU,row=>some (eU,[eU=row.map (k7 cd),ox row])
 | .box l,[o]=>match o.es with
  | [c]=>if o.cT = .live then match ns (nr a5 cd a7 bO) l c with
   | some (eC,al)=>some ([{o with es:=[eC]}],al)
   | none=>none
   else none
  | _=>none
 | _,_=>none
structure wN (q:aF->Prop) (bO:hC->Bool):Prop extends Down q where
 all : ∀k,bO k=true-> ∀x,q x
theorem xI (bO:hC->Bool):wN nO bO:={toDown:=ah9,all:=fun _ _ _=>trivial}
theorem ajr:wN bW (fun _=>false):={toDown:=aib,all:=fun _ h=>by simp at h}
structure oH (s:S) (a7:ib) (cd:Nat->Option Nat) (bO:hC->Bool):Prop where
 ad : ∀r j,cd r=some j-> ∀k,a7 j k=some (r,k)
 aY : ∀r,cd r=none-> ∀k o,s.al r k=some o->bO o.cT=true-> ∀j i,a7 j i≠some (r,k)
section
variable {g:G} {s:S} {aH:gv} {w:World} {a7:ib} {cd:Nat->Option Nat} {bO:hC->Bool} {q:aF->Prop}
theorem Ix {α β:Type}(f:α->β->Option (β×List Prop)): ∀(l:List α) (m aJ:List β) (al:List Prop),ns f l m=some (aJ,al) ->
 aJ.length=m.length/\l.length=m.length/\ ∀(j:Nat) b jR,m[j]? = some b->aJ[j]? = some jR-> ∃x cw,l[j]? = some x/\f x b=some (jR,cw)/\ ∀p∈cw,p∈al
 | [],[],aJ,al,h=>by simp[ns] at h;obtain⟨rfl,rfl⟩:=h;exact⟨rfl,rfl,fun j b jR aP=>by simp at aP⟩
 | [],_::_,_,_,h=>by simp[ns] at h
 | _::_,[],_,_,h=>by simp[ns] at h
 | x::l,b::m,aJ,al,h=>by
  simp only[ns] at h;split at h
  ·rename_i jR b4 iw aU h1 h2
   simp only[dB,dD] at h;obtain⟨rfl,rfl⟩:=h;obtain⟨e1,e2,bI⟩:=Ix f l m iw aU h2;refine⟨by simp[e1],by simp[e2],fun j c eC aX vf=> ?_⟩
   cases j with
   | zero =>
    simp at aX vf;subst aX;subst vf;exact⟨x,b4,rfl,h1,fun p ah=>by simp[ah]⟩
   | succ j =>
    simp at aX vf;obtain⟨y,cw,f1,f2,f3⟩:=bI j c eC aX vf;exact⟨y,cw,by simpa using f1,f2,fun p ah=>by simp[f3 p ah]⟩
  ·simp at h
theorem Mx (ew:jN g s aH w)(H:oH s a7 cd bO)(bH:wN q bO){c:uF}{x df:aF}{al:List Prop}(h:nr s.a5 cd a7 bO c x=some (df,al))(bx:∀p∈al,p)
 (a0:q x) {v:Value} (aj:Rel w (s.ok g aH w) s.bg (s.bp aH) x v):jh s a7 bO q x df:=by
 have kK : ∀ {r k b6 len:Nat},x = .bb r k b6 len->s.bg r k:=by intro r k b6 len e;subst e;cases aj<;>assumption
 cases c with
 | id =>
  simp only[nr] at h;split at h
  ·rename_i aY;simp only[dB,dD] at h;obtain⟨rfl,rfl⟩:=h;exact .pure (aj.CY aY) a0
  ·split at h
   ·rename_i r k i off _
    split at h
    ·rename_i j av;simp only[dB,dD] at h;obtain⟨rfl,rfl⟩:=h;exact .ref i off (H.ad r j av k) (by cases aj<;>assumption)
    ·simp at h
   ·rename_i r k b6 len _
    split at h
    ·rename_i j av;simp only[dB,dD] at h;obtain⟨rfl,rfl⟩:=h;exact .bb b6 len (H.ad r j av k) (kK rfl)
    ·simp at h
   ·rename_i r c sz hc _
    split at h
    ·rename_i j av;simp only[dB,dD] at h;obtain⟨rfl,rfl⟩:=h;exact .kh hc (fun k=>H.ad r j av _)
    ·simp at h
   ·simp at h
 | gP sz =>
  cases x<;>simp[nr] at h
  ·obtain⟨rfl,rfl⟩:=h;exact .fT sz
  ·obtain⟨rfl,rfl⟩:=h;exact .kg sz
 | eT hP =>
  cases x<;>simp only[nr,reduceCtorEq] at h;rename_i r k b6 len;split at h
  ·rename_i o an
   split at h
   ·rename_i aX
    simp only[dM,Option.isNone_iff_eq_none] at aX;simp only[dB,dD] at h;obtain⟨rfl,rfl⟩:=h;have h1:hP=(o.es.drop b6).take len:=bx _ (by simp);have h2:b6+len<=o.es.length:=bx _ (by simp);have U:jj hP:=bx _ (by simp);have eN:s.al r k=some o:=an
    have hlen : ∀e∈o.es,e.length=o.sz:=by
     have gK:=ew.obj r k o eN
     cases ah:aH r k with
     | none=>rw[ah] at gK;simp only[ku] at gK;rw[gK];simp
     | some q=>rw[ah] at gK;obtain⟨_,_,_,_,e,_⟩:=gK;exact e
    refine .isl eN aX.1 (H.aY r aX.2 k o eN aX.1) h2 U ?_ ?_ ?_
    ·rw[h1];exact fun e he=>hlen e (List.mem_of_mem_drop (List.mem_of_mem_take he))
    ·rw[h1];simp;omega
    ·intro j y nR aW pY;rw[h1] at pY;rw[aW] at pY;simp at pY;subst pY;rw[h1] at U;obtain⟨e,he,GD⟩:=vC aW;exact .pure (U e he y GD) (bH.all _ aX.1 y)
   ·simp at h
  ·simp at h
 | kN =>
  simp only[nr,dB,dD] at h;obtain⟨rfl,rfl⟩:=h;exact .dead x
 | cF y =>
  simp only[nr] at h;split at h
  ·rename_i aY;simp only[dB,dD] at h;obtain⟨rfl,rfl⟩:=h;have e:x=y:=bx _ (by simp);subst e;exact .pure (aj.CY aY) a0
  ·simp at h
 | len n =>
  cases x<;>simp only[nr,reduceCtorEq] at h;rename_i r k b6 len;split at h
  ·rename_i j av;simp only[dB,dD] at h;obtain⟨rfl,rfl⟩:=h;have e:len=n:=bx _ (by simp);subst e;exact .bb b6 len (H.ad r j av k) (kK rfl)
  ·simp at h
 | at_ j i n =>
  cases x<;>simp only[nr,reduceCtorEq] at h
  ·rename_i r k x y;simp only[dB,dD] at h;obtain⟨rfl,rfl⟩:=h;exact .ref x y (bx _ (List.mem_cons_self)) (by cases aj<;>assumption)
  ·rename_i r k b6 len;simp only[dB,dD] at h;obtain⟨rfl,rfl⟩:=h;have e:len=n:=bx _ (by simp);subst e;exact .bb b6 len (bx _ (List.mem_cons_self)) (kK rfl)
 | view eD o hP =>
  cases x<;>simp only[nr,reduceCtorEq] at h;rename_i r k b6 len;split at h
  ·rename_i row kJ ep aie
   split at h
   ·rename_i aX
    simp only[dM,Option.isNone_iff_eq_none] at aX;simp only[dB,dD] at h;obtain⟨rfl,rfl⟩:=h;have h1:ee (some row) k=some o:=bx _ (by simp);have h2:bO o.cT=true:=bx _ (by simp);have U:b6+len<=o.es.length:=bx _ (by simp);have ai:jj hP:=bx _ (by simp);have aw:Hj eD kJ bO o.sz ((o.es.drop b6).take len) hP:=bx _ (by simp);have eN:s.al r k=some o:=(by unfold S.al;rw[ep];exact h1);obtain⟨d1,d2,d3⟩:=aw;refine .isl eN h2 (H.aY r aX.1 k o eN h2) U ai d2 (by rw[d1];simp;omega) fun j y nR aW pY=> ?_;rcases d3 j y nR aW pY with ⟨rfl,aY⟩|⟨cj,Xc,rfl,rfl⟩|⟨kA,JY,Jy,p,GF,e1,e2,bI,c1,rfl⟩
    ·obtain⟨e,he,GD⟩:=vC pY;exact .pure (ai e he nR GD) (bH.all _ h2 _)
    ·exact .oL _ _ _
    ·have mR:s.al eD kA=some p:=by unfold S.al;rw[aie];exact e1
     have hlen : ∀e∈p.es,e.length=p.sz:=by
      have gK:=ew.obj eD kA p mR
      cases ah:aH eD kA with
      | none=>rw[ah] at gK;simp only[ku] at gK;rw[gK];simp
      | some q=>rw[ah] at gK;obtain⟨_,_,_,_,e,_⟩:=gK;exact e
     have Wl:jh s a7 bO q (.bb eD kA JY Jy) (.isl p.sz ((p.es.drop JY).take Jy)):=(by refine .isl mR e2 (H.aY eD aX.2 kA p mR e2) bI c1 (fun e he=>hlen e (List.mem_of_mem_drop (List.mem_of_mem_take he))) (by simp;omega) fun j z ang cH vh=> ?_;rw[cH] at vh;simp at vh;subst vh;obtain⟨e,he,ajs⟩:=vC cH;exact .pure (c1 e he z ajs) (bH.all _ e2 _));rcases GF with rfl|⟨cE,amu,kB,rfl,rfl,rfl⟩
     ·exact Wl
     ·exact .pO Wl
   ·simp at h
  ·simp at h
 | uG sz =>
  simp only[nr] at h;split at h
  ·simp only[dB,dD] at h;obtain⟨rfl,rfl⟩:=h;exact .Jm _
  ·split at h
   ·rename_i e;subst e;simp only[dB,dD] at h;obtain⟨rfl,rfl⟩:=h;exact .hh (.pure (aj.CY rfl) a0)
   ·simp at h
  ·simp at h
theorem Ff (ew:jN g s aH w)(H:oH s a7 cd bO)(bH:wN q bO){l:List uF}{c eC:List aF}{al:List Prop}(h:ns (nr s.a5 cd a7 bO) l c=some (eC,al))(bx:∀p∈al,p)
 (a0 : ∀x∈c,q x) {vs:List Value} (aZ:vs.length=c.length) (aj : ∀(j:Nat) x u,c[j]? = some x->vs[j]? = some u->Rel w (s.ok g aH w) s.bg (s.bp aH) x u) :
 eC.length=c.length/\ ∀(j:Nat) x df,c[j]? = some x->eC[j]? = some df->jh s a7 bO q x df:=by
 obtain⟨e1,e2,bI⟩:=Ix _ l c eC al h;refine⟨e1,fun j x df aa eE=> ?_⟩;obtain⟨y,cw,f1,f2,f3⟩:=bI j x df aa eE;have et:j<vs.length:=by have:=gH aa;omega
 exact Mx ew H bH f2 (fun p ah=>bx p (f3 p ah)) (a0 x (dH aa)) (aj j x _ aa (dz et))
theorem My (ew:jN g s aH w)(H:oH s a7 cd bO)(bH:wN q bO){c:DG}{x df:aF}{al:List Prop}(h:qi s.a5 cd a7 bO c x=some (df,al))(bx:∀p∈al,p)
 (a0:q x) {v:Value} (aj:Rel w (s.ok g aH w) s.bg (s.bp aH) x v):jh s a7 bO q x df:=by
 cases c with
 | cE c =>
  simp only[qi] at h;split at h
  ·rename_i aY
   split at h
   ·simp only[dB,dD] at h;obtain⟨rfl,rfl⟩:=h;exact .pure (aj.Jn aY) a0
   ·simp only[dB,dD] at h;obtain⟨rfl,rfl⟩:=h;exact .dead _
   ·simp only[dB,dD] at h;obtain⟨rfl,rfl⟩:=h;have e:=bx _ (List.mem_singleton.2 rfl);subst e;exact .pure (aj.Jn aY) a0
   ·exact Mx ew H bH h bx a0 aj
  ·exact Mx ew H bH h bx a0 aj
 | agg l =>
  cases x<;>simp only[qi,reduceCtorEq] at h;rename_i c;split at h
  ·rename_i eC ps aX;simp only[dB,dD] at h;obtain⟨rfl,rfl⟩:=h;obtain⟨vs,rfl,aZ,-,GG⟩:=aj.CD;obtain⟨e1,e2⟩:=Ff ew H bH aX bx (fun y aW=>bH.agg _ _ a0 aW) aZ GG;exact .agg e1 e2
  ·simp at h
 | ptr l =>
  cases x<;>simp only[qi,reduceCtorEq] at h;rename_i r k i off;split at h
  ·rename_i o an
   split at h
   ·rename_i c i4
    split at h
    ·rename_i aX
     simp only[dM,Option.isNone_iff_eq_none] at aX;split at h
     ·rename_i eC ps iS
      simp only[dB,dD] at h;obtain⟨rfl,rfl⟩:=h;have eN:s.al r k=some o:=an;have gK:=ew.obj r k o eN
      cases ah:aH r k with
      | none=>rw[ah] at gK;simp only[ku] at gK;rw[i4] at gK;simp at gK
      | some q =>
       obtain⟨b,m⟩:=q;rw[ah] at gK;obtain⟨cQ,fA,g1,g2,g3,g4⟩:=gK;have NG:c.length=o.sz:=g3 c (by rw[i4];simp);have k5:o.es.flatten=c:=(by rw[i4];simp);have hcs : ∀j:Nat,j<c.length-> ∃u,cQ[j]? = some u/\Rel w (s.ok g aH w) s.bg (s.bp aH) c[j]! u:=(by intro j av;obtain⟨u,ki,-,ix⟩:=g4 j c[j] (by rw[k5];exact dz av);exact⟨u,ki,by rw[getElem!_pos c j av];exact ix⟩);obtain⟨e1,e2⟩:=Ff (vs:=(List.range c.length).map fun j=>(cQ[j]?).getD undef) ew H bH iS (fun p ah=>bx p (by simp[ah])) (fun y _=>bH.all _ aX.1 y) (by simp) (by intro j y u aW hu;have av:=gH aW;rw[dJ,List.getElem?_range av] at hu;simp only[Option.map_some,dB] at hu;obtain⟨mY,ki,ix⟩:=hcs j av;rw[ki] at hu;simp at hu;subst hu;rw[dz av] at aW;simp at aW;subst aW;rw[getElem!_pos c j av] at ix;exact ix);have vZ:jj [eC]:=bx _ (by simp);refine .fo i off eN aX.1 (H.aY r aX.2 k o eN aX.1) (by rw[i4];simp) vZ (by simp;omega) (by rw[i4];rfl) ?_
       ·intro j y nR aW pY;rw[k5] at aW;simp only[List.flatten_cons,List.flatten_nil,List.append_nil] at pY;exact e2 j y nR aW pY
     ·simp at h
    ·simp at h
   ·simp at h
  ·simp at h
 | xv l =>
  simp only[qi] at h;split at h
  ·rename_i r k
   split at h
   ·rename_i o an
    split at h
    ·rename_i c i4
     split at h
     ·rename_i aX
      simp only[dM,Option.isNone_iff_eq_none] at aX;split at h
      ·rename_i eC ps iS
       simp only[dB,dD] at h;obtain⟨rfl,rfl⟩:=h;have eN:s.al r k=some o:=an;have gK:=ew.obj r k o eN
       cases ah:aH r k with
       | none=>rw[ah] at gK;simp only[ku] at gK;rw[i4] at gK;simp at gK
       | some q =>
        obtain⟨b,m⟩:=q;rw[ah] at gK;obtain⟨cQ,fA,g1,g2,g3,g4⟩:=gK;have NG:c.length=o.sz:=g3 c (by rw[i4];simp);have k5:o.es.flatten=c:=(by rw[i4];simp);have hcs : ∀j:Nat,j<c.length-> ∃u,cQ[j]? = some u/\Rel w (s.ok g aH w) s.bg (s.bp aH) c[j]! u:=(by intro j av;obtain⟨u,ki,-,ix⟩:=g4 j c[j] (by rw[k5];exact dz av);exact⟨u,ki,by rw[getElem!_pos c j av];exact ix⟩);obtain⟨e1,e2⟩:=Ff (vs:=(List.range c.length).map fun j=>(cQ[j]?).getD undef) ew H bH iS (fun p ah=>bx p (by simp[ah])) (fun y _=>bH.all _ aX.1 y) (by simp) (by intro j y u aW hu;have av:=gH aW;rw[dJ,List.getElem?_range av] at hu;simp only[Option.map_some,dB] at hu;obtain⟨mY,ki,ix⟩:=hcs j av;rw[ki] at hu;simp at hu;subst hu;rw[dz av] at aW;simp at aW;subst aW;rw[getElem!_pos c j av] at ix;exact ix);have vZ:jj [eC]:=bx _ (by simp);refine .hh (.fo 0 0 eN aX.1 (H.aY r aX.2 k o eN aX.1) (by rw[i4];simp) vZ (by simp;omega) (by rw[i4];rfl) ?_)
        ·intro j y nR aW pY;rw[k5] at aW;simp only[List.flatten_cons,List.flatten_nil,List.append_nil] at pY;exact e2 j y nR aW pY
      ·simp at h
     ·simp at h
    ·simp at h
   ·simp at h
  ·simp at h
theorem Fl (ew:jN g s aH w)(H:oH s a7 cd bO)(bH:wN q bO){c:nd}{x df:aF}{al:List Prop}(h:pH s.a5 cd a7 bO c x=some (df,al))(bx:∀p∈al,p)
 (a0:q x) {v:Value} (aj:Rel w (s.ok g aH w) s.bg (s.bp aH) x v):jh s a7 bO q x df:=by
 have key : ∀(l:List DG) (c eC:List aF) (ps:List Prop) (vs:List Value),ns (qi s.a5 cd a7 bO) l c=some (eC,ps)->(∀p∈ps,p)->(∀x∈c,q x)->vs.length=c.length ->
  (∀(j:Nat) x u,c[j]? = some x->vs[j]? = some u->Rel w (s.ok g aH w) s.bg (s.bp aH) x u)->eC.length=c.length/\ ∀(j:Nat) x df,c[j]? = some x->eC[j]? = some df->jh s a7 bO q x df:=by
  intro l c eC ps vs h bx a0 aZ aj;obtain⟨e1,e2,bI⟩:=Ix _ l c eC ps h;refine⟨e1,fun j x df aa eE=> ?_⟩;obtain⟨y,cw,f1,f2,f3⟩:=bI j x df aa eE;have et:j<vs.length:=(by have:=gH aa;omega);exact My ew H bH f2 (fun p ah=>bx p (f3 p ah)) (a0 x (dH aa)) (aj j x _ aa (dz et))
 cases c with
 | bc c =>
  simp only[pH] at h;split at h
  ·rename_i aY
   split at h
   ·simp only[dB,dD] at h;obtain⟨rfl,rfl⟩:=h;exact .pure (aj.aid aY) a0
   ·exact My ew H bH h bx a0 aj
  ·exact My ew H bH h bx a0 aj
 | comp l =>
  cases x<;>simp only[pH,reduceCtorEq] at h
  ·rename_i c
   split at h
   ·rename_i eC ps aX;simp only[dB,dD] at h;obtain⟨rfl,rfl⟩:=h;obtain⟨vs,rfl,aZ,GG⟩:=aj.CE;obtain⟨e1,e2⟩:=key l c eC ps vs aX bx (fun y aW=>bH.ea _ _ a0 aW) aZ GG;exact .ea e1 e2
   ·simp at h
  ·rename_i f c
   split at h
   ·rename_i eC ps aX;simp only[dB,dD] at h;obtain⟨rfl,rfl⟩:=h;obtain⟨vs,rfl,aZ,GG⟩:=aj.Jb;obtain⟨e1,e2⟩:=key l c eC ps vs aX bx (fun y aW=>bH.fn _ _ _ a0 aW) aZ GG;exact .fn e1 e2
   ·simp at h
theorem Wm (ew:jN g s aH w)(H:oH s a7 cd bO){r:Nat}{lA:Nat->Nat}{row:List a3}(ep:∀k o,ee (some row) k=some o->s.al r (lA k)=some o)
 (a0 : ∀k o,ee (some row) k=some o-> ∀e∈o.es,∀x∈e,q x) :
 ∀(k:Nat) cw,ee (some (row.map (k7 cd))) k=some cw-> ∃o,ee (some row) k=some o/\qu s a7 bO q o cw:=by
 intro k cw eN;rw[lS,dJ] at eN
 cases a1:row[k]? with
 | none=>rw[a1] at eN;simp at eN
 | some o =>
  rw[a1] at eN;simp only[Option.map_some,dA] at eN;split at eN
  ·simp at eN
  ·rename_i dn
   simp only[dB] at eN;subst eN;have an:ee (some row) k=some o:=(by rw[lS,a1,dA,dy (by simpa [k7] using dn)]);have bL:s.al r (lA k)=some o:=ep k o an;refine⟨o,an,?_⟩;have gK:=ew.obj r (lA k) o bL
   have hlen : ∀e∈o.es,e.length=o.sz:=by
    cases ah:aH r (lA k) with
    | none=>rw[ah] at gK;simp only[ku] at gK;rw[gK];simp
    | some q=>rw[ah] at gK;obtain⟨_,_,_,_,e,_⟩:=gK;exact e
   refine⟨rfl,.inl rfl,by simp[k7],?_,fun j x df aa eE=> ?_⟩
   ·intro e he;simp only[k7,List.mem_map] at he;obtain⟨fe,nL,rfl⟩:=he;simpa using hlen fe nL
   ·simp only[k7] at eE
    rw[map_flatten,dJ,aa] at eE;simp only[Option.map_some,dB] at eE;subst eE;obtain⟨e,he,ty⟩:=vC aa;have ajt:=a0 k o an e he x ty
    cases ah:aH r (lA k) with
    | none=>rw[ah] at gK;simp only[ku] at gK;rw[gK] at aa;simp at aa
    | some wM =>
     obtain⟨b,m⟩:=wM;rw[ah] at gK;obtain⟨c,fA,f1,f2,f3,f4⟩:=gK;obtain⟨u,ki,mI,ix⟩:=f4 j x aa
     cases x with
     | ref r2 kA i2 aiN =>
      cases cq:cd r2 with
      | none=>simp only[pX,cq];exact .dead _
      | some p3=>simp only[pX,cq];exact .ref i2 aiN (H.ad _ _ cq _) (by cases ix<;>assumption)
     | bb r2 kA JY Jy =>
      cases cq:cd r2 with
      | none=>simp only[pX,cq];exact .dead _
      | some p3=>simp only[pX,cq];exact .bb JY Jy (H.ad _ _ cq _) (by cases ix<;>assumption)
     | kh r2 cj Xc h2 =>
      cases cq:cd r2 with
      | none=>simp only[pX,cq];exact .dead _
      | some p3=>simp only[pX,cq];exact .kh h2 (fun k=>H.ad _ _ cq _)
     | _ =>
      simp only[pX];split
      ·rename_i aY;exact .pure (ix.CY aY) ajt
      ·exact .dead _
theorem Iy (ew:jN g s aH w)(H:oH s a7 cd bO)(bH:wN q bO){c:jS}{r:Nat}{lA:Nat->Nat}{row eU:List a3}{al:List Prop}(ep:∀k o,ee (some row) k=some o->s.al r (lA k)=some o)
 (h:kv s.a5 cd a7 bO c row=some (eU,al)) (bx : ∀p∈al,p) (a0 : ∀k o,ee (some row) k=some o-> ∀e∈o.es,∀x∈e,q x) :
 eU.length=row.length/\(∀k o,ee (some row) k=some o->o.cT = .live) /\
 ∀(k:Nat) cw,ee (some eU) k=some cw-> ∃o,ee (some row) k=some o/\qu s a7 bO q o cw:=by
 have hlen : ∀k o,ee (some row) k=some o-> ∀e∈o.es,e.length=o.sz:=by
  intro k o an;have eN:s.al r (lA k)=some o:=ep k o an;have gK:=ew.obj r (lA k) o eN
  cases ah:aH r (lA k) with
  | none=>rw[ah] at gK;simp only[ku] at gK;rw[gK];simp
  | some q=>rw[ah] at gK;obtain⟨_,_,_,_,e,_⟩:=gK;exact e
 have vZ:w9 row->(∀k o,ee (some row) k=some o->o.cT = .live) /\
  ∀(k:Nat) cw,ee (some row) k=some cw-> ∃o,ee (some row) k=some o/\qu s a7 bO q o cw:=by
  intro ah
  have vd : ∀k o,ee (some row) k=some o->o∈row:=by
   intro k o an;unfold ee at an;simp only at an;split at an
   ·rename_i cw eN
    split at an
    ·simp at an
    ·simp at an;subst an;exact dH eN
   ·simp at an
  refine⟨fun k o an=>(ah o (vd k o an)).2,fun k o an=>⟨o,an,rfl,.inl rfl,rfl,hlen k o an,fun j x df aa eE=> ?_⟩⟩;rw[aa] at eE;simp at eE;subst eE;obtain⟨e,he,ty⟩:=vC aa;exact .pure ((ah o (vd k o an)).1 e he x ty) (a0 k o an e he x ty)
 cases c with
 | pure =>
  simp only[kv,dB,dD] at h;obtain⟨rfl,rfl⟩:=h;exact⟨rfl,vZ (bx _ (by simp))⟩
 | cF aL =>
  simp only[kv,dB,dD] at h;obtain⟨rfl,rfl⟩:=h;have e:row=aL:=bx _ (by simp);subst e;exact⟨rfl,vZ (bx _ (by simp))⟩
 | bu aL =>
  simp only[kv,dB,dD] at h;obtain⟨rfl,rfl⟩:=h;have e:aL=row.map (k7 cd):=bx _ (by simp);have N8:ox row:=bx _ (by simp);subst e
  refine⟨by simp,fun k o an=>by
   unfold ee at an;simp only at an;split at an
   ·rename_i cw eN
    split at an
    ·simp at an
    ·rename_i dn;simp at an;subst an;exact(N8 _ (dH eN)).resolve_right dn
   ·simp at an,Wm ew H ep a0⟩
 | rx aL=>cases row with
  | nil=>simp[kv] at h
  | cons o l=>cases l<;>simp[kv] at h
 | drop=>cases row with
  | nil=>simp[kv] at h
  | cons o l=>cases l<;>simp[kv] at h
 | box l =>
  match row,h with
  | [o],h =>
   simp only[kv] at h;split at h
   ·rename_i c i4
    split at h
    ·rename_i pV
     split at h
     ·rename_i eC ps aX
      simp only[dB,dD] at h;obtain⟨rfl,rfl⟩:=h;have h0:ee (some [o]) 0=some o:=(by rw[nU];simp[pV]);refine⟨rfl,fun k p ah=> ?_,fun k p ah=> ?_⟩
      ·rw[nU] at ah
       split at ah
       ·simp at ah;subst ah;exact pV
       ·simp at ah
      ·rw[nU] at ah
       split at ah
       ·rename_i vi
        obtain⟨rfl,-⟩:=vi;simp only[dB] at ah;subst ah;refine⟨o,h0,?_⟩;have eN:s.al r (lA 0)=some o:=ep 0 o h0;have gK:=ew.obj r (lA 0) o eN
        cases lV:aH r (lA 0) with
        | none=>rw[lV] at gK;simp only[ku] at gK;rw[i4] at gK;simp at gK
        | some q =>
         obtain⟨b,m⟩:=q;rw[lV] at gK;obtain⟨cQ,fA,g1,g2,g3,g4⟩:=gK;have NG:c.length=o.sz:=g3 c (by rw[i4];simp);have k5:o.es.flatten=c:=(by rw[i4];simp);obtain⟨e1,e2⟩:=Ff (vs:=(List.range c.length).map fun j=>(cQ[j]?).getD undef) ew H bH aX bx (fun y aW=>a0 0 o h0 c (by rw[i4];simp) y aW) (by simp) (by intro j y u aW hu;have av:=gH aW;rw[dJ,List.getElem?_range av] at hu;simp only[Option.map_some,dB] at hu;obtain⟨mY,ki,-,ix⟩:=g4 j y (by rw[k5];exact aW);rw[ki] at hu;simp at hu;subst hu;exact ix);refine⟨rfl,.inl rfl,by simp[i4],by simp;omega,fun j x df aa eE=> ?_⟩;rw[k5] at aa;simp only[List.flatten_cons,List.flatten_nil,List.append_nil] at eE;exact e2 j x df aa eE
       ·simp at ah
     ·simp at h
    ·simp at h
   ·simp at h
  | [],h=>simp[kv] at h
  | _::_::_,h=>simp[kv] at h
end
def Iz (P:Program)(f:FuncId):Prop:= ∃fn,P.funcs[f]? = some fn/\(fn.name == "runtime.NumGoroutine")=false/\fn.body.isSome=true
def Con (P:Program)(f:FuncId)(args:List aF)(T:List (List a3))(r:aF)(im:List (List a3)):Prop:=Iz P f/\aia P f args T r im
def v5 (k:hC):Bool:=k = .j3
def mb (_:hC):Bool:=true
def mC (_:hC):Bool:=false
def Src.r:Src->Nat
 | .row r=>r
 | .al r _ _=>r
def Src.has:Src->Nat->Nat->Prop
 | .row r,q,_=>q=r
 | .al r k _,q,eG=>q=r/\eG=k
def Src.lM:Src->Nat->Nat
 | .row _,k=>k
 | .al ..,_=>0
def mn (l:List Src):ib:=fun j i=>match l[j]? with
 | some (.row r)=>some (r,i)
 | some (.al r k _)=>if i=0 then some (r,k) else none
 | none=>none
def q4 (n:Nat):List Src->Nat->Option Nat
 | [],_=>none
 | .row r::l,q=>if r=q then some n else q4 (n+1) l q
 | .al .. :: l,q=>q4 (n+1) l q
def kL (n:Nat):List Src->ib
 | [],_,_=>none
 | .row r::l,q,k=>if q=r then some (n,k) else kL (n+1) l q k
 | .al r eG _::l,q,k=>if q=r/\k=eG then some (n,0) else kL (n+1) l q k
def v7 (l:List Src):Nat->Option Nat:=fun j=>match l[j]? with
 | some (.row r)=>some r
 | _=>none
def apart:Src->Src->Option (List Prop)
 | .al r k _,.al fB eG _=>if r=fB then some [k≠eG] else some []
 | a,b=>if a.r=b.r then none else some []
def Jd (a:Src):List Src->Option (List Prop)
 | []=>some []
 | b::l=>match apart a b,Jd a l with
  | some x,some y=>some (x++y)
  | _,_=>none
def Jo:List Src->Option (List Prop)
 | []=>some []
 | a::l=>match Jd a l,Jo l with
  | some x,some y=>some (x++y)
  | _,_=>none
def Gg (l:List Src):Prop:=l.Pairwise fun a b=> ∀r k,¬(a.has r k/\b.has r k)
theorem afM {a b:Src}{al:List Prop}(h:apart a b=some al)(bx:∀p∈al,p): ∀r k,¬(a.has r k/\b.has r k):=by
 rintro r k ⟨h1,h2⟩
 have aj : ∀c:Src,c.has r k->c.r=r:=fun c aX=>by
  cases c with
  | row r0=>exact Eq.symm aX
  | al r0 kB nh=>exact Eq.symm aX.1
 have e:=(aj a h1).trans (aj b h2).symm
 cases a with
 | row r0=>simp only[apart] at h;rw[dw e] at h;simp at h
 | al r0 kB nh =>
  cases b with
  | row r1=>simp only[apart] at h;rw[dw e] at h;simp at h
  | al r1 lO b4 =>
   simp only[apart] at h;rw[dw (show r0=r1 from e)] at h;simp only[dB] at h;subst h;exact bx _ (List.mem_singleton.2 rfl) (h1.2.symm.trans h2.2)
theorem TX {a:Src}: ∀ {l:List Src} {al:List Prop},Jd a l=some al->(∀p∈al,p)-> ∀b∈l,∀r k,¬(a.has r k/\b.has r k)
 | [],_,_,_,_,aP=>by simp at aP
 | b::l,al,h,bx,c,aX=>by
  simp only[Jd] at h;split at h
  ·rename_i x y h1 h2
   simp only[dB] at h;subst h;rcases List.mem_cons.1 aX with rfl|aX
   ·exact afM h1 fun p ah=>bx p (by simp[ah])
   ·exact TX h2 (fun p ah=>bx p (by simp[ah])) c aX
  ·simp at h
theorem Uv : ∀ {l:List Src} {al:List Prop},Jo l=some al->(∀p∈al,p)->Gg l
 | [],_,_,_=>List.Pairwise.nil
 | a::l,al,h,bx=>by
  simp only[Jo] at h;split at h
  ·rename_i x y h1 h2;simp only[dB] at h;subst h;exact List.pairwise_cons.2 ⟨TX h1 fun p ah=>bx p (by simp[ah]),Uv h2 fun p ah=>bx p (by simp[ah])⟩
  ·simp at h
theorem xb {l:List Src}{j i r k:Nat}:mn l j i=some (r,k)↔ ∃a,l[j]? = some a/\a.has r k/\i=a.lM k:=by
 unfold mn
 cases h:l[j]? with
 | none=>simp
 | some a =>
  cases a with
  | row r0 =>
   simp only[dB,dD,exists_eq_left',Src.has,Src.lM];constructor<;>rintro⟨a,b⟩<;>exact⟨a.symm,b⟩
  | al r0 kB o =>
   simp only[dB,exists_eq_left',Src.has,Src.lM];by_cases e:i=0
   ·rw[dw e];simp only[dB,dD,e,and_true];constructor<;>rintro⟨a,b⟩<;>exact⟨a.symm,b.symm⟩
   ·rw[dy e];simp[e]
theorem yP : ∀ {l:List Src} {n r k j i:Nat},kL n l r k=some (j,i)-> ∃a,n<=j/\l[j-n]? = some a/\a.has r k/\i=a.lM k
 | [],_,_,_,_,_,h=>by simp[kL] at h
 | .row r0::l,n,r,k,j,i,h=>by
  simp only[kL] at h;split at h
  ·rename_i e;simp only[dB,dD] at h;obtain⟨rfl,rfl⟩:=h;exact⟨.row r0,dF _,by simp,e,rfl⟩
  ·obtain⟨a,h1,h2,U,ai⟩:=yP h;exact⟨a,by omega,by rw[show j-n=(j-(n+1))+1 by omega,List.getElem?_cons_succ];exact h2,U,ai⟩
 | .al r0 kB o::l,n,r,k,j,i,h=>by
  simp only[kL] at h;split at h
  ·rename_i e;simp only[dB,dD] at h;obtain⟨rfl,rfl⟩:=h;exact⟨.al r0 kB o,dF _,by simp,e,rfl⟩
  ·obtain⟨a,h1,h2,U,ai⟩:=yP h;exact⟨a,by omega,by rw[show j-n=(j-(n+1))+1 by omega,List.getElem?_cons_succ];exact h2,U,ai⟩
theorem uX (n:Nat)(a:Src)(l:List Src)(r k:Nat)(h:¬a.has r k):kL n (a::l) r k=kL (n+1) l r k:=by cases a<;>simp only[kL,Src.has] at h ⊢ <;> rw[dy h]
theorem afN (n:Nat)(a:Src)(l:List Src)(r k:Nat)(h:a.has r k):kL n (a::l) r k=some (n,a.lM k):=by cases a<;>simp only[kL,Src.has,Src.lM] at h ⊢ <;> rw[dw h]
theorem FC : ∀ {l:List Src} {n r k j:Nat} {a:Src},Gg l->l[j]? = some a->a.has r k->kL n l r k=some (n+j,a.lM k)
 | b::l,n,r,k,0,a,_,h,bF=>by simp at h;subst h;exact afN n b l r k bF
 | b::l,n,r,k,j+1,a,bH,h,bF=>by simp at h;have bH:=List.pairwise_cons.1 bH;rw[uX n b l r k fun aP=>bH.1 a (dH h) r k ⟨aP,bF⟩,FC (j:=j) bH.2 h bF];congr 2;omega
theorem ahs {a:Src}{r k fB eG:Nat}(h:a.has r k)(c3:a.has fB eG)(e:a.lM k=a.lM eG):r=fB/\k=eG:=by cases a<;>simp only[Src.has,Src.lM] at h c3 e<;>omega
theorem agK {l:List Src}{n r k fB eG:Nat}{p:Nat×Nat}(h:kL n l r k=some p)(c3:kL n l fB eG=some p):r=fB/\k=eG:=by obtain⟨j,i⟩:=p;obtain⟨a,h1,h2,U,ai⟩:=yP h;obtain⟨eh,tx,N9,aju,amv⟩:=yP c3;rw[h2] at N9;simp at N9;subst N9;exact ahs U aju (by omega)
theorem Mk : ∀ {l:List Src} {n r j:Nat},q4 n l r=some j->n<=j/\l[j-n]? = some (.row r)
 | [],_,_,_,h=>by simp[q4] at h
 | .row r0::l,n,r,j,h=>by
  simp only[q4] at h;split at h
  ·rename_i e;simp at h;subst h;subst e;exact⟨dF _,by simp⟩
  ·obtain⟨h1,h2⟩:=Mk h;exact⟨by omega,by rw[show j-n=(j-(n+1))+1 by omega,List.getElem?_cons_succ];exact h2⟩
 | .al r0 kB o::l,n,r,j,h=>by simp only[q4] at h;obtain⟨h1,h2⟩:=Mk h;exact⟨by omega,by rw[show j-n=(j-(n+1))+1 by omega,List.getElem?_cons_succ];exact h2⟩
theorem TY : ∀ {l:List Src} {n r:Nat},q4 n l r=none->Src.row r ∉ l
 | [],_,_,_=>by simp
 | .row r0::l,n,r,h=>by
  simp only[q4] at h;split at h
  ·simp at h
  ·rename_i e;simp only[List.mem_cons,Src.row.injEq,not_or];exact⟨fun h=>e h.symm,TY h⟩
 | .al r0 kB o::l,n,r,h=>by simp only[q4] at h;simp only[List.mem_cons,reduceCtorEq,false_or];exact TY h
def nX (a5:Nat->Option (List a3))(cd:Nat->Option Nat)(a7:ib):List Src->List jS->Option (List (List a3)×List Prop)
 | [],[]=>some ([],[])
 | .row r::l,c::d4=>match a5 r with
  | some row=>match kv a5 cd a7 v5 c row,nX a5 cd a7 l d4 with
   | some (eU,b4),some (T,aU)=>some (eU::T,b4++aU)
   | _,_=>none
  | none=>none
 | .al r k o::l,c::d4=>match a5 r with
  | some row=>match kv a5 cd a7 v5 c [o],nX a5 cd a7 l d4 with
   | some (eU,b4),some (T,aU)=>some (eU::T,(ee (some row) k=some o)::(b4++aU))
   | _,_=>none
  | none=>none
 | _,_=>none
def mL (Ac:Nat->Option (List a3))(cd:Nat->Option Nat)(mv:ib):(Nat->Option (List a3))->List Src->List jS->List (List a3)->Option (List (Nat×List a3)×List Prop)
 | _,[],[],[]=>some ([],[])
 | a5,.row q::l,c::d4,row::T=>match kv Ac cd mv mC c row with
  | some (eU,b4)=>match mL Ac cd mv (fun x=>if x=q then some eU else a5 x) l d4 T with
   | some (u,aU)=>some ((q,eU)::u,b4++aU)
   | none=>none
  | none=>none
 | a5,.al q k _::l,c::d4,row::T=>match a5 q with
  | some nw=>match kv Ac cd mv mC c row with
   | some ([cw],b4)=>match mL Ac cd mv (fun x=>if x=q then some (nw.set k cw) else a5 x) l d4 T with
    | some (u,aU)=>some ((q,nw.set k cw)::u,b4++aU)
    | none=>none
   | _=>none
  | none=>none
 | _,_,_,_=>none
def oB (T:List (List a3)):Prop:= ∀row∈T,∀o∈row,∀e∈o.es,∀x∈e,bW x
def CZ (P:Program)(a5:Nat->Option (List a3))(a6:Nat)(f:FuncId)(args:List aF)(cQ:He):Option je :=
 let l:=if cQ.fC.length=cQ.a7.length then cQ.a7 else cQ.a7++[.row a6]
 match Jo cQ.a7 with
 | none=>none
 | some nh =>
  if cQ.a7.any (fun a=>decide (a.r=a6)) then none else
  if cQ.eJ then
   match cQ.a7 with
   | [] =>
    match ns (pH a5 (fun _=>none) (mn []) mb) cQ.ac args,pH (fun j=>cQ.fC[j]?) (v7 l) (kL 0 l) mC cQ.hI cQ.r,
     mL (fun j=>cQ.fC[j]?) (v7 l) (kL 0 l) a5 l cQ.iN cQ.fC with
    | some (tm,b4),some (fB,eR),some (u,e8)=>some {val:=fB,gW:=u,gq:=b4++eR++e8++[Con P f tm [] cQ.r cQ.fC,bW cQ.r]++(if cQ.fC.isEmpty then [] else [oB cQ.fC])}
    | _,_,_=>none
   | _=>none
  else
   match ns (pH a5 (q4 0 cQ.a7) (mn cQ.a7) v5) cQ.ac args,nX a5 (q4 0 cQ.a7) (mn cQ.a7) cQ.a7 cQ.d4,
    pH (fun j=>cQ.fC[j]?) (v7 l) (kL 0 l) mC cQ.hI cQ.r,mL (fun j=>cQ.fC[j]?) (v7 l) (kL 0 l) a5 l cQ.iN cQ.fC with
   | some (tm,b4),some (T,aU),some (fB,eR),some (u,e8) =>
    some {val:=fB,gW:=u,gq:=nh++b4++aU++eR++e8++[Con P f tm T cQ.r cQ.fC]}
   | _,_,_,_=>none
theorem Tu {a5:Nat->Option (List a3)}{cd:Nat->Option Nat}{a7:ib}{bO:hC->Bool}{c:jS}{row eU:List a3}{al:List Prop}(h:kv a5 cd a7 bO c row=some (eU,al))(bx:∀p∈al,p):
 ∀k o,ee (some row) k=some o->o.cT = .live:=by
 have vd : ∀k o,ee (some row) k=some o->o∈row/\o.cT≠ .gone:=by
  intro k o an;rw[lS] at an
  cases a1:row[k]? with
  | none=>rw[a1] at an;simp at an
  | some p =>
   rw[a1,dA] at an;split at an
   ·simp at an
   ·rename_i e;simp at an;subst an;exact⟨dH a1,e⟩
 intro k o an;obtain⟨h1,h2⟩:=vd k o an
 cases c with
 | pure =>
  simp only[kv,dB,dD] at h;obtain⟨rfl,rfl⟩:=h;exact((bx _ (List.mem_singleton.2 rfl):w9 row) o h1).2
 | cF aL =>
  simp only[kv,dB,dD] at h;obtain⟨rfl,rfl⟩:=h;have e:row=aL:=bx _ (by simp);have ah:w9 aL:=bx _ (by simp);exact(ah o (e▸h1)).2
 | bu aL =>
  simp only[kv,dB,dD] at h;obtain⟨rfl,rfl⟩:=h;have ah:ox row:=bx _ (by simp);exact(ah o h1).resolve_right h2
 | rx aL=>cases row with
  | nil=>simp[kv] at h
  | cons o l=>cases l<;>simp[kv] at h
 | drop=>cases row with
  | nil=>simp[kv] at h
  | cons o l=>cases l<;>simp[kv] at h
 | box l =>
  match row,h,h1 with
  | [p],h,h1 =>
   simp only[kv] at h;rw[List.mem_singleton] at h1;subst h1;split at h
   ·split at h
    ·rename_i e;exact e
    ·simp at h
   ·simp at h
  | [],h,_=>simp[kv] at h
  | _::_::_,h,_=>simp[kv] at h
section
variable {P:Program} {g:G} {s:S} {aH:gv} {a:Act} {w:World}
theorem Ml (ew:jN g s aH w){a7:ib}{cd:Nat->Option Nat}(H:oH s a7 cd v5): ∀(l:List Src) (d4:List jS) (T:List (List a3)) (al:List Prop),
 nX s.a5 cd a7 l d4=some (T,al)->(∀p∈al,p)->T.length=l.length/\ ∀(j:Nat) eU b,T[j]? = some eU->l[j]? = some b ->
  (∀r k o,b.has r k->s.al r k=some o->o.cT = .live)/\(∀r k,b.has r k->s.bg r k->b.lM k<eU.length) /\
  (∀r k o,b = .al r k o->s.al r k=some o) /\
  ∀(i:Nat) cw,ee (some eU) i=some cw-> ∃r k o,b.has r k/\i=b.lM k/\s.al r k=some o/\qu s a7 v5 nO o cw
 | [],[],T,al,h,_=>by simp[nX] at h;obtain⟨rfl,rfl⟩:=h;exact⟨rfl,fun j eU r av=>by simp at av⟩
 | .row r::l,c::d4,T,al,h,bx=>by
  simp only[nX] at h;split at h
  ·rename_i row ep
   split at h
   ·rename_i aB b4 o2 aU h1 h2
    simp only[dB,dD] at h;obtain⟨rfl,rfl⟩:=h;obtain⟨e1,e2⟩:=Ml ew H l d4 o2 aU h2 (fun p ah=>bx p (by simp[ah]));have kW : ∀k,s.al r k=ee (some row) k:=fun k=>(by unfold S.al;rw[ep]);obtain⟨f0,f1,f2⟩:=Iy (q:=nO) (lA:=id) ew H (xI _) (fun k o an=>(kW k).trans an) h1 (fun p ah=>bx p (by simp[ah])) (fun _ _ _ _ _ _ _=>trivial);refine⟨by simp[e1],fun j eU b av aP=> ?_⟩
    cases j with
    | zero =>
     simp at av aP;subst av;subst aP;refine⟨fun q k o a0 an=> ?_,fun q k a0 hu=> ?_,fun _ _ _ e=>by simp at e,fun i cw eN=> ?_⟩
     ·have a0:q=r:=a0;subst a0;rw[kW] at an;exact f1 k o an
     ·have a0:q=r:=a0;subst a0;rw[f0];simpa [S.bg,ep,Src.lM] using hu
     ·obtain⟨o,g1,g2⟩:=f2 i cw eN;exact⟨r,i,o,rfl,rfl,(kW i).trans g1,g2⟩
    | succ j=>simp at av aP;exact e2 j eU b av aP
   ·simp at h
  ·simp at h
 | .al r kB nh::l,c::d4,T,al,h,bx=>by
  simp only[nX] at h;split at h
  ·rename_i row ep
   split at h
   ·rename_i aB b4 o2 aU h1 h2
    simp only[dB,dD] at h;obtain⟨rfl,rfl⟩:=h;obtain⟨e1,e2⟩:=Ml ew H l d4 o2 aU h2 (fun p ah=>bx p (by simp[ah]));have an:s.al r kB=some nh:=by unfold S.al;rw[ep];exact bx _ (by simp)
    have nJ : ∀k o,ee (some [nh]) k=some o->k=0/\o=nh:=fun k o a1=>by
     rw[nU] at a1;split at a1
     ·rename_i e;simp at a1;exact⟨e.1,a1.symm⟩
     ·simp at a1
    have Oa:nh.cT≠ .gone:=by
     unfold S.al at an;rw[ep,lS] at an
     cases a1:row[kB]? with
     | none=>rw[a1] at an;simp at an
     | some p =>
      rw[a1,dA] at an;split at an
      ·simp at an
      ·rename_i e;simp at an;subst an;exact e
    obtain⟨f0,f1,f2⟩:=Iy (q:=nO) (lA:=fun _=>kB) (r:=r) ew H (xI _) (fun k o a1=>by rw[(nJ k o a1).2];exact an) h1 (fun p ah=>bx p (by simp[ah])) (fun _ _ _ _ _ _ _=>trivial);refine⟨by simp[e1],fun j eU b av aP=> ?_⟩
    cases j with
    | zero =>
     simp at av aP;subst av;subst aP;refine⟨fun q k o a0 sy=> ?_,fun q k a0 hu=> ?_,fun fB eG cw e=> ?_,fun i cw eN=> ?_⟩
     ·obtain⟨rfl,rfl⟩:q=r/\k=kB:=a0;rw[an] at sy;simp at sy;subst sy;exact f1 0 nh (by rw[nU];simp[Oa])
     ·rw[f0];simp[Src.lM]
     ·cases e;exact an
     ·obtain⟨o,g1,g2⟩:=f2 i cw eN;obtain⟨rfl,rfl⟩:=nJ i o g1;exact⟨r,kB,o,⟨rfl,rfl⟩,rfl,an,g2⟩
    | succ j=>simp at av aP;exact e2 j eU b av aP
   ·simp at h
  ·simp at h
 | [],_::_,_,_,h,_=>by simp[nX] at h
 | .row _::_,[],_,_,h,_=>by simp[nX] at h
 | .al .. :: _,[],_,_,h,_=>by simp[nX] at h
theorem Ma {hj:G}{s1:S}{mH:gv}{bY:World}(ew:jN hj s1 mH bY){mv:ib}{q:aF->Prop}{cd:Nat->Option Nat}(H:oH s1 mv cd mC)(bH:wN q mC)
 (a0 : ∀j i o,s1.al j i=some o-> ∀e∈o.es,∀x∈e,q x) :
 ∀(l:List Src) (d4:List jS) (T:List (List a3)) (u:List (Nat×List a3)) (al:List Prop) (n:Nat) (s:S),Gg l->(∀j row,T[j]? = some row->s1.a5 (n+j)=some row) ->
 (∀r k j i,kL n l r k=some (j,i)->s.bg r k->s1.bg j i)->(∀r k o,Src.al r k o∈l->s.bg r k) ->
 mL s1.a5 cd mv s.a5 l d4 T=some (u,al)->(∀p∈al,p)->T.length=l.length/\(s.jD u).E=s.E /\
  (∀r k o,(s.jD u).al r k=some o->(∃j i p,kL n l r k=some (j,i)/\s1.al j i=some p/\qu s1 mv mC q p o)\/(kL n l r k=none/\s.al r k=some o)) /\
  (∀r k,s.bg r k->(s.jD u).bg r k)/\(∀r k j i,kL n l r k=some (j,i)->s1.bg j i->(s.jD u).bg r k)
 | [],[],[],u,al,n,s,_,_,_,_,h,_=>by simp[mL] at h;obtain⟨rfl,rfl⟩:=h;exact⟨rfl,rfl,fun r k o an=> .inr ⟨rfl,an⟩,fun r k h=>h,fun r k j i h=>by simp[kL] at h⟩
 | .row q0::l,c::d4,row::T,u,al,n,s,tJ,hM,hu,uu,h,bx=>by
  simp only[mL] at h;split at h
  ·rename_i eU b4 h1
   split at h
   ·rename_i mI aU h2
    simp only[dB,dD] at h;obtain⟨rfl,rfl⟩:=h;have GH:=List.pairwise_cons.1 tJ;have jF:s1.a5 n=some row:=hM 0 row rfl;have zB : ∀k,s1.al n k=ee (some row) k:=fun k=>(by unfold S.al;rw[jF]);obtain⟨f0,f1,f2⟩:=Iy (q:=q) (lA:=id) (r:=n) ew H bH (fun k o an=>(zB k).trans an) h1 (fun p ah=>bx p (by simp[ah])) (fun k o an=>a0 n k o ((zB k).trans an));have hO : ∀k j i,kL (n+1) l q0 k≠some (j,i):=fun k j i hm=>by obtain⟨b,jH,iw,sP,OZ⟩:=yP hm;exact GH.1 b (dH iw) q0 k ⟨rfl,sP⟩
    have C8 : ∀r k,s.bg r k->(s.setRow q0 eU).bg r k:=fun r k a1=>by
     rw[pb];by_cases e:r=q0
     ·subst e;rw[dw rfl,f0];have:=hu r k n k (by simp[kL]) a1;simpa [S.bg,jF] using this
     ·rw[dy e];exact a1
    obtain⟨e1,e2,bI,c1,di⟩:=Ma ew H bH a0 l d4 T mI aU (n+1) (s.setRow q0 eU) GH.2 (fun j row av=>by rw[Nat.add_assoc,Nat.add_comm 1 j];exact hM (j+1) row (by simpa using av))
     (fun r k j i hm a1=>by have dd:r≠q0:=(by rintro rfl;exact hO _ _ _ hm);refine hu r k j i ?_ (by rw[pb,dy dd] at a1;exact a1);rw[uX n (.row q0) l r k dd];exact hm)
     (fun r k o hm=>C8 r k (uu r k o (by simp[hm]))) h2 (fun p ah=>bx p (by simp[ah]))
    refine⟨by simp[e1],e2,fun r k o an=> ?_,fun r k a1=>c1 r k (C8 r k a1),fun r k j i hm a1=> ?_⟩
    ·rcases bI r k o an with ⟨j,i,p,jH,iw,sP⟩|⟨jH,iw⟩
     ·have dd:r≠q0:=(by rintro rfl;exact hO _ _ _ jH);exact .inl ⟨j,i,p,by rw[uX n (.row q0) l r k dd];exact jH,iw,sP⟩
     ·rw[nk] at iw
      by_cases e:r=q0
      ·subst e;rw[dw rfl] at iw;obtain⟨p,g1,g2⟩:=f2 k o iw;exact .inl ⟨n,k,p,by simp[kL],(zB k).trans g1,g2⟩
      ·rw[dy e] at iw;exact .inr ⟨by rw[uX n (.row q0) l r k e];exact jH,iw⟩
    ·by_cases e:r=q0
     ·subst e;simp only[kL,if_true] at hm;simp only[dB,dD] at hm;obtain⟨rfl,rfl⟩:=hm;refine c1 r k ?_;rw[pb,dw rfl,f0];simpa [S.bg,jF] using a1
     ·rw[uX n (.row q0) l r k e] at hm;exact di r k j i hm a1
   ·simp at h
  ·simp at h
 | .al q0 kB nh::l,c::d4,row::T,u,al,n,s,tJ,hM,hu,uu,h,bx=>by
  simp only[mL] at h;split at h
  ·rename_i nw Jz
   split at h
   ·rename_i cw b4 h1
    split at h
    ·rename_i mI aU h2
     simp only[dB,dD] at h;obtain⟨rfl,rfl⟩:=h;have GH:=List.pairwise_cons.1 tJ;have jF:s1.a5 n=some row:=hM 0 row rfl;have zB : ∀k,s1.al n k=ee (some row) k:=fun k=>(by unfold S.al;rw[jF]);obtain⟨f0,f1,f2⟩:=Iy (q:=q) (lA:=id) (r:=n) ew H bH (fun k o an=>(zB k).trans an) h1 (fun p ah=>bx p (by simp[ah])) (fun k o an=>a0 n k o ((zB k).trans an));have hO : ∀j i,kL (n+1) l q0 kB≠some (j,i):=fun j i hm=>(by obtain⟨b,jH,iw,sP,OZ⟩:=yP hm;exact GH.1 b (dH iw) q0 kB ⟨⟨rfl,rfl⟩,sP⟩);have C8 : ∀r k,s.bg r k->(s.setRow q0 (nw.set kB cw)).bg r k:=HW s Jz (by simp);have vi:kB<nw.length:=by have:=uu q0 kB nh (by simp);simpa [S.bg,Jz] using this
     obtain⟨e1,e2,bI,c1,di⟩:=Ma ew H bH a0 l d4 T mI aU (n+1) (s.setRow q0 (nw.set kB cw)) GH.2 (fun j row av=>by rw[Nat.add_assoc,Nat.add_comm 1 j];exact hM (j+1) row (by simpa using av))
      (fun r k j i hm a1=>by
        have dd : ¬(Src.al q0 kB nh).has r k:=(by rintro⟨rfl,rfl⟩;exact hO _ _ hm);refine hu r k j i (by rw[uX n _ l r k dd];exact hm) ?_;rw[pb] at a1;split at a1
        ·rename_i e;subst e;simpa [S.bg,Jz] using a1
        ·exact a1)
      (fun r k o hm=>C8 r k (uu r k o (by simp[hm]))) h2 (fun p ah=>bx p (by simp[ah]))
     refine⟨by simp[e1],e2,fun r k o an=> ?_,fun r k a1=>c1 r k (C8 r k a1),fun r k j i hm a1=> ?_⟩
     ·rcases bI r k o an with ⟨j,i,p,jH,iw,sP⟩|⟨jH,iw⟩
      ·have dd : ¬(Src.al q0 kB nh).has r k:=(by rintro⟨rfl,rfl⟩;exact hO _ _ jH);exact .inl ⟨j,i,p,by rw[uX n _ l r k dd];exact jH,iw,sP⟩
      ·rw[nk] at iw
       by_cases e:r=q0
       ·subst e
        rw[dw rfl,lS,List.getElem?_set] at iw;by_cases e2:kB=k
        ·subst e2;rw[dw rfl,dw vi,dA] at iw;have sP:ee (some [cw]) 0=some o:=(by rw[lS];exact iw);obtain⟨p,g1,g2⟩:=f2 0 o sP;exact .inl ⟨n,0,p,by simp[kL],(zB 0).trans g1,g2⟩
        ·rw[dy e2] at iw;have dd : ¬(Src.al r kB nh).has r k:=(by rintro⟨-,rfl⟩;exact e2 rfl);exact .inr ⟨by rw[uX n _ l r k dd];exact jH,by unfold S.al;rw[Jz,lS];exact iw⟩
       ·rw[dy e] at iw;have dd : ¬(Src.al q0 kB nh).has r k:=(by rintro⟨rfl,-⟩;exact e rfl);exact .inr ⟨by rw[uX n _ l r k dd];exact jH,iw⟩
     ·by_cases e:(Src.al q0 kB nh).has r k
      ·obtain⟨rfl,rfl⟩:=e;exact c1 r k (C8 r k (uu r k nh (by simp)))
      ·rw[uX n _ l r k e] at hm;exact di r k j i hm a1
    ·simp at h
   ·simp at h
  ·simp at h
 | [],[],_::_,_,_,_,_,_,_,_,_,h,_=>by simp[mL] at h
 | [],_::_,_,_,_,_,_,_,_,_,_,h,_=>by simp[mL] at h
 | .row _::_,[],_,_,_,_,_,_,_,_,_,h,_=>by simp[mL] at h
 | .al .. :: _,[],_,_,_,_,_,_,_,_,_,h,_=>by simp[mL] at h
 | .row _::_,_::_,[],_,_,_,_,_,_,_,_,h,_=>by simp[mL] at h
 | .al .. :: _,_::_,[],_,_,_,_,_,_,_,_,h,_=>by simp[mL] at h
theorem Uw (h:dg g s aH a w){a6:Nat}(fN:s.a5 a6=none){f:FuncId}{args:List aF}{cQ:He}{l:List Src}(pr:l=if cQ.fC.length=cQ.a7.length then cQ.a7 else cQ.a7++[.row a6])
 (tJ:Gg cQ.a7) (zM : ∀a∈cQ.a7,a.r≠a6) {bO:hC->Bool} {A:Nat->Prop} {q:aF->Prop} {T:List (List a3)} {cd:Nat->Option Nat}
 (hA : ∀b,A b->b<w.heap.size) (N5 : ∀b,s.ok g aH w b->A b) (N6 : ∀r k o b m,s.al r k=some o->bO o.cT=true->aH r k=some (b,m)->A b)
 (ajv:(∀b,A b->s.ok g aH w b)\/(∀x,q x->bW x)) (bH:wN q mC) (Kq:oH s (mn cQ.a7) cd bO)
 (du:sA s (mn cQ.a7) bO nO (fS T).a5) (sj : ∀r k o,(∃j i,mn cQ.a7 j i=some (r,k))->s.al r k=some o->o.cT = .live) (hex : ∀r k o,Src.al r k o∈cQ.a7->s.bg r k)
 {tm:List aF} {b4:List Prop} (oT:ns (pH s.a5 cd (mn cQ.a7) bO) cQ.ac args=some (tm,b4)) (uv : ∀p∈b4,p)
 {fB:aF} {eR:List Prop} (Dg:pH (fun j=>cQ.fC[j]?) (v7 l) (kL 0 l) mC cQ.hI cQ.r=some (fB,eR)) (Ob : ∀p∈eR,p)
 {u:List (Nat×List a3)} {e8:List Prop} (GI:mL (fun j=>cQ.fC[j]?) (v7 l) (kL 0 l) s.a5 l cQ.iN cQ.fC=some (u,e8)) (ajw : ∀p∈e8,p)
 (C9:Con P f tm T cQ.r cQ.fC) (ajx:q cQ.r) (ajy : ∀j i o,(fS cQ.fC).al j i=some o-> ∀e∈o.es,∀x∈e,q x)
 {vs:List Value} (aZ:vs.length=args.length) (hargs : ∀(j:Nat) x v,args[j]? = some x->vs[j]? = some v->Rel w (s.ok g aH w) s.bg (s.bp aH) x v) :
 Iz P f/\Calls P f vs.toArray w fun e bY=> ∃v b0,e = .returned v/\dg g (s.jD u) b0 a bY/\Rel bY ((s.jD u).ok g b0 bY) (s.jD u).bg ((s.jD u).bp b0) fB v:=by
 have Oc:Gg l:=by
  subst pr;split
  ·exact tJ
  ·refine List.pairwise_append.2 ⟨tJ,List.pairwise_singleton _ _,fun b aP c aX r k hc=> ?_⟩
   rw[List.mem_singleton] at aX;subst aX;have h1:r=a6:=hc.2;subst h1
   cases b with
   | row r0=>exact zM _ aP (Eq.symm hc.1)
   | al r0 kB nh=>exact zM _ aP (Eq.symm hc.1.1)
 have Xd : ∀(j:Nat) b,cQ.a7[j]? = some b->l[j]? = some b:=by
  intro j b av;subst pr;split
  ·exact av
  ·rw[List.getElem?_append_left (gH av)];exact av
 have GJ : ∀(j:Nat) b,l[j]? = some b->cQ.a7[j]? = some b\/b = .row a6:=by
  intro j b av;subst pr;split at av
  ·exact .inl av
  ·rw[List.getElem?_append] at av
   split at av
   ·exact .inl av
   ·right;have:=gH av;simp at this;rw[show j-cQ.a7.length=0 by omega] at av;simpa using av.symm
 refine⟨C9.1,?_⟩;obtain⟨hj,q1,q2,bD,O0,ct,dU,er,gT⟩:=enter h.tojN A hA N5 N6 du sj;obtain⟨e1,e2,bI⟩:=Ix _ _ _ _ _ oT;have:=C9.2 hj (k6 aH (mn cQ.a7)) w vs.toArray q1 bD O0 ct er (by simp[aZ,e1]) (by intro j df v eE bf;have av:j<args.length:=(by have:=gH eE;omega);have aa:=dz av;obtain⟨c,cw,f1,f2,f3⟩:=bI j _ df aa eE;have Gt:vs[j]? = some v:=(by simpa using bf);exact gT (Fl h.tojN Kq (xI _) f2 (fun p ah=>uv p (f3 p ah)) trivial (hargs j _ v aa Gt)) (hargs j _ v aa Gt));refine this.mono fun e bY Gr=> ?_;obtain⟨v,mH,rfl,Dm,bf⟩:=Gr
 have Ye:oH (fS cQ.fC) (kL 0 l) (v7 l) mC:=by
  refine⟨fun j r av k=> ?_,fun _ _ _ _ _ bF=>by simp[mC] at bF⟩;unfold v7 at av;split at av
  ·rename_i r0 m7;simp at av;subst av;have:=FC (n:=0) (r:=r0) (k:=k) Oc m7 rfl;simpa [Src.lM] using this
  ·simp at av
 have FN : ∀j i r k,mn cQ.a7 j i=some (r,k)->kL 0 l r k=some (j,i):=fun j i r k hm=>by obtain⟨b,jH,iw,rfl⟩:=xb.1 hm;have:=FC (n:=0) Oc (Xd j b jH) iw;simpa using this
 have Jx : ∀r k j i,kL 0 l r k=some (j,i)->mn cQ.a7 j i=some (r,k)\/ ¬s.bg r k:=fun r k j i hm=>by
  obtain⟨b,-,iw,sP,OZ⟩:=yP hm;rcases GJ j b (by simpa using iw) with e|e
  ·exact .inl (xb.2 ⟨b,e,sP,OZ⟩)
  ·subst e;have:r=a6:=sP;subst this;exact .inr (B8 fN k)
 obtain⟨ki,mI,ix,akQ,akR⟩:=Ma (s1:=fS cQ.fC) Dm Ye bH ajy l cQ.iN cQ.fC u e8 0 s Oc (fun j row av=>by simpa [fS] using av)
  (fun r k j i hm a1=>by
    rcases Jx r k j i hm with e|e
    ·exact(Dm.stay j i (by rw[O0];exact du.bg _ _ _ _ e a1)).1
    ·exact absurd a1 e)
  (fun r k o hm=>by
    obtain⟨j,av⟩:=List.getElem?_of_mem hm;rcases GJ j _ av with e|e
    ·exact hex r k o (dH e)
    ·cases e) GI ajw
 obtain⟨ng,f1,f2⟩:=leave (q0:=nO) (q:=q) h q1 (by rw[q2];exact ajv) O0 ct dU sj du Dm FN Jx (fun r k fB eG p=>agK) (s2:=s.jD u) mI ix akQ akR
  (Fl Dm Ye bH Dg Ob ajx bf) bf
 exact⟨v,ng,rfl,f1,f2⟩
theorem adw (h:dg g s aH a w){a6:Nat}(fN:s.a5 a6=none){f:FuncId}{args:List aF}{cQ:He}{bG:je}(aD:CZ P s.a5 a6 f args cQ=some bG)(cW:∀p∈bG.gq,p)
 {vs:List Value} (aZ:vs.length=args.length) (hargs : ∀(j:Nat) x v,args[j]? = some x->vs[j]? = some v->Rel w (s.ok g aH w) s.bg (s.bp aH) x v) :
 Iz P f/\Calls P f vs.toArray w fun e bY=> ∃v b0,e = .returned v/\dg g (s.jD bG.gW) b0 a bY/\Rel bY ((s.jD bG.gW).ok g b0 bY) (s.jD bG.gW).bg ((s.jD bG.gW).bp b0) bG.val v:=by
 unfold CZ at aD;simp only at aD;generalize pr:(if cQ.fC.length=cQ.a7.length then cQ.a7 else cQ.a7++[.row a6])=l at aD;split at aD
 ·simp at aD
 ·rename_i nh wy
  split at aD
  ·simp at aD
  ·rename_i aiO
   have zM : ∀a∈cQ.a7,a.r≠a6:=fun b aP e=>aiO (List.any_eq_true.2 ⟨b,aP,by simpa using e⟩);split at aD
   ·
    split at aD
    ·rename_i xJ
     split at aD
     ·rename_i tm b4 fB eR u e8 oT Dg GI
      simp only[dB] at aD;subst aD;have C9:Con P f tm [] cQ.r cQ.fC:=cW _ (by simp);have GK:bW cQ.r:=cW _ (by simp)
      have aiP:oB cQ.fC:=by
       by_cases e:cQ.fC=[]
       ·rw[e];intro row ep;simp at ep
       ·exact cW _ (by have:cQ.fC.isEmpty=false:=(by simpa [List.isEmpty_iff] using e);simp[this])
      refine Uw (bO:=mb) (A:=fun b=>b<w.heap.size) (q:=bW) (T:=[]) (cd:=fun _=>none) h fN pr.symm (by rw[xJ];exact List.Pairwise.nil) zM (fun _ aP=>aP) (fun b aP=>aP.1)
       (fun r k o b m an _ ah=>FA h.tojN an ah) (.inr fun _ aa=>aa) ajr ?_ ?_ ?_ ?_ (by rw[xJ];exact oT) (fun p ah=>cW p (by simp[ah])) Dg (fun p ah=>cW p (by simp[ah])) GI (fun p ah=>cW p (by simp[ah])) C9 GK ?_ aZ hargs
      ·refine⟨fun _ _ e=>by simp at e,fun r _ k o _ _ j i e=> ?_⟩;rw[xJ] at e;simp[mn] at e
      ·refine⟨fun j i jv ft p e=> ?_,fun j i cw e=> ?_,fun j i r k e=> ?_⟩
       ·rw[xJ] at e;simp[mn] at e
       ·simp[fS,ee] at e
       ·rw[xJ] at e;simp[mn] at e
      ·rintro r k o ⟨j,i,e⟩;rw[xJ] at e;simp[mn] at e
      ·rintro r k o e;rw[xJ] at e;simp at e
      ·intro j i o an e he x aa
       have an:ee (cQ.fC[j]?) i=some o:=an
       cases aj:cQ.fC[j]? with
       | none=>rw[aj] at an;simp[ee] at an
       | some row =>
        rw[aj,lS] at an
        cases a1:row[i]? with
        | none=>rw[a1] at an;simp at an
        | some p =>
         rw[a1,dA] at an;split at an
         ·simp at an
         ·simp at an;subst an;exact aiP row (dH aj) p (dH a1) e he x aa
     ·simp at aD
    ·simp at aD
   ·split at aD
    ·rename_i tm b4 T aU fB eR u e8 oT Df Dg GI
     simp only[dB] at aD;subst aD;have tJ:=Uv wy fun p ah=>cW p (by simp[ah]);have C9:Con P f tm T cQ.r cQ.fC:=cW _ (by simp);have ad : ∀r j,q4 0 cQ.a7 r=some j-> ∀k,mn cQ.a7 j k=some (r,k):=fun r j av k=>by obtain⟨-,h2⟩:=Mk av;simp only[mn,show cQ.a7[j]? = some (.row r) by simpa using h2]
     have N8 : ∀(l:List Src) (d4:List jS) (T:List (List a3)) (al:List Prop),nX s.a5 (q4 0 cQ.a7) (mn cQ.a7) l d4=some (T,al)->(∀p∈al,p) ->
      ∀b∈l,∀r k o,b.has r k->s.al r k=some o->o.cT≠ .j3:=by
      intro l
      induction l with
      | nil=>intro _ _ _ _ _ b aP;simp at aP
      | cons b l ih =>
       intro d4 T al h0 bx c aX r k o hc an
       cases d4 with
       | nil=>cases b<;>simp[nX] at h0
       | cons cE d4 =>
        cases b with
        | row r0 =>
         simp only[nX] at h0;split at h0
         ·rename_i row ep
          split at h0
          ·rename_i aB p1 o2 p2 h1 h2
           simp only[dB,dD] at h0;obtain⟨rfl,rfl⟩:=h0;rcases List.mem_cons.1 aX with rfl|aX
           ·have e:r=r0:=hc;subst e;have eN:ee (some row) k=some o:=(by unfold S.al at an;rw[ep] at an;exact an);have:=Tu h1 (fun p ah=>bx p (by simp[ah])) k o eN;rw[this];simp
           ·exact ih d4 o2 p2 h2 (fun p ah=>bx p (by simp[ah])) c aX r k o hc an
          ·simp at h0
         ·simp at h0
        | al r0 kB nh =>
         simp only[nX] at h0;split at h0
         ·rename_i row ep
          split at h0
          ·rename_i aB p1 o2 p2 h1 h2
           simp only[dB,dD] at h0;obtain⟨rfl,rfl⟩:=h0;rcases List.mem_cons.1 aX with rfl|aX
           ·obtain⟨rfl,rfl⟩:=hc
            have uv:ee (some row) k=some nh:=bx _ (by simp);have eN:ee (some row) k=some o:=(by unfold S.al at an;rw[ep] at an;exact an);rw[uv] at eN;simp at eN;subst eN
            have Oa:nh.cT≠ .gone:=by
             rw[lS] at uv
             cases a1:row[k]? with
             | none=>rw[a1] at uv;simp at uv
             | some p =>
              rw[a1,dA] at uv;split at uv
              ·simp at uv
              ·rename_i e;simp at uv;subst uv;exact e
            have:=Tu h1 (fun p ah=>bx p (by simp[ah])) 0 nh (by rw[nU];simp[Oa]);rw[this];simp
           ·exact ih d4 o2 p2 h2 (fun p ah=>bx p (by simp[ah])) c aX r k o hc an
          ·simp at h0
         ·simp at h0
     have Kq:oH s (mn cQ.a7) (q4 0 cQ.a7) v5:=(by refine⟨ad,fun r aj k o an bF j i hm=> ?_⟩;obtain⟨b,jH,iw,-⟩:=xb.1 hm;exact N8 cQ.a7 cQ.d4 T aU Df (fun p ah=>cW p (by simp[ah])) b (dH jH) r k o iw an (by simpa [v5] using bF));obtain⟨t1,t2⟩:=Ml h.tojN Kq cQ.a7 cQ.d4 T aU Df (fun p ah=>cW p (by simp[ah]));have nN : ∀j b,cQ.a7[j]? = some b-> ∃eU,T[j]? = some eU:=fun j b av=>by have:j<T.length:=(by have:=gH av;omega);exact⟨_,dz this⟩
     refine Uw (bO:=v5) (A:=s.ok g aH w) (q:=nO) (T:=T) h fN pr.symm tJ zM (fun b aP=>aP.1) (fun b aP=>aP)
      (fun r k o b m an a1 ah=>ahq h.tojN an (by simpa [v5] using a1) ah) (.inl fun _ aP=>aP) (xI _) Kq ?_ ?_ ?_ oT (fun p ah=>cW p (by simp[ah])) Dg (fun p ah=>cW p (by simp[ah])) GI
      (fun p ah=>cW p (by simp[ah])) C9 trivial (fun _ _ _ _ _ _ _ _=>trivial) aZ hargs
     ·refine⟨fun j i jv ft p e fe=> ?_,fun j i cw eN=> ?_,fun j i r k e hu=> ?_⟩
      ·obtain⟨r,k⟩:=p;obtain⟨b,jH,iw,rfl⟩:=xb.1 e;obtain⟨jR,ajz,ajA,rfl⟩:=xb.1 fe;have e1:=FC (n:=0) tJ jH iw;have e2:=FC (n:=0) tJ ajz ajA;rw[e1] at e2;simpa using e2
      ·have av:j<T.length:=by
        rcases Nat.lt_or_ge j T.length with e|e
        ·exact e
        ·have:(fS T).a5 j=none:=List.getElem?_eq_none e;rw[this] at eN;simp[ee] at eN
       have Xe:T[j]? = some T[j]:=dz av;have Xf:cQ.a7[j]? = some (cQ.a7[j]'(by omega)):=dz (by omega);have sy:ee (some T[j]) i=some cw:=(by have:(fS T).a5 j=some T[j]:=Xe;rw[this] at eN;exact eN);obtain⟨r,k,o,n1,n2,O1,Yf⟩:=(t2 j _ _ Xe Xf).2.2.2 i cw sy;exact⟨r,k,o,xb.2 ⟨_,Xf,n1,n2⟩,O1,Yf⟩
      ·obtain⟨b,jH,iw,rfl⟩:=xb.1 e;obtain⟨eU,u9⟩:=nN j b jH;have:=(t2 j eU b u9 jH).2.1 r k iw hu;show b.lM k<((T[j]?).getD []).length;rw[u9];exact this
     ·rintro r k o ⟨j,i,e⟩ an;obtain⟨b,jH,iw,-⟩:=xb.1 e;obtain⟨eU,u9⟩:=nN j b jH;exact(t2 j eU b u9 jH).1 r k o iw an
     ·intro r k o hm;obtain⟨j,av⟩:=List.getElem?_of_mem hm;obtain⟨eU,u9⟩:=nN j _ av;exact Iw ((t2 j eU _ u9 av).2.2.1 r k o rfl)
    ·simp at aD
end
end Go.VL
