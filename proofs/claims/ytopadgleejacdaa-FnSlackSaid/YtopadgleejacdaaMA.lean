/- Lemmas, plain functions of the program, and what they answer. No condition. -/
import Derived.Below
import Derived.Eval
import Derived.KernelRfl
import Derived.Laws.Append
import Derived.Laws.AppendOwn
import Derived.Laws.BytesString
import Derived.Laws.Cells
import Derived.Laws.CopyRow
import Derived.Laws.Entries
import Derived.Laws.MakeOwn
import Derived.Laws.OwnMore
import Derived.Laws.Rows
import Derived.Laws.Slices
import Derived.Laws.Tables
import Derived.Orders
namespace Go.VL
set_option linter.unusedVariables false
set_option linter.unusedSimpArgs false
open Go
abbrev ar:=List Int
theorem dw{α:Type _}{l:List α}{i:Nat}(h:i<l.length):l[i]? = some l[i]:=List.getElem?_eq_getElem h
theorem dx{α:Type _}(a b:α):(some a=some b)=(a=b):=Option.some.injEq a b
theorem dy{c:Prop}{h:Decidable c}(i:c){α:Sort _}{t e:α}:ite c t e=t:=if_pos i
theorem dz{c:Prop}{h:Decidable c}(i:¬c){α:Sort _}{t e:α}:ite c t e=e:=if_neg i
theorem dA(n:Nat):(n:Int).toNat=n:=rfl
theorem dB{α β:Type _}(a:α)(f:α->Option β):(some a).bind f=f a:=rfl
theorem dC{α β:Type _}(a:α)(b:β)(c:α)(d:β):((a,b)=(c,d))=(a=c/\b=d):=Prod.mk.injEq a b c d
theorem dD{α:Type _}{l:List α}{i:Nat}{a:α}(e:l[i]? = some a):a∈l:=List.mem_of_getElem? e
theorem dE{α:Type _}{a b:List α}:(a++b).length=a.length+b.length:=List.length_append
theorem dF(n:Nat):n<=n:=Nat.le_refl n
theorem dG(n:Nat):0+n=n:=Nat.zero_add n
theorem dH{α:Type _}{a b:α}(h:some a=some b):a=b:=Option.some.inj h
theorem dI{α β:Type _}{f:α->β}{l:List α}{i:Nat}:(l.map f)[i]? =l[i]?.map f:=List.getElem?_map
theorem dJ{α:Type _}{l:List α}:l.length=0↔l=[]:=List.length_eq_zero_iff
theorem dK{α β:Type _}:bind=@Option.bind α β:=rfl
theorem dL{α β:Type _}{b:α}{x:Option β}{f:β->α}:Option.map f x=some b↔∃a,x=some a/\f a=b:=Option.map_eq_some_iff
theorem dM{α:Type _}{a:α}{l:List α}:(a::l).length=l.length+1:=rfl
theorem dN{α β:Type _}(a:α)(f:α->β):Option.map f (some a)=some (f a):=rfl
theorem dO{α:Type _}{l:Array α}{i:Nat}(h:i<l.size):l[i]? =some l[i]:=Array.getElem?_eq_getElem h
theorem dP{α:Type _}{l:List α}{i:Nat}(h:l.length<=i):l[i]? =none:=List.getElem?_eq_none h
theorem dQ{a b c:Int}(h:a<=b)(i:0<=c):c*a<=c*b:=Int.mul_le_mul_of_nonneg_left h i
theorem dR{α:Type _}{l:List α}{i j:Nat}:(l.take i)[j]? =if j<i then l[j]? else none:=List.getElem?_take
theorem dS{α:Type _}{l:List α}{m:List (List α)}:(l::m).flatten=l++m.flatten:=rfl
theorem dT{α:Type _}{l:List α}{i:Nat}{a:α}:l.getD i a=l[i]?.getD a:=List.getD_eq_getElem?_getD
theorem YW{α:Type _}{b:α}{l:List α}{a:α}:a∈b::l↔a=b\/a∈l:=List.mem_cons
theorem YX(a b:Bool):((a&&b)=true)=(a=true/\b=true):=Bool.and_eq_true a b
theorem YY{α:Type _}{l:Array α}{i:Nat}{d:α}:l.getD i d=l[i]?.getD d:=Array.getD_eq_getD_getElem?
theorem YZ{α:Type _}{l:List α}{i j:Nat}{a:α}:(l.set i a)[j]? =if i=j then if i<l.length then some a else none else l[j]?:=List.getElem?_set
theorem Y0{α:Type _}{i:Nat}{l:List α}(h:l.length<=i):l.take i=l:=List.take_of_length_le h
theorem Y1{α:Type _}{l m:List α}{i:Nat}(h:i<l.length):(l++m)[i]? =l[i]?:=List.getElem?_append_left h
theorem Y2{α:Type _}{a:α}{l:List α}(h:a∈l):∃i:Nat,l[i]? =some a:=List.getElem?_of_mem h
theorem Y3{α:Type _}{i:Nat}{b:α}{l:Array α}:l[i]? =some b↔∃h:i<l.size,l[i]=b:=Array.getElem?_eq_some_iff
theorem Y4{α:Type _}{i:Nat}{a:α}{l:List α}:l[i]? =some a↔∃h:i<l.length,l[i]=a:=List.getElem?_eq_some_iff
theorem Y5{n m:Nat}(k:Nat)(h:n<=m):n*k<=m*k:=Nat.mul_le_mul_right k h
theorem Y6{α:Type _}{l m:List α}{i:Nat}(h:l.length<=i):(l++m)[i]? =m[i-l.length]?:=List.getElem?_append_right h
theorem Y7{α:Type _}{l:List α}{i j:Nat}:(l.drop i)[j]? =l[i+j]?:=List.getElem?_drop
theorem Y8{α β:Type _}{l:List α}{f g:α->β}(h:∀a,a∈l->f a=g a):l.map f=l.map g:=List.map_congr_left h
theorem Y9{α:Type _}{a:α}:¬a∈([]:List α):=List.not_mem_nil
theorem Za{α:Type _}:([]:List α).length=0:=rfl
theorem Zb{α:Type _}{l m:List α}(h:∀(i:Nat),l[i]? =m[i]?):l=m:=List.ext_getElem? h
theorem Zc{α β:Type _}{l:List α}(f:α->β):(l.map f).length=l.length:=List.length_map f
theorem Zd :(false=true)=False:=Bool.false_eq_true
theorem Ze{a b:Rat}(h:0<=a)(i:0<=b):0<=a*b:=Rat.mul_nonneg h i
theorem Zf{α:Type _}{l:List α}:0<l.length↔l≠[]:=List.length_pos_iff
theorem Zg(a b:Int):((a*b:Int):Rat)=a*b:=Rat.intCast_mul a b
inductive aj where
 | dead
 | b (x:Bool)
 | n (k:IntKind) (x:Int)
 | s (x:ByteArray)
 | gP
 | eC
 | gT
 | ref (r k i off:Nat)
 | bz (r k bb len:Nat)
 | hf (r c sz:Nat) (h:Option (Nat×Nat))
 | isl (sz:Nat) (es:List (List aj))
 | d4 (sz:Nat) (es:List (List aj)) (i off:Nat)
 | iA (sz:Nat) (c:Option (List aj))
 | agg (c:List aj)
 | dl (vs:List aj)
 | fn (f:Nat) (cap:List aj)
 deriving Inhabited
inductive e1 where
 | live|h4|gone
 deriving DecidableEq,Inhabited
structure az where
 sz:Nat
 es:List (List aj)
 bV:e1
 deriving Inhabited
structure S where
 E:Nat->aj
 au:Nat->Option (List az)
abbrev iJ (v:Value):Bool:=v.oneCell'
abbrev el:=Nat->Nat->Option (Nat×Nat)
abbrev hs:=Nat->Nat->Option (Nat×Option (Nat×Nat))
abbrev hI:=Nat->Nat->Prop
inductive Pure:aj->Prop
 | dead:Pure .dead
 | b (x:Bool):Pure (.b x)
 | n (k:IntKind) (x:Int):Pure (.n k x)
 | s (x:ByteArray):Pure (.s x)
 | gP:Pure .gP
 | eC:Pure .eC
 | gT:Pure .gT
 | isl {sz:Nat} {es:List (List aj)} (h : ∀e∈es,∀x∈e,Pure x):Pure (.isl sz es)
 | d4 {sz i off:Nat} {es:List (List aj)} (h : ∀e∈es,∀x∈e,Pure x):Pure (.d4 sz es i off)
 | nO (sz:Nat):Pure (.iA sz none)
 | nj {sz:Nat} {c:List aj} (h : ∀x∈c,Pure x):Pure (.iA sz (some c))
 | agg {c:List aj} (h : ∀x∈c,Pure x):Pure (.agg c)
 | dl {c:List aj} (h : ∀x∈c,Pure x):Pure (.dl c)
 | fn {f:Nat} {c:List aj} (h : ∀x∈c,Pure x):Pure (.fn f c)
def hy (es:List (List aj)):Prop:= ∀e∈es,∀x∈e,Pure x
inductive Rel (w:World) (ok:Nat->Prop) (aH:hI) (aP:hs):aj->Value->Prop
 | dead (v:Value):Rel w ok aH aP .dead v
 | b (x:Bool):Rel w ok aH aP (.b x) (.bool x)
 | n (k:IntKind) (x:Int):Rel w ok aH aP (.n k x) (.int k x)
 | s (x:ByteArray):Rel w ok aH aP (.s x) (.string x)
 | gP:Rel w ok aH aP .gP (.pointer none)
 | eC:Rel w ok aH aP .eC (.slice none 0 0)
 | gT (a:Addr) (c:Nat):Rel w ok aH aP .gT (.slice (some a) 0 c)
 | n9 {r k i off:Nat} (a:Option Addr) (hu:aH r k) (h : ∀sz p,aP r k≠some (sz,some p)):Rel w ok aH aP (.ref r k i off) (.pointer a)
 | ref {r k i off sz cY m:Nat} (hu:aH r k) (h:aP r k=some (sz,some (cY,m))):Rel w ok aH aP (.ref r k i off) (.pointer (some ⟨cY,i*sz+off,none⟩))
 | lP {r k bb len:Nat} (a:Option Addr) (l c:Nat) (hu:aH r k) (h:aP r k=none):Rel w ok aH aP (.bz r k bb len) (.slice a l c)
 | me {r k sz:Nat} (hu:aH r k) (h:aP r k=some (sz,none)):Rel w ok aH aP (.bz r k 0 0) (.slice none 0 0)
 | bz {r k bb len sz cY m c:Nat} {a:Option Addr} (hu:aH r k) (h:aP r k=some (sz,some (cY,m))) (aw:len<=c) (aJ:c<9223372036854775808)
  (hm:(bb+c)*sz=m/\(c=0\/a=some ⟨cY,bb*sz,none⟩)):Rel w ok aH aP (.bz r k bb len) (.slice a len c)
 | lk {r c sz:Nat} {v:Value} (h:Rel w ok aH aP (.isl sz []) v):Rel w ok aH aP (.hf r c sz none) v
 | mo {r c sz k n:Nat} {v:Value} (h:Rel w ok aH aP (.bz r (k+c) 0 n) v):Rel w ok aH aP (.hf r c sz (some (k,n))) v
 | iy (sz:Nat) (a:Option Addr) (c:Nat) (h:a=none->c=0):Rel w ok aH aP (.isl sz []) (.slice a 0 c)
 | isl {sz:Nat} {es:List (List aj)} {cY off c:Nat} (cs:Nat->Value) (aE:ok cY) (af:hy es) (aw : ∀e∈es,e.length=sz) (aJ:es.length<=c)
  (hw : ∀(j:Nat) x,es.flatten[j]? = some x->w.cell? ⟨cY,off+j,none⟩=some (cs j)) (iw : ∀(j:Nat) x,es.flatten[j]? = some x->iJ (cs j)=true)
  (ah : ∀(j:Nat) x,es.flatten[j]? = some x->Rel w ok aH aP x (cs j)):Rel w ok aH aP (.isl sz es) (.slice (some ⟨cY,off,none⟩) es.length c)
 | d4 {sz:Nat} {es:List (List aj)} {cY I i off:Nat} (cs:Nat->Value) (aE:ok cY) (af:hy es) (aw : ∀e∈es,e.length=sz)
  (hw : ∀(j:Nat) x,es.flatten[j]? = some x->w.cell? ⟨cY,I+j,none⟩=some (cs j)) (iw : ∀(j:Nat) x,es.flatten[j]? = some x->iJ (cs j)=true)
  (ah : ∀(j:Nat) x,es.flatten[j]? = some x->Rel w ok aH aP x (cs j)):Rel w ok aH aP (.d4 sz es i off) (.pointer (some ⟨cY,I+(i*sz+off),none⟩))
 | nO (sz:Nat):Rel w ok aH aP (.iA sz none) (.pointer none)
 | nj {sz:Nat} {c:List aj} {v:Value} (h:Rel w ok aH aP (.d4 sz [c] 0 0) v):Rel w ok aH aP (.iA sz (some c)) v
 | agg {c:List aj} (vs:List Value) (aw:vs.length=c.length) (iw : ∀(j:Nat) v,vs[j]? = some v->iJ v=true)
  (ah : ∀(j:Nat) x v,c[j]? = some x->vs[j]? = some v->Rel w ok aH aP x v):Rel w ok aH aP (.agg c) (.agg vs.toArray)
 | dl {c:List aj} (vs:List Value) (aw:vs.length=c.length)
  (ah : ∀(j:Nat) x v,c[j]? = some x->vs[j]? = some v->Rel w ok aH aP x v):Rel w ok aH aP (.dl c) (.tuple vs.toArray)
 | fn {f:Nat} {c:List aj} (vs:List Value) (aw:vs.length=c.length)
  (ah : ∀(j:Nat) x v,c[j]? = some x->vs[j]? = some v->Rel w ok aH aP x v):Rel w ok aH aP (.fn f c) (.func (.func f) #[] vs.toArray)
theorem Rel.mono {w bc:World}{ok jv:Nat->Prop}{aH lp:hI}{aP kU:hs}{a:aj}{v:Value}(h:Rel w ok aH aP a v)
 (mv : ∀b,ok b->jv b) (hw : ∀b,ok b->bc.heap[b]? = w.heap[b]?)
 (hP : ∀r k,aH r k->lp r k) (jQ : ∀r k,aH r k->kU r k=aP r k\/kU r k=none):Rel bc jv lp kU a v:=by
 have iw : ∀b I,ok b->bc.cell? ⟨b,I,none⟩=w.cell? ⟨b,I,none⟩:=fun b I aE=>World.cell?_of_block (hw b aE)
 induction h with
 | dead v=>exact .dead v
 | b x=>exact .b x
 | n k x=>exact .n k x
 | s x=>exact .s x
 | gP=>exact .gP
 | eC=>exact .eC
 | gT a c=>exact .gT a c
 | @n9 r k i off a hu h =>
  refine .n9 a (hP r k hu) fun sz p=> ?_;rcases jQ r k hu with e|e<;>rw[e]
  ·exact h sz p
  simp
 | @ref r k i off sz cY m hu h =>
  rcases jQ r k hu with e|e
  ·exact .ref (hP r k hu) (e.trans h)
  exact .n9 _ (hP r k hu) fun sz p=>by rw[e];simp
 | @lP r k bb len a l c hu h=>exact .lP a l c (hP r k hu) (by rcases jQ r k hu with e|e<;>rw[e];exact h)
 | @me r k sz hu h =>
  rcases jQ r k hu with e|e
  ·exact .me (hP r k hu) (e.trans h)
  exact .lP _ _ _ (hP r k hu) e
 | @bz r k bb len sz cY m c a hu h aw aJ hm =>
  rcases jQ r k hu with e|e
  ·exact .bz (hP r k hu) (e.trans h) aw aJ hm
  exact .lP _ _ _ (hP r k hu) e
 | lk h ih=>exact .lk ih
 | mo h ih=>exact .mo ih
 | iy sz a c h=>exact .iy sz a c h
 | isl cs aE af aw aJ yK ho ah ih=>exact .isl cs (mv _ aE) af aw aJ (fun j x U=>(iw _ _ aE).trans (yK j x U)) ho ih
 | d4 cs aE af aw yK ho ah ih=>exact .d4 cs (mv _ aE) af aw (fun j x U=>(iw _ _ aE).trans (yK j x U)) ho ih
 | nO sz=>exact .nO sz
 | nj h ih=>exact .nj ih
 | agg vs aw ho ah ih=>exact .agg vs aw ho ih
 | dl vs aw ah ih=>exact .dl vs aw ih
 | fn vs aw ah ih=>exact .fn vs aw ih
structure G where
 lc:World
 A:Nat->Prop
 nX:Nat->Prop
 N:Nat
 m:Nat
 np:hI
 pP:hs
def S.aH (s:S)(r k:Nat):Prop:=k<((s.au r).getD []).length
def cB (row:Option (List az))(k:Nat):Option az :=
 match row with
 | some l=>match l[k]? with
  | some I=>if I.bV = .gone then none else some I
  | none=>none
 | none=>none
def S.ab (s:S)(r k:Nat):Option az:=cB (s.au r) k
def S.aP (s:S)(ai:el):hs:=fun r k=>(s.ab r k).map fun I=>(I.sz,ai r k)
def S.kl (s:S)(ai:el)(b:Nat):Prop:= ∃r k I m,s.ab r k=some I/\I.bV = .live/\ai r k=some (b,m)
def S.ok (s:S)(g:G)(ai:el)(w:World)(b:Nat):Prop :=
 b<w.heap.size/\(g.A b\/g.lc.heap.size<=b\/g.nX b)/\ ¬s.kl ai b
def hl (w:World)(ok:Nat->Prop)(aH:hI)(aP:hs)(I:az):Option (Nat×Nat)->Prop
 | none=>I.es=[]
 | some (cY,m)=> ∃c c9,w.heap[cY]? = some (.cells c c9 (0,0))/\c.size=m/\(∀e∈I.es,e.length=I.sz) /\
  ∀(j:Nat) x,I.es.flatten[j]? = some x-> ∃v,c[j]? = some v/\iJ v=true/\Rel w ok aH aP x v
structure yo (g:G) (w:World):Prop where
 os:w.os=g.lc.os
 tape:w.tape=g.lc.tape
 output:w.output=g.lc.output
 size:g.lc.heap.size<=w.heap.size
 block : ∀b,b<g.lc.heap.size-> ¬g.nX b->w.heap[b]? = g.lc.heap[b]?
structure gK (g:G) (s:S) (ai:el) (w:World):Prop where
 obj : ∀r k I,s.ab r k=some I->hl w (s.ok g ai w) s.aH (s.aP ai) I (ai r k)
 inj : ∀r k I dn cA bD b m aX,s.ab r k=some I->s.ab dn cA=some bD->ai r k=some (b,m)->ai dn cA=some (b,aX)->r=dn/\k=cA
 own : ∀r k I b m,s.ab r k=some I->ai r k=some (b,m)->g.lc.heap.size<=b\/g.nX b
 fU:yo g w
 mlt : ∀b,g.nX b->b<g.lc.heap.size
 lX : ∀b,g.A b->b<g.lc.heap.size
 stay : ∀j k,g.np j k->s.aH j k/\(s.aP ai j k=g.pP j k\/s.aP ai j k=none)
 low : ∀j k,g.np j k->j<g.m
structure b7 (g:G) (s:S) (ai:el) (a:Act) (w:World):Prop extends gK g s ai w where
 env : ∀t,Rel w (s.ok g ai w) s.aH (s.aP ai) (s.E t) (a.tmps.getD t undef)
 defers:a.defers=[]
 h9:g.N<=a.tmps.size
def ofValue:Value->aj
 | .bool x=> .b x
 | .int k x=> .n k x
 | .string x=> .s x
 | .pointer none=> .gP
 | .slice none 0 0=> .eC
 | _=> .dead
theorem H2 {w:World}{ok:Nat->Prop}{aH:hI}{aP:hs}(v:Value):Rel w ok aH aP (ofValue v) v:=by unfold ofValue;split<;>constructor
def dc (E:Nat->aj):Operand->aj
 | .tmp t=>E t
 | .const v=>ofValue v
 | .global _=> .dead
 | .func f=> .fn f []
theorem b7.eval {g:G}{s:S}{ai:el}{a:Act}{w:World}(h:b7 g s ai a w)(x:Operand):
 Rel w (s.ok g ai w) s.aH (s.aP ai) (dc s.E x) (a.eval x):=by
 cases x with
 | tmp t=>exact h.env t
 | const v=>exact H2 v
 | global g=>exact .dead _
 | func f=>exact .fn [] rfl (fun j x v U=>by simp at U)
def aj.cells:aj->List aj
 | .agg c=>c
 | x=>[x]
def aj.one:aj->Bool
 | .dead | .agg _ | .dl _=>false
 | _=>true
def aj.vI:aj->Bool
 | .dead | .dl _=>false
 | _=>true
theorem aj.H3 {v:aj}(h:v.vI=true):v.one=true\/ ∃c,v = .agg c:=by cases v<;>first|exact .inl rfl|exact .inr ⟨_,rfl⟩|simp[aj.vI] at h
theorem Rel.iJ {w:World}{ok:Nat->Prop}{aH:hI}{aP:hs}{a:aj}{v:Value}(h:Rel w ok aH aP a v)(bs:a.one=true):iJ v=true:=by
 cases h with
 | nj h=>cases h;rfl
 | lk h=>cases h<;>rfl
 | mo h=>cases h<;>rfl
 | _=>first|rfl|simp[aj.one] at bs
theorem Rel.cellsOf {w:World}{ok:Nat->Prop}{aH:hI}{aP:hs}{a:aj}{v:Value}(h:Rel w ok aH aP a v)(bs:a.one=true\/ ∃c,a = .agg c):
 ∃vs:List Value,v.cells=vs.toArray/\vs.length=a.cells.length/\(∀(j:Nat) x,vs[j]? = some x->VL.iJ x=true) /\
  ∀(j:Nat) x u,a.cells[j]? = some x->vs[j]? = some u->Rel w ok aH aP x u:=by
 rcases bs with bs|⟨c,rfl⟩
 ·have aJ:=h.iJ bs
  refine⟨[v],?_,?_,?_,?_⟩
  ·cases v<;>first|rfl|simp[VL.iJ,Value.oneCell'] at aJ
  ·cases a<;>first|rfl|simp[aj.one] at bs
  ·intro j x U
   cases j with
   | zero=>simp at U;subst U;exact aJ
   | succ j=>simp at U
  intro j x u U hu;have e:a.cells=[a]:=by cases a<;>first|rfl|simp[aj.one] at bs
  rw[e] at U
  cases j with
  | zero=>simp at U hu;subst U;subst hu;exact h
  | succ j=>simp at U
 cases h with
 | agg vs aw iw ah=>exact⟨vs,rfl,aw,iw,ah⟩
def S.put (s:S)(dst:Option Tmp)(v:aj):S :=
 match dst with
 | some t=>{s with E:=fun u=>if u=t then v else s.E u}
 | none=>s
def S.setRow (s:S)(r:Nat)(row:List az):S:={s with au:=fun q=>if q=r then some row else s.au q}
@[simp] theorem S.r9 (s:S) (dst:Option Tmp) (v:aj):(s.put dst v).au=s.au:=by cases dst<;>rfl
@[simp] theorem S.Xb (s:S) (r:Nat) (row:List az):(s.setRow r row).E=s.E:=rfl
theorem xJ {s bj:S}(h:bj.au=s.au):bj.ab=s.ab:=by funext r k;simp[S.ab,h]
theorem vJ {s bj:S}(h:bj.au=s.au):bj.aH=s.aH:=by funext r k;simp[S.aH,h]
theorem vK {s bj:S}(h:bj.au=s.au)(ai:el):bj.aP ai=s.aP ai:=by unfold S.aP;rw[xJ h]
theorem O7 {s bj:S}(h:bj.au=s.au)(ai:el):bj.kl ai=s.kl ai:=by unfold S.kl;rw[xJ h]
theorem xK {s bj:S}(h:bj.au=s.au)(g:G)(ai:el)(w:World):bj.ok g ai w=s.ok g ai w:=by funext b;unfold S.ok;rw[O7 h]
theorem gK.congr {g:G}{s bj:S}{ai:el}{w:World}(h:gK g s ai w)(e:bj.au=s.au):gK g bj ai w where
 obj:=by rw[xJ e,vJ e,vK e,xK e];exact h.obj
 inj:=by rw[xJ e];exact h.inj
 own:=by rw[xJ e];exact h.own
 fU:=h.fU
 mlt:=h.mlt
 lX:=h.lX
 stay:=by rw[vJ e,vK e];exact h.stay
 low:=h.low
theorem Q1 (a:Act)(dst:Option Tmp)(v:Value)(t:Nat)(dv:∀d,dst=some d->d<a.tmps.size):
 (a.put dst v).tmps.getD t undef=if dst=some t then v else a.tmps.getD t undef:=by
 cases dst with
 | none=>simp[Act.put]
 | some d =>
  have:=dv d rfl;simp only[Act.put,YY,Array.getElem?_setIfInBounds,dx];by_cases e:d=t
  ·subst e;simp[this]
  simp[e]
theorem b7.put {g:G}{s:S}{ai:el}{a:Act}{w:World}(h:b7 g s ai a w)(dst:Option Tmp){x:aj}{v:Value}
 (bk : ∀d,dst=some d->d<g.N) (ah:Rel w (s.ok g ai w) s.aH (s.aP ai) x v):b7 g (s.put dst x) ai (a.put dst v) w where
 togK:=h.togK.congr (S.r9 s dst x)
 env:=by
  have e:=S.r9 s dst x;rw[xK e,vJ e,vK e];intro t;rw[Q1 a dst v t fun d sm=>Nat.lt_of_lt_of_le (bk d sm) h.h9]
  cases dst with
  | none=>simpa [S.put] using h.env t
  | some d =>
   simp only[S.put,dx];by_cases e:t=d
   ·subst e;simpa using ah
   rw[dz e,dz (Ne.symm e)];exact h.env t
 defers:=by cases dst<;>exact h.defers
 h9:=by cases dst<;>simpa [Act.put] using h.h9
structure Step (g:G) (s:S) (ai:el) (w:World) (bj:S) (bf:el) (bc:World):Prop where
 aH : ∀r k,s.aH r k->bj.aH r k
 aP : ∀r k,s.aH r k->bj.aP bf r k=s.aP ai r k\/bj.aP bf r k=none
 live : ∀b,bj.kl bf b->s.kl ai b\/w.heap.size<=b
 heap : ∀b,b<w.heap.size-> ¬s.kl ai b->bc.heap[b]? = w.heap[b]?
 size:w.heap.size<=bc.heap.size
theorem Step.ok {g:G}{s bj:S}{ai bf:el}{w bc:World}(h:Step g s ai w bj bf bc)(b:Nat)(aE:s.ok g ai w b):bj.ok g bf bc b :=
 ⟨Nat.lt_of_lt_of_le aE.1 h.size,aE.2.1,fun aw=>by
  rcases h.live b aw with o|o
  ·exact aE.2.2 o
  exact absurd aE.1 (by omega)⟩
theorem Step.rel {g:G}{s bj:S}{ai bf:el}{w bc:World}(h:Step g s ai w bj bf bc){x:aj}{v:Value}
 (ah:Rel w (s.ok g ai w) s.aH (s.aP ai) x v):Rel bc (bj.ok g bf bc) bj.aH (bj.aP bf) x v :=
 ah.mono h.ok (fun b aE=>h.heap b aE.1 aE.2.2) h.aH h.aP
theorem Step.obj {g:G}{s bj:S}{ai bf:el}{w bc:World}(h:Step g s ai w bj bf bc){I:az}{p:Option (Nat×Nat)}
 (af : ∀b m,p=some (b,m)->bc.heap[b]? = w.heap[b]?) (ae:hl w (s.ok g ai w) s.aH (s.aP ai) I p) :
 hl bc (bj.ok g bf bc) bj.aH (bj.aP bf) I p:=by
 cases p with
 | none=>exact ae
 | some q =>
  obtain⟨b,m⟩:=q;obtain⟨c,c9,o,J,an,aG⟩:=ae;refine⟨c,c9,(af b m rfl).trans o,J,an,fun j x U=> ?_⟩;obtain⟨v,ap,av,bS⟩:=aG j x U;exact⟨v,ap,av,h.rel bS⟩
theorem Step.stay {g:G}{s bj:S}{ai bf:el}{w bc:World}(h:Step g s ai w bj bf bc)
 (bN : ∀j k,g.np j k->s.aH j k/\(s.aP ai j k=g.pP j k\/s.aP ai j k=none)) : ∀j k,g.np j k->bj.aH j k/\(bj.aP bf j k=g.pP j k\/bj.aP bf j k=none):=by
 intro j k ao;obtain⟨o,J⟩:=bN j k ao;refine⟨h.aH j k o,?_⟩;rcases h.aP j k o with e|e
 ·rw[e];exact J
 exact .inr e
theorem yo.step {g:G}{w bc:World}(h:yo g w)(o:bc.os=w.os)(J:bc.tape=w.tape)(an:bc.output=w.output)(aG:w.heap.size<=bc.heap.size)
 (aN : ∀b,b<g.lc.heap.size-> ¬g.nX b->bc.heap[b]? = w.heap[b]?):yo g bc :=
 ⟨o.trans h.os,J.trans h.tape,an.trans h.output,Nat.le_trans h.size aG,fun b aE hm=>(aN b aE hm).trans (h.block b aE hm)⟩
theorem j0 (s:S)(r:Nat)(row:List az)(q k:Nat):(s.setRow r row).ab q k=if q=r then cB (some row) k else s.ab q k:=by unfold S.ab S.setRow;by_cases e:q=r<;>simp[e]
theorem lO (s:S)(r:Nat)(row:List az)(q k:Nat):(s.setRow r row).aH q k↔(if q=r then k<row.length else s.aH q k):=by unfold S.aH S.setRow;by_cases e:q=r<;>simp[e]
theorem Ar {s:S}{r k:Nat}{I:az}(h:s.ab r k=some I):s.aH r k:=by
 unfold S.ab cB at h;unfold S.aH
 cases ah:s.au r with
 | none=>rw[ah] at h;simp at h
 | some l =>
  rw[ah] at h;simp only at h;rcases Nat.lt_or_ge k l.length with o|o
  ·simpa using o
  rw[dP o] at h;simp at h
theorem vq {s:S}{r:Nat}(h:s.au r=none)(k:Nat): ¬s.aH r k:=by simp[S.aH,h]
theorem z7 (s:S){r:Nat}{l row:List az}(ah:s.au r=some l)(aw:l.length<=row.length)(q k:Nat)(h:s.aH q k):(s.setRow r row).aH q k:=by
 rw[lO];by_cases e:q=r
 ·subst e;rw[dy rfl];simp[S.aH,ah] at h;omega
 rw[dz e];exact h
theorem WG {s:S}{r:Nat}(h:s.au r=none)(k:Nat):s.ab r k=none:=by simp[S.ab,h,cB]
def el.set (ai:el)(r k:Nat)(p:Option (Nat×Nat)):el:=fun q j=>if q=r/\j=k then p else ai q j
theorem kL (I:az)(k:Nat):cB (some [I]) k=if k=0/\I.bV≠ .gone then some I else none:=by
 unfold cB
 cases k with
 | zero=>by_cases h:I.bV = .gone<;>simp[h]
 | succ k=>simp
theorem Rel.drew {w:World}{ok:Nat->Prop}{aH:hI}{aP:hs}{x:aj}{v:Value}(h:Rel w ok aH aP x v):Rel w.drew ok aH aP x v :=
 h.mono (fun _ h=>h) (fun _ _=>rfl) (fun _ _ h=>h) (fun _ _ _=> .inl rfl)
theorem hl.drew {w:World}{ok:Nat->Prop}{aH:hI}{aP:hs}{I:az}{p:Option (Nat×Nat)}(h:hl w ok aH aP I p):hl w.drew ok aH aP I p:=by
 cases p with
 | none=>exact h
 | some q =>
  obtain⟨c,c9,o,J,an,aG⟩:=h;exact⟨c,c9,o,J,an,fun j x U=>let ⟨v,a,b,c⟩:=aG j x U;⟨v,a,b,c.drew⟩⟩
theorem gK.drew {g:G}{s:S}{ai:el}{w:World}(h:gK g s ai w):gK g s ai w.drew :=
 {obj:=fun r k I ae=>(h.obj r k I ae).drew,inj:=h.inj,own:=h.own,fU:=⟨h.fU.os,h.fU.tape,h.fU.output,h.fU.size,h.fU.block⟩,mlt:=h.mlt,lX:=h.lX,stay:=h.stay,low:=h.low}
theorem b7.drew {g:G}{s:S}{ai:el}{a:Act}{w:World}(h:b7 g s ai a w):b7 g s ai a w.drew where
 togK:=h.togK.drew
 env:=fun t=>(h.env t).drew
 defers:=h.defers
 h9:=h.h9
theorem b7.alloc {g:G}{s:S}{ai:el}{a:Act}{w:World}(h:b7 g s ai a w){r:Nat}(ah:s.au r=none)(I:az)(aL:I.bV = .live)
 (c:Array Value) (c9:TypeId) (hlen : ∀e∈I.es,e.length=I.sz)
 (aJ : ∀(j:Nat) x,I.es.flatten[j]? = some x-> ∃v,c[j]? = some v/\iJ v=true/\Rel w (s.ok g ai w) s.aH (s.aP ai) x v) :
 ∃bf,bf r 0=some (w.heap.size,c.size)/\b7 g (s.setRow r [I]) bf a (w.alloc (.cells c c9)) /\
  ∀x v,Rel w (s.ok g ai w) s.aH (s.aP ai) x v->Rel (w.alloc (.cells c c9)) ((s.setRow r [I]).ok g bf (w.alloc (.cells c c9))) (s.setRow r [I]).aH ((s.setRow r [I]).aP bf) x v:=by
 have jG : ∀q k,q≠r->(ai.set r 0 (some (w.heap.size,c.size))) q k=ai q k:=fun q k aU=>by simp[el.set,aU]
 have aW : ∀q k,q≠r->(s.setRow r [I]).ab q k=s.ab q k:=fun q k aU=>by rw[j0,dz aU]
 have wj : ∀k,(s.setRow r [I]).ab r k=if k=0 then some I else none:=fun k=>by rw[j0,dy rfl,kL];simp[aL]
 have rf : ∀q k p b m,s.ab q k=some p->ai q k=some (b,m)->b<w.heap.size:=fun q k p b m af aU=>by have:=h.obj q k p af;rw[aU] at this;obtain⟨cX,kb,eP,_⟩:=this;exact(Y3.1 eP).1
 have cp:Step g s ai w (s.setRow r [I]) (ai.set r 0 (some (w.heap.size,c.size))) (w.alloc (.cells c c9)):=by
  refine⟨fun q k aU=>(lO _ _ _ _ _).2 (by rw[dz (by rintro rfl;exact vq ah k aU)];exact aU),fun q k aU=> ?_,fun b aE=> ?_,fun b aE _=>heap_alloc_old w _ b aE,by simp⟩
  ·have cc:q≠r:=(by rintro rfl;exact vq ah k aU);left;simp only[S.aP,aW q k cc,jG q k cc]
  obtain⟨q,k,p,m,o,J,an⟩:=aE;by_cases e:q=r
  ·subst e
   rw[wj] at o;by_cases e0:k=0
   ·subst e0;simp[el.set] at an;right;omega
   simp[e0] at o
  rw[aW q k e] at o;rw[jG q k e] at an;exact .inl ⟨q,k,p,m,o,J,an⟩
 refine⟨ai.set r 0 (some (w.heap.size,c.size)),by simp[el.set],?_,fun x v=>cp.rel⟩;refine {togK:=⟨?_,?_,?_,?_,h.mlt,h.lX,cp.stay h.stay,h.low⟩,env:=fun t=>cp.rel (h.env t),defers:=h.defers,h9:=h.h9}
 ·intro q k p af
  by_cases e:q=r
  ·subst e
   rw[wj] at af;by_cases e0:k=0
   ·subst e0;simp at af;subst af;simp only[el.set,and_self,if_true];exact⟨c,c9,heap_alloc_new w _,rfl,hlen,fun j x U=>let ⟨v,ap,av,bS⟩:=aJ j x U;⟨v,ap,av,cp.rel bS⟩⟩
   simp[e0] at af
  rw[aW q k e] at af;rw[jG q k e];exact cp.obj (fun b m hm=>heap_alloc_old w _ b (rf q k p b m af hm)) (h.obj q k p af)
 ·intro q k p gj cA iQ b m aX o J an aG
  by_cases e:q=r<;>by_cases dp:gj=r
  ·subst e;subst dp;rw[wj] at o J;by_cases e0:k=0<;>by_cases ap:cA=0<;>simp[e0,ap] at o J;exact⟨rfl,by omega⟩
  ·subst e;rw[wj] at o;rw[aW _ _ dp] at J;rw[jG _ _ dp] at aG;by_cases e0:k=0<;>simp[e0] at o;subst e0;simp[el.set] at an;have:=rf gj cA iQ b aX J aG;omega
  ·subst dp;rw[aW _ _ e] at o;rw[wj] at J;rw[jG _ _ e] at an;by_cases e0:cA=0<;>simp[e0] at J;subst e0;simp[el.set] at aG;have:=rf q k p b m o an;omega
  rw[aW _ _ e] at o;rw[aW _ _ dp] at J;rw[jG _ _ e] at an;rw[jG _ _ dp] at aG;exact h.inj q k p gj cA iQ b m aX o J an aG
 ·intro q k p b m o J
  by_cases e:q=r
  ·subst e;rw[wj] at o;by_cases e0:k=0<;>simp[e0] at o;subst e0;simp[el.set] at J;left;have:=h.fU.size;omega
  rw[aW _ _ e] at o;rw[jG _ _ e] at J;exact h.own q k p b m o J
 exact h.fU.step rfl rfl rfl (by simp) fun b aE _=>heap_alloc_old w _ b (Nat.lt_of_lt_of_le aE h.fU.size)
theorem Jd (l:List az)(k:Nat)(I bD:az)(h:cB (some l) k=some I)(aL:bD.bV≠ .gone)(j:Nat):
 cB (some (l.set k bD)) j=if j=k then some bD else cB (some l) j:=by
 unfold cB at *
 have c0:k<l.length:=by
  rcases Nat.lt_or_ge k l.length with o|o
  ·exact o
  simp[dP o] at h
 by_cases e:j=k
 ·subst e;simp[c0,aL]
 simp only[YZ,dz (Ne.symm e),dz e]
theorem b7.write {g:G}{s:S}{ai:el}{a:Act}{w bc:World}(h:b7 g s ai a w){r k b m:Nat}{l:List az}{I:az}(ah:s.au r=some l)(ae:s.ab r k=some I)
 (aL:I.bV = .live) (af:ai r k=some (b,m)) (es:List (List aj)) (c:Array Value) (c9:TypeId)
 (hw:bc.heap[b]? = some (.cells c c9 (0,0))) (dv:bc.heap.size=w.heap.size) (tl : ∀q,q≠b->bc.heap[q]? = w.heap[q]?)
 (o8:bc.os=w.os) (EG:bc.tape=w.tape) (Ek:bc.output=w.output) (hm:c.size=m)
 (hlen : ∀e∈es,e.length=I.sz)
 (aJ : ∀(j:Nat) x,es.flatten[j]? = some x-> ∃v,c[j]? = some v/\iJ v=true/\Rel w (s.ok g ai w) s.aH (s.aP ai) x v) :
 b7 g (s.setRow r (l.set k {I with es})) ai a bc /\
  ∀x v,Rel w (s.ok g ai w) s.aH (s.aP ai) x v->Rel bc ((s.setRow r (l.set k {I with es})).ok g ai bc) (s.setRow r (l.set k {I with es})).aH ((s.setRow r (l.set k {I with es})).aP ai) x v:=by
 have gH:({I with es}:az).bV≠ .gone:=by rw[aL];simp
 have aW : ∀q j,(s.setRow r (l.set k {I with es})).ab q j=if q=r/\j=k then some {I with es} else s.ab q j:=by
  intro q j;rw[j0];by_cases e:q=r
  ·subst e;have cS:cB (some l) k=some I:=(by rw[<- ah];exact ae);rw[dy rfl,Jd l k I _ cS gH];by_cases av:j=k<;>simp[av,S.ab,ah]
  simp[e]
 have od:s.kl ai b:=⟨r,k,I,m,ae,aL,af⟩
 have cp:Step g s ai w (s.setRow r (l.set k {I with es})) ai bc:=by
  refine⟨z7 s ah (by simp),fun q j aU=> .inl ?_,fun q aU=> ?_,fun q aU aw=>tl q fun e=>aw (e▸od),Nat.le_of_eq dv.symm⟩
  ·simp only[S.aP,aW]
   by_cases e:q=r/\j=k
   ·obtain⟨rfl,rfl⟩:=e;simp[ae]
   rw[dz e]
  obtain⟨gj,j,p,aX,o,J,an⟩:=aU;rw[aW] at o;by_cases e:gj=r/\j=k
  ·obtain⟨rfl,rfl⟩:=e;exact .inl ⟨gj,j,I,aX,ae,aL,an⟩
  rw[dz e] at o;exact .inl ⟨gj,j,p,aX,o,J,an⟩
 refine⟨{togK:=⟨?_,?_,?_,?_,h.mlt,h.lX,cp.stay h.stay,h.low⟩,env:=fun t=>cp.rel (h.env t),defers:=h.defers,h9:=h.h9},fun x v=>cp.rel⟩
 ·intro q j p iY
  rw[aW] at iY;by_cases e:q=r/\j=k
  ·obtain⟨rfl,rfl⟩:=e;simp at iY;subst iY;rw[af];exact⟨c,c9,hw,hm,hlen,fun j x U=>let ⟨v,ap,av,bS⟩:=aJ j x U;⟨v,ap,av,cp.rel bS⟩⟩
  rw[dz e] at iY;refine cp.obj (fun iq aX jd=>tl iq ?_) (h.obj q j p iY);rintro rfl;exact e (h.inj q j p r k I iq aX m iY ae jd af)
 ·intro q j p gj gF iQ iq gW fJ o J an aG
  have key : ∀q j p,(s.setRow r (l.set k {I with es})).ab q j=some p-> ∃iQ,s.ab q j=some iQ:=by
   intro q j p aU;rw[aW] at aU;by_cases e:q=r/\j=k
   ·obtain⟨rfl,rfl⟩:=e;exact⟨I,ae⟩
   rw[dz e] at aU;exact⟨p,aU⟩
  obtain⟨gk,Up⟩:=key q j p o;obtain⟨ht,yL⟩:=key gj gF iQ J;exact h.inj q j gk gj gF ht iq gW fJ Up yL an aG
 ·intro q j p iq aX o J
  rw[aW] at o;by_cases e:q=r/\j=k
  ·obtain⟨rfl,rfl⟩:=e;exact h.own q j I iq aX ae J
  rw[dz e] at o;exact h.own q j p iq aX o J
 refine h.fU.step o8 EG Ek (Nat.le_of_eq dv.symm) fun iq o9 jd=>tl iq ?_;rintro rfl;rcases h.own r k I iq m ae af with o|o
 ·omega
 exact jd o
inductive p6 where
 | id
 | e5 (es:List (List aj))
 | oH (sz:Nat)
 | hT
 | du (x:aj)
 | len (n:Nat)
 | FY (sz:Nat)
 | at_ (j i n:Nat)
 | view (dd:Nat) (I:az) (es:List (List aj))
 deriving Inhabited
inductive wW where
 | cV (c:p6)
 | ptr (l:List p6)
 | El (l:List p6)
 | agg (l:List p6)
 deriving Inhabited
inductive jH where
 | bG (c:wW)
 | comp (l:List wW)
 deriving Inhabited
inductive gM where
 | pure
 | box (l:List p6)
 | du (row:List az)
 | ck (row:List az)
 | rx (row:List az)
 | drop
 deriving Inhabited
structure kV where
 bk:List (Nat×Nat):=[]
 jj:Option (Nat×Nat):=none
 deriving DecidableEq
inductive Src where
 | row (r:Nat)
 | ab (r k:Nat) (I:az)
 deriving Inhabited
structure wX where
 ax:List Src:=[]
 cf:List gM:=[]
 ac:List jH
 r:aj
 c1:List (List az):=[]
 ew:jH:= .bG (.cV .id)
 e2:List gM:=[]
 dm:List Nat:=[]
 de:Bool:=true
inductive d5 where
 | none
 | aF (t:Bool)
 | ee (c:List aj)
 | gx (I:az) (c:List aj)
 | fj
 | zs
 | call (c:wX)
 | ba (m:Nat) (I:Option az:=Option.none)
 | ld (t:Nat) (v:aj) (a:d5)
 | ul (r:Nat) (a:d5)
 | zt (r n:Nat) (a:d5)
structure fI where
 val:aj
 eH:List (Nat×List az):=[]
 ea:List Prop:=[]
def xW (P:Program)(t:TypeId):Bool :=
 match P.underlying t with
 | some (.struct _)|some (.array _ _)=>true
 | _=>false
def wk (l5:ar):ByteArray:=l5.foldl (fun r n=>r.push (UInt8.ofNat n.toNat)) ByteArray.empty
def bytesOf:List (List aj)->Option ar
 | []=>some []
 | [.n .u8 n]::es=>(bytesOf es).map (n :: ·)
 | _=>none
def elemAt (es:List (List aj))(i:Nat):d5->Option (List aj×List Prop)
 | .ee c=>some (c,[es[i]? = some c])
 | .gx _ c=>some (c,[es[i]? = some c])
 | _=>match es[i]? with
  | some c=>some (c,[])
  | none=>none
def mq (row:Option (List az))(k:Nat):d5->Option (az×List Prop)
 | .gx I _=>match row with
  | some row=>some (I,[cB (some row) k=some I])
  | none=>none
 | _=>match cB row k with
  | some I=>some (I,[])
  | none=>none
def EH (a:d5)(l h len rD n:Nat):List Prop:=match a with
 | .zs=>[l<=h,rD+h<=n]
 | _=>[l<=h,h<=len]
def o0 (P:Program)(t:TypeId)(c:List aj)(off:Nat):Option aj :=
 if !((P.underlying t).isSome && (P.info? t).isSome) then none else
 if xW P t then (if off+P.cellsOf t<=c.length then some (.agg ((c.drop off).take (P.cellsOf t))) else none)
 else match c[off]? with
  | some x=>if x.one then some x else none
  | none=>none
def Em (op:BinOp)(x y:aj):Option (aj×List Prop) :=
 match x,y with
 | .n k a,.n cA b =>
  match op with
  | .shl=>some (.n k (k.wrap (a*2 ^ (min b.toNat k.bits))),[0<=b])
  | .shr=>some (.n k (a.fdiv (2 ^ (min b.toNat k.bits))),[0<=b])
  | _=>if k≠cA then none else
   match op with
   | .add=>some (.n k (k.wrap (a+b)),[])
   | .sub=>some (.n k (k.wrap (a-b)),[])
   | .mul=>some (.n k (k.wrap (a*b)),[])
   | .quo=>some (.n k (k.wrap (a.tdiv b)),[b≠0])
   | .rem=>some (.n k (a.tmod b),[b≠0])
   | .and=>some (.n k (k.wrap ((BitVec.ofInt k.bits a &&& BitVec.ofInt k.bits b).toNat)),[])
   | .or=>some (.n k (k.wrap ((BitVec.ofInt k.bits a ||| BitVec.ofInt k.bits b).toNat)),[])
   | .xor=>some (.n k (k.wrap ((BitVec.ofInt k.bits a ^^^ BitVec.ofInt k.bits b).toNat)),[])
   | .eql=>some (.b (a == b),[])
   | .neq=>some (.b (a != b),[])
   | .lss=>some (.b (decide (a<b)),[])
   | .leq=>some (.b (decide (a<=b)),[])
   | .gtr=>some (.b (decide (b<a)),[])
   | .geq=>some (.b (decide (b<=a)),[])
   | _=>none
 | .s a,.s b =>
  match op with
  | .add=>some (.s (a++b),[a.size+b.size<9223372036854775808])
  | .eql=>some (.b (a.toList == b.toList),[])
  | .neq=>some (.b (!(a.toList == b.toList)),[])
  | _=>none
 | _,_=>none
def qz (P:Program)(t:TypeId)(x y:aj):Option Bool :=
 match P.underlying t,x,y with
 | some .bool,.b a,.b c=>some (a == c)
 | some (.pointer _),.gP,.gP=>some true
 | some (.pointer _),.d4 ..,.gP=>some false
 | some (.pointer _),.gP,.d4 .. => some false
 | some (.slice _),.eC,.eC=>some true
 | some (.slice _),.gT,.eC=>some false
 | _,_,_=>none
def EI (op:UnOp)(x:aj):Option aj :=
 match op,x with
 | .neg,.n k a=>some (.n k (k.wrap (0-a)))
 | .not,.b a=>some (.b (!a))
 | _,_=>none
def fieldsOf (P:Program)(t:TypeId):Option (Array Field) :=
 match P.underlying t with
 | some (.struct jk)=>some jk
 | _=>none
def nL (P:Program)(t:TypeId):Option TypeId :=
 match P.underlying t with
 | some (.slice e)=>some e
 | _=>none
def n6 (P:Program)(t:TypeId):Option (List aj) :=
 match P.info? t with
 | some i=>match i.zero with
  | some v=>if v.cells.toList.all (·.oneCell') then some (v.cells.toList.map ofValue) else none
  | none=>none
 | none=>none
def yp (P:Program)(t:TypeId):Option (Nat×TypeId) :=
 match P.underlying t with
 | some (.array n e)=>if (P.info? e).isSome/\P.cellsOf e≠0/\1<n then some (n,e) else none
 | _=>none
def ol (j:Int):List aj->List aj->Option (List aj)
 | [],[]=>some []
 | .n k x::a,.n cA y::b=>if k=cA then (ol j a b).map (.n k (if j=0 then x else y) :: ·) else none
 | _,_=>none
def DS (P:Program)(t:TypeId)(x iR:aj):Option fI :=
 match yp P t,x,iR with
 | some (2,e),.agg cs,.n _ j=>match o0 P e cs (0*P.cellsOf e),o0 P e cs (1*P.cellsOf e) with
  | some (.agg a),some (.agg b)=>(ol j a b).map fun c=>{val:= .agg c,ea:=[0<=j,j<2]}
  | _,_=>none
 | _,_,_=>none
def v9 (P:Program)(au:Nat->Option (List az))(t:TypeId)(x iR:aj)(b9:d5):Option fI :=
 match yp P t,x,iR with
 | some (n,e),.ref r k i off,.n _ j=>match mq (au r) k b9 with
  | some (ab,bT)=>match elemAt ab.es i b9 with
   | some (_,a2)=>some {val:= .ref r k i (off+j.toNat*P.cellsOf e),ea:=bT++a2++[0<=j,j<n]}
   | none=>none
  | none=>none
 | _,_,_=>none
def xX:aj->aj->aj
 | .eC,.isl sz []=> .isl sz []
 | .gP,.iA sz none=> .iA sz none
 | .eC,.hf r c sz none=> .hf r c sz none
 | x,_=>x
def pD:List aj->List aj->List aj
 | x::z,y::c=>xX x y::pD z c
 | z,_=>z
def q6 (z:List aj):d5->List aj
 | .ee c=>pD z c
 | _=>z
def setCells (c:List aj)(off:Nat)(vs:List aj):List aj:=c.take off++vs++c.drop (off+vs.length)
def qs:List aj->List (Nat×Nat×aj)->Option (List aj)
 | c,[]=>some c
 | c,(off,size,x)::rest =>
  if x.vI && x.cells.length=size && decide (off+size<=c.length) then qs (setCells c off x.cells) rest else none
def wa (sz:Nat):List (List aj)->List (Nat×aj)->Option (List (List aj))
 | es,[]=>some es
 | es,(i,x)::rest=>if x.vI && x.cells.length=sz && decide (i<es.length) then wa sz (es.set i x.cells) rest else none
def aI:Option aj->Nat->Option (Nat×List Prop)
 | none,d=>some (d,[])
 | some (.n _ x),_=>some (x.toNat,[0<=x])
 | _,_=>none
def Dn (P:Program)(t:TypeId)(parts:List (Nat×aj)):Option fI :=
 match yp P t,n6 P t with
 | some (_,e),some z=>(qs z (parts.map fun p=>(p.1*P.cellsOf e,P.cellsOf e,p.2))).map fun c=>{val:= .agg c}
 | _,_=>none
def dr (P:Program)(E:Nat->aj)(au:Nat->Option (List az))(aA:Nat)(I:Oper)(b9:d5):Option fI :=
 let fP:=dc E
 match I.op with
 | .move x | .assign x=>some {val:=fP x}
 | .pick c a b =>
  match fP c,b9 with
  | .b x,.aF t=>some {val:=if t then fP a else fP b,ea:=[x=t]}
  | .b true,_=>some {val:=fP a}
  | .b false,_=>some {val:=fP b}
  | _,_=>none
 | .alloc t =>
  match n6 P t with
  | some c=>some {val:= .ref aA 0 0 0,eH:=[(aA,[⟨c.length,[c],.live⟩])]}
  | none=>none
 | .box _ x =>
  match fP x with
  | .agg c=>some {val:= .ref aA 0 0 0,eH:=[(aA,[⟨c.length,[c],.live⟩])]}
  | v=>if v.one then some {val:= .ref aA 0 0 0,eH:=[(aA,[⟨1,[[v]],.live⟩])]} else none
 | .load t x =>
  match fP x with
  | .ref r k i off =>
   match mq (au r) k b9 with
   | some (ab,bT)=>match elemAt ab.es i b9 with
    | some (c,a2)=>match o0 P t c off with
     | some v=>some {val:=v,ea:=bT++a2}
     | none=>none
    | none=>none
   | none=>none
  | .d4 _ es i off =>
   match elemAt es i b9 with
   | some (c,a2)=>match o0 P t c off with
    | some v=>some {val:=v,ea:=a2}
    | none=>none
   | none=>none
  | _=>none
 | .store t x y =>
  match fP x with
  | .ref r k i off =>
   match au r with
   | none=>none
   | some row =>
   match mq (some row) k b9 with
   | some (ab,bT) =>
    if ab.bV≠ .live then none else
    let v:=fP y
    if v.vI=false then none else
    if v.cells.length≠P.cellsOf t\/(P.info? t).isSome=false then none else
    match b9 with
    | .fj=>if off=0 then some {val:= .dead,eH:=[(r,row.set k {ab with es:=ab.es.set i v.cells})],ea:=bT++[i<ab.es.length,v.cells.length=ab.sz]} else none
    | _=>match elemAt ab.es i b9 with
     | some (c,a2)=>if off+v.cells.length<=c.length then some {val:= .dead,eH:=[(r,row.set k {ab with es:=ab.es.set i (setCells c off v.cells)})],ea:=bT++a2} else none
     | none=>none
   | none=>none
  | _=>none
 | .nilCheck x =>
  match fP x with
  | .ref r k i off=>match mq (au r) k b9 with
   | some (ab,bT)=>match elemAt ab.es i b9 with
    | some (_,a2)=>some {val:= .ref r k i off,ea:=bT++a2}
    | none=>none
   | none=>none
  | .d4 sz es i off=>some {val:= .d4 sz es i off}
  | .fn f c=>some {val:= .fn f c}
  | _=>none
 | .binOp op t x y _ =>
  match Em op (fP x) (fP y) with
  | some (v,ab)=>some {val:=v,ea:=ab}
  | none=>match op with
   | .eql=>(qz P t (fP x) (fP y)).map fun r=>{val:= .b r}
   | .neq=>(qz P t (fP x) (fP y)).map fun r=>{val:= .b (!r)}
   | _=>none
 | .unOp op _ x=>(EI op (fP x)).map fun v=>{val:=v}
 | .convert src dst x =>
  match P.underlying dst,fP x with
  | some (.int k),.n _ a=>if (P.underlying src).isSome then some {val:= .n k (k.wrap a)} else none
  | some .string,.bz r k bb len =>
   match (nL P src).bind P.underlying,cB (au r) k with
   | some (.int .u8),some ab=>match bytesOf ((ab.es.drop bb).take len) with
    | some l5=>if bb+len<=ab.es.length/\ab.sz=1 then some {val:= .s (wk l5)} else none
    | none=>none
   | _,_=>none
  | _,_=>none
 | .makeFunc (.func f) first captured =>
  if first.size=0 then some {val:= .fn f (captured.toList.map fP)} else none
 | .makeSlice t l c =>
  match nL P t,fP l,fP c with
  | some e,.n _ l,.n _ c =>
   match P.info? e,n6 P e with
   | some i,some z=>if z.length=i.size then some {val:= .bz aA 0 0 l.toNat,eH:=[(aA,[⟨z.length,List.replicate l.toNat (q6 z b9),.live⟩])],ea:=[0<=l,l<=c,(i.bytes:Int)*c<=281474976710656,c<9223372036854775808]} else none
   | _,_=>none
  | _,_,_=>none
 | .fieldAddr t x f =>
  match fieldsOf P t with
  | some jk=>match jk[f]? with
   | some fd=>if P.cellsOf fd.type=0 then none else
    match fP x with
    | .ref r k i off=>match mq (au r) k b9 with
     | some (ab,bT)=>match elemAt ab.es i b9 with
      | some (_,a2)=>some {val:= .ref r k i (off+fd.offset),ea:=bT++a2}
      | none=>none
     | none=>none
    | .d4 sz es i off=>some {val:= .d4 sz es i (off+fd.offset)}
    | _=>none
   | none=>none
  | none=>none
 | .field t x f =>
  match fieldsOf P t with
  | some jk=>match jk[f]?,fP x with
   | some fd,.agg c=>(o0 P fd.type c fd.offset).map fun v=>{val:=v}
   | _,_=>none
  | none=>none
 | .indexAddr t x iR =>
  match nL P t,fP iR with
  | some e,.n _ j =>
   match fP x with
   | .isl sz es=>if sz=P.cellsOf e/\sz≠0 then some {val:= .d4 sz es j.toNat 0,ea:=[0<=j,j<es.length]} else none
   | .bz r k bb len=>match au r with
    | some row=>match mq (some row) k b9 with
     | some (ab,bT)=>if ab.sz=P.cellsOf e/\ab.sz≠0 then some {val:= .ref r k (bb+j.toNat) 0,ea:=bT++[0<=j,j<len]} else none
     | none=>none
    | none=>none
   | _=>none
  | _,_=>v9 P au t (fP x) (fP iR) b9
 | .index t x iR =>
  match P.underlying t,fP x,fP iR with
  | some .string,.s s,.n _ j=>some {val:= .n .u8 (s.data.toList.getD j.toNat 0).toNat,ea:=[0<=j,j<s.size]}
  | _,_,_=>DS P t (fP x) (fP iR)
 | .extract x i =>
  match fP x with
  | .dl vs=>(vs[i]?).map fun v=>{val:=v}
  | _=>none
 | .slice t x bb ad none =>
  match P.underlying t,fP x with
  | some (.slice e),.isl sz es =>
   match aI (bb.map fP) 0,aI (ad.map fP) es.length with
   | some (l,bT),some (h,a2)=>if sz=P.cellsOf e/\sz≠0 then some {val:= .isl sz ((es.drop l).take (h-l)),ea:=bT++a2++[l<=h,h<=es.length]} else none
   | _,_=>none
  | some (.slice e),.bz r k rD len =>
   match au r with
   | none=>none
   | some row=>match mq (some row) k b9 with
    | none=>none
    | some (ab,zu) =>
     match aI (bb.map fP) 0,aI (ad.map fP) len with
     | some (l,bT),some (h,a2)=>if ab.sz=P.cellsOf e/\ab.sz≠0 then some {val:= .bz r k (rD+l) (h-l),ea:=zu++bT++a2++EH b9 l h len rD ab.es.length} else none
     | _,_=>none
  | some .string,.s s =>
   match aI (bb.map fP) 0,aI (ad.map fP) s.size with
   | some (l,bT),some (h,a2)=>some {val:= .s (s.extract l h),ea:=bT++a2++[l<=h,h<=s.size]}
   | _,_=>none
  | _,_=>none
 | .slice t x bb (some ad) (some rE) =>
  match P.underlying t,fP x with
  | some (.slice e),.bz r k rD len =>
   match au r with
   | none=>none
   | some row=>match mq (some row) k b9 with
    | none=>none
    | some (ab,zu) =>
     match aI (bb.map fP) 0,aI ((some ad).map fP) len,aI ((some rE).map fP) len with
     | some (l,bT),some (h,a2),some (m,hJ)=>if ab.sz=P.cellsOf e/\ab.sz≠0 then some {val:= .dead,ea:=zu++bT++a2++hJ++[l<=h,h<=m,m<=len]} else none
     | _,_,_=>none
  | _,_=>none
 | .build t parts =>
  match fieldsOf P t,n6 P t with
  | some jk,some z =>
   if jk.toList.all (fun f=>(P.info? f.type).isSome)=false then none else
   match parts.toList.mapM fun (p:Nat×Operand)=>(jk[p.1]?).map fun fd=>(fd.offset,P.cellsOf fd.type,fP p.2) with
   | some l=>(qs z l).map fun c=>{val:= .agg c}
   | none=>none
  | _,_=>Dn P t (parts.toList.map fun p=>(p.1,fP p.2))
 | .buildSlice t len parts =>
  match nL P t with
  | some e=>match n6 P e with
   | some z =>
    if len*z.length>16777216\/z.length≠P.cellsOf e\/z.length=0 then none else
    match wa z.length (List.replicate len z) (parts.toList.map fun p=>(p.1,fP p.2)) with
    | some es=>some {val:= .bz aA 0 0 len,eH:=[(aA,[⟨z.length,es,.live⟩])]}
    | none=>none
   | none=>none
  | none=>none
 | .call {callee:= .builtin .len,args,argTypes} =>
  match args.toList.map fP,P.underlying (argTypes.getD 0 0),decide (argTypes.size=1) with
  | [.isl _ es],some (.slice _),true=>some {val:= .n .i64 es.length}
  | [.bz r k _ len],some (.slice _),true=>match au r with
   | some row=>match mq (some row) k b9 with
    | some (_,bT)=>some {val:= .n .i64 len,ea:=bT}
    | none=>none
   | none=>none
  | [.eC],some (.slice _),true=>some {val:= .n .i64 0}
  | [.s x],some .string,true=>some {val:= .n .i64 x.size}
  | _,_,_=>none
 | _=>none
theorem nD {α:Type}{sz:Nat}(bN:0<sz): ∀(es:List (List α)) (_ : ∀e∈es,e.length=sz) (j:Nat),
 es.flatten[j]? = (es[j / sz]?).bind (·[j % sz]?)
 | [],_,j=>by simp
 | e::es,h,j=>by
  have he:e.length=sz:=h e (by simp);rw[dS,List.getElem?_append];by_cases ao:j<sz
  ·rw[dy (by omega),Nat.div_eq_of_lt ao,Nat.mod_eq_of_lt ao];simp
  rw[dz (by omega),he,nD bN es (fun dp ks=>h dp (by simp[ks])) (j-sz)];have o:j / sz=(j-sz) / sz+1:=Nat.div_eq_sub_div bN (by omega);have J:j % sz=(j-sz) % sz:=Nat.mod_eq_sub_mod (by omega);rw[o,J];simp
theorem xz {α:Type}{sz:Nat}{es:List (List α)}(aw:∀e∈es,e.length=sz){i:Nat}{c:List α}(he:es[i]? = some c){j:Nat}(ao:j<sz):
 es.flatten[i*sz+j]? = c[j]? := by
 have bN:0<sz:=by omega
 rw[nD bN es aw];have o:(i*sz+j) / sz=i:=by rw[Nat.mul_comm,Nat.mul_add_div bN,Nat.div_eq_of_lt ao];omega
 have J:(i*sz+j) % sz=j:=by rw[Nat.mul_comm,Nat.mul_add_mod,Nat.mod_eq_of_lt ao]
 rw[o,J,he];rfl
theorem H4 {α:Type}{sz:Nat}{es:List (List α)}(aw:∀e∈es,e.length=sz){i:Nat}{c cX:List α}(he:es[i]? = some c)(aJ:cX.length=sz)(j:Nat):
 (es.set i cX).flatten[j]? = if i*sz<=j/\j<i*sz+sz then cX[j-i*sz]? else es.flatten[j]? := by
 rcases Nat.eq_zero_or_pos sz with h0|bN
 ·subst h0
  have ap : ∀(l:List (List α)),(∀e∈l,e.length=0)->l.flatten=[]:=by
   intro l aw;induction l with
   | nil=>rfl
   | cons a l ih=>rw[dS,ih fun e he=>aw e (by simp[he])];have:=aw a (by simp);simp_all
  rw[ap _ aw,ap (es.set i cX) (by
   intro e hm;rcases List.mem_or_eq_of_mem_set hm with h|h
   ·exact aw e h
   exact h▸aJ)]
  simp
 have EJ : ∀e∈es.set i cX,e.length=sz:=by
  intro e hm;rcases List.mem_or_eq_of_mem_set hm with h|h
  ·exact aw e h
  exact h▸aJ
 have ad:i<es.length:=by
  rcases Nat.lt_or_ge i es.length with h|h
  ·exact h
  rw[dP h] at he;simp at he
 rw[nD bN _ EJ,nD bN _ aw];by_cases aU:j / sz=i
 ·have o:i*sz<=j/\j<i*sz+sz:=by
   subst aU;constructor
   ·exact Nat.div_mul_le_self j sz
   ·have:=Nat.lt_div_mul_add (a:=j) bN;omega
  rw[dy o,aU,List.getElem?_set_self ad];have:j % sz=j-i*sz:=(by subst aU;have:=Nat.div_add_mod j sz;rw[Nat.mul_comm] at this;omega);simp[this]
 have o : ¬(i*sz<=j/\j<i*sz+sz):=by rintro⟨a,b⟩;apply aU;obtain⟨d,rfl⟩ : ∃d,j=i*sz+d:=⟨j-i*sz,by omega⟩;rw[Nat.mul_comm i sz,Nat.mul_add_div bN,Nat.div_eq_of_lt (by omega)];omega
 rw[dz o,List.getElem?_set_ne (Ne.symm aU)]
def m1 (w:World)(ok:Nat->Prop)(aH:hI)(aP:hs)(cY I sz:Nat)(es:List (List aj)):Prop :=
 (∀e∈es,e.length=sz)/\ ∀(j:Nat) x,es.flatten[j]? = some x-> ∃v,w.cell? ⟨cY,I+j,none⟩=some v/\iJ v=true/\Rel w ok aH aP x v
theorem hl.rd {w:World}{ok:Nat->Prop}{aH:hI}{aP:hs}{I:az}{cY m:Nat}(h:hl w ok aH aP I (some (cY,m))):m1 w ok aH aP cY 0 I.sz I.es:=by obtain⟨c,c9,o,J,an,aG⟩:=h;refine⟨an,fun j x U=> ?_⟩;obtain⟨v,ap,av,bS⟩:=aG j x U;exact⟨v,by rw[cell_of_row w cY (0+j) c c9 (0,0) o,dG];exact ap,av,bS⟩
theorem WZ {w:World}{ok:Nat->Prop}{aH:hI}{aP:hs}{x:aj}{v:Value}(h:Rel w ok aH aP x v)(ae:x.one=true):v.oneCell'=true:=h.iJ ae
theorem IG {P:Program}{t:TypeId}(h:(P.underlying t).isSome=true)(w:World):(isAgg t).run P w = .ok (xW P t) w:=by
 cases bk:P.underlying t with
 | none=>simp[bk] at h
 | some d=>cases d<;>simp[isAgg,xW,run_underlying bk,bk]
theorem qh {P:Program}{t:TypeId}(h:(P.info? t).isSome=true)(w:World):(sizeOf t).run P w = .ok (P.cellsOf t) w:=by
 cases ad:P.info? t with
 | none=>simp[ad] at h
 | some i=>simp[sizeOf,typeInfo,ad,Program.cellsOf]
theorem pz (b I n:Nat):(⟨b,I,none⟩:Addr).add n=⟨b,I+n,none⟩:=by unfold Addr.add;split<;>simp_all
theorem C9 {P:Program}{w:World}{ok:Nat->Prop}{aH:hI}{aP:hs}{cY I sz i off:Nat}{es:List (List aj)}{c:List aj}{t:TypeId}{x:aj}
 (gU:m1 w ok aH aP cY I sz es) (he:es[i]? = some c) (b3:o0 P t c off=some x) :
 ∃v,(Instr.loadAt t (.pointer (some ⟨cY,I+(i*sz+off),none⟩))).run P w = .ok v w/\Rel w ok aH aP x v:=by
 have hlen:c.length=sz:=gU.1 c (dD he);unfold o0 at b3;split at b3
 ·simp at b3
 rename_i ad;simp only[Bool.not_eq_true',Bool.not_eq_false,YX] at ad;have iw : ∀j,j<sz-> ∃y v,c[j]? = some y/\w.cell? ⟨cY,I+(i*sz+j),none⟩=some v/\iJ v=true/\Rel w ok aH aP y v:=by intro j ao;have aK:c[j]? = some c[j]:=dw (by omega);obtain⟨v,ap,av,bS⟩:=gU.2 (i*sz+j) c[j] (by rw[xz gU.1 he ao,aK]);exact⟨_,v,aK,ap,av,bS⟩
 simp only[Instr.loadAt,Instr.sureAddr,loadVar,Sem.run_bind,Sem.run_pure,Result.andThen,IG ad.1,qh ad.2];split at b3;rotate_left
 ·rename_i pL
  have pL:xW P t=false:=(by simpa using pL);rw[pL];split at b3
  ·rename_i y aK
   split at b3
   ·simp at b3;subst b3
    have wm:off<sz:=by
     rcases Nat.lt_or_ge off c.length with h|h
     ·omega
     rw[dP h] at aK;simp at aK
    obtain⟨kD,v,h0,ap,av,bS⟩:=iw off wm;rw[h0] at aK;simp at aK;subst aK;exact⟨v,by simp[ap],bS⟩
   simp at b3
  simp at b3
 rename_i pL;rw[pL];split at b3;rotate_left
 ·simp at b3
 rename_i hle;simp at b3;subst b3;have aw:=run_loadCells (P:=P) w ⟨cY,I+(i*sz+off),none⟩ (P.cellsOf t) (fun j=>(w.cell? ⟨cY,I+(i*sz+(off+j)),none⟩).getD undef) (by intro j ao;obtain⟨y,v,-,ap,-,-⟩:=iw (off+j) (by omega);rw[pz,show I+(i*sz+off)+j=I+(i*sz+(off+j)) by omega,ap];rfl);refine⟨.agg (List.map (fun j=>(w.cell? ⟨cY,I+(i*sz+(off+j)),none⟩).getD undef) (List.range (P.cellsOf t))).toArray,by simp[aw,Result.andThen,qh ad.2],?_⟩;refine .agg _ (by simp;omega) ?_ ?_
 ·intro j v aT;rw[dI,dL] at aT;obtain⟨q,tN,rfl⟩:=aT;obtain⟨tO,Bl⟩:=Y4.1 tN;have aU:j<P.cellsOf t:=(by simpa using tO);obtain rfl:j=q:=(by simpa using Bl);obtain⟨y,v,-,ap,av,-⟩:=iw (off+j) (by omega);rw[ap];exact av
 intro j y v aK aT;rw[dI,dL] at aT;obtain⟨q,tN,rfl⟩:=aT;obtain⟨tO,Bl⟩:=Y4.1 tN;have aU:j<P.cellsOf t:=by simpa using tO
 obtain rfl:j=q:=by simpa using Bl
 rw[dR,dy aU,Y7] at aK;obtain⟨kD,v,h0,ap,av,bS⟩:=iw (off+j) (by omega);rw[h0] at aK;simp at aK;subst aK;rw[ap];exact bS
theorem Hw {c:List aj}{off:Nat}{vs:List aj}(h:off+vs.length<=c.length):(setCells c off vs).length=c.length:=by simp[setCells];omega
theorem C0 {c:List aj}{off:Nat}{vs:List aj}(h:off+vs.length<=c.length)(j:Nat):
 (setCells c off vs)[j]? = if off<=j/\j<off+vs.length then vs[j-off]? else c[j]? := by
 unfold setCells;rw[List.append_assoc,List.getElem?_append];have o:(c.take off).length=off:=by simp;omega
 rw[o];by_cases a:j<off
 ·rw[dy a,dz (by omega),dR,dy a]
 rw[dz a,List.getElem?_append];by_cases b:j<off+vs.length
 ·rw[dy (by omega),dy ⟨by omega,b⟩]
 rw[dz (by omega),dz (by omega),Y7];congr 1;omega
theorem Su {c:Array Value}{p:Nat}{vs:List Value}(h:p+vs.length<=c.size)(j:Nat):
 (c.toList.take p++vs++c.toList.drop (p+vs.length)).toArray[j]? = if p<=j/\j<p+vs.length then vs[j-p]? else c[j]? := by
 rw[List.getElem?_toArray,List.append_assoc,List.getElem?_append];have o:(c.toList.take p).length=p:=by simp;omega
 rw[o];by_cases a:j<p
 ·rw[dy a,dz (by omega),dR,dy a,Array.getElem?_toList]
 rw[dz a,List.getElem?_append];by_cases b:j<p+vs.length
 ·rw[dy (by omega),dy ⟨by omega,b⟩]
 rw[dz (by omega),dz (by omega),Y7,Array.getElem?_toList];congr 1;omega
theorem Pr {P:Program}{g:G}{s:S}{ai:el}{a:Act}{w:World}(h:b7 g s ai a w){r k b m i off:Nat}{l:List az}{I:az}{c:List aj}
 (ah:s.au r=some l) (ae:s.ab r k=some I) (aL:I.bV = .live) (af:ai r k=some (b,m)) (he:I.es[i]? = some c)
 {t:TypeId} (EK:(P.info? t).isSome=true) {x:aj} {v:Value} (U:Rel w (s.ok g ai w) s.aH (s.aP ai) x v) (kp:x.one=true\/ ∃c,x = .agg c)
 (dv:x.cells.length=P.cellsOf t) (gQ:off+x.cells.length<=c.length) :
 ∃bc,(Instr.storeAt t (.pointer (some ⟨b,i*I.sz+off,none⟩)) v).run P w = .ok () bc /\
  b7 g (s.setRow r (l.set k {I with es:=I.es.set i (setCells c off x.cells)})) ai a bc:=by
 obtain⟨vs,aT,ot,iw,dY⟩:=U.cellsOf kp;have aW:=h.obj r k I ae;rw[af] at aW;obtain⟨bO,c9,o,J,an,aG⟩:=aW;have hlen:c.length=I.sz:=an c (dD he)
 have wo:i*I.sz+off+vs.length<=bO.size:=by
  rcases Nat.eq_zero_or_pos I.sz with bY|bY
  ·have:off=0:=(by omega);have:vs.length=0:=(by omega);rw[bY];omega
  have aw:I.es.flatten[i*I.sz+(I.sz-1)]? = some (c[I.sz-1]'(by omega)):=(by rw[xz an he (by omega)];exact dw (by omega));obtain⟨MA,ap,-,-⟩:=aG _ _ aw;have:=(Y3.1 ap).1;omega
 have jR:=run_storeCells_at P b (i*I.sz+off) c9 vs 0 bO w o (by simpa using wo) (fun MA yM=>by obtain⟨q,aU⟩:=Y2 yM;exact iw q MA aU);simp only[Nat.add_zero] at jR
 have hn:(Instr.storeAt t (.pointer (some ⟨b,i*I.sz+off,none⟩)) v).run P w =
  .ok () (w.setRow b (bO.toList.take (i*I.sz+off)++vs++bO.toList.drop (i*I.sz+off+vs.length)).toArray):=by
  have bN:v.cells.size=P.cellsOf t:=(by rw[aT];simpa using ot.trans dv);simp only[Instr.storeAt,Instr.sureAddr,storeVar,Sem.run_bind,Sem.run_pure,Result.andThen,qh EK,bN,ne_eq,not_true_eq_false,if_false];rw[aT];simpa using jR
 refine⟨_,hn,?_⟩;have TA:(w.setRow b (bO.toList.take (i*I.sz+off)++vs++bO.toList.drop (i*I.sz+off+vs.length)).toArray).heap.size=w.heap.size:=size_setRow _ _ _;have tP:(setCells c off x.cells).length=I.sz:=by rw[Hw gQ];exact hlen
 refine(h.write ah ae aL af _ _ c9 (setRow_heap w b bO _ c9 _ o) TA (fun q aU=>setRow_other w b q _ aU) rfl rfl rfl ?_ ?_ ?_).1
 ·simp;omega
 ·intro e hm
  rcases List.mem_or_eq_of_mem_set hm with bR|bR
  ·exact an e bR
  exact bR▸tP
 intro j y aK;rw[Su wo];rw[H4 an he tP] at aK;by_cases jS:i*I.sz<=j/\j<i*I.sz+I.sz
 ·rw[dy jS,C0 gQ] at aK
  by_cases Ld:off<=j-i*I.sz/\j-i*I.sz<off+x.cells.length
  ·rw[dy Ld] at aK;rw[dy ⟨by omega,by omega⟩];have aU:j-(i*I.sz+off)<vs.length:=(by omega);refine⟨vs[j-(i*I.sz+off)],dw aU,iw _ _ (dw aU),dY (j-i*I.sz-off) y _ aK ?_⟩;rw[show j-i*I.sz-off=j-(i*I.sz+off) by omega];exact dw aU
  rw[dz Ld] at aK;rw[dz (by omega)];refine aG j y ?_;rw[show j=i*I.sz+(j-i*I.sz) by omega,xz an he (by omega)];exact aK
 rw[dz jS] at aK;rw[dz (by rw[ot];omega)];exact aG j y aK
def S.gD (s:S)(u:List (Nat×List az)):S:=u.foldl (fun s p=>s.setRow p.1 p.2) s
@[simp] theorem S.Xc (s:S):s.gD []=s:=rfl
@[simp] theorem S.Xd (s:S) (p:Nat×List az):s.gD [p]=s.setRow p.1 p.2:=rfl
section
variable {w:World} {ok:Nat->Prop} {aH:hI} {aP:hs} {v:Value}
theorem Rel.sa {x:Bool}(h:Rel w ok aH aP (.b x) v):v = .bool x:=by cases h;rfl
theorem Rel.mQ {k:IntKind}{x:Int}(h:Rel w ok aH aP (.n k x) v):v = .int k x:=by cases h;rfl
theorem Rel.wb {x:ByteArray}(h:Rel w ok aH aP (.s x) v):v = .string x:=by cases h;rfl
theorem Rel.s8 (h:Rel w ok aH aP .gP v):v = .pointer none:=by cases h;rfl
theorem Rel.n8 (h:Rel w ok aH aP .eC v):v = .slice none 0 0:=by cases h;rfl
theorem Rel.AB (h:Rel w ok aH aP .gT v): ∃a c,v = .slice (some a) 0 c:=by cases h;exact⟨_,_,rfl⟩
theorem Rel.Je {sz:Nat}(h:Rel w ok aH aP (.iA sz none) v):v = .pointer none:=by cases h;rfl
theorem Rel.Dp {sz:Nat}{c:List aj}(h:Rel w ok aH aP (.iA sz (some c)) v):Rel w ok aH aP (.d4 sz [c] 0 0) v:=by cases h;assumption
theorem Rel.AM {f:Nat}{c:List aj}(h:Rel w ok aH aP (.fn f c) v): ∃vs:List Value,v = .func (.func f) #[] vs.toArray/\vs.length=c.length /\
 ∀(j:Nat) x u,c[j]? = some x->vs[j]? = some u->Rel w ok aH aP x u:=by
 cases h with|fn vs aw ah=>exact⟨vs,rfl,aw,ah⟩
theorem Rel.vP {c:List aj}(h:Rel w ok aH aP (.agg c) v): ∃vs:List Value,v = .agg vs.toArray/\vs.length=c.length/\(∀(j:Nat) u,vs[j]? = some u->VL.iJ u=true) /\
 ∀(j:Nat) x u,c[j]? = some x->vs[j]? = some u->Rel w ok aH aP x u:=by
 cases h with|agg vs aw aJ ah=>exact⟨vs,rfl,aw,aJ,ah⟩
theorem Rel.vQ {c:List aj}(h:Rel w ok aH aP (.dl c) v): ∃vs:List Value,v = .tuple vs.toArray/\vs.length=c.length /\
 ∀(j:Nat) x u,c[j]? = some x->vs[j]? = some u->Rel w ok aH aP x u:=by
 cases h with|dl vs aw ah=>exact⟨vs,rfl,aw,ah⟩
theorem Rel.td {r k i off sz:Nat}{p:Option (Nat×Nat)}(h:Rel w ok aH aP (.ref r k i off) v)(b3:aP r k=some (sz,p)):
 p=none\/ ∃b m,p=some (b,m)/\v = .pointer (some ⟨b,i*sz+off,none⟩):=by
 cases h with
 | n9 a hu aZ =>
  cases p with
  | none=>exact .inl rfl
  | some q=>exact absurd b3 (aZ _ _)
 | ref hu h =>
  rw[b3] at h;simp only[dx,dC] at h;obtain⟨rfl,rfl⟩:=h;exact .inr ⟨_,_,rfl,rfl⟩
theorem Rel.Xl {r k i off:Nat}(h:Rel w ok aH aP (.ref r k i off) v): ∃a,v = .pointer a:=by
 cases h with
 | n9 a=>exact⟨a,rfl⟩
 | ref=>exact⟨_,rfl⟩
theorem Rel.IH {r k i off sz b m:Nat}(h:Rel w ok aH aP (.ref r k i off) v)(b3:aP r k=some (sz,some (b,m)))(Le:Nat):
 Rel w ok aH aP (.ref r k i Le) (.pointer (some ⟨b,i*sz+Le,none⟩)):=by
 cases h with
 | n9 a hu aZ=>exact absurd b3 (aZ _ _)
 | ref hu h=>exact .ref hu b3
theorem Rel.vR {sz i off:Nat}{es:List (List aj)}(h:Rel w ok aH aP (.d4 sz es i off) v): ∃cY I,(ok cY/\hy es)/\v = .pointer (some ⟨cY,I+(i*sz+off),none⟩)/\m1 w ok aH aP cY I sz es:=by
 cases h with
 | d4 cs aE af aw hw aJ ah=>exact⟨_,_,⟨aE,af⟩,rfl,aw,fun j x U=>⟨cs j,hw j x U,aJ j x U,ah j x U⟩⟩
theorem Rel.xP {r k bb len sz:Nat}{p:Option (Nat×Nat)}(h:Rel w ok aH aP (.bz r k bb len) v)(b3:aP r k=some (sz,p)):
 (p=none/\bb=0/\len=0/\v = .slice none 0 0)\/ ∃b m a c,p=some (b,m)/\v = .slice a len c/\len<=c/\c<9223372036854775808/\(c=0\/(a=some ⟨b,bb*sz,none⟩/\(bb+c)*sz=m)):=by
 cases h with
 | lP a l c hu aZ=>rw[b3] at aZ;simp at aZ
 | me hu h =>
  rw[b3] at h;simp only[dx,dC] at h;exact .inl ⟨h.2,rfl,rfl,rfl⟩
 | bz hu h aw aJ hm =>
  rw[b3] at h;simp only[dx,dC] at h;obtain⟨rfl,rfl⟩:=h;exact .inr ⟨_,_,_,_,rfl,rfl,aw,aJ,hm.2.imp id fun e=>⟨e,hm.1⟩⟩
theorem Rel.qi {r k bb len sz:Nat}{p:Option (Nat×Nat)}(h:Rel w ok aH aP (.bz r k bb len) v)(b3:aP r k=some (sz,p)):
 (p=none/\bb=0/\len=0/\v = .slice none 0 0)\/ ∃b m a c,p=some (b,m)/\v = .slice a len c/\len<=c/\c<9223372036854775808/\(bb+c)*sz=m/\(c=0\/a=some ⟨b,bb*sz,none⟩):=by
 cases h with
 | lP a l c hu aZ=>rw[b3] at aZ;simp at aZ
 | me hu h =>
  rw[b3] at h;simp only[dx,dC] at h;exact .inl ⟨h.2,rfl,rfl,rfl⟩
 | bz hu h aw aJ hm =>
  rw[b3] at h;simp only[dx,dC] at h;obtain⟨rfl,rfl⟩:=h;exact .inr ⟨_,_,_,_,rfl,rfl,aw,aJ,hm⟩
theorem Rel.W0 {r k bb len:Nat}(h:Rel w ok aH aP (.bz r k bb len) v): ∃a l c,v = .slice a l c:=by cases h<;>exact⟨_,_,_,rfl⟩
theorem Rel.q1 {sz:Nat}{es:List (List aj)}(h:Rel w ok aH aP (.isl sz es) v):
 (es=[]/\ ∃a c,v = .slice a 0 c/\(a=none->c=0))\/ ∃cY off c,(ok cY/\hy es)/\v = .slice (some ⟨cY,off,none⟩) es.length c/\es.length<=c/\m1 w ok aH aP cY off sz es:=by
 cases h with
 | iy sz a c h=>exact .inl ⟨rfl,a,c,rfl,h⟩
 | isl cs aE af aw aJ hw ho ah=>exact .inr ⟨_,_,_,⟨aE,af⟩,rfl,aJ,aw,fun j x U=>⟨cs j,hw j x U,ho j x U,ah j x U⟩⟩
theorem m1.isl {cY off c sz:Nat}{es:List (List aj)}(h:m1 w ok aH aP cY off sz es)(aE:ok cY/\hy es)(aJ:es.length<=c):Rel w ok aH aP (.isl sz es) (.slice (some ⟨cY,off,none⟩) es.length c):=by
 have U : ∀j:Nat,∃v,∀x,es.flatten[j]? = some x->w.cell? ⟨cY,off+j,none⟩=some v/\VL.iJ v=true/\Rel w ok aH aP x v:=by
  intro j
  cases ao:es.flatten[j]? with
  | none=>exact⟨undef,fun x U=>by simp at U⟩
  | some y =>
   obtain⟨v,o⟩:=h.2 j y ao;exact⟨v,fun x U=>by simp at U;subst U;exact o⟩
 exact .isl (fun j=>(U j).choose) aE.1 aE.2 h.1 aJ (fun j x ao=>((U j).choose_spec x ao).1) (fun j x ao=>((U j).choose_spec x ao).2.1) (fun j x ao=>((U j).choose_spec x ao).2.2)
theorem m1.d4 {cY I i off sz:Nat}{es:List (List aj)}(h:m1 w ok aH aP cY I sz es)(aE:ok cY/\hy es):Rel w ok aH aP (.d4 sz es i off) (.pointer (some ⟨cY,I+(i*sz+off),none⟩)):=by
 have U : ∀j:Nat,∃v,∀x,es.flatten[j]? = some x->w.cell? ⟨cY,I+j,none⟩=some v/\VL.iJ v=true/\Rel w ok aH aP x v:=by
  intro j
  cases ao:es.flatten[j]? with
  | none=>exact⟨undef,fun x U=>by simp at U⟩
  | some y =>
   obtain⟨v,o⟩:=h.2 j y ao;exact⟨v,fun x U=>by simp at U;subst U;exact o⟩
 exact .d4 (fun j=>(U j).choose) aE.1 aE.2 h.1 (fun j x ao=>((U j).choose_spec x ao).1) (fun j x ao=>((U j).choose_spec x ao).2.1) (fun j x ao=>((U j).choose_spec x ao).2.2)
end
def Fin (P:Program)(g:G)(s:S)(a:Act)(w:World)(I:Oper)(a1:fI):Prop :=
 ∃v bc bf,((execOp a.eval I).run P w = .ok (.value v) bc\/((execOp a.eval I).run P w = .ok .skip bc/\v=undef)) /\
  b7 g (s.gD a1.eH) bf a bc/\Rel bc ((s.gD a1.eH).ok g bf bc) (s.gD a1.eH).aH ((s.gD a1.eH).aP bf) a1.val v
section
variable {P:Program} {g:G} {s:S} {ai:el} {a:Act} {w:World} {I:Oper} {b9:d5} {aA:Nat} {a1:fI}
theorem gC (h:b7 g s ai a w){v:Value}(hn:(execOp a.eval I).run P w = .ok (.value v) w)(hu:a1.eH=[])
 (ah:Rel w (s.ok g ai w) s.aH (s.aP ai) a1.val v):Fin P g s a w I a1 :=
 ⟨v,w,ai,.inl hn,by rw[hu];exact h,by rw[hu];exact ah⟩
theorem JK {x:Operand}(h:b7 g s ai a w)(ae:I.op = .move x\/I.op = .assign x)(ag:dr P s.E s.au aA I b9=some a1):Fin P g s a w I a1:=by
 have:a1={val:=dc s.E x}:=by rcases ae with ae|ae<;>simp[dr,ae] at ag<;>exact ag.symm
 subst this;refine gC (v:=a.eval x) h ?_ rfl (h.eval x);rcases ae with ae|ae<;>simp[execOp,ae]
theorem RT {c x y:Operand}(h:b7 g s ai a w)(ae:I.op = .pick c x y)(ag:dr P s.E s.au aA I b9=some a1)(bM:∀p∈a1.ea,p):Fin P g s a w I a1:=by
 have aJ:=h.eval c;simp only[dr,ae] at ag
 have key : ∀t:Bool,dc s.E c = .b t->a1.eH=[]->a1.val=(if t then dc s.E x else dc s.E y)->Fin P g s a w I a1:=by
  intro t b3 hu aT;rw[b3] at aJ;have e:a.eval c = .bool t:=aJ.sa;refine gC (v:=if t then a.eval x else a.eval y) h (by simp[execOp,ae,e,asBool]) hu ?_;rw[aT];cases t
  ·exact h.eval y
  exact h.eval x
 split at ag
 ·rename_i z t bY;simp at ag;subst ag;have e:z=t:=bM _ (by simp);subst e;exact key z bY rfl rfl
 ·rename_i bY _;simp at ag;subst ag;exact key true bY rfl rfl
 ·rename_i bY _;simp at ag;subst ag;exact key false bY rfl rfl
 simp at ag
theorem AD (h:b7 g s ai a w)(dU:s.au aA=none){v:Value}{ab:az}{c:Array Value}{c9:TypeId}(aL:ab.bV = .live)
 (hn:(execOp a.eval I).run P w = .ok (.value v) (w.alloc (.cells c c9))) (hu:a1.eH=[(aA,[ab])]) (hlen : ∀e∈ab.es,e.length=ab.sz)
 (aJ : ∀(j:Nat) x,ab.es.flatten[j]? = some x-> ∃v,c[j]? = some v/\iJ v=true/\Rel w (s.ok g ai w) s.aH (s.aP ai) x v)
 (hval : ∀(bc:World) (jv:Nat->Prop) (lp:hI) (kU:hs),lp aA 0->kU aA 0=some (ab.sz,some (w.heap.size,c.size))->Rel bc jv lp kU a1.val v):Fin P g s a w I a1:=by
 obtain⟨bf,af,bN,-⟩:=h.alloc dU ab aL c c9 hlen aJ;have o:(s.setRow aA [ab]).aH aA 0:=by rw[lO];simp
 have J:(s.setRow aA [ab]).aP bf aA 0=some (ab.sz,some (w.heap.size,c.size)):=by simp[S.aP,j0,kL,aL,af]
 exact⟨v,_,bf,.inl hn,by rw[hu];exact bN,by rw[hu];exact hval _ _ _ _ o J⟩
theorem vB {t:TypeId}{z:List aj}(bY:n6 P t=some z): ∃i c6,P.info? t=some i/\i.zero=some c6/\z=c6.cells.toList.map ofValue /\
 ∀(j:Nat) x,z[j]? = some x-> ∃v,c6.cells[j]? = some v/\iJ v=true/\ ∀(w:World) (ok:Nat->Prop) (aH:hI) (aP:hs),Rel w ok aH aP x v:=by
 unfold n6 at bY
 cases ad:P.info? t with
 | none=>simp[ad] at bY
 | some i =>
  cases iN:i.zero with
  | none=>simp[ad,iN] at bY
  | some c6 =>
   simp only[ad,iN] at bY;split at bY
   ·rename_i mr;simp only[dx] at bY;refine⟨i,c6,rfl,iN,bY.symm,fun j x U=> ?_⟩;subst bY;rw[dI,dL] at U;obtain⟨v,aT,rfl⟩:=U;refine⟨v,by rw[<- Array.getElem?_toList];exact aT,?_,fun w ok aH aP=>H2 v⟩;exact List.all_eq_true.1 mr v (dD aT)
   simp at bY
theorem Q2 {t:TypeId}(h:b7 g s ai a w)(dU:s.au aA=none)(ae:I.op = .alloc t)(ag:dr P s.E s.au aA I b9=some a1):Fin P g s a w I a1:=by
 simp only[dr,ae] at ag;split at ag
 ·rename_i z bY
  obtain⟨i,c6,ad,iN,e,iw⟩:=vB bY;simp only[dx] at ag;subst ag;refine AD (v:= .pointer (some ⟨w.heap.size,0,none⟩)) (c:=c6.cells) (c9:=t) (ab:=⟨z.length,[z],.live⟩) h dU rfl ?_ rfl (by simp) ?_ ?_
  ·simp[execOp,ae,Instr.alloc,zeroValue,typeInfo,ad,iN,newVar,newRow]
  ·intro j x U;simp only[dS,List.flatten_nil,List.append_nil] at U;obtain⟨v,o,J,an⟩:=iw j x U;exact⟨v,o,J,an _ _ _ _⟩
  intro bc jv lp kU hu b3;have:=Rel.ref (w:=bc) (ok:=jv) (i:=0) (off:=0) hu b3;simpa using this
 simp at ag
theorem Sv {t:TypeId}{x:Operand}(h:b7 g s ai a w)(dU:s.au aA=none)(ae:I.op = .box t x)(ag:dr P s.E s.au aA I b9=some a1):Fin P g s a w I a1:=by
 simp only[dr,ae] at ag;have U:=h.eval x
 have key : ∀ab:az,ab.bV = .live->ab.es=[(dc s.E x).cells]->ab.sz=(dc s.E x).cells.length->((dc s.E x).one=true\/ ∃c,dc s.E x = .agg c) ->
  a1.eH=[(aA,[ab])]->a1.val = .ref aA 0 0 0->Fin P g s a w I a1:=by
  intro ab aL gb dv kp hu aT;obtain⟨vs,ap,av,bS,dj⟩:=U.cellsOf kp;refine AD (v:= .pointer (some ⟨w.heap.size,0,none⟩)) (c:=(a.eval x).cells) (c9:=t) h dU aL ?_ hu ?_ ?_ ?_
  ·simp[execOp,ae,Instr.box,newVar,newRow]
  ·intro e he;rw[gb] at he;simp at he;rw[he,dv]
  ·intro j y aK
   rw[gb] at aK;simp only[dS,List.flatten_nil,List.append_nil] at aK
   have ao:j<vs.length:=by
    rcases Nat.lt_or_ge j (dc s.E x).cells.length with bR|bR
    ·omega
    rw[dP bR] at aK;simp at aK
   refine⟨vs[j],by rw[ap];simp[ao],bS j _ (dw ao),dj j y _ aK (dw ao)⟩
  intro bc jv lp kU mU b3;have:=Rel.ref (w:=bc) (ok:=jv) (i:=0) (off:=0) mU b3;rw[aT];simpa using this
 split at ag
 ·rename_i c aJ;simp only[dx] at ag;subst ag;exact key _ rfl (by rw[aJ];rfl) (by rw[aJ];rfl) (.inr ⟨c,aJ⟩) rfl rfl
 split at ag
 ·rename_i kp
  simp only[dx] at ag;subst ag;have e:(dc s.E x).cells=[dc s.E x]:=by generalize dc s.E x=y at kp;cases y<;>first|rfl|simp[aj.one] at kp
  exact key _ rfl (by rw[e]) (by rw[e];rfl) (.inl kp) rfl rfl
 simp at ag
theorem gu {s:S}{ai:el}{r k:Nat}{ab:az}(h:s.ab r k=some ab):s.aP ai r k=some (ab.sz,ai r k):=by simp[S.aP,h]
theorem qm {row:Option (List az)}{k:Nat}{ab:az}{bT:List Prop}(h:mq row k b9=some (ab,bT))(bM:∀p∈bT,p):cB row k=some ab:=by
 unfold mq at h;split at h
 ·split at h
  ·simp at h;obtain⟨rfl,rfl⟩:=h;exact bM _ (by simp)
  simp at h
 split at h
 ·rename_i bR;simp at h;obtain⟨rfl,rfl⟩:=h;exact bR
 simp at h
theorem vE {es:List (List aj)}{i:Nat}{c:List aj}{bT:List Prop}(h:elemAt es i b9=some (c,bT))(bM:∀p∈bT,p):es[i]? = some c:=by
 unfold elemAt at h;split at h
 ·simp at h;obtain⟨rfl,rfl⟩:=h;exact bM _ (by simp)
 ·simp at h;obtain⟨rfl,rfl⟩:=h;exact bM _ (by simp)
 split at h
 ·rename_i bR;simp at h;obtain⟨rfl,rfl⟩:=h;exact bR
 simp at h
theorem RU {t:TypeId}{x:Operand}(h:b7 g s ai a w)(ae:I.op = .load t x)(ag:dr P s.E s.au aA I b9=some a1)(bM:∀p∈a1.ea,p):Fin P g s a w I a1:=by
 simp only[dr,ae] at ag;have U:=h.eval x;split at ag
 ·rename_i r k i off fx
  rw[fx] at U;split at ag;rotate_left
  ·simp at ag
  rename_i ab bT aW;split at ag;rotate_left
  ·simp at ag
  rename_i c a2 k4;split at ag;rotate_left
  ·simp at ag
  rename_i v aT;simp only[dx] at ag;subst ag;have ha:s.ab r k=some ab:=qm aW fun p af=>bM p (by simp[af]);have nP:=vE k4 fun p af=>bM p (by simp[af]);have dY:=h.obj r k ab ha;rcases U.td (gu ha) with h0|⟨b,m,af,hval⟩
  ·rw[h0] at dY;simp only[hl] at dY;rw[dY] at nP;simp at nP
  rw[af] at dY;obtain⟨u,o,J⟩:=C9 (P:=P) dY.rd nP aT;refine gC (v:=u) h ?_ rfl J;rw[dG] at o;simp[execOp,ae,hval,o]
 ·rename_i sz es i off fx
  rw[fx] at U;split at ag
  ·rename_i c a2 k4
   split at ag
   ·rename_i v aT;simp only[dx] at ag;subst ag;have nP:=vE k4 fun p af=>bM p (by simp[af]);obtain⟨cY,bD,aE,hval,gU⟩:=U.vR;obtain⟨u,o,J⟩:=C9 (P:=P) gU nP aT;refine gC (v:=u) h ?_ rfl J;simp[execOp,ae,hval,o]
   simp at ag
  simp at ag
 simp at ag
end
section
variable {P:Program} {g:G} {s:S} {ai:el} {a:Act} {w:World} {I:Oper} {b9:d5} {aA:Nat} {a1:fI}
theorem II (h:b7 g s ai a w){r k i off:Nat}{row:List az}{ab:az}{c:List aj}{t:TypeId}{x y:Operand}(ae:I.op = .store t x y)
 (fx:dc s.E x = .ref r k i off) (cu:s.au r=some row) (aW:s.ab r k=some ab) (aL:ab.bV = .live) (k4:ab.es[i]? = some c)
 (kp:(dc s.E y).one=true\/ ∃c,dc s.E y = .agg c) (dv:(dc s.E y).cells.length=P.cellsOf t) (EK:(P.info? t).isSome=true)
 (gQ:off+(dc s.E y).cells.length<=c.length) (ag:a1.val = .dead) (hu:a1.eH=[(r,row.set k {ab with es:=ab.es.set i (setCells c off (dc s.E y).cells)})]):Fin P g s a w I a1:=by
 have U:=h.eval x;rw[fx] at U;have dY:=h.obj r k ab aW;rcases U.td (gu aW) with h0|⟨b,m,af,hval⟩
 ·rw[h0] at dY;simp only[hl] at dY;rw[dY] at k4;simp at k4
 obtain⟨bc,o,J⟩:=Pr (P:=P) h cu aW aL af k4 EK (h.eval y) kp dv gQ;refine⟨undef,bc,ai,.inr ⟨?_,rfl⟩,by rw[hu];exact J,by rw[ag];exact .dead _⟩;simp[execOp,ae,hval,o]
theorem Q3 {t:TypeId}{x y:Operand}(h:b7 g s ai a w)(ae:I.op = .store t x y)(ag:dr P s.E s.au aA I b9=some a1)(bM:∀p∈a1.ea,p):Fin P g s a w I a1:=by
 simp only[dr,ae] at ag;split at ag;rotate_left
 ·simp at ag
 rename_i r k i off fx;split at ag
 ·simp at ag
 rename_i row cu;split at ag;rotate_left
 ·simp at ag
 rename_i ab bT TB;split at ag
 ·simp at ag
 rename_i aL;have aL:ab.bV = .live:=by simpa using aL
 split at ag
 ·simp at ag
 rename_i kp;have kp:=aj.H3 (by simpa using kp);split at ag
 ·simp at ag
 rename_i dv;simp only[not_or,Decidable.not_not,Bool.not_eq_false] at dv;have ha:(∀p∈bT,p)->s.ab r k=some ab:=fun bs=>by have:=qm TB bs;unfold S.ab;rw[cu];exact this
 split at ag
 ·split at ag
  ·rename_i wm
   simp only[dx] at ag;subst ag;subst wm;have c0:i<ab.es.length:=bM _ (by simp);have ho:(dc s.E y).cells.length=ab.sz:=bM _ (by simp);have yq:=ha fun p af=>bM p (by simp[af])
   have hlen:(ab.es[i]).length=ab.sz:=by
    have dY:=h.obj r k ab yq
    cases af:ai r k with
    | none=>rw[af] at dY;simp only[hl] at dY;rw[dY] at c0;simp at c0
    | some q =>
     rw[af] at dY;obtain⟨_,_,_,_,an,_⟩:=dY;exact an _ (List.getElem_mem c0)
   refine II h ae fx cu yq aL (c:=ab.es[i]) (dw c0) kp dv.1 dv.2 (by omega) rfl ?_;have e:setCells ab.es[i] 0 (dc s.E y).cells=(dc s.E y).cells:=(by simp[setCells,hlen,ho]);rw[e]
  simp at ag
 split at ag
 ·rename_i c a2 k4
  split at ag
  ·rename_i gQ;simp only[dx] at ag;subst ag;exact II h ae fx cu (ha fun p af=>bM p (by simp[af])) aL (vE k4 fun p af=>bM p (by simp[af])) kp dv.1 dv.2 gQ rfl rfl
  simp at ag
 simp at ag
theorem Ps {x:Operand}(h:b7 g s ai a w)(ae:I.op = .nilCheck x)(ag:dr P s.E s.au aA I b9=some a1)(bM:∀p∈a1.ea,p):Fin P g s a w I a1:=by
 simp only[dr,ae] at ag;have U:=h.eval x;split at ag
 ·rename_i r k i off fx
  rw[fx] at U;split at ag
  ·rename_i ab bT aW
   split at ag
   ·rename_i c a2 k4
    simp only[dx] at ag;subst ag;have ha:s.ab r k=some ab:=qm aW fun p af=>bM p (by simp[af]);have nP:=vE k4 fun p af=>bM p (by simp[af]);have dY:=h.obj r k ab ha;rcases U.td (gu ha) with h0|⟨b,m,af,hval⟩
    ·rw[h0] at dY;simp only[hl] at dY;rw[dY] at nP;simp at nP
    refine gC (v:=a.eval x) h ?_ rfl U;simp[execOp,ae,hval]
   simp at ag
  simp at ag
 ·rename_i sz es i off fx;rw[fx] at U;simp only[dx] at ag;subst ag;obtain⟨cY,bD,aE,hval,gU⟩:=U.vR;refine gC (v:=a.eval x) h ?_ rfl U;simp[execOp,ae,hval]
 ·rename_i f c fx;rw[fx] at U;simp only[dx] at ag;subst ag;obtain⟨vs,hval,-⟩:=U.AM;refine gC (v:=a.eval x) h ?_ rfl U;simp[execOp,ae,hval]
 simp at ag
theorem Qm {op:BinOp}{t:TypeId}{x y z:aj}{ab:List Prop}(ag:Em op x y=some (z,ab))(bM:∀p∈ab,p)
 {ok:Nat->Prop} {aH:hI} {aP:hs} {jI jJ:Value} (U:Rel w ok aH aP x jI) (aK:Rel w ok aH aP y jJ) (p q:Operand) :
 ∃v,((do eqGuard op t p q jI jJ;binOp op t jI jJ):Sem Value).run P w = .ok v w/\Rel w ok aH aP z v:=by
 unfold Em at ag;split at ag
 ·rename_i k n cA lC
  have fW:=U.mQ;have hh:=aK.mQ;subst fW;subst hh;have cZ : ∀op,eqGuard op t p q (.int k n) (.int cA lC)=pure ():=fun op=>eqGuard_at_int ..;simp only[Sem.run_bind,cZ,Sem.run_pure,Result.andThen_ok];split at ag
  ·simp only[dx,dC] at ag;obtain⟨rfl,rfl⟩:=ag;have h0:0<=lC:=bM _ (by simp);exact⟨_,by simp[binOp,Op.shift,show ¬lC<0 by omega],.n _ _⟩
  ·simp only[dx,dC] at ag;obtain⟨rfl,rfl⟩:=ag;have h0:0<=lC:=bM _ (by simp);exact⟨_,by simp[binOp,Op.shift,show ¬lC<0 by omega],.n _ _⟩
  split at ag
  ·simp at ag
  rename_i aL;have aL:k=cA:=(by simpa using aL);subst aL;split at ag<;>simp only[dx,dC,reduceCtorEq] at ag
  all_goals (obtain⟨rfl,rfl⟩:=ag)
  case h_4|h_5 =>
   have h0:lC≠0:=bM _ (by simp);exact⟨_,by simp[binOp,Op.intDiv,h0],.n _ _⟩
  all_goals first
   | (refine⟨_,?_,.n _ _⟩;rw[binOp_add];rfl)
   | (refine⟨_,?_,.n _ _⟩;rw[binOp_sub];rfl)
   | (refine⟨_,?_,.n _ _⟩;rw[binOp_mul];rfl)
   | (refine⟨_,?_,.n _ _⟩;rw[binOp_and];rfl)
   | (refine⟨_,?_,.n _ _⟩;rw[binOp_or];rfl)
   | (refine⟨_,?_,.n _ _⟩;rw[binOp_xor];rfl)
   | (refine⟨_,?_,.b _⟩;simp[binOp,Op.intCmp];done)
 ·rename_i ca kD
  have fW:=U.wb;have hh:=aK.wb;subst fW;subst hh;have cZ : ∀op,eqGuard op t p q (.string ca) (.string kD)=pure ():=fun op=>eqGuard_at_string ..;simp only[Sem.run_bind,cZ,Sem.run_pure,Result.andThen_ok];split at ag<;>simp only[dx,dC,reduceCtorEq] at ag
  all_goals (obtain⟨rfl,rfl⟩:=ag)
  ·have h0:ca.size+kD.size<9223372036854775808:=bM _ (by simp);refine⟨_,?_,.s _⟩;have o : ¬((ca.size+kD.size:Nat):Int)>IntKind.i64.max:=(by rw[IntKind.max_i64];omega);rw[IntKind.max_i64] at o;simp[binOp,Op.stringOp];omega
  ·exact⟨_,by simp[binOp,Op.stringOp],.b _⟩
  exact⟨_,by simp[binOp,Op.stringOp],.b _⟩
 simp at ag
theorem s5 (t:TypeId)(x y:Value):Op.equal t x y=Op.equalIn (9999+1) t x y:=rfl
theorem xq {t:TypeId}{a b:Bool}(d:Nat)(bk:P.underlying t=some .bool):(Op.equalIn (d+1) t (.bool a) (.bool b)).run P w = .ok (a == b) w:=by unfold Op.equalIn;simp[run_underlying bk]
theorem xA {t e:TypeId}(d:Nat)(bk:P.underlying t=some (.pointer e)):(Op.equalIn (d+1) t (.pointer none) (.pointer none)).run P w = .ok true w:=by unfold Op.equalIn;simp[run_underlying bk]
theorem xB {t e:TypeId}{a:Addr}(d:Nat)(bk:P.underlying t=some (.pointer e)):(Op.equalIn (d+1) t (.pointer (some a)) (.pointer none)).run P w = .ok false w:=by unfold Op.equalIn;simp[run_underlying bk]
theorem xC {t e:TypeId}{a:Addr}(d:Nat)(bk:P.underlying t=some (.pointer e)):(Op.equalIn (d+1) t (.pointer none) (.pointer (some a))).run P w = .ok false w:=by unfold Op.equalIn;simp[run_underlying bk]
theorem xD {t e:TypeId}(d:Nat)(bk:P.underlying t=some (.slice e)):(Op.equalIn (d+1) t (.slice none 0 0) (.slice none 0 0)).run P w = .ok true w:=by unfold Op.equalIn;simp[run_underlying bk]
theorem Ij {t e:TypeId}{a:Addr}{c:Nat}(d:Nat)(bk:P.underlying t=some (.slice e))(n:Nat):(Op.equalIn (d+1) t (.slice (some a) n c) (.slice none 0 0)).run P w = .ok false w:=by unfold Op.equalIn;simp[run_underlying bk]
theorem vL {t:TypeId}{x y:aj}{r:Bool}(ag:qz P t x y=some r)
 {ok:Nat->Prop} {aH:hI} {aP:hs} {jI jJ:Value} (U:Rel w ok aH aP x jI) (aK:Rel w ok aH aP y jJ) (p q:Operand) :
 ((do eqGuard .eql t p q jI jJ;binOp .eql t jI jJ):Sem Value).run P w = .ok (.bool r) w /\
 ((do eqGuard .neq t p q jI jJ;binOp .neq t jI jJ):Sem Value).run P w = .ok (.bool !r) w:=by
 have key : ∀b:Bool,(∀op,eqGuard op t p q jI jJ=pure ())->binOp .eql t jI jJ=(do pure (.bool (<- Op.equal t jI jJ)))->binOp .neq t jI jJ=(do pure (.bool (!(<- Op.equal t jI jJ)))) ->
  (Op.equal t jI jJ).run P w = .ok b w->((do eqGuard .eql t p q jI jJ;binOp .eql t jI jJ):Sem Value).run P w = .ok (.bool b) w /\
  ((do eqGuard .neq t p q jI jJ;binOp .neq t jI jJ):Sem Value).run P w = .ok (.bool !b) w:=by
  intro b cZ o J an;constructor
  ·rw[cZ,o];simp[an]
  rw[cZ,J];simp[an]
 unfold qz at ag;split at ag
 ·rename_i ca kD bk;simp only[dx] at ag;subst ag;have fW:=U.sa;have hh:=aK.sa;subst fW;subst hh;exact key _ (fun op=>eqGuard_at_bool ..) rfl rfl (by rw[s5];first|exact xq _ bk|exact xA _ bk|exact xB _ bk|exact xC _ bk|exact xD _ bk)
 ·rename_i e bk;simp only[dx] at ag;subst ag;have fW:=U.s8;have hh:=aK.s8;subst fW;subst hh;exact key _ (fun op=>eqGuard_at_pointer ..) rfl rfl (by rw[s5];first|exact xq _ bk|exact xA _ bk|exact xB _ bk|exact xC _ bk|exact xD _ bk)
 ·rename_i e sz es i off bk;simp only[dx] at ag;subst ag;obtain⟨cY,bD,-,fW,-⟩:=U.vR;have hh:=aK.s8;subst fW;subst hh;exact key _ (fun op=>eqGuard_at_pointer ..) rfl rfl (by rw[s5];first|exact xq _ bk|exact xA _ bk|exact xB _ bk|exact xC _ bk|exact xD _ bk)
 ·rename_i e sz es i off bk;simp only[dx] at ag;subst ag;obtain⟨cY,bD,-,hh,-⟩:=aK.vR;have fW:=U.s8;subst fW;subst hh;exact key _ (fun op=>eqGuard_at_pointer ..) rfl rfl (by rw[s5];first|exact xq _ bk|exact xA _ bk|exact xB _ bk|exact xC _ bk|exact xD _ bk)
 ·rename_i e bk;simp only[dx] at ag;subst ag;have fW:=U.n8;have hh:=aK.n8;subst fW;subst hh;exact key _ (fun op=>eqGuard_at_slice ..) rfl rfl (by rw[s5];first|exact xq _ bk|exact xA _ bk|exact xB _ bk|exact xC _ bk|exact xD _ bk)
 ·rename_i e bk;simp only[dx] at ag;subst ag;obtain⟨um,c,fW⟩:=U.AB;have hh:=aK.n8;subst fW;subst hh;exact key _ (fun op=>eqGuard_at_slice ..) rfl rfl (by rw[s5];exact Ij _ bk 0)
 simp at ag
theorem Ki {t e:TypeId}(bk:P.underlying t=some (.slice e)){sz:Nat}{es:List (List aj)}(cc:es≠[])
 {ok:Nat->Prop} {aH:hI} {aP:hs} {jI jJ:Value} (U:Rel w ok aH aP (.isl sz es) jI) (aK:Rel w ok aH aP .eC jJ) (p q:Operand) :
 ((do eqGuard .eql t p q jI jJ;binOp .eql t jI jJ):Sem Value).run P w = .ok (.bool false) w /\
 ((do eqGuard .neq t p q jI jJ;binOp .neq t jI jJ):Sem Value).run P w = .ok (.bool true) w:=by
 rcases U.q1 with ⟨h0,-⟩|⟨cY,off,c,-,fW,-⟩
 ·exact absurd h0 cc
 have hh:=aK.n8;subst fW;subst hh;have an:(Op.equal t (.slice (some ⟨cY,off,none⟩) es.length c) (.slice none 0 0)).run P w = .ok false w:=by rw[s5];exact Ij _ bk _
 have cZ : ∀op,eqGuard op t p q (.slice (some ⟨cY,off,none⟩) es.length c) (.slice none 0 0)=pure ():=fun op=>eqGuard_at_slice ..;have o:binOp .eql t (.slice (some ⟨cY,off,none⟩) es.length c) (.slice none 0 0)=(do pure (.bool (<- Op.equal t (.slice (some ⟨cY,off,none⟩) es.length c) (.slice none 0 0)))):=rfl;have J:binOp .neq t (.slice (some ⟨cY,off,none⟩) es.length c) (.slice none 0 0)=(do pure (.bool (!(<- Op.equal t (.slice (some ⟨cY,off,none⟩) es.length c) (.slice none 0 0))))):=rfl;constructor
 ·rw[cZ,o];simp[an]
 rw[cZ,J];simp[an]
theorem Q4 {op:BinOp}{t cx:TypeId}{x y:Operand}(h:b7 g s ai a w)(ae:I.op = .binOp op t x y cx)(ag:dr P s.E s.au aA I b9=some a1)(bM:∀p∈a1.ea,p):Fin P g s a w I a1:=by
 simp only[dr,ae] at ag;have U:=h.eval x;have aK:=h.eval y;split at ag
 ·rename_i v ab aE;simp only[dx] at ag;subst ag;obtain⟨u,o,J⟩:=Qm (P:=P) (t:=t) aE bM U aK x y;refine gC (v:=u) h ?_ rfl J;simp only[execOp,ae];rw[Sem.run_bind,o];rfl
 split at ag
 ·cases he:qz P t (dc s.E x) (dc s.E y) with
  | none=>simp[he] at ag
  | some r =>
   simp[he] at ag;subst ag;refine gC (v:= .bool r) h ?_ rfl (.b r);simp only[execOp,ae];rw[Sem.run_bind,(vL (w:=w) he U aK x y).1];rfl
 ·cases he:qz P t (dc s.E x) (dc s.E y) with
  | none=>simp[he] at ag
  | some r =>
   simp[he] at ag;subst ag;refine gC (v:= .bool !r) h ?_ rfl (.b _);simp only[execOp,ae];rw[Sem.run_bind,(vL (w:=w) he U aK x y).2];rfl
 simp at ag
theorem RV {op:UnOp}{t:TypeId}{x:Operand}(h:b7 g s ai a w)(ae:I.op = .unOp op t x)(ag:dr P s.E s.au aA I b9=some a1):Fin P g s a w I a1:=by
 simp only[dr,ae] at ag;have U:=h.eval x
 cases he:EI op (dc s.E x) with
 | none=>simp[he] at ag
 | some v =>
  simp[he] at ag;subst ag;unfold EI at he;split at he
  ·rename_i k n fx;rw[fx] at U;simp only[dx] at he;subst he;refine gC (v:= .int k (k.wrap (0-n))) h ?_ rfl (.n _ _);simp[execOp,ae,U.mQ,Op.unary,Op.intArith]
  ·rename_i b fx;rw[fx] at U;simp only[dx] at he;subst he;refine gC (v:= .bool !b) h ?_ rfl (.b _);simp[execOp,ae,U.sa,Op.unary]
  simp at he
theorem PN {t cx:TypeId}{x:Operand}(h:b7 g s ai a w)(ae:I.op = .convert t cx x)(ag:dr P s.E s.au aA I b9=some a1):Fin P g s a w I a1:=by
 simp only[dr,ae] at ag;have U:=h.eval x;split at ag
 ·rename_i k cA n bk fx
  rw[fx] at U;split at ag
  case isFalse=>simp at ag
  rename_i bN;simp only[dx] at ag;subst ag;refine gC (v:= .int k (k.wrap n)) h ?_ rfl (.n _ _)
  cases Ly:P.underlying t with
  | none=>simp[Ly] at bN
  | some d=>simp[execOp,ae,U.mQ,convert,run_underlying bk,run_underlying Ly,Conv.intToInt]
 ·rename_i r k bb len bk fx
  rw[fx] at U;split at ag;rotate_left
  ·simp at ag
  rename_i ab A9 aW;split at ag;rotate_left
  ·simp at ag
  rename_i l5 yN;split at ag;rotate_left
  ·simp at ag
  rename_i aJ;simp only[dx] at ag;subst ag
  obtain⟨e,bN,he⟩ : ∃e,P.underlying t=some (.slice e)/\P.underlying e=some (.int .u8):=by
   unfold nL at A9;split at A9
   ·rename_i e bN;exact⟨e,bN,A9⟩
   simp at A9
  have cS:s.ab r k=some ab:=aW;have dY:=h.obj r k ab cS
  have hzero : ∀(oI:Option Addr) (c:Nat),len=0->(convert t cx (.slice oI 0 c)).run P w = .ok (.string (wk l5)) w:=by
   intro oI c h0;subst h0;have:l5=[]:=(by simpa [bytesOf] using yN);subst this
   cases oI with
   | none=>rw[run_convert_bytes_string w t cx e none 0 c bN he bk];simp[Conv.bytesToString,wk]
   | some oI =>
    rw[run_convert_bytes_string w t cx e (some oI) 0 c bN he bk,run_bytesToString w oI 0 c [] (by have:=run_loadCells_list (P:=P) w oI [] (fun j v ao=>by simp at ao);simpa using this)];rfl
  rcases U.xP (gu cS) with ⟨af,rfl,rfl,hval⟩|⟨b,m,A,c,af,hval,ou,qA,hm⟩
  ·refine gC (v:= .string (wk l5)) h ?_ rfl (.s _);simp[execOp,ae,hval,hzero none 0 rfl]
  refine gC (v:= .string (wk l5)) h ?_ rfl (.s _);by_cases h0:len=0
  ·subst h0;simp[execOp,ae,hval,hzero A c rfl]
  rcases hm with hm|⟨hA,hm⟩
  ·omega
  subst hA;rw[af] at dY;have gU:=dY.rd
  have wv : ∀(es:List (List aj)) (l5:ar),bytesOf es=some l5->es.length=l5.length/\ ∀(i:Nat) n,l5[i]? = some n->es[i]? = some [.n .u8 n]:=by
   intro es
   induction es with
   | nil=>intro l5 h;simp[bytesOf] at h;subst h;exact⟨rfl,fun i n ad=>by simp at ad⟩
   | cons x es ih =>
    intro l5 h;unfold bytesOf at h;split at h
    ·simp at *
    ·rename_i n0 X0 Bm
     simp only[List.cons.injEq] at Bm;obtain⟨rfl,rfl⟩:=Bm;rw[dL] at h;obtain⟨cG,Uq,rfl⟩:=h;obtain⟨ap,av⟩:=ih cG Uq;refine⟨by simp[ap],fun i n ad=> ?_⟩
     cases i with
     | zero=>simp at ad;subst ad;rfl
     | succ i=>simpa using av i n (by simpa using ad)
    simp at h
  obtain⟨ap,av⟩:=wv _ _ yN;have hlen:l5.length=len:=(by rw[<- ap];simp;omega);have S9:(loadCells ⟨b,bb*ab.sz,none⟩ len).run P w = .ok (l5.map (Value.int .u8)).toArray w:=(by have:=run_loadCells_list (P:=P) w ⟨b,bb*ab.sz,none⟩ (l5.map (Value.int .u8)) (fun j v ao=>by rw[dI,dL] at ao;obtain⟨n,aZ,rfl⟩:=ao;have jS:=av j n aZ;have tQ:j<len:=(by rw[<- hlen];exact(Y4.1 aZ).1);rw[List.getElem?_take_of_lt tQ,Y7] at jS;obtain⟨v,v1,v2,v3⟩:=gU.2 ((bb+j)*ab.sz+0) (.n .u8 n) (by rw[xz gU.1 jS (by omega)];rfl);have aT:=v3.mQ;subst aT;rw[pz,<- v1,aJ.2];congr 2;omega);rw[Zc,hlen] at this;exact this);have J:=run_bytesToString w ⟨b,bb*ab.sz,none⟩ len c l5 S9;rw[<- run_convert_bytes_string w t cx e _ len c bN he bk] at J;simp[execOp,ae,hval,J,wk]
 simp at ag
theorem Pt {f:Fn}{zv bO:Array Operand}(h:b7 g s ai a w)(ae:I.op = .makeFunc f zv bO)(ag:dr P s.E s.au aA I b9=some a1):Fin P g s a w I a1:=by
 cases f with
 | func n =>
  simp only[dr,ae] at ag;split at ag;rotate_left
  ·simp at ag
  rename_i Ur;simp only[dx] at ag;subst ag;refine gC (v:= .func (.func n) #[] (bO.map a.eval)) h ?_ rfl ?_
  ·have:zv = #[]:=(by simpa using Ur);subst this;simp[execOp,ae,Instr.makeFunc]
  have:=Rel.fn (f:=n) (c:=bO.toList.map (dc s.E)) (w:=w) (ok:=s.ok g ai w) (aH:=s.aH) (aP:=s.aP ai) (bO.toList.map a.eval) (by simp) (by intro j x v U aT;rw[dI,dL] at U aT;obtain⟨p,af,rfl⟩:=U;obtain⟨q,aU,rfl⟩:=aT;rw[af] at aU;simp at aU;subst aU;exact h.eval p);have e:(bO.toList.map a.eval).toArray=bO.map a.eval:=(by apply Array.ext';rw[Array.toList_map]);rw[e] at this;exact this
 | _=>simp[dr,ae] at ag
theorem PO {i:Nat}{x:Operand}(h:b7 g s ai a w)(ae:I.op = .extract x i)(ag:dr P s.E s.au aA I b9=some a1):Fin P g s a w I a1:=by
 simp only[dr,ae] at ag;have U:=h.eval x;split at ag;rotate_left
 ·simp at ag
 rename_i vs fx;rw[fx] at U
 cases ad:vs[i]? with
 | none=>simp[ad] at ag
 | some v =>
  simp[ad] at ag;subst ag;obtain⟨aH,hval,aw,ah⟩:=U.vQ
  have c0:i<aH.length:=by
   rcases Nat.lt_or_ge i vs.length with bR|bR
   ·omega
   rw[dP bR] at ad;simp at ad
  have hu:aH[i]? = some aH[i]:=dw c0;refine gC (v:=aH[i]) h ?_ rfl (ah i v _ ad hu);simp[execOp,ae,hval,Instr.extract,hu]
end
section
variable {P:Program} {g:G} {s:S} {ai:el} {a:Act} {w:World} {I:Oper} {b9:d5} {aA:Nat} {a1:fI}
theorem pA {t e:TypeId}(h:nL P t=some e):P.underlying t=some (.slice e):=by
 unfold nL at h;split at h
 ·rename_i dp he;simp at h;subst h;exact he
 simp at h
theorem C1 {t:TypeId}{jk:Array Field}(h:fieldsOf P t=some jk):P.underlying t=some (.struct jk):=by
 unfold fieldsOf at h;split at h
 ·rename_i dp he;simp at h;subst h;exact he
 simp at h
theorem HP : ∀(z c:List aj),(pD z c).length=z.length
 | x::z,y::c=>by simp[pD,HP z c]
 | [],_=>by simp[pD]
 | _::_,[]=>by simp[pD]
theorem O8 (z:List aj)(b9:d5):(q6 z b9).length=z.length:=by
 unfold q6;split
 ·exact HP z _
 rfl
theorem PP (x y:aj){w:World}{ok:Nat->Prop}{aH:hI}{aP:hs}{v:Value}(h:Rel w ok aH aP x v):Rel w ok aH aP (xX x y) v:=by
 unfold xX;split
 ·rw[h.n8];exact .iy _ _ _ (fun _=>rfl)
 ·rw[h.s8];exact .nO _
 ·rw[h.n8];exact .lk (.iy _ _ _ (fun _=>rfl))
 exact h
theorem IJ : ∀(z c:List aj) (j:Nat) q,(pD z c)[j]? = some q-> ∃x,z[j]? = some x/\(q=x\/ ∃y,q=xX x y)
 | x::z,y::c,0,q,h=>by simp[pD] at h;exact⟨x,rfl,.inr ⟨y,h.symm⟩⟩
 | x::z,y::c,j+1,q,h=>by simp only[pD,List.getElem?_cons_succ] at h;simpa using IJ z c j q h
 | [],c,j,q,h=>by simp[pD] at h
 | x::z,[],j,q,h=>⟨q,by simpa [pD] using h,.inl rfl⟩
theorem Q5 (z:List aj)(b9:d5)(j:Nat)(q:aj)(h:(q6 z b9)[j]? = some q): ∃x,z[j]? = some x/\(q=x\/ ∃y,q=xX x y):=by
 unfold q6 at h;split at h
 ·exact IJ z _ j q h
 exact⟨q,h,.inl rfl⟩
theorem O9 {t:TypeId}{x y:Operand}(h:b7 g s ai a w)(dU:s.au aA=none)(ae:I.op = .makeSlice t x y)(ag:dr P s.E s.au aA I b9=some a1)(bM:∀p∈a1.ea,p):Fin P g s a w I a1:=by
 simp only[dr,ae] at ag;have U:=h.eval x;have aK:=h.eval y;split at ag;rotate_left
 ·simp at ag
 rename_i e jK l hU c he TC TD;rw[TC] at U;rw[TD] at aK;split at ag;rotate_left
 ·simp at ag
 rename_i i z ad bY;obtain⟨d7,c6,hE,iN,pn,Kj⟩:=vB bY;rw[ad] at hE;simp at hE;subst hE;simp only[Option.ite_none_right_eq_some,dx] at ag;obtain⟨dv,ag⟩:=ag;subst ag;have k4:=O8 z b9
 have iw : ∀(j:Nat) q,(q6 z b9)[j]? = some q-> ∃v,c6.cells[j]? = some v/\VL.iJ v=true/\ ∀w ok aH aP,Rel w ok aH aP q v:=by
  intro j q aU;obtain⟨x,cL,lY⟩:=Q5 z b9 j q aU;obtain⟨v,v1,v2,v3⟩:=Kj j x cL;refine⟨v,v1,v2,fun w ok aH aP=> ?_⟩;rcases lY with rfl|⟨y,rfl⟩
  ·exact v3 w ok aH aP
  exact PP x y (v3 w ok aH aP)
 clear Kj;have h0:0<=l:=bM _ (by simp);have o:l<=c:=bM _ (by simp);have J:(i.bytes:Int)*c<=281474976710656:=bM _ (by simp);have an:c<9223372036854775808:=bM _ (by simp);have kt:z.length=c6.cells.size:=by rw[pn];simp
 have hn:=run_make (P:=P) w t e i c6 (pA he) ad iN jK hU l c h0 o J (by omega);refine AD (v:= .slice (some ⟨w.heap.size,0,none⟩) l.toNat c.toNat) (ab:=⟨z.length,List.replicate l.toNat (q6 z b9),.live⟩) (c:=madeCells c6.cells (c.toNat*i.size)) (c9:=e) h dU rfl ?_ rfl ?_ ?_ ?_
 ·simp[execOp,ae,U.mQ,aK.mQ,hn]
 ·intro dp ks;rw[List.eq_of_mem_replicate ks];exact k4
 ·intro j q aU
  have aw : ∀dp∈List.replicate l.toNat (q6 z b9),dp.length=z.length:=fun dp ks=>(by rw[List.eq_of_mem_replicate ks];exact k4);rcases Nat.eq_zero_or_pos z.length with pQ|Bn
  ·have:q6 z b9=[]:=dJ.1 (by omega);rw[this] at aU;simp at aU
  rw[nD Bn _ aw,List.getElem?_replicate] at aU;by_cases ao:j / z.length<l.toNat;rotate_left
  ·rw[dz ao] at aU;simp at aU
  rw[dy ao] at aU;simp only[dB] at aU;obtain⟨v,ap,av,bS⟩:=iw _ _ aU;refine⟨v,?_,av,bS _ _ _ _⟩;have c0:j<c.toNat*i.size:=(by rw[<- dv];have:j<l.toNat*z.length:=(Nat.div_lt_iff_lt_mul Bn).1 ao;exact Nat.lt_of_lt_of_le this (Y5 _ (by omega)));simp only[madeCells];rw[Array.getElem?_map,Array.getElem?_range];simp only[c0,if_true,dN];rw[kt] at ap;have hm:j % c6.cells.size<c6.cells.size:=Nat.mod_lt _ (by omega);rw[dO hm] at ap;rw[getElem!_pos c6.cells _ hm];exact ap
 intro bc jv lp kU hu b3;refine Rel.bz hu b3 (by omega) (by omega) ⟨?_,.inr (by simp)⟩;rw[size_madeCells];simp only[dG,dv]
theorem Pa {t:TypeId}{x:Operand}{f:Nat}(h:b7 g s ai a w)(ae:I.op = .fieldAddr t x f)(ag:dr P s.E s.au aA I b9=some a1)(bM:∀p∈a1.ea,p):Fin P g s a w I a1:=by
 simp only[dr,ae] at ag;have U:=h.eval x;split at ag;rotate_left
 ·simp at ag
 rename_i jk yO;split at ag;rotate_left
 ·simp at ag
 rename_i fd sn;split at ag
 ·simp at ag
 rename_i Lz
 have ad:(P.info? fd.type).isSome=true:=by
  cases ad:P.info? fd.type with
  | none=>simp[Program.cellsOf,ad] at Lz
  | some i=>rfl
 have hn : ∀A:Addr,A.spot=none->(Instr.fieldAt t (.pointer (some A)) f).run P w = .ok (.pointer (some ⟨A.block,A.off+fd.offset,none⟩)) w:=by intro A hA;have e:A.add fd.offset=⟨A.block,A.off+fd.offset,none⟩:=(by obtain⟨b,I,sp⟩:=A;simp only at hA;subst hA;exact pz b I _);simp[Instr.fieldAt,run_underlying (C1 yO),sn,Instr.sureAddr,fieldPlace,qh ad,Lz,e]
 split at ag
 ·rename_i r k i off fx
  rw[fx] at U;split at ag
  ·rename_i ab bT aW
   split at ag
   ·rename_i c a2 k4
    simp only[dx] at ag;subst ag;have ha:s.ab r k=some ab:=qm aW fun p af=>bM p (by simp[af]);have nP:=vE k4 fun p af=>bM p (by simp[af]);have dY:=h.obj r k ab ha;rcases U.td (gu ha) with h0|⟨b,m,af,hval⟩
    ·rw[h0] at dY;simp only[hl] at dY;rw[dY] at nP;simp at nP
    refine gC (v:= .pointer (some ⟨b,i*ab.sz+(off+fd.offset),none⟩)) h ?_ rfl ?_
    ·simp[execOp,ae,hval,hn,Nat.add_assoc]
    exact U.IH ((gu ha).trans (by rw[af])) _
   simp at ag
  simp at ag
 ·rename_i sz es i off fx;rw[fx] at U;simp only[dx] at ag;subst ag;obtain⟨cY,bD,aE,hval,gU⟩:=U.vR;refine gC (v:= .pointer (some ⟨cY,bD+(i*sz+(off+fd.offset)),none⟩)) h ?_ rfl (gU.d4 aE);simp[execOp,ae,hval,hn,Nat.add_assoc]
 simp at ag
theorem DG {t e:TypeId}{n:Nat}(h:yp P t=some (n,e)):P.underlying t=some (.array n e)/\(P.info? e).isSome=true/\P.cellsOf e≠0/\1<n:=by
 unfold yp at h;split at h
 ·rename_i lC dp hu
  split at h
  ·rename_i aJ;simp only[dx,dC] at h;obtain⟨rfl,rfl⟩:=h;exact⟨hu,aJ⟩
  simp at h
 simp at h
theorem Q6 {t:TypeId}{x y:Operand}(h:b7 g s ai a w)(ae:I.op = .indexAddr t x y)(ag:v9 P s.au t (dc s.E x) (dc s.E y) b9=some a1)(bM:∀p∈a1.ea,p):Fin P g s a w I a1:=by
 unfold v9 at ag;have U:=h.eval x;have aK:=h.eval y;split at ag;rotate_left
 ·simp at ag
 rename_i n e r k i off bV j hv rh yr;rw[rh] at U;rw[yr] at aK;obtain⟨hu,ad,aJ,aZ⟩:=DG hv;split at ag;rotate_left
 ·simp at ag
 rename_i ab bT aW;split at ag
 ·rename_i c a2 k4
  simp only[dx] at ag;subst ag;have ha:s.ab r k=some ab:=qm aW fun p af=>bM p (by simp[af]);have nP:=vE k4 fun p af=>bM p (by simp[af]);have h0:0<=j:=bM _ (by simp);have o:j<n:=bM _ (by simp);have dY:=h.obj r k ab ha;rcases U.td (gu ha) with bY|⟨b,m,af,hval⟩
  ·rw[bY] at dY;simp only[hl] at dY;rw[dY] at nP;simp at nP
  refine gC (v:= .pointer (some ⟨b,i*ab.sz+(off+j.toNat*P.cellsOf e),none⟩)) h ?_ rfl ?_
  ·simp[execOp,ae,hval,aK.mQ,Instr.indexAt,asIntOf,run_underlying hu,Instr.sureAddr,h0,o,qh ad,pz,Nat.add_assoc]
  exact U.IH ((gu ha).trans (by rw[af])) _
 simp at ag
theorem Pb {t:TypeId}{x y:Operand}(h:b7 g s ai a w)(ae:I.op = .indexAddr t x y)(ag:dr P s.E s.au aA I b9=some a1)(bM:∀p∈a1.ea,p):Fin P g s a w I a1:=by
 simp only[dr,ae] at ag;have U:=h.eval x;have aK:=h.eval y;split at ag;rotate_left
 ·exact Q6 h ae ag bM
 rename_i e k j he fx;rw[fx] at aK;have hu:=pA he
 have hn : ∀(b I len cap:Nat),0<=j->j<len->(P.info? e).isSome=true ->
  (Instr.indexAt t (.slice (some ⟨b,I,none⟩) len cap) (.int k j)).run P w = .ok (.pointer (some ⟨b,I+j.toNat*P.cellsOf e,none⟩)) w:=by
  intro b I len cap h0 o ad;have dp:=pz b I (j.toNat*P.cellsOf e);simp[Instr.indexAt,asIntOf,run_underlying hu,h0,o,qh ad,dp]
 have q7 : ∀sz,sz=P.cellsOf e->sz≠0->(P.info? e).isSome=true:=by
  intro sz bN bY
  cases ad:P.info? e with
  | none=>simp[Program.cellsOf,ad] at bN;exact absurd bN bY
  | some i=>rfl
 split at ag
 ·rename_i sz es rh
  rw[rh] at U;simp only[Option.ite_none_right_eq_some,dx] at ag;obtain⟨⟨bN,bY⟩,ag⟩:=ag;subst ag;have h0:0<=j:=bM _ (by simp);have o:j<es.length:=bM _ (by simp);rcases U.q1 with ⟨yP,-⟩|⟨cY,off,c,aE,hval,aJ,gU⟩
  ·subst yP;simp at o;omega
  refine gC (v:= .pointer (some ⟨cY,off+(j.toNat*sz+0),none⟩)) h ?_ rfl (gU.d4 aE);simp[execOp,ae,hval,aK.mQ,hn _ _ _ _ h0 o (q7 sz bN bY),bN]
 ·rename_i r q bb len rh
  rw[rh] at U;split at ag;rotate_left
  ·simp at ag
  rename_i row cu;split at ag;rotate_left
  ·simp at ag
  rename_i ab bT aW;simp only[Option.ite_none_right_eq_some,dx] at ag;obtain⟨⟨bN,bY⟩,ag⟩:=ag;subst ag;have ha:s.ab r q=some ab:=(by unfold S.ab;rw[cu];exact qm aW fun p af=>bM p (by simp[af]));have h0:0<=j:=bM _ (by simp);have o:j<len:=bM _ (by simp);rcases U.xP (gu ha) with ⟨-,-,J,-⟩|⟨b,m,A,c,af,hval,aw,-,hm⟩
  ·subst J;simp at o;omega
  rcases hm with hm|⟨hA,hm⟩
  ·omega
  subst hA;have hP:=Ar ha;refine gC (v:= .pointer (some ⟨b,(bb+j.toNat)*ab.sz+0,none⟩)) h ?_ rfl (.ref hP ((gu ha).trans (by rw[af])));simp[execOp,ae,hval,aK.mQ,hn _ _ _ _ h0 o (q7 _ bN bY),bN,Nat.add_mul]
 simp at ag
theorem Sw {c:Call}(h:b7 g s ai a w)(ae:I.op = .call c)(aJ:c.callee = .builtin .len)(ag:dr P s.E s.au aA I b9=some a1)(bM:∀p∈a1.ea,p):Fin P g s a w I a1:=by
 obtain⟨Bo,args,kW⟩:=c;simp only at aJ;subst aJ;simp only[dr,ae] at ag
 have key : ∀(x:Operand) (n:Nat) (t:TypeId) (v:Value),args.toList=[x]->kW = #[t]->a1.val = .n .i64 n->a1.eH=[]->a.eval x=v ->
  (Builtin.len_ #[t] I.type #[v]).run P w = .ok (goInt n) w->Fin P g s a w I a1:=by
  intro x n t v hargs ku ah gd aT hn;subst ku;refine gC (v:=goInt n) h ?_ gd (by rw[ah];exact .n _ _);have bs:args = #[x]:=(by apply Array.ext';simpa using hargs);subst bs;simp[execOp,ae,resolve,invoke,builtin,aT,hn]
 have hargs : ∀y,args.toList.map (dc s.E)=[y]-> ∃x,args.toList=[x]/\dc s.E x=y:=by
  intro y aK
  match aw:args.toList,aK with
  | [x],aK=>simp at aK;exact⟨x,rfl,aK⟩
 have kq:decide (kW.size=1)=true-> ∃t,kW = #[t]/\kW.getD 0 0=t:=by
  intro dv;have dv:kW.size=1:=(by simpa using dv);obtain⟨l⟩:=kW
  match l,dv with
  | [t],_=>exact⟨t,rfl,rfl⟩
 split at ag
 ·rename_i sz es e hm hu dv
  obtain⟨x,U,fx⟩:=hargs _ hm;obtain⟨t,b3,mw⟩:=kq dv;rw[mw] at hu;simp only[dx] at ag;have ah:=h.eval x;rw[fx] at ah;rcases ah.q1 with ⟨yP,A,c,hval,hA⟩|⟨cY,off,c,aE,hval,-⟩
  ·exact key x es.length t _ U b3 (by rw[<- ag]) (by rw[<- ag]) hval (by subst yP;simp[Builtin.len_,run_underlying hu])
  exact key x es.length t _ U b3 (by rw[<- ag]) (by rw[<- ag]) hval (by simp[Builtin.len_,run_underlying hu])
 ·rename_i r k bb len e hm hu dv
  obtain⟨x,U,fx⟩:=hargs _ hm;obtain⟨t,b3,mw⟩:=kq dv;rw[mw] at hu;split at ag
  ·rename_i row cu
   split at ag
   ·rename_i ab bT aW
    simp only[dx] at ag;have ah:=h.eval x;rw[fx] at ah;have ha:s.ab r k=some ab:=(by unfold S.ab;rw[cu];exact qm aW fun p af=>bM p (by rw[<- ag];exact af));rcases ah.xP (gu ha) with ⟨-,-,J,hval⟩|⟨b,m,A,c,af,hval,-⟩
    ·exact key x len t _ U b3 (by rw[<- ag]) (by rw[<- ag]) hval (by subst J;simp[Builtin.len_,run_underlying hu])
    exact key x len t _ U b3 (by rw[<- ag]) (by rw[<- ag]) hval (by simp[Builtin.len_,run_underlying hu])
   simp at ag
  simp at ag
 ·rename_i e hm hu dv;obtain⟨x,U,fx⟩:=hargs _ hm;obtain⟨t,b3,mw⟩:=kq dv;rw[mw] at hu;simp only[dx] at ag;have ah:=h.eval x;rw[fx] at ah;exact key x 0 t _ U b3 (by rw[<- ag];rfl) (by rw[<- ag]) ah.n8 (by simp[Builtin.len_,run_underlying hu])
 ·rename_i b hm hu dv;obtain⟨x,U,fx⟩:=hargs _ hm;obtain⟨t,b3,mw⟩:=kq dv;rw[mw] at hu;simp only[dx] at ag;have ah:=h.eval x;rw[fx] at ah;exact key x b.size t _ U b3 (by rw[<- ag]) (by rw[<- ag]) ah.wb (by simp[Builtin.len_,run_underlying hu])
 simp at ag
theorem z8 {ok:Nat->Prop}{aH:hI}{aP:hs}{cY off sz:Nat}{es:List (List aj)}(h:m1 w ok aH aP cY off sz es)(l n:Nat)(aw:l<=es.length):
 m1 w ok aH aP cY (off+l*sz) sz ((es.drop l).take n):=by
 have o6 : ∀e∈(es.drop l).take n,e.length=sz:=fun e he=>h.1 e (List.mem_of_mem_drop (List.mem_of_mem_take he));refine⟨o6,fun j x U=> ?_⟩;rcases Nat.eq_zero_or_pos sz with h0|bN
 ·have ap : ∀(l:List (List aj)),(∀e∈l,e.length=0)->l.flatten=[]:=by
   intro l aw;induction l with
   | nil=>rfl
   | cons a l ih=>rw[dS,ih fun e he=>aw e (by simp[he])];have:=aw a (by simp);simp_all
  rw[ap _ (fun e he=>(o6 e he).trans h0)] at U;simp at U
 rw[nD bN _ o6] at U
 have ao:j / sz<n:=by
  rcases Nat.lt_or_ge (j / sz) n with bR|bR
  ·exact bR
  rw[dP (by simp;omega)] at U;simp at U
 rw[dR,dy ao,Y7] at U;obtain⟨v,ap,av,bS⟩:=h.2 (l*sz+j) x (by rw[nD bN es h.1];have gX:(l*sz+j) / sz=l+j / sz:=(by rw[Nat.mul_comm,Nat.mul_add_div bN]);have i4:(l*sz+j) % sz=j % sz:=(by rw[Nat.mul_comm,Nat.mul_add_mod]);rw[gX,i4];exact U);exact⟨v,by rw[Nat.add_assoc];exact ap,av,bS⟩
theorem z2 {t e:TypeId}(hu:P.underlying t=some (.slice e))(ad:(P.info? e).isSome=true)(A:Option Addr)(len cap:Nat)(bb hE:Option Value)(l h:Nat)
 (EL:(bb=none/\l=0)\/ ∃k,bb=some (.int k l)) (Us:(hE=none/\h=len)\/ ∃k,hE=some (.int k h)) (o:l<=h) (J:h<=cap) (an:len<=cap) :
 (Instr.sliceAt t (.slice A len cap) bb hE none).run P w = .ok (.slice (if cap=l then A else A.map (·.add (l*P.cellsOf e))) (h-l) (cap-l)) w:=by
 have aE : ∀(k:IntKind) (n y:Nat) (code:BoundsCode),n<=y->(Instr.sliceBound (.int k n) y code).run P w = .ok n w:=by intro k n y code aZ;simp[Instr.sliceBound,asIntOf,aZ]
 rcases EL with ⟨rfl,rfl⟩|⟨jK,rfl⟩<;>rcases Us with ⟨rfl,rfl⟩|⟨hU,rfl⟩ <;>
  simp[Instr.sliceAt,Instr.slice,run_underlying hu,Instr.sliceBounds,qh ad,aE,o,J,an]
theorem OZ {t e:TypeId}(hu:P.underlying t=some (.slice e))(ad:(P.info? e).isSome=true)(A:Option Addr)(len cap:Nat)(bb:Option Value)(l h m:Nat)(hU kf:IntKind)
 (EL:(bb=none/\l=0)\/ ∃k,bb=some (.int k l)) (o:l<=h) (J:h<=m) (an:m<=cap) :
 ∃v,(Instr.sliceAt t (.slice A len cap) bb (some (.int hU h)) (some (.int kf m))).run P w = .ok v w:=by
 have aE : ∀(k:IntKind) (n y:Nat) (code:BoundsCode),n<=y->(Instr.sliceBound (.int k n) y code).run P w = .ok n w:=by intro k n y code aZ;simp[Instr.sliceBound,asIntOf,aZ]
 rcases EL with ⟨rfl,rfl⟩|⟨jK,rfl⟩ <;>
  exact⟨_,by simp[Instr.sliceAt,Instr.slice,run_underlying hu,Instr.sliceBounds,qh ad,aE,o,J,an];rfl⟩
theorem q2 {x:Option Operand}(h:b7 g s ai a w){d n:Nat}{ab:List Prop}(aE:aI (x.map (dc s.E)) d=some (n,ab))(bM:∀p∈ab,p):
 (x.map a.eval=none/\n=d)\/ ∃k,x.map a.eval=some (.int k n):=by
 cases x with
 | none=>simp[aI] at aE;exact .inl ⟨rfl,aE.1.symm⟩
 | some x =>
  have U:=h.eval x;simp only[dN] at aE ⊢;unfold aI at aE;split at aE
  ·rename_i he;simp at he
  ·rename_i _ k y he;simp only[dx] at he;rw[he] at U;simp only[dx,dC] at aE;obtain⟨rfl,rfl⟩:=aE;have h0:0<=y:=bM _ (by simp);refine .inr ⟨k,?_⟩;rw[U.mQ,Int.toNat_of_nonneg h0]
  simp at aE
theorem vM {sz:Nat}: ∀ {es:List (List aj)},(∀e∈es,e.length=sz)->es.flatten.length=es.length*sz
 | [],_=>by simp
 | e::es,h=>by rw[dS,dE,vM fun x U=>h x (by simp[U]),h e (by simp),dM,Nat.add_mul];omega
theorem b7.room (h:b7 g s ai a w){r k b M:Nat}{ab:az}(ae:s.ab r k=some ab)(jG:ai r k=some (b,M)):ab.es.length*ab.sz<=M:=by
 have dY:=h.obj r k ab ae;rw[jG] at dY;obtain⟨bO,kb,g1,g2,g3,g4⟩:=dY;have h5:=vM g3;rcases Nat.eq_zero_or_pos ab.es.flatten.length with h0|iz
 ·omega
 obtain⟨v,ap,-⟩:=g4 (ab.es.flatten.length-1) _ (dw (by omega));have:=(Y3.1 ap).1;omega
theorem Qn {t:TypeId}{x ad rE:Operand}{bb:Option Operand}(h:b7 g s ai a w)(ae:I.op = .slice t x bb (some ad) (some rE))(ag:dr P s.E s.au aA I b9=some a1)(bM:∀p∈a1.ea,p):Fin P g s a w I a1:=by
 simp only[dr,ae] at ag;have U:=h.eval x
 have q7 : ∀sz e,sz=P.cellsOf e->sz≠0->(P.info? e).isSome=true:=by
  intro sz e bN bY
  cases ad:P.info? e with
  | none=>simp[Program.cellsOf,ad] at bN;exact absurd bN bY
  | some i=>rfl
 split at ag;rotate_left
 ·simp at ag
 rename_i e r k rD len hu fx;rw[fx] at U;split at ag
 ·simp at ag
 rename_i row cu;split at ag
 ·simp at ag
 rename_i ab zu aW;split at ag;rotate_left
 ·simp at ag
 rename_i l bT n a2 m hJ aw aZ hm;simp only[Option.ite_none_right_eq_some,dx] at ag;obtain⟨⟨bN,bY⟩,ag⟩:=ag;subst ag;have ha:s.ab r k=some ab:=by unfold S.ab;rw[cu];exact qm aW fun p af=>bM p (by simp[af])
 have gg:=q2 h aw fun p af=>bM p (by simp[af]);have hx:=q2 (x:=some ad) h aZ fun p af=>bM p (by simp[af]);have lD:=q2 (x:=some rE) h hm fun p af=>bM p (by simp[af]);have o:l<=n:=bM _ (by simp);have J:n<=m:=bM _ (by simp);have an:m<=len:=bM _ (by simp)
 obtain⟨hU,av⟩ : ∃hU,a.eval ad = .int hU n:=by
  rcases hx with ⟨e,-⟩|⟨hU,e⟩
  ·simp at e
  exact⟨hU,by simpa using e⟩
 obtain⟨kf,bS⟩ : ∃kf,a.eval rE = .int kf m:=by
  rcases lD with ⟨e,-⟩|⟨kf,e⟩
  ·simp at e
  exact⟨kf,by simpa using e⟩
 obtain⟨A,L,C,hval,aJ⟩ : ∃A L C,a.eval x = .slice A L C/\m<=C:=by
  rcases U.qi (gu ha) with ⟨-,-,h0,hval⟩|⟨b,M,A,c,-,hval,ou,-⟩
  ·exact⟨none,0,0,hval,by omega⟩
  exact⟨A,len,c,hval,by omega⟩
 obtain⟨v,aT⟩:=OZ (w:=w) hu (q7 _ e bN bY) A L C (bb.map a.eval) l n m hU kf gg o J aJ;refine gC (v:=v) h ?_ rfl (.dead _);simp only[execOp,ae,hval];simp only[dN,av,bS,Sem.run_bind,aT];rfl
theorem Q7 {t:TypeId}{x:Operand}{bb ad:Option Operand}(h:b7 g s ai a w)(ae:I.op = .slice t x bb ad none)(ag:dr P s.E s.au aA I b9=some a1)(bM:∀p∈a1.ea,p):Fin P g s a w I a1:=by
 simp only[dr,ae] at ag;have U:=h.eval x
 have q7 : ∀sz e,sz=P.cellsOf e->sz≠0->(P.info? e).isSome=true:=by
  intro sz e bN bY
  cases ad:P.info? e with
  | none=>simp[Program.cellsOf,ad] at bN;exact absurd bN bY
  | some i=>rfl
 split at ag
 ·rename_i e sz es hu fx
  rw[fx] at U;split at ag;rotate_left
  ·simp at ag
  rename_i l bT n a2 aw aZ;simp only[Option.ite_none_right_eq_some,dx] at ag;obtain⟨⟨bN,bY⟩,ag⟩:=ag;subst ag;have gg:=q2 h aw fun p af=>bM p (by simp[af]);have hx:=q2 h aZ fun p af=>bM p (by simp[af]);have o:l<=n:=bM _ (by simp);have J:n<=es.length:=bM _ (by simp);rcases U.q1 with ⟨yP,A,c,hval,hA⟩|⟨cY,off,c,aE,hval,aJ,gU⟩
  ·subst yP
   have EM:n=0:=(by simpa using J);subst EM;have lZ:l=0:=(by omega);subst lZ;refine gC (v:= .slice (if c=0 then A else A.map (·.add (0*P.cellsOf e))) (0-0) (c-0)) h ?_ rfl ?_
   ·have:=z2 (w:=w) hu (q7 sz e bN bY) A 0 c (bb.map a.eval) (ad.map a.eval) 0 0 gg hx (dF _) (Nat.zero_le _) (Nat.zero_le _);simp only[execOp,ae,hval];simp only[Option.map_none,Sem.run_bind,this];rfl
   refine .iy sz _ _ fun aZ=> ?_;split at aZ
   ·rename_i lq;omega
   have:=hA (by simpa using aZ);omega
  have hlen:((es.drop l).take (n-l)).length=n-l:=(by simp;omega);refine gC (v:= .slice (if c=l then some ⟨cY,off,none⟩ else (some (⟨cY,off,none⟩:Addr)).map (·.add (l*P.cellsOf e))) (n-l) (c-l)) h ?_ rfl ?_
  ·have:=z2 (w:=w) hu (q7 sz e bN bY) (some ⟨cY,off,none⟩) es.length c (bb.map a.eval) (ad.map a.eval) l n gg hx o (Nat.le_trans J aJ) aJ;simp only[execOp,ae,hval];simp only[Option.map_none,Sem.run_bind,this];rfl
  by_cases ho:c=l
  ·have:n-l=0:=(by omega);rw[this];show Rel _ _ _ _ (.isl sz ((es.drop l).take 0)) _;rw[List.take_zero];exact .iy sz _ _ (fun _=>by omega)
  rw[dz ho];simp only[dN,pz,<- bN];have ah:=(z8 gU l (n-l) (by omega)).isl (c:=c-l) ⟨aE.1,fun e he=>aE.2 e (List.mem_of_mem_drop (List.mem_of_mem_take he))⟩ (by rw[hlen];omega);rw[hlen] at ah;exact ah
 ·rename_i e r k rD len hu fx
  rw[fx] at U;split at ag
  ·simp at ag
  rename_i row cu;split at ag
  ·simp at ag
  rename_i ab zu aW;split at ag;rotate_left
  ·simp at ag
  rename_i l bT n a2 aw aZ;simp only[Option.ite_none_right_eq_some,dx] at ag;obtain⟨⟨bN,bY⟩,ag⟩:=ag;subst ag;have ha:s.ab r k=some ab:=(by unfold S.ab;rw[cu];exact qm aW fun p af=>bM p (by simp[af]));have gg:=q2 h aw fun p af=>bM p (by simp[af]);have hx:=q2 h aZ fun p af=>bM p (by simp[af])
  have e9:l<=n/\(n<=len\/rD+n<=ab.es.length):=by
   have hm : ∀p∈EH b9 l n len rD ab.es.length,p:=fun p af=>bM p (by simp[af]);unfold EH at hm;split at hm
   ·exact⟨hm _ (by simp),.inr (hm _ (by simp))⟩
   exact⟨hm _ (by simp),.inl (hm _ (by simp))⟩
  obtain⟨o,J⟩:=e9;have hP:=Ar ha;rcases U.qi (gu ha) with ⟨af,rfl,rfl,hval⟩|⟨b,m,A,c,af,hval,ou,qA,kv,hm⟩
  ·have EM:n=0:=by
    have dY:=h.obj r k ab ha;rw[af] at dY;simp only[hl] at dY;rw[dY] at J;rcases J with J|J<;>simpa using J
   subst EM;have lZ:l=0:=(by omega);subst lZ;refine gC (v:= .slice none 0 0) h ?_ rfl (.me hP ((gu ha).trans (by rw[af])));have:=z2 (w:=w) hu (q7 _ e bN bY) none 0 0 (bb.map a.eval) (ad.map a.eval) 0 0 gg hx (dF _) (dF _) (dF _);simp only[execOp,ae,hval];simp only[Option.map_none,Sem.run_bind,this];rfl
  have Ut:n<=c:=by
   rcases J with J|J
   ·omega
   have:=h.room ha af;rw[<- kv] at this;have:=Nat.le_of_mul_le_mul_right this (by omega);omega
  refine gC (v:= .slice (if c=l then A else A.map (·.add (l*P.cellsOf e))) (n-l) (c-l)) h ?_ rfl ?_
  ·have:=z2 (w:=w) hu (q7 _ e bN bY) A len c (bb.map a.eval) (ad.map a.eval) l n gg hx o Ut ou;simp only[execOp,ae,hval];simp only[Option.map_none,Sem.run_bind,this];rfl
  refine Rel.bz hP ((gu ha).trans (by rw[af])) (by omega) (by omega) ?_;refine⟨by rw[<- kv];congr 1;omega,?_⟩;by_cases ho:c=l
  ·exact .inl (by omega)
  rcases hm with hm|hA
  ·exact .inl (by omega)
  refine .inr ?_;rw[dz ho,hA];simp only[dN,pz,<- bN,Nat.add_mul]
 ·rename_i b hu fx
  rw[fx] at U;split at ag;rotate_left
  ·simp at ag
  rename_i l bT n a2 aw aZ;simp only[dx] at ag;subst ag;have gg:=q2 h aw fun p af=>bM p (by simp[af]);have hx:=q2 h aZ fun p af=>bM p (by simp[af]);have o:l<=n:=bM _ (by simp);have J:n<=b.size:=bM _ (by simp);refine gC (v:= .string (b.extract l n)) h ?_ rfl (.s _);have aE : ∀(k:IntKind) (n y:Nat) (code:BoundsCode),n<=y->(Instr.sliceBound (.int k n) y code).run P w = .ok n w:=(by intro k n y code aZ;simp[Instr.sliceBound,asIntOf,aZ]);simp only[execOp,ae,U.wb,Option.map_none]
  rcases gg with ⟨ap,rfl⟩|⟨jK,ap⟩<;>rcases hx with ⟨av,rfl⟩|⟨hU,av⟩<;>rw[ap,av] <;>
   simp[Instr.sliceAt,Instr.slice,run_underlying hu,Instr.sliceBounds,aE,o,J]
 simp at ag
end
section
variable {P:Program} {g:G} {s:S} {ai:el} {a:Act} {w:World} {I:Oper} {b9:d5} {aA:Nat} {a1:fI}
theorem Ik {ok:Nat->Prop}{aH:hI}{aP:hs}{t:TypeId}{c:List aj}{off:Nat}{x:aj}{vs:List Value}(aw:vs.length=c.length)
 (iw : ∀(j:Nat) u,vs[j]? = some u->iJ u=true) (ah : ∀(j:Nat) x u,c[j]? = some x->vs[j]? = some u->Rel w ok aH aP x u)
 (b3:o0 P t c off=some x) : ∃v,(part t vs.toArray off).run P w = .ok v w/\Rel w ok aH aP x v:=by
 unfold o0 at b3;split at b3
 ·simp at b3
 rename_i ad;simp only[Bool.not_eq_true',Bool.not_eq_false,YX] at ad;simp only[part,Sem.run_bind,IG ad.1,Result.andThen];split at b3
 ·rename_i pL
  rw[pL];split at b3;rotate_left
  ·simp at b3
  rename_i hle;simp at b3;subst b3;have e:(vs.toArray.extract off (off+P.cellsOf t))=((vs.drop off).take (P.cellsOf t)).toArray:=(by apply Array.ext';simp[List.extract_eq_take_drop]);refine⟨.agg ((vs.drop off).take (P.cellsOf t)).toArray,by simp[qh ad.2],?_⟩;refine .agg _ (by simp;omega) ?_ ?_
  ·intro j v aT
   rw[dR] at aT;split at aT
   ·rw[Y7] at aT;exact iw _ _ aT
   simp at aT
  intro j y v aK aT;rw[dR] at aT aK;split at aT
  ·rename_i ao;rw[dy ao] at aK;rw[Y7] at aT aK;exact ah _ _ _ aK aT
  simp at aT
 rename_i pL;have pL:xW P t=false:=by simpa using pL
 rw[pL];split at b3
 ·rename_i y aK
  split at b3
  ·simp at b3;subst b3
   have wm:off<vs.length:=by
    rcases Nat.lt_or_ge off c.length with h|h
    ·omega
    rw[dP h] at aK;simp at aK
   exact⟨vs[off],by simp[wm],ah off y _ aK (dw wm)⟩
  simp at b3
 simp at b3
theorem Q8 {t:TypeId}{x:Operand}{f:Nat}(h:b7 g s ai a w)(ae:I.op = .field t x f)(ag:dr P s.E s.au aA I b9=some a1):Fin P g s a w I a1:=by
 simp only[dr,ae] at ag;have U:=h.eval x;split at ag
 ·rename_i jk yO
  split at ag
  ·rename_i fd c sn fx
   rw[fx] at U
   cases b3:o0 P fd.type c fd.offset with
   | none=>simp[b3] at ag
   | some v =>
    simp[b3] at ag;subst ag;obtain⟨vs,hval,aw,aJ,ah⟩:=U.vP;obtain⟨u,o,J⟩:=Ik aw aJ ah b3;refine gC (v:=u) h ?_ rfl J;simp[execOp,ae,hval,Instr.field,run_underlying (C1 yO),sn,asAgg,o]
  simp at ag
 simp at ag
theorem IK : ∀ {a b c:List aj},ol 0 a b=some c->c=a
 | [],[],c,h=>by simp[ol] at h;exact h
 | .n k x::a,.n cA y::b,c,h=>by
  unfold ol at h;split at h
  ·cases hm:ol 0 a b with
   | none=>simp[hm] at h
   | some d=>simp[hm] at h;rw[<- h,IK hm]
  simp at h
 | [],_::_,_,h=>by simp[ol] at h
theorem Jf {j:Int}(ao:j≠0): ∀ {a b c:List aj},ol j a b=some c->c=b
 | [],[],c,h=>by simp[ol] at h;exact h
 | .n k x::a,.n cA y::b,c,h=>by
  unfold ol at h;split at h
  ·rename_i aL
   subst aL
   cases hm:ol j a b with
   | none=>simp[hm] at h
   | some d=>simp[hm,ao] at h;rw[<- h,Jf ao hm]
  simp at h
 | [],_::_,_,h=>by simp[ol] at h
theorem Qo {t:TypeId}{x y:Operand}(h:b7 g s ai a w)(ae:I.op = .index t x y)(ag:DS P t (dc s.E x) (dc s.E y)=some a1)(bM:∀p∈a1.ea,p):Fin P g s a w I a1:=by
 unfold DS at ag;have U:=h.eval x;have aK:=h.eval y;split at ag;rotate_left
 ·simp at ag
 rename_i e cs bV j hv rh yr;rw[rh] at U;rw[yr] at aK;obtain⟨hu,ad,-,-⟩:=DG hv;split at ag;rotate_left
 ·simp at ag
 rename_i cP iq bs aE
 cases hm:ol j cP iq with
 | none=>simp[hm] at ag
 | some c =>
  simp only[hm,dN,dx] at ag;subst ag;have h0:0<=j:=bM _ (by simp);have o:j<2:=bM _ (by simp);obtain⟨vs,hval,aw,aJ,ah⟩:=U.vP
  have key:o0 P e cs (j.toNat*P.cellsOf e)=some (.agg c):=by
   have:j=0\/j=1:=(by omega);rcases this with rfl|rfl
   ·rw[IK hm];exact bs
   rw[Jf (by decide) hm];exact aE
  obtain⟨u,jK,hU⟩:=Ik aw aJ ah key;refine gC (v:=u) h ?_ rfl hU;simp[execOp,ae,hval,aK.mQ,Instr.index,asIntOf,run_underlying hu,h0,o,qh ad,jK]
theorem Q9 {t:TypeId}{x y:Operand}(h:b7 g s ai a w)(ae:I.op = .index t x y)(ag:dr P s.E s.au aA I b9=some a1)(bM:∀p∈a1.ea,p):Fin P g s a w I a1:=by
 simp only[dr,ae] at ag;have U:=h.eval x;have aK:=h.eval y;split at ag
 ·rename_i b k j hu rh yr
  rw[rh] at U;rw[yr] at aK;simp only[dx] at ag;subst ag;have h0:0<=j:=bM _ (by simp);have o:j<b.size:=bM _ (by simp);have J:j.toNat<b.size:=(by omega);refine gC (v:= .int .u8 (b[j.toNat]).toNat) h ?_ rfl ?_
  ·simp[execOp,ae,U.wb,aK.mQ,Instr.index,asIntOf,run_underlying hu,h0,J]
  have e:b.data.toList.getD j.toNat 0=b[j.toNat]:=(by rw[dT,Array.getElem?_toList,dO (by simpa using J)];rfl);show Rel _ _ _ _ (.n .u8 _) _;rw[e];exact .n _ _
 exact Qo h ae ag bM
theorem Qp (off:Nat): ∀(vs:List Value) (n:Nat) (cs:Array Value) (j:Nat),off+n+vs.length<=cs.size ->
 ((vs.zipIdx n).foldl (fun cs (x:Value×Nat)=>cs.setIfInBounds (off+x.2) x.1) cs)[j]? = if off+n<=j/\j<off+n+vs.length then vs[j-(off+n)]? else cs[j]? := by
 intro vs
 induction vs with
 | nil=>intro n cs j h;simp;intro o J;omega
 | cons v vs ih =>
  intro n cs j h;simp only[dM] at h;simp only[List.zipIdx_cons,List.foldl_cons];rw[ih (n+1) _ j (by simp;omega)];simp only[dM,Array.getElem?_setIfInBounds];by_cases o:j=off+n
  ·subst o;rw[dz (by omega),dy rfl,dy (by omega),dy (by omega)];simp
  by_cases J:off+(n+1)<=j/\j<off+(n+1)+vs.length
  ·rw[dy J,dy (by omega)];rw[show j-(off+n)=(j-(off+(n+1)))+1 by omega];rfl
  rw[dz J,dz (fun e=>o e.symm),dz (by omega)]
theorem OR (off:Nat): ∀(vs:List (Value×Nat)) (cs:Array Value),(vs.foldl (fun cs (x:Value×Nat)=>cs.setIfInBounds (off+x.2) x.1) cs).size=cs.size:=by
 intro vs
 induction vs with
 | nil=>intro cs;rfl
 | cons v vs ih=>intro cs;simp only[List.foldl_cons];rw[ih];simp
def wY (w:World)(ok:Nat->Prop)(aH:hI)(aP:hs)(c:List aj)(cs:Array Value):Prop :=
 cs.size=c.length/\(∀(j:Nat) u,cs[j]? = some u->iJ u=true)/\ ∀(j:Nat) x u,c[j]? = some x->cs[j]? = some u->Rel w ok aH aP x u
theorem Ra {ok:Nat->Prop}{aH:hI}{aP:hs}{c:List aj}{cs:Array Value}(h:wY w ok aH aP c cs){x:aj}{v:Value}{off:Nat}(U:Rel w ok aH aP x v)(aJ:x.vI=true)
 (gQ:off+x.cells.length<=c.length):v.cells.size=x.cells.length /\
   wY w ok aH aP (setCells c off x.cells) (v.cells.zipIdx.foldl (fun cs (y:Value×Nat)=>cs.setIfInBounds (off+y.2) y.1) cs):=by
 obtain⟨vs,aT,aw,iw,ah⟩:=U.cellsOf (aj.H3 aJ);have ku : ∀j,(v.cells.zipIdx.foldl (fun cs (y:Value×Nat)=>cs.setIfInBounds (off+y.2) y.1) cs)[j]? = if off<=j/\j<off+vs.length then vs[j-off]? else cs[j]? := by intro j;rw[aT];have:=Qp off vs 0 cs j (by rw[h.1];omega);simp only[Nat.add_zero] at this;rw[<- this,<- Array.foldl_toList,Array.toList_zipIdx]
 refine⟨by rw[aT];simpa using aw,?_,?_,?_⟩
 ·rw[Hw gQ,<- h.1,<- Array.foldl_toList,OR]
 ·intro j u hu
  rw[ku] at hu;split at hu
  ·exact iw _ _ hu
  exact h.2.1 _ _ hu
 intro j y u aK hu;rw[ku] at hu;rw[C0 gQ] at aK;by_cases jS:off<=j/\j<off+x.cells.length
 ·rw[dy jS] at aK;rw[dy (by rw[aw];exact jS)] at hu;exact ah _ _ _ aK hu
 rw[dz jS] at aK;rw[dz (by rw[aw];exact jS)] at hu;exact h.2.2 _ _ _ aK hu
theorem Da {ok:Nat->Prop}{aH:hI}{aP:hs}(place:Nat->Option (Nat×Nat)): ∀(l:List (Nat×Nat×aj)) (hT:List (Nat×Value)) (c:List aj) (cs:Array Value) (cX:List aj),
 wY w ok aH aP c cs->l.length=hT.length ->
 (∀(j:Nat) off size x i v,l[j]? = some (off,size,x)->hT[j]? = some (i,v)->place i=some (off,size)/\Rel w ok aH aP x v) ->
 qs c l=some cX-> ∃jT,Instr.fill place cs hT=some jT/\wY w ok aH aP cX jT:=by
 intro l
 induction l with
 | nil =>
  intro hT c cs cX h aw _ bL;have:hT=[]:=dJ.1 (by simpa using aw.symm);subst this;simp[qs] at bL;subst bL;exact⟨cs,rfl,h⟩
 | cons q l ih =>
  intro hT c cs cX h aw af bL;obtain⟨off,size,x⟩:=q
  match hT,aw with
  | (i,v)::hT,aw =>
   obtain⟨Uu,U⟩:=af 0 off size x i v rfl rfl;simp only[qs] at bL;split at bL
   ·rename_i aJ;simp only[YX,decide_eq_true_eq] at aJ;obtain⟨⟨o,J⟩,an⟩:=aJ;obtain⟨ap,av⟩:=Ra h U o (off:=off) (by omega);obtain⟨jT,f1,f2⟩:=ih hT _ _ cX av (by simpa using aw) (fun j off size x i v a b=>af (j+1) off size x i v a b) bL;refine⟨jT,?_,f2⟩;rw[Instr.fill];simp only[Uu];have gH : ¬(decide (v.cells.size≠size) || decide (off+v.cells.size>cs.size))=true:=(by simp;rw[ap,h.1];omega);rw[dz gH];exact f1
   simp at bL
theorem mapM_some {α β:Type}(f:α->β)(p:α->Option β): ∀(l:List α),(∀x∈l,p x=some (f x))->l.mapM p=some (l.map f)
 | [],_=>rfl
 | x::l,h=>by rw[List.mapM_cons,h x (by simp),mapM_some f p l fun y aK=>h y (by simp[aK])];rfl
theorem JL {α β:Type}(p:α->Option β): ∀(l:List α) (ff:List β),l.mapM p=some ff->ff.length=l.length/\ ∀(j:Nat) x y,l[j]? = some x->ff[j]? = some y->p x=some y
 | [],ff,h=>by simp at h;subst h;exact⟨rfl,fun j x y U=>by simp at U⟩
 | a::l,ff,h=>by
  rw[List.mapM_cons] at h
  cases bs:p a with
  | none=>simp[bs] at h
  | some b =>
   cases aw:l.mapM p with
   | none=>simp[bs,aw] at h
   | some r =>
    simp[bs,aw] at h;subst h;obtain⟨o,J⟩:=JL p l r aw;refine⟨by simp[o],fun j x y U aK=> ?_⟩
    cases j with
    | zero=>simp at U aK;subst U;subst aK;exact bs
    | succ j=>simp at U aK;exact J j x y U aK
theorem DH {t:TypeId}{z:List aj}(bY:n6 P t=some z): ∃i c6,P.info? t=some i/\i.zero=some c6/\c6.cells.size=z.length/\wY w (s.ok g ai w) s.aH (s.aP ai) z c6.cells:=by
 obtain⟨i,c6,ad,iN,pn,iw⟩:=vB bY;have bN:c6.cells.size=z.length:=by rw[pn];simp
 refine⟨i,c6,ad,iN,bN,bN,fun j u hu=> ?_,fun j x u U hu=> ?_⟩
 ·have ao:j<z.length:=by
   have:=(Y3.1 hu).1;omega
  obtain⟨v,ap,av,-⟩:=iw j z[j] (dw ao);rw[hu] at ap;simp at ap;subst ap;exact av
 obtain⟨v,ap,-,bS⟩:=iw j x U;rw[hu] at ap;simp at ap;subst ap;exact bS _ _ _ _
theorem Pu {t:TypeId}{parts:Array (Nat×Operand)}(h:b7 g s ai a w)(ae:I.op = .build t parts)(ag:Dn P t (parts.toList.map fun p=>(p.1,dc s.E p.2))=some a1):Fin P g s a w I a1:=by
 unfold Dn at ag;split at ag;rotate_left
 ·simp at ag
 rename_i n e z hv bY;obtain⟨hu,ad,-,-⟩:=DG hv;rw[List.map_map] at ag
 cases bL:qs z (parts.toList.map ((fun p:Nat×aj=>(p.1*P.cellsOf e,P.cellsOf e,p.2))∘fun p=>(p.1,dc s.E p.2))) with
 | none=>rw[bL] at ag;simp at ag
 | some c =>
  rw[bL] at ag;simp only[dN,dx] at ag;subst ag;obtain⟨it,c6,tR,iN,dv,hcs⟩:=DH (w:=w) (s:=s) (g:=g) (ai:=ai) bY;obtain⟨FZ,wx⟩:=Option.isSome_iff_exists.1 ad;have Ta:P.cellsOf e=FZ.size:=(by simp[Program.cellsOf,wx]);obtain⟨jT,f1,f2⟩:=Da (w:=w) (ok:=s.ok g ai w) (aH:=s.aH) (aP:=s.aP ai) (fun i=>some (i*FZ.size,FZ.size)) _ (parts.map fun (i,x)=>(i,a.eval x)).toList z c6.cells c hcs (by simp) (by intro j off size x i v ao aT;simp only[dI,dL,Function.comp,dC] at ao;simp only[Array.toList_map,dI,dL] at aT;obtain⟨p,af,ap,av,bS⟩:=ao;obtain⟨⟨d7,ca⟩,kw,aT⟩:=aT;simp only[dC] at aT;obtain⟨rfl,rfl⟩:=aT;rw[af] at kw;have:=dH kw;subst this;refine⟨by rw[<- ap,<- av,Ta],?_⟩;rw[<- bS];exact h.eval _) bL;have aE:P.built t (parts.map fun (i,x)=>(i,a.eval x)).toList=some jT:=(by unfold Program.built;simp only[tR,hu,iN,wx];exact f1);refine gC (v:= .agg jT) h ?_ rfl ?_
  ·have:=run_build w t _ jT aE;simp[execOp,ae,this]
  have:=Rel.agg (w:=w) (ok:=s.ok g ai w) (aH:=s.aH) (aP:=s.aP ai) (c:=c) jT.toList (by simpa using f2.1) (fun j u hu=>f2.2.1 j u (by simpa using hu)) (fun j x u U hu=>f2.2.2 j x u U (by simpa using hu));simpa using this
theorem Rb {t:TypeId}{parts:Array (Nat×Operand)}(h:b7 g s ai a w)(ae:I.op = .build t parts)(ag:dr P s.E s.au aA I b9=some a1):Fin P g s a w I a1:=by
 simp only[dr,ae] at ag;split at ag;rotate_left
 ·exact Pu h ae ag
 rename_i jk z yO bY;split at ag
 ·simp at ag
 rename_i mr;have mr : ∀f∈jk.toList,(P.info? f.type).isSome=true:=by rw[Bool.not_eq_false] at mr;exact List.all_eq_true.1 mr
 split at ag;rotate_left
 ·simp at ag
 rename_i l aw
 cases bL:qs z l with
 | none=>simp[bL] at ag
 | some c =>
  simp[bL] at ag;subst ag;obtain⟨it,c6,tR,iN,dv,hcs⟩:=DH (w:=w) (s:=s) (g:=g) (ai:=ai) bY;obtain⟨mE,po⟩:=JL _ _ _ aw
  have TE:jk.toList.mapM (fun f=>(P.info? f.type).map fun i=>(f.offset,i.size))=some (jk.toList.map fun f=>(f.offset,P.cellsOf f.type)):=by
   refine mapM_some (fun f:Field=>(f.offset,P.cellsOf f.type)) _ _ fun f bL=> ?_;have:=mr f bL
   cases ad:P.info? f.type with
   | none=>simp[ad] at this
   | some i=>simp[Program.cellsOf,ad]
  obtain⟨jT,f1,f2⟩:=Da (w:=w) (ok:=s.ok g ai w) (aH:=s.aH) (aP:=s.aP ai) ((jk.toList.map fun f=>(f.offset,P.cellsOf f.type)).toArray[·]?) l (parts.map fun (i,x)=>(i,a.eval x)).toList z c6.cells c hcs (by simpa using mE) (by intro j off size x i v ao aT;simp only[Array.toList_map,dI,dL] at aT;obtain⟨⟨d7,ca⟩,af,aT⟩:=aT;simp only[dC] at aT;obtain⟨rfl,rfl⟩:=aT;have:=po j _ _ af ao;simp only[dL,dC] at this;obtain⟨fd,o,J,an,aG⟩:=this;subst J;subst an;subst aG;refine⟨?_,h.eval ca⟩;rw[List.getElem?_toArray,dI,Array.getElem?_toList,o];rfl) bL;have aE:P.built t (parts.map fun (i,x)=>(i,a.eval x)).toList=some jT:=(by unfold Program.built;simp only[tR,C1 yO,iN,TE];exact f1);refine gC (v:= .agg jT) h ?_ rfl ?_
  ·have:=run_build w t _ jT aE;simp[execOp,ae,this]
  have:=Rel.agg (w:=w) (ok:=s.ok g ai w) (aH:=s.aH) (aP:=s.aP ai) (c:=c) jT.toList (by simpa using f2.1) (fun j u hu=>f2.2.1 j u (by simpa using hu)) (fun j x u U hu=>f2.2.2 j x u U (by simpa using hu));simpa using this
theorem Ou {sz:Nat}{es:List (List aj)}(aw:∀e∈es,e.length=sz){i:Nat}(ad:i<es.length){c:List aj}(aJ:c.length=sz):
 setCells es.flatten (i*sz) c=(es.set i c).flatten:=by
 have hlen : ∀(es:List (List aj)),(∀e∈es,e.length=sz)->es.flatten.length=es.length*sz:=by
  intro es
  induction es with
  | nil=>simp
  | cons e es ih =>
   intro h;rw[dS,dE,ih fun x U=>h x (by simp[U]),h e (by simp),dM,Nat.add_mul];omega
 have gQ:i*sz+c.length<=es.flatten.length:=by rw[hlen es aw,aJ];have:=Y5 sz (show i+1<=es.length by omega);rw[Nat.add_mul] at this;omega
 apply Zb;intro j;rw[C0 gQ,H4 aw (dw ad) aJ,aJ]
theorem Il {sz:Nat}: ∀(l:List (Nat×aj)) (es fa:List (List aj)),(∀e∈es,e.length=sz)->wa sz es l=some fa ->
 qs es.flatten (l.map fun p=>(p.1*sz,sz,p.2))=some fa.flatten/\(∀e∈fa,e.length=sz)/\fa.length=es.length
 | [],es,fa,aw,h=>by simp[wa] at h;subst h;exact⟨rfl,aw,rfl⟩
 | (i,x)::l,es,fa,aw,h=>by
  simp only[wa] at h;split at h;rotate_left
  ·simp at h
  rename_i aJ;simp only[YX,decide_eq_true_eq] at aJ;obtain⟨⟨o,J⟩,an⟩:=aJ
  have EJ : ∀e∈es.set i x.cells,e.length=sz:=by
   intro e hm;rcases List.mem_or_eq_of_mem_set hm with bR|bR
   ·exact aw e bR
   exact bR▸J
  obtain⟨gX,i4,cW⟩:=Il l (es.set i x.cells) fa EJ h;have e:=Ou aw an J
  have gQ:i*sz+sz<=es.flatten.length:=by
   have:(setCells es.flatten (i*sz) x.cells).length=(es.set i x.cells).flatten.length:=by rw[e]
   have aU : ∀(es:List (List aj)),(∀e∈es,e.length=sz)->es.flatten.length=es.length*sz:=by
    intro es
    induction es with
    | nil=>simp
    | cons e es ih =>
     intro h;rw[dS,dE,ih fun x U=>h x (by simp[U]),h e (by simp),dM,Nat.add_mul];omega
   rw[aU es aw];have:=Y5 sz (show i+1<=es.length by omega);rw[Nat.add_mul] at this;omega
  refine⟨?_,i4,by simpa using cW⟩;simp only[List.map_cons,qs,o,J,gQ,decide_true,Bool.and_self,if_true];rw[e];exact gX
theorem O0 {t:TypeId}{len:Nat}{parts:Array (Nat×Operand)}(h:b7 g s ai a w)(dU:s.au aA=none)(ae:I.op = .buildSlice t len parts)(ag:dr P s.E s.au aA I b9=some a1):Fin P g s a w I a1:=by
 simp only[dr,ae] at ag;split at ag;rotate_left
 ·simp at ag
 rename_i e he;split at ag;rotate_left
 ·simp at ag
 rename_i z bY;split at ag
 ·simp at ag
 rename_i aJ;simp only[not_or,Nat.not_lt,Decidable.not_not] at aJ;obtain⟨lr,wy,wz⟩:=aJ;split at ag;rotate_left
 ·simp at ag
 rename_i es gb;simp only[dx] at ag;subst ag;obtain⟨it,c6,tR,iN,dv,hcs⟩:=DH (w:=w) (s:=s) (g:=g) (ai:=ai) bY;have iw:P.cellsOf e=it.size:=by simp[Program.cellsOf,tR]
 have Lf : ∀x∈List.replicate len z,x.length=z.length:=fun x U=>by rw[List.eq_of_mem_replicate U]
 obtain⟨f1,f2,f3⟩:=Il _ _ _ Lf gb
 have pQ:wY w (s.ok g ai w) s.aH (s.aP ai) (List.replicate len z).flatten ((Array.range (len*it.size)).map (c6.cells[· % c6.cells.size]!)):=by
  have Bn:0<z.length:=(by omega);have ku : ∀j,j<len*it.size->((Array.range (len*it.size)).map (c6.cells[· % c6.cells.size]!))[j]? = c6.cells[j % z.length]? := (by intro j ao;rw[Array.getElem?_map,Array.getElem?_range];simp only[ao,if_true,dN];have hm:j % c6.cells.size<c6.cells.size:=Nat.mod_lt _ (by omega);rw[getElem!_pos c6.cells _ hm,<- dv,dO hm]);have c0 : ∀(j:Nat) u,((Array.range (len*it.size)).map (c6.cells[· % c6.cells.size]!))[j]? = some u->j<len*it.size:=(by intro j u hu;have:=(Y3.1 hu).1;simpa using this);refine⟨by simp[<- iw,<- wy],fun j u hu=> ?_,fun j x u U hu=> ?_⟩
  ·have ao:=c0 j u hu;rw[ku j ao] at hu;exact hcs.2.1 _ _ hu
  have ao:=c0 j u hu;rw[ku j ao] at hu;rw[nD Bn _ Lf,List.getElem?_replicate] at U;split at U
  ·exact hcs.2.2 _ _ _ U hu
  simp at U
 obtain⟨jT,g1,g2⟩:=Da (w:=w) (ok:=s.ok g ai w) (aH:=s.aH) (aP:=s.aP ai) (fun i=>some (i*it.size,it.size)) ((parts.toList.map fun p=>(p.1,dc s.E p.2)).map fun p=>(p.1*z.length,z.length,p.2)) (parts.map fun (i,x)=>(i,a.eval x)).toList _ _ es.flatten pQ (by simp) (by intro j off size x i v ao aT;simp only[Array.toList_map,dI,dL,List.map_map] at aT ao;obtain⟨⟨d7,ca⟩,af,aT⟩:=aT;obtain⟨⟨l6,eu⟩,yL,ao⟩:=ao;rw[af] at yL;simp only[dx,dC] at yL aT;obtain⟨rfl,rfl⟩:=yL;obtain⟨rfl,rfl⟩:=aT;simp only[Function.comp,dC] at ao;obtain⟨rfl,rfl,rfl⟩:=ao;exact⟨by rw[<- iw,<- wy],h.eval ca⟩) f1
 have hn:(Instr.buildSlice t len (parts.map fun (i,x)=>(i,a.eval x))).run P w = .ok (.slice (some ⟨w.heap.size,0,none⟩) len len) (w.alloc (.cells jT e)):=by
  have o : ¬len*it.size>2 ^ 24:=(by rw[<- iw,<- wy];omega);by_cases h0:len*it.size=0;rotate_left
  ·simp only[Instr.buildSlice,run_underlying (pA he),sizeOf,typeInfo,tR,newRow,zeroValue,iN,Sem.run_bind,Result.andThen_ok,run_program,Sem.run_pure,Sem.run_ite,o,h0,if_false];rw[g1];rfl
  have lZ:len=0:=by
   rcases Nat.eq_zero_or_pos len with bR|bR
   ·exact bR
   have:0<len*it.size:=Nat.mul_pos bR (by omega);omega
  subst lZ;have e0:((Array.range (0*it.size)).map (c6.cells[· % c6.cells.size]!)) = #[]:=(by simp);rw[e0] at g1
  have af:parts = #[]:=by
   obtain⟨l⟩:=parts
   match l,gb with
   | [],_=>rfl
   | p::l,gb=>simp[wa] at gb
  subst af;have TF:jT = #[]:=(by simpa [Instr.fill] using g1.symm);subst TF;simp[Instr.buildSlice,run_underlying (pA he),sizeOf,typeInfo,tR,newRow,Instr.fill];rw[Array.range_zero',Array.map_empty]
 refine AD (v:= .slice (some ⟨w.heap.size,0,none⟩) len len) (ab:=⟨z.length,es,.live⟩) (c:=jT) (c9:=e) h dU rfl ?_ rfl f2 ?_ ?_
 ·simp[execOp,ae,hn]
 ·intro j x U
  have ao:j<jT.size:=by
   rw[g2.1];rcases Nat.lt_or_ge j es.flatten.length with bR|bR
   ·exact bR
   rw[dP bR] at U;simp at U
  have hu:jT[j]? = some jT[j]:=dO ao;exact⟨_,hu,g2.2.1 _ _ hu,g2.2.2 _ _ _ U hu⟩
 intro bc jv lp kU hu b3;refine Rel.bz hu b3 (dF _) ?_ ⟨?_,.inr (by simp)⟩
 ·have:len<=len*z.length:=Nat.le_mul_of_pos_right _ (by omega);omega
 rw[g2.1]
 have aU : ∀(es:List (List aj)),(∀e∈es,e.length=z.length)->es.flatten.length=es.length*z.length:=by
  intro es
  induction es with
  | nil=>simp
  | cons e es ih =>
   intro h;rw[dS,dE,ih fun x U=>h x (by simp[U]),h e (by simp),dM,Nat.add_mul];omega
 rw[aU es f2,f3];simp
theorem Aj (h:b7 g s ai a w)(dU:s.au aA=none)(ag:dr P s.E s.au aA I b9=some a1)(bM:∀p∈a1.ea,p):Fin P g s a w I a1:=by
 cases ae:I.op with
 | move x=>exact JK h (.inl ae) ag
 | assign x=>exact JK h (.inr ae) ag
 | pick c x y=>exact RT h ae ag bM
 | alloc t=>exact Q2 h dU ae ag
 | box t x=>exact Sv h dU ae ag
 | load t x=>exact RU h ae ag bM
 | store t x y=>exact Q3 h ae ag bM
 | nilCheck x=>exact Ps h ae ag bM
 | binOp op t x y cx=>exact Q4 h ae ag bM
 | unOp op t x=>exact RV h ae ag
 | convert t cx x=>exact PN h ae ag
 | makeFunc f zv bO=>exact Pt h ae ag
 | makeSlice t x y=>exact O9 h dU ae ag bM
 | fieldAddr t x f=>exact Pa h ae ag bM
 | field t x f=>exact Q8 h ae ag
 | indexAddr t x y=>exact Pb h ae ag bM
 | index t x y=>exact Q9 h ae ag bM
 | extract x i=>exact PO h ae ag
 | slice t x bb ad rE =>
  cases rE with
  | none=>exact Q7 h ae ag bM
  | some m =>
   cases ad with
   | none=>simp[dr,ae] at ag
   | some ad=>exact Qn h ae ag bM
 | build t hT=>exact Rb h ae ag
 | buildSlice t n hT=>exact O0 h dU ae ag
 | call c =>
  obtain⟨Bo,args,kW⟩:=c
  cases Bo with
  | builtin b=>cases b<;>first|exact Sw h ae rfl ag bM|simp[dr,ae] at ag
  | value f=>simp[dr,ae] at ag
  | invoke r m=>simp[dr,ae] at ag
 | _=>simp[dr,ae] at ag
end
def Sx:Option az->d5
 | some I=> .gx I []
 | none=> .none
def pF (sz:Nat)(au:Nat->Option (List az))(a:d5):aj->Option (List (List aj)×List Prop)
 | .isl Bp es=>if Bp=sz then some (es,[]) else none
 | .bz r k bb len=>match mq (au r) k a with
  | some (ab,bT)=>if ab.sz=sz then some ((ab.es.drop bb).take len,bT++[bb+len<=ab.es.length]) else none
  | none=>none
 | .eC=>some ([],[])
 | .gT=>some ([],[])
 | _=>none
def tm (P:Program)(sz:Nat)(z:List aj)(au:Nat->Option (List az))(a:d5)(t cx:TypeId)(y:aj):Option (List (List aj)×List Prop) :=
 if t=cx then pF sz au a y else
 match P.underlying cx,y with
 | some (.int _),.n .i64 n=>some (List.replicate n.toNat z,[0<=n,n<9223372036854775808])
 | _,_=>none
def ri (rF:Bool)(P:Program)(au:Nat->Option (List az))(x y:aj)(t cx:TypeId):Option fI :=
 match nL P t with
 | none=>none
 | some e=>match P.info? e,n6 P e with
  | some i,some z =>
   if z.length≠i.size\/i.size=0\/i.bytes=0 then none else
   match tm P i.size z au .none t cx y with
   | none=>none
   | some (a3,bT)=>match x with
    | .bz r k 0 len=>match au r with
     | none=>none
     | some row=>match cB (some row) k with
      | none=>none
      | some ab=>if ab.bV = .live/\ab.sz=i.size then
       some {val:= .bz r k 0 (len+a3.length),eH:=[(r,row.set k {ab with es:=bif rF then ab.es.take len++a3++ab.es.drop (len+a3.length) else ab.es.take len++a3})],ea:=bT++[len+a3.length<=ab.es.length,a3.length*i.bytes<=140737488355328]} else none
    | _=>none
  | _,_=>none
def tx (P:Program)(au:Nat->Option (List az))(r k bb len:Nat)(t:TypeId):Option fI :=
 match nL P t with
 | none=>none
 | some e=>match P.info? e,n6 P e with
  | some i,some z=>match au r with
   | none=>none
   | some row=>match cB (some row) k with
    | none=>none
    | some ab=>if ab.bV = .live/\ab.sz=i.size/\z.length=i.size/\i.size≠0 then
     some {val:= .dl [],eH:=[(r,row.set k {ab with es:=ab.es.take bb++List.replicate len z++ab.es.drop (bb+len)})],ea:=[bb+len<=ab.es.length]} else none
  | _,_=>none
def tH (P:Program)(au:Nat->Option (List az))(r k len:Nat)(t:TypeId):Option fI :=
 match nL P t with
 | none=>none
 | some e=>match P.info? e,n6 P e with
  | some i,some z=>match au r with
   | none=>none
   | some row=>match cB (some row) k with
    | none=>none
    | some ab=>if ab.bV = .live/\ab.sz=i.size/\z.length=i.size/\i.size≠0 then
     some {val:= .dl [],eH:=[(r,row.set k {ab with es:=List.replicate len z})],ea:=[ab.es.length=len]} else none
  | _,_=>none
def pR (P:Program)(E:Nat->aj)(au:Nat->Option (List az))(aA:Nat)(b:Builtin)(args:List aj)(kW:List TypeId)(b9:d5):Option fI :=
 match b,args,kW,b9 with
 | .append,[x,y],[t,cx],.ba m I =>
  match nL P t with
  | none=>none
  | some e=>match P.info? e,n6 P e with
   | some i,some z =>
    if z.length≠i.size\/i.size=0\/i.bytes=0 then none else
    match tm P i.size z au (Sx I) t cx y with
    | none=>none
    | some (a3,bT)=>match x with
     | .eC=>some {val:= .bz aA 0 0 m,eH:=[(aA,[⟨i.size,a3,.live⟩])],ea:=bT++[m=a3.length,m*i.bytes<=140737488355328]}
     | .bz r k 0 len=>match au r with
      | none=>none
      | some row=>match cB (some row) k with
       | none=>none
       | some ab=>if ab.bV = .live/\ab.sz=i.size/\aA≠r then
        some {val:= .bz aA 0 0 m,eH:=[(aA,[⟨i.size,ab.es.take len++a3,.live⟩]),(r,row.set k {ab with bV:= .gone})],ea:=bT++[len<=ab.es.length,m=len+a3.length,m*i.bytes<=140737488355328]} else none
     | _=>none
   | _,_=>none
 | .append,[x,y],[t,cx],.fj=>ri false P au x y t cx
 | .append,[x,y],[t,cx],.zs=>ri true P au x y t cx
 | .copy,[.bz r k 0 len,y],[t,_],_ =>
  match nL P t with
  | none=>none
  | some e=>match P.info? e with
   | none=>none
   | some i=>match pF i.size au .none y with
    | none=>none
    | some (a3,bT)=>match au r with
     | none=>none
     | some row=>match cB (some row) k with
      | none=>none
      | some ab=>if ab.bV = .live/\ab.sz=i.size/\i.size≠0 then
       some {val:= .n .i64 a3.length,eH:=[(r,row.set k {ab with es:=a3++ab.es.drop a3.length})],ea:=bT++[a3.length<=len,len<=ab.es.length]} else none
 | .clear,[.bz r k bb len],[t],.zs=>tx P au r k bb len t
 | .clear,[.bz r k 0 len],[t],_=>tH P au r k len t
 | .min,[.n k x,.n cA y],_,_=>if k=cA then some {val:= .n k (if y<x then y else x)} else none
 | _,_,_,_=>none
section
variable {g:G} {s:S} {ai:el} {a:Act} {w bc:World}
theorem b7.gone (h:b7 g s ai a w){r k:Nat}{l:List az}{I:az}(ah:s.au r=some l)(ae:s.ab r k=some I):
 b7 g (s.setRow r (l.set k {I with bV:= .gone})) ai a w /\
  ∀x v,Rel w (s.ok g ai w) s.aH (s.aP ai) x v->Rel w ((s.setRow r (l.set k {I with bV:= .gone})).ok g ai w) (s.setRow r (l.set k {I with bV:= .gone})).aH ((s.setRow r (l.set k {I with bV:= .gone})).aP ai) x v:=by
 have aW : ∀q j p,(s.setRow r (l.set k {I with bV:= .gone})).ab q j=some p->s.ab q j=some p/\ ¬(q=r/\j=k):=by
  intro q j p af;rw[j0] at af;by_cases e:q=r
  ·subst e
   rw[dy rfl] at af;unfold cB at af;simp only[YZ] at af;by_cases av:k=j
   ·subst av
    by_cases aL:k<l.length
    ·simp[aL] at af
    simp[aL] at af
   rw[dz av] at af;refine⟨?_,fun eP=>av eP.2.symm⟩;unfold S.ab;rw[ah];exact af
  rw[dz e] at af;exact⟨af,fun eP=>e eP.1⟩
 have cp:Step g s ai w (s.setRow r (l.set k {I with bV:= .gone})) ai w:=by
  refine⟨z7 s ah (by simp),fun q j aU=> ?_,fun b aw=> ?_,fun _ _ _=>rfl,dF _⟩
  ·cases af:(s.setRow r (l.set k {I with bV:= .gone})).ab q j with
   | none=>right;simp[S.aP,af]
   | some p=>left;simp[S.aP,af,(aW q j p af).1]
  obtain⟨q,j,p,m,o,J,an⟩:=aw;exact .inl ⟨q,j,p,m,(aW q j p o).1,J,an⟩
 refine⟨{togK:=⟨?_,?_,?_,h.fU,h.mlt,h.lX,cp.stay h.stay,h.low⟩,env:=fun t=>cp.rel (h.env t),defers:=h.defers,h9:=h.h9},fun x v=>cp.rel⟩
 ·intro q j p af;exact cp.obj (fun b m _=>rfl) (h.obj q j p (aW q j p af).1)
 ·intro q j p gj gF iQ b m aX o J an aG;exact h.inj q j p gj gF iQ b m aX (aW q j p o).1 (aW gj gF iQ J).1 an aG
 intro q j p b m o J;exact h.own q j p b m (aW q j p o).1 J
theorem b7.JM (h:b7 g s ai a w){aA sz:Nat}(dU:s.au aA=none):
 ∃bf,bf aA 0=none/\b7 g (s.setRow aA [⟨sz,[],.live⟩]) bf a w:=by
 have aW : ∀q k,q≠aA->(s.setRow aA [⟨sz,[],.live⟩]).ab q k=s.ab q k:=fun q k aU=>by rw[j0,dz aU]
 let bf:el:=fun q k=>if q=aA then none else ai q k
 have cc : ∀q k,s.aH q k->q≠aA:=by rintro q k aU rfl;exact vq dU k aU
 have En : ∀k I,(s.setRow aA [⟨sz,[],.live⟩]).ab aA k=some I->I=⟨sz,[],.live⟩:=by
  intro k I ae;rw[j0,dy rfl,kL] at ae;split at ae
  ·simp at ae;exact ae.symm
  simp at ae
 have cp:Step g s ai w (s.setRow aA [⟨sz,[],.live⟩]) bf w:=by
  refine⟨fun q k aU=>(lO _ _ _ _ _).2 (by rw[dz (cc q k aU)];exact aU),fun q k aU=> .inl ?_,fun b aw=> ?_,fun _ _ _=>rfl,dF _⟩
  ·simp[S.aP,aW q k (cc q k aU),bf,cc q k aU]
  obtain⟨q,k,I,m,o,J,an⟩:=aw;by_cases e:q=aA
  ·subst e;simp[bf] at an
  rw[aW q k e] at o;simp only[bf,dz e] at an;exact .inl ⟨q,k,I,m,o,J,an⟩
 refine⟨bf,by simp[bf],{togK:=⟨?_,?_,?_,h.fU,h.mlt,h.lX,cp.stay h.stay,h.low⟩,env:=fun t=>cp.rel (h.env t),defers:=h.defers,h9:=h.h9}⟩
 ·intro q k I ae
  by_cases e:q=aA
  ·subst e;rw[En k I ae];simp[bf,hl]
  rw[aW q k e] at ae;have:=cp.obj (fun b m _=>rfl) (h.obj q k I ae);simpa [bf,e] using this
 ·intro q k I gj cA bD b m aX o J an aG;have e:q≠aA:=(by rintro rfl;simp[bf] at an);have dp:gj≠aA:=(by rintro rfl;simp[bf] at aG);rw[aW q k e] at o;rw[aW gj cA dp] at J;simp only[bf,dz e] at an;simp only[bf,dz dp] at aG;exact h.inj q k I gj cA bD b m aX o J an aG
 intro q k I b m o J;have e:q≠aA:=by rintro rfl;simp[bf] at J
 rw[aW q k e] at o;simp only[bf,dz e] at J;exact h.own q k I b m o J
theorem b7.turn (h:b7 g s ai a w){r k b m aA:Nat}{l:List az}{I:az}(ah:s.au r=some l)(ae:s.ab r k=some I)(aL:I.bV = .live)(af:ai r k=some (b,m))
 (dU:s.au aA=none) (bD:az) (ls:bD.bV = .live) (c:Array Value) (c9:TypeId)
 (hw:bc.heap[b]? = some (.cells c c9 (0,0))) (dv:bc.heap.size=w.heap.size) (tl : ∀q,q≠b->bc.heap[q]? = w.heap[q]?)
 (o8:bc.os=w.os) (EG:bc.tape=w.tape) (Ek:bc.output=w.output) (hm:c.size=m) (hlen : ∀e∈bD.es,e.length=bD.sz)
 (aJ : ∀(j:Nat) x,bD.es.flatten[j]? = some x-> ∃v,c[j]? = some v/\iJ v=true/\Rel w (s.ok g ai w) s.aH (s.aP ai) x v) :
 ∃bf,bf aA 0=some (b,m)/\b7 g ((s.setRow aA [bD]).setRow r (l.set k {I with bV:= .gone})) bf a bc:=by
 have cc:r≠aA:=by rintro rfl;rw[dU] at ah;simp at ah
 have Lg : ∀k,¬s.aH aA k:=vq dU
 let bj:=(s.setRow aA [bD]).setRow r (l.set k {I with bV:= .gone})
 let bf:el:=ai.set aA 0 (some (b,m))
 have aW : ∀q j p,bj.ab q j=some p->(q=aA/\j=0/\p=bD)\/(q≠aA/\s.ab q j=some p/\ ¬(q=r/\j=k)):=by
  intro q j p aU;rw[j0] at aU;by_cases e:q=r
  ·subst e
   rw[dy rfl] at aU;unfold cB at aU;simp only[YZ] at aU;by_cases av:k=j
   ·subst av;by_cases aL:k<l.length<;>simp[aL] at aU
   rw[dz av] at aU;refine .inr ⟨cc,?_,fun eP=>av eP.2.symm⟩;unfold S.ab;rw[ah];exact aU
  rw[dz e,j0] at aU;by_cases av:q=aA
  ·subst av
   rw[dy rfl,kL] at aU;split at aU
   ·rename_i h0;simp at aU;exact .inl ⟨rfl,h0.1,aU.symm⟩
   simp at aU
  rw[dz av] at aU;exact .inr ⟨av,aU,fun eP=>e eP.1⟩
 have jG : ∀q j,q≠aA->bf q j=ai q j:=fun q j aU=>by simp[bf,el.set,aU]
 have wA:bf aA 0=some (b,m):=by simp[bf,el.set]
 have od:s.kl ai b:=⟨r,k,I,m,ae,aL,af⟩
 have hP : ∀q j,s.aH q j->bj.aH q j:=fun q j aU=>by
  have e:q≠aA:=fun e=>Lg j (e▸aU);rw[lO,lO,dz e];by_cases av:q=r
  ·subst av;rw[dy rfl];simpa [S.aH,ah] using aU
  rw[dz av];exact aU
 have cp:Step g s ai w bj bf bc:=by
  refine⟨hP,fun q j aU=> ?_,fun q aw=> ?_,fun q aU aw=>tl q fun e=>aw (e▸od),Nat.le_of_eq dv.symm⟩
  ·have lY:q≠aA:=fun e=>Lg j (e▸aU)
   cases iY:bj.ab q j with
   | none=>right;simp[S.aP,iY]
   | some p =>
    left;rcases aW q j p iY with ⟨e,-⟩|⟨-,av,-⟩
    ·exact absurd e lY
    simp[S.aP,iY,av,jG q j lY]
  obtain⟨gj,j,p,aX,o,J,an⟩:=aw;rcases aW gj j p o with ⟨rfl,rfl,rfl⟩|⟨ap,av,-⟩
  ·rw[wA] at an;simp at an;exact .inl (an.1▸od)
  rw[jG gj j ap] at an;exact .inl ⟨gj,j,p,aX,av,J,an⟩
 refine⟨bf,wA,{togK:=⟨?_,?_,?_,?_,h.mlt,h.lX,cp.stay h.stay,h.low⟩,env:=fun t=>cp.rel (h.env t),defers:=h.defers,h9:=h.h9}⟩
 ·intro q j p iY
  rcases aW q j p iY with ⟨rfl,rfl,rfl⟩|⟨ap,av,bS⟩
  ·rw[wA];exact⟨c,c9,hw,hm,hlen,fun i x U=>let ⟨v,f1,f2,f3⟩:=aJ i x U;⟨v,f1,f2,cp.rel f3⟩⟩
  rw[jG q j ap];refine cp.obj (fun iq aX jd=>tl iq ?_) (h.obj q j p av);rintro rfl;exact bS (h.inj q j p r k I iq aX m av ae jd af)
 ·intro q j p gj gF iQ iq gW fJ o J an aG
  rcases aW q j p o with ⟨rfl,rfl,rfl⟩|⟨ap,av,bS⟩<;>rcases aW gj gF iQ J with ⟨rfl,rfl,rfl⟩|⟨lu,nV,yQ⟩
  ·exact⟨rfl,rfl⟩
  ·rw[wA] at an;simp at an;rw[jG gj gF lu] at aG;obtain⟨rfl,rfl⟩:=an;exact absurd (h.inj gj gF iQ r k I b fJ m nV ae aG af) yQ
  ·rw[wA] at aG;simp at aG;rw[jG q j ap] at an;obtain⟨rfl,rfl⟩:=aG;exact absurd (h.inj q j p r k I b gW m av ae an af) bS
  rw[jG q j ap] at an;rw[jG gj gF lu] at aG;exact h.inj q j p gj gF iQ iq gW fJ av nV an aG
 ·intro q j p iq aX o J
  rcases aW q j p o with ⟨rfl,rfl,rfl⟩|⟨ap,av,-⟩
  ·rw[wA] at J;simp at J;rw[<- J.1];exact h.own r k I b m ae af
  rw[jG q j ap] at J;exact h.own q j p iq aX av J
 refine h.fU.step o8 EG Ek (Nat.le_of_eq dv.symm) fun iq o9 jd=>tl iq ?_;rintro rfl;rcases h.own r k I iq m ae af with o|o
 ·omega
 exact jd o
theorem m1.ms {ok:Nat->Prop}{aH:hI}{aP:hs}{cY I sz:Nat}{es:List (List aj)}(h:m1 w ok aH aP cY I sz es):
 ∃vs:List Value,vs.length=es.length*sz/\(∀(j:Nat) u,vs[j]? = some u->w.cell? ((⟨cY,I,none⟩:Addr).add j)=some u)/\(∀u∈vs,u.oneCell'=true) /\
  ∀(j:Nat) x u,es.flatten[j]? = some x->vs[j]? = some u->Rel w ok aH aP x u:=by
 have h5:es.flatten.length=es.length*sz:=by
  have : ∀(es:List (List aj)),(∀e∈es,e.length=sz)->es.flatten.length=es.length*sz:=by
   intro es
   induction es with
   | nil=>intro _;simp
   | cons e es ih =>
    intro eP;rw[dS,dE,ih fun x U=>eP x (by simp[U]),eP e (by simp),dM,Nat.add_mul];omega
  exact this es h.1
 have U : ∀i,i<es.length*sz-> ∃v,∀x,es.flatten[i]? = some x->w.cell? ⟨cY,I+i,none⟩=some v/\iJ v=true/\Rel w ok aH aP x v:=by intro i ad;have ao:=dw (l:=es.flatten) (i:=i) (by omega);obtain⟨v,o⟩:=h.2 i _ ao;exact⟨v,fun x U=>by rw[ao] at U;simp at U;subst U;exact o⟩
 let vs:List Value:=(List.range (es.length*sz)).map fun i=>if ad:i<es.length*sz then (U i ad).choose else undef
 have ot:vs.length=es.length*sz:=by simp[vs]
 have ku : ∀(i:Nat) u x,vs[i]? = some u->es.flatten[i]? = some x->w.cell? ⟨cY,I+i,none⟩=some u/\iJ u=true/\Rel w ok aH aP x u:=by
  intro i u x hu yR
  have ad:i<es.length*sz:=by
   rcases Nat.lt_or_ge i vs.length with bR|bR
   ·omega
   rw[dP bR] at hu;simp at hu
  simp only[vs,dI,List.getElem?_range ad,dN,dif_pos ad,dx] at hu;subst hu;exact(U i ad).choose_spec x yR
 have hex : ∀(i:Nat) u,vs[i]? = some u-> ∃x,es.flatten[i]? = some x:=by
  intro i u hu
  have ad:i<es.flatten.length:=by
   rcases Nat.lt_or_ge i vs.length with bR|bR
   ·omega
   rw[dP bR] at hu;simp at hu
  exact⟨_,dw ad⟩
 refine⟨vs,ot,fun j u hu=> ?_,fun u hu=> ?_,fun j x u cL hu=>(ku j u x hu cL).2.2⟩
 ·obtain⟨x,yR⟩:=hex j u hu;rw[pz];exact(ku j u x hu yR).1
 obtain⟨j,ao⟩:=Y2 hu;obtain⟨x,yR⟩:=hex j u ao;exact(ku j u x ao yR).2.1
theorem OS {es a3:List (List aj)}{sz:Nat}{xs news:List Value}(U:xs.length=es.length*sz)(he:∀e∈es,e.length=sz){j:Nat}{x:aj}(h:(es++a3).flatten[j]? = some x)
 {ok:Nat->Prop} {aH:hI} {aP:hs} (o : ∀(j:Nat) x u,es.flatten[j]? = some x->xs[j]? = some u->Rel w ok aH aP x u) (J : ∀(j:Nat) x u,a3.flatten[j]? = some x->news[j]? = some u->Rel w ok aH aP x u)
 {u:Value} (hu:(xs++news)[j]? = some u):Rel w ok aH aP x u:=by
 have h5:es.flatten.length=es.length*sz:=by
  have : ∀(es:List (List aj)),(∀e∈es,e.length=sz)->es.flatten.length=es.length*sz:=by
   intro es
   induction es with
   | nil=>intro _;simp
   | cons e es ih =>
    intro eP;rw[dS,dE,ih fun x U=>eP x (by simp[U]),eP e (by simp),dM,Nat.add_mul];omega
  exact this es he
 rw[List.flatten_append,List.getElem?_append] at h;rw[List.getElem?_append] at hu;by_cases ao:j<es.flatten.length
 ·rw[dy ao] at h;rw[dy (by omega)] at hu;exact o j x u h hu
 rw[dz ao] at h;rw[dz (by omega)] at hu;rw[h5] at h;rw[U] at hu;exact J _ x u h hu
variable {P:Program}
theorem Jg (h:b7 g s ai a w){sz:Nat}{x:aj}{et:d5}{a3:List (List aj)}{ab:List Prop}(he:pF sz s.au et x=some (a3,ab))(aW:∀p∈ab,p){v:Value}(aT:Rel w (s.ok g ai w) s.aH (s.aP ai) x v):
 ∃A c,v = .slice A a3.length c/\(∀e∈a3,e.length=sz)/\(a3.length=0\/ ∃cY off,A=some ⟨cY,off,none⟩/\m1 w (s.ok g ai w) s.aH (s.aP ai) cY off sz a3):=by
 cases x with
 | isl Bp es =>
  simp only[pF] at he;split at he
  ·rename_i bN
   subst bN;simp only[dx,dC] at he;obtain⟨rfl,rfl⟩:=he;rcases aT.q1 with ⟨rfl,A,c,rfl,-⟩|⟨cY,off,c,-,rfl,-,gU⟩
   ·exact⟨A,c,rfl,by simp,.inl rfl⟩
   exact⟨_,c,rfl,gU.1,.inr ⟨cY,off,rfl,gU⟩⟩
  simp at he
 | bz r k bb len =>
  simp only[pF] at he;split at he;rotate_left
  ·simp at he
  rename_i l0 bT ha;split at he;rotate_left
  ·simp at he
  rename_i bN;simp only[dx,dC] at he;obtain⟨rfl,rfl⟩:=he;have gQ:bb+len<=l0.es.length:=aW _ (by simp);have ae:s.ab r k=some l0:=qm ha (fun p af=>aW p (by simp[af]));have dY:=h.obj r k l0 ae;have aw:((l0.es.drop bb).take len).length=len:=(by simp;omega);rcases aT.xP (gu ae) with ⟨-,rfl,rfl,rfl⟩|⟨b,m,A,c,af,rfl,ou,-,hm⟩
  ·exact⟨none,0,by simp,by simp,.inl (by simp)⟩
  rw[af] at dY;have gU:=dY.rd;subst bN;have tI:=z8 gU bb len (by omega);refine⟨A,c,by rw[aw],tI.1,?_⟩;rcases hm with rfl|⟨rfl,-⟩
  ·left;rw[aw];omega
  right;rw[dG] at tI;exact⟨b,_,rfl,tI⟩
 | eC =>
  simp only[pF,dx,dC] at he;obtain⟨rfl,rfl⟩:=he;rw[aT.n8];exact⟨none,0,rfl,by simp,.inl rfl⟩
 | gT =>
  simp only[pF,dx,dC] at he;obtain⟨rfl,rfl⟩:=he;obtain⟨A,c,rfl⟩:=aT.AB;exact⟨some A,c,rfl,by simp,.inl rfl⟩
 | _=>simp[pF] at he
structure Eo (P:Program) (w:World) (t cx c9 e:TypeId) (i:TypeInfo) (c6 l7:Value) (n:Nat) (vs:List Value):Prop where
 zero:n=0-> ∀(B:Option Addr) (len cap:Nat),len<=cap->(Builtin.append_ #[t,cx] c9 #[.slice B len cap,l7]).run P w = .ok (.slice B len cap) w
 nil:0<n->(n:Int)<=9223372036854775807->n*i.bytes<=140737488355328 ->
  (Builtin.append_ #[t,cx] c9 #[.slice none 0 0,l7]).run P w = .ok (.slice (some ⟨w.heap.size,0,none⟩) n (grownCap w n 0 e)) (w.drew.alloc (.cells (vs.toArray++Builtin.zeroCells c6.cells (grownCap w n 0 e-n)) e))
 room:0<n-> ∀(g hb kr:Nat) (kc:Array Value) (dp:TypeId),w.heap[g]? = some (.cells kc dp (0,0))->hb+n<=kr->hb*i.size+vs.length<=kc.size->n*i.bytes<=140737488355328 ->
  (Builtin.append_ #[t,cx] c9 #[.slice (some ⟨g,0,none⟩) hb kr,l7]).run P w = .ok (.slice (some ⟨g,0,none⟩) (hb+n) kr) (w.setRow g (kc.toList.take (hb*i.size)++vs++kc.toList.drop (hb*i.size+vs.length)).toArray)
 grow:0<n-> ∀(b:Addr) (hb kr:Nat) (tJ:List Value),tJ.length=hb*i.size->(∀(j:Nat) v,tJ[j]? = some v->w.cell? (b.add j)=some v)->kr<hb+n->((hb+n:Nat):Int)<=9223372036854775807->Builtin.nextslicecap (hb+n) kr*i.bytes<=281474976710656->n*i.bytes<=140737488355328 ->
  (Builtin.append_ #[t,cx] c9 #[.slice (some b) hb kr,l7]).run P w = .ok (.slice (some ⟨w.heap.size,0,none⟩) (hb+n) (grownCap w (hb+n) kr e))
    (w.drew.alloc (.cells (tJ.toArray++vs.toArray++Builtin.zeroCells c6.cells (grownCap w (hb+n) kr e-(hb+n))) e))
theorem Ov (t c9 e:TypeId)(i:TypeInfo)(b3:P.underlying t=some (.slice e))(ad:P.info? e=some i)
 (g hb kr:Nat) (kc:Array Value) (dp:TypeId) (cZ:w.heap[g]? = some (.cells kc dp (0,0)))
 (a:Addr) (m c:Nat) (news:List Value) (aw:news.length=m*i.size) (Tb : ∀j u,news[j]? = some u->w.cell? (a.add j)=some u) (o : ∀u∈news,u.oneCell'=true)
 (q8:hb+m<=kr) (gQ:hb*i.size+news.length<=kc.size) :
 (Builtin.append_ #[t,t] c9 #[.slice (some ⟨g,0,none⟩) hb kr,.slice (some a) m c]).run P w =
   .ok (.slice (some ⟨g,0,none⟩) (hb+m) kr) (w.setRow g (kc.toList.take (hb*i.size)++news++kc.toList.drop (hb*i.size+news.length)).toArray):=by
 have bL:=run_firstCells_some (P:=P) w i.size m a m c news aw Tb;have jR:=run_storeCells_at P g (hb*i.size) dp news 0 kc w cZ (by simpa using gQ) o;simp only[Nat.add_zero] at jR;simp[Builtin.append_,run_underlying b3,sizeOf,typeInfo,ad,Builtin.lenOf,q8,bL,Addr.add_lit,jR]
theorem Im {t c9 e:TypeId}{i:TypeInfo}{c6:Value}(b3:P.underlying t=some (.slice e))(ad:P.info? e=some i)(bY:i.zero=some c6){A:Option Addr}{n c:Nat}{vs:List Value}(aw:vs.length=n*i.size)
 (hA:n=0\/ ∃a,A=some a/\ ∀(j:Nat) u,vs[j]? = some u->w.cell? (a.add j)=some u) (o : ∀u∈vs,u.oneCell'=true):Eo P w t t c9 e i c6 (.slice A n c) n vs where
 zero:=fun h0 B len cap ys=>by subst h0;cases A<;>cases B<;>simp[Builtin.append_,run_underlying b3,sizeOf,typeInfo,ad,Builtin.lenOf,ys,Builtin.firstCells,loadCells,loadCellsFrom,storeCells]
 nil:=fun h0 tS wB=>by obtain⟨a,rfl,bs⟩:=hA.resolve_left (by omega);exact run_append_nil (P:=P) w t c9 e i c6 b3 ad bY a n c vs aw bs h0 tS (by omega)
 room:=fun aZ g hb kr kc dp cZ q8 gQ _=>by obtain⟨a,rfl,bs⟩:=hA.resolve_left (by omega);exact Ov t c9 e i b3 ad g hb kr kc dp cZ a n c vs aw bs o q8 gQ
 grow:=fun aZ b hb kr tJ ae hold cZ tS gQ _=>by obtain⟨a,rfl,bs⟩:=hA.resolve_left (by omega);exact run_append_grow (P:=P) w t c9 e i c6 b3 ad bY b hb kr tJ ae hold a n c vs aw bs cZ tS gQ
theorem PQ {t cx c9 e:TypeId}{i:TypeInfo}{c6:Value}{k:IntKind}(b3:P.underlying t=some (.slice e))(mw:P.underlying cx=some (.int k))(ad:P.info? e=some i)(bY:i.zero=some c6)(jE:c6.cells.size=i.size){m:Nat}(XQ:(m:Int)<9223372036854775808)
 (o : ∀u∈(Builtin.zeroCells c6.cells m).toList,u.oneCell'=true):Eo P w t cx c9 e i c6 (.int .i64 m) m (Builtin.zeroCells c6.cells m).toList:=by
 have hw:IntKind.i64.wrap (m:Int)=m:=by simp[IntKind.wrap,IntKind.bits,IntKind.signed];omega
 have o7 : ¬((m:Int)<0):=by omega
 have pQ : ∀aX,aX*i.size=0->Builtin.zeroCells c6.cells aX = #[]:=fun aX hm=>by apply Array.eq_empty_of_size_eq_zero;rw[size_zeroCells,jE,hm]
 have Bq : ∀bc:World,(if m*i.size=0 then (pure #[]:Sem (Array Value)) else do pure (Builtin.zeroCells (<- zeroValue e).cells m)).run P bc = .ok (Builtin.zeroCells c6.cells m) bc:=fun bc=>by
  split
  ·rename_i hm;rw[pQ _ hm];rfl
  simp[zeroValue,typeInfo,ad,bY]
 have Ep : ∀b:Nat,m*b<=140737488355328-> ¬(281474976710656<(m:Int)*(b:Int)):=fun b aE=>by have:((m*b:Nat):Int)<=140737488355328:=(by omega);rw[Int.natCast_mul] at this;omega
 refine⟨fun aZ B len cap ys=> ?_,fun aZ tS wB=> ?_,fun aZ g hb kr kc dp cZ q8 gQ wB=> ?_,fun aZ b hb kr tJ ae hold cZ tS gQ wB=> ?_⟩
 ·subst aZ;have EN:IntKind.i64.wrap 0=0:=(by simpa using hw);cases B<;>simp[Builtin.append_,run_underlying b3,run_underlying mw,sizeOf,typeInfo,ad,ys,asInt,asIntOf,EN,storeCells]
 ·have EO : ¬m=0:=by omega
  have yt : ¬(9223372036854775807<(m:Int)):=(by omega);have si:=Ep _ wB;have yu : ¬(281474976710656<Builtin.nextslicecap m 0*i.bytes):=(by rw[nextslicecap_zero aZ];omega);have J:=Bq w.drew;by_cases hm:m*i.size=0
  ·simp[Builtin.append_,run_underlying b3,run_underlying mw,sizeOf,typeInfo,zeroValue,ad,bY,asInt,asIntOf,hw,o7,si,EO,yt,yu,Question.forced,run_firstCells_none,newRow,grownCap,hm,pQ _ hm]
  simp[Builtin.append_,run_underlying b3,run_underlying mw,sizeOf,typeInfo,zeroValue,ad,bY,asInt,asIntOf,hw,o7,si,EO,yt,yu,Question.forced,run_firstCells_none,newRow,grownCap,hm]
 ·have si:=Ep _ wB
  have jR:=run_storeCells_at P g (hb*i.size) dp (Builtin.zeroCells c6.cells m).toList 0 kc w cZ (by simpa using gQ) o;simp only[Nat.add_zero] at jR;by_cases hm:m*i.size=0
  ·rw[pQ _ hm] at jR;have TG:(storeCells ⟨g,hb*i.size,none⟩ []).run P w = .ok () (w.setRow g kc):=(by simpa using jR);simp[Builtin.append_,run_underlying b3,run_underlying mw,sizeOf,typeInfo,zeroValue,ad,bY,asInt,asIntOf,hw,o7,si,q8,hm,pQ _ hm,Addr.add_lit,TG]
  simp[Builtin.append_,run_underlying b3,run_underlying mw,sizeOf,typeInfo,zeroValue,ad,bY,asInt,asIntOf,hw,o7,si,q8,hm,Addr.add_lit,jR]
 have si:=Ep _ wB;have LA : ¬(hb+m<=kr):=by omega
 have yt : ¬(9223372036854775807<((hb:Int)+(m:Int))):=by omega
 have yu : ¬(281474976710656<Builtin.nextslicecap (hb+m) kr*i.bytes):=by omega
 have LB:=run_firstCells_some (P:=P) w.drew i.size hb b hb kr tJ ae (by simpa using hold);by_cases hm:m*i.size=0
 ·simp[Builtin.append_,run_underlying b3,run_underlying mw,sizeOf,typeInfo,zeroValue,ad,bY,asInt,asIntOf,hw,o7,si,LA,yt,yu,Question.forced,LB,newRow,grownCap,hm,pQ _ hm]
 simp[Builtin.append_,run_underlying b3,run_underlying mw,sizeOf,typeInfo,zeroValue,ad,bY,asInt,asIntOf,hw,o7,si,LA,yt,yu,Question.forced,LB,newRow,grownCap,hm]
theorem CQ {aA:Nat}{e:TypeId}{v:Value}{i:TypeInfo}{m:Nat}(h:b7 g s ai a w)(dU:s.au aA=none){es:List (List aj)}(hlen:∀x∈es,x.length=i.size)(hm:m=es.length)
 {ms:List Value} {rG:Array Value} {cap:Nat} (ot:ms.length=es.length*i.size) (kp : ∀u∈ms,u.oneCell'=true) (Uv:rG.size=(cap-m)*i.size) (ys:m<=cap) (TH:cap<9223372036854775808)
 (dY : ∀(j:Nat) x u,es.flatten[j]? = some x->ms[j]? = some u->Rel w (s.ok g ai w) s.aH (s.aP ai) x u)
 (aT:v = .slice (some ⟨w.heap.size,0,none⟩) m cap) :
 ∃bf,b7 g (s.setRow aA [⟨i.size,es,.live⟩]) bf a (w.drew.alloc (.cells (ms.toArray++rG) e)) /\
  Rel (w.drew.alloc (.cells (ms.toArray++rG) e)) ((s.setRow aA [⟨i.size,es,.live⟩]).ok g bf (w.drew.alloc (.cells (ms.toArray++rG) e))) (s.setRow aA [⟨i.size,es,.live⟩]).aH ((s.setRow aA [⟨i.size,es,.live⟩]).aP bf) (.bz aA 0 0 m) v:=by
 have bk:=h.drew
 have h5:es.flatten.length=es.length*i.size:=by
  have : ∀(es:List (List aj)),(∀e∈es,e.length=i.size)->es.flatten.length=es.length*i.size:=by
   intro es
   induction es with
   | nil=>intro _;simp
   | cons e es ih =>
    intro eP;rw[dS,dE,ih fun x U=>eP x (by simp[U]),eP e (by simp),dM,Nat.add_mul];omega
  exact this es hlen
 obtain⟨bf,gk,ht,-⟩:=bk.alloc dU ⟨i.size,es,.live⟩ rfl (ms.toArray++rG) e hlen (fun j x U=>by
  have ao:j<ms.length:=by
   rcases Nat.lt_or_ge j es.flatten.length with bR|bR
   ·omega
   rw[dP bR] at U;simp at U
  refine⟨ms[j],?_,kp _ (List.getElem_mem ao),?_⟩
  ·rw[Array.getElem?_append_left (by simpa using ao)];simp[ao]
  exact(dY j x _ U (dw ao)).drew)
 refine⟨bf,ht,?_⟩;subst aT;have ae:(s.setRow aA [⟨i.size,es,.live⟩]).ab aA 0=some ⟨i.size,es,.live⟩:=by rw[j0,dy rfl,kL];simp
 refine Rel.bz (sz:=i.size) (cY:=w.heap.size) (m:=(ms.toArray++rG).size) ((lO _ _ _ _ _).2 (by simp)) ?_ ys TH ⟨?_,.inr (by simp)⟩
 ·rw[gu ae,gk];rfl
 simp only[Array.size_append,List.size_toArray,Uv,ot,dG];rw[<- hm,<- Nat.add_mul];congr 1;omega
section
variable {I:Oper} {b9:d5} {aA:Nat} {a1:fI}
theorem IL (h:b7 g s ai a w){t cx c9 e:TypeId}{i:TypeInfo}{z:List aj}(hu:P.underlying t=some (.slice e))(ad:P.info? e=some i)(bY:n6 P e=some z)(kt:z.length=i.size)(iz:i.size≠0)
 {y:aj} {et:d5} {a3:List (List aj)} {ab:List Prop} (he:tm P i.size z s.au et t cx y=some (a3,ab)) (aW : ∀p∈ab,p) {l7:Value} (aK:Rel w (s.ok g ai w) s.aH (s.aP ai) y l7) :
 ∃c6 vs,i.zero=some c6/\c6.cells.size=i.size/\Eo P w t cx c9 e i c6 l7 a3.length vs/\(∀x∈a3,x.length=i.size)/\vs.length=a3.length*i.size/\(∀u∈vs,u.oneCell'=true) /\
  ∀(j:Nat) x u,a3.flatten[j]? = some x->vs[j]? = some u->Rel w (s.ok g ai w) s.aH (s.aP ai) x u:=by
 obtain⟨d7,c6,hE,iN,pn,qB⟩:=vB bY;rw[ad] at hE;simp at hE;subst hE;have jE:c6.cells.size=i.size:=by rw[<- kt,pn];simp
 unfold tm at he;split at he
 ·rename_i Uw
  subst Uw;obtain⟨A,c,rfl,hlen,EP⟩:=Jg h he aW aK;rcases EP with h0|⟨cY,off,rfl,gU⟩
  ·have:a3=[]:=dJ.1 h0;subst this;exact⟨c6,[],iN,jE,Im hu ad iN (by simp) (.inl rfl) (by simp),hlen,by simp,by simp,by simp⟩
  obtain⟨vs,v1,v2,v3,v4⟩:=gU.ms;exact⟨c6,vs,iN,jE,Im hu ad iN v1 (.inr ⟨_,rfl,v2⟩) v3,hlen,v1,v3,v4⟩
 split at he;rotate_left
 ·simp at he
 rename_i k n aL;simp only[dx,dC] at he;obtain⟨rfl,rfl⟩:=he;have h0:0<=n:=aW _ (by simp);have tS:n<9223372036854775808:=aW _ (by simp);obtain⟨m,rfl⟩:=Int.eq_ofNat_of_zero_le h0;have Ux:l7 = .int .i64 m:=by cases aK;rfl
 subst Ux;have ku : ∀(j:Nat) u,(Builtin.zeroCells c6.cells m).toList[j]? = some u->c6.cells[j % i.size]? = some u:=by intro j u mx;have ao:=(Y4.1 mx).1;rw[Array.length_toList,size_zeroCells,jE] at ao;have c0:j % i.size<c6.cells.size:=(by rw[jE];exact Nat.mod_lt _ (by omega));rw[Array.getElem?_toList,Builtin.zeroCells,Array.getElem?_map,jE,Array.getElem?_range] at mx;rw[dy ao] at mx;simp only[dN,dx] at mx;rw[<- mx,dO c0,getElem!_pos c6.cells _ c0]
 refine⟨c6,(Builtin.zeroCells c6.cells m).toList,iN,jE,?_,?_,?_,?_,?_⟩
 ·simp only[List.length_replicate,dA];refine PQ hu aL ad iN jE (by omega) fun u pS=> ?_;obtain⟨j,ao⟩:=Y2 pS;have o:=ku j u ao;have c0:j % i.size<z.length:=(by rw[kt];exact Nat.mod_lt _ (by omega));obtain⟨v,v1,v2,-⟩:=qB _ _ (dw c0);rw[o] at v1;obtain rfl:=dH v1;exact v2
 ·intro x U;rw[List.mem_replicate] at U;rw[U.2,kt]
 ·rw[Array.length_toList,size_zeroCells,jE];simp
 ·intro u pS;obtain⟨j,ao⟩:=Y2 pS;have o:=ku j u ao;have c0:j % i.size<z.length:=(by rw[kt];exact Nat.mod_lt _ (by omega));obtain⟨v,v1,v2,-⟩:=qB _ _ (dw c0);rw[o] at v1;obtain rfl:=dH v1;exact v2
 intro j x u U mx;rw[nD (sz:=i.size) (by omega) _ (fun dp ks=>by rw[List.mem_replicate] at ks;rw[ks.2,kt])] at U;have o:=ku j u mx
 cases aU:(List.replicate (Int.toNat (m:Int)) z)[j / i.size]? with
 | none=>rw[aU] at U;simp at U
 | some dp =>
  have:=dD aU;rw[List.mem_replicate] at this;rw[aU,this.2] at U;simp only[dB] at U;obtain⟨v,v1,-,v3⟩:=qB _ _ U;rw[o] at v1;obtain rfl:=dH v1;exact v3 _ _ _ _
theorem PR (h:b7 g s ai a w)(dU:s.au aA=none){x y:aj}{nY l7:Value}{t cx:TypeId}{m:Nat}{F0:Option az}{c9:TypeId}(ag:pR P s.E s.au aA .append [x,y] [t,cx] (.ba m F0)=some a1)(bM:∀p∈a1.ea,p)
 (U:Rel w (s.ok g ai w) s.aH (s.aP ai) x nY) (aK:Rel w (s.ok g ai w) s.aH (s.aP ai) y l7) :
 ∃v bc bf,(Builtin.append_ #[t,cx] c9 #[nY,l7]).run P w = .ok v bc/\b7 g (s.gD a1.eH) bf a bc/\Rel bc ((s.gD a1.eH).ok g bf bc) (s.gD a1.eH).aH ((s.gD a1.eH).aP bf) a1.val v:=by
 simp only[pR] at ag;split at ag
 ·simp at ag
 rename_i e he;have hu:=pA he;split at ag;rotate_left
 ·simp at ag
 rename_i i z ad bY;split at ag
 ·simp at ag
 rename_i aJ;simp only[not_or,Decidable.not_not] at aJ;obtain⟨kt,iz,wv⟩:=aJ;split at ag
 ·simp at ag
 rename_i a3 bT pM;have Br:=fun af=>IL (c9:=c9) h hu ad bY kt iz pM af aK;by_cases Sy:True
 ·
  split at ag
  ·
   simp only[dx] at ag;subst ag;have hm:m=a3.length:=bM _ (by simp);have yS:m*i.bytes<=140737488355328:=bM _ (by simp);obtain⟨c6,vs,iN,jE,hA,hlen,v1,v3,v4⟩:=Br (fun p af=>bM p (by simp[af]));clear Br;rw[U.n8];by_cases h0:a3.length=0
   ·have:a3=[]:=dJ.1 h0;subst this;obtain⟨bf,gk,ht⟩:=h.JM (sz:=i.size) dU;refine⟨_,w,bf,hA.zero h0 none 0 0 (dF _),ht,?_⟩;subst hm;have ae:(s.setRow aA [⟨i.size,[],.live⟩]).ab aA 0=some ⟨i.size,[],.live⟩:=(by rw[j0,dy rfl,kL];simp);exact .me (sz:=i.size) ((lO _ _ _ _ _).2 (by simp)) (by show (s.setRow aA [⟨i.size,[],.live⟩]).aP bf aA 0=_;rw[gu ae,gk])
   ··have wC:a3.length*1<=a3.length*i.bytes:=Nat.mul_le_mul_left _ (by omega)
     rw[hm] at yS;have hn:=hA.nil (by omega) (by omega) (by omega);have LC:=grownCap_ge w a3.length 0 e;have hle:=grownCap_le_maxLen w a3.length 0 e (by simp only[maxLen];omega);simp only[maxLen] at hle
     obtain⟨bf,aS,a9⟩:=CQ (e:=e) (i:=i) (m:=m) (ms:=vs) (rG:=Builtin.zeroCells c6.cells (grownCap w a3.length 0 e-a3.length)) (cap:=grownCap w a3.length 0 e) h dU hlen hm v1 v3
      (by rw[size_zeroCells,jE,hm]) (by omega) (by omega) v4 rfl
     refine⟨.slice (some ⟨w.heap.size,0,none⟩) m (grownCap w a3.length 0 e),_,bf,?_,aS,a9⟩;rw[hm];exact hn
  ·
   rename_i r k len;split at ag
   ·simp at ag
   rename_i row cu;split at ag
   ·simp at ag
   rename_i ab aW;split at ag;rotate_left
   ·simp at ag
   rename_i rn;obtain⟨lv,dv,cc⟩:=rn;simp only[dx] at ag;subst ag;have ae:s.ab r k=some ab:=(by unfold S.ab;rw[cu];exact aW);have gQ:len<=ab.es.length:=bM _ (by simp);have hm:m=len+a3.length:=bM _ (by simp);have yS:m*i.bytes<=140737488355328:=bM _ (by simp);have wC:m*1<=m*i.bytes:=Nat.mul_le_mul_left _ (Nat.one_le_iff_ne_zero.2 wv);obtain⟨c6,vs,iN,jE,hA,hlen,v1,v3,v4⟩:=Br (fun p af=>bM p (by simp[af]));clear Br;have X1:a3.length*i.bytes<=m*i.bytes:=Y5 _ (by omega);have dY:=h.obj r k ab ae;have EQ:(ab.es.take len).length=len:=(by simp;omega);have qt:(s.setRow aA [⟨i.size,ab.es.take len++a3,.live⟩]).au r=some row:=(by simp[S.setRow,Ne.symm cc,cu]);have ov : ∀bf:el,((s.setRow aA [⟨i.size,ab.es.take len++a3,.live⟩]).setRow r (row.set k {ab with bV:= .gone})).ab aA 0=some ⟨i.size,ab.es.take len++a3,.live⟩:=(by intro _;rw[j0,dz cc,j0,dy rfl,kL];simp);have yv:((s.setRow aA [⟨i.size,ab.es.take len++a3,.live⟩]).setRow r (row.set k {ab with bV:= .gone})).aH aA 0:=(by rw[lO,dz cc,lO,dy rfl];simp);show ∃v bc bf,_/\b7 g ((s.setRow aA [⟨i.size,ab.es.take len++a3,.live⟩]).setRow r (row.set k {ab with bV:= .gone})) bf a bc/\_;rcases U.qi (gu ae) with ⟨af,-,rfl,rfl⟩|⟨b,M,h7,iE,af,rfl,ou,qA,c3,kv⟩
   ·
    rw[af] at dY;simp only[hl] at dY;have gb:ab.es.take 0++a3=a3:=(by simp);by_cases h0:a3.length=0
    ·have:a3=[]:=dJ.1 h0;subst this;obtain⟨bf,gk,ht⟩:=h.JM (sz:=i.size) dU;have ow:(s.setRow aA [⟨i.size,[],.live⟩]).ab r k=some ab:=(by rw[j0,dz (Ne.symm cc)];exact ae);have Tc:(s.setRow aA [⟨i.size,[],.live⟩]).au r=some row:=(by simp[S.setRow,Ne.symm cc,cu]);obtain⟨pp,-⟩:=ht.gone Tc ow;have yw:ab.es.take 0++([]:List (List aj))=[]:=(by simp);rw[yw];rw[yw] at yv ov;refine⟨_,w,bf,hA.zero h0 none 0 0 (dF _),pp,?_⟩;subst hm;exact .me (sz:=i.size) yv ((gu (ov bf)).trans (by rw[gk]))
    ··have jd:m=a3.length:=by omega
      have hn:=hA.nil (by omega) (by omega) (by omega);have LC:=grownCap_ge w a3.length 0 e;have hle:=grownCap_le_maxLen w a3.length 0 e (by simp only[maxLen];omega);simp only[maxLen] at hle
      obtain⟨bf,aS,a9⟩:=CQ (e:=e) (i:=i) (m:=m) (ms:=vs) (rG:=Builtin.zeroCells c6.cells (grownCap w a3.length 0 e-a3.length)) (cap:=grownCap w a3.length 0 e) h dU hlen jd v1 v3
       (by rw[size_zeroCells,jE,jd]) (by omega) (by omega) v4 rfl
      rw[gb];rw[gb] at qt;have ow:(s.setRow aA [⟨i.size,a3,.live⟩]).ab r k=some ab:=(by rw[j0,dz (Ne.symm cc)];exact ae);obtain⟨pp,zw⟩:=aS.gone qt ow;refine⟨.slice (some ⟨w.heap.size,0,none⟩) m (grownCap w a3.length 0 e),_,bf,?_,pp,zw _ _ a9⟩;rw[jd];exact hn
   ·
    rw[af] at dY;have Td:=dY;obtain⟨bO,kb,g1,g2,g3,g4⟩:=dY
    have yx : ∀e∈ab.es.take len++a3,e.length=i.size:=by
     intro dp ks;rw[List.mem_append] at ks;rcases ks with bR|bR
     ·rw[g3 dp (List.mem_of_mem_take bR),dv]
     exact hlen dp bR
    have h5 : ∀(es:List (List aj)),(∀e∈es,e.length=i.size)->es.flatten.length=es.length*i.size:=by
     intro es
     induction es with
     | nil=>intro _;simp
     | cons e es ih =>
      intro eP;rw[dS,dE,ih fun x U=>eP x (by simp[U]),eP e (by simp),dM,Nat.add_mul];omega
    by_cases h0:a3.length=0
    ·
     have:a3=[]:=dJ.1 h0;subst this;have yw:ab.es.take len++([]:List (List aj))=ab.es.take len:=(by simp);rw[yw];rw[yw] at yv ov yx
     obtain⟨bf,gk,ht⟩:=h.turn cu ae lv af dU ⟨i.size,ab.es.take len,.live⟩ rfl bO kb g1 rfl (fun _ _=>rfl) rfl rfl rfl g2 yx (fun j q aU=>by
      refine g4 j q ?_
      have ao:j<(ab.es.take len).flatten.length:=by
       rcases Nat.lt_or_ge j (ab.es.take len).flatten.length with bR|bR
       ·exact bR
       rw[dP bR] at aU;simp at aU
      have LD:ab.es.flatten=(ab.es.take len).flatten++(ab.es.drop len).flatten:=(by rw[<- List.flatten_append,List.take_append_drop]);rw[LD,Y1 ao];exact aU)
     refine⟨_,w,bf,hA.zero h0 h7 len iE ou,ht,?_⟩;have jd:m=len:=(by simpa using hm);subst jd;refine .bz (sz:=i.size) (cY:=b) (m:=M) yv ((gu (ov bf)).trans (by rw[gk])) ou qA ?_;rw[<- dv];exact⟨c3,kv⟩
    ··
      have hold : ∃xs:List Value,xs.length=len*i.size/\(∀(j:Nat) u,xs[j]? = some u->w.cell? ((⟨b,0,none⟩:Addr).add j)=some u)/\(∀u∈xs,u.oneCell'=true) /\
       ∀(j:Nat) x u,(ab.es.take len).flatten[j]? = some x->xs[j]? = some u->Rel w (s.ok g ai w) s.aH (s.aP ai) x u:=by
       have Lh:=z8 Td.rd 0 len (by omega);simp only[List.drop_zero,Nat.zero_mul,Nat.add_zero] at Lh;obtain⟨xs,fr,eu,aY,fz⟩:=Lh.ms;exact⟨xs,by rw[fr,EQ,dv],eu,aY,fz⟩
      obtain⟨xs,fr,eu,aY,fz⟩:=hold;have Uy:xs.length=(ab.es.take len).length*i.size:=by rw[EQ];exact fr
      have JN : ∀(j:Nat) x u,(ab.es.take len++a3).flatten[j]? = some x->(xs++vs)[j]? = some u->Rel w (s.ok g ai w) s.aH (s.aP ai) x u :=
       fun j x u yT mx=>OS Uy (fun dp ks=>by rw[g3 dp (List.mem_of_mem_take ks),dv]) yT fz v4 mx
      have yy:(ab.es.take len++a3).length=m:=(by rw[dE,EQ];exact hm.symm);by_cases q8:len+a3.length<=iE
      ·
       rcases kv with rfl|rfl
       ·omega
       rw[Nat.zero_mul] at *;rw[dG] at c3;have Sz:len*i.size+vs.length<=bO.size:=(by rw[v1,g2,<- c3,dv,<- Nat.add_mul];exact Y5 _ q8);have hn:=hA.room (by omega) b len iE bO kb g1 q8 Sz (by omega);have TI:(w.setRow b (bO.toList.take (len*i.size)++vs++bO.toList.drop (len*i.size+vs.length)).toArray).heap.size=w.heap.size:=size_setRow _ _ _
       have LF:xs=bO.toList.take (len*i.size):=by
        apply Zb;intro j;rw[dR];by_cases ao:j<len*i.size
        ·rw[dy ao];have so:j<xs.length:=(by omega);have:=eu j _ (dw so);rw[pz,cell_of_row w b (0+j) bO kb (0,0) g1,dG] at this;rw[dw so,<- this,Array.getElem?_toList]
        rw[dz ao,dP (by omega)]
       obtain⟨bf,gk,ht⟩:=h.turn cu ae lv af dU ⟨i.size,ab.es.take len++a3,.live⟩ rfl _ kb (setRow_heap w b bO _ kb _ g1) TI (fun q aU=>setRow_other w b q _ aU) rfl rfl rfl
        (by rw[<- g2];simp;omega) yx (fun j q aU=>by
          have ao:j<(xs++vs).length:=by
           have:j<(ab.es.take len++a3).flatten.length:=by
            rcases Nat.lt_or_ge j (ab.es.take len++a3).flatten.length with bR|bR
            ·exact bR
            rw[dP bR] at aU;simp at aU
           rw[h5 _ yx,yy] at this;rw[dE,fr,v1,<- Nat.add_mul,<- hm];exact this
          refine⟨(xs++vs)[j],?_,?_,JN j q _ aU (dw ao)⟩
          ·rw[List.getElem?_toArray,Y1 (by rw[<- LF];exact ao),<- LF];exact dw ao
          have:=List.getElem_mem ao;rw[List.mem_append] at this;rcases this with bR|bR
          ·exact aY _ bR
          exact v3 _ bR)
       refine⟨_,_,bf,hn,ht,?_⟩;rw[<- hm];refine .bz (sz:=i.size) (cY:=b) (m:=M) yv ((gu (ov bf)).trans (by rw[gk])) (by omega) qA ⟨?_,.inr (by simp)⟩;rw[dG,<- dv];exact c3
      ·
       have hA : ∃um:Addr,(h7=some um/\ ∀(j:Nat) u,xs[j]? = some u->w.cell? (um.add j)=some u)\/(h7=none/\len=0/\iE=0):=by
        cases h7 with
        | none =>
         refine⟨⟨0,0,none⟩,.inr ⟨rfl,?_⟩⟩;rcases kv with bR|bR
         ·omega
         simp at bR
        | some um =>
         refine⟨um,.inl ⟨rfl,?_⟩⟩;rcases kv with bR|bR
         ·have:len=0:=(by omega);have:xs=[]:=dJ.1 (by rw[fr,this];simp);intro j u ao;rw[this] at ao;simp at ao
         simp at bR;subst bR;exact eu
       have LC:=grownCap_ge w (len+a3.length) iE e;have hle:=grownCap_le_maxLen w (len+a3.length) iE e (by simp only[maxLen];omega);simp only[maxLen] at hle
       have hn:(Builtin.append_ #[t,cx] c9 #[.slice h7 len iE,l7]).run P w = .ok (.slice (some ⟨w.heap.size,0,none⟩) (len+a3.length) (grownCap w (len+a3.length) iE e))
        (w.drew.alloc (.cells ((xs++vs).toArray++Builtin.zeroCells c6.cells (grownCap w (len+a3.length) iE e-(len+a3.length))) e)):=by
        have TJ:(xs++vs).toArray=xs.toArray++vs.toArray:=(by apply Array.ext';simp);rw[TJ];obtain⟨um,⟨rfl,Uz⟩|⟨rfl,lZ,lq⟩⟩:=hA
        ·exact hA.grow (by omega) um len iE xs fr Uz (by omega) (by omega) (growslice_fits (by omega) (by rw[<- hm];exact yS)) (by omega)
        subst lZ;subst lq;have UA:xs=[]:=dJ.1 (by rw[fr];simp);subst UA;have:=hA.nil (by omega) (by omega) (by omega);simpa using this
       obtain⟨bf,aS,a9⟩:=CQ (e:=e) (i:=i) (m:=m) (ms:=xs++vs) (rG:=Builtin.zeroCells c6.cells (grownCap w (len+a3.length) iE e-(len+a3.length))) (cap:=grownCap w (len+a3.length) iE e) h dU yx yy.symm
        (by rw[dE,fr,v1,yy,hm,Nat.add_mul]) (fun u hu=>by
          rw[List.mem_append] at hu;rcases hu with bR|bR
          ·exact aY _ bR
          exact v3 _ bR) (by rw[size_zeroCells,jE,hm]) (by omega) (by omega) JN rfl
       have ow:(s.setRow aA [⟨i.size,ab.es.take len++a3,.live⟩]).ab r k=some ab:=(by rw[j0,dz (Ne.symm cc)];exact ae);obtain⟨pp,zw⟩:=aS.gone qt ow;refine⟨.slice (some ⟨w.heap.size,0,none⟩) m (grownCap w (len+a3.length) iE e),_,bf,?_,pp,zw _ _ a9⟩;rw[hm];exact hn
  simp at ag
 exact absurd trivial Sy
end
end
section
variable {P:Program} {g:G} {s:S} {ai:el} {a:Act} {w:World}
theorem b7.putAt (h:b7 g s ai a w){r k p b M:Nat}{row:List az}{ab:az}(ah:s.au r=some row)(ae:s.ab r k=some ab)(aL:ab.bV = .live)(jG:ai r k=some (b,M)){a3 fa:List (List aj)}{vs:List Value}
 (hlen : ∀x∈a3,x.length=ab.sz) (v1:vs.length=a3.length*ab.sz) (v3 : ∀u∈vs,u.oneCell'=true) (v4 : ∀(j:Nat) x u,a3.flatten[j]? = some x->vs[j]? = some u->Rel w (s.ok g ai w) s.aH (s.aP ai) x u)
 (af:p+a3.length<=ab.es.length) (q:Nat) (gb:fa=(ab.es.take p++a3++ab.es.drop (p+a3.length)).take q) :
 ∃bO kb,w.heap[b]? = some (.cells bO kb (0,0))/\bO.size=M/\ab.es.length*ab.sz<=M/\p*ab.sz+vs.length<=bO.size /\
  b7 g (s.setRow r (row.set k {ab with es:=fa})) ai a (w.setRow b (bO.toList.take (p*ab.sz)++vs++bO.toList.drop (p*ab.sz+vs.length)).toArray) /\
  ∀x v,Rel w (s.ok g ai w) s.aH (s.aP ai) x v->Rel (w.setRow b (bO.toList.take (p*ab.sz)++vs++bO.toList.drop (p*ab.sz+vs.length)).toArray) ((s.setRow r (row.set k {ab with es:=fa})).ok g ai (w.setRow b (bO.toList.take (p*ab.sz)++vs++bO.toList.drop (p*ab.sz+vs.length)).toArray)) (s.setRow r (row.set k {ab with es:=fa})).aH ((s.setRow r (row.set k {ab with es:=fa})).aP ai) x v:=by
 have dY:=h.obj r k ab ae;rw[jG] at dY;obtain⟨bO,kb,g1,g2,g3,g4⟩:=dY;have h5:=vM g3
 have c3:ab.es.length*ab.sz<=M:=by
  rcases Nat.eq_zero_or_pos ab.es.flatten.length with h0|iz
  ·omega
  obtain⟨v,ap,-⟩:=g4 (ab.es.flatten.length-1) _ (dw (by omega));have:=(Y3.1 ap).1;omega
 have hmul:p*ab.sz+a3.length*ab.sz<=ab.es.length*ab.sz:=by rw[<- Nat.add_mul];exact Y5 _ af
 have gQ:p*ab.sz+vs.length<=bO.size:=by omega
 refine⟨bO,kb,g1,g2,c3,gQ,?_⟩
 have TK : ∀e∈ab.es.take p++a3++ab.es.drop (p+a3.length),e.length=ab.sz:=by
  intro e he;simp only[List.mem_append] at he;rcases he with (he|he)|he
  ·exact g3 e (List.mem_of_mem_take he)
  ·exact hlen e he
  exact g3 e (List.mem_of_mem_drop he)
 have hA:(ab.es.take p).flatten.length=p*ab.sz:=by rw[vM fun e he=>g3 e (List.mem_of_mem_take he),List.length_take];congr 1;omega
 have gN:(ab.es.take (p+a3.length)).flatten.length=p*ab.sz+a3.length*ab.sz:=by rw[vM fun e he=>g3 e (List.mem_of_mem_take he),List.length_take,<- Nat.add_mul];congr 1;omega
 have V4:a3.flatten.length=a3.length*ab.sz:=vM hlen
 have o : ∀j,j<p*ab.sz->(ab.es.take p).flatten[j]? = ab.es.flatten[j]? := fun j ao=>by
  conv=>rhs;rw[<- List.take_append_drop p ab.es,List.flatten_append,Y1 (by omega)]
 have J : ∀j,(ab.es.drop (p+a3.length)).flatten[j]? = ab.es.flatten[p*ab.sz+a3.length*ab.sz+j]? := fun j=>by
  conv=>rhs;rw[<- List.take_append_drop (p+a3.length) ab.es,List.flatten_append,Y6 (by omega),gN]
  congr 1;omega
 refine h.write ah ae aL jG fa _ kb (setRow_heap w b bO _ kb _ g1) (size_setRow _ _ _) (fun q aU=>setRow_other w b q _ aU) rfl rfl rfl (by rw[<- g2];simp;omega) ?_ ?_
 ·intro e he;rw[gb] at he;exact TK e (List.mem_of_mem_take he)
 intro j x U
 have cL:(ab.es.take p++a3++ab.es.drop (p+a3.length)).flatten[j]? = some x:=by
  rw[gb] at U;have ao:=(Y4.1 U).1
  conv=>lhs;rw[<- List.take_append_drop q (ab.es.take p++a3++ab.es.drop (p+a3.length)),List.flatten_append,Y1 ao]
  exact U
 rw[List.flatten_append,List.flatten_append] at cL;simp only[List.getElem?_toArray];have ho:(bO.toList.take (p*ab.sz)).length=p*ab.sz:=by rw[List.length_take,Array.length_toList];omega
 by_cases bG:j<p*ab.sz
 ·rw[List.append_assoc,Y1 (by omega),o j bG] at cL;obtain⟨v,ap,av,bS⟩:=g4 j x cL;refine⟨v,?_,av,bS⟩;rw[List.append_assoc,Y1 (by omega),dR,dy bG,Array.getElem?_toList];exact ap
 by_cases cq:j<p*ab.sz+vs.length
 ·rw[List.append_assoc,Y6 (by omega),hA,Y1 (by omega)] at cL;have aT:j-p*ab.sz<vs.length:=(by omega);refine⟨vs[j-p*ab.sz],?_,v3 _ (List.getElem_mem aT),v4 _ _ _ cL (dw aT)⟩;rw[List.append_assoc,Y6 (by omega),ho,Y1 (by omega)];exact dw aT
 rw[Y6 (by rw[dE];omega),dE,hA,V4,J] at cL;rw[show p*ab.sz+a3.length*ab.sz+(j-(p*ab.sz+a3.length*ab.sz))=j by omega] at cL;obtain⟨v,ap,av,bS⟩:=g4 j x cL;refine⟨v,?_,av,bS⟩;rw[Y6 (by rw[dE];omega),dE,ho,Y7,Array.getElem?_toList];rw[show p*ab.sz+vs.length+(j-(p*ab.sz+vs.length))=j by omega];exact ap
end
section
variable {P:Program} {g:G} {s:S} {ai:el} {a:Act} {w:World} {aA:Nat} {a1:fI}
theorem JO (h:b7 g s ai a w){rF:Bool}{x y:aj}{nY l7:Value}{t cx c9:TypeId}(ag:ri rF P s.au x y t cx=some a1)(bM:∀p∈a1.ea,p)
 (U:Rel w (s.ok g ai w) s.aH (s.aP ai) x nY) (aK:Rel w (s.ok g ai w) s.aH (s.aP ai) y l7) :
 ∃v bc,(Builtin.append_ #[t,cx] c9 #[nY,l7]).run P w = .ok v bc/\b7 g (s.gD a1.eH) ai a bc/\Rel bc ((s.gD a1.eH).ok g ai bc) (s.gD a1.eH).aH ((s.gD a1.eH).aP ai) a1.val v:=by
 unfold ri at ag;split at ag
 ·simp at ag
 rename_i e he;have hu:=pA he;split at ag;rotate_left
 ·simp at ag
 rename_i i z ad bY;split at ag
 ·simp at ag
 rename_i aJ;simp only[not_or,Decidable.not_not] at aJ;obtain⟨kt,iz,wv⟩:=aJ;split at ag
 ·simp at ag
 rename_i a3 bT pM;split at ag;rotate_left
 ·simp at ag
 rename_i r k len;split at ag
 ·simp at ag
 rename_i row cu;split at ag
 ·simp at ag
 rename_i ab aW;split at ag;rotate_left
 ·simp at ag
 rename_i rn;obtain⟨lv,dv⟩:=rn;simp only[dx] at ag;subst ag;have ae:s.ab r k=some ab:=by unfold S.ab;rw[cu];exact aW
 have gQ:len+a3.length<=ab.es.length:=bM _ (by simp);have yS:a3.length*i.bytes<=140737488355328:=bM _ (by simp);obtain⟨c6,vs,iN,jE,hA,hlen,v1,v3,v4⟩:=IL (c9:=c9) h hu ad bY kt iz pM (fun p af=>bM p (by simp[af])) aK;rw[<- dv] at v1;have KQ : ∀x∈a3,x.length=ab.sz:=fun x U=>by rw[hlen x U,dv]
 obtain⟨E,Bs⟩ : ∃E,E=(bif rF then ab.es.take len++a3++ab.es.drop (len+a3.length) else ab.es.take len++a3):=⟨_,rfl⟩
 obtain⟨q,gb⟩ : ∃q,E=(ab.es.take len++a3++ab.es.drop (len+a3.length)).take q:=by
  cases rF with
  | true=>exact⟨(ab.es.take len++a3++ab.es.drop (len+a3.length)).length,by rw[Y0 (dF _)];exact Bs⟩
  | false =>
   refine⟨len+a3.length,Bs.trans ?_⟩;show ab.es.take len++a3=_;exact(List.take_left' (by rw[dE,List.length_take];omega)).symm
 rw[<- Bs];rcases U.qi (gu ae) with ⟨af,-,rfl,rfl⟩|⟨b,M,h7,iE,af,rfl,ou,qA,c3,kv⟩
 ·have dY:=h.obj r k ab ae
  rw[af] at dY;simp only[hl] at dY;rw[dY] at gQ;have h0:a3.length=0:=(by simp at gQ;exact dJ.2 gQ);have tT:a3=[]:=dJ.1 h0;subst tT;have UB:E=[]:=(by rw[Bs,dY];cases rF<;>rfl);rw[UB]
  have jO:row.set k {ab with es:=[]}=row:=by
   have o:({ab with es:=[]}:az)=ab:=(by cases ab;simp only[] at dY;subst dY;rfl);rw[o]
   have J:row[k]? = some ab:=by
    unfold cB at aW;simp only at aW;split at aW
    ·rename_i bD cS
     split at aW
     ·simp at aW
     simp at aW;rw[<- aW];exact cS
    simp at aW
   exact Zb fun j=>by
    rw[YZ];split
    ·rename_i e;subst e;have:=(Y4.1 J).1;rw[dy this,J]
    rfl
  refine⟨_,w,hA.zero h0 none 0 0 (dF _),?_⟩
  have c7:s.setRow r row=s:=by
   have:(fun q=>if q=r then some row else s.au q)=s.au:=by
    funext q;split
    ·rename_i e;rw[e,cu]
    rfl
   show ({s with au:=_}:S)=s;rw[this]
  show b7 g (s.setRow r (row.set k {ab with es:=[]})) ai a w/\Rel w ((s.setRow r (row.set k {ab with es:=[]})).ok g ai w) (s.setRow r (row.set k {ab with es:=[]})).aH ((s.setRow r (row.set k {ab with es:=[]})).aP ai) (.bz r k 0 0) (.slice none 0 0);rw[jO,c7];exact⟨h,U⟩
 obtain⟨bO,kb,bG,cq,l8,pq,l9,rH⟩:=h.putAt cu ae lv af KQ v1 v3 v4 gQ q gb;have hle:ab.es.length<=iE:=by rw[dG] at c3;rw[<- c3] at l8;exact Nat.le_of_mul_le_mul_right l8 (by omega)
 by_cases lq:iE=0
 ·have h0:a3.length=0:=(by omega);have lZ:len=0:=(by omega);subst lZ;have tT:a3=[]:=dJ.1 h0;subst tT;have ER:vs=[]:=dJ.1 (by simpa using v1);subst ER;have hw:w.setRow b (bO.toList.take (0*ab.sz)++[]++bO.toList.drop (0*ab.sz+0)).toArray=w:=(by simp only[Nat.zero_mul,List.take_zero,List.nil_append,dG,List.drop_zero,Array.toArray_toList];exact setRow_self w b bO kb (0,0) bG);simp only[Za] at l9 rH;rw[hw] at l9 rH;exact⟨_,w,hA.zero h0 h7 0 iE (Nat.zero_le _),l9,rH _ _ U⟩
 have tU:h7=some ⟨b,0,none⟩:=by
  rcases kv with bR|bR
  ·exact absurd bR lq
  simpa using bR
 subst tU;by_cases h0:a3.length=0
 ·have tT:a3=[]:=dJ.1 h0;subst tT;have ER:vs=[]:=dJ.1 (by simpa using v1);subst ER;have hw:w.setRow b (bO.toList.take (len*ab.sz)++[]++bO.toList.drop (len*ab.sz+0)).toArray=w:=(by simp only[List.append_nil,Nat.add_zero,List.take_append_drop,Array.toArray_toList];exact setRow_self w b bO kb (0,0) bG);simp only[Za] at l9 rH;rw[hw] at l9 rH;exact⟨_,w,hA.zero h0 _ len iE ou,l9,rH _ _ U⟩
 have hn:=hA.room (by omega) b len iE bO kb bG (by omega) (by rw[<- dv];exact pq) yS;rw[<- dv] at hn;refine⟨_,_,hn,l9,?_⟩;have yq:(s.setRow r (row.set k {ab with es:=E})).ab r k=some {ab with es:=E}:=by rw[j0,dy rfl,Jd row k ab _ aW (by simp[lv]),dy rfl]
 show Rel _ ((s.setRow r (row.set k {ab with es:=E})).ok g ai _) (s.setRow r (row.set k {ab with es:=E})).aH ((s.setRow r (row.set k {ab with es:=E})).aP ai) (.bz r k 0 (len+a3.length)) _;refine .bz (sz:=ab.sz) (cY:=b) (m:=M) (Ar yq) ((gu yq).trans (by rw[af])) (by omega) qA ⟨c3,.inr (by simp)⟩
end
section
variable {P:Program} {g:G} {s:S} {ai:el} {a:Act} {w:World} {aA:Nat} {a1:fI}
theorem C2 {s:S}{r k:Nat}{row:List az}{ab:az}(ah:s.au r=some row)(ae:cB (some row) k=some ab):s.setRow r (row.set k ab)=s:=by
 have J:row[k]? = some ab:=by
  unfold cB at ae;simp only at ae;split at ae
  ·rename_i bD cS
   split at ae
   ·simp at ae
   simp at ae;rw[<- ae];exact cS
  simp at ae
 have an:row.set k ab=row:=Zb fun j=>by
  rw[YZ];split
  ·rename_i e;subst e;have:=(Y4.1 J).1;rw[dy this,J]
  rfl
 rw[an]
 have:(fun q=>if q=r then some row else s.au q)=s.au:=by
  funext q;split
  ·rename_i e;rw[e,ah]
  rfl
 show ({s with au:=_}:S)=s;rw[this]
theorem Io {e:TypeId}{i:TypeInfo}{z:List aj}{c6:Value}(jE:c6.cells.size=i.size)(kt:z.length=i.size)(iz:i.size≠0)
 (qB : ∀(j:Nat) x,z[j]? = some x-> ∃v,c6.cells[j]? = some v/\iJ v=true/\ ∀(w:World) (ok:Nat->Prop) (aH:hI) (aP:hs),Rel w ok aH aP x v) (m:Nat) :
 (Builtin.zeroCells c6.cells m).toList.length=m*i.size/\(∀u∈(Builtin.zeroCells c6.cells m).toList,u.oneCell'=true) /\
   ∀(j:Nat) x u,(List.replicate m z).flatten[j]? = some x->(Builtin.zeroCells c6.cells m).toList[j]? = some u-> ∀(w:World) (ok:Nat->Prop) (aH:hI) (aP:hs),Rel w ok aH aP x u:=by
 have ku : ∀(j:Nat) u,(Builtin.zeroCells c6.cells m).toList[j]? = some u->c6.cells[j % i.size]? = some u:=by intro j u mx;have ao:=(Y4.1 mx).1;rw[Array.length_toList,size_zeroCells,jE] at ao;have c0:j % i.size<c6.cells.size:=(by rw[jE];exact Nat.mod_lt _ (by omega));rw[Array.getElem?_toList,Builtin.zeroCells,Array.getElem?_map,jE,Array.getElem?_range] at mx;rw[dy ao] at mx;simp only[dN,dx] at mx;rw[<- mx,dO c0,getElem!_pos c6.cells _ c0]
 refine⟨?_,?_,?_⟩
 ·rw[Array.length_toList,size_zeroCells,jE]
 ·intro u pS;obtain⟨j,ao⟩:=Y2 pS;have o:=ku j u ao;have c0:j % i.size<z.length:=(by rw[kt];exact Nat.mod_lt _ (by omega));obtain⟨v,v1,v2,-⟩:=qB _ _ (dw c0);rw[o] at v1;obtain rfl:=dH v1;exact v2
 intro j x u U mx;rw[nD (sz:=i.size) (by omega) _ (fun dp ks=>by rw[List.mem_replicate] at ks;rw[ks.2,kt])] at U;have o:=ku j u mx
 cases aU:(List.replicate m z)[j / i.size]? with
 | none=>rw[aU] at U;simp at U
 | some dp =>
  have:=dD aU;rw[List.mem_replicate] at this;rw[aU,this.2] at U;simp only[dB] at U;obtain⟨v,v1,-,v3⟩:=qB _ _ U;rw[o] at v1;obtain rfl:=dH v1;exact v3
theorem Rc (h:b7 g s ai a w){r k len:Nat}{y:aj}{nY l7:Value}{t cx c9:TypeId}{b9:d5}(ag:pR P s.E s.au aA .copy [.bz r k 0 len,y] [t,cx] b9=some a1)(bM:∀p∈a1.ea,p)
 (U:Rel w (s.ok g ai w) s.aH (s.aP ai) (.bz r k 0 len) nY) (aK:Rel w (s.ok g ai w) s.aH (s.aP ai) y l7) :
 ∃n bc,(Builtin.copy_ #[t,cx] c9 #[nY,l7]).run P w = .ok (goInt n) bc/\b7 g (s.gD a1.eH) ai a bc/\a1.val = .n .i64 n:=by
 simp only[pR] at ag;split at ag
 ·simp at ag
 rename_i e he;have hu:=pA he;split at ag
 ·simp at ag
 rename_i i ad;split at ag
 ·simp at ag
 rename_i a3 bT pM;split at ag
 ·simp at ag
 rename_i row cu;split at ag
 ·simp at ag
 rename_i ab aW;split at ag;rotate_left
 ·simp at ag
 rename_i rn;obtain⟨lv,dv,iz⟩:=rn;simp only[dx] at ag;subst ag;have ae:s.ab r k=some ab:=by unfold S.ab;rw[cu];exact aW
 have gQ:a3.length<=len:=bM _ (by simp);have hle:len<=ab.es.length:=bM _ (by simp);obtain⟨A,c,rfl,hlen,EP⟩:=Jg h pM (fun p af=>bM p (by simp[af])) aK;show ∃n bc,_/\b7 g (s.setRow r (row.set k {ab with es:=a3++ab.es.drop a3.length})) ai a bc/\_;by_cases h0:a3.length=0
 ·have tT:a3=[]:=dJ.1 h0
  subst tT;refine⟨0,w,?_,?_,rfl⟩
  ·rcases U.qi (gu ae) with ⟨-,-,rfl,rfl⟩|⟨b,M,h7,iE,-,rfl,-,-,-,-⟩
   ·cases A<;>simp[Builtin.copy_,run_underlying hu,sizeOf,typeInfo,ad,Builtin.lenOf,Builtin.firstCells,loadCells,loadCellsFrom]
   cases A<;>cases h7<;>simp[Builtin.copy_,run_underlying hu,sizeOf,typeInfo,ad,Builtin.lenOf,Builtin.firstCells,loadCells,loadCellsFrom,storeCells]
  rw[show ({ab with es:=[]++ab.es.drop ([]:List (List aj)).length}:az)=ab from rfl,C2 cu aW];exact h
 obtain⟨cY,off,rfl,gU⟩:=EP.resolve_left h0;obtain⟨vs,v1,v2,v3,v4⟩:=gU.ms;rw[<- dv] at v1;rcases U.qi (gu ae) with ⟨-,-,rfl,-⟩|⟨b,M,h7,iE,af,rfl,ou,qA,c3,kv⟩
 ·exact absurd (Nat.le_zero.1 gQ) h0
 have tU:h7=some ⟨b,0,none⟩:=by
  rcases kv with bR|bR
  ·exact absurd (show a3.length=0 by omega) h0
  simpa using bR
 subst tU
 obtain⟨bO,kb,bG,cq,l8,pq,l9,-⟩:=h.putAt (p:=0) cu ae lv af (fun x U=>by rw[hlen x U,dv]) v1 v3 v4 (by omega) ab.es.length (fa:=a3++ab.es.drop a3.length)
  (by rw[List.take_zero,List.nil_append,dG];exact(Y0 (by simp;omega)).symm)
 simp only[Nat.zero_mul,dG,List.take_zero,List.nil_append] at pq l9;have aw:=run_firstCells_some (P:=P) w i.size a3.length ⟨cY,off,none⟩ a3.length c vs (by rw[v1,dv]) v2;have jR:=run_storeCells_at P b 0 kb vs 0 bO w bG (by simpa using pq) v3;simp only[Nat.add_zero,List.take_zero,List.nil_append,dG] at jR;refine⟨a3.length,_,?_,l9,rfl⟩;simp[Builtin.copy_,run_underlying hu,sizeOf,typeInfo,ad,Builtin.lenOf,Nat.min_eq_left gQ,aw,jR]
theorem Qq (h:b7 g s ai a w){r k len:Nat}{nY:Value}{t c9:TypeId}(ag:tH P s.au r k len t=some a1)(bM:∀p∈a1.ea,p)
 (U:Rel w (s.ok g ai w) s.aH (s.aP ai) (.bz r k 0 len) nY) :
 ∃bc,(Builtin.clear_ #[t] c9 #[nY]).run P w = .ok (.tuple #[]) bc/\b7 g (s.gD a1.eH) ai a bc/\a1.val = .dl []:=by
 unfold tH at ag;split at ag
 ·simp at ag
 rename_i e he;have hu:=pA he;split at ag;rotate_left
 ·simp at ag
 rename_i i z ad bY;split at ag
 ·simp at ag
 rename_i row cu;split at ag
 ·simp at ag
 rename_i ab aW;split at ag;rotate_left
 ·simp at ag
 rename_i rn;obtain⟨lv,dv,kt,iz⟩:=rn;simp only[dx] at ag;subst ag;have ae:s.ab r k=some ab:=by unfold S.ab;rw[cu];exact aW
 have hle:ab.es.length=len:=bM _ (by simp);show ∃bc,_/\b7 g (s.setRow r (row.set k {ab with es:=List.replicate len z})) ai a bc/\_;by_cases h0:len=0
 ·subst h0
  refine⟨w,?_,?_,rfl⟩
  ·rcases U.qi (gu ae) with ⟨-,-,-,rfl⟩|⟨b,M,h7,iE,-,rfl,-,-,-,-⟩
   ·simp[Builtin.clear_,run_underlying hu]
   cases h7<;>simp[Builtin.clear_,run_underlying hu]
  rw[show ({ab with es:=List.replicate 0 z}:az)=ab by rw[List.replicate_zero,<- dJ.1 hle],C2 cu aW];exact h
 obtain⟨d7,c6,hE,iN,pn,qB⟩:=vB bY;rw[ad] at hE;simp at hE;subst hE;have jE:c6.cells.size=i.size:=by rw[<- kt,pn];simp
 rcases U.qi (gu ae) with ⟨-,-,rfl,-⟩|⟨b,M,h7,iE,af,rfl,ou,qA,c3,kv⟩
 ·exact absurd rfl h0
 have tU:h7=some ⟨b,0,none⟩:=by
  rcases kv with bR|bR
  ·exact absurd (show len=0 by omega) h0
  simpa using bR
 subst tU;obtain⟨v1,v3,v4⟩:=Io (e:=e) jE kt iz qB len;rw[<- dv] at v1
 obtain⟨bO,kb,bG,cq,l8,pq,l9,-⟩:=h.putAt (p:=0) (a3:=List.replicate len z) cu ae lv af (fun x U=>by rw[List.mem_replicate] at U;rw[U.2,kt,dv]) (by simpa using v1) v3 (fun j x u o J=>v4 j x u o J _ _ _ _)
  (by simp;omega) len (fa:=List.replicate len z)
  (by simp[hle])
 simp only[Nat.zero_mul,dG,List.take_zero,List.nil_append] at pq l9;have jR:=run_storeCells_at P b 0 kb (Builtin.zeroCells c6.cells len).toList 0 bO w bG (by simpa using pq) v3;simp only[Nat.add_zero,List.take_zero,List.nil_append,dG] at jR;refine⟨_,?_,l9,rfl⟩
 cases len with
 | zero=>exact absurd rfl h0
 | succ n=>simp[Builtin.clear_,run_underlying hu,zeroValue,typeInfo,ad,iN,jR]
theorem PS (h:b7 g s ai a w){r k bb len:Nat}{nY:Value}{t c9:TypeId}(ag:tx P s.au r k bb len t=some a1)(bM:∀p∈a1.ea,p)
 (U:Rel w (s.ok g ai w) s.aH (s.aP ai) (.bz r k bb len) nY) :
 ∃bc,(Builtin.clear_ #[t] c9 #[nY]).run P w = .ok (.tuple #[]) bc/\b7 g (s.gD a1.eH) ai a bc/\a1.val = .dl []:=by
 unfold tx at ag;split at ag
 ·simp at ag
 rename_i e he;have hu:=pA he;split at ag;rotate_left
 ·simp at ag
 rename_i i z ad bY;split at ag
 ·simp at ag
 rename_i row cu;split at ag
 ·simp at ag
 rename_i ab aW;split at ag;rotate_left
 ·simp at ag
 rename_i rn;obtain⟨lv,dv,kt,iz⟩:=rn;simp only[dx] at ag;subst ag;have ae:s.ab r k=some ab:=by unfold S.ab;rw[cu];exact aW
 have hle:bb+len<=ab.es.length:=bM _ (by simp);show ∃bc,_/\b7 g (s.setRow r (row.set k {ab with es:=ab.es.take bb++List.replicate len z++ab.es.drop (bb+len)})) ai a bc/\_;by_cases h0:len=0
 ·subst h0
  refine⟨w,?_,?_,rfl⟩
  ·rcases U.qi (gu ae) with ⟨-,-,-,rfl⟩|⟨b,M,h7,iE,-,rfl,-,-,-,-⟩
   ·simp[Builtin.clear_,run_underlying hu]
   cases h7<;>simp[Builtin.clear_,run_underlying hu]
  rw[show ({ab with es:=ab.es.take bb++List.replicate 0 z++ab.es.drop (bb+0)}:az)=ab by rw[List.replicate_zero,List.append_nil,Nat.add_zero,List.take_append_drop],C2 cu aW];exact h
 obtain⟨d7,c6,hE,iN,pn,qB⟩:=vB bY;rw[ad] at hE;simp at hE;subst hE;have jE:c6.cells.size=i.size:=by rw[<- kt,pn];simp
 rcases U.qi (gu ae) with ⟨-,-,o,-⟩|⟨b,M,h7,iE,af,rfl,ou,qA,c3,kv⟩
 ·exact absurd o h0
 have tU:h7=some ⟨b,bb*ab.sz,none⟩:=by
  rcases kv with bR|bR
  ·exact absurd (show len=0 by omega) h0
  exact bR
 subst tU;obtain⟨v1,v3,v4⟩:=Io (e:=e) jE kt iz qB len;rw[<- dv] at v1
 obtain⟨bO,kb,bG,cq,l8,pq,l9,-⟩:=h.putAt (p:=bb) (a3:=List.replicate len z) cu ae lv af (fun x U=>by rw[List.mem_replicate] at U;rw[U.2,kt,dv]) (by simpa using v1) v3 (fun j x u o J=>v4 j x u o J _ _ _ _)
  (by simp;omega) (ab.es.take bb++List.replicate len z++ab.es.drop (bb+(List.replicate len z).length)).length (fa:=ab.es.take bb++List.replicate len z++ab.es.drop (bb+len))
  (by rw[Y0 (dF _),List.length_replicate])
 have jR:=run_storeCells_at P b (bb*ab.sz) kb (Builtin.zeroCells c6.cells len).toList 0 bO w bG (by simpa using pq) v3;simp only[Nat.add_zero] at jR;refine⟨_,?_,l9,rfl⟩
 cases len with
 | zero=>exact absurd rfl h0
 | succ n=>simp[Builtin.clear_,run_underlying hu,zeroValue,typeInfo,ad,iN,jR]
end
section
variable {g:G} {s:S} {ai:el} {a:Act} {w:World}
def km (row:List az):List az:=row.map fun I=>if I.bV = .live then {I with bV:= .h4} else I
theorem Jh (row:List az)(k:Nat):cB (some (km row)) k=(cB (some row) k).map fun I=>if I.bV = .live then {I with bV:= .h4} else I:=by
 simp only[cB,km,dI]
 cases row[k]? with
 | none=>rfl
 | some I =>
  obtain⟨sz,es,bV⟩:=I;cases bV<;>simp
theorem b7.freeze (h:b7 g s ai a w){r:Nat}{row:List az}(ah:s.au r=some row):b7 g (s.setRow r (km row)) ai a w:=by
 have aW : ∀q k I,(s.setRow r (km row)).ab q k=some I-> ∃p,s.ab q k=some p/\I.sz=p.sz/\I.es=p.es/\(I.bV = .live->p.bV = .live/\q≠r):=by
  intro q k I ae;by_cases e:q=r
  ·subst e;have:(s.setRow q (km row)).au q=some (km row):=(by simp[S.setRow]);unfold S.ab at ae;rw[this,Jh] at ae;rw[dL] at ae;obtain⟨p,af,rfl⟩:=ae;refine⟨p,by unfold S.ab;rw[ah];exact af,?_⟩;split<;>simp_all
  have:(s.setRow r (km row)).au q=s.au q:=(by simp[S.setRow,e]);unfold S.ab at ae;rw[this] at ae;exact⟨I,ae,rfl,rfl,fun aw=>⟨aw,e⟩⟩
 have hP : ∀q k,s.aH q k->(s.setRow r (km row)).aH q k:=z7 s ah (by simp[km])
 have jQ : ∀q k,(s.setRow r (km row)).aP ai q k=s.aP ai q k:=by
  intro q k;by_cases e:q=r
  ·subst e
   simp only[S.aP,S.ab];have:(s.setRow q (km row)).au q=some (km row):=(by simp[S.setRow]);rw[this,Jh,ah]
   cases cB (some row) k with
   | none=>rfl
   | some I=>simp only[dN,dx,dC,and_true];split<;>rfl
  have:(s.setRow r (km row)).au q=s.au q:=(by simp[S.setRow,e]);simp[S.aP,S.ab,this]
 have cp:Step g s ai w (s.setRow r (km row)) ai w:=⟨hP,fun q k _=> .inl (jQ q k),fun b aw=>by obtain⟨q,k,I,m,o,J,an⟩:=aw;obtain⟨p,gk,ht,pp,zw⟩:=aW q k I o;exact .inl ⟨q,k,p,m,gk,(zw J).1,an⟩,fun _ _ _=>rfl,dF _⟩;refine {togK:=⟨?_,?_,?_,h.fU,h.mlt,h.lX,?_,h.low⟩,env:=fun t=>cp.rel (h.env t),defers:=h.defers,h9:=h.h9}
 ·intro q k I ae
  obtain⟨p,gk,ht,pp,-⟩:=aW q k I ae;have af:=cp.obj (fun b m _=>rfl) (h.obj q k p gk)
  cases jG:ai q k with
  | none=>rw[jG] at af;simp only[hl] at af ⊢;rw[pp];exact af
  | some x =>
   obtain⟨b,m⟩:=x;rw[jG] at af;obtain⟨c,c9,ap,av,bS,dj⟩:=af;exact⟨c,c9,ap,av,by rw[ht,pp];exact bS,by rw[pp];exact dj⟩
 ·intro q k I gj cA bD b m aX o J an aG;obtain⟨p,gk,-⟩:=aW q k I o;obtain⟨iQ,UC,-⟩:=aW gj cA bD J;exact h.inj q k p gj cA iQ b m aX gk UC an aG
 ·intro q k I b m o J;obtain⟨p,gk,-⟩:=aW q k I o;exact h.own q k p b m gk J
 intro j k ao;obtain⟨ap,av⟩:=h.stay j k ao;exact⟨hP j k ap,by rw[jQ];exact av⟩
end
def vZ (P:Program)(t:TypeId):Bool :=
 match P.underlying t with
 | some (.pointer _)=>true
 | _=>false
def wD (P:Program)(E:Nat->aj)(au:Nat->Option (List az))(aA:Nat)(I:Oper)(b9:d5):Option fI :=
 match I.op with
 | .call {callee:= .builtin b,args,argTypes}=>match b with
  | .len=>dr P E au aA I b9
  | b=>pR P E au aA b (args.toList.map (dc E)) argTypes.toList b9
 | .binOp op t x y _=>match b9,op,dc E x,dc E y with
  | .fj,.eql,.isl _ es,.eC=>if (nL P t).isSome then some {val:= .b false,ea:=[es≠[]]} else none
  | .fj,.neq,.isl _ es,.eC=>if (nL P t).isSome then some {val:= .b true,ea:=[es≠[]]} else none
  | .fj,.eql,.iA _ none,.gP=>if vZ P t then some {val:= .b true} else none
  | .fj,.neq,.iA _ none,.gP=>if vZ P t then some {val:= .b false} else none
  | .fj,.eql,.iA _ (some _),.gP=>if vZ P t then some {val:= .b false} else none
  | .fj,.neq,.iA _ (some _),.gP=>if vZ P t then some {val:= .b true} else none
  | .fj,_,_,_=>none
  | _,_,_,_=>dr P E au aA I b9
 | .nilCheck x=>match b9,dc E x with
  | .fj,.iA sz (some c)=>some {val:= .d4 sz [c] 0 0}
  | .fj,_=>none
  | _,_=>dr P E au aA I b9
 | _=>dr P E au aA I b9
section
variable {P:Program} {g:G} {s:S} {ai:el} {a:Act} {w:World} {I:Oper} {b9:d5} {aA:Nat} {a1:fI}
theorem xQ {args:Array Operand}{E:Nat->aj}{x y:aj}(h:args.toList.map (dc E)=[x,y]): ∃p q,args = #[p,q]/\dc E p=x/\dc E q=y:=by
 obtain⟨l⟩:=args
 match l,h with
 | [p,q],h=>simp at h;exact⟨p,q,rfl,h.1,h.2⟩
theorem JP {args:Array Operand}{E:Nat->aj}{x:aj}(h:args.toList.map (dc E)=[x]): ∃p,args = #[p]/\dc E p=x:=by
 obtain⟨l⟩:=args
 match l,h with
 | [p],h=>simp at h;exact⟨p,rfl,h⟩
theorem Ak {t:TypeId}(h:vZ P t=true): ∃e,P.underlying t=some (.pointer e):=by
 unfold vZ at h;split at h
 ·rename_i e he;exact⟨e,he⟩
 simp at h
theorem Qr (h:b7 g s ai a w)(dU:s.au aA=none)(ag:wD P s.E s.au aA I b9=some a1)(bM:∀p∈a1.ea,p):Fin P g s a w I a1:=by
 unfold wD at ag;split at ag
 ·rename_i b args kW ae
  split at ag
  ·exact Aj h dU ag bM
  rename_i b aE;unfold pR at ag;split at ag
  ·rename_i x y t cx m F0 hargs kq;have pG:pR P s.E s.au aA .append [x,y] [t,cx] (.ba m F0)=some a1:=ag;obtain⟨p,q,rfl,rfl,rfl⟩:=xQ hargs;obtain⟨l⟩:=kW;simp only at kq;subst kq;obtain⟨v,bc,bf,o,J,an⟩:=PR (c9:=I.type) h dU pG bM (h.eval p) (h.eval q);exact⟨v,bc,bf,.inl (by simp[execOp,ae,resolve,invoke,builtin,o]),J,an⟩
  ·rename_i x y t cx hargs kq;have pG:ri false P s.au x y t cx=some a1:=ag;obtain⟨p,q,rfl,rfl,rfl⟩:=xQ hargs;obtain⟨l⟩:=kW;simp only at kq;subst kq;obtain⟨v,bc,o,J,an⟩:=JO (c9:=I.type) h pG bM (h.eval p) (h.eval q);exact⟨v,bc,ai,.inl (by simp[execOp,ae,resolve,invoke,builtin,o]),J,an⟩
  ·rename_i x y t cx hargs kq;have pG:ri true P s.au x y t cx=some a1:=ag;obtain⟨p,q,rfl,rfl,rfl⟩:=xQ hargs;obtain⟨l⟩:=kW;simp only at kq;subst kq;obtain⟨v,bc,o,J,an⟩:=JO (c9:=I.type) h pG bM (h.eval p) (h.eval q);exact⟨v,bc,ai,.inl (by simp[execOp,ae,resolve,invoke,builtin,o]),J,an⟩
  ·rename_i b9 r k len y t cx hargs kq;have pG:pR P s.E s.au aA .copy [.bz r k 0 len,y] [t,cx] b9=some a1:=ag;obtain⟨p,q,rfl,af,rfl⟩:=xQ hargs;obtain⟨l⟩:=kW;simp only at kq;subst kq;have U:=h.eval p;rw[af] at U;obtain⟨n,bc,o,J,an⟩:=Rc (c9:=I.type) h pG bM U (h.eval q);refine⟨goInt n,bc,ai,.inl (by simp[execOp,ae,resolve,invoke,builtin,o]),J,?_⟩;rw[an];exact .n _ _
  ·rename_i r k bb len t hargs kq;have pG:tx P s.au r k bb len t=some a1:=ag;obtain⟨p,rfl,af⟩:=JP hargs;obtain⟨l⟩:=kW;simp only at kq;subst kq;have U:=h.eval p;rw[af] at U;obtain⟨bc,o,J,an⟩:=PS (c9:=I.type) h pG bM U;refine⟨.tuple #[],bc,ai,.inl (by simp[execOp,ae,resolve,invoke,builtin,o]),J,?_⟩;rw[an];exact .dl [] rfl (fun j x u ao=>by simp at ao)
  ·rename_i r k len t hargs kq _;have pG:tH P s.au r k len t=some a1:=ag;obtain⟨p,rfl,af⟩:=JP hargs;obtain⟨l⟩:=kW;simp only at kq;subst kq;have U:=h.eval p;rw[af] at U;obtain⟨bc,o,J,an⟩:=Qq (c9:=I.type) h pG bM U;refine⟨.tuple #[],bc,ai,.inl (by simp[execOp,ae,resolve,invoke,builtin,o]),J,?_⟩;rw[an];exact .dl [] rfl (fun j x u ao=>by simp at ao)
  ·rename_i k x cA y hargs
   split at ag
   ·rename_i aL;simp only[dx] at ag;subst ag;subst aL;obtain⟨p,q,rfl,af,aU⟩:=xQ hargs;have U:=h.eval p;have aK:=h.eval q;rw[af] at U;rw[aU] at aK;refine gC (v:= .int k (if y<x then y else x)) h ?_ rfl (.n _ _);simp[execOp,ae,resolve,invoke,builtin,Builtin.min_,U.mQ,aK.mQ,Builtin.min2]
   simp at ag
  simp at ag
 ·rename_i op t x y cx ae
  split at ag
  ·rename_i sz es U aK
   split at ag
   ·rename_i he;obtain⟨e,he⟩:=Option.isSome_iff_exists.1 he;simp only[dx] at ag;subst ag;have o:=h.eval x;have J:=h.eval y;rw[U] at o;rw[aK] at J;have cc:es≠[]:=bM _ (by simp);refine gC (v:= .bool false) h ?_ rfl (.b _);simp only[execOp,ae];rw[Sem.run_bind,(Ki (w:=w) (pA he) cc o J x y).1];rfl
   simp at ag
  ·rename_i sz es U aK
   split at ag
   ·rename_i he;obtain⟨e,he⟩:=Option.isSome_iff_exists.1 he;simp only[dx] at ag;subst ag;have o:=h.eval x;have J:=h.eval y;rw[U] at o;rw[aK] at J;have cc:es≠[]:=bM _ (by simp);refine gC (v:= .bool true) h ?_ rfl (.b _);simp only[execOp,ae];rw[Sem.run_bind,(Ki (w:=w) (pA he) cc o J x y).2];rfl
   simp at ag
  ·rename_i sz U aK
   split at ag
   ·rename_i b3;obtain⟨e,he⟩:=Ak b3;simp only[dx] at ag;subst ag;have o:=h.eval x;have J:=h.eval y;rw[U] at o;rw[aK] at J;have wE:Rel w (s.ok g ai w) s.aH (s.aP ai) .gP (a.eval x):=(by rw[o.Je];exact .gP);refine gC (v:= .bool true) h ?_ rfl (.b _);simp only[execOp,ae];rw[Sem.run_bind,(vL (w:=w) (r:=true) (by simp[qz,he]) wE J x y).1];rfl
   simp at ag
  ·rename_i sz U aK
   split at ag
   ·rename_i b3;obtain⟨e,he⟩:=Ak b3;simp only[dx] at ag;subst ag;have o:=h.eval x;have J:=h.eval y;rw[U] at o;rw[aK] at J;have wE:Rel w (s.ok g ai w) s.aH (s.aP ai) .gP (a.eval x):=(by rw[o.Je];exact .gP);refine gC (v:= .bool false) h ?_ rfl (.b _);simp only[execOp,ae];rw[Sem.run_bind,(vL (w:=w) (r:=true) (by simp[qz,he]) wE J x y).2];rfl
   simp at ag
  ·rename_i sz c U aK
   split at ag
   ·rename_i b3;obtain⟨e,he⟩:=Ak b3;simp only[dx] at ag;subst ag;have o:=h.eval x;have J:=h.eval y;rw[U] at o;rw[aK] at J;refine gC (v:= .bool false) h ?_ rfl (.b _);simp only[execOp,ae];rw[Sem.run_bind,(vL (w:=w) (r:=false) (by simp[qz,he]) o.Dp J x y).1];rfl
   simp at ag
  ·rename_i sz c U aK
   split at ag
   ·rename_i b3;obtain⟨e,he⟩:=Ak b3;simp only[dx] at ag;subst ag;have o:=h.eval x;have J:=h.eval y;rw[U] at o;rw[aK] at J;refine gC (v:= .bool true) h ?_ rfl (.b _);simp only[execOp,ae];rw[Sem.run_bind,(vL (w:=w) (r:=false) (by simp[qz,he]) o.Dp J x y).2];rfl
   simp at ag
  ·simp at ag
  exact Aj h dU ag bM
 ·rename_i x ae
  split at ag
  ·rename_i sz c U;simp only[dx] at ag;subst ag;have o:=h.eval x;rw[U] at o;have J:=o.Dp;obtain⟨cY,off,aE,hval,gU⟩:=J.vR;refine gC (v:=a.eval x) h ?_ rfl J;rw[hval];simp only[execOp,ae,hval];rfl
  ·simp at ag
  exact Aj h dU ag bM
 exact Aj h dU ag bM
end
theorem qQ {es:List (List aj)}{j:Nat}{x:aj}(h:es.flatten[j]? = some x): ∃e∈es,x∈e:=by have:=dD h;rw[List.mem_flatten] at this;obtain⟨e,he,U⟩:=this;exact⟨e,he,U⟩
theorem Rel.pure {w:World}{ok jv:Nat->Prop}{aH lp:hI}{aP kU:hs}{x:aj}{v:Value}(h:Rel w ok aH aP x v)(af:Pure x)(mv:∀b,ok b->jv b):Rel w jv lp kU x v:=by
 induction h with
 | dead v=>exact .dead v
 | b x=>exact .b x
 | n k x=>exact .n k x
 | s x=>exact .s x
 | gP=>exact .gP
 | eC=>exact .eC
 | gT a c=>exact .gT a c
 | n9=>cases af
 | ref=>cases af
 | lP=>cases af
 | me=>cases af
 | bz=>cases af
 | lk=>cases af
 | mo=>cases af
 | iy sz a c h=>exact .iy sz a c h
 | isl cs aE kw aw aJ hw ho ah ih =>
  cases af with
  | isl h=>exact .isl cs (mv _ aE) kw aw aJ hw ho fun j x U=>ih j x U (by obtain⟨e,he,pa⟩:=qQ U;exact h e he x pa)
 | d4 cs aE kw aw hw ho ah ih =>
  cases af with
  | d4 h=>exact .d4 cs (mv _ aE) kw aw hw ho fun j x U=>ih j x U (by obtain⟨e,he,pa⟩:=qQ U;exact h e he x pa)
 | nO sz=>exact .nO sz
 | nj h ih =>
  cases af with
  | nj af=>exact .nj (ih (.d4 fun e he x U=>by rw[List.mem_singleton] at he;subst he;exact af x U))
 | agg vs aw ho ah ih =>
  cases af with
  | agg h=>exact .agg vs aw ho fun j x v U aT=>ih j x v U aT (h x (dD U))
 | dl vs aw ah ih =>
  cases af with
  | dl h=>exact .dl vs aw fun j x v U aT=>ih j x v U aT (h x (dD U))
 | fn vs aw ah ih =>
  cases af with
  | fn h=>exact .fn vs aw fun j x v U aT=>ih j x v U aT (h x (dD U))
abbrev fA:=Nat->Nat->Option (Nat×Nat)
structure Down (q:aj->Prop):Prop where
 agg : ∀c x,q (.agg c)->x∈c->q x
 dl : ∀c x,q (.dl c)->x∈c->q x
 fn : ∀f c x,q (.fn f c)->x∈c->q x
inductive gl (s:S) (ax:fA) (bw:e1->Bool) (q:aj->Prop):aj->aj->Prop
 | dead (x:aj):gl s ax bw q x .dead
 | pure {x:aj} (h:Pure x) (aU:q x):gl s ax bw q x x
 | eC (sz:Nat):gl s ax bw q .eC (.isl sz [])
 | gT (sz:Nat):gl s ax bw q .gT (.isl sz [])
 | AW (sz:Nat):gl s ax bw q .gP (.iA sz none)
 | iA {sz:Nat} {x:aj} {c:List aj} (h:gl s ax bw q x (.d4 sz [c] 0 0)):gl s ax bw q x (.iA sz (some c))
 | ref {r k j d7:Nat} (i off:Nat) (h:ax j d7=some (r,k)) (hu:s.aH r k):gl s ax bw q (.ref r k i off) (.ref j d7 i off)
 | bz {r k j d7:Nat} (bb len:Nat) (h:ax j d7=some (r,k)) (hu:s.aH r k):gl s ax bw q (.bz r k bb len) (.bz j d7 bb len)
 | lk (r c sz:Nat):gl s ax bw q (.hf r c sz none) (.isl sz [])
 | mo {r c sz k n:Nat} {ca:aj} (h:gl s ax bw q (.bz r (k+c) 0 n) ca):gl s ax bw q (.hf r c sz (some (k,n))) ca
 | hf {r dn c cX sz:Nat} (h:Option (Nat×Nat)) (hm : ∀k,ax dn (k+cX)=some (r,k+c)):gl s ax bw q (.hf r c sz h) (.hf dn cX sz h)
 | d4 {r k:Nat} {I:az} {fa:List (List aj)} (i off:Nat) (ae:s.ab r k=some I) (bs:bw I.bV=true) (ah:(∀j i,ax j i≠some (r,k))) (cc:I.es≠[]) (af:hy fa) (hle : ∀e∈fa,e.length=I.sz) (aw:fa.length=I.es.length)
  (h : ∀(j:Nat) x ca,I.es.flatten[j]? = some x->fa.flatten[j]? = some ca->gl s ax bw q x ca):gl s ax bw q (.ref r k i off) (.d4 I.sz fa i off)
 | isl {r k bb len:Nat} {I:az} {fa:List (List aj)} (ae:s.ab r k=some I) (bs:bw I.bV=true) (ah:(∀j i,ax j i≠some (r,k))) (gQ:bb+len<=I.es.length) (af:hy fa) (hle : ∀e∈fa,e.length=I.sz) (aw:fa.length=len)
  (h : ∀(j:Nat) x ca,((I.es.drop bb).take len).flatten[j]? = some x->fa.flatten[j]? = some ca->gl s ax bw q x ca):gl s ax bw q (.bz r k bb len) (.isl I.sz fa)
 | agg {c cX:List aj} (aw:cX.length=c.length) (h : ∀(j:Nat) x ca,c[j]? = some x->cX[j]? = some ca->gl s ax bw q x ca):gl s ax bw q (.agg c) (.agg cX)
 | dl {c cX:List aj} (aw:cX.length=c.length) (h : ∀(j:Nat) x ca,c[j]? = some x->cX[j]? = some ca->gl s ax bw q x ca):gl s ax bw q (.dl c) (.dl cX)
 | fn {f:Nat} {c cX:List aj} (aw:cX.length=c.length) (h : ∀(j:Nat) x ca,c[j]? = some x->cX[j]? = some ca->gl s ax bw q x ca):gl s ax bw q (.fn f c) (.fn f cX)
theorem qg {sz:Nat}: ∀(es:List (List aj)),(∀e∈es,e.length=sz)->es.flatten.length=es.length*sz
 | [],_=>by simp
 | e::es,h=>by rw[dS,dE,qg es fun x U=>h x (by simp[U]),h e (by simp),dM,Nat.add_mul];omega
theorem eV {α:Type}{l:List α}{j:Nat}{x:α}(h:l[j]? = some x):j<l.length:=by
 rcases Nat.lt_or_ge j l.length with bR|bR
 ·exact bR
 rw[dP bR] at h;simp at h
theorem gl.rel {g:G}{s:S}{ai:el}{w:World}{ax:fA}{bw:e1->Bool}{q:aj->Prop}(c3:gK g s ai w){jv:Nat->Prop}{lp:hI}{kU:hs}
 (H1 : ∀x v,q x->Pure x->Rel w (s.ok g ai w) s.aH (s.aP ai) x v->Rel w jv lp kU x v)
 (B1 : ∀r k I b m,s.ab r k=some I->bw I.bV=true->(∀j i,ax j i≠some (r,k))->ai r k=some (b,m)->jv b)
 (zx : ∀j i r k,ax j i=some (r,k)->s.aH r k->lp j i/\(kU j i=s.aP ai r k\/kU j i=none)) {x ca:aj} (bN:gl s ax bw q x ca) :
 ∀ {v:Value},Rel w (s.ok g ai w) s.aH (s.aP ai) x v->Rel w jv lp kU ca v:=by
 induction bN with
 | dead x=>intro v _;exact .dead v
 | pure af aU=>intro v ah;exact H1 _ v aU af ah
 | eC sz=>intro v ah;rw[ah.n8];exact .iy sz none 0 (fun _=>rfl)
 | gT sz=>intro v ah;obtain⟨a,c,rfl⟩:=ah.AB;exact .iy sz (some a) c (fun h=>by simp at h)
 | AW sz=>intro v ah;rw[ah.s8];exact .nO sz
 | iA h ih=>intro v ah;exact .nj (ih ah)
 | @ref r k j d7 i off ao hu =>
  intro v ah;obtain⟨o,J⟩:=zx j d7 r k ao hu
  cases ah with
  | n9 a mU aZ =>
   refine .n9 a o fun sz p=> ?_;rcases J with e|e<;>rw[e]
   ·exact aZ sz p
   simp
  | ref mU b3 =>
   rcases J with e|e
   ·exact .ref o (e.trans b3)
   exact .n9 _ o fun sz p=>by rw[e];simp
 | @bz r k j d7 bb len ao hu =>
  intro v ah;obtain⟨o,J⟩:=zx j d7 r k ao hu
  cases ah with
  | lP a l c mU aZ =>
   refine .lP a l c o ?_;rcases J with e|e<;>rw[e];exact aZ
  | me mU b3 =>
   rcases J with e|e
   ·exact .me o (e.trans b3)
   exact .lP _ _ _ o e
  | bz mU b3 aw aJ hm =>
   rcases J with e|e
   ·exact .bz o (e.trans b3) aw aJ hm
   exact .lP _ _ _ o e
 | lk r c sz =>
  intro v ah
  cases ah with
  | lk h0 =>
   rcases h0.q1 with ⟨-,a,c,rfl,bs⟩|⟨cY,off,c,-,rfl,-⟩
   ·exact .iy sz a c bs
   exact .iy sz _ c (fun h=>by simp at h)
 | mo h ih =>
  intro v ah
  cases ah with
  | mo h0=>exact ih h0
 | @hf r dn c cX sz h hm =>
  intro v ah
  cases ah with
  | lk h0 =>
   rcases h0.q1 with ⟨-,a,c,rfl,bs⟩|⟨cY,off,c,-,rfl,-⟩
   ·exact .lk (.iy sz a c bs)
   exact .lk (.iy sz _ c (fun h=>by simp at h))
  | @mo _ _ _ k n _ h0 =>
   refine .mo ?_
   cases h0 with
   | lP a l bG mU aZ =>
    obtain⟨o,J⟩:=zx _ _ _ _ (hm k) mU;refine .lP a l bG o ?_;rcases J with e|e<;>rw[e];exact aZ
   | me mU b3 =>
    obtain⟨o,J⟩:=zx _ _ _ _ (hm k) mU;rcases J with e|e
    ·exact .me o (e.trans b3)
    exact .lP _ _ _ o e
   | bz mU b3 aw aJ kv =>
    obtain⟨o,J⟩:=zx _ _ _ _ (hm k) mU;rcases J with e|e
    ·exact .bz o (e.trans b3) aw aJ kv
    exact .lP _ _ _ o e
 | @d4 r k I fa i off ae bs ah cc ES hle aw h ih =>
  intro v aT;have dY:=c3.obj r k I ae;rcases aT.td (gu ae) with h0|⟨b,m,af,hval⟩
  ·rw[h0] at dY;exact absurd dY cc
  rw[af] at dY;have gU:=dY.rd;rw[hval];have h5:fa.flatten.length=I.es.flatten.length:=(by rw[qg fa hle,qg I.es gU.1,aw]);have tI:m1 w jv lp kU b 0 I.sz fa:=(by refine⟨hle,fun j ca cL=> ?_⟩;have c0:j<I.es.flatten.length:=(by rw[<- h5];exact eV cL);have U:I.es.flatten[j]? = some I.es.flatten[j]:=dw c0;obtain⟨u,ap,av,bS⟩:=gU.2 j _ U;exact⟨u,ap,av,ih j _ ca U cL bS⟩);have:=tI.d4 (i:=i) (off:=off) ⟨B1 r k I b m ae bs ah af,ES⟩;rw[dG] at this;exact this
 | @isl r k bb len I fa ae bs ah gQ ES hle aw h ih =>
  intro v aT;have dY:=c3.obj r k I ae;rcases aT.xP (gu ae) with ⟨af,rfl,rfl,hval⟩|⟨b,m,A,c,af,hval,ou,qA,hm⟩
  ·have:fa=[]:=dJ.1 aw;subst this;rw[hval];exact .iy _ none 0 (fun _=>rfl)
  rw[af] at dY;rw[hval];rcases Nat.eq_zero_or_pos len with h0|iz
  ·subst h0;have:fa=[]:=dJ.1 aw;subst this;exact .iy _ A c (fun aZ=>by rcases hm with o|⟨o,-⟩<;>simp_all)
  rcases hm with hm|⟨hA,hm⟩
  ·omega
  subst hA;have gU:=z8 dY.rd bb len (by omega);rw[dG] at gU;have h5:fa.flatten.length=((I.es.drop bb).take len).flatten.length:=(by rw[qg fa hle,qg _ gU.1,aw,List.length_take,List.length_drop,Nat.min_eq_left (by omega)]);have tI:m1 w jv lp kU b (bb*I.sz) I.sz fa:=(by refine⟨hle,fun j ca cL=> ?_⟩;have c0:j<((I.es.drop bb).take len).flatten.length:=(by rw[<- h5];exact eV cL);have U:=dw c0;obtain⟨u,ap,av,bS⟩:=gU.2 j _ U;exact⟨u,ap,av,ih j _ ca U cL bS⟩);have:=tI.isl (c:=c) ⟨B1 r k I b m ae bs ah af,ES⟩ (by omega);rw[aw] at this;exact this
 | @agg c cX aw h ih =>
  intro v aT;obtain⟨vs,rfl,o,J,an⟩:=aT.vP;refine .agg vs (by omega) J fun j ca u cL hu=> ?_;have c0:j<c.length:=(by have:=eV cL;omega);exact ih j _ ca (dw c0) cL (an j _ u (dw c0) hu)
 | @dl c cX aw h ih =>
  intro v aT;obtain⟨vs,rfl,o,an⟩:=aT.vQ;refine .dl vs (by omega) fun j ca u cL hu=> ?_;have c0:j<c.length:=(by have:=eV cL;omega);exact ih j _ ca (dw c0) cL (an j _ u (dw c0) hu)
 | @fn f c cX aw h ih =>
  intro v aT;obtain⟨vs,rfl,o,an⟩:=aT.AM;refine .fn vs (by omega) fun j ca u cL hu=> ?_;have c0:j<c.length:=(by have:=eV cL;omega);exact ih j _ ca (dw c0) cL (an j _ u (dw c0) hu)
structure mV (s:S) (ax:fA) (bw:e1->Bool) (q:aj->Prop) (I bD:az):Prop where
 sz:bD.sz=I.sz
 bV:bD.bV=I.bV\/(bD.bV = .h4/\I.bV = .live)\/bD.bV = .gone
 len:bD.es.length=I.es.length
 each : ∀e∈bD.es,e.length=I.sz
 at_ : ∀(j:Nat) x ca,I.es.flatten[j]? = some x->bD.es.flatten[j]? = some ca->gl s ax bw q x ca
structure ox (s:S) (ax:fA) (bw:e1->Bool) (q:aj->Prop) (fk:Nat->Option (List az)):Prop where
 inj : ∀j i gF d7 p,ax j i=some p->ax gF d7=some p->j=gF/\i=d7
 at_ : ∀j i bD,cB (fk j) i=some bD-> ∃r k I,ax j i=some (r,k)/\s.ab r k=some I/\mV s ax bw q I bD
 aH : ∀j i r k,ax j i=some (r,k)->s.aH r k->i<((fk j).getD []).length
def ia (ai:el)(ax:fA):el:=fun j i=>match ax j i with
 | some (r,k)=>ai r k
 | none=>none
theorem v5 {ai:el}{ax:fA}{j i r k:Nat}(h:ax j i=some (r,k)):ia ai ax j i=ai r k:=by simp[ia,h]
def kx (_:aj):Prop:=True
theorem Te:Down kx:=⟨fun _ _ _ _=>trivial,fun _ _ _ _=>trivial,fun _ _ _ _ _=>trivial⟩
section
variable {g:G} {s:S} {ai:el} {w:World} {ax:fA} {bw:e1->Bool} {q:aj->Prop} {bj:S}
theorem ox.ab (h:ox s ax bw q bj.au){j i:Nat}{bD:az}(ae:bj.ab j i=some bD): ∃r k I,ax j i=some (r,k)/\s.ab r k=some I/\mV s ax bw q I bD:=h.at_ j i bD ae
theorem JQ {I bD:az}(h:mV s ax bw q I bD)(aw:bD.bV = .live):I.bV = .live:=by
 rcases h.bV with e|⟨e,-⟩|e
 ·exact e.symm.trans aw
 ·rw[e] at aw;simp at aw
 rw[e] at aw;simp at aw
theorem ox.live (h:ox s ax bw q bj.au)(b:Nat)(aw:bj.kl (ia ai ax) b): ∃r k I m,s.ab r k=some I/\I.bV = .live/\ai r k=some (b,m)/\ ∃j i,ax j i=some (r,k):=by obtain⟨j,i,bD,m,o,J,an⟩:=aw;obtain⟨r,k,I,ap,av,bS⟩:=h.ab o;rw[v5 ap] at an;exact⟨r,k,I,m,av,JQ bS J,an,j,i,ap⟩
theorem ox.Bt (h:ox s ax bw q bj.au){j i r k:Nat}(ao:ax j i=some (r,k)):bj.aP (ia ai ax) j i=s.aP ai r k\/bj.aP (ia ai ax) j i=none:=by
 cases ae:bj.ab j i with
 | none=>right;simp[S.aP,ae]
 | some bD =>
  obtain⟨dn,cA,I,ap,av,bS⟩:=h.ab ae;rw[ao] at ap;simp only[dx,dC] at ap;obtain⟨rfl,rfl⟩:=ap;left;rw[gu ae,gu av,bS.sz,v5 ao]
theorem gK.F1 (c3:gK g s ai w)(h:ox s ax bw q bj.au){eU:G}(aL:yo eU w)(ya:∀j k,eU.np j k->bj.aH j k/\(bj.aP (ia ai ax) j k=eU.pP j k\/bj.aP (ia ai ax) j k=none))(TL:∀j k,eU.np j k->j<eU.m)
 (TM : ∀b,eU.nX b->b<eU.lc.heap.size) (halt : ∀b,eU.A b->b<eU.lc.heap.size)
 (Er : ∀r k I b m,(∃j i,ax j i=some (r,k))->s.ab r k=some I->ai r k=some (b,m)->eU.lc.heap.size<=b\/eU.nX b)
 (H1 : ∀b,s.ok g ai w b->bj.ok eU (ia ai ax) w b)
 (B1 : ∀r k I b m,s.ab r k=some I->bw I.bV=true->(∀j i,ax j i≠some (r,k))->ai r k=some (b,m)->bj.ok eU (ia ai ax) w b) :
 gK eU bj (ia ai ax) w/\ ∀ {x ca:aj} {v:Value},gl s ax bw q x ca->Rel w (s.ok g ai w) s.aH (s.aP ai) x v->Rel w (bj.ok eU (ia ai ax) w) bj.aH (bj.aP (ia ai ax)) ca v:=by
 have dY : ∀ {x ca:aj} {v:Value},gl s ax bw q x ca->Rel w (s.ok g ai w) s.aH (s.aP ai) x v->Rel w (bj.ok eU (ia ai ax) w) bj.aH (bj.aP (ia ai ax)) ca v :=
  fun bN ah=>bN.rel c3 (fun x v _ af ah=>ah.pure af H1) B1 (fun j i r k ao hu=>⟨h.aH j i r k ao hu,h.Bt ao⟩) ah
 refine⟨⟨?_,?_,?_,aL,TM,halt,ya,TL⟩,dY⟩
 ·intro j k bD cS
  obtain⟨r,cA,I,ap,av,bS⟩:=h.ab cS;have aW:=c3.obj r cA I av;rw[v5 ap]
  cases af:ai r cA with
  | none =>
   rw[af] at aW;simp only[hl] at aW ⊢;apply dJ.1;rw[bS.len,aW];rfl
  | some q =>
   obtain⟨b,m⟩:=q;rw[af] at aW;obtain⟨c,c9,o,J,an,aG⟩:=aW;have h5:bD.es.flatten.length=I.es.flatten.length:=(by rw[qg _ bS.each,qg _ an,bS.len]);refine⟨c,c9,o,J,by rw[bS.sz];exact bS.each,fun i ca cL=> ?_⟩;have c0:i<I.es.flatten.length:=(by rw[<- h5];exact eV cL);have U:=dw c0;obtain⟨u,f1,f2,f3⟩:=aG i _ U;exact⟨u,f1,f2,dY (bS.at_ i _ ca U cL) f3⟩
 ·intro j k I gF cA bD b m aX o J an aG;obtain⟨r,jK,p,ap,av,-⟩:=h.ab o;obtain⟨dn,UD,iQ,lu,nV,-⟩:=h.ab J;rw[v5 ap] at an;rw[v5 lu] at aG;obtain⟨rfl,rfl⟩:=c3.inj r jK p dn UD iQ b m aX av nV an aG;exact h.inj _ _ _ _ _ ap lu
 intro j k I b m o J;obtain⟨r,jK,p,ap,av,-⟩:=h.ab o;rw[v5 ap] at J;exact Er r jK p b m ⟨j,k,ap⟩ av J
theorem b7.JR {a:Act}(h:b7 g s ai a w)(cb:ox s ax (fun _=>true) q bj.au)(c7:∀t,gl s ax (fun _=>true) q (s.E t) (bj.E t))(yz:∀j k,g.np j k->ax j k=some (j,k)):b7 g bj (ia ai ax) a w:=by
 have gH : ∀b,bj.kl (ia ai ax) b->s.kl ai b:=fun b aw=>by obtain⟨r,k,I,m,o,J,an,-⟩:=cb.live b aw;exact⟨r,k,I,m,o,J,an⟩
 have ya : ∀j k,g.np j k->bj.aH j k/\(bj.aP (ia ai ax) j k=g.pP j k\/bj.aP (ia ai ax) j k=none):=by
  intro j k ao;obtain⟨ap,av⟩:=h.stay j k ao;refine⟨cb.aH j k j k (yz j k ao) ap,?_⟩;rcases cb.Bt (ai:=ai) (yz j k ao) with e|e
  ·rw[e];exact av
  exact .inr e
 obtain⟨o,J⟩:=h.togK.F1 cb h.fU ya h.low h.mlt h.lX (fun r k I b m _ ae af=>h.own r k I b m ae af)
  (fun b aE=>⟨aE.1,aE.2.1,fun aw=>aE.2.2 (gH b aw)⟩)
  (fun r k I b m ae _ ah af=>by
    have aW:=h.obj r k I ae;rw[af] at aW;obtain⟨c,c9,ap,-⟩:=aW;refine⟨(Y3.1 ap).1,?_,fun aw=> ?_⟩
    ·rcases h.own r k I b m ae af with e|e
     ·exact .inr (.inl e)
     exact .inr (.inr e)
    obtain⟨dn,cA,bD,aX,f1,f2,f3,⟨wZ,rI,f4⟩⟩:=cb.live b aw;obtain⟨rfl,rfl⟩:=h.inj r k I dn cA bD b m aX ae f1 af f3;exact ah wZ rI f4)
 exact {togK:=o,env:=fun t=>J (c7 t) (h.env t),defers:=h.defers,h9:=h.h9}
end
def d3 (T:List (List az)):S:={E:=fun _=> .dead,au:=fun r=>T[r]?}
def Tf (P:Program)(f:FuncId)(args:List aj)(T:List (List az))(r:aj)(hX:List (List az)):Prop :=
 ∀(g:G) (ai:el) (w:World) (vs:Array Value),g.lc=w->g.m=T.length->g.np=(d3 T).aH->g.pP=(d3 T).aP ai->gK g (d3 T) ai w->vs.size=args.length ->
  (∀(j:Nat) x v,args[j]? = some x->vs[j]? = some v->Rel w ((d3 T).ok g ai w) (d3 T).aH ((d3 T).aP ai) x v) ->
  Calls P f vs w fun e bc=> ∃v bf,e = .returned v/\gK g (d3 hX) bf bc/\Rel bc ((d3 hX).ok g bf bc) (d3 hX).aH ((d3 hX).aP bf) r v
inductive cm:aj->Prop
 | dead:cm .dead
 | b (x:Bool):cm (.b x)
 | n (k:IntKind) (x:Int):cm (.n k x)
 | s (x:ByteArray):cm (.s x)
 | gP:cm .gP
 | eC:cm .eC
 | gT:cm .gT
 | iy (sz:Nat):cm (.isl sz [])
 | ref (r k i off:Nat):cm (.ref r k i off)
 | bz (r k bb len:Nat):cm (.bz r k bb len)
 | hf (r c sz:Nat) (h:Option (Nat×Nat)):cm (.hf r c sz h)
 | agg {c:List aj} (h : ∀x∈c,cm x):cm (.agg c)
 | dl {c:List aj} (h : ∀x∈c,cm x):cm (.dl c)
theorem Tg:Down cm:=⟨fun _ _ h U=>by cases h with|agg h=>exact h _ U,fun _ _ h U=>by cases h with|dl h=>exact h _ U,fun _ _ _ h=>by cases h⟩
theorem Rel.de {w bc:World}{ok jv:Nat->Prop}{aH lp:hI}{aP kU:hs}{x:aj}(bN:cm x): ∀ {v:Value},Pure x->Rel w ok aH aP x v->Rel bc jv lp kU x v:=by
 induction bN with
 | dead=>intro v _ h;exact .dead v
 | b x=>intro v _ h;rw[h.sa];exact .b x
 | n k x=>intro v _ h;rw[h.mQ];exact .n k x
 | s x=>intro v _ h;rw[h.wb];exact .s x
 | gP=>intro v _ h;rw[h.s8];exact .gP
 | eC=>intro v _ h;rw[h.n8];exact .eC
 | gT=>intro v _ h;obtain⟨a,c,rfl⟩:=h.AB;exact .gT a c
 | iy sz =>
  intro v _ h;rcases h.q1 with ⟨-,a,c,rfl,bs⟩|⟨cY,off,c,-,rfl,-⟩
  ·exact .iy sz a c bs
  exact .iy sz _ c (fun h=>by simp at h)
 | ref=>intro v af;cases af
 | bz=>intro v af;cases af
 | hf=>intro v af;cases af
 | @agg c aJ ih =>
  intro v af h;obtain⟨vs,rfl,o,J,an⟩:=h.vP
  cases af with
  | agg af=>exact .agg vs o J fun j x u U hu=>ih x (dD U) (af x (dD U)) (an j x u U hu)
 | @dl c aJ ih =>
  intro v af h;obtain⟨vs,rfl,o,an⟩:=h.vQ
  cases af with
  | dl af=>exact .dl vs o fun j x u U hu=>ih x (dD U) (af x (dD U)) (an j x u U hu)
section
variable {P:Program} {g:G} {s:S} {ai:el} {a:Act} {w:World}
theorem xY (h:gK g s ai w){r k b m:Nat}{I:az}(ae:s.ab r k=some I)(af:ai r k=some (b,m)):b<w.heap.size:=by have:=h.obj r k I ae;rw[af] at this;obtain⟨c,c9,e,-⟩:=this;exact(Y3.1 e).1
theorem SA (h:gK g s ai w){r k b m:Nat}{I:az}(ae:s.ab r k=some I)(aL:I.bV = .h4)(af:ai r k=some (b,m)):s.ok g ai w b:=by
 refine⟨xY h ae af,?_,?_⟩
 ·rcases h.own r k I b m ae af with e|e
  ·exact .inr (.inl e)
  exact .inr (.inr e)
 rintro⟨dn,cA,bD,aX,o,J,an⟩;obtain⟨rfl,rfl⟩:=h.inj r k I dn cA bD b m aX ae o af an;rw[ae] at o;simp at o;subst o;rw[aL] at J;simp at J
theorem enter (h:gK g s ai w){ax:fA}{bw:e1->Bool}{q:aj->Prop}{T:List (List az)}(A:Nat->Prop)
 (hA : ∀b,A b->b<w.heap.size) (ET : ∀b,s.ok g ai w b->A b)
 (EU : ∀r k I b m,s.ab r k=some I->bw I.bV=true->ai r k=some (b,m)->A b)
 (cb:ox s ax bw q (d3 T).au) (od : ∀r k I,(∃j i,ax j i=some (r,k))->s.ab r k=some I->I.bV = .live) :
 ∃eU:G,eU.lc=w/\eU.A=A/\eU.m=T.length/\eU.np=(d3 T).aH/\eU.pP=(d3 T).aP (ia ai ax) /\
  (eU.nX=fun b=> ∃r k I m,(∃j i,ax j i=some (r,k))/\s.ab r k=some I/\ai r k=some (b,m))/\gK eU (d3 T) (ia ai ax) w /\
  ∀ {x ca:aj} {v:Value},gl s ax bw q x ca->Rel w (s.ok g ai w) s.aH (s.aP ai) x v->Rel w ((d3 T).ok eU (ia ai ax) w) (d3 T).aH ((d3 T).aP (ia ai ax)) ca v:=by
 let eU:G:={lc:=w,A:=A,nX:=fun b=> ∃r k I m,(∃j i,ax j i=some (r,k))/\s.ab r k=some I/\ai r k=some (b,m),N:=0,m:=T.length,np:=(d3 T).aH,pP:=(d3 T).aP (ia ai ax)}
 refine⟨eU,rfl,rfl,rfl,rfl,rfl,rfl,?_⟩;have gH : ∀b,(d3 T).kl (ia ai ax) b-> ∃r k I m,s.ab r k=some I/\I.bV = .live/\ai r k=some (b,m)/\ ∃j i,ax j i=some (r,k):=fun b aw=>cb.live b aw;refine gK.F1 (bj:=d3 T) (eU:=eU) h cb ⟨rfl,rfl,rfl,dF _,fun _ _ _=>rfl⟩ (fun j k ao=>⟨ao,.inl rfl⟩) ?_ ?_ hA ?_ ?_ ?_
 ·intro j k ao
  have ao:k<((T[j]?).getD []).length:=ao;rcases Nat.lt_or_ge j T.length with o|o
  ·exact o
  rw[dP o] at ao;simp at ao
 ·rintro b ⟨r,k,I,m,-,ae,af⟩;exact xY h ae af
 ·intro r k I b m hm ae af;exact .inr ⟨r,k,I,m,hm,ae,af⟩
 ·intro b aE;refine⟨aE.1,.inl (ET b aE),fun aw=> ?_⟩;obtain⟨r,k,I,m,o,J,an,-⟩:=gH b aw;exact aE.2.2 ⟨r,k,I,m,o,J,an⟩
 intro r k I b m ae bs ah af;refine⟨xY h ae af,.inl (EU r k I b m ae bs af),fun aw=> ?_⟩;obtain⟨dn,cA,bD,aX,o,J,an,⟨j,i,ao⟩⟩:=gH b aw;obtain⟨rfl,rfl⟩:=h.inj r k I dn cA bD b m aX ae o af an;exact ah j i ao
theorem leave (h:b7 g s ai a w){bc:World}{ax jl:fA}{bw:e1->Bool}{q0 q:aj->Prop}{eU:G}{T c1:List (List az)}{jx:el}
 (cZ:eU.lc=w) (hA:(∀b,eU.A b->s.ok g ai w b)\/(∀x,q x->cm x)) (tV:eU.np=(d3 T).aH) (jQ:eU.pP=(d3 T).aP (ia ai ax))
 (c3:eU.nX=fun b=> ∃r k I m,(∃j i,ax j i=some (r,k))/\s.ab r k=some I/\ai r k=some (b,m))
 (od : ∀r k I,(∃j i,ax j i=some (r,k))->s.ab r k=some I->I.bV = .live)
 (cb:ox s ax bw q0 (d3 T).au) (o:gK eU (d3 c1) jx bc)
 (yb : ∀j i r k,ax j i=some (r,k)->jl r k=some (j,i)) (Ba : ∀r k j i,jl r k=some (j,i)->ax j i=some (r,k)\/ ¬s.aH r k)
 (TN : ∀r k dn cA p,jl r k=some p->jl dn cA=some p->r=dn/\k=cA)
 {s2:S} (c7:s2.E=s.E)
 (aW : ∀r k I,s2.ab r k=some I->(∃j i p,jl r k=some (j,i)/\(d3 c1).ab j i=some p/\mV (d3 c1) jl (fun _=>false) q p I)\/(jl r k=none/\s.ab r k=some I))
 (hP : ∀r k,s.aH r k->s2.aH r k) (TO : ∀r k j i,jl r k=some (j,i)->(d3 c1).aH j i->s2.aH r k)
 {x ca:aj} {v:Value} (U:gl (d3 c1) jl (fun _=>false) q x ca) (aT:Rel bc ((d3 c1).ok eU jx bc) (d3 c1).aH ((d3 c1).aP jx) x v) :
 ∃jV,b7 g s2 jV a bc/\Rel bc (s2.ok g jV bc) s2.aH (s2.aP jV) ca v:=by
 let jV:el:=fun r k=>match jl r k with|some (j,i)=>jx j i|none=>ai r k
 have gk : ∀r k j i,jl r k=some (j,i)->jV r k=jx j i:=fun r k j i e=>by simp[jV,e]
 have ht : ∀r k,jl r k=none->jV r k=ai r k:=fun r k e=>by simp[jV,e]
 have aL:=o.fU;have dv:w.heap.size<=bc.heap.size:=by have:=aL.size;rw[cZ] at this;exact this
 have rf : ∀b,b<w.heap.size-> ¬eU.nX b->bc.heap[b]? = w.heap[b]? := fun b aE jd=>by have:=aL.block b (by rw[cZ];exact aE) jd;rw[cZ] at this;exact this
 have Bu : ∀j k p b m,(d3 c1).ab j k=some p->jx j k=some (b,m)->w.heap.size<=b\/ ∃r cA I aX,(∃j i,ax j i=some (r,cA))/\s.ab r cA=some I/\ai r cA=some (b,aX):=by
  intro j k p b m af aE;rcases o.own j k p b m af aE with e|e
  ·rw[cZ] at e;exact .inl e
  rw[c3] at e;exact .inr e
 have hold : ∀q k I b m,jl q k=none->s.ab q k=some I->ai q k=some (b,m)->b<w.heap.size/\ ¬eU.nX b:=by intro q k I b m aU ae af;refine⟨xY h.togK ae af,fun jd=> ?_⟩;rw[c3] at jd;obtain⟨r,cA,bD,aX,⟨j,i,ah⟩,cS,kw⟩:=jd;obtain⟨rfl,rfl⟩:=h.inj q k I r cA bD b m aX ae cS af kw;rw[yb _ _ _ _ ah] at aU;simp at aU
 have Kk : ∀b,s2.kl jV b->(d3 c1).kl jx b\/(∃q k I m,jl q k=none/\s.ab q k=some I/\I.bV = .live/\ai q k=some (b,m)):=by
  rintro b ⟨q,k,I,m,ae,lv,af⟩;rcases aW q k I ae with ⟨j,i,p,ap,av,bS⟩|⟨ap,av⟩
  ·rw[gk _ _ _ _ ap] at af;exact .inl ⟨j,i,p,m,av,JQ bS lv,af⟩
  rw[ht _ _ ap] at af;exact .inr ⟨q,k,I,m,ap,av,lv,af⟩
 have mv : ∀b,s.ok g ai w b->s2.ok g jV bc b:=by
  intro b aE;refine⟨Nat.lt_of_lt_of_le aE.1 dv,aE.2.1,fun aw=> ?_⟩;rcases Kk b aw with ⟨j,k,p,m,ap,av,bS⟩|⟨q,k,I,m,ap,av,bS,dj⟩
  ·rcases Bu j k p b m ap bS with e|⟨r,cA,I,aX,ah,ae,af⟩
   ·have:=aE.1;omega
   exact aE.2.2 ⟨r,cA,I,aX,ae,od r cA I ah ae,af⟩
  exact aE.2.2 ⟨q,k,I,m,av,bS,dj⟩
 have Li : ∀r k,s.aH r k->s2.aP jV r k=s.aP ai r k\/s2.aP jV r k=none:=by
  intro r k ah
  cases ae:s2.ab r k with
  | none=>right;simp[S.aP,ae]
  | some I =>
   left;rcases aW r k I ae with ⟨j,i,p,ap,av,bS⟩|⟨ap,av⟩;rotate_left
   ·rw[gu ae,gu av,ht _ _ ap]
   rcases Ba r k j i ap with ao|ao
   ·have jR:=(o.stay j i (by rw[tV];exact cb.aH _ _ _ _ ao ah)).2
    rw[jQ,gu av] at jR
    have jR:some (p.sz,jx j i)=(d3 T).aP (ia ai ax) j i:=by
     rcases jR with e|e
     ·exact e
     simp at e
    have:=cb.Bt (bj:=d3 T) (ai:=ai) ao;rw[<- jR] at this;rw[gu ae,bS.sz,gk _ _ _ _ ap];rcases this with e|e
    ·exact e
    simp at e
   exact absurd ah ao
 have Th : ∀b,s.ok g ai w b->bc.heap[b]? = w.heap[b]? := by intro b aE;refine rf b aE.1 fun jd=> ?_;rw[c3] at jd;obtain⟨r,cA,I,aX,ah,ae,af⟩:=jd;exact aE.2.2 ⟨r,cA,I,aX,ae,od r cA I ah ae,af⟩
 have dY : ∀ {y:aj} {u:Value},Rel w (s.ok g ai w) s.aH (s.aP ai) y u->Rel bc (s2.ok g jV bc) s2.aH (s2.aP jV) y u :=
  fun ah=>ah.mono mv Th hP Li
 have TP:(∀b,eU.A b->s.ok g ai w b)-> ∀b,(d3 c1).ok eU jx bc b->s2.ok g jV bc b:=by
  intro hA b aE
  have Er:g.A b\/g.lc.heap.size<=b\/g.nX b:=by
   rcases aE.2.1 with e|e|e
   ·exact(hA b e).2.1
   ·rw[cZ] at e;exact .inr (.inl (Nat.le_trans h.fU.size e))
   rw[c3] at e;obtain⟨r,k,I,m,-,ae,af⟩:=e;rcases h.own r k I b m ae af with e|e
   ·exact .inr (.inl e)
   exact .inr (.inr e)
  refine⟨aE.1,Er,fun aw=> ?_⟩;rcases Kk b aw with e|⟨q,k,I,m,ap,av,bS,dj⟩
  ·exact aE.2.2 e
  have aU:=hold q k I b m ap av dj;rcases aE.2.1 with e|e|e
  ·exact(hA b e).2.2 ⟨q,k,I,m,av,bS,dj⟩
  ·rw[cZ] at e;omega
  exact aU.2 e
 have KR : ∀ {y kD:aj} {u:Value},gl (d3 c1) jl (fun _=>false) q y kD->Rel bc ((d3 c1).ok eU jx bc) (d3 c1).aH ((d3 c1).aP jx) y u->Rel bc (s2.ok g jV bc) s2.aH (s2.aP jV) kD u:=by
  intro y kD u bN ah;refine bN.rel o (fun x v aU af ah=> ?_) (fun _ _ _ _ _ _ bs _ _=>by simp at bs) ?_ ah
  ·rcases hA with hA|hA
   ·exact ah.pure af (TP hA)
   exact ah.de (hA x aU) af
  intro r k j i aU ao;refine⟨TO r k j i aU ao,?_⟩
  cases ae:s2.ab r k with
  | none=>right;simp[S.aP,ae]
  | some I =>
   left;rcases aW r k I ae with ⟨gF,d7,p,ap,av,bS⟩|⟨ap,-⟩
   ·rw[aU] at ap;simp only[dx,dC] at ap;obtain⟨rfl,rfl⟩:=ap;rw[gu ae,gu av,bS.sz,gk _ _ _ _ aU]
   rw[aU] at ap;simp at ap
 refine⟨jV,{togK:=⟨?_,?_,?_,?_,h.mlt,h.lX,?_,h.low⟩,env:=fun t=>by rw[c7];exact dY (h.env t),defers:=h.defers,h9:=h.h9},KR U aT⟩
 ·intro q k I ae
  rcases aW q k I ae with ⟨j,i,p,ap,av,bS⟩|⟨ap,av⟩
  ·have af:=o.obj j i p av
   rw[gk _ _ _ _ ap]
   cases iY:jx j i with
   | none =>
    rw[iY] at af;simp only[hl] at af ⊢;apply dJ.1;rw[bS.len,af];rfl
   | some rJ =>
    obtain⟨b,m⟩:=rJ;rw[iY] at af;obtain⟨c,c9,f1,f2,f3,f4⟩:=af;have h5:I.es.flatten.length=p.es.flatten.length:=(by rw[qg _ bS.each,qg _ f3,bS.len]);refine⟨c,c9,f1,f2,by rw[bS.sz];exact bS.each,fun i ca cL=> ?_⟩;have c0:i<p.es.flatten.length:=(by rw[<- h5];exact eV cL);have my:=dw c0;obtain⟨u,lf,oJ,fK⟩:=f4 i _ my;exact⟨u,lf,oJ,KR (bS.at_ i _ ca my cL) fK⟩
  have af:=h.obj q k I av;rw[ht _ _ ap]
  cases iY:ai q k with
  | none=>rw[iY] at af;exact af
  | some rJ =>
   obtain⟨b,m⟩:=rJ;rw[iY] at af;obtain⟨c,c9,f1,f2,f3,f4⟩:=af;obtain⟨wC,yU⟩:=hold q k I b m ap av iY;refine⟨c,c9,(rf b wC yU).trans f1,f2,f3,fun i ca cL=> ?_⟩;obtain⟨u,lf,oJ,fK⟩:=f4 i ca cL;exact⟨u,lf,oJ,dY fK⟩
 ·intro q k I gj cA bD b m aX J an aG aN
  rcases aW q k I J with ⟨j,i,p,ap,av,bS⟩|⟨ap,av⟩<;>rcases aW gj cA bD an with ⟨gF,d7,iQ,lu,nV,yQ⟩|⟨lu,nV⟩
  ·rw[gk _ _ _ _ ap] at aG;rw[gk _ _ _ _ lu] at aN;obtain⟨rfl,rfl⟩:=o.inj j i p gF d7 iQ b m aX av nV aG aN;exact TN _ _ _ _ _ ap lu
  ·rw[gk _ _ _ _ ap] at aG;rw[ht _ _ lu] at aN
   obtain⟨f1,f2⟩:=hold gj cA bD b aX lu nV aN;rcases Bu j i p b m av aG with e|e
   ·omega
   exact absurd (by rw[c3];exact e) f2
  ·rw[ht _ _ ap] at aG;rw[gk _ _ _ _ lu] at aN
   obtain⟨f1,f2⟩:=hold q k I b m ap av aG;rcases Bu gF d7 iQ b aX nV aN with e|e
   ·omega
   exact absurd (by rw[c3];exact e) f2
  rw[ht _ _ ap] at aG;rw[ht _ _ lu] at aN;exact h.inj q k I gj cA bD b m aX av nV aG aN
 ·intro q k I b m J aG
  rcases aW q k I J with ⟨j,i,p,ap,av,bS⟩|⟨ap,av⟩
  ·rw[gk _ _ _ _ ap] at aG
   rcases Bu j i p b m av aG with e|⟨r,cA,bD,aX,ah,ae,af⟩
   ·exact .inl (Nat.le_trans h.fU.size e)
   exact h.own r cA bD b aX ae af
  rw[ht _ _ ap] at aG;exact h.own q k I b m av aG
 ·have ap:=aL.os;have av:=aL.tape;have bS:=aL.output
  rw[cZ] at ap av bS;refine h.fU.step ap av bS dv fun b aE rp=>rf b (Nat.lt_of_lt_of_le aE h.fU.size) fun jd=> ?_;rw[c3] at jd;obtain⟨r,k,I,m,-,ae,af⟩:=jd;rcases h.own r k I b m ae af with e|e
  ·omega
  exact rp e
 intro j k ao;obtain⟨ap,av⟩:=h.stay j k ao;refine⟨hP j k ap,?_⟩;rcases Li j k ap with e|e
 ·rw[e];exact av
 exact .inr e
def je (a b n:Nat):aj->aj
 | .ref r k i off=>if r=a then .ref b (n+k) i off else .ref r k i off
 | .bz r k bb len=>if r=a then .bz b (n+k) bb len else .bz r k bb len
 | .hf r c sz h=>if r=a then .hf b (n+c) sz h else .hf r c sz h
 | .agg c=> .agg (wF c)
 | .dl c=> .dl (wF c)
 | x=>x
where wF:List aj->List aj
 | []=>[]
 | x::l=>je a b n x::wF l
def kX (a b n:Nat)(I:az):az:={I with es:=I.es.map fun e=>e.map (je a b n)}
def pH (I:az):az:=⟨0,[],.gone⟩
theorem AN (a b n:Nat): ∀l:List aj,je.wF a b n l=l.map (je a b n)
 | []=>rfl
 | x::l=>by rw[je.wF,AN a b n l];rfl
theorem iV (l:List az)(k:Nat):cB (some l) k=(l[k]?).bind fun I=>if I.bV = .gone then none else some I:=by unfold cB;cases h:l[k]? <;> simp[h]
theorem map_flatten {es:List (List aj)}(f:aj->aj):(es.map fun e=>e.map f).flatten=es.flatten.map f:=by
 induction es with
 | nil=>rfl
 | cons e es ih=>rw[List.map_cons,dS,dS,List.map_append,ih]
theorem b7.merge (h:b7 g s ai a w){r dn:Nat}{l ff:List az}(ah:s.au r=some l)(gd:s.au dn=some ff)(cc:dn≠r):
 ∃bf,b7 g ((s.setRow dn (ff.map pH)).setRow r (l++ff.map (kX dn r l.length))) bf a w /\
  ∀x v,Rel w (s.ok g ai w) s.aH (s.aP ai) x v->Rel w (((s.setRow dn (ff.map pH)).setRow r (l++ff.map (kX dn r l.length))).ok g bf w)
   ((s.setRow dn (ff.map pH)).setRow r (l++ff.map (kX dn r l.length))).aH (((s.setRow dn (ff.map pH)).setRow r (l++ff.map (kX dn r l.length))).aP bf) (je dn r l.length x) v:=by
 generalize tW:(s.setRow dn (ff.map pH)).setRow r (l++ff.map (kX dn r l.length))=s2
 let bf:el:=fun q k=>if q=r/\l.length<=k then ai dn (k-l.length) else ai q k
 have aW : ∀q k I,s2.ab q k=some I->(q=r/\l.length<=k/\ ∃p,s.ab dn (k-l.length)=some p/\I=kX dn r l.length p/\bf q k=ai dn (k-l.length)) \/
  (q≠dn/\s.ab q k=some I/\bf q k=ai q k/\ ¬(q=r/\l.length<=k)):=by
  intro q k I ae;subst tW;rw[j0] at ae;by_cases e:q=r;rotate_left
  ·rw[dz e,j0] at ae
   by_cases av:q=dn
   ·subst av
    rw[dy rfl,iV,dI] at ae
    cases af:ff[k]? with
    | none=>rw[af] at ae;simp at ae
    | some p=>rw[af] at ae;simp[pH] at ae
   rw[dz av] at ae;exact .inr ⟨av,ae,by simp[bf,e],fun eP=>e eP.1⟩
  subst e;rw[dy rfl] at ae;by_cases aL:l.length<=k
  ·left
   refine⟨rfl,aL,?_⟩;rw[iV,Y6 aL,dI] at ae
   cases af:ff[k-l.length]? with
   | none=>rw[af] at ae;simp at ae
   | some p =>
    rw[af] at ae;simp only[dN,dB] at ae;split at ae
    ·simp at ae
    rename_i cZ;simp only[dx] at ae;refine⟨p,?_,ae.symm,by simp[bf,aL]⟩;unfold S.ab;rw[gd,iV,af,dB,dz (by simpa [kX] using cZ)]
  right;refine⟨Ne.symm cc,?_,by simp[bf,aL],fun eP=>aL eP.2⟩;unfold S.ab;rw[ah,iV];rw[iV,Y1 (by omega)] at ae;exact ae
 have hP : ∀q k,s.aH q k->s2.aH q k:=by
  intro q k aU;subst tW;rw[lO];by_cases e:q=r
  ·subst e;rw[dy rfl];simp[S.aH,ah] at aU;simp;omega
  rw[dz e,lO];by_cases av:q=dn
  ·subst av;rw[dy rfl];simpa [S.aH,gd] using aU
  rw[dz av];exact aU
 have yA : ∀k,s.aH dn k->s2.aH r (l.length+k):=by intro k aU;subst tW;rw[lO,dy rfl];simp[S.aH,gd] at aU;simp;omega
 have yB : ∀k,s2.aP bf r (l.length+k)=s.aP ai dn k:=by
  intro k;subst tW;simp only[S.aP];rw[j0,dy rfl];unfold S.ab;rw[gd,iV,iV,Y6 (by omega),dI,show l.length+k-l.length=k by omega]
  cases af:ff[k]? with
  | none=>simp
  | some p =>
   simp only[dN,dB];by_cases cZ:p.bV = .gone
   ·rw[dy cZ,dy (by simpa [kX] using cZ)];rfl
   rw[dz cZ,dz (by simpa [kX] using cZ)];simp[bf,kX]
 have jQ : ∀q k,s.aH q k->s2.aP bf q k=s.aP ai q k\/s2.aP bf q k=none:=by
  intro q k aU
  cases ae:s2.ab q k with
  | none=>right;simp[S.aP,ae]
  | some I =>
   left;rcases aW q k I ae with ⟨rfl,av,-⟩|⟨-,av,bS,-⟩
   ·simp[S.aH,ah] at aU;omega
   rw[gu ae,gu av,bS]
 have od : ∀b,s2.kl bf b->s.kl ai b:=by
  rintro b ⟨q,k,I,m,o,J,an⟩;rcases aW q k I o with ⟨-,-,p,ap,av,bS⟩|⟨-,ap,av,-⟩
  ·rw[bS] at an;subst av;exact⟨dn,_,p,m,ap,J,an⟩
  rw[av] at an;exact⟨q,k,I,m,ap,J,an⟩
 have cp:Step g s ai w s2 bf w:=⟨hP,jQ,fun b aw=> .inl (od b aw),fun _ _ _=>rfl,dF _⟩
 have yV : ∀x v,Rel w (s.ok g ai w) s.aH (s.aP ai) x v->Rel w (s2.ok g bf w) s2.aH (s2.aP bf) (je dn r l.length x) v:=by
  intro x v l1
  induction l1 with
  | dead v=>exact .dead v
  | b x=>exact .b x
  | n k x=>exact .n k x
  | s x=>exact .s x
  | gP=>exact .gP
  | eC=>exact .eC
  | gT a c=>exact .gT a c
  | @n9 ak k i off a hu eP =>
   unfold je;split
   ·rename_i e;subst e;exact .n9 a (yA k hu) (by rw[yB];exact eP)
   exact cp.rel (.n9 a hu eP)
  | @ref ak k i off sz cY m hu eP =>
   unfold je;split
   ·rename_i e;subst e;exact .ref (yA k hu) (by rw[yB];exact eP)
   exact cp.rel (.ref hu eP)
  | @lP ak k bb len a bG cq hu eP =>
   unfold je;split
   ·rename_i e;subst e;exact .lP a bG cq (yA k hu) (by rw[yB];exact eP)
   exact cp.rel (.lP a bG cq hu eP)
  | @me ak k sz hu eP =>
   unfold je;split
   ·rename_i e;subst e;exact .me (yA k hu) (by rw[yB];exact eP)
   exact cp.rel (.me hu eP)
  | @bz ak k bb len sz cY m c a hu eP aw aJ kv =>
   unfold je;split
   ·rename_i e;subst e;exact .bz (yA k hu) (by rw[yB];exact eP) aw aJ kv
   exact cp.rel (.bz hu eP aw aJ kv)
  | @lk ak c sz v h0 ih =>
   unfold je;split
   ·exact .lk (cp.rel h0)
   exact cp.rel (.lk h0)
  | @mo ak c sz k n v h0 ih =>
   unfold je;split
   ·rename_i e;subst e;unfold je at ih;rw[dy rfl] at ih;exact .mo (by rw[show k+(l.length+c)=l.length+(k+c) by omega];exact ih)
   exact cp.rel (.mo h0)
  | iy sz a c h=>exact .iy sz a c h
  | isl cs aE af aw aJ hw ho l1 ih=>exact cp.rel (.isl cs aE af aw aJ hw ho l1)
  | d4 cs aE af aw hw ho l1 ih=>exact cp.rel (.d4 cs aE af aw hw ho l1)
  | nO sz=>exact .nO sz
  | nj h0 ih=>exact cp.rel (.nj h0)
  | agg vs aw ho l1 ih =>
   unfold je;rw[AN];refine .agg vs (by simpa using aw) ho fun j x v U aT=> ?_;rw[dI,dL] at U;obtain⟨y,aK,rfl⟩:=U;exact ih j y v aK aT
  | dl vs aw l1 ih =>
   unfold je;rw[AN];refine .dl vs (by simpa using aw) fun j x v U aT=> ?_;rw[dI,dL] at U;obtain⟨y,aK,rfl⟩:=U;exact ih j y v aK aT
  | fn vs aw l1 ih=>exact cp.rel (.fn vs aw l1)
 refine⟨bf,{togK:=⟨?_,?_,?_,h.fU,h.mlt,h.lX,?_,h.low⟩,env:=fun t=>by rw[show s2.E=s.E by rw[<- tW];rfl];exact cp.rel (h.env t),defers:=h.defers,h9:=h.h9},yV⟩
 ·intro q k I ae
  rcases aW q k I ae with ⟨-,-,p,ap,av,bS⟩|⟨-,ap,av,-⟩;rotate_left
  ·rw[av];exact cp.obj (fun b m _=>rfl) (h.obj q k I ap)
  rw[bS];subst av;have af:=h.obj dn _ p ap
  cases iY:ai dn (k-l.length) with
  | none=>rw[iY] at af;simp only[hl] at af ⊢;simp[kX,af]
  | some rJ =>
   obtain⟨b,m⟩:=rJ;rw[iY] at af;obtain⟨c,c9,f1,f2,f3,f4⟩:=af;refine⟨c,c9,f1,f2,?_,fun j x U=> ?_⟩
   ·intro e he;simp only[kX,List.mem_map] at he;obtain⟨dp,ks,rfl⟩:=he;simpa [kX] using f3 dp ks
   simp only[kX] at U;rw[map_flatten,dI,dL] at U;obtain⟨y,aK,rfl⟩:=U;obtain⟨u,lf,oJ,fK⟩:=f4 j y aK;exact⟨u,lf,oJ,yV y u fK⟩
 ·intro q k I aS jK bT b m aX o J an aG
  rcases aW q k I o with ⟨rfl,f1,p,ap,av,bS⟩|⟨f1,ap,av,f2⟩<;>rcases aW aS jK bT J with ⟨rfl,wG,iQ,lu,nV,yQ⟩|⟨wG,lu,nV,X2⟩
  ·rw[bS] at an;rw[yQ] at aG;obtain⟨-,e⟩:=h.inj _ _ _ _ _ _ b m aX ap lu an aG;exact⟨rfl,by omega⟩
  ·rw[bS] at an;rw[nV] at aG;obtain⟨e,-⟩:=h.inj _ _ _ _ _ _ b m aX ap lu an aG;exact absurd e.symm wG
  ·rw[av] at an;rw[yQ] at aG;obtain⟨e,-⟩:=h.inj _ _ _ _ _ _ b m aX ap lu an aG;exact absurd e f1
  rw[av] at an;rw[nV] at aG;exact h.inj _ _ _ _ _ _ b m aX ap lu an aG
 ·intro q k I b m o J
  rcases aW q k I o with ⟨-,-,p,ap,av,bS⟩|⟨-,ap,av,-⟩
  ·rw[bS] at J;exact h.own dn _ p b m ap J
  rw[av] at J;exact h.own q k I b m ap J
 exact cp.stay h.stay
end
def aj.hk:aj->Bool
 | .dead | .b _ | .n .. | .s _ | .gP | .eC | .gT | .isl .. | .d4 .. | .iA .. => true
 | _=>false
def aj.xZ:aj->Bool
 | .agg c=>c.all aj.hk
 | .fn _ c=>c.all aj.hk
 | x=>x.hk
def aj.KS:aj->Bool
 | .dl c=>c.all aj.xZ
 | x=>x.xZ
section
variable {w:World} {ok:Nat->Prop} {aH:hI} {aP:hs}
theorem Rel.wc {x:aj}{v:Value}(h:Rel w ok aH aP x v)(aZ:x.hk=true):Pure x:=by
 cases h with
 | dead=>exact .dead
 | b=>exact .b _
 | n=>exact .n _ _
 | s=>exact .s _
 | gP=>exact .gP
 | eC=>exact .eC
 | gT=>exact .gT
 | iy=>exact .isl (by simp)
 | isl cs aE af=>exact .isl af
 | d4 cs aE af=>exact .d4 af
 | nO sz=>exact .nO sz
 | nj h=>cases h with|d4 cs aE af=>exact .nj fun x U=>af _ (List.mem_singleton.2 rfl) x U
 | _=>simp[aj.hk] at aZ
theorem Ip {c:List aj}{vs:List Value}(aw:vs.length=c.length)(ah:∀(j:Nat) x u,c[j]? = some x->vs[j]? = some u->Rel w ok aH aP x u)
 (aZ:c.all aj.hk=true) : ∀x∈c,Pure x:=by
 intro x U;obtain⟨j,ao⟩:=Y2 U;have c0:j<vs.length:=by have:=eV ao;omega
 exact(ah j x _ ao (dw c0)).wc (List.all_eq_true.1 aZ x U)
theorem Rel.AX {x:aj}{v:Value}(h:Rel w ok aH aP x v)(aZ:x.xZ=true):Pure x:=by
 cases h with
 | agg vs aw aJ ah=>exact .agg (Ip aw ah aZ)
 | fn vs aw ah=>exact .fn (Ip aw ah aZ)
 | dead=>exact .dead
 | b=>exact .b _
 | n=>exact .n _ _
 | s=>exact .s _
 | gP=>exact .gP
 | eC=>exact .eC
 | gT=>exact .gT
 | iy=>exact .isl (by simp)
 | isl cs aE af=>exact .isl af
 | d4 cs aE af=>exact .d4 af
 | nO sz=>exact .nO sz
 | nj h=>cases h with|d4 cs aE af=>exact .nj fun x U=>af _ (List.mem_singleton.2 rfl) x U
 | _=>simp[aj.xZ,aj.hk] at aZ
theorem Rel.Ti {x:aj}{v:Value}(h:Rel w ok aH aP x v)(aZ:x.KS=true):Pure x:=by
 by_cases b3 : ∃c,x = .dl c
 ·obtain⟨c,rfl⟩:=b3;obtain⟨vs,rfl,aw,ah⟩:=h.vQ;refine .dl fun x U=> ?_;obtain⟨j,ao⟩:=Y2 U;have c0:j<vs.length:=(by have:=eV ao;omega);exact(ah j x _ ao (dw c0)).AX (List.all_eq_true.1 aZ x U)
 refine h.AX ?_;cases x<;>first|exact aZ|exact absurd ⟨_,rfl⟩ b3
end
def c4:List Nat->Nat->Option Nat
 | [],_=>none
 | x::l,r=>if x=r then some 0 else (c4 l r).map (· + 1)
theorem Iq : ∀ {l:List Nat} {r j:Nat},c4 l r=some j->l[j]? = some r
 | x::l,r,j,h=>by
  unfold c4 at h;split at h
  ·simp at h;subst h;simp[*]
  rw[dL] at h;obtain⟨i,ad,rfl⟩:=h;simpa using Iq ad
theorem Ir : ∀ {l:List Nat} {r j:Nat},l.Nodup->l[j]? = some r->c4 l r=some j
 | x::l,r,j,aZ,h=>by
  rw[List.nodup_cons] at aZ;unfold c4
  cases j with
  | zero=>simp at h;simp[h]
  | succ j =>
   simp at h;have:x≠r:=(by rintro rfl;exact aZ.1 (dD h));rw[dz this,Ir aZ.2 h];rfl
def yW (dd:Nat)(il:List az)(bw:e1->Bool)(x ca:aj):Prop :=
 (ca=x/\x.hk=true)\/(∃c sz,x = .hf dd c sz none/\ca = .isl sz [])\/ ∃k bb len I,(x = .bz dd k bb len\/ ∃c sz hK,k=hK+c/\bb=0/\x = .hf dd c sz (some (hK,len)))/\cB (some il) k=some I/\bw I.bV=true/\bb+len<=I.es.length /\
   hy ((I.es.drop bb).take len)/\ca = .isl I.sz ((I.es.drop bb).take len)
def zy (dd:Nat)(il:List az)(bw:e1->Bool)(sz:Nat)(es fa:List (List aj)):Prop :=
 fa.length=es.length/\(∀e∈fa,e.length=sz)/\ ∀(j:Nat) x ca,es.flatten[j]? = some x->fa.flatten[j]? = some ca->yW dd il bw x ca
def j4 (au:Nat->Option (List az))(bP:Nat->Option Nat)(ax:fA)(bw:e1->Bool):p6->aj->Option (aj×List Prop)
 | .id,x=>if x.hk then some (x,[]) else
  match x with
  | .ref r k i off=>match bP r with
   | some j=>some (.ref j k i off,[])
   | none=>none
  | .bz r k bb len=>match bP r with
   | some j=>some (.bz j k bb len,[])
   | none=>none
  | .hf r c sz h=>match bP r with
   | some j=>some (.hf j c sz h,[])
   | none=>none
  | _=>none
 | .oH sz,.eC=>some (.isl sz [],[])
 | .oH sz,.gT=>some (.isl sz [],[])
 | .e5 fa,.bz r k bb len=>match cB (au r) k with
  | some I=>if bw I.bV && (bP r).isNone then some (.isl I.sz fa,[fa=(I.es.drop bb).take len,bb+len<=I.es.length,hy fa]) else none
  | none=>none
 | .hT,_=>some (.dead,[])
 | .du y,x=>if x.hk then some (y,[x=y]) else none
 | .len n,.bz r k bb len=>match bP r with
  | some j=>some (.bz j k bb n,[len=n])
  | none=>none
 | .FY sz,x=>match x with
  | .gP=>some (.iA sz none,[])
  | .d4 Bp [c] 0 0=>if Bp=sz then some (.iA sz (some c),[]) else none
  | _=>none
 | .at_ j i n,.bz r k bb len=>some (.bz j i bb n,[ax j i=some (r,k),len=n])
 | .at_ j i _,.ref r k x y=>some (.ref j i x y,[ax j i=some (r,k)])
 | .view dd I fa,.bz r k bb len=>match au r,au dd with
  | some row,some il=>if (bP r).isNone && (bP dd).isNone then
   some (.isl I.sz fa,[cB (some row) k=some I,bw I.bV=true,bb+len<=I.es.length,hy fa,zy dd il bw I.sz ((I.es.drop bb).take len) fa]) else none
  | _,_=>none
 | _,_=>none
def j5 {α β:Type}(f:α->β->Option (β×List Prop)):List α->List β->Option (List β×List Prop)
 | [],[]=>some ([],[])
 | a::l,b::m=>match f a b,j5 f l m with
  | some (iq,bT),some (aX,a2)=>some (iq::aX,bT++a2)
  | _,_=>none
 | _,_=>none
def mR (au:Nat->Option (List az))(bP:Nat->Option Nat)(ax:fA)(bw:e1->Bool):wW->aj->Option (aj×List Prop)
 | .cV c,x=>if x.xZ then (match c with | .id=>some (x,[]) | .hT=>some (.dead,[]) | .du y=>some (y,[x=y])|c=>j4 au bP ax bw c x) else j4 au bP ax bw c x
 | .agg l,.agg c=>match j5 (j4 au bP ax bw) l c with
  | some (cX,ab)=>some (.agg cX,ab)
  | none=>none
 | .ptr l,.ref r k i off=>match cB (au r) k with
  | some I=>match I.es with
   | [c]=>if bw I.bV && (bP r).isNone then
    match j5 (j4 au bP ax bw) l c with
    | some (cX,ab)=>some (.d4 I.sz [cX] i off,ab++[hy [cX]])
    | none=>none
    else none
   | _=>none
  | none=>none
 | .El l,x=>match x with
  | .ref r k 0 0=>match cB (au r) k with
   | some I=>match I.es with
    | [c]=>if bw I.bV && (bP r).isNone then
     match j5 (j4 au bP ax bw) l c with
     | some (cX,ab)=>some (.iA I.sz (some cX),ab++[hy [cX]])
     | none=>none
     else none
    | _=>none
   | none=>none
  | _=>none
 | _,_=>none
def mi (au:Nat->Option (List az))(bP:Nat->Option Nat)(ax:fA)(bw:e1->Bool):jH->aj->Option (aj×List Prop)
 | .bG c,x=>if x.KS then (match c with | .cV .id=>some (x,[])|c=>mR au bP ax bw c x) else mR au bP ax bw c x
 | .comp l,.dl c=>match j5 (mR au bP ax bw) l c with
  | some (cX,ab)=>some (.dl cX,ab)
  | none=>none
 | .comp l,.fn f c=>match j5 (mR au bP ax bw) l c with
  | some (cX,ab)=>some (.fn f cX,ab)
  | none=>none
 | _,_=>none
def r2 (row:List az):Prop:= ∀I∈row,hy I.es/\I.bV = .live
def oe (row:List az):Prop:= ∀I∈row,I.bV = .live\/I.bV = .gone
def mz (bP:Nat->Option Nat):aj->aj
 | .ref r k i off=>match bP r with|some j=> .ref j k i off|none=> .dead
 | .bz r k bb len=>match bP r with|some j=> .bz j k bb len|none=> .dead
 | .hf r c sz h=>match bP r with|some j=> .hf j c sz h|none=> .dead
 | x=>if x.hk then x else .dead
def iZ (bP:Nat->Option Nat)(I:az):az:={I with es:=I.es.map fun e=>e.map (mz bP)}
def hB (au:Nat->Option (List az))(bP:Nat->Option Nat)(ax:fA)(bw:e1->Bool):gM->List az->Option (List az×List Prop)
 | .pure,row=>some (row,[r2 row])
 | .du cU,row=>some (cU,[row=cU,r2 cU])
 | .ck cU,row=>some (cU,[cU=row.map (iZ bP),oe row])
 | .box l,[I]=>match I.es with
  | [c]=>if I.bV = .live then match j5 (j4 au bP ax bw) l c with
   | some (cX,ab)=>some ([{I with es:=[cX]}],ab)
   | none=>none
   else none
  | _=>none
 | _,_=>none
structure rK (q:aj->Prop) (bw:e1->Bool):Prop extends Down q where
 all : ∀k,bw k=true-> ∀x,q x
theorem sq (bw:e1->Bool):rK kx bw:={toDown:=Te,all:=fun _ _ _=>trivial}
theorem UE:rK cm (fun _=>false):={toDown:=Tg,all:=fun _ h=>by simp at h}
structure lg (s:S) (ax:fA) (bP:Nat->Option Nat) (bw:e1->Bool):Prop where
 ad : ∀r j,bP r=some j-> ∀k,ax j k=some (r,k)
 aZ : ∀r,bP r=none-> ∀k I,s.ab r k=some I->bw I.bV=true-> ∀j i,ax j i≠some (r,k)
section
variable {g:G} {s:S} {ai:el} {w:World} {ax:fA} {bP:Nat->Option Nat} {bw:e1->Bool} {q:aj->Prop}
theorem As {α β:Type}(f:α->β->Option (β×List Prop)): ∀(l:List α) (m aX:List β) (ab:List Prop),j5 f l m=some (aX,ab) ->
 aX.length=m.length/\l.length=m.length/\ ∀(j:Nat) b iq,m[j]? = some b->aX[j]? = some iq-> ∃x bD,l[j]? = some x/\f x b=some (iq,bD)/\ ∀p∈bD,p∈ab
 | [],[],aX,ab,h=>by simp[j5] at h;obtain⟨rfl,rfl⟩:=h;exact⟨rfl,rfl,fun j b iq aE=>by simp at aE⟩
 | [],_::_,_,_,h=>by simp[j5] at h
 | _::_,[],_,_,h=>by simp[j5] at h
 | x::l,b::m,aX,ab,h=>by
  simp only[j5] at h;split at h
  ·rename_i iq bT fJ a2 o J
   simp only[dx,dC] at h;obtain⟨rfl,rfl⟩:=h;obtain⟨ap,av,bS⟩:=As f l m fJ a2 J;refine⟨by simp[ap],by simp[av],fun j c cX aJ tP=> ?_⟩
   cases j with
   | zero =>
    simp at aJ tP;subst aJ;subst tP;exact⟨x,bT,rfl,o,fun p af=>by simp[af]⟩
   | succ j =>
    simp at aJ tP;obtain⟨y,bD,f1,f2,f3⟩:=bS j c cX aJ tP;exact⟨y,bD,by simpa using f1,f2,fun p af=>by simp[f3 p af]⟩
  simp at h
theorem Dq (c3:gK g s ai w)(H:lg s ax bP bw)(bk:rK q bw){c:p6}{x ca:aj}{ab:List Prop}(h:j4 s.au bP ax bw c x=some (ca,ab))(aW:∀p∈ab,p)
 (aU:q x) {v:Value} (ah:Rel w (s.ok g ai w) s.aH (s.aP ai) x v):gl s ax bw q x ca:=by
 have hP : ∀ {r k bb len:Nat},x = .bz r k bb len->s.aH r k:=by intro r k bb len e;subst e;cases ah<;>assumption
 cases c with
 | id =>
  simp only[j4] at h;split at h
  ·rename_i aZ;simp only[dx,dC] at h;obtain⟨rfl,rfl⟩:=h;exact .pure (ah.wc aZ) aU
  split at h
  ·rename_i r k i off _
   split at h
   ·rename_i j ao;simp only[dx,dC] at h;obtain⟨rfl,rfl⟩:=h;exact .ref i off (H.ad r j ao k) (by cases ah<;>assumption)
   simp at h
  ·rename_i r k bb len _
   split at h
   ·rename_i j ao;simp only[dx,dC] at h;obtain⟨rfl,rfl⟩:=h;exact .bz bb len (H.ad r j ao k) (hP rfl)
   simp at h
  ·rename_i r c sz eP _
   split at h
   ·rename_i j ao;simp only[dx,dC] at h;obtain⟨rfl,rfl⟩:=h;exact .hf eP (fun k=>H.ad r j ao _)
   simp at h
  simp at h
 | oH sz =>
  cases x<;>simp[j4] at h
  ·obtain⟨rfl,rfl⟩:=h;exact .eC sz
  obtain⟨rfl,rfl⟩:=h;exact .gT sz
 | e5 fa =>
  cases x<;>simp only[j4,reduceCtorEq] at h;rename_i r k bb len;split at h;rotate_left
  ·simp at h
  rename_i I ae;split at h;rotate_left
  ·simp at h
  rename_i aJ;simp only[YX,Option.isNone_iff_eq_none] at aJ;simp only[dx,dC] at h;obtain⟨rfl,rfl⟩:=h;have o:fa=(I.es.drop bb).take len:=aW _ (by simp);have J:bb+len<=I.es.length:=aW _ (by simp);have an:hy fa:=aW _ (by simp);have cS:s.ab r k=some I:=ae
  have hlen : ∀e∈I.es,e.length=I.sz:=by
   have eD:=c3.obj r k I cS
   cases af:ai r k with
   | none=>rw[af] at eD;simp only[hl] at eD;rw[eD];simp
   | some q=>rw[af] at eD;obtain⟨_,_,_,_,e,_⟩:=eD;exact e
  refine .isl cS aJ.1 (H.aZ r aJ.2 k I cS aJ.1) J an ?_ ?_ ?_
  ·rw[o];exact fun e he=>hlen e (List.mem_of_mem_drop (List.mem_of_mem_take he))
  ·rw[o];simp;omega
  intro j y kD aK nq;rw[o] at nq;rw[aK] at nq;simp at nq;subst nq;rw[o] at an;obtain⟨e,he,yX⟩:=qQ aK;exact .pure (an e he y yX) (bk.all _ aJ.1 y)
 | hT =>
  simp only[j4,dx,dC] at h;obtain⟨rfl,rfl⟩:=h;exact .dead x
 | du y =>
  simp only[j4] at h;split at h
  ·rename_i aZ;simp only[dx,dC] at h;obtain⟨rfl,rfl⟩:=h;have e:x=y:=aW _ (by simp);subst e;exact .pure (ah.wc aZ) aU
  simp at h
 | len n =>
  cases x<;>simp only[j4,reduceCtorEq] at h;rename_i r k bb len;split at h
  ·rename_i j ao;simp only[dx,dC] at h;obtain⟨rfl,rfl⟩:=h;have e:len=n:=aW _ (by simp);subst e;exact .bz bb len (H.ad r j ao k) (hP rfl)
  simp at h
 | at_ j i n =>
  cases x<;>simp only[j4,reduceCtorEq] at h
  ·rename_i r k x y;simp only[dx,dC] at h;obtain⟨rfl,rfl⟩:=h;exact .ref x y (aW _ (List.mem_cons_self)) (by cases ah<;>assumption)
  rename_i r k bb len;simp only[dx,dC] at h;obtain⟨rfl,rfl⟩:=h;have e:len=n:=aW _ (by simp);subst e;exact .bz bb len (aW _ (List.mem_cons_self)) (hP rfl)
 | view dd I fa =>
  cases x<;>simp only[j4,reduceCtorEq] at h;rename_i r k bb len;split at h;rotate_left
  ·simp at h
  rename_i row il cu Tj;split at h;rotate_left
  ·simp at h
  rename_i aJ;simp only[YX,Option.isNone_iff_eq_none] at aJ;simp only[dx,dC] at h;obtain⟨rfl,rfl⟩:=h;have o:cB (some row) k=some I:=aW _ (by simp);have J:bw I.bV=true:=aW _ (by simp);have an:bb+len<=I.es.length:=aW _ (by simp);have aG:hy fa:=aW _ (by simp);have aN:zy dd il bw I.sz ((I.es.drop bb).take len) fa:=aW _ (by simp);have cS:s.ab r k=some I:=(by unfold S.ab;rw[cu];exact o);obtain⟨sD,pr,V5⟩:=aN;refine .isl cS J (H.aZ r aJ.1 k I cS J) an aG pr (by rw[sD];simp;omega) fun j y kD aK nq=> ?_;rcases V5 j y kD aK nq with ⟨rfl,aZ⟩|⟨cq,LG,rfl,rfl⟩|⟨hU,Bv,Bb,p,yY,ap,av,bS,dj,rfl⟩
  ·obtain⟨e,he,yX⟩:=qQ nq;exact .pure (aG e he kD yX) (bk.all _ J _)
  ·exact .lk _ _ _
  have kw:s.ab dd hU=some p:=by unfold S.ab;rw[Tj];exact ap
  have hlen : ∀e∈p.es,e.length=p.sz:=by
   have eD:=c3.obj dd hU p kw
   cases af:ai dd hU with
   | none=>rw[af] at eD;simp only[hl] at eD;rw[eD];simp
   | some q=>rw[af] at eD;obtain⟨_,_,_,_,e,_⟩:=eD;exact e
  have KT:gl s ax bw q (.bz dd hU Bv Bb) (.isl p.sz ((p.es.drop Bv).take Bb)):=(by refine .isl kw av (H.aZ dd aJ.2 hU p kw av) bS dj (fun e he=>hlen e (List.mem_of_mem_drop (List.mem_of_mem_take he))) (by simp;omega) fun j z YM bY tX=> ?_;rw[bY] at tX;simp at tX;subst tX;obtain⟨e,he,UF⟩:=qQ bY;exact .pure (dj e he z UF) (bk.all _ av _));rcases yY with rfl|⟨cV,X3,hK,rfl,rfl,rfl⟩
  ·exact KT
  exact .mo KT
 | FY sz =>
  simp only[j4] at h;split at h
  ·simp only[dx,dC] at h;obtain⟨rfl,rfl⟩:=h;exact .AW _
  ·split at h
   ·rename_i e;subst e;simp only[dx,dC] at h;obtain⟨rfl,rfl⟩:=h;exact .iA (.pure (ah.wc rfl) aU)
   simp at h
  simp at h
theorem xG (c3:gK g s ai w)(H:lg s ax bP bw)(bk:rK q bw){l:List p6}{c cX:List aj}{ab:List Prop}(h:j5 (j4 s.au bP ax bw) l c=some (cX,ab))(aW:∀p∈ab,p)
 (aU : ∀x∈c,q x) {vs:List Value} (aw:vs.length=c.length) (ah : ∀(j:Nat) x u,c[j]? = some x->vs[j]? = some u->Rel w (s.ok g ai w) s.aH (s.aP ai) x u) :
 cX.length=c.length/\ ∀(j:Nat) x ca,c[j]? = some x->cX[j]? = some ca->gl s ax bw q x ca:=by
 obtain⟨ap,av,bS⟩:=As _ l c cX ab h;refine⟨ap,fun j x ca U cL=> ?_⟩;obtain⟨y,bD,f1,f2,f3⟩:=bS j x ca U cL;have c0:j<vs.length:=by have:=eV U;omega
 exact Dq c3 H bk f2 (fun p af=>aW p (f3 p af)) (aU x (dD U)) (ah j x _ U (dw c0))
theorem Dr (c3:gK g s ai w)(H:lg s ax bP bw)(bk:rK q bw){c:wW}{x ca:aj}{ab:List Prop}(h:mR s.au bP ax bw c x=some (ca,ab))(aW:∀p∈ab,p)
 (aU:q x) {v:Value} (ah:Rel w (s.ok g ai w) s.aH (s.aP ai) x v):gl s ax bw q x ca:=by
 cases c with
 | cV c =>
  simp only[mR] at h;split at h;rotate_left
  ·exact Dq c3 H bk h aW aU ah
  rename_i aZ;split at h
  ·simp only[dx,dC] at h;obtain⟨rfl,rfl⟩:=h;exact .pure (ah.AX aZ) aU
  ·simp only[dx,dC] at h;obtain⟨rfl,rfl⟩:=h;exact .dead _
  ·simp only[dx,dC] at h;obtain⟨rfl,rfl⟩:=h;have e:=aW _ (List.mem_singleton.2 rfl);subst e;exact .pure (ah.AX aZ) aU
  exact Dq c3 H bk h aW aU ah
 | agg l =>
  cases x<;>simp only[mR,reduceCtorEq] at h;rename_i c;split at h
  ·rename_i cX l0 aJ;simp only[dx,dC] at h;obtain⟨rfl,rfl⟩:=h;obtain⟨vs,rfl,aw,-,yZ⟩:=ah.vP;obtain⟨ap,av⟩:=xG c3 H bk aJ aW (fun y aK=>bk.agg _ _ aU aK) aw yZ;exact .agg ap av
  simp at h
 | ptr l =>
  cases x<;>simp only[mR,reduceCtorEq] at h;rename_i r k i off;split at h;rotate_left
  ·simp at h
  rename_i I ae;split at h;rotate_left
  ·simp at h
  rename_i c gb;split at h;rotate_left
  ·simp at h
  rename_i aJ;simp only[YX,Option.isNone_iff_eq_none] at aJ;split at h;rotate_left
  ·simp at h
  rename_i cX l0 ho;simp only[dx,dC] at h;obtain⟨rfl,rfl⟩:=h;have cS:s.ab r k=some I:=ae;have eD:=c3.obj r k I cS
  cases af:ai r k with
  | none=>rw[af] at eD;simp only[hl] at eD;rw[gb] at eD;simp at eD
  | some q =>
   obtain⟨b,m⟩:=q;rw[af] at eD;obtain⟨bO,c9,g1,g2,g3,g4⟩:=eD;have Es:c.length=I.sz:=g3 c (by rw[gb];simp);have h5:I.es.flatten=c:=(by rw[gb];simp);have hcs : ∀j:Nat,j<c.length-> ∃u,bO[j]? = some u/\Rel w (s.ok g ai w) s.aH (s.aP ai) c[j]! u:=(by intro j ao;obtain⟨u,lf,-,fK⟩:=g4 j c[j] (by rw[h5];exact dw ao);exact⟨u,lf,by rw[getElem!_pos c j ao];exact fK⟩);obtain⟨ap,av⟩:=xG (vs:=(List.range c.length).map fun j=>(bO[j]?).getD undef) c3 H bk ho (fun p af=>aW p (by simp[af])) (fun y _=>bk.all _ aJ.1 y) (by simp) (by intro j y u aK hu;have ao:=eV aK;rw[dI,List.getElem?_range ao] at hu;simp only[dN,dx] at hu;obtain⟨oK,lf,fK⟩:=hcs j ao;rw[lf] at hu;simp at hu;subst hu;rw[dw ao] at aK;simp at aK;subst aK;rw[getElem!_pos c j ao] at fK;exact fK);have q9:hy [cX]:=aW _ (by simp);refine .d4 i off cS aJ.1 (H.aZ r aJ.2 k I cS aJ.1) (by rw[gb];simp) q9 (by simp;omega) (by rw[gb];rfl) ?_;intro j y kD aK nq;rw[h5] at aK;simp only[dS,List.flatten_nil,List.append_nil] at nq;exact av j y kD aK nq
 | El l =>
  simp only[mR] at h;split at h;rotate_left
  ·simp at h
  rename_i r k;split at h;rotate_left
  ·simp at h
  rename_i I ae;split at h;rotate_left
  ·simp at h
  rename_i c gb;split at h;rotate_left
  ·simp at h
  rename_i aJ;simp only[YX,Option.isNone_iff_eq_none] at aJ;split at h;rotate_left
  ·simp at h
  rename_i cX l0 ho;simp only[dx,dC] at h;obtain⟨rfl,rfl⟩:=h;have cS:s.ab r k=some I:=ae;have eD:=c3.obj r k I cS
  cases af:ai r k with
  | none=>rw[af] at eD;simp only[hl] at eD;rw[gb] at eD;simp at eD
  | some q =>
   obtain⟨b,m⟩:=q;rw[af] at eD;obtain⟨bO,c9,g1,g2,g3,g4⟩:=eD;have Es:c.length=I.sz:=g3 c (by rw[gb];simp);have h5:I.es.flatten=c:=(by rw[gb];simp);have hcs : ∀j:Nat,j<c.length-> ∃u,bO[j]? = some u/\Rel w (s.ok g ai w) s.aH (s.aP ai) c[j]! u:=(by intro j ao;obtain⟨u,lf,-,fK⟩:=g4 j c[j] (by rw[h5];exact dw ao);exact⟨u,lf,by rw[getElem!_pos c j ao];exact fK⟩);obtain⟨ap,av⟩:=xG (vs:=(List.range c.length).map fun j=>(bO[j]?).getD undef) c3 H bk ho (fun p af=>aW p (by simp[af])) (fun y _=>bk.all _ aJ.1 y) (by simp) (by intro j y u aK hu;have ao:=eV aK;rw[dI,List.getElem?_range ao] at hu;simp only[dN,dx] at hu;obtain⟨oK,lf,fK⟩:=hcs j ao;rw[lf] at hu;simp at hu;subst hu;rw[dw ao] at aK;simp at aK;subst aK;rw[getElem!_pos c j ao] at fK;exact fK);have q9:hy [cX]:=aW _ (by simp);refine .iA (.d4 0 0 cS aJ.1 (H.aZ r aJ.2 k I cS aJ.1) (by rw[gb];simp) q9 (by simp;omega) (by rw[gb];rfl) ?_);intro j y kD aK nq;rw[h5] at aK;simp only[dS,List.flatten_nil,List.append_nil] at nq;exact av j y kD aK nq
theorem xL (c3:gK g s ai w)(H:lg s ax bP bw)(bk:rK q bw){c:jH}{x ca:aj}{ab:List Prop}(h:mi s.au bP ax bw c x=some (ca,ab))(aW:∀p∈ab,p)
 (aU:q x) {v:Value} (ah:Rel w (s.ok g ai w) s.aH (s.aP ai) x v):gl s ax bw q x ca:=by
 have key : ∀(l:List wW) (c cX:List aj) (l0:List Prop) (vs:List Value),j5 (mR s.au bP ax bw) l c=some (cX,l0)->(∀p∈l0,p)->(∀x∈c,q x)->vs.length=c.length ->
  (∀(j:Nat) x u,c[j]? = some x->vs[j]? = some u->Rel w (s.ok g ai w) s.aH (s.aP ai) x u)->cX.length=c.length/\ ∀(j:Nat) x ca,c[j]? = some x->cX[j]? = some ca->gl s ax bw q x ca:=by
  intro l c cX l0 vs h aW aU aw ah;obtain⟨ap,av,bS⟩:=As _ l c cX l0 h;refine⟨ap,fun j x ca U cL=> ?_⟩;obtain⟨y,bD,f1,f2,f3⟩:=bS j x ca U cL;have c0:j<vs.length:=(by have:=eV U;omega);exact Dr c3 H bk f2 (fun p af=>aW p (f3 p af)) (aU x (dD U)) (ah j x _ U (dw c0))
 cases c with
 | bG c =>
  simp only[mi] at h;split at h
  ·rename_i aZ
   split at h
   ·simp only[dx,dC] at h;obtain⟨rfl,rfl⟩:=h;exact .pure (ah.Ti aZ) aU
   exact Dr c3 H bk h aW aU ah
  exact Dr c3 H bk h aW aU ah
 | comp l =>
  cases x<;>simp only[mi,reduceCtorEq] at h
  ·rename_i c
   split at h
   ·rename_i cX l0 aJ;simp only[dx,dC] at h;obtain⟨rfl,rfl⟩:=h;obtain⟨vs,rfl,aw,yZ⟩:=ah.vQ;obtain⟨ap,av⟩:=key l c cX l0 vs aJ aW (fun y aK=>bk.dl _ _ aU aK) aw yZ;exact .dl ap av
   simp at h
  rename_i f c;split at h
  ·rename_i cX l0 aJ;simp only[dx,dC] at h;obtain⟨rfl,rfl⟩:=h;obtain⟨vs,rfl,aw,yZ⟩:=ah.AM;obtain⟨ap,av⟩:=key l c cX l0 vs aJ aW (fun y aK=>bk.fn _ _ _ aU aK) aw yZ;exact .fn ap av
  simp at h
theorem KU (c3:gK g s ai w)(H:lg s ax bP bw){r:Nat}{iG:Nat->Nat}{row:List az}(cu:∀k I,cB (some row) k=some I->s.ab r (iG k)=some I)
 (aU : ∀k I,cB (some row) k=some I-> ∀e∈I.es,∀x∈e,q x) :
 ∀(k:Nat) bD,cB (some (row.map (iZ bP))) k=some bD-> ∃I,cB (some row) k=some I/\mV s ax bw q I bD:=by
 intro k bD cS;rw[iV,dI] at cS
 cases aL:row[k]? with
 | none=>rw[aL] at cS;simp at cS
 | some I =>
  rw[aL] at cS;simp only[dN,dB] at cS;split at cS
  ·simp at cS
  rename_i cZ;simp only[dx] at cS;subst cS;have ae:cB (some row) k=some I:=(by rw[iV,aL,dB,dz (by simpa [iZ] using cZ)]);have bN:s.ab r (iG k)=some I:=cu k I ae;refine⟨I,ae,?_⟩;have eD:=c3.obj r (iG k) I bN
  have hlen : ∀e∈I.es,e.length=I.sz:=by
   cases af:ai r (iG k) with
   | none=>rw[af] at eD;simp only[hl] at eD;rw[eD];simp
   | some q=>rw[af] at eD;obtain⟨_,_,_,_,e,_⟩:=eD;exact e
  refine⟨rfl,.inl rfl,by simp[iZ],?_,fun j x ca U cL=> ?_⟩
  ·intro e he;simp only[iZ,List.mem_map] at he;obtain⟨dp,ks,rfl⟩:=he;simpa using hlen dp ks
  simp only[iZ] at cL;rw[map_flatten,dI,U] at cL;simp only[dN,dx] at cL;subst cL;obtain⟨e,he,pa⟩:=qQ U;have UG:=aU k I ae e he x pa
  cases af:ai r (iG k) with
  | none=>rw[af] at eD;simp only[hl] at eD;rw[eD] at U;simp at U
  | some rJ =>
   obtain⟨b,m⟩:=rJ;rw[af] at eD;obtain⟨c,c9,f1,f2,f3,f4⟩:=eD;obtain⟨u,lf,oJ,fK⟩:=f4 j x U
   cases x with
   | ref bW hU l6 TQ =>
    cases b3:bP bW with
    | none=>simp only[mz,b3];exact .dead _
    | some B2=>simp only[mz,b3];exact .ref l6 TQ (H.ad _ _ b3 _) (by cases fK<;>assumption)
   | bz bW hU Bv Bb =>
    cases b3:bP bW with
    | none=>simp only[mz,b3];exact .dead _
    | some B2=>simp only[mz,b3];exact .bz Bv Bb (H.ad _ _ b3 _) (by cases fK<;>assumption)
   | hf bW cq LG J =>
    cases b3:bP bW with
    | none=>simp only[mz,b3];exact .dead _
    | some B2=>simp only[mz,b3];exact .hf J (fun k=>H.ad _ _ b3 _)
   | _ =>
    simp only[mz];split
    ·rename_i aZ;exact .pure (fK.wc aZ) UG
    exact .dead _
theorem At (c3:gK g s ai w)(H:lg s ax bP bw)(bk:rK q bw){c:gM}{r:Nat}{iG:Nat->Nat}{row cU:List az}{ab:List Prop}(cu:∀k I,cB (some row) k=some I->s.ab r (iG k)=some I)
 (h:hB s.au bP ax bw c row=some (cU,ab)) (aW : ∀p∈ab,p) (aU : ∀k I,cB (some row) k=some I-> ∀e∈I.es,∀x∈e,q x) :
 cU.length=row.length/\(∀k I,cB (some row) k=some I->I.bV = .live) /\
 ∀(k:Nat) bD,cB (some cU) k=some bD-> ∃I,cB (some row) k=some I/\mV s ax bw q I bD:=by
 have hlen : ∀k I,cB (some row) k=some I-> ∀e∈I.es,e.length=I.sz:=by
  intro k I ae;have cS:s.ab r (iG k)=some I:=cu k I ae;have eD:=c3.obj r (iG k) I cS
  cases af:ai r (iG k) with
  | none=>rw[af] at eD;simp only[hl] at eD;rw[eD];simp
  | some q=>rw[af] at eD;obtain⟨_,_,_,_,e,_⟩:=eD;exact e
 have q9:r2 row->(∀k I,cB (some row) k=some I->I.bV = .live) /\
  ∀(k:Nat) bD,cB (some row) k=some bD-> ∃I,cB (some row) k=some I/\mV s ax bw q I bD:=by
  intro af
  have o6 : ∀k I,cB (some row) k=some I->I∈row:=by
   intro k I ae;unfold cB at ae;simp only at ae;split at ae
   ·rename_i bD cS
    split at ae
    ·simp at ae
    simp at ae;subst ae;exact dD cS
   simp at ae
  refine⟨fun k I ae=>(af I (o6 k I ae)).2,fun k I ae=>⟨I,ae,rfl,.inl rfl,rfl,hlen k I ae,fun j x ca U cL=> ?_⟩⟩;rw[U] at cL;simp at cL;subst cL;obtain⟨e,he,pa⟩:=qQ U;exact .pure ((af I (o6 k I ae)).1 e he x pa) (aU k I ae e he x pa)
 cases c with
 | pure =>
  simp only[hB,dx,dC] at h;obtain⟨rfl,rfl⟩:=h;exact⟨rfl,q9 (aW _ (by simp))⟩
 | du a8 =>
  simp only[hB,dx,dC] at h;obtain⟨rfl,rfl⟩:=h;have e:row=a8:=aW _ (by simp);subst e;exact⟨rfl,q9 (aW _ (by simp))⟩
 | ck a8 =>
  simp only[hB,dx,dC] at h;obtain⟨rfl,rfl⟩:=h;have e:a8=row.map (iZ bP):=aW _ (by simp);have EV:oe row:=aW _ (by simp);subst e
  refine⟨by simp,fun k I ae=>by
   unfold cB at ae;simp only at ae;split at ae
   ·rename_i bD cS
    split at ae
    ·simp at ae
    rename_i cZ;simp at ae;subst ae;exact(EV _ (dD cS)).resolve_right cZ
   simp at ae,KU c3 H cu aU⟩
 | rx a8=>cases row with
  | nil=>simp[hB] at h
  | cons I l=>cases l<;>simp[hB] at h
 | drop=>cases row with
  | nil=>simp[hB] at h
  | cons I l=>cases l<;>simp[hB] at h
 | box l =>
  match row,h with
  | [I],h =>
   simp only[hB] at h;split at h;rotate_left
   ·simp at h
   rename_i c gb;split at h;rotate_left
   ·simp at h
   rename_i lv;split at h;rotate_left
   ·simp at h
   rename_i cX l0 aJ;simp only[dx,dC] at h;obtain⟨rfl,rfl⟩:=h;have h0:cB (some [I]) 0=some I:=(by rw[kL];simp[lv]);refine⟨rfl,fun k p af=> ?_,fun k p af=> ?_⟩
   ·rw[kL] at af
    split at af
    ·simp at af;subst af;exact lv
    simp at af
   rw[kL] at af;split at af;rotate_left
   ·simp at af
   rename_i tY;obtain⟨rfl,-⟩:=tY;simp only[dx] at af;subst af;refine⟨I,h0,?_⟩;have cS:s.ab r (iG 0)=some I:=cu 0 I h0;have eD:=c3.obj r (iG 0) I cS
   cases iY:ai r (iG 0) with
   | none=>rw[iY] at eD;simp only[hl] at eD;rw[gb] at eD;simp at eD
   | some q =>
    obtain⟨b,m⟩:=q;rw[iY] at eD;obtain⟨bO,c9,g1,g2,g3,g4⟩:=eD;have Es:c.length=I.sz:=g3 c (by rw[gb];simp);have h5:I.es.flatten=c:=(by rw[gb];simp);obtain⟨ap,av⟩:=xG (vs:=(List.range c.length).map fun j=>(bO[j]?).getD undef) c3 H bk aJ aW (fun y aK=>aU 0 I h0 c (by rw[gb];simp) y aK) (by simp) (by intro j y u aK hu;have ao:=eV aK;rw[dI,List.getElem?_range ao] at hu;simp only[dN,dx] at hu;obtain⟨oK,lf,-,fK⟩:=g4 j y (by rw[h5];exact aK);rw[lf] at hu;simp at hu;subst hu;exact fK);refine⟨rfl,.inl rfl,by simp[gb],by simp;omega,fun j x ca U cL=> ?_⟩;rw[h5] at U;simp only[dS,List.flatten_nil,List.append_nil] at cL;exact av j x ca U cL
  | [],h=>simp[hB] at h
  | _::_::_,h=>simp[hB] at h
end
def Au (P:Program)(f:FuncId):Prop:= ∃fn,P.funcs[f]? = some fn/\(fn.name == "runtime.NumGoroutine")=false/\fn.body.isSome=true
def Con (P:Program)(f:FuncId)(args:List aj)(T:List (List az))(r:aj)(hX:List (List az)):Prop:=Au P f/\Tf P f args T r hX
def ra (k:e1):Bool:=k = .h4
def kR (_:e1):Bool:=true
def js (_:e1):Bool:=false
def Src.r:Src->Nat
 | .row r=>r
 | .ab r _ _=>r
def Src.has:Src->Nat->Nat->Prop
 | .row r,q,_=>q=r
 | .ab r k _,q,cA=>q=r/\cA=k
def Src.iR:Src->Nat->Nat
 | .row _,k=>k
 | .ab ..,_=>0
def k5 (l:List Src):fA:=fun j i=>match l[j]? with
 | some (.row r)=>some (r,i)
 | some (.ab r k _)=>if i=0 then some (r,k) else none
 | none=>none
def nk (n:Nat):List Src->Nat->Option Nat
 | [],_=>none
 | .row r::l,q=>if r=q then some n else nk (n+1) l q
 | .ab .. :: l,q=>nk (n+1) l q
def hQ (n:Nat):List Src->fA
 | [],_,_=>none
 | .row r::l,q,k=>if q=r then some (n,k) else hQ (n+1) l q k
 | .ab r cA _::l,q,k=>if q=r/\k=cA then some (n,0) else hQ (n+1) l q k
def rb (l:List Src):Nat->Option Nat:=fun j=>match l[j]? with
 | some (.row r)=>some r
 | _=>none
def apart:Src->Src->Option (List Prop)
 | .ab r k _,.ab dn cA _=>if r=dn then some [k≠cA] else some []
 | a,b=>if a.r=b.r then none else some []
def AO (a:Src):List Src->Option (List Prop)
 | []=>some []
 | b::l=>match apart a b,AO a l with
  | some x,some y=>some (x++y)
  | _,_=>none
def AY:List Src->Option (List Prop)
 | []=>some []
 | a::l=>match AO a l,AY l with
  | some x,some y=>some (x++y)
  | _,_=>none
def yC (l:List Src):Prop:=l.Pairwise fun a b=> ∀r k,¬(a.has r k/\b.has r k)
theorem Rd {a b:Src}{ab:List Prop}(h:apart a b=some ab)(aW:∀p∈ab,p): ∀r k,¬(a.has r k/\b.has r k):=by
 rintro r k ⟨o,J⟩
 have ah : ∀c:Src,c.has r k->c.r=r:=fun c aJ=>by
  cases c with
  | row r0=>exact Eq.symm aJ
  | ab r0 hK jW=>exact Eq.symm aJ.1
 have e:=(ah a o).trans (ah b J).symm
 cases a with
 | row r0=>simp only[apart] at h;rw[dy e] at h;simp at h
 | ab r0 hK jW =>
  cases b with
  | row ak=>simp only[apart] at h;rw[dy e] at h;simp at h
  | ab ak jK bT =>
   simp only[apart] at h;rw[dy (show r0=ak from e)] at h;simp only[dx] at h;subst h;exact aW _ (List.mem_singleton.2 rfl) (o.2.symm.trans J.2)
theorem IM {a:Src}: ∀ {l:List Src} {ab:List Prop},AO a l=some ab->(∀p∈ab,p)-> ∀b∈l,∀r k,¬(a.has r k/\b.has r k)
 | [],_,_,_,_,aE=>by simp at aE
 | b::l,ab,h,aW,c,aJ=>by
  simp only[AO] at h;split at h
  ·rename_i x y o J
   simp only[dx] at h;subst h;rcases YW.1 aJ with rfl|aJ
   ·exact Rd o fun p af=>aW p (by simp[af])
   exact IM J (fun p af=>aW p (by simp[af])) c aJ
  simp at h
theorem Ji : ∀ {l:List Src} {ab:List Prop},AY l=some ab->(∀p∈ab,p)->yC l
 | [],_,_,_=>List.Pairwise.nil
 | a::l,ab,h,aW=>by
  simp only[AY] at h;split at h
  ·rename_i x y o J;simp only[dx] at h;subst h;exact List.pairwise_cons.2 ⟨IM o fun p af=>aW p (by simp[af]),Ji J fun p af=>aW p (by simp[af])⟩
  simp at h
theorem r3 {l:List Src}{j i r k:Nat}:k5 l j i=some (r,k)↔ ∃a,l[j]? = some a/\a.has r k/\i=a.iR k:=by
 unfold k5
 cases h:l[j]? with
 | none=>simp
 | some a =>
  cases a with
  | row r0 =>
   simp only[dx,dC,exists_eq_left',Src.has,Src.iR];constructor<;>rintro⟨a,b⟩<;>exact⟨a.symm,b⟩
  | ab r0 hK I =>
   simp only[dx,exists_eq_left',Src.has,Src.iR];by_cases e:i=0
   ·rw[dy e];simp only[dx,dC,e,and_true];constructor<;>rintro⟨a,b⟩<;>exact⟨a.symm,b.symm⟩
   rw[dz e];simp[e]
theorem s9 : ∀ {l:List Src} {n r k j i:Nat},hQ n l r k=some (j,i)-> ∃a,n<=j/\l[j-n]? = some a/\a.has r k/\i=a.iR k
 | [],_,_,_,_,_,h=>by simp[hQ] at h
 | .row r0::l,n,r,k,j,i,h=>by
  simp only[hQ] at h;split at h
  ·rename_i e;simp only[dx,dC] at h;obtain⟨rfl,rfl⟩:=h;exact⟨.row r0,dF _,by simp,e,rfl⟩
  obtain⟨a,o,J,an,aG⟩:=s9 h;exact⟨a,by omega,by rw[show j-n=(j-(n+1))+1 by omega,List.getElem?_cons_succ];exact J,an,aG⟩
 | .ab r0 hK I::l,n,r,k,j,i,h=>by
  simp only[hQ] at h;split at h
  ·rename_i e;simp only[dx,dC] at h;obtain⟨rfl,rfl⟩:=h;exact⟨.ab r0 hK I,dF _,by simp,e,rfl⟩
  obtain⟨a,o,J,an,aG⟩:=s9 h;exact⟨a,by omega,by rw[show j-n=(j-(n+1))+1 by omega,List.getElem?_cons_succ];exact J,an,aG⟩
theorem qj (n:Nat)(a:Src)(l:List Src)(r k:Nat)(h:¬a.has r k):hQ n (a::l) r k=hQ (n+1) l r k:=by cases a<;>simp only[hQ,Src.has] at h ⊢ <;> rw[dz h]
theorem Re (n:Nat)(a:Src)(l:List Src)(r k:Nat)(h:a.has r k):hQ n (a::l) r k=some (n,a.iR k):=by cases a<;>simp only[hQ,Src.has,Src.iR] at h ⊢ <;> rw[dy h]
theorem x1 : ∀ {l:List Src} {n r k j:Nat} {a:Src},yC l->l[j]? = some a->a.has r k->hQ n l r k=some (n+j,a.iR k)
 | b::l,n,r,k,0,a,_,h,bs=>by simp at h;subst h;exact Re n b l r k bs
 | b::l,n,r,k,j+1,a,bk,h,bs=>by simp at h;have bk:=List.pairwise_cons.1 bk;rw[qj n b l r k fun aE=>bk.1 a (dD h) r k ⟨aE,bs⟩,x1 (j:=j) bk.2 h bs];congr 2;omega
theorem SC {a:Src}{r k dn cA:Nat}(h:a.has r k)(bR:a.has dn cA)(e:a.iR k=a.iR cA):r=dn/\k=cA:=by cases a<;>simp only[Src.has,Src.iR] at h bR e<;>omega
theorem RW {l:List Src}{n r k dn cA:Nat}{p:Nat×Nat}(h:hQ n l r k=some p)(bR:hQ n l dn cA=some p):r=dn/\k=cA:=by obtain⟨j,i⟩:=p;obtain⟨a,o,J,an,aG⟩:=s9 h;obtain⟨cP,wE,EW,UH,X4⟩:=s9 bR;rw[J] at EW;simp at EW;subst EW;exact SC an UH (by omega)
theorem Dh : ∀ {l:List Src} {n r j:Nat},nk n l r=some j->n<=j/\l[j-n]? = some (.row r)
 | [],_,_,_,h=>by simp[nk] at h
 | .row r0::l,n,r,j,h=>by
  simp only[nk] at h;split at h
  ·rename_i e;simp at h;subst h;subst e;exact⟨dF _,by simp⟩
  obtain⟨o,J⟩:=Dh h;exact⟨by omega,by rw[show j-n=(j-(n+1))+1 by omega,List.getElem?_cons_succ];exact J⟩
 | .ab r0 hK I::l,n,r,j,h=>by simp only[nk] at h;obtain⟨o,J⟩:=Dh h;exact⟨by omega,by rw[show j-n=(j-(n+1))+1 by omega,List.getElem?_cons_succ];exact J⟩
theorem IP : ∀ {l:List Src} {n r:Nat},nk n l r=none->Src.row r ∉ l
 | [],_,_,_=>by simp
 | .row r0::l,n,r,h=>by
  simp only[nk] at h;split at h
  ·simp at h
  rename_i e;simp only[YW,Src.row.injEq,not_or];exact⟨fun h=>e h.symm,IP h⟩
 | .ab r0 hK I::l,n,r,h=>by simp only[nk] at h;simp only[YW,reduceCtorEq,false_or];exact IP h
def kN (au:Nat->Option (List az))(bP:Nat->Option Nat)(ax:fA):List Src->List gM->Option (List (List az)×List Prop)
 | [],[]=>some ([],[])
 | .row r::l,c::cf=>match au r with
  | some row=>match hB au bP ax ra c row,kN au bP ax l cf with
   | some (cU,bT),some (T,a2)=>some (cU::T,bT++a2)
   | _,_=>none
  | none=>none
 | .ab r k I::l,c::cf=>match au r with
  | some row=>match hB au bP ax ra c [I],kN au bP ax l cf with
   | some (cU,bT),some (T,a2)=>some (cU::T,(cB (some row) k=some I)::(bT++a2))
   | _,_=>none
  | none=>none
 | _,_=>none
def jA (uo:Nat->Option (List az))(bP:Nat->Option Nat)(jl:fA):(Nat->Option (List az))->List Src->List gM->List (List az)->Option (List (Nat×List az)×List Prop)
 | _,[],[],[]=>some ([],[])
 | au,.row q::l,c::cf,row::T=>match hB uo bP jl js c row with
  | some (cU,bT)=>match jA uo bP jl (fun x=>if x=q then some cU else au x) l cf T with
   | some (u,a2)=>some ((q,cU)::u,bT++a2)
   | none=>none
  | none=>none
 | au,.ab q k _::l,c::cf,row::T=>match au q with
  | some kc=>match hB uo bP jl js c row with
   | some ([bD],bT)=>match jA uo bP jl (fun x=>if x=q then some (kc.set k bD) else au x) l cf T with
    | some (u,a2)=>some ((q,kc.set k bD)::u,bT++a2)
    | none=>none
   | _=>none
  | none=>none
 | _,_,_,_=>none
def tZ (T:List (List az)):Prop:= ∀row∈T,∀I∈row,∀e∈I.es,∀x∈e,cm x
def we (P:Program)(au:Nat->Option (List az))(aA:Nat)(f:FuncId)(args:List aj)(bO:wX):Option fI :=
 let l:=if bO.c1.length=bO.ax.length then bO.ax else bO.ax++[.row aA]
 match AY bO.ax with
 | none=>none
 | some jW =>
  if bO.ax.any (fun a=>decide (a.r=aA)) then none else
  if bO.de then
   match bO.ax with
   | [] =>
    match j5 (mi au (fun _=>none) (k5 []) kR) bO.ac args,mi (fun j=>bO.c1[j]?) (rb l) (hQ 0 l) js bO.ew bO.r,
     jA (fun j=>bO.c1[j]?) (rb l) (hQ 0 l) au l bO.e2 bO.c1 with
    | some (o1,bT),some (dn,hJ),some (u,fs)=>some {val:=dn,eH:=u,ea:=bT++hJ++fs++[Con P f o1 [] bO.r bO.c1,cm bO.r]++(if bO.c1.isEmpty then [] else [tZ bO.c1])}
    | _,_,_=>none
   | _=>none
  else
   match j5 (mi au (nk 0 bO.ax) (k5 bO.ax) ra) bO.ac args,kN au (nk 0 bO.ax) (k5 bO.ax) bO.ax bO.cf,
    mi (fun j=>bO.c1[j]?) (rb l) (hQ 0 l) js bO.ew bO.r,jA (fun j=>bO.c1[j]?) (rb l) (hQ 0 l) au l bO.e2 bO.c1 with
   | some (o1,bT),some (T,a2),some (dn,hJ),some (u,fs) =>
    some {val:=dn,eH:=u,ea:=jW++bT++a2++hJ++fs++[Con P f o1 T bO.r bO.c1]}
   | _,_,_,_=>none
theorem Is {au:Nat->Option (List az)}{bP:Nat->Option Nat}{ax:fA}{bw:e1->Bool}{c:gM}{row cU:List az}{ab:List Prop}(h:hB au bP ax bw c row=some (cU,ab))(aW:∀p∈ab,p):
 ∀k I,cB (some row) k=some I->I.bV = .live:=by
 have o6 : ∀k I,cB (some row) k=some I->I∈row/\I.bV≠ .gone:=by
  intro k I ae;rw[iV] at ae
  cases aL:row[k]? with
  | none=>rw[aL] at ae;simp at ae
  | some p =>
   rw[aL,dB] at ae;split at ae
   ·simp at ae
   rename_i e;simp at ae;subst ae;exact⟨dD aL,e⟩
 intro k I ae;obtain⟨o,J⟩:=o6 k I ae
 cases c with
 | pure =>
  simp only[hB,dx,dC] at h;obtain⟨rfl,rfl⟩:=h;exact((aW _ (List.mem_singleton.2 rfl):r2 row) I o).2
 | du a8 =>
  simp only[hB,dx,dC] at h;obtain⟨rfl,rfl⟩:=h;have e:row=a8:=aW _ (by simp);have af:r2 a8:=aW _ (by simp);exact(af I (e▸o)).2
 | ck a8 =>
  simp only[hB,dx,dC] at h;obtain⟨rfl,rfl⟩:=h;have af:oe row:=aW _ (by simp);exact(af I o).resolve_right J
 | rx a8=>cases row with
  | nil=>simp[hB] at h
  | cons I l=>cases l<;>simp[hB] at h
 | drop=>cases row with
  | nil=>simp[hB] at h
  | cons I l=>cases l<;>simp[hB] at h
 | box l =>
  match row,h,o with
  | [p],h,o =>
   simp only[hB] at h;rw[List.mem_singleton] at o;subst o;split at h
   ·split at h
    ·rename_i e;exact e
    simp at h
   simp at h
  | [],h,_=>simp[hB] at h
  | _::_::_,h,_=>simp[hB] at h
section
variable {P:Program} {g:G} {s:S} {ai:el} {a:Act} {w:World}
theorem Di (c3:gK g s ai w){ax:fA}{bP:Nat->Option Nat}(H:lg s ax bP ra): ∀(l:List Src) (cf:List gM) (T:List (List az)) (ab:List Prop),
 kN s.au bP ax l cf=some (T,ab)->(∀p∈ab,p)->T.length=l.length/\ ∀(j:Nat) cU b,T[j]? = some cU->l[j]? = some b ->
  (∀r k I,b.has r k->s.ab r k=some I->I.bV = .live)/\(∀r k,b.has r k->s.aH r k->b.iR k<cU.length) /\
  (∀r k I,b = .ab r k I->s.ab r k=some I) /\
  ∀(i:Nat) bD,cB (some cU) i=some bD-> ∃r k I,b.has r k/\i=b.iR k/\s.ab r k=some I/\mV s ax ra kx I bD
 | [],[],T,ab,h,_=>by simp[kN] at h;obtain⟨rfl,rfl⟩:=h;exact⟨rfl,fun j cU r ao=>by simp at ao⟩
 | .row r::l,c::cf,T,ab,h,aW=>by
  simp only[kN] at h;split at h;rotate_left
  ·simp at h
  rename_i row cu;split at h;rotate_left
  ·simp at h
  rename_i aq bT lE a2 o J;simp only[dx,dC] at h;obtain⟨rfl,rfl⟩:=h;obtain⟨ap,av⟩:=Di c3 H l cf lE a2 J (fun p af=>aW p (by simp[af]));have ha : ∀k,s.ab r k=cB (some row) k:=fun k=>(by unfold S.ab;rw[cu]);obtain⟨f0,f1,f2⟩:=At (q:=kx) (iG:=id) c3 H (sq _) (fun k I ae=>(ha k).trans ae) o (fun p af=>aW p (by simp[af])) (fun _ _ _ _ _ _ _=>trivial);refine⟨by simp[ap],fun j cU b ao aE=> ?_⟩
  cases j with
  | zero =>
   simp at ao aE;subst ao;subst aE;refine⟨fun q k I aU ae=> ?_,fun q k aU hu=> ?_,fun _ _ _ e=>by simp at e,fun i bD cS=> ?_⟩
   ·have aU:q=r:=aU;subst aU;rw[ha] at ae;exact f1 k I ae
   ·have aU:q=r:=aU;subst aU;rw[f0];simpa [S.aH,cu,Src.iR] using hu
   obtain⟨I,g1,g2⟩:=f2 i bD cS;exact⟨r,i,I,rfl,rfl,(ha i).trans g1,g2⟩
  | succ j=>simp at ao aE;exact av j cU b ao aE
 | .ab r hK jW::l,c::cf,T,ab,h,aW=>by
  simp only[kN] at h;split at h;rotate_left
  ·simp at h
  rename_i row cu;split at h;rotate_left
  ·simp at h
  rename_i aq bT lE a2 o J;simp only[dx,dC] at h;obtain⟨rfl,rfl⟩:=h;obtain⟨ap,av⟩:=Di c3 H l cf lE a2 J (fun p af=>aW p (by simp[af]));have ae:s.ab r hK=some jW:=by unfold S.ab;rw[cu];exact aW _ (by simp)
  have kp : ∀k I,cB (some [jW]) k=some I->k=0/\I=jW:=fun k I aL=>by
   rw[kL] at aL;split at aL
   ·rename_i e;simp at aL;exact⟨e.1,aL.symm⟩
   simp at aL
  have EX:jW.bV≠ .gone:=by
   unfold S.ab at ae;rw[cu,iV] at ae
   cases aL:row[hK]? with
   | none=>rw[aL] at ae;simp at ae
   | some p =>
    rw[aL,dB] at ae;split at ae
    ·simp at ae
    rename_i e;simp at ae;subst ae;exact e
  obtain⟨f0,f1,f2⟩:=At (q:=kx) (iG:=fun _=>hK) (r:=r) c3 H (sq _) (fun k I aL=>by rw[(kp k I aL).2];exact ae) o (fun p af=>aW p (by simp[af])) (fun _ _ _ _ _ _ _=>trivial);refine⟨by simp[ap],fun j cU b ao aE=> ?_⟩
  cases j with
  | zero =>
   simp at ao aE;subst ao;subst aE;refine⟨fun q k I aU ow=> ?_,fun q k aU hu=> ?_,fun dn cA bD e=> ?_,fun i bD cS=> ?_⟩
   ·obtain⟨rfl,rfl⟩:q=r/\k=hK:=aU;rw[ae] at ow;simp at ow;subst ow;exact f1 0 jW (by rw[kL];simp[EX])
   ·rw[f0];simp[Src.iR]
   ·cases e;exact ae
   obtain⟨I,g1,g2⟩:=f2 i bD cS;obtain⟨rfl,rfl⟩:=kp i I g1;exact⟨r,hK,I,⟨rfl,rfl⟩,rfl,ae,g2⟩
  | succ j=>simp at ao aE;exact av j cU b ao aE
 | [],_::_,_,_,h,_=>by simp[kN] at h
 | .row _::_,[],_,_,h,_=>by simp[kN] at h
 | .ab .. :: _,[],_,_,h,_=>by simp[kN] at h
theorem Db {eU:G}{s1:S}{jx:el}{bc:World}(c3:gK eU s1 jx bc){jl:fA}{q:aj->Prop}{bP:Nat->Option Nat}(H:lg s1 jl bP js)(bk:rK q js)
 (aU : ∀j i I,s1.ab j i=some I-> ∀e∈I.es,∀x∈e,q x) :
 ∀(l:List Src) (cf:List gM) (T:List (List az)) (u:List (Nat×List az)) (ab:List Prop) (n:Nat) (s:S),yC l->(∀j row,T[j]? = some row->s1.au (n+j)=some row) ->
 (∀r k j i,hQ n l r k=some (j,i)->s.aH r k->s1.aH j i)->(∀r k I,Src.ab r k I∈l->s.aH r k) ->
 jA s1.au bP jl s.au l cf T=some (u,ab)->(∀p∈ab,p)->T.length=l.length/\(s.gD u).E=s.E /\
  (∀r k I,(s.gD u).ab r k=some I->(∃j i p,hQ n l r k=some (j,i)/\s1.ab j i=some p/\mV s1 jl js q p I)\/(hQ n l r k=none/\s.ab r k=some I)) /\
  (∀r k,s.aH r k->(s.gD u).aH r k)/\(∀r k j i,hQ n l r k=some (j,i)->s1.aH j i->(s.gD u).aH r k)
 | [],[],[],u,ab,n,s,_,_,_,_,h,_=>by simp[jA] at h;obtain⟨rfl,rfl⟩:=h;exact⟨rfl,rfl,fun r k I ae=> .inr ⟨rfl,ae⟩,fun r k h=>h,fun r k j i h=>by simp[hQ] at h⟩
 | .row q0::l,c::cf,row::T,u,ab,n,s,qH,hv,hu,pS,h,aW=>by
  simp only[jA] at h;split at h;rotate_left
  ·simp at h
  rename_i cU bT o;split at h;rotate_left
  ·simp at h
  rename_i oJ a2 J;simp only[dx,dC] at h;obtain⟨rfl,rfl⟩:=h;have y0:=List.pairwise_cons.1 qH;have iB:s1.au n=some row:=hv 0 row rfl;have tK : ∀k,s1.ab n k=cB (some row) k:=fun k=>(by unfold S.ab;rw[iB]);obtain⟨f0,f1,f2⟩:=At (q:=q) (iG:=id) (r:=n) c3 H bk (fun k I ae=>(tK k).trans ae) o (fun p af=>aW p (by simp[af])) (fun k I ae=>aU n k I ((tK k).trans ae));have gH : ∀k j i,hQ (n+1) l q0 k≠some (j,i):=fun k j i hm=>by obtain⟨b,gW,fJ,ps,F2⟩:=s9 hm;exact y0.1 b (dD fJ) q0 k ⟨rfl,ps⟩
  have wq : ∀r k,s.aH r k->(s.setRow q0 cU).aH r k:=fun r k aL=>by
   rw[lO];by_cases e:r=q0
   ·subst e;rw[dy rfl,f0];have:=hu r k n k (by simp[hQ]) aL;simpa [S.aH,iB] using this
   rw[dz e];exact aL
  obtain⟨ap,av,bS,dj,eh⟩:=Db c3 H bk aU l cf T oJ a2 (n+1) (s.setRow q0 cU) y0.2 (fun j row ao=>by rw[Nat.add_assoc,Nat.add_comm 1 j];exact hv (j+1) row (by simpa using ao))
   (fun r k j i hm aL=>by have cc:r≠q0:=(by rintro rfl;exact gH _ _ _ hm);refine hu r k j i ?_ (by rw[lO,dz cc] at aL;exact aL);rw[qj n (.row q0) l r k cc];exact hm)
   (fun r k I hm=>wq r k (pS r k I (by simp[hm]))) J (fun p af=>aW p (by simp[af]))
  refine⟨by simp[ap],av,fun r k I ae=> ?_,fun r k aL=>dj r k (wq r k aL),fun r k j i hm aL=> ?_⟩
  ·rcases bS r k I ae with ⟨j,i,p,gW,fJ,ps⟩|⟨gW,fJ⟩
   ·have cc:r≠q0:=(by rintro rfl;exact gH _ _ _ gW);exact .inl ⟨j,i,p,by rw[qj n (.row q0) l r k cc];exact gW,fJ,ps⟩
   rw[j0] at fJ;by_cases e:r=q0
   ·subst e;rw[dy rfl] at fJ;obtain⟨p,g1,g2⟩:=f2 k I fJ;exact .inl ⟨n,k,p,by simp[hQ],(tK k).trans g1,g2⟩
   rw[dz e] at fJ;exact .inr ⟨by rw[qj n (.row q0) l r k e];exact gW,fJ⟩
  by_cases e:r=q0
  ·subst e;simp only[hQ,if_true] at hm;simp only[dx,dC] at hm;obtain⟨rfl,rfl⟩:=hm;refine dj r k ?_;rw[lO,dy rfl,f0];simpa [S.aH,iB] using aL
  rw[qj n (.row q0) l r k e] at hm;exact eh r k j i hm aL
 | .ab q0 hK jW::l,c::cf,row::T,u,ab,n,s,qH,hv,hu,pS,h,aW=>by
  simp only[jA] at h;split at h;rotate_left
  ·simp at h
  rename_i kc Bc;split at h;rotate_left
  ·simp at h
  rename_i bD bT o;split at h;rotate_left
  ·simp at h
  rename_i oJ a2 J;simp only[dx,dC] at h;obtain⟨rfl,rfl⟩:=h;have y0:=List.pairwise_cons.1 qH;have iB:s1.au n=some row:=hv 0 row rfl;have tK : ∀k,s1.ab n k=cB (some row) k:=fun k=>(by unfold S.ab;rw[iB]);obtain⟨f0,f1,f2⟩:=At (q:=q) (iG:=id) (r:=n) c3 H bk (fun k I ae=>(tK k).trans ae) o (fun p af=>aW p (by simp[af])) (fun k I ae=>aU n k I ((tK k).trans ae));have gH : ∀j i,hQ (n+1) l q0 hK≠some (j,i):=fun j i hm=>(by obtain⟨b,gW,fJ,ps,F2⟩:=s9 hm;exact y0.1 b (dD fJ) q0 hK ⟨⟨rfl,rfl⟩,ps⟩);have wq : ∀r k,s.aH r k->(s.setRow q0 (kc.set hK bD)).aH r k:=z7 s Bc (by simp);have tY:hK<kc.length:=by have:=pS q0 hK jW (by simp);simpa [S.aH,Bc] using this
  obtain⟨ap,av,bS,dj,eh⟩:=Db c3 H bk aU l cf T oJ a2 (n+1) (s.setRow q0 (kc.set hK bD)) y0.2 (fun j row ao=>by rw[Nat.add_assoc,Nat.add_comm 1 j];exact hv (j+1) row (by simpa using ao))
   (fun r k j i hm aL=>by
     have cc : ¬(Src.ab q0 hK jW).has r k:=(by rintro⟨rfl,rfl⟩;exact gH _ _ hm);refine hu r k j i (by rw[qj n _ l r k cc];exact hm) ?_;rw[lO] at aL;split at aL
     ·rename_i e;subst e;simpa [S.aH,Bc] using aL
     exact aL)
   (fun r k I hm=>wq r k (pS r k I (by simp[hm]))) J (fun p af=>aW p (by simp[af]))
  refine⟨by simp[ap],av,fun r k I ae=> ?_,fun r k aL=>dj r k (wq r k aL),fun r k j i hm aL=> ?_⟩
  ·rcases bS r k I ae with ⟨j,i,p,gW,fJ,ps⟩|⟨gW,fJ⟩
   ·have cc : ¬(Src.ab q0 hK jW).has r k:=(by rintro⟨rfl,rfl⟩;exact gH _ _ gW);exact .inl ⟨j,i,p,by rw[qj n _ l r k cc];exact gW,fJ,ps⟩
   rw[j0] at fJ;by_cases e:r=q0
   ·subst e
    rw[dy rfl,iV,YZ] at fJ;by_cases av:hK=k
    ·subst av;rw[dy rfl,dy tY,dB] at fJ;have ps:cB (some [bD]) 0=some I:=(by rw[iV];exact fJ);obtain⟨p,g1,g2⟩:=f2 0 I ps;exact .inl ⟨n,0,p,by simp[hQ],(tK 0).trans g1,g2⟩
    rw[dz av] at fJ;have cc : ¬(Src.ab r hK jW).has r k:=(by rintro⟨-,rfl⟩;exact av rfl);exact .inr ⟨by rw[qj n _ l r k cc];exact gW,by unfold S.ab;rw[Bc,iV];exact fJ⟩
   rw[dz e] at fJ;have cc : ¬(Src.ab q0 hK jW).has r k:=(by rintro⟨rfl,-⟩;exact e rfl);exact .inr ⟨by rw[qj n _ l r k cc];exact gW,fJ⟩
  by_cases e:(Src.ab q0 hK jW).has r k
  ·obtain⟨rfl,rfl⟩:=e;exact dj r k (wq r k (pS r k jW (by simp)))
  rw[qj n _ l r k e] at hm;exact eh r k j i hm aL
 | [],[],_::_,_,_,_,_,_,_,_,_,h,_=>by simp[jA] at h
 | [],_::_,_,_,_,_,_,_,_,_,_,h,_=>by simp[jA] at h
 | .row _::_,[],_,_,_,_,_,_,_,_,_,h,_=>by simp[jA] at h
 | .ab .. :: _,[],_,_,_,_,_,_,_,_,_,h,_=>by simp[jA] at h
 | .row _::_,_::_,[],_,_,_,_,_,_,_,_,h,_=>by simp[jA] at h
 | .ab .. :: _,_::_,[],_,_,_,_,_,_,_,_,h,_=>by simp[jA] at h
theorem Jj (h:b7 g s ai a w){aA:Nat}(dU:s.au aA=none){f:FuncId}{args:List aj}{bO:wX}{l:List Src}(lZ:l=if bO.c1.length=bO.ax.length then bO.ax else bO.ax++[.row aA])
 (qH:yC bO.ax) (t0 : ∀a∈bO.ax,a.r≠aA) {bw:e1->Bool} {A:Nat->Prop} {q:aj->Prop} {T:List (List az)} {bP:Nat->Option Nat}
 (hA : ∀b,A b->b<w.heap.size) (ET : ∀b,s.ok g ai w b->A b) (EU : ∀r k I b m,s.ab r k=some I->bw I.bV=true->ai r k=some (b,m)->A b)
 (UI:(∀b,A b->s.ok g ai w b)\/(∀x,q x->cm x)) (bk:rK q js) (B3:lg s (k5 bO.ax) bP bw)
 (cb:ox s (k5 bO.ax) bw kx (d3 T).au) (od : ∀r k I,(∃j i,k5 bO.ax j i=some (r,k))->s.ab r k=some I->I.bV = .live) (hex : ∀r k I,Src.ab r k I∈bO.ax->s.aH r k)
 {o1:List aj} {bT:List Prop} (lr:j5 (mi s.au bP (k5 bO.ax) bw) bO.ac args=some (o1,bT)) (pT : ∀p∈bT,p)
 {dn:aj} {hJ:List Prop} (wz:mi (fun j=>bO.c1[j]?) (rb l) (hQ 0 l) js bO.ew bO.r=some (dn,hJ)) (EY : ∀p∈hJ,p)
 {u:List (Nat×List az)} {fs:List Prop} (y1:jA (fun j=>bO.c1[j]?) (rb l) (hQ 0 l) s.au l bO.e2 bO.c1=some (u,fs)) (UJ : ∀p∈fs,p)
 (wt:Con P f o1 T bO.r bO.c1) (UK:q bO.r) (UL : ∀j i I,(d3 bO.c1).ab j i=some I-> ∀e∈I.es,∀x∈e,q x)
 {vs:List Value} (aw:vs.length=args.length) (hargs : ∀(j:Nat) x v,args[j]? = some x->vs[j]? = some v->Rel w (s.ok g ai w) s.aH (s.aP ai) x v) :
 Au P f/\Calls P f vs.toArray w fun e bc=> ∃v bf,e = .returned v/\b7 g (s.gD u) bf a bc/\Rel bc ((s.gD u).ok g bf bc) (s.gD u).aH ((s.gD u).aP bf) dn v:=by
 have EZ:yC l:=by
  subst lZ;split
  ·exact qH
  refine List.pairwise_append.2 ⟨qH,List.pairwise_singleton _ _,fun b aE c aJ r k eP=> ?_⟩;rw[List.mem_singleton] at aJ;subst aJ;have o:r=aA:=eP.2;subst o
  cases b with
  | row r0=>exact t0 _ aE (Eq.symm eP.1)
  | ab r0 hK jW=>exact t0 _ aE (Eq.symm eP.1.1)
 have UM : ∀(j:Nat) b,bO.ax[j]? = some b->l[j]? = some b:=by
  intro j b ao;subst lZ;split
  ·exact ao
  rw[Y1 (eV ao)];exact ao
 have LH : ∀(j:Nat) b,l[j]? = some b->bO.ax[j]? = some b\/b = .row aA:=by
  intro j b ao;subst lZ;split at ao
  ·exact .inl ao
  rw[List.getElem?_append] at ao;split at ao
  ·exact .inl ao
  right;have:=eV ao;simp at this;rw[show j-bO.ax.length=0 by omega] at ao;simpa using ao.symm
 refine⟨wt.1,?_⟩;obtain⟨eU,aS,a9,b8,F3,cD,eE,ei,gO⟩:=enter h.togK A hA ET EU cb od;obtain⟨ap,av,bS⟩:=As _ _ _ _ _ lr;have:=wt.2 eU (ia ai (k5 bO.ax)) w vs.toArray aS b8 F3 cD ei (by simp[aw,ap]) (by intro j ca v cL aT;have ao:j<args.length:=(by have:=eV cL;omega);have U:=dw ao;obtain⟨c,bD,f1,f2,f3⟩:=bS j _ ca U cL;have yM:vs[j]? = some v:=(by simpa using aT);exact gO (xL h.togK B3 (sq _) f2 (fun p af=>pT p (f3 p af)) trivial (hargs j _ v U yM)) (hargs j _ v U yM));refine this.mono fun e bc yK=> ?_;obtain⟨v,jx,rfl,Bw,aT⟩:=yK
 have MB:lg (d3 bO.c1) (hQ 0 l) (rb l) js:=by
  refine⟨fun j r ao k=> ?_,fun _ _ _ _ _ bs=>by simp[js] at bs⟩;unfold rb at ao;split at ao
  ·rename_i r0 l1;simp at ao;subst ao;have:=x1 (n:=0) (r:=r0) (k:=k) EZ l1 rfl;simpa [Src.iR] using this
  simp at ao
 have yb : ∀j i r k,k5 bO.ax j i=some (r,k)->hQ 0 l r k=some (j,i):=fun j i r k hm=>by obtain⟨b,gW,fJ,rfl⟩:=r3.1 hm;have:=x1 (n:=0) EZ (UM j b gW) fJ;simpa using this
 have Ba : ∀r k j i,hQ 0 l r k=some (j,i)->k5 bO.ax j i=some (r,k)\/ ¬s.aH r k:=fun r k j i hm=>by
  obtain⟨b,-,fJ,ps,F2⟩:=s9 hm;rcases LH j b (by simpa using fJ) with e|e
  ·exact .inl (r3.2 ⟨b,e,ps,F2⟩)
  subst e;have:r=aA:=ps;subst this;exact .inr (vq dU k)
 obtain⟨lf,oJ,fK,V6,V7⟩:=Db (s1:=d3 bO.c1) Bw MB bk UL l bO.e2 bO.c1 u fs 0 s EZ (fun j row ao=>by simpa [d3] using ao)
  (fun r k j i hm aL=>by
    rcases Ba r k j i hm with e|e
    ·exact(Bw.stay j i (by rw[F3];exact cb.aH _ _ _ _ e aL)).1
    exact absurd aL e)
  (fun r k I hm=>by
    obtain⟨j,ao⟩:=Y2 hm;rcases LH j _ ao with e|e
    ·exact hex r k I (dD e)
    cases e) y1 UJ
 obtain⟨jV,f1,f2⟩:=leave (q0:=kx) (q:=q) h aS (by rw[a9];exact UI) F3 cD eE od cb Bw yb Ba (fun r k dn cA p=>RW) (s2:=s.gD u) oJ fK V6 V7
  (xL Bw MB bk wz EY UK aT) aT
 exact⟨v,jV,rfl,f1,f2⟩
theorem Pv (h:b7 g s ai a w){aA:Nat}(dU:s.au aA=none){f:FuncId}{args:List aj}{bO:wX}{a1:fI}(ag:we P s.au aA f args bO=some a1)(bM:∀p∈a1.ea,p)
 {vs:List Value} (aw:vs.length=args.length) (hargs : ∀(j:Nat) x v,args[j]? = some x->vs[j]? = some v->Rel w (s.ok g ai w) s.aH (s.aP ai) x v) :
 Au P f/\Calls P f vs.toArray w fun e bc=> ∃v bf,e = .returned v/\b7 g (s.gD a1.eH) bf a bc/\Rel bc ((s.gD a1.eH).ok g bf bc) (s.gD a1.eH).aH ((s.gD a1.eH).aP bf) a1.val v:=by
 unfold we at ag;simp only at ag;generalize lZ:(if bO.c1.length=bO.ax.length then bO.ax else bO.ax++[.row aA])=l at ag;split at ag
 ·simp at ag
 rename_i jW Bx;split at ag
 ·simp at ag
 rename_i TR;have t0 : ∀a∈bO.ax,a.r≠aA:=fun b aE e=>TR (List.any_eq_true.2 ⟨b,aE,by simpa using e⟩);split at ag
 ·
  split at ag;rotate_left
  ·simp at ag
  rename_i sr;split at ag;rotate_left
  ·simp at ag
  rename_i o1 bT dn hJ u fs lr wz y1;simp only[dx] at ag;subst ag;have wt:Con P f o1 [] bO.r bO.c1:=bM _ (by simp);have y2:cm bO.r:=bM _ (by simp)
  have TS:tZ bO.c1:=by
   by_cases e:bO.c1=[]
   ·rw[e];intro row cu;simp at cu
   exact bM _ (by have:bO.c1.isEmpty=false:=(by simpa [List.isEmpty_iff] using e);simp[this])
  refine Jj (bw:=kR) (A:=fun b=>b<w.heap.size) (q:=cm) (T:=[]) (bP:=fun _=>none) h dU lZ.symm (by rw[sr];exact List.Pairwise.nil) t0 (fun _ aE=>aE) (fun b aE=>aE.1)
   (fun r k I b m ae _ af=>xY h.togK ae af) (.inr fun _ U=>U) UE ?_ ?_ ?_ ?_ (by rw[sr];exact lr) (fun p af=>bM p (by simp[af])) wz (fun p af=>bM p (by simp[af])) y1 (fun p af=>bM p (by simp[af])) wt y2 ?_ aw hargs
  ·refine⟨fun _ _ e=>by simp at e,fun r _ k I _ _ j i e=> ?_⟩;rw[sr] at e;simp[k5] at e
  ·refine⟨fun j i gF d7 p e=> ?_,fun j i bD e=> ?_,fun j i r k e=> ?_⟩
   ·rw[sr] at e;simp[k5] at e
   ·simp[d3,cB] at e
   rw[sr] at e;simp[k5] at e
  ·rintro r k I ⟨j,i,e⟩;rw[sr] at e;simp[k5] at e
  ·rintro r k I e;rw[sr] at e;simp at e
  intro j i I ae e he x U;have ae:cB (bO.c1[j]?) i=some I:=ae
  cases ah:bO.c1[j]? with
  | none=>rw[ah] at ae;simp[cB] at ae
  | some row =>
   rw[ah,iV] at ae
   cases aL:row[i]? with
   | none=>rw[aL] at ae;simp at ae
   | some p =>
    rw[aL,dB] at ae;split at ae
    ·simp at ae
    simp at ae;subst ae;exact TS row (dD ah) p (dD aL) e he x U
 split at ag;rotate_left
 ·simp at ag
 rename_i o1 bT T a2 dn hJ u fs lr wy wz y1;simp only[dx] at ag;subst ag;have qH:=Ji Bx fun p af=>bM p (by simp[af]);have wt:Con P f o1 T bO.r bO.c1:=bM _ (by simp);have ad : ∀r j,nk 0 bO.ax r=some j-> ∀k,k5 bO.ax j k=some (r,k):=fun r j ao k=>by obtain⟨-,J⟩:=Dh ao;simp only[k5,show bO.ax[j]? = some (.row r) by simpa using J]
 have EV : ∀(l:List Src) (cf:List gM) (T:List (List az)) (ab:List Prop),kN s.au (nk 0 bO.ax) (k5 bO.ax) l cf=some (T,ab)->(∀p∈ab,p) ->
  ∀b∈l,∀r k I,b.has r k->s.ab r k=some I->I.bV≠ .h4:=by
  intro l
  induction l with
  | nil=>intro _ _ _ _ _ b aE;simp at aE
  | cons b l ih =>
   intro cf T ab h0 aW c aJ r k I eP ae
   cases cf with
   | nil=>cases b<;>simp[kN] at h0
   | cons cV cf =>
    cases b with
    | row r0 =>
     simp only[kN] at h0;split at h0
     ·rename_i row cu
      split at h0
      ·rename_i aq gk lE ht o J
       simp only[dx,dC] at h0;obtain⟨rfl,rfl⟩:=h0;rcases YW.1 aJ with rfl|aJ
       ·have e:r=r0:=eP;subst e;have cS:cB (some row) k=some I:=(by unfold S.ab at ae;rw[cu] at ae;exact ae);have:=Is o (fun p af=>aW p (by simp[af])) k I cS;rw[this];simp
       exact ih cf lE ht J (fun p af=>aW p (by simp[af])) c aJ r k I eP ae
      simp at h0
     simp at h0
    | ab r0 hK jW =>
     simp only[kN] at h0;split at h0;rotate_left
     ·simp at h0
     rename_i row cu;split at h0;rotate_left
     ·simp at h0
     rename_i aq gk lE ht o J;simp only[dx,dC] at h0;obtain⟨rfl,rfl⟩:=h0;rcases YW.1 aJ with rfl|aJ;rotate_left
     ·exact ih cf lE ht J (fun p af=>aW p (by simp[af])) c aJ r k I eP ae
     obtain⟨rfl,rfl⟩:=eP;have pT:cB (some row) k=some jW:=aW _ (by simp);have cS:cB (some row) k=some I:=(by unfold S.ab at ae;rw[cu] at ae;exact ae);rw[pT] at cS;simp at cS;subst cS
     have EX:jW.bV≠ .gone:=by
      rw[iV] at pT
      cases aL:row[k]? with
      | none=>rw[aL] at pT;simp at pT
      | some p =>
       rw[aL,dB] at pT;split at pT
       ·simp at pT
       rename_i e;simp at pT;subst pT;exact e
     have:=Is o (fun p af=>aW p (by simp[af])) 0 jW (by rw[kL];simp[EX]);rw[this];simp
 have B3:lg s (k5 bO.ax) (nk 0 bO.ax) ra:=by refine⟨ad,fun r ah k I ae bs j i hm=> ?_⟩;obtain⟨b,gW,fJ,-⟩:=r3.1 hm;exact EV bO.ax bO.cf T a2 wy (fun p af=>bM p (by simp[af])) b (dD gW) r k I fJ ae (by simpa [ra] using bs)
 obtain⟨t1,t2⟩:=Di h.togK B3 bO.ax bO.cf T a2 wy (fun p af=>bM p (by simp[af]));have ku : ∀j b,bO.ax[j]? = some b-> ∃cU,T[j]? = some cU:=fun j b ao=>by have:j<T.length:=(by have:=eV ao;omega);exact⟨_,dw this⟩
 refine Jj (bw:=ra) (A:=s.ok g ai w) (q:=kx) (T:=T) h dU lZ.symm qH t0 (fun b aE=>aE.1) (fun b aE=>aE)
  (fun r k I b m ae aL af=>SA h.togK ae (by simpa [ra] using aL) af) (.inl fun _ aE=>aE) (sq _) B3 ?_ ?_ ?_ lr (fun p af=>bM p (by simp[af])) wz (fun p af=>bM p (by simp[af])) y1
  (fun p af=>bM p (by simp[af])) wt trivial (fun _ _ _ _ _ _ _ _=>trivial) aw hargs
 ·refine⟨fun j i gF d7 p e dp=> ?_,fun j i bD cS=> ?_,fun j i r k e hu=> ?_⟩
  ·obtain⟨r,k⟩:=p;obtain⟨b,gW,fJ,rfl⟩:=r3.1 e;obtain⟨iq,UN,UO,rfl⟩:=r3.1 dp;have ap:=x1 (n:=0) qH gW fJ;have av:=x1 (n:=0) qH UN UO;rw[ap] at av;simpa using av
  ·have ao:j<T.length:=by
    rcases Nat.lt_or_ge j T.length with e|e
    ·exact e
    ·have:(d3 T).au j=none:=dP e;rw[this] at cS;simp[cB] at cS
   have LI:T[j]? = some T[j]:=dw ao;have LJ:bO.ax[j]? = some (bO.ax[j]'(by omega)):=dw (by omega);have ow:cB (some T[j]) i=some bD:=(by have:(d3 T).au j=some T[j]:=LI;rw[this] at cS;exact cS);obtain⟨r,k,I,gm,iS,V8,V9⟩:=(t2 j _ _ LI LJ).2.2.2 i bD ow;exact⟨r,k,I,r3.2 ⟨_,LJ,gm,iS⟩,V8,V9⟩
  obtain⟨b,gW,fJ,rfl⟩:=r3.1 e;obtain⟨cU,qt⟩:=ku j b gW;have:=(t2 j cU b qt gW).2.1 r k fJ hu;show b.iR k<((T[j]?).getD []).length;rw[qt];exact this
 ·rintro r k I ⟨j,i,e⟩ ae;obtain⟨b,gW,fJ,-⟩:=r3.1 e;obtain⟨cU,qt⟩:=ku j b gW;exact(t2 j cU b qt gW).1 r k I fJ ae
 intro r k I hm;obtain⟨j,ao⟩:=Y2 hm;obtain⟨cU,qt⟩:=ku j _ ao;exact Ar ((t2 j cU _ qt ao).2.2.1 r k I rfl)
end
end Go.VL
