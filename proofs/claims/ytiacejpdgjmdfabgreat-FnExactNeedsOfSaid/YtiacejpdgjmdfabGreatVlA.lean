/- The abstract values and states of a small program logic over the kit's `Code.wp`: what they say of memory. -/
import Derived.Below
import Derived.Orders
import Derived.KernelRfl
import Derived.Laws.MakeOwn
import Derived.Laws.OwnMore
import Derived.Laws.Rows
import Derived.Laws.Entries
import Derived.Eval
namespace Go.VL
set_option linter.unusedVariables false
set_option linter.unusedSimpArgs false
open Go

/-- Abstract values. -/
inductive AV where
  | dead
  | b (x : Bool)
  | n (k : IntKind) (x : Int)
  | s (x : ByteArray)
  | nilp
  | nils
  | esl
  | ref (r k i off : Nat)
  | osl (r k lo len : Nat)
  | hsl (r c sz : Nat) (h : Option (Nat × Nat))
  | isl (sz : Nat) (es : List (List AV))
  | ipt (sz : Nat) (es : List (List AV)) (i off : Nat)
  | ipo (sz : Nat) (c : Option (List AV))
  | agg (c : List AV)
  | tup (vs : List AV)
  | fn (f : Nat) (cap : List AV)
  deriving Inhabited

inductive Kd where
  | live | frz | gone
  deriving DecidableEq, Inhabited

/-- A block of the call's own: elements of `sz` cells. -/
structure Ob where
  sz : Nat
  es : List (List AV)
  kd : Kd
  deriving Inhabited

/-- Abstract states. -/
structure S where
  E : Nat → AV
  R : Nat → Option (List Ob)

abbrev cellV (v : Value) : Bool := v.oneCell'

/-- Where the objects lie: block and number of cells. -/
abbrev Plc := Nat → Nat → Option (Nat × Nat)
abbrev Tb := Nat → Nat → Option (Nat × Option (Nat × Nat))
/-- Which objects there are or were. -/
abbrev Us := Nat → Nat → Prop

/-- A value that names no row. -/
inductive Pure : AV → Prop
  | dead : Pure .dead
  | b (x : Bool) : Pure (.b x)
  | n (k : IntKind) (x : Int) : Pure (.n k x)
  | s (x : ByteArray) : Pure (.s x)
  | nilp : Pure .nilp
  | nils : Pure .nils
  | esl : Pure .esl
  | isl {sz : Nat} {es : List (List AV)} (h : ∀ e ∈ es, ∀ x ∈ e, Pure x) : Pure (.isl sz es)
  | ipt {sz i off : Nat} {es : List (List AV)} (h : ∀ e ∈ es, ∀ x ∈ e, Pure x) : Pure (.ipt sz es i off)
  | ipoN (sz : Nat) : Pure (.ipo sz none)
  | ipoS {sz : Nat} {c : List AV} (h : ∀ x ∈ c, Pure x) : Pure (.ipo sz (some c))
  | agg {c : List AV} (h : ∀ x ∈ c, Pure x) : Pure (.agg c)
  | tup {c : List AV} (h : ∀ x ∈ c, Pure x) : Pure (.tup c)
  | fn {f : Nat} {c : List AV} (h : ∀ x ∈ c, Pure x) : Pure (.fn f c)

/-- Elements that name no row. -/
def PureEs (es : List (List AV)) : Prop := ∀ e ∈ es, ∀ x ∈ e, Pure x

inductive Rel (w : World) (ok : Nat → Prop) (us : Us) (tb : Tb) : AV → Value → Prop
  | dead (v : Value) : Rel w ok us tb .dead v
  | b (x : Bool) : Rel w ok us tb (.b x) (.bool x)
  | n (k : IntKind) (x : Int) : Rel w ok us tb (.n k x) (.int k x)
  | s (x : ByteArray) : Rel w ok us tb (.s x) (.string x)
  | nilp : Rel w ok us tb .nilp (.pointer none)
  | nils : Rel w ok us tb .nils (.slice none 0 0)
  | esl (a : Addr) (c : Nat) : Rel w ok us tb .esl (.slice (some a) 0 c)
  | refGone {r k i off : Nat} (a : Option Addr) (hu : us r k) (h : ∀ sz p, tb r k ≠ some (sz, some p)) : Rel w ok us tb (.ref r k i off) (.pointer a)
  | ref {r k i off sz blk m : Nat} (hu : us r k) (h : tb r k = some (sz, some (blk, m))) : Rel w ok us tb (.ref r k i off) (.pointer (some ⟨blk, i * sz + off, none⟩))
  | oslGone {r k lo len : Nat} (a : Option Addr) (l c : Nat) (hu : us r k) (h : tb r k = none) : Rel w ok us tb (.osl r k lo len) (.slice a l c)
  | oslVirt {r k sz : Nat} (hu : us r k) (h : tb r k = some (sz, none)) : Rel w ok us tb (.osl r k 0 0) (.slice none 0 0)
  | osl {r k lo len sz blk m c : Nat} {a : Option Addr} (hu : us r k) (h : tb r k = some (sz, some (blk, m))) (hl : len ≤ c) (hc : c < 9223372036854775808)
      (hm : c = 0 ∨ (a = some ⟨blk, lo * sz, none⟩ ∧ (lo + c) * sz = m)) : Rel w ok us tb (.osl r k lo len) (.slice a len c)
  | hslN {r c sz : Nat} {v : Value} (h : Rel w ok us tb (.isl sz []) v) : Rel w ok us tb (.hsl r c sz none) v
  | hslS {r c sz k n : Nat} {v : Value} (h : Rel w ok us tb (.osl r (k + c) 0 n) v) : Rel w ok us tb (.hsl r c sz (some (k, n))) v
  | isl0 (sz : Nat) (a : Option Addr) (c : Nat) (h : a = none → c = 0) : Rel w ok us tb (.isl sz []) (.slice a 0 c)
  | isl {sz : Nat} {es : List (List AV)} {blk off c : Nat} (cs : Nat → Value) (hb : ok blk) (hp : PureEs es) (hl : ∀ e ∈ es, e.length = sz) (hc : es.length ≤ c)
      (hw : ∀ (j : Nat) x, es.flatten[j]? = some x → w.cell? ⟨blk, off + j, none⟩ = some (cs j)) (hcell : ∀ (j : Nat) x, es.flatten[j]? = some x → cellV (cs j) = true)
      (hr : ∀ (j : Nat) x, es.flatten[j]? = some x → Rel w ok us tb x (cs j)) : Rel w ok us tb (.isl sz es) (.slice (some ⟨blk, off, none⟩) es.length c)
  | ipt {sz : Nat} {es : List (List AV)} {blk o i off : Nat} (cs : Nat → Value) (hb : ok blk) (hp : PureEs es) (hl : ∀ e ∈ es, e.length = sz)
      (hw : ∀ (j : Nat) x, es.flatten[j]? = some x → w.cell? ⟨blk, o + j, none⟩ = some (cs j)) (hcell : ∀ (j : Nat) x, es.flatten[j]? = some x → cellV (cs j) = true)
      (hr : ∀ (j : Nat) x, es.flatten[j]? = some x → Rel w ok us tb x (cs j)) : Rel w ok us tb (.ipt sz es i off) (.pointer (some ⟨blk, o + (i * sz + off), none⟩))
  | ipoN (sz : Nat) : Rel w ok us tb (.ipo sz none) (.pointer none)
  | ipoS {sz : Nat} {c : List AV} {v : Value} (h : Rel w ok us tb (.ipt sz [c] 0 0) v) : Rel w ok us tb (.ipo sz (some c)) v
  | agg {c : List AV} (vs : List Value) (hl : vs.length = c.length) (hcell : ∀ (j : Nat) v, vs[j]? = some v → cellV v = true)
      (hr : ∀ (j : Nat) x v, c[j]? = some x → vs[j]? = some v → Rel w ok us tb x v) : Rel w ok us tb (.agg c) (.agg vs.toArray)
  | tup {c : List AV} (vs : List Value) (hl : vs.length = c.length)
      (hr : ∀ (j : Nat) x v, c[j]? = some x → vs[j]? = some v → Rel w ok us tb x v) : Rel w ok us tb (.tup c) (.tuple vs.toArray)
  | fn {f : Nat} {c : List AV} (vs : List Value) (hl : vs.length = c.length)
      (hr : ∀ (j : Nat) x v, c[j]? = some x → vs[j]? = some v → Rel w ok us tb x v) : Rel w ok us tb (.fn f c) (.func (.func f) #[] vs.toArray)

/-- What a change of the world may not touch. -/
theorem Rel.mono {w w' : World} {ok ok' : Nat → Prop} {us us' : Us} {tb tb' : Tb} {a : AV} {v : Value} (h : Rel w ok us tb a v)
    (hok : ∀ b, ok b → ok' b) (hw : ∀ b, ok b → w'.heap[b]? = w.heap[b]?)
    (hus : ∀ r k, us r k → us' r k) (htb : ∀ r k, us r k → tb' r k = tb r k ∨ tb' r k = none) : Rel w' ok' us' tb' a v := by
  have hcell : ∀ b o, ok b → w'.cell? ⟨b, o, none⟩ = w.cell? ⟨b, o, none⟩ := fun b o hb => World.cell?_of_block (hw b hb)
  induction h with
  | dead v => exact .dead v
  | b x => exact .b x
  | n k x => exact .n k x
  | s x => exact .s x
  | nilp => exact .nilp
  | nils => exact .nils
  | esl a c => exact .esl a c
  | @refGone r k i off a hu h =>
    refine .refGone a (hus r k hu) fun sz p => ?_
    rcases htb r k hu with e | e <;> rw [e]
    · exact h sz p
    · simp
  | @ref r k i off sz blk m hu h =>
    rcases htb r k hu with e | e
    · exact .ref (hus r k hu) (e.trans h)
    · exact .refGone _ (hus r k hu) fun sz p => by rw [e]; simp
  | @oslGone r k lo len a l c hu h => exact .oslGone a l c (hus r k hu) (by rcases htb r k hu with e | e <;> rw [e]; exact h)
  | @oslVirt r k sz hu h =>
    rcases htb r k hu with e | e
    · exact .oslVirt (hus r k hu) (e.trans h)
    · exact .oslGone _ _ _ (hus r k hu) e
  | @osl r k lo len sz blk m c a hu h hl hc hm =>
    rcases htb r k hu with e | e
    · exact .osl (hus r k hu) (e.trans h) hl hc hm
    · exact .oslGone _ _ _ (hus r k hu) e
  | hslN h ih => exact .hslN ih
  | hslS h ih => exact .hslS ih
  | isl0 sz a c h => exact .isl0 sz a c h
  | isl cs hb hp hl hc hw' hcl hr ih => exact .isl cs (hok _ hb) hp hl hc (fun j x hx => (hcell _ _ hb).trans (hw' j x hx)) hcl ih
  | ipt cs hb hp hl hw' hcl hr ih => exact .ipt cs (hok _ hb) hp hl (fun j x hx => (hcell _ _ hb).trans (hw' j x hx)) hcl ih
  | ipoN sz => exact .ipoN sz
  | ipoS h ih => exact .ipoS ih
  | agg vs hl hcl hr ih => exact .agg vs hl hcl ih
  | tup vs hl hr ih => exact .tup vs hl ih
  | fn vs hl hr ih => exact .fn vs hl ih

/-- Where a call began: its world, the blocks that its arguments by value may lie in, the blocks that it was handed to write. -/
structure G where
  w0 : World
  A : Nat → Prop
  M0 : Nat → Prop
  N : Nat
  m : Nat
  us0 : Us
  tb0 : Tb

def S.us (s : S) (r k : Nat) : Prop := k < ((s.R r).getD []).length

def obIn (row : Option (List Ob)) (k : Nat) : Option Ob :=
  match row with
  | some l => match l[k]? with
    | some o => if o.kd = .gone then none else some o
    | none => none
  | none => none

def S.ob (s : S) (r k : Nat) : Option Ob := obIn (s.R r) k

def S.tb (s : S) (φ : Plc) : Tb := fun r k => (s.ob r k).map fun o => (o.sz, φ r k)

def S.liveAt (s : S) (φ : Plc) (b : Nat) : Prop := ∃ r k o m, s.ob r k = some o ∧ o.kd = .live ∧ φ r k = some (b, m)

def S.ok (s : S) (g : G) (φ : Plc) (w : World) (b : Nat) : Prop :=
  b < w.heap.size ∧ (g.A b ∨ g.w0.heap.size ≤ b ∨ g.M0 b) ∧ ¬ s.liveAt φ b

/-- An object's cells. -/
def ObRel (w : World) (ok : Nat → Prop) (us : Us) (tb : Tb) (o : Ob) : Option (Nat × Nat) → Prop
  | none => o.es = []
  | some (blk, m) => ∃ c ty, w.heap[blk]? = some (.cells c ty (0, 0)) ∧ c.size = m ∧ (∀ e ∈ o.es, e.length = o.sz) ∧
      ∀ (j : Nat) x, o.es.flatten[j]? = some x → ∃ v, c[j]? = some v ∧ cellV v = true ∧ Rel w ok us tb x v

structure Keep (g : G) (w : World) : Prop where
  os : w.os = g.w0.os
  tape : w.tape = g.w0.tape
  output : w.output = g.w0.output
  size : g.w0.heap.size ≤ w.heap.size
  block : ∀ b, b < g.w0.heap.size → ¬ g.M0 b → w.heap[b]? = g.w0.heap[b]?

/-- Memory as a state describes it. -/
structure RelM (g : G) (s : S) (φ : Plc) (w : World) : Prop where
  obj : ∀ r k o, s.ob r k = some o → ObRel w (s.ok g φ w) s.us (s.tb φ) o (φ r k)
  inj : ∀ r k o r' k' o' b m m', s.ob r k = some o → s.ob r' k' = some o' → φ r k = some (b, m) → φ r' k' = some (b, m') → r = r' ∧ k = k'
  own : ∀ r k o b m, s.ob r k = some o → φ r k = some (b, m) → g.w0.heap.size ≤ b ∨ g.M0 b
  keep : Keep g w
  mlt : ∀ b, g.M0 b → b < g.w0.heap.size
  alt : ∀ b, g.A b → b < g.w0.heap.size
  stay : ∀ j k, g.us0 j k → s.us j k ∧ (s.tb φ j k = g.tb0 j k ∨ s.tb φ j k = none)
  low : ∀ j k, g.us0 j k → j < g.m

structure RelS (g : G) (s : S) (φ : Plc) (a : Act) (w : World) : Prop extends RelM g s φ w where
  env : ∀ t, Rel w (s.ok g φ w) s.us (s.tb φ) (s.E t) (a.tmps.getD t undef)
  defers : a.defers = []
  tsz : g.N ≤ a.tmps.size

/-- The operand's abstract value. -/
def ofValue : Value → AV
  | .bool x => .b x
  | .int k x => .n k x
  | .string x => .s x
  | .pointer none => .nilp
  | .slice none 0 0 => .nils
  | _ => .dead

theorem rel_ofValue {w : World} {ok : Nat → Prop} {us : Us} {tb : Tb} (v : Value) : Rel w ok us tb (ofValue v) v := by
  unfold ofValue
  split <;> constructor

def evalOf (E : Nat → AV) : Operand → AV
  | .tmp t => E t
  | .const v => ofValue v
  | .global _ => .dead
  | .func f => .fn f []

theorem RelS.eval {g : G} {s : S} {φ : Plc} {a : Act} {w : World} (h : RelS g s φ a w) (x : Operand) :
    Rel w (s.ok g φ w) s.us (s.tb φ) (evalOf s.E x) (a.eval x) := by
  cases x with
  | tmp t => exact h.env t
  | const v => exact rel_ofValue v
  | global g => exact .dead _
  | func f => exact .fn [] rfl (fun j x v hx => by simp at hx)

/-- The cells of a value. -/
def AV.cells : AV → List AV
  | .agg c => c
  | x => [x]

/-- Is it the value of one cell? -/
def AV.one : AV → Bool
  | .dead | .agg _ | .tup _ => false
  | _ => true

/-- Can it be laid into cells? -/
def AV.cellable : AV → Bool
  | .dead | .tup _ => false
  | _ => true

theorem AV.cellable_or {v : AV} (h : v.cellable = true) : v.one = true ∨ ∃ c, v = .agg c := by
  cases v <;> first | exact .inl rfl | exact .inr ⟨_, rfl⟩ | simp [AV.cellable] at h

theorem Rel.cellV {w : World} {ok : Nat → Prop} {us : Us} {tb : Tb} {a : AV} {v : Value} (h : Rel w ok us tb a v) (ha : a.one = true) : cellV v = true := by
  cases h with
  | ipoS h => cases h; rfl
  | hslN h => cases h <;> rfl
  | hslS h => cases h <;> rfl
  | _ => first | rfl | simp [AV.one] at ha

/-- The cells of a value, a cell each. -/
theorem Rel.cellsOf {w : World} {ok : Nat → Prop} {us : Us} {tb : Tb} {a : AV} {v : Value} (h : Rel w ok us tb a v) (ha : a.one = true ∨ ∃ c, a = .agg c) :
    ∃ vs : List Value, v.cells = vs.toArray ∧ vs.length = a.cells.length ∧ (∀ (j : Nat) x, vs[j]? = some x → VL.cellV x = true) ∧
      ∀ (j : Nat) x u, a.cells[j]? = some x → vs[j]? = some u → Rel w ok us tb x u := by
  rcases ha with ha | ⟨c, rfl⟩
  · have hc := h.cellV ha
    refine ⟨[v], ?_, ?_, ?_, ?_⟩
    · cases v <;> first | rfl | simp [VL.cellV, Value.oneCell'] at hc
    · cases a <;> first | rfl | simp [AV.one] at ha
    · intro j x hx
      cases j with
      | zero => simp at hx; subst hx; exact hc
      | succ j => simp at hx
    · intro j x u hx hu
      have e : a.cells = [a] := by cases a <;> first | rfl | simp [AV.one] at ha
      rw [e] at hx
      cases j with
      | zero => simp at hx hu; subst hx; subst hu; exact h
      | succ j => simp at hx
  · cases h with
    | agg vs hl hcell hr => exact ⟨vs, rfl, hl, hcell, hr⟩

end Go.VL
