/- The runner's steps: operations without calls. -/
import Derived.Test.YtiacejpdgjmdfabGreatVlB
namespace Go.VL
set_option linter.unusedVariables false
set_option linter.unusedSimpArgs false
open Go

/-- How a value is said in other words: as it is (rows renamed), an object's elements as a value, nil as an empty value. -/
inductive C0 where
  | id
  | sl (es : List (List AV))
  | nl (sz : Nat)
  | ps
  | as (x : AV)
  | len (n : Nat)
  | po (sz : Nat)
  | at_ (j i n : Nat)
  | view (rp : Nat) (o : Ob) (es : List (List AV))
  deriving Inhabited

inductive C1 where
  | c0 (c : C0)
  | ptr (l : List C0)
  | ptro (l : List C0)
  | agg (l : List C0)
  deriving Inhabited

inductive C2 where
  | c1 (c : C1)
  | comp (l : List C1)
  deriving Inhabited

/-- How a row is said in other words. -/
inductive RC where
  | pure
  | box (l : List C0)
  | as (row : List Ob)
  | rn (row : List Ob)
  | rx (row : List Ob)
  | drop
  deriving Inhabited

/-- A row made of objects and the rest of a row. -/
structure Seg where
  hd : List (Nat × Nat) := []
  tl : Option (Nat × Nat) := none
  deriving DecidableEq

/-- What is handed over: a row, or one object. -/
inductive Src where
  | row (r : Nat)
  | ob (r k : Nat) (o : Ob)
  deriving Inhabited

/-- A call: the rows handed over and how, the arguments, the answer and the rows behind, and how these are said here. -/
structure CA where
  mv : List Src := []
  rc : List RC := []
  ac : List C2
  r : AV
  T1 : List (List Ob) := []
  rr : C2 := .c1 (.c0 .id)
  rrc : List RC := []
  rds : List Nat := []
  sc : Bool := true

/-- What the prover hands to one operation. -/
inductive Ans where
  | none
  | br (t : Bool)
  | el (c : List AV)
  | obel (o : Ob) (c : List AV)
  | bd
  | call (c : CA)
  | app (m : Nat)
  | re (t : Nat) (v : AV) (a : Ans)
  | fz (r : Nat) (a : Ans)
  | mg (r n : Nat) (a : Ans)

structure Res where
  val : AV
  upd : List (Nat × List Ob) := []
  obs : List Prop := []

def isAggT (P : Program) (t : TypeId) : Bool :=
  match P.underlying t with
  | some (.struct _) | some (.array _ _) => true
  | _ => false

/-- Bytes as a string. -/
def bstr (ns : List Int) : ByteArray := ns.foldl (fun r n => r.push (UInt8.ofNat n.toNat)) ByteArray.empty

/-- The numbers in elements that are bytes. -/
def bytesOf : List (List AV) → Option (List Int)
  | [] => some []
  | [.n .u8 n] :: es => (bytesOf es).map (n :: ·)
  | _ => none

/-- The element of a list at a place: told, or looked up. -/
def elemAt (es : List (List AV)) (i : Nat) : Ans → Option (List AV × List Prop)
  | .el c => some (c, [es[i]? = some c])
  | .obel _ c => some (c, [es[i]? = some c])
  | _ => match es[i]? with
    | some c => some (c, [])
    | none => none

def obAt (row : Option (List Ob)) (k : Nat) : Ans → Option (Ob × List Prop)
  | .obel o _ => match row with
    | some row => some (o, [obIn (some row) k = some o])
    | none => none
  | _ => match obIn row k with
    | some o => some (o, [])
    | none => none

def takeT (P : Program) (t : TypeId) (c : List AV) (off : Nat) : Option AV :=
  if !((P.underlying t).isSome && (P.info? t).isSome) then none else
  if isAggT P t then (if off + P.cellsOf t ≤ c.length then some (.agg ((c.drop off).take (P.cellsOf t))) else none)
  else match c[off]? with
    | some x => if x.one then some x else none
    | none => none

def binS (op : BinOp) (x y : AV) : Option (AV × List Prop) :=
  match x, y with
  | .n k a, .n k' b =>
    match op with
    | .shl => some (.n k (k.wrap (a * 2 ^ (min b.toNat k.bits))), [0 ≤ b])
    | .shr => some (.n k (a.fdiv (2 ^ (min b.toNat k.bits))), [0 ≤ b])
    | _ => if k ≠ k' then none else
      match op with
      | .add => some (.n k (k.wrap (a + b)), [])
      | .sub => some (.n k (k.wrap (a - b)), [])
      | .mul => some (.n k (k.wrap (a * b)), [])
      | .quo => some (.n k (k.wrap (a.tdiv b)), [b ≠ 0])
      | .rem => some (.n k (a.tmod b), [b ≠ 0])
      | .and => some (.n k (k.wrap ((BitVec.ofInt k.bits a &&& BitVec.ofInt k.bits b).toNat)), [])
      | .or => some (.n k (k.wrap ((BitVec.ofInt k.bits a ||| BitVec.ofInt k.bits b).toNat)), [])
      | .xor => some (.n k (k.wrap ((BitVec.ofInt k.bits a ^^^ BitVec.ofInt k.bits b).toNat)), [])
      | .eql => some (.b (a == b), [])
      | .neq => some (.b (a != b), [])
      | .lss => some (.b (decide (a < b)), [])
      | .leq => some (.b (decide (a ≤ b)), [])
      | .gtr => some (.b (decide (b < a)), [])
      | .geq => some (.b (decide (b ≤ a)), [])
      | _ => none
  | .s a, .s b =>
    match op with
    | .add => some (.s (a ++ b), [a.size + b.size < 9223372036854775808])
    | .eql => some (.b (a.toList == b.toList), [])
    | .neq => some (.b (!(a.toList == b.toList)), [])
    | _ => none
  | _, _ => none

def eqS (P : Program) (t : TypeId) (x y : AV) : Option Bool :=
  match P.underlying t, x, y with
  | some .bool, .b a, .b c => some (a == c)
  | some (.pointer _), .nilp, .nilp => some true
  | some (.pointer _), .ipt .., .nilp => some false
  | some (.pointer _), .nilp, .ipt .. => some false
  | some (.slice _), .nils, .nils => some true
  | some (.slice _), .esl, .nils => some false
  | _, _, _ => none

def unS (op : UnOp) (x : AV) : Option AV :=
  match op, x with
  | .neg, .n k a => some (.n k (k.wrap (0 - a)))
  | .not, .b a => some (.b (!a))
  | _, _ => none

/-- Places of a struct's fields. -/
def fieldsOf (P : Program) (t : TypeId) : Option (Array Field) :=
  match P.underlying t with
  | some (.struct fs) => some fs
  | _ => none

def elemT (P : Program) (t : TypeId) : Option TypeId :=
  match P.underlying t with
  | some (.slice e) => some e
  | _ => none

/-- The cells of a type's zero value. -/
def zeroCellsOf (P : Program) (t : TypeId) : Option (List AV) :=
  match P.info? t with
  | some i => match i.zero with
    | some v => if v.cells.toList.all (·.oneCell') then some (v.cells.toList.map ofValue) else none
    | none => none
  | none => none

/-- Nil slices may be said as empty ones. -/
def elemZ1 : AV → AV → AV
  | .nils, .isl sz [] => .isl sz []
  | .nilp, .ipo sz none => .ipo sz none
  | .nils, .hsl r c sz none => .hsl r c sz none
  | x, _ => x

def elemZl : List AV → List AV → List AV
  | x :: z, y :: c => elemZ1 x y :: elemZl z c
  | z, _ => z

def elemZ (z : List AV) : Ans → List AV
  | .el c => elemZl z c
  | _ => z

def setCells (c : List AV) (off : Nat) (vs : List AV) : List AV := c.take off ++ vs ++ c.drop (off + vs.length)

/-- Parts put into place. -/
def fillS : List AV → List (Nat × Nat × AV) → Option (List AV)
  | c, [] => some c
  | c, (off, size, x) :: rest =>
    if x.cellable && x.cells.length = size && decide (off + size ≤ c.length) then fillS (setCells c off x.cells) rest else none

/-- Elements put into place. -/
def putEs (sz : Nat) : List (List AV) → List (Nat × AV) → Option (List (List AV))
  | es, [] => some es
  | es, (i, x) :: rest => if x.cellable && x.cells.length = sz && decide (i < es.length) then putEs sz (es.set i x.cells) rest else none

/-- A bound of a slice expression. -/
def bnd : Option AV → Nat → Option (Nat × List Prop)
  | none, d => some (d, [])
  | some (.n _ x), _ => some (x.toNat, [0 ≤ x])
  | _, _ => none

def opS (P : Program) (E : Nat → AV) (R : Nat → Option (List Ob)) (nr : Nat) (o : Oper) (ans : Ans) : Option Res :=
  let ev := evalOf E
  match o.op with
  | .move x | .assign x => some { val := ev x }
  | .pick c a b =>
    match ev c, ans with
    | .b x, .br t => some { val := if t then ev a else ev b, obs := [x = t] }
    | .b true, _ => some { val := ev a }
    | .b false, _ => some { val := ev b }
    | _, _ => none
  | .alloc t =>
    match zeroCellsOf P t with
    | some c => some { val := .ref nr 0 0 0, upd := [(nr, [⟨c.length, [c], .live⟩])] }
    | none => none
  | .box _ x =>
    match ev x with
    | .agg c => some { val := .ref nr 0 0 0, upd := [(nr, [⟨c.length, [c], .live⟩])] }
    | v => if v.one then some { val := .ref nr 0 0 0, upd := [(nr, [⟨1, [[v]], .live⟩])] } else none
  | .load t x =>
    match ev x with
    | .ref r k i off =>
      match obAt (R r) k ans with
      | some (ob, o1) => match elemAt ob.es i ans with
        | some (c, o2) => match takeT P t c off with
          | some v => some { val := v, obs := o1 ++ o2 }
          | none => none
        | none => none
      | none => none
    | .ipt _ es i off =>
      match elemAt es i ans with
      | some (c, o2) => match takeT P t c off with
        | some v => some { val := v, obs := o2 }
        | none => none
      | none => none
    | _ => none
  | .store t x y =>
    match ev x with
    | .ref r k i off =>
      match R r with
      | none => none
      | some row =>
      match obAt (some row) k ans with
      | some (ob, o1) =>
        if ob.kd ≠ .live then none else
        let v := ev y
        if v.cellable = false then none else
        if v.cells.length ≠ P.cellsOf t ∨ (P.info? t).isSome = false then none else
        match ans with
        | .bd => if off = 0 then some { val := .dead, upd := [(r, row.set k { ob with es := ob.es.set i v.cells })], obs := o1 ++ [i < ob.es.length, v.cells.length = ob.sz] } else none
        | _ => match elemAt ob.es i ans with
          | some (c, o2) => if off + v.cells.length ≤ c.length then some { val := .dead, upd := [(r, row.set k { ob with es := ob.es.set i (setCells c off v.cells) })], obs := o1 ++ o2 } else none
          | none => none
      | none => none
    | _ => none
  | .nilCheck x =>
    match ev x with
    | .ref r k i off => match obAt (R r) k ans with
      | some (ob, o1) => match elemAt ob.es i ans with
        | some (_, o2) => some { val := .ref r k i off, obs := o1 ++ o2 }
        | none => none
      | none => none
    | .ipt sz es i off => some { val := .ipt sz es i off }
    | .fn f c => some { val := .fn f c }
    | _ => none
  | .binOp op t x y _ =>
    match binS op (ev x) (ev y) with
    | some (v, ob) => some { val := v, obs := ob }
    | none => match op with
      | .eql => (eqS P t (ev x) (ev y)).map fun r => { val := .b r }
      | .neq => (eqS P t (ev x) (ev y)).map fun r => { val := .b (!r) }
      | _ => none
  | .unOp op _ x => (unS op (ev x)).map fun v => { val := v }
  | .convert src dst x =>
    match P.underlying dst, ev x with
    | some (.int k), .n _ a => if (P.underlying src).isSome then some { val := .n k (k.wrap a) } else none
    | some .string, .osl r k lo len =>
      match (elemT P src).bind P.underlying, obIn (R r) k with
      | some (.int .u8), some ob => match bytesOf ((ob.es.drop lo).take len) with
        | some ns => if lo + len ≤ ob.es.length ∧ ob.sz = 1 then some { val := .s (bstr ns) } else none
        | none => none
      | _, _ => none
    | _, _ => none
  | .makeFunc (.func f) first captured =>
    if first.size = 0 then some { val := .fn f (captured.toList.map ev) } else none
  | .makeSlice t l c =>
    match elemT P t, ev l, ev c with
    | some e, .n _ l, .n _ c =>
      match P.info? e, zeroCellsOf P e with
      | some i, some z => if z.length = i.size then some { val := .osl nr 0 0 l.toNat, upd := [(nr, [⟨z.length, List.replicate l.toNat (elemZ z ans), .live⟩])], obs := [0 ≤ l, l ≤ c, (i.bytes : Int) * c ≤ 281474976710656, c < 9223372036854775808] } else none
      | _, _ => none
    | _, _, _ => none
  | .fieldAddr t x f =>
    match fieldsOf P t with
    | some fs => match fs[f]? with
      | some fd => if P.cellsOf fd.type = 0 then none else
        match ev x with
        | .ref r k i off => match obAt (R r) k ans with
          | some (ob, o1) => match elemAt ob.es i ans with
            | some (_, o2) => some { val := .ref r k i (off + fd.offset), obs := o1 ++ o2 }
            | none => none
          | none => none
        | .ipt sz es i off => some { val := .ipt sz es i (off + fd.offset) }
        | _ => none
      | none => none
    | none => none
  | .field t x f =>
    match fieldsOf P t with
    | some fs => match fs[f]?, ev x with
      | some fd, .agg c => (takeT P fd.type c fd.offset).map fun v => { val := v }
      | _, _ => none
    | none => none
  | .indexAddr t x ix =>
    match elemT P t, ev ix with
    | some e, .n _ j =>
      match ev x with
      | .isl sz es => if sz = P.cellsOf e ∧ sz ≠ 0 then some { val := .ipt sz es j.toNat 0, obs := [0 ≤ j, j < es.length] } else none
      | .osl r k lo len => match R r with
        | some row => match obAt (some row) k ans with
          | some (ob, o1) => if ob.sz = P.cellsOf e ∧ ob.sz ≠ 0 then some { val := .ref r k (lo + j.toNat) 0, obs := o1 ++ [0 ≤ j, j < len] } else none
          | none => none
        | none => none
      | _ => none
    | _, _ => none
  | .index t x ix =>
    match P.underlying t, ev x, ev ix with
    | some .string, .s s, .n _ j => some { val := .n .u8 (s.data.toList.getD j.toNat 0).toNat, obs := [0 ≤ j, j < s.size] }
    | _, _, _ => none
  | .extract x i =>
    match ev x with
    | .tup vs => (vs[i]?).map fun v => { val := v }
    | _ => none
  | .slice t x lo hi none =>
    match P.underlying t, ev x with
    | some (.slice e), .isl sz es =>
      match bnd (lo.map ev) 0, bnd (hi.map ev) es.length with
      | some (l, o1), some (h, o2) => if sz = P.cellsOf e ∧ sz ≠ 0 then some { val := .isl sz ((es.drop l).take (h - l)), obs := o1 ++ o2 ++ [l ≤ h, h ≤ es.length] } else none
      | _, _ => none
    | some (.slice e), .osl r k l0 len =>
      match R r with
      | none => none
      | some row => match obAt (some row) k ans with
        | none => none
        | some (ob, oo) =>
          match bnd (lo.map ev) 0, bnd (hi.map ev) len with
          | some (l, o1), some (h, o2) => if ob.sz = P.cellsOf e ∧ ob.sz ≠ 0 then some { val := .osl r k (l0 + l) (h - l), obs := oo ++ o1 ++ o2 ++ [l ≤ h, h ≤ len] } else none
          | _, _ => none
    | some .string, .s s =>
      match bnd (lo.map ev) 0, bnd (hi.map ev) s.size with
      | some (l, o1), some (h, o2) => some { val := .s (s.extract l h), obs := o1 ++ o2 ++ [l ≤ h, h ≤ s.size] }
      | _, _ => none
    | _, _ => none
  | .build t parts =>
    match fieldsOf P t, zeroCellsOf P t with
    | some fs, some z =>
      if fs.toList.all (fun f => (P.info? f.type).isSome) = false then none else
      match parts.toList.mapM fun (p : Nat × Operand) => (fs[p.1]?).map fun fd => (fd.offset, P.cellsOf fd.type, ev p.2) with
      | some l => (fillS z l).map fun c => { val := .agg c }
      | none => none
    | _, _ => none
  | .buildSlice t len parts =>
    match elemT P t with
    | some e => match zeroCellsOf P e with
      | some z =>
        if len * z.length > 16777216 ∨ z.length ≠ P.cellsOf e ∨ z.length = 0 then none else
        match putEs z.length (List.replicate len z) (parts.toList.map fun p => (p.1, ev p.2)) with
        | some es => some { val := .osl nr 0 0 len, upd := [(nr, [⟨z.length, es, .live⟩])] }
        | none => none
      | none => none
    | none => none
  | .call { callee := .builtin .len, args, argTypes } =>
    match args.toList.map ev, P.underlying (argTypes.getD 0 0), decide (argTypes.size = 1) with
    | [.isl _ es], some (.slice _), true => some { val := .n .i64 es.length }
    | [.osl r k _ len], some (.slice _), true => match R r with
      | some row => match obAt (some row) k ans with
        | some (_, o1) => some { val := .n .i64 len, obs := o1 }
        | none => none
      | none => none
    | [.nils], some (.slice _), true => some { val := .n .i64 0 }
    | [.s x], some .string, true => some { val := .n .i64 x.size }
    | _, _, _ => none
  | _ => none

end Go.VL
