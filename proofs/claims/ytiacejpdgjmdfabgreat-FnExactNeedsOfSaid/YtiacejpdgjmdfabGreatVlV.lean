/- A row's arguments as plain values; a law's call from its contract. -/
import Derived.Test.YtiacejpdgjmdfabGreatVlU
import Derived.ChangeSlices
import Derived.ChangeOld
import Derived.Carry
namespace Go.VL
set_option linter.unusedVariables false
set_option linter.unusedSimpArgs false
open Go Go.ChangeShapes Go.WideShapes Go.RowKit

/-- Values for abstract cells. -/
def CellsRel (w : World) (c : List AV) (cs : List Value) : Prop :=
  cs.length = c.length ∧ ∀ (j : Nat) x v, c[j]? = some x → cs[j]? = some v → cellV v = true ∧ Rel w (fun b => b < w.heap.size) (fun _ _ => False) (fun _ _ => none) x v

theorem CellsRel.nil (w : World) : CellsRel w [] [] := ⟨rfl, fun j x v hx => by simp at hx⟩

theorem CellsRel.one {w : World} {x : AV} {v : Value} (hc : cellV v = true) (h : Rel w (fun b => b < w.heap.size) (fun _ _ => False) (fun _ _ => none) x v) : CellsRel w [x] [v] := by
  refine ⟨rfl, fun j y u hy hu => ?_⟩
  match j, hy, hu with
  | 0, hy, hu => obtain rfl := Option.some.inj hy; obtain rfl := Option.some.inj hu; exact ⟨hc, h⟩
  | j + 1, hy, hu => simp at hy

/-- A type's values in a world, read as plain ones. -/
structure Opens (P : Program) (w : World) (t : TypeId) {α : Type} (f : α → List AV) (I : α → Prop) : Prop where
  pure : ∀ a, ∀ v ∈ f a, Pure v
  size : ∀ a, (f a).length = P.cellsOf t
  opens : ∀ {H : Type} {enc : TypeId × Value → H} {base : Nat} {spare : Nat → Bool} {held : Bool} {fuel : Nat} {cs : List Value} {x : DataW H × List MemPlace},
    DataW.trod enc P w base spare held fuel t cs = some x → ∃ a, I a ∧ CellsRel w (f a) cs

section
variable {P : Program} {w : World} {t : TypeId}

def In64 (x : Int) : Prop := (Lit.int .i64 x).wf = true

theorem opens_int (ht : P.underlying t = some (.int .i64)) (hc : P.cellsOf t = 1) : Opens P w t eI In64 where
  pure := eI_pure
  size := fun a => hc.symm
  opens := fun h => by
    obtain ⟨n, rfl, -, hw⟩ := DataW.trod_int ht h
    exact ⟨n, hw, .one rfl (.n _ _)⟩

theorem opens_bool (ht : P.underlying t = some .bool) (hc : P.cellsOf t = 1) : Opens P w t eB (fun _ => True) where
  pure := eB_pure
  size := fun a => hc.symm
  opens := fun h => by
    obtain ⟨n, rfl, -⟩ := DataW.trod_bool ht h
    exact ⟨n, trivial, .one rfl (.b _)⟩

theorem opens_string (ht : P.underlying t = some .string) (hc : P.cellsOf t = 1) : Opens P w t eS (fun s => s.size ≤ maxLen) where
  pure := eS_pure
  size := fun a => hc.symm
  opens := fun h => by
    obtain ⟨n, rfl, -, hw⟩ := DataW.trod_string ht h
    exact ⟨n, hw, .one rfl (.s _)⟩

theorem list_of {α : Type} {Q : Nat → α → Prop} : ∀ (n : Nat), (∀ i, i < n → ∃ a, Q i a) → ∃ l : List α, l.length = n ∧ ∀ (i : Nat) a, l[i]? = some a → Q i a
  | 0, _ => ⟨[], rfl, fun i a h => by simp at h⟩
  | n + 1, h => by
    obtain ⟨l, h1, h2⟩ := list_of n fun i hi => h i (by omega)
    obtain ⟨a, ha⟩ := h n (by omega)
    refine ⟨l ++ [a], by simp [h1], fun i x hx => ?_⟩
    rw [List.getElem?_append] at hx
    split at hx
    · exact h2 i x hx
    · have : i = l.length := by have := lt_of_get hx; simp at this; omega
      subst this
      simp at hx; subst hx; rw [h1]; exact ha

theorem opens_slice {e : TypeId} {α : Type} {f : α → List AV} {I : α → Prop} {sz : Nat} (ht : P.underlying t = some (.slice e)) (hc : P.cellsOf t = 1) (hsz : P.cellsOf e = sz) (hpos : 0 < sz) (he : Opens P w e f I) :
    Opens P w t (eL sz f) (fun l => l.length ≤ maxLen ∧ ∀ x ∈ l, I x) where
  pure := eL_pure he.pure
  size := fun a => hc.symm
  opens := fun h => by
    rcases DataW.trod_slice ht h with ⟨rfl, -⟩ | ⟨a, len, cap, elems, rest, n, _, rfl, rfl, hb, hl, hm, hlen, hel, hsp, hns⟩
    · exact ⟨[], ⟨by simp, by simp⟩, .one rfl (.isl0 _ _ _ (fun _ => rfl))⟩
    · subst hsz
      have each : ∀ i, i < len → ∃ x, I x ∧ ∀ j, j < P.cellsOf e → ∃ y v, (f x)[j]? = some y ∧ w.cell? ((a.add (i * P.cellsOf e)).add j) = some v ∧ cellV v = true ∧ Rel w (fun b => b < w.heap.size) (fun _ _ => False) (fun _ _ => none) y v := by
        intro i hi
        have h1 := hel i hi
        rw [List.getElem?_eq_getElem (by omega), Option.bind_eq_some_iff] at h1
        obtain ⟨cs', h2, h3⟩ := h1
        obtain ⟨x, h4, h5, h6⟩ := he.opens h3
        refine ⟨x, h4, fun j hj => ?_⟩
        obtain ⟨-, c1, c2⟩ := World.cells?_some h2
        have hy : (f x)[j]? = some (f x)[j] := List.getElem?_eq_getElem (by rw [he.size]; exact hj)
        have hv : cs'[j]? = some cs'[j] := List.getElem?_eq_getElem (by omega)
        obtain ⟨d1, d2⟩ := h6 j _ _ hy hv
        exact ⟨_, _, hy, by rw [c2 j hj, hv], d1, d2⟩
      obtain ⟨l, l1, l2⟩ := list_of len each
      refine ⟨l, ⟨by omega, fun x hx => ?_⟩, .one rfl ?_⟩
      · obtain ⟨i, hi⟩ := List.getElem?_of_mem hx
        exact (l2 i x hi).1
      · rcases Nat.eq_zero_or_pos len with h0 | h0
        · subst h0
          have : l = [] := List.length_eq_zero_iff.1 l1
          subst this
          exact .isl0 _ _ _ (by simp)
        · obtain ⟨blk, off, spot⟩ := a
          have hspot : spot = none ∧ blk < w.heap.size := by
            obtain ⟨x, -, h2⟩ := each 0 h0
            obtain ⟨y, v, -, h3, -⟩ := h2 0 hpos
            simp only [Nat.zero_mul, Addr.add, if_true] at h3
            unfold World.cell? at h3
            cases hh : w.heap[blk]? with
            | none => simp [hh] at h3
            | some o =>
              have hlt := (Array.getElem?_eq_some_iff.1 hh).1
              refine ⟨?_, hlt⟩
              simp only [hh] at h3
              cases o <;> simp at h3
              cases spot with
              | none => rfl
              | some _ => simp at h3
          obtain ⟨rfl, hblk⟩ := hspot
          have hrd : Rd w (fun b => b < w.heap.size) (fun _ _ => False) (fun _ _ => none) blk off (P.cellsOf e) (l.map f) := by
            have hle : ∀ z ∈ l.map f, z.length = P.cellsOf e := by
              intro z hz
              rw [List.mem_map] at hz
              obtain ⟨x, -, rfl⟩ := hz
              exact he.size x
            refine ⟨hle, fun j x hx => ?_⟩
            have hj : j < len * P.cellsOf e := by
              have := lt_of_get hx
              rw [flatten_length _ hle, List.length_map, l1] at this
              exact this
            have hi : j / P.cellsOf e < len := Nat.div_lt_of_lt_mul (by rw [Nat.mul_comm]; exact hj)
            have hr : j % P.cellsOf e < P.cellsOf e := Nat.mod_lt _ hpos
            have hji : j = j / P.cellsOf e * P.cellsOf e + j % P.cellsOf e := by rw [Nat.mul_comm]; exact (Nat.div_add_mod j _).symm
            have hli : l[j / P.cellsOf e]? = some (l[j / P.cellsOf e]'(by omega)) := List.getElem?_eq_getElem _
            have hmi : (l.map f)[j / P.cellsOf e]? = some (f (l[j / P.cellsOf e]'(by omega))) := map_get hli
            obtain ⟨y, v, e1, e2, e3, e4⟩ := (l2 _ _ hli).2 _ hr
            have hfl := flatten_at hle hmi hr
            rw [← hji, hx, e1] at hfl
            obtain rfl := Option.some.inj hfl
            refine ⟨v, ?_, e3, e4⟩
            rw [addr_add, addr_add] at e2
            rw [hji]
            rw [Nat.add_assoc] at e2
            exact e2
          have := hrd.isl (c := cap) ⟨hblk, pure_map he.pure l⟩ (by rw [List.length_map]; omega)
          rw [List.length_map, l1] at this
          exact this

theorem CellsRel.app {c1 c2 : List AV} {cs : List Value} {o n : Nat} (h1 : CellsRel w c1 ((cs.drop o).take n)) (h2 : CellsRel w c2 (cs.drop (o + n))) (hn : c1.length = n) : CellsRel w (c1 ++ c2) (cs.drop o) := by
  obtain ⟨e1, e2⟩ := h1
  obtain ⟨f1, f2⟩ := h2
  have hsplit : cs.drop o = (cs.drop o).take n ++ cs.drop (o + n) := by
    rw [← List.drop_drop, List.take_append_drop]
  rw [hsplit]
  refine ⟨by rw [List.length_append, List.length_append, e1, f1], fun j x v hx hv => ?_⟩
  rw [List.getElem?_append] at hx hv
  rw [e1] at hv
  split at hx
  · rename_i hj
    rw [if_pos hj] at hv
    exact e2 j x v hx hv
  · rename_i hj
    rw [if_neg hj] at hv
    exact f2 _ x v hx hv

/-- A struct, field by field. -/
theorem struct_field {fs : Array Field} (ht : P.underlying t = some (.struct fs)) {H : Type} {enc : TypeId × Value → H} {base : Nat} {spare : Nat → Bool} {held : Bool} {fuel : Nat} {cs : List Value} {x : DataW H × List MemPlace}
    (h : DataW.trod enc P w base spare held fuel t cs = some x) :
    cs.length = P.cellsOf t ∧ ∀ (i : Nat) (fd : Field), fs[i]? = some fd → ∀ {α : Type} {f : α → List AV} {I : α → Prop}, Opens P w fd.type f I → ∃ a, I a ∧ CellsRel w (f a) ((cs.drop fd.offset).take (P.cellsOf fd.type)) := by
  obtain ⟨xs, n, -, -, h1, h2, h3⟩ := DataW.trod_struct ht h
  refine ⟨h1, fun i fd hfd α f I ho => ?_⟩
  have hi : i < xs.length := by rw [h2]; exact (Array.getElem?_eq_some_iff.1 hfd).1
  have h4 := h3 i fd hfd
  rw [List.getElem?_eq_getElem hi] at h4
  exact ho.opens h4

theorem field_at {fs : Array Field} {cs : List Value}
    (h : ∀ (i : Nat) (fd : Field), fs[i]? = some fd → ∀ {α : Type} {f : α → List AV} {I : α → Prop}, Opens P w fd.type f I → ∃ a, I a ∧ CellsRel w (f a) ((cs.drop fd.offset).take (P.cellsOf fd.type)))
    (i off n : Nat) {fd : Field} (hfd : fs[i]? = some fd) (ho : fd.offset = off) (hn : P.cellsOf fd.type = n) {α : Type} {f : α → List AV} {I : α → Prop} (o : Opens P w fd.type f I) : ∃ a, I a ∧ CellsRel w (f a) ((cs.drop off).take n) := by
  subst ho; subst hn
  exact h i fd hfd o

theorem CellsRel.end_ {cs : List Value} {n : Nat} (h : cs.length ≤ n) : CellsRel w [] (cs.drop n) := by
  rw [List.drop_of_length_le h]; exact .nil w

/-- A value of one cell. -/
theorem rel_of_cells {x : AV} {v : Value} (h : CellsRel w [x] v.cells.toList) (hv : ∀ cs, v ≠ .agg cs) : Rel w (fun b => b < w.heap.size) (fun _ _ => False) (fun _ _ => none) x v := by
  have hc : v.cells.toList = [v] := by
    cases v <;> first | rfl | exact absurd rfl (hv _)
  rw [hc] at h
  exact (h.2 0 x v rfl rfl).2

theorem rel_of_agg {c : List AV} {cs : Array Value} (h : CellsRel w c (Value.agg cs).cells.toList) : Rel w (fun b => b < w.heap.size) (fun _ _ => False) (fun _ _ => none) (.agg c) (.agg cs) := by
  have hc : (Value.agg cs).cells.toList = cs.toList := rfl
  rw [hc] at h
  have h2 := Rel.agg (c := c) cs.toList h.1 (fun j v hv => by
    have hj := lt_of_get hv
    have hx : c[j]? = some (c[j]'(by rw [← h.1]; exact hj)) := List.getElem?_eq_getElem _
    exact (h.2 j _ v hx hv).1) (fun j x v hx hv => (h.2 j x v hx hv).2)
  simpa using h2

/-- An argument. -/
theorem arg_one {α : Type} {f : α → AV} {F : α → List AV} {I : α → Prop} (ho : Opens P w t F I) (hF : ∀ a, F a = [f a]) {H : Type} {enc : TypeId × Value → H} {base : Nat} {spare : Nat → Bool} {held : Bool} {v : Value} {d : DataW H} {ps : List MemPlace}
    (h : DataW.Trod enc P w base spare held t v d ps) (hv : ∀ cs, v ≠ .agg cs) : ∃ a, I a ∧ Rel w (fun b => b < w.heap.size) (fun _ _ => False) (fun _ _ => none) (f a) v := by
  obtain ⟨fuel, hf⟩ := h
  obtain ⟨a, h1, h2⟩ := ho.opens hf
  rw [hF] at h2
  exact ⟨a, h1, rel_of_cells h2 hv⟩

theorem arg_agg {α : Type} {F : α → List AV} {I : α → Prop} (ho : Opens P w t F I) {H : Type} {enc : TypeId × Value → H} {base : Nat} {spare : Nat → Bool} {held : Bool} {cs : Array Value} {d : DataW H} {ps : List MemPlace}
    (h : DataW.Trod enc P w base spare held t (.agg cs) d ps) : ∃ a, I a ∧ Rel w (fun b => b < w.heap.size) (fun _ _ => False) (fun _ _ => none) (.agg (F a)) (.agg cs) := by
  obtain ⟨fuel, hf⟩ := h
  obtain ⟨a, h1, h2⟩ := ho.opens hf
  exact ⟨a, h1, rel_of_agg h2⟩

def ArgsRel (w : World) (args : List AV) (vs : List Value) : Prop :=
  vs.length = args.length ∧ ∀ (j : Nat) x v, args[j]? = some x → vs[j]? = some v → Rel w (fun b => b < w.heap.size) (fun _ _ => False) (fun _ _ => none) x v

theorem ArgsRel.nil : ArgsRel w [] [] := ⟨rfl, fun j x v hx => by simp at hx⟩

theorem ArgsRel.cons {x : AV} {v : Value} {args : List AV} {vs : List Value} (h : Rel w (fun b => b < w.heap.size) (fun _ _ => False) (fun _ _ => none) x v) (t : ArgsRel w args vs) : ArgsRel w (x :: args) (v :: vs) := by
  refine ⟨by simp [t.1], fun j y u hy hu => ?_⟩
  match j, hy, hu with
  | 0, hy, hu => obtain rfl := Option.some.inj hy; obtain rfl := Option.some.inj hu; exact h
  | j + 1, hy, hu => exact t.2 j y u (by simpa using hy) (by simpa using hu)

theorem trod_lt' {H : Type} {enc : TypeId × Value → H} {base : Nat} {spare : Nat → Bool} {held : Bool} {v : Value} {d : DataW H} {ps : List MemPlace} (h : DataW.Trod enc P w base spare held t v d ps) : ∀ p ∈ ps, p.block < w.heap.size := by
  obtain ⟨fuel, hf⟩ := h
  exact DataW.trod_lt fuel t v.cells.toList (d, ps) hf

/-- A call from its contract, by the arguments' relation. -/
theorem Con.row {f : FuncId} {args : List AV} {b : Bool} (h : Con P f args [] (.b b) []) {vs : List Value} (ha : ArgsRel w args vs) :
    Calls P f vs.toArray w fun e w' => e = .returned (.bool b) ∧ Below w.heap.size w w' := by
  let g : G := { w0 := w, A := fun b => b < w.heap.size, M0 := fun _ => False, N := 0, m := 0, us0 := (rowsS []).us, tb0 := (rowsS []).tb fun _ _ => none }
  have hob : ∀ r k, (rowsS []).ob r k = none := by intro r k; simp [S.ob, rowsS, obIn]
  have hM : RelM g (rowsS []) (fun _ _ => none) w := by
    have hus : ∀ j k, ¬ (rowsS []).us j k := fun j k hj => by simp [S.us, rowsS] at hj
    refine ⟨?_, ?_, ?_, ⟨rfl, rfl, rfl, Nat.le_refl _, fun _ _ _ => rfl⟩, ?_, ?_, ?_, ?_⟩
    · intro r k o ho; rw [hob] at ho; simp at ho
    · intro r k o r' k' o' b m m' ho; rw [hob] at ho; simp at ho
    · intro r k o b m ho; rw [hob] at ho; simp at ho
    · intro b hb; exact hb.elim
    · intro b hb; exact hb
    · intro j k hj; exact absurd hj (hus j k)
    · intro j k hj; exact absurd hj (hus j k)
  have hc := h.2 g (fun _ _ => none) w vs.toArray rfl rfl rfl rfl hM (by simpa using ha.1) (fun j x v hx hv => (ha.2 j x v hx (by simpa using hv)).mono
    (fun b hb => ⟨hb, .inl hb, fun hl => by
      obtain ⟨r, k, o, m, h1, -⟩ := hl
      rw [hob] at h1; simp at h1⟩) (fun _ _ => rfl) (fun r k hr => hr.elim) (fun r k hr => hr.elim))
  refine hc.mono fun e w' hq => ?_
  obtain ⟨v, φ', rfl, h1, h2⟩ := hq
  have hv := h2.b_inv
  subst hv
  exact ⟨rfl, h1.keep.os, h1.keep.tape, h1.keep.output, h1.keep.size, fun k hk => h1.keep.block k hk id⟩
end
end Go.VL
