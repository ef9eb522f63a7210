/- The runner's steps are sound: values put together. -/
import Derived.Test.YtiacejpdgjmdfabGreatVlG
namespace Go.VL
set_option linter.unusedVariables false
set_option linter.unusedSimpArgs false
open Go
section
variable {P : Program} {g : G} {s : S} {φ : Plc} {a : Act} {w : World} {o : Oper} {ans : Ans} {nr : Nat} {res : Res}

theorem part_sound {ok : Nat → Prop} {us : Us} {tb : Tb} {t : TypeId} {c : List AV} {off : Nat} {x : AV} {vs : List Value} (hl : vs.length = c.length)
    (hcell : ∀ (j : Nat) u, vs[j]? = some u → cellV u = true) (hr : ∀ (j : Nat) x u, c[j]? = some x → vs[j]? = some u → Rel w ok us tb x u)
    (ht : takeT P t c off = some x) : ∃ v, (part t vs.toArray off).run P w = .ok v w ∧ Rel w ok us tb x v := by
  unfold takeT at ht
  split at ht
  · simp at ht
  · rename_i hi
    simp only [Bool.not_eq_true', Bool.not_eq_false, Bool.and_eq_true] at hi
    simp only [part, Sem.run_bind, run_isAgg hi.1, Result.andThen]
    split at ht
    · rename_i hagg
      rw [hagg]
      split at ht
      · rename_i hle
        simp at ht; subst ht
        have e : (vs.toArray.extract off (off + P.cellsOf t)) = ((vs.drop off).take (P.cellsOf t)).toArray := by
          apply Array.ext'
          simp [List.extract_eq_take_drop]
        refine ⟨.agg ((vs.drop off).take (P.cellsOf t)).toArray, by simp [run_sizeOf' hi.2], ?_⟩
        refine .agg _ (by simp; omega) ?_ ?_
        · intro j v hv
          rw [List.getElem?_take] at hv
          split at hv
          · rw [List.getElem?_drop] at hv; exact hcell _ _ hv
          · simp at hv
        · intro j y v hy hv
          rw [List.getElem?_take] at hv hy
          split at hv
          · rename_i hj
            rw [if_pos hj] at hy
            rw [List.getElem?_drop] at hv hy; exact hr _ _ _ hy hv
          · simp at hv
      · simp at ht
    · rename_i hagg
      have hagg : isAggT P t = false := by simpa using hagg
      rw [hagg]
      split at ht
      · rename_i y hy
        split at ht
        · simp at ht; subst ht
          have hoff : off < vs.length := by
            rcases Nat.lt_or_ge off c.length with h | h
            · omega
            · rw [List.getElem?_eq_none h] at hy; simp at hy
          exact ⟨vs[off], by simp [hoff], hr off y _ hy (List.getElem?_eq_getElem hoff)⟩
        · simp at ht
      · simp at ht

theorem op_field {t : TypeId} {x : Operand} {f : Nat} (h : RelS g s φ a w) (ho : o.op = .field t x f) (hres : opS P s.E s.R nr o ans = some res) : Fin P g s a w o res := by
  simp only [opS, ho] at hres
  have hx := h.eval x
  split at hres
  · rename_i fs hfs
    split at hres
    · rename_i fd c hfd hev
      rw [hev] at hx
      cases ht : takeT P fd.type c fd.offset with
      | none => simp [ht] at hres
      | some v =>
        simp [ht] at hres; subst hres
        obtain ⟨vs, hval, hl, hc, hr⟩ := hx.agg_inv
        obtain ⟨u, h1, h2⟩ := part_sound hl hc hr ht
        refine fin_pure (v := u) h ?_ rfl h2
        simp [execOp, ho, hval, Instr.field, run_underlying (fieldsOf_eq hfs), hfd, asAgg, h1]
    · simp at hres
  · simp at hres

/-! ### Parts put into place -/

theorem foldl_set (off : Nat) : ∀ (vs : List Value) (n : Nat) (cs : Array Value) (j : Nat), off + n + vs.length ≤ cs.size →
    ((vs.zipIdx n).foldl (fun cs (x : Value × Nat) => cs.setIfInBounds (off + x.2) x.1) cs)[j]? = if off + n ≤ j ∧ j < off + n + vs.length then vs[j - (off + n)]? else cs[j]? := by
  intro vs
  induction vs with
  | nil => intro n cs j h; simp; intro h1 h2; omega
  | cons v vs ih =>
    intro n cs j h
    simp only [List.length_cons] at h
    simp only [List.zipIdx_cons, List.foldl_cons]
    rw [ih (n + 1) _ j (by simp; omega)]
    simp only [List.length_cons, Array.getElem?_setIfInBounds]
    by_cases h1 : j = off + n
    · subst h1
      rw [if_neg (by omega), if_pos rfl, if_pos (by omega), if_pos (by omega)]
      simp
    · by_cases h2 : off + (n + 1) ≤ j ∧ j < off + (n + 1) + vs.length
      · rw [if_pos h2, if_pos (by omega)]
        rw [show j - (off + n) = (j - (off + (n + 1))) + 1 by omega]; rfl
      · rw [if_neg h2, if_neg (fun e => h1 e.symm), if_neg (by omega)]

theorem size_foldl_set (off : Nat) : ∀ (vs : List (Value × Nat)) (cs : Array Value), (vs.foldl (fun cs (x : Value × Nat) => cs.setIfInBounds (off + x.2) x.1) cs).size = cs.size := by
  intro vs
  induction vs with
  | nil => intro cs; rfl
  | cons v vs ih => intro cs; simp only [List.foldl_cons]; rw [ih]; simp

/-- Cells that read as a list of abstract ones. -/
def Cs (w : World) (ok : Nat → Prop) (us : Us) (tb : Tb) (c : List AV) (cs : Array Value) : Prop :=
  cs.size = c.length ∧ (∀ (j : Nat) u, cs[j]? = some u → cellV u = true) ∧ ∀ (j : Nat) x u, c[j]? = some x → cs[j]? = some u → Rel w ok us tb x u

theorem fill_one {ok : Nat → Prop} {us : Us} {tb : Tb} {c : List AV} {cs : Array Value} (h : Cs w ok us tb c cs) {x : AV} {v : Value} {off : Nat} (hx : Rel w ok us tb x v) (hc : x.cellable = true)
    (hfit : off + x.cells.length ≤ c.length) : v.cells.size = x.cells.length ∧
      Cs w ok us tb (setCells c off x.cells) (v.cells.zipIdx.foldl (fun cs (y : Value × Nat) => cs.setIfInBounds (off + y.2) y.1) cs) := by
  obtain ⟨vs, hv, hl, hcell, hr⟩ := hx.cellsOf (AV.cellable_or hc)
  have hat : ∀ j, (v.cells.zipIdx.foldl (fun cs (y : Value × Nat) => cs.setIfInBounds (off + y.2) y.1) cs)[j]? = if off ≤ j ∧ j < off + vs.length then vs[j - off]? else cs[j]? := by
    intro j
    rw [hv]
    have := foldl_set off vs 0 cs j (by rw [h.1]; omega)
    simp only [Nat.add_zero] at this
    rw [← this, ← Array.foldl_toList, Array.toList_zipIdx]
  refine ⟨by rw [hv]; simpa using hl, ?_, ?_, ?_⟩
  · rw [setCells_length hfit, ← h.1, ← Array.foldl_toList, size_foldl_set]
  · intro j u hu
    rw [hat] at hu
    split at hu
    · exact hcell _ _ hu
    · exact h.2.1 _ _ hu
  · intro j y u hy hu
    rw [hat] at hu
    rw [setCells_at hfit] at hy
    by_cases hin : off ≤ j ∧ j < off + x.cells.length
    · rw [if_pos hin] at hy
      rw [if_pos (by rw [hl]; exact hin)] at hu
      exact hr _ _ _ hy hu
    · rw [if_neg hin] at hy
      rw [if_neg (by rw [hl]; exact hin)] at hu
      exact h.2.2 _ _ _ hy hu

theorem fill_sound {ok : Nat → Prop} {us : Us} {tb : Tb} (place : Nat → Option (Nat × Nat)) : ∀ (l : List (Nat × Nat × AV)) (ps : List (Nat × Value)) (c : List AV) (cs : Array Value) (c' : List AV),
    Cs w ok us tb c cs → l.length = ps.length →
    (∀ (j : Nat) off size x i v, l[j]? = some (off, size, x) → ps[j]? = some (i, v) → place i = some (off, size) ∧ Rel w ok us tb x v) →
    fillS c l = some c' → ∃ cs', Instr.fill place cs ps = some cs' ∧ Cs w ok us tb c' cs' := by
  intro l
  induction l with
  | nil =>
    intro ps c cs c' h hl _ hf
    have : ps = [] := List.length_eq_zero_iff.1 (by simpa using hl.symm)
    subst this
    simp [fillS] at hf; subst hf
    exact ⟨cs, rfl, h⟩
  | cons q l ih =>
    intro ps c cs c' h hl hp hf
    obtain ⟨off, size, x⟩ := q
    match ps, hl with
    | (i, v) :: ps, hl =>
      obtain ⟨hpl, hx⟩ := hp 0 off size x i v rfl rfl
      simp only [fillS] at hf
      split at hf
      · rename_i hc
        simp only [Bool.and_eq_true, decide_eq_true_eq] at hc
        obtain ⟨⟨h1, h2⟩, h3⟩ := hc
        obtain ⟨e1, e2⟩ := fill_one h hx h1 (off := off) (by omega)
        obtain ⟨cs', f1, f2⟩ := ih ps _ _ c' e2 (by simpa using hl) (fun j off size x i v a b => hp (j + 1) off size x i v a b) hf
        refine ⟨cs', ?_, f2⟩
        rw [Instr.fill]
        simp only [hpl]
        have hno : ¬ (decide (v.cells.size ≠ size) || decide (off + v.cells.size > cs.size)) = true := by simp; rw [e1, h.1]; omega
        rw [if_neg hno]
        exact f1
      · simp at hf

theorem mapM_some {α β : Type} (f : α → β) (p : α → Option β) : ∀ (l : List α), (∀ x ∈ l, p x = some (f x)) → l.mapM p = some (l.map f)
  | [], _ => rfl
  | x :: l, h => by
    rw [List.mapM_cons, h x (by simp), mapM_some f p l fun y hy => h y (by simp [hy])]; rfl

theorem mapM_at {α β : Type} (p : α → Option β) : ∀ (l : List α) (l' : List β), l.mapM p = some l' → l'.length = l.length ∧ ∀ (j : Nat) x y, l[j]? = some x → l'[j]? = some y → p x = some y
  | [], l', h => by simp at h; subst h; exact ⟨rfl, fun j x y hx => by simp at hx⟩
  | a :: l, l', h => by
    rw [List.mapM_cons] at h
    cases ha : p a with
    | none => simp [ha] at h
    | some b =>
      cases hl : l.mapM p with
      | none => simp [ha, hl] at h
      | some r =>
        simp [ha, hl] at h; subst h
        obtain ⟨h1, h2⟩ := mapM_at p l r hl
        refine ⟨by simp [h1], fun j x y hx hy => ?_⟩
        cases j with
        | zero => simp at hx hy; subst hx; subst hy; exact ha
        | succ j => simp at hx hy; exact h2 j x y hx hy

theorem cs_zero {t : TypeId} {z : List AV} (hz : zeroCellsOf P t = some z) : ∃ i zv, P.info? t = some i ∧ i.zero = some zv ∧ zv.cells.size = z.length ∧ Cs w (s.ok g φ w) s.us (s.tb φ) z zv.cells := by
  obtain ⟨i, zv, hi, hzz, ez, hcell⟩ := zero_cells hz
  have hs : zv.cells.size = z.length := by rw [ez]; simp
  refine ⟨i, zv, hi, hzz, hs, hs, fun j u hu => ?_, fun j x u hx hu => ?_⟩
  · have hj : j < z.length := by
      have := (Array.getElem?_eq_some_iff.1 hu).1; omega
    obtain ⟨v, e1, e2, -⟩ := hcell j z[j] (List.getElem?_eq_getElem hj)
    rw [hu] at e1; simp at e1; subst e1; exact e2
  · obtain ⟨v, e1, -, e3⟩ := hcell j x hx
    rw [hu] at e1; simp at e1; subst e1; exact e3 _ _ _ _

theorem op_build {t : TypeId} {parts : Array (Nat × Operand)} (h : RelS g s φ a w) (ho : o.op = .build t parts) (hres : opS P s.E s.R nr o ans = some res) : Fin P g s a w o res := by
  simp only [opS, ho] at hres
  split at hres
  · rename_i fs z hfs hz
    split at hres
    · simp at hres
    · rename_i hall
      have hall : ∀ f ∈ fs.toList, (P.info? f.type).isSome = true := by
        rw [Bool.not_eq_false] at hall
        exact List.all_eq_true.1 hall
      split at hres
      · rename_i l hl
        cases hf : fillS z l with
        | none => simp [hf] at hres
        | some c =>
          simp [hf] at hres; subst hres
          obtain ⟨it, zv, hit, hzz, hsz, hcs⟩ := cs_zero (w := w) (s := s) (g := g) (φ := φ) hz
          obtain ⟨l1, l2⟩ := mapM_at _ _ _ hl
          have hmap : fs.toList.mapM (fun f => (P.info? f.type).map fun i => (f.offset, i.size)) = some (fs.toList.map fun f => (f.offset, P.cellsOf f.type)) := by
            refine mapM_some (fun f : Field => (f.offset, P.cellsOf f.type)) _ _ fun f hf => ?_
            have := hall f hf
            cases hi : P.info? f.type with
            | none => simp [hi] at this
            | some i => simp [Program.cellsOf, hi]
          obtain ⟨cs', f1, f2⟩ := fill_sound (w := w) (ok := s.ok g φ w) (us := s.us) (tb := s.tb φ) ((fs.toList.map fun f => (f.offset, P.cellsOf f.type)).toArray[·]?) l (parts.map fun (i, x) => (i, a.eval x)).toList z zv.cells c hcs (by simpa using l1) (by
            intro j off size x i v hj hv
            simp only [Array.toList_map, List.getElem?_map, Option.map_eq_some_iff] at hv
            obtain ⟨⟨i', x'⟩, hp, hv⟩ := hv
            simp only [Prod.mk.injEq] at hv
            obtain ⟨rfl, rfl⟩ := hv
            have := l2 j _ _ hp hj
            simp only [Option.map_eq_some_iff, Prod.mk.injEq] at this
            obtain ⟨fd, h1, h2, h3, h4⟩ := this
            subst h2; subst h3; subst h4
            refine ⟨?_, h.eval x'⟩
            rw [List.getElem?_toArray, List.getElem?_map, Array.getElem?_toList, h1]; rfl) hf
          have hb : P.built t (parts.map fun (i, x) => (i, a.eval x)).toList = some cs' := by
            unfold Program.built
            simp only [hit, fieldsOf_eq hfs, hzz, hmap]
            exact f1
          refine fin_pure (v := .agg cs') h ?_ rfl ?_
          · have := run_build w t _ cs' hb
            simp [execOp, ho, this]
          · have := Rel.agg (w := w) (ok := s.ok g φ w) (us := s.us) (tb := s.tb φ) (c := c) cs'.toList (by simpa using f2.1) (fun j u hu => f2.2.1 j u (by simpa using hu)) (fun j x u hx hu => f2.2.2 j x u hx (by simpa using hu))
            simpa using this
      · simp at hres
  · simp at hres

theorem setCells_flatten {sz : Nat} {es : List (List AV)} (hl : ∀ e ∈ es, e.length = sz) {i : Nat} (hi : i < es.length) {c : List AV} (hc : c.length = sz) :
    setCells es.flatten (i * sz) c = (es.set i c).flatten := by
  have hlen : ∀ (es : List (List AV)), (∀ e ∈ es, e.length = sz) → es.flatten.length = es.length * sz := by
    intro es
    induction es with
    | nil => simp
    | cons e es ih =>
      intro h
      rw [List.flatten_cons, List.length_append, ih fun x hx => h x (by simp [hx]), h e (by simp), List.length_cons, Nat.add_mul]; omega
  have hfit : i * sz + c.length ≤ es.flatten.length := by
    rw [hlen es hl, hc]
    have := Nat.mul_le_mul_right sz (show i + 1 ≤ es.length by omega)
    rw [Nat.add_mul] at this; omega
  apply List.ext_getElem?
  intro j
  rw [setCells_at hfit, flatten_set hl (List.getElem?_eq_getElem hi) hc, hc]

theorem putEs_fill {sz : Nat} : ∀ (l : List (Nat × AV)) (es es' : List (List AV)), (∀ e ∈ es, e.length = sz) → putEs sz es l = some es' →
    fillS es.flatten (l.map fun p => (p.1 * sz, sz, p.2)) = some es'.flatten ∧ (∀ e ∈ es', e.length = sz) ∧ es'.length = es.length
  | [], es, es', hl, h => by simp [putEs] at h; subst h; exact ⟨rfl, hl, rfl⟩
  | (i, x) :: l, es, es', hl, h => by
    simp only [putEs] at h
    split at h
    · rename_i hc
      simp only [Bool.and_eq_true, decide_eq_true_eq] at hc
      obtain ⟨⟨h1, h2⟩, h3⟩ := hc
      have hl' : ∀ e ∈ es.set i x.cells, e.length = sz := by
        intro e hm
        rcases List.mem_or_eq_of_mem_set hm with h' | h'
        · exact hl e h'
        · exact h' ▸ h2
      obtain ⟨a1, a2, a3⟩ := putEs_fill l (es.set i x.cells) es' hl' h
      have e := setCells_flatten hl h3 h2
      have hfit : i * sz + sz ≤ es.flatten.length := by
        have : (setCells es.flatten (i * sz) x.cells).length = (es.set i x.cells).flatten.length := by rw [e]
        have hq : ∀ (es : List (List AV)), (∀ e ∈ es, e.length = sz) → es.flatten.length = es.length * sz := by
          intro es
          induction es with
          | nil => simp
          | cons e es ih =>
            intro h
            rw [List.flatten_cons, List.length_append, ih fun x hx => h x (by simp [hx]), h e (by simp), List.length_cons, Nat.add_mul]; omega
        rw [hq es hl]
        have := Nat.mul_le_mul_right sz (show i + 1 ≤ es.length by omega)
        rw [Nat.add_mul] at this; omega
      refine ⟨?_, a2, by simpa using a3⟩
      simp only [List.map_cons, fillS, h1, h2, hfit, decide_true, Bool.and_self, if_true]
      rw [e]; exact a1
    · simp at h

theorem op_buildSlice {t : TypeId} {len : Nat} {parts : Array (Nat × Operand)} (h : RelS g s φ a w) (hnr : s.R nr = none) (ho : o.op = .buildSlice t len parts) (hres : opS P s.E s.R nr o ans = some res) : Fin P g s a w o res := by
  simp only [opS, ho] at hres
  split at hres
  · rename_i e he
    split at hres
    · rename_i z hz
      split at hres
      · simp at hres
      · rename_i hc
        simp only [not_or, Nat.not_lt, Decidable.not_not] at hc
        obtain ⟨hc1, hc2, hc3⟩ := hc
        split at hres
        · rename_i es hes
          simp only [Option.some.injEq] at hres; subst hres
          obtain ⟨it, zv, hit, hzz, hsz, hcs⟩ := cs_zero (w := w) (s := s) (g := g) (φ := φ) hz
          have hcell : P.cellsOf e = it.size := by simp [Program.cellsOf, hit]
          have hrep : ∀ x ∈ List.replicate len z, x.length = z.length := fun x hx => by rw [List.eq_of_mem_replicate hx]
          obtain ⟨f1, f2, f3⟩ := putEs_fill _ _ _ hrep hes
          have hz0 : Cs w (s.ok g φ w) s.us (s.tb φ) (List.replicate len z).flatten ((Array.range (len * it.size)).map (zv.cells[· % zv.cells.size]!)) := by
            have hzp : 0 < z.length := by omega
            have hat : ∀ j, j < len * it.size → ((Array.range (len * it.size)).map (zv.cells[· % zv.cells.size]!))[j]? = zv.cells[j % z.length]? := by
              intro j hj
              rw [Array.getElem?_map, Array.getElem?_range]
              simp only [hj, if_true, Option.map_some]
              have hm : j % zv.cells.size < zv.cells.size := Nat.mod_lt _ (by omega)
              rw [getElem!_pos zv.cells _ hm, ← hsz, Array.getElem?_eq_getElem hm]
            have hlt : ∀ (j : Nat) u, ((Array.range (len * it.size)).map (zv.cells[· % zv.cells.size]!))[j]? = some u → j < len * it.size := by
              intro j u hu
              have := (Array.getElem?_eq_some_iff.1 hu).1
              simpa using this
            refine ⟨by simp [← hcell, ← hc2], fun j u hu => ?_, fun j x u hx hu => ?_⟩
            · have hj := hlt j u hu
              rw [hat j hj] at hu
              exact hcs.2.1 _ _ hu
            · have hj := hlt j u hu
              rw [hat j hj] at hu
              rw [flatten_idx hzp _ hrep, List.getElem?_replicate] at hx
              split at hx
              · exact hcs.2.2 _ _ _ hx hu
              · simp at hx
          obtain ⟨cs', g1, g2⟩ := fill_sound (w := w) (ok := s.ok g φ w) (us := s.us) (tb := s.tb φ) (fun i => some (i * it.size, it.size)) ((parts.toList.map fun p => (p.1, evalOf s.E p.2)).map fun p => (p.1 * z.length, z.length, p.2)) (parts.map fun (i, x) => (i, a.eval x)).toList _ _ es.flatten hz0 (by simp) (by
            intro j off size x i v hj hv
            simp only [Array.toList_map, List.getElem?_map, Option.map_eq_some_iff, List.map_map] at hv hj
            obtain ⟨⟨i', x'⟩, hp, hv⟩ := hv
            obtain ⟨⟨i2, x2⟩, hp2, hj⟩ := hj
            rw [hp] at hp2
            simp only [Option.some.injEq, Prod.mk.injEq] at hp2 hv
            obtain ⟨rfl, rfl⟩ := hp2
            obtain ⟨rfl, rfl⟩ := hv
            simp only [Function.comp, Prod.mk.injEq] at hj
            obtain ⟨rfl, rfl, rfl⟩ := hj
            exact ⟨by rw [← hcell, ← hc2], h.eval x'⟩) f1
          have hrun : (Instr.buildSlice t len (parts.map fun (i, x) => (i, a.eval x))).run P w = .ok (.slice (some ⟨w.heap.size, 0, none⟩) len len) (w.alloc (.cells cs' e)) := by
            have h1 : ¬ len * it.size > 2 ^ 24 := by rw [← hcell, ← hc2]; omega
            by_cases h0 : len * it.size = 0
            · have hl0 : len = 0 := by
                rcases Nat.eq_zero_or_pos len with h' | h'
                · exact h'
                · have : 0 < len * it.size := Nat.mul_pos h' (by omega)
                  omega
              subst hl0
              have e0 : ((Array.range (0 * it.size)).map (zv.cells[· % zv.cells.size]!)) = #[] := by simp
              rw [e0] at g1
              have hp : parts = #[] := by
                obtain ⟨l⟩ := parts
                match l, hes with
                | [], _ => rfl
                | p :: l, hes => simp [putEs] at hes
              subst hp
              have hcs' : cs' = #[] := by simpa [Instr.fill] using g1.symm
              subst hcs'
              simp [Instr.buildSlice, run_underlying (elemT_eq he), sizeOf, typeInfo, hit, newRow, Instr.fill]
              rw [Array.range_zero', Array.map_empty]
            · simp only [Instr.buildSlice, run_underlying (elemT_eq he), sizeOf, typeInfo, hit, newRow, zeroValue, hzz, Sem.run_bind, Result.andThen_ok, run_program, Sem.run_pure, Sem.run_ite, h1, h0, if_false]
              rw [g1]; rfl
          refine fin_new (v := .slice (some ⟨w.heap.size, 0, none⟩) len len) (ob := ⟨z.length, es, .live⟩) (c := cs') (ty := e) h hnr rfl ?_ rfl f2 ?_ ?_
          · simp [execOp, ho, hrun]
          · intro j x hx
            have hj : j < cs'.size := by
              rw [g2.1]
              rcases Nat.lt_or_ge j es.flatten.length with h' | h'
              · exact h'
              · rw [List.getElem?_eq_none h'] at hx; simp at hx
            have hu : cs'[j]? = some cs'[j] := Array.getElem?_eq_getElem hj
            exact ⟨_, hu, g2.2.1 _ _ hu, g2.2.2 _ _ _ hx hu⟩
          · intro w' ok' us' tb' hu ht
            refine Rel.osl hu ht (Nat.le_refl _) ?_ (.inr ⟨by simp, ?_⟩)
            · have : len ≤ len * z.length := Nat.le_mul_of_pos_right _ (by omega)
              omega
            · rw [g2.1]
              have hq : ∀ (es : List (List AV)), (∀ e ∈ es, e.length = z.length) → es.flatten.length = es.length * z.length := by
                intro es
                induction es with
                | nil => simp
                | cons e es ih =>
                  intro h
                  rw [List.flatten_cons, List.length_append, ih fun x hx => h x (by simp [hx]), h e (by simp), List.length_cons, Nat.add_mul]; omega
              rw [hq es f2, f3]; simp
        · simp at hres
    · simp at hres
  · simp at hres

/-- Every operation but a call. -/
theorem opS_sound (h : RelS g s φ a w) (hnr : s.R nr = none) (hres : opS P s.E s.R nr o ans = some res) (hobs : ∀ p ∈ res.obs, p) : Fin P g s a w o res := by
  cases ho : o.op with
  | move x => exact op_move h (.inl ho) hres
  | assign x => exact op_move h (.inr ho) hres
  | pick c x y => exact op_pick h ho hres hobs
  | alloc t => exact op_alloc h hnr ho hres
  | box t x => exact op_box h hnr ho hres
  | load t x => exact op_load h ho hres hobs
  | store t x y => exact op_store h ho hres hobs
  | nilCheck x => exact op_nilCheck h ho hres hobs
  | binOp op t x y t' => exact op_binOp h ho hres hobs
  | unOp op t x => exact op_unOp h ho hres
  | convert t t' x => exact op_convert h ho hres
  | makeFunc f fi ca => exact op_makeFunc h ho hres
  | makeSlice t x y => exact op_makeSlice h hnr ho hres hobs
  | fieldAddr t x f => exact op_fieldAddr h ho hres hobs
  | field t x f => exact op_field h ho hres
  | indexAddr t x y => exact op_indexAddr h ho hres hobs
  | index t x y => exact op_index h ho hres hobs
  | extract x i => exact op_extract h ho hres
  | slice t x lo hi mx =>
    cases mx with
    | none => exact op_slice h ho hres hobs
    | some m => simp [opS, ho] at hres
  | build t ps => exact op_build h ho hres
  | buildSlice t n ps => exact op_buildSlice h hnr ho hres
  | call c =>
    obtain ⟨cal, args, ats⟩ := c
    cases cal with
    | builtin b => cases b <;> first | exact op_len h ho rfl hres hobs | simp [opS, ho] at hres
    | value f => simp [opS, ho] at hres
    | invoke r m => simp [opS, ho] at hres
  | _ => simp [opS, ho] at hres

end
end Go.VL
