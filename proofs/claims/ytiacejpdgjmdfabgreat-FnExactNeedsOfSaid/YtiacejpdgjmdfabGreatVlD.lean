/- The runner's steps are sound: loads and stores. -/
import Derived.Test.YtiacejpdgjmdfabGreatVlC
import Derived.Laws.CopyRow
import Derived.Laws.Cells
import Derived.Laws.Slices
import Derived.Laws.Tables
namespace Go.VL
set_option linter.unusedVariables false
set_option linter.unusedSimpArgs false
open Go

/-! ### Lists of elements of one length -/

theorem flatten_idx {α : Type} {sz : Nat} (hs : 0 < sz) : ∀ (es : List (List α)) (_ : ∀ e ∈ es, e.length = sz) (j : Nat),
    es.flatten[j]? = (es[j / sz]?).bind (·[j % sz]?)
  | [], _, j => by simp
  | e :: es, h, j => by
    have he : e.length = sz := h e (by simp)
    rw [List.flatten_cons, List.getElem?_append]
    by_cases hj : j < sz
    · rw [if_pos (by omega), Nat.div_eq_of_lt hj, Nat.mod_eq_of_lt hj]; simp
    · rw [if_neg (by omega), he, flatten_idx hs es (fun e' he' => h e' (by simp [he'])) (j - sz)]
      have h1 : j / sz = (j - sz) / sz + 1 := Nat.div_eq_sub_div hs (by omega)
      have h2 : j % sz = (j - sz) % sz := Nat.mod_eq_sub_mod (by omega)
      rw [h1, h2]; simp

theorem flatten_at {α : Type} {sz : Nat} {es : List (List α)} (hl : ∀ e ∈ es, e.length = sz) {i : Nat} {c : List α} (he : es[i]? = some c) {j : Nat} (hj : j < sz) :
    es.flatten[i * sz + j]? = c[j]? := by
  have hs : 0 < sz := by omega
  rw [flatten_idx hs es hl]
  have h1 : (i * sz + j) / sz = i := by
    rw [Nat.mul_comm, Nat.mul_add_div hs, Nat.div_eq_of_lt hj]; omega
  have h2 : (i * sz + j) % sz = j := by
    rw [Nat.mul_comm, Nat.mul_add_mod, Nat.mod_eq_of_lt hj]
  rw [h1, h2, he]; rfl

theorem flatten_set {α : Type} {sz : Nat} {es : List (List α)} (hl : ∀ e ∈ es, e.length = sz) {i : Nat} {c c' : List α} (he : es[i]? = some c) (hc : c'.length = sz) (j : Nat) :
    (es.set i c').flatten[j]? = if i * sz ≤ j ∧ j < i * sz + sz then c'[j - i * sz]? else es.flatten[j]? := by
  rcases Nat.eq_zero_or_pos sz with h0 | hs
  · subst h0
    have e1 : ∀ (l : List (List α)), (∀ e ∈ l, e.length = 0) → l.flatten = [] := by
      intro l hl; induction l with
      | nil => rfl
      | cons a l ih => rw [List.flatten_cons, ih fun e he => hl e (by simp [he])]; have := hl a (by simp); simp_all
    rw [e1 _ hl, e1 (es.set i c') (by
      intro e hm
      rcases List.mem_or_eq_of_mem_set hm with h | h
      · exact hl e h
      · exact h ▸ hc)]
    simp
  · have hl' : ∀ e ∈ es.set i c', e.length = sz := by
      intro e hm
      rcases List.mem_or_eq_of_mem_set hm with h | h
      · exact hl e h
      · exact h ▸ hc
    have hi : i < es.length := by
      rcases Nat.lt_or_ge i es.length with h | h
      · exact h
      · rw [List.getElem?_eq_none h] at he; simp at he
    rw [flatten_idx hs _ hl', flatten_idx hs _ hl]
    by_cases hq : j / sz = i
    · have h1 : i * sz ≤ j ∧ j < i * sz + sz := by
        subst hq
        constructor
        · exact Nat.div_mul_le_self j sz
        · have := Nat.lt_div_mul_add (a := j) hs; omega
      rw [if_pos h1, hq, List.getElem?_set_self hi]
      have : j % sz = j - i * sz := by
        subst hq; have := Nat.div_add_mod j sz; rw [Nat.mul_comm] at this; omega
      simp [this]
    · have h1 : ¬ (i * sz ≤ j ∧ j < i * sz + sz) := by
        rintro ⟨a, b⟩
        apply hq
        obtain ⟨d, rfl⟩ : ∃ d, j = i * sz + d := ⟨j - i * sz, by omega⟩
        rw [Nat.mul_comm i sz, Nat.mul_add_div hs, Nat.div_eq_of_lt (by omega)]
        omega
      rw [if_neg h1, List.getElem?_set_ne (Ne.symm hq)]

/-! ### Reading elements -/

/-- Elements that can be read at a place. -/
def Rd (w : World) (ok : Nat → Prop) (us : Us) (tb : Tb) (blk o : Nat) (sz : Nat) (es : List (List AV)) : Prop :=
  (∀ e ∈ es, e.length = sz) ∧ ∀ (j : Nat) x, es.flatten[j]? = some x → ∃ v, w.cell? ⟨blk, o + j, none⟩ = some v ∧ cellV v = true ∧ Rel w ok us tb x v

theorem ObRel.rd {w : World} {ok : Nat → Prop} {us : Us} {tb : Tb} {o : Ob} {blk m : Nat} (h : ObRel w ok us tb o (some (blk, m))) : Rd w ok us tb blk 0 o.sz o.es := by
  obtain ⟨c, ty, h1, h2, h3, h4⟩ := h
  refine ⟨h3, fun j x hx => ?_⟩
  obtain ⟨v, e1, e2, e3⟩ := h4 j x hx
  exact ⟨v, by rw [cell_of_row w blk (0 + j) c ty (0, 0) h1, Nat.zero_add]; exact e1, e2, e3⟩

theorem one_cellV {w : World} {ok : Nat → Prop} {us : Us} {tb : Tb} {x : AV} {v : Value} (h : Rel w ok us tb x v) (ho : x.one = true) : v.oneCell' = true := h.cellV ho

theorem run_isAgg {P : Program} {t : TypeId} (h : (P.underlying t).isSome = true) (w : World) : (isAgg t).run P w = .ok (isAggT P t) w := by
  cases hd : P.underlying t with
  | none => simp [hd] at h
  | some d => cases d <;> simp [isAgg, isAggT, run_underlying hd, hd]

theorem run_sizeOf' {P : Program} {t : TypeId} (h : (P.info? t).isSome = true) (w : World) : (sizeOf t).run P w = .ok (P.cellsOf t) w := by
  cases hi : P.info? t with
  | none => simp [hi] at h
  | some i => simp [sizeOf, typeInfo, hi, Program.cellsOf]

theorem addr_add (b o n : Nat) : (⟨b, o, none⟩ : Addr).add n = ⟨b, o + n, none⟩ := by unfold Addr.add; split <;> simp_all

theorem load_sound {P : Program} {w : World} {ok : Nat → Prop} {us : Us} {tb : Tb} {blk o sz i off : Nat} {es : List (List AV)} {c : List AV} {t : TypeId} {x : AV}
    (hrd : Rd w ok us tb blk o sz es) (he : es[i]? = some c) (ht : takeT P t c off = some x) :
    ∃ v, (Instr.loadAt t (.pointer (some ⟨blk, o + (i * sz + off), none⟩))).run P w = .ok v w ∧ Rel w ok us tb x v := by
  have hlen : c.length = sz := hrd.1 c (List.mem_of_getElem? he)
  unfold takeT at ht
  split at ht
  · simp at ht
  · rename_i hi
    simp only [Bool.not_eq_true', Bool.not_eq_false, Bool.and_eq_true] at hi
    have hcell : ∀ j, j < sz → ∃ y v, c[j]? = some y ∧ w.cell? ⟨blk, o + (i * sz + j), none⟩ = some v ∧ cellV v = true ∧ Rel w ok us tb y v := by
      intro j hj
      have hy : c[j]? = some c[j] := List.getElem?_eq_getElem (by omega)
      obtain ⟨v, e1, e2, e3⟩ := hrd.2 (i * sz + j) c[j] (by rw [flatten_at hrd.1 he hj, hy])
      exact ⟨_, v, hy, e1, e2, e3⟩
    simp only [Instr.loadAt, Instr.sureAddr, loadVar, Sem.run_bind, Sem.run_pure, Result.andThen, run_isAgg hi.1, run_sizeOf' hi.2]
    split at ht
    · rename_i hagg
      rw [hagg]
      split at ht
      · rename_i hle
        simp at ht; subst ht
        have hl := run_loadCells (P := P) w ⟨blk, o + (i * sz + off), none⟩ (P.cellsOf t) (fun j => (w.cell? ⟨blk, o + (i * sz + (off + j)), none⟩).getD undef) (by
          intro j hj
          obtain ⟨y, v, -, e1, -, -⟩ := hcell (off + j) (by omega)
          rw [addr_add, show o + (i * sz + off) + j = o + (i * sz + (off + j)) by omega, e1]; rfl)
        refine ⟨.agg (List.map (fun j => (w.cell? ⟨blk, o + (i * sz + (off + j)), none⟩).getD undef) (List.range (P.cellsOf t))).toArray, by simp [hl, Result.andThen, run_sizeOf' hi.2], ?_⟩
        refine .agg _ (by simp; omega) ?_ ?_
        · intro j v hv
          rw [List.getElem?_map, Option.map_eq_some_iff] at hv
          obtain ⟨q, hq0, rfl⟩ := hv
          obtain ⟨hq1, hq2⟩ := List.getElem?_eq_some_iff.1 hq0
          have hq : j < P.cellsOf t := by simpa using hq1
          obtain rfl : j = q := by simpa using hq2
          obtain ⟨y, v, -, e1, e2, -⟩ := hcell (off + j) (by omega)
          rw [e1]; exact e2
        · intro j y v hy hv
          rw [List.getElem?_map, Option.map_eq_some_iff] at hv
          obtain ⟨q, hq0, rfl⟩ := hv
          obtain ⟨hq1, hq2⟩ := List.getElem?_eq_some_iff.1 hq0
          have hq : j < P.cellsOf t := by simpa using hq1
          obtain rfl : j = q := by simpa using hq2
          rw [List.getElem?_take, if_pos hq, List.getElem?_drop] at hy
          obtain ⟨y', v, h0, e1, e2, e3⟩ := hcell (off + j) (by omega)
          rw [h0] at hy; simp at hy; subst hy
          rw [e1]; exact e3
      · simp at ht
    · rename_i hagg
      have hagg : isAggT P t = false := by simpa using hagg
      rw [hagg]
      split at ht
      · rename_i y hy
        split at ht
        · simp at ht; subst ht
          have hoff : off < sz := by
            rcases Nat.lt_or_ge off c.length with h | h
            · omega
            · rw [List.getElem?_eq_none h] at hy; simp at hy
          obtain ⟨y', v, h0, e1, e2, e3⟩ := hcell off hoff
          rw [h0] at hy; simp at hy; subst hy
          exact ⟨v, by simp [e1], e3⟩
        · simp at ht
      · simp at ht

/-! ### Writing an element -/

theorem setCells_length {c : List AV} {off : Nat} {vs : List AV} (h : off + vs.length ≤ c.length) : (setCells c off vs).length = c.length := by
  simp [setCells]; omega

theorem setCells_at {c : List AV} {off : Nat} {vs : List AV} (h : off + vs.length ≤ c.length) (j : Nat) :
    (setCells c off vs)[j]? = if off ≤ j ∧ j < off + vs.length then vs[j - off]? else c[j]? := by
  unfold setCells
  rw [List.append_assoc, List.getElem?_append]
  have h1 : (c.take off).length = off := by simp; omega
  rw [h1]
  by_cases a : j < off
  · rw [if_pos a, if_neg (by omega), List.getElem?_take, if_pos a]
  · rw [if_neg a, List.getElem?_append]
    by_cases b : j < off + vs.length
    · rw [if_pos (by omega), if_pos ⟨by omega, b⟩]
    · rw [if_neg (by omega), if_neg (by omega), List.getElem?_drop]
      congr 1; omega

theorem arr_at {c : Array Value} {p : Nat} {vs : List Value} (h : p + vs.length ≤ c.size) (j : Nat) :
    (c.toList.take p ++ vs ++ c.toList.drop (p + vs.length)).toArray[j]? = if p ≤ j ∧ j < p + vs.length then vs[j - p]? else c[j]? := by
  rw [List.getElem?_toArray, List.append_assoc, List.getElem?_append]
  have h1 : (c.toList.take p).length = p := by simp; omega
  rw [h1]
  by_cases a : j < p
  · rw [if_pos a, if_neg (by omega), List.getElem?_take, if_pos a, Array.getElem?_toList]
  · rw [if_neg a, List.getElem?_append]
    by_cases b : j < p + vs.length
    · rw [if_pos (by omega), if_pos ⟨by omega, b⟩]
    · rw [if_neg (by omega), if_neg (by omega), List.getElem?_drop, Array.getElem?_toList]
      congr 1; omega

/-- A store into an element of a live object. -/
theorem store_sound {P : Program} {g : G} {s : S} {φ : Plc} {a : Act} {w : World} (h : RelS g s φ a w) {r k b m i off : Nat} {l : List Ob} {o : Ob} {c : List AV}
    (hr : s.R r = some l) (ho : s.ob r k = some o) (hk : o.kd = .live) (hp : φ r k = some (b, m)) (he : o.es[i]? = some c)
    {t : TypeId} (hti : (P.info? t).isSome = true) {x : AV} {v : Value} (hx : Rel w (s.ok g φ w) s.us (s.tb φ) x v) (hone : x.one = true ∨ ∃ c, x = .agg c)
    (hsz : x.cells.length = P.cellsOf t) (hfit : off + x.cells.length ≤ c.length) :
    ∃ w', (Instr.storeAt t (.pointer (some ⟨b, i * o.sz + off, none⟩)) v).run P w = .ok () w' ∧
      RelS g (s.setRow r (l.set k { o with es := o.es.set i (setCells c off x.cells) })) φ a w' := by
  obtain ⟨vs, hv, hvl, hcell, hrel⟩ := hx.cellsOf hone
  have hob := h.obj r k o ho
  rw [hp] at hob
  obtain ⟨ca, ty, h1, h2, h3, h4⟩ := hob
  have hlen : c.length = o.sz := h3 c (List.mem_of_getElem? he)
  have hend : i * o.sz + off + vs.length ≤ ca.size := by
    rcases Nat.eq_zero_or_pos o.sz with hz | hz
    · have : off = 0 := by omega
      have : vs.length = 0 := by omega
      rw [hz]; omega
    · have hl : o.es.flatten[i * o.sz + (o.sz - 1)]? = some (c[o.sz - 1]'(by omega)) := by
        rw [flatten_at h3 he (by omega)]; exact List.getElem?_eq_getElem (by omega)
      obtain ⟨v', e1, -, -⟩ := h4 _ _ hl
      have := (Array.getElem?_eq_some_iff.1 e1).1
      omega
  have hst := run_storeCells_at P b (i * o.sz + off) ty vs 0 ca w h1 (by simpa using hend) (fun v' hv' => by
    obtain ⟨q, hq⟩ := List.getElem?_of_mem hv'
    exact hcell q v' hq)
  simp only [Nat.add_zero] at hst
  have hrun : (Instr.storeAt t (.pointer (some ⟨b, i * o.sz + off, none⟩)) v).run P w =
      .ok () (w.setRow b (ca.toList.take (i * o.sz + off) ++ vs ++ ca.toList.drop (i * o.sz + off + vs.length)).toArray) := by
    have hs : v.cells.size = P.cellsOf t := by rw [hv]; simpa using hvl.trans hsz
    simp only [Instr.storeAt, Instr.sureAddr, storeVar, Sem.run_bind, Sem.run_pure, Result.andThen, run_sizeOf' hti, hs, ne_eq, not_true_eq_false, if_false]
    rw [hv]
    simpa using hst
  refine ⟨_, hrun, ?_⟩
  have hsz' : (w.setRow b (ca.toList.take (i * o.sz + off) ++ vs ++ ca.toList.drop (i * o.sz + off + vs.length)).toArray).heap.size = w.heap.size := size_setRow _ _ _
  have hc' : (setCells c off x.cells).length = o.sz := by rw [setCells_length hfit]; exact hlen
  refine (h.write hr ho hk hp _ _ ty (setRow_heap w b ca _ ty _ h1) hsz' (fun q hq => setRow_other w b q _ hq) rfl rfl rfl ?_ ?_ ?_).1
  · simp; omega
  · intro e hm
    rcases List.mem_or_eq_of_mem_set hm with h' | h'
    · exact h3 e h'
    · exact h' ▸ hc'
  · intro j y hy
    rw [arr_at hend]
    rw [flatten_set h3 he hc'] at hy
    by_cases hin : i * o.sz ≤ j ∧ j < i * o.sz + o.sz
    · rw [if_pos hin, setCells_at hfit] at hy
      by_cases hin2 : off ≤ j - i * o.sz ∧ j - i * o.sz < off + x.cells.length
      · rw [if_pos hin2] at hy
        rw [if_pos ⟨by omega, by omega⟩]
        have hq : j - (i * o.sz + off) < vs.length := by omega
        refine ⟨vs[j - (i * o.sz + off)], List.getElem?_eq_getElem hq, hcell _ _ (List.getElem?_eq_getElem hq), hrel (j - i * o.sz - off) y _ hy ?_⟩
        rw [show j - i * o.sz - off = j - (i * o.sz + off) by omega]
        exact List.getElem?_eq_getElem hq
      · rw [if_neg hin2] at hy
        rw [if_neg (by omega)]
        refine h4 j y ?_
        rw [show j = i * o.sz + (j - i * o.sz) by omega, flatten_at h3 he (by omega)]
        exact hy
    · rw [if_neg hin] at hy
      rw [if_neg (by rw [hvl]; omega)]
      exact h4 j y hy

end Go.VL
