/- Iterations that fill a list or lengthen one, until an element fails: plain mathematics. No condition. -/
import Derived.Test.YtiacejpdgjmdfabGreatVmB
namespace Go.VL
set_option linter.unusedVariables false
set_option linter.unusedSimpArgs false
open Go

theorem all_take {α : Type} {ys : List α} {p : α → Bool} {n : Nat} {y : α} (hy : ys[n]? = some y) (h : (ys.take n).all p = true) (hp : p y = true) : (ys.take (n + 1)).all p = true := by
  rw [List.take_add_one, hy, List.all_append, h]
  simp [hp]

theorem all_no {α : Type} {ys : List α} {p : α → Bool} {n : Nat} {y : α} (hy : ys[n]? = some y) (hp : p y = false) : ys.all p = false := by
  rw [List.all_eq_false]
  exact ⟨y, List.mem_of_getElem? hy, by simp [hp]⟩

/-- A list lengthened. -/
theorem iter_app {α β : Type} {f : Int × List β → Option ((Int × List β) ⊕ (List β ⊕ Unit))} (ys : List α) (ok : α → Bool) (h : α → β)
    (hs : ∀ (n : Nat) y row, ys[n]? = some y → row.length = n → f ((n : Int), row) = some (if ok y then .inl (((n + 1 : Nat) : Int), row ++ [h y]) else .inr (.inr ())))
    (he : ∀ row, f ((ys.length : Int), row) = some (.inr (.inl row))) : iter f (0, []) = some (if ys.all ok then .inl (ys.map h) else .inr ()) := by
  obtain ⟨r, hr, rfl⟩ := iter_inv (f := f) (I := fun w => ∃ n : Nat, w.1 = n ∧ n ≤ ys.length ∧ w.2 = (ys.take n).map h ∧ (ys.take n).all ok = true) (m := fun w => ys.length - w.1.toNat) (fun r => r = if ys.all ok then .inl (ys.map h) else .inr ()) (by
    rintro ⟨i, row⟩ ⟨n, h1, hn, h2, h3⟩
    simp only at h1 h2
    subst h1 h2
    by_cases hl : n = ys.length
    · subst hl
      refine .inr ⟨_, he _, ?_⟩
      rw [List.take_length] at h3 ⊢
      rw [h3]
      rfl
    · have hy := List.getElem?_eq_getElem (show n < ys.length by omega)
      have hrow : ((ys.take n).map h).length = n := by simp; omega
      rw [hs n _ _ hy hrow]
      by_cases ho : ok ys[n] = true
      · refine .inl ⟨_, by rw [if_pos ho], ⟨n + 1, rfl, by omega, ?_, all_take hy h3 ho⟩, by simp; omega⟩
        simp only
        rw [List.take_add_one, hy, show (some ys[n]).toList = [ys[n]] from rfl, List.map_append]
        rfl
      · refine .inr ⟨_, by rw [if_neg ho], ?_⟩
        rw [all_no hy (by simpa using ho)]
        rfl) (0, []) ⟨0, rfl, by omega, by simp, by simp⟩
  exact hr

/-- A list filled. -/
theorem iter_fill {α β : Type} {f : Int × List β → Option ((Int × List β) ⊕ (List β ⊕ Unit))} (ys : List α) (ok : α → Bool) (h : α → β) (row0 : List β) (h0 : row0.length = ys.length)
    (hs : ∀ (n : Nat) y row, ys[n]? = some y → row.length = ys.length → f ((n : Int), row) = some (if ok y then .inl (((n + 1 : Nat) : Int), row.set n (h y)) else .inr (.inr ())))
    (he : ∀ row, f ((ys.length : Int), row) = some (.inr (.inl row))) : iter f (0, row0) = some (if ys.all ok then .inl (ys.map h) else .inr ()) := by
  obtain ⟨r, hr, rfl⟩ := iter_inv (f := f) (I := fun w => ∃ n : Nat, w.1 = n ∧ n ≤ ys.length ∧ w.2.length = ys.length ∧ w.2.take n = (ys.take n).map h ∧ (ys.take n).all ok = true) (m := fun w => ys.length - w.1.toNat) (fun r => r = if ys.all ok then .inl (ys.map h) else .inr ()) (by
    rintro ⟨i, row⟩ ⟨n, h1, hn, hlen, h2, h3⟩
    simp only at h1 hlen h2
    subst h1
    by_cases hl : n = ys.length
    · subst hl
      refine .inr ⟨_, he _, ?_⟩
      rw [List.take_length] at h3 h2
      rw [List.take_of_length_le (by omega)] at h2
      rw [h3, h2]
      rfl
    · have hy := List.getElem?_eq_getElem (show n < ys.length by omega)
      rw [hs n _ _ hy hlen]
      by_cases ho : ok ys[n] = true
      · refine .inl ⟨_, by rw [if_pos ho], ⟨n + 1, rfl, by omega, by simpa using hlen, ?_, all_take hy h3 ho⟩, by simp; omega⟩
        simp only
        rw [List.take_add_one, List.take_add_one, hy, List.getElem?_set, if_pos rfl, if_pos (by omega), List.take_set_of_le (by omega), h2, show (some ys[n]).toList = [ys[n]] from rfl, List.map_append]
        rfl
      · refine .inr ⟨_, by rw [if_neg ho], ?_⟩
        rw [all_no hy (by simpa using ho)]
        rfl) (0, row0) ⟨0, rfl, by omega, h0, by simp, by simp⟩
  exact hr

theorem list_make {α : Type} {P : Nat → α → Prop} : ∀ (n : Nat), (∀ k, k < n → ∃ y, P k y) → ∃ ys : List α, ys.length = n ∧ ∀ k y, ys[k]? = some y → P k y
  | 0, _ => ⟨[], rfl, fun k y h => by simp at h⟩
  | n + 1, h => by
    obtain ⟨ys, h1, h2⟩ := list_make n (fun k hk => h k (by omega))
    obtain ⟨y, hy⟩ := h n (by omega)
    refine ⟨ys ++ [y], by simp [h1], fun k z hz => ?_⟩
    by_cases hk : k < ys.length
    · rw [List.getElem?_append_left hk] at hz
      exact h2 k z hz
    · rw [List.getElem?_append_right (by omega)] at hz
      have : k - ys.length = 0 := by
        have := lt_of_get hz
        simp at this
        omega
      rw [this] at hz
      simp at hz
      have : k = n := by omega
      subst this
      rw [← hz]
      exact hy

end Go.VL
