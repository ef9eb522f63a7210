/- Iterations that fold a list: plain mathematics. No condition. -/
import Derived.Test.YtiacejpdgjmdfabGreatVmB
namespace Go.VL
set_option linter.unusedVariables false
set_option linter.unusedSimpArgs false
open Go

theorem iter_fold {α σ τ β : Type} {f : τ → Option (τ ⊕ β)} (st : Nat → σ → τ) (g : σ → α → σ) (e : σ → β) (I : Nat → σ → Prop) (ys : List α)
    (h : ∀ n s x, I n s → ys[n]? = some x → f (st n s) = some (.inl (st (n + 1) (g s x))) ∧ I (n + 1) (g s x))
    (he : ∀ s, I ys.length s → f (st ys.length s) = some (.inr (e s))) (s0 : σ) (h0 : I 0 s0) : iter f (st 0 s0) = some (e (ys.foldl g s0)) ∧ I ys.length (ys.foldl g s0) := by
  have key : ∀ (xs : List α) (n : Nat) (s : σ), ys.drop n = xs → n ≤ ys.length → I n s → iter f (st n s) = some (e (xs.foldl g s)) ∧ I ys.length (xs.foldl g s) := by
    intro xs
    induction xs with
    | nil =>
      intro n s hd hn hI
      have : n = ys.length := by
        have := congrArg List.length hd
        simp at this
        omega
      subst this
      rw [iter, he s hI]
      exact ⟨rfl, hI⟩
    | cons x xs ih =>
      intro n s hd hn hI
      have hx : ys[n]? = some x := by
        have := congrArg (·[0]?) hd
        simpa using this
      have hlt := lt_of_get hx
      obtain ⟨h1, h2⟩ := h n s x hI hx
      rw [iter, h1]
      exact ih (n + 1) (g s x) (by rw [← List.drop_drop, hd]; rfl) (by omega) h2
  exact key ys 0 s0 rfl (Nat.zero_le _) h0

theorem range_get {J n k : Nat} (h : (List.range J)[n]? = some k) : n = k ∧ k < J := by
  have hn := lt_of_get h
  rw [List.length_range] at hn
  rw [List.getElem?_range hn] at h
  have := Option.some.inj h
  omega

end Go.VL
