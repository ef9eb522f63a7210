/- Iterations as recursions over lists: plain mathematics. No condition. -/
import Derived.Test.YtiacejpdgjmdfabGreatVlV
namespace Go.VL
set_option linter.unusedVariables false
set_option linter.unusedSimpArgs false
open Go

theorem w64_eq {x : Int} (h1 : -9223372036854775808 ≤ x) (h2 : x < 9223372036854775808) : w64 x = x := by
  simp only [w64, IntKind.wrap, IntKind.signed, IntKind.bits]
  have : ((2 : Int) ^ 64) = 18446744073709551616 := by decide
  have h63 : ((2 : Int) ^ 63) = 9223372036854775808 := by decide
  simp
  omega

theorem in64_iff {x : Int} : In64 x ↔ -9223372036854775808 ≤ x ∧ x < 9223372036854775808 := by
  have h1 : IntKind.min .i64 = -9223372036854775808 := by decide
  have h2 : IntKind.max .i64 = 9223372036854775807 := by decide
  simp only [In64, Lit.wf, h1, h2, Bool.and_eq_true, decide_eq_true_eq]
  omega

theorem iter_run {α β : Type} {f : α → Option (α ⊕ β)} {s : Nat → α} {r : β} (n : Nat) : ∀ (k : Nat), (∀ i, k ≤ i → i < k + n → f (s i) = some (.inl (s (i + 1)))) → f (s (k + n)) = some (.inr r) → iter f (s k) = some r := by
  induction n with
  | zero =>
    intro k _ h
    rw [iter]
    simp at h
    simp [h]
  | succ n ih =>
    intro k h1 h2
    rw [iter, h1 k (Nat.le_refl _) (by omega)]
    simp
    exact ih (k + 1) (fun i h3 h4 => h1 i (by omega) (by omega)) (by rw [show k + 1 + n = k + (n + 1) by omega]; exact h2)

/-- The first that answers. -/
def scan {α β : Type} (t : Nat → α → Option β) : Nat → List α → Option β
  | _, [] => none
  | n, x :: xs => match t n x with
    | some b => some b
    | none => scan t (n + 1) xs

theorem iter_scan {α β : Type} {f : Int → Option (Int ⊕ β)} {t : Nat → α → Option β} {e : β} : ∀ (xs : List α) (k : Nat),
    (∀ n x, xs[n]? = some x → f ((k + n : Nat) : Int) = some (match t (k + n) x with | some b => .inr b | none => .inl ((k + n + 1 : Nat) : Int))) → f ((k + xs.length : Nat) : Int) = some (.inr e) → iter f (k : Int) = some ((scan t k xs).getD e)
  | [], k, _, h => by
    rw [iter]
    simp at h
    simp [h, scan]
  | x :: xs, k, h1, h2 => by
    have h3 := h1 0 x rfl
    simp only [Nat.add_zero] at h3
    rw [iter, h3]
    simp only [scan]
    cases ht : t k x with
    | some b => simp
    | none =>
      simp only [Option.bind_eq_bind, Option.bind_some]
      refine iter_scan xs (k + 1) (fun n y hy => ?_) ?_
      · have := h1 (n + 1) y (by simpa using hy)
        rw [show k + (n + 1) = k + 1 + n by omega] at this
        exact this
      · rw [show k + 1 + xs.length = k + (x :: xs).length by simp; omega]; exact h2

theorem iter_inv {α β : Type} {f : α → Option (α ⊕ β)} (I : α → Prop) (m : α → Nat) (Q : β → Prop)
    (h : ∀ a, I a → (∃ a', f a = some (.inl a') ∧ I a' ∧ m a' < m a) ∨ ∃ r, f a = some (.inr r) ∧ Q r) : ∀ a, I a → ∃ r, iter f a = some r ∧ Q r := by
  have key : ∀ n a, m a ≤ n → I a → ∃ r, iter f a = some r ∧ Q r := by
    intro n
    induction n with
    | zero =>
      intro a hm hI
      rcases h a hI with ⟨a', -, -, h3⟩ | ⟨r, h1, h2⟩
      · omega
      · exact ⟨r, by rw [iter, h1]; rfl, h2⟩
    | succ n ih =>
      intro a hm hI
      rcases h a hI with ⟨a', h1, h2, h3⟩ | ⟨r, h1, h2⟩
      · obtain ⟨r, r1, r2⟩ := ih a' (by omega) h2
        exact ⟨r, by rw [iter, h1]; exact r1, r2⟩
      · exact ⟨r, by rw [iter, h1]; rfl, h2⟩
  exact fun a hI => key (m a) a (Nat.le_refl _) hI

theorem iter_copy {α : Type} {f : Int × List α → Option ((Int × List α) ⊕ List α)} (xs row0 : List α) (h0 : row0.length = xs.length)
    (hstep : ∀ (n : Nat) x row, xs[n]? = some x → row.length = xs.length → f ((n : Int), row) = some (.inl (((n + 1 : Nat) : Int), row.set n x)))
    (hend : ∀ row, f ((xs.length : Int), row) = some (.inr row)) : iter f (0, row0) = some xs := by
  have h := iter_run (f := f) (s := fun n => ((n : Int), xs.take n ++ row0.drop n)) (r := xs) xs.length 0 (fun i _ hi => ?_) ?_
  · simpa using h
  · have hi' : i < xs.length := by omega
    rw [hstep i xs[i] _ (List.getElem?_eq_getElem hi') (by simp; omega)]
    congr 3
    apply List.ext_getElem?
    intro j
    rw [List.getElem?_set]
    simp only [List.length_append, List.length_take, List.length_drop, List.getElem?_append, List.getElem?_take, List.getElem?_drop]
    by_cases hj : i = j
    · subst hj
      have e1 : min (i + 1) xs.length = i + 1 := by omega
      simp [e1, hi']
      omega
    · rw [if_neg hj]
      by_cases hlt : j < i
      · have e1 : j < min i xs.length := by omega
        have e2 : j < min (i + 1) xs.length := by omega
        rw [if_pos e1, if_pos e2, if_pos hlt, if_pos (by omega)]
      · have e1 : ¬ j < min i xs.length := by omega
        have e2 : ¬ j < min (i + 1) xs.length := by omega
        rw [if_neg e1, if_neg e2]
        congr 1
        omega
  · simp only [Nat.zero_add]
    rw [hend]
    simp [h0]

/-- What every answer of the body has, the iteration's answer has. -/
theorem iter_post {α β : Type} {f : α → Option (α ⊕ β)} (Q : β → Prop) (h : ∀ a r, f a = some (.inr r) → Q r) : ∀ a r, iter f a = some r → Q r := by
  apply iter.partial_correctness f (fun _ r => Q r)
  intro it ih a r hr
  cases hf : f a with
  | none => rw [hf] at hr; simp at hr
  | some x =>
    rw [hf] at hr
    cases x with
    | inl a' => exact ih a' r hr
    | inr r' =>
      have hr' : some r' = some r := hr
      obtain rfl := Option.some.inj hr'
      exact h a _ hf

/-- Two bodies alike but for what they answer. -/
theorem iter_map {α β γ : Type} {f : α → Option (α ⊕ β)} {g : α → Option (α ⊕ γ)} (h : β → γ) (I : α → Prop) (hI : ∀ a a', I a → f a = some (.inl a') → I a') (hfg : ∀ a, I a → g a = (f a).map (Sum.map id h)) :
    ∀ a r, iter f a = some r → I a → iter g a = some (h r) := by
  apply iter.partial_correctness f (fun a r => I a → iter g a = some (h r))
  intro it ih a r hr ha
  have hg := hfg a ha
  cases hf : f a with
  | none => rw [hf] at hr; simp at hr
  | some x =>
    rw [hf] at hr hg
    cases x with
    | inl a' =>
      rw [iter, hg]
      exact ih a' r hr (hI a a' ha hf)
    | inr r' =>
      have hr' : some r' = some r := hr
      obtain rfl := Option.some.inj hr'
      rw [iter, hg]
      rfl

end Go.VL
