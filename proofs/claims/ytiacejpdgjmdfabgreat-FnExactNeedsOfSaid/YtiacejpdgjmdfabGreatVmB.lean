/- Iterations over a list with a state: plain mathematics. No condition. -/
import Derived.Test.YtiacejpdgjmdfabGreatVmA
namespace Go.VL
set_option linter.unusedVariables false
set_option linter.unusedSimpArgs false
open Go

/-- A list gone through with a state, until an answer comes. -/
def runL {α σ β : Type} (g : Nat → σ → α → σ ⊕ β) (e : σ → β) : List α → Nat → σ → β
  | [], _, s => e s
  | x :: xs, n, s => match g n s x with
    | .inl s' => runL g e xs (n + 1) s'
    | .inr b => b

/-- An iteration over a list, with an invariant. -/
theorem iter_list {α σ τ β : Type} {f : τ → Option (τ ⊕ β)} (st : Nat → σ → τ) (g : Nat → σ → α → σ ⊕ β) (e : σ → β) (I : Nat → σ → Prop) (ys : List α)
    (h : ∀ n s x, I n s → ys[n]? = some x → f (st n s) = some (match g n s x with | .inl s' => .inl (st (n + 1) s') | .inr b => .inr b) ∧ ∀ s', g n s x = .inl s' → I (n + 1) s')
    (he : ∀ s, I ys.length s → f (st ys.length s) = some (.inr (e s))) : ∀ (xs : List α) (n : Nat) (s : σ), ys.drop n = xs → n ≤ ys.length → I n s → iter f (st n s) = some (runL g e xs n s)
  | [], n, s, hd, hn, hI => by
    have : n = ys.length := by
      have := congrArg List.length hd
      simp at this
      omega
    subst this
    rw [iter, he s hI]
    rfl
  | x :: xs, n, s, hd, hn, hI => by
    have hx : ys[n]? = some x := by
      have := congrArg (·[0]?) hd
      simpa using this
    have hlt := lt_of_get hx
    obtain ⟨h1, h2⟩ := h n s x hI hx
    rw [iter, h1]
    simp only [runL]
    cases hg : g n s x with
    | inr b => rfl
    | inl s' =>
      simp only [Option.bind_eq_bind, Option.bind_some]
      refine iter_list st g e I ys h he xs (n + 1) s' ?_ (by omega) (h2 s' hg)
      rw [← List.drop_drop, hd]; rfl

/-- The same from the beginning, without an invariant. -/
theorem iter_list0 {α σ τ β : Type} {f : τ → Option (τ ⊕ β)} (st : Nat → σ → τ) (g : Nat → σ → α → σ ⊕ β) (e : σ → β) (ys : List α)
    (h : ∀ n s x, ys[n]? = some x → f (st n s) = some (match g n s x with | .inl s' => .inl (st (n + 1) s') | .inr b => .inr b))
    (he : ∀ s, f (st ys.length s) = some (.inr (e s))) (s : σ) : iter f (st 0 s) = some (runL g e ys 0 s) :=
  iter_list st g e (fun _ _ => True) ys (fun n s x _ hx => ⟨h n s x hx, fun _ _ => trivial⟩) (fun s _ => he s) ys 0 s rfl (Nat.zero_le _) trivial

/-- All elements are such. -/
theorem iter_all {α : Type} {f : Int → Option (Int ⊕ (Unit ⊕ Unit))} (xs : List α) (p : α → Bool)
    (h : ∀ (n : Nat) x, xs[n]? = some x → f n = some (if p x then .inl ((n + 1 : Nat) : Int) else .inr (.inr ()))) (he : f xs.length = some (.inr (.inl ()))) :
    iter f 0 = some (if xs.all p then .inl () else .inr ()) := by
  have := iter_list0 (f := f) (σ := Unit) (fun n _ => (n : Int)) (fun _ _ x => if p x then .inl () else .inr (.inr ())) (fun _ => .inl ()) xs (fun n _ x hx => by
    rw [h n x hx]
    cases p x <;> rfl) (fun _ => he) ()
  rw [show ((0 : Nat) : Int) = 0 from rfl] at this
  rw [this]
  congr 1
  have key : ∀ (ys : List α) (n : Nat), runL (fun (_ : Nat) (_ : Unit) x => if p x then Sum.inl () else Sum.inr (Sum.inr ())) (fun _ => (Sum.inl () : Unit ⊕ Unit)) ys n () = if ys.all p then .inl () else .inr () := by
    intro ys
    induction ys with
    | nil => intro n; rfl
    | cons y ys ih =>
      intro n
      simp only [runL, List.all_cons]
      by_cases hp : p y = true
      · simpa [hp] using ih (n + 1)
      · simp [hp]
  exact key xs 0

/-- The first such element. -/
theorem iter_find {α : Type} {f : Int → Option (Int ⊕ (Unit ⊕ Int))} (xs : List α) (p : α → Bool)
    (h : ∀ (n : Nat) x, xs[n]? = some x → f n = some (if p x then .inr (.inr (n : Int)) else .inl ((n + 1 : Nat) : Int))) (he : f xs.length = some (.inr (.inl ()))) :
    ∃ r, iter f 0 = some r ∧ ((∃ k : Int, r = .inr k ∧ 0 ≤ k ∧ xs.any p = true) ∨ (r = .inl () ∧ xs.any p = false)) := by
  have := iter_list0 (f := f) (σ := Unit) (fun n _ => (n : Int)) (fun n _ x => if p x then .inr (.inr (n : Int)) else .inl ()) (fun _ => .inl ()) xs (fun n _ x hx => by
    rw [h n x hx]
    cases p x <;> rfl) (fun _ => he) ()
  rw [show ((0 : Nat) : Int) = 0 from rfl] at this
  refine ⟨_, this, ?_⟩
  have key : ∀ (ys : List α) (n : Nat), (∃ k : Int, runL (fun (n : Nat) (_ : Unit) x => if p x then Sum.inr (Sum.inr (n : Int)) else Sum.inl ()) (fun _ => (Sum.inl () : Unit ⊕ Int)) ys n () = .inr k ∧ 0 ≤ k ∧ ys.any p = true) ∨
      (runL (fun (n : Nat) (_ : Unit) x => if p x then Sum.inr (Sum.inr (n : Int)) else Sum.inl ()) (fun _ => (Sum.inl () : Unit ⊕ Int)) ys n () = .inl () ∧ ys.any p = false) := by
    intro ys
    induction ys with
    | nil => intro n; exact .inr ⟨rfl, rfl⟩
    | cons y ys ih =>
      intro n
      simp only [runL, List.any_cons]
      by_cases hp : p y = true
      · exact .inl ⟨n, by simp [hp], by omega, by simp [hp]⟩
      · simpa [hp] using ih (n + 1)
  exact key xs 0

theorem i1 {n : Nat} (h : (n : Int) < 9223372036854775807) : w64 ((n : Int) + 1) = ((n + 1 : Nat) : Int) := by
  rw [w64_eq (by omega) (by omega)]; rfl

end Go.VL
