/- Numbers written in limbs of nine decimals: plain mathematics. No condition. -/
import Derived.Test.YtiacejpdgjmdfabGreatVmB
namespace Go.VL
set_option linter.unusedVariables false
set_option linter.unusedSimpArgs false
open Go

/-- The value of a list of limbs. -/
def V : List Int → Int
  | [] => 0
  | x :: xs => x + 1000000000 * V xs

def Lim (l : List Int) : Prop := ∀ x ∈ l, 0 ≤ x ∧ x < 1000000000

abbrev B (n : Nat) : Int := (1000000000 : Int) ^ n

theorem B_succ (n : Nat) : B (n + 1) = 1000000000 * B n := by rw [B, B, Int.pow_succ]; exact Int.mul_comm _ _
theorem B_pos (n : Nat) : 1 ≤ B n := by
  induction n with
  | zero => simp [B]
  | succ n ih => rw [B_succ]; omega
theorem B_add (m n : Nat) : B (m + n) = B m * B n := by rw [B, B, B, Int.pow_add]
theorem B_mono {m n : Nat} (h : m ≤ n) : B m ≤ B n := by
  induction n with
  | zero =>
    have : m = 0 := by omega
    subst this
    exact Int.le_refl _
  | succ n ih =>
    by_cases hm : m = n + 1
    · subst hm; exact Int.le_refl _
    · have h1 := ih (by omega)
      have h2 := B_pos n
      rw [B_succ]
      omega

theorem Lim.tail {x : Int} {l : List Int} (h : Lim (x :: l)) : Lim l := fun y hy => h y (by simp [hy])
theorem Lim.head {x : Int} {l : List Int} (h : Lim (x :: l)) : 0 ≤ x ∧ x < 1000000000 := h x (by simp)
theorem Lim.nil : Lim [] := fun _ h => by simp at h
theorem Lim.cons {x : Int} {l : List Int} (h : 0 ≤ x ∧ x < 1000000000) (hl : Lim l) : Lim (x :: l) := fun y hy => by
  rcases List.mem_cons.mp hy with rfl | h1
  · exact h
  · exact hl y h1
theorem Lim.get {l : List Int} (h : Lim l) {n : Nat} {x : Int} (hx : l[n]? = some x) : 0 ≤ x ∧ x < 1000000000 := h x (List.mem_of_getElem? hx)
theorem Lim.take {l : List Int} (h : Lim l) (n : Nat) : Lim (l.take n) := fun x hx => h x (List.mem_of_mem_take hx)
theorem Lim.drop {l : List Int} (h : Lim l) (n : Nat) : Lim (l.drop n) := fun x hx => h x (List.mem_of_mem_drop hx)
theorem Lim.append {l m : List Int} (h : Lim l) (h' : Lim m) : Lim (l ++ m) := fun x hx => by
  rcases List.mem_append.mp hx with h1 | h1
  · exact h x h1
  · exact h' x h1
theorem Lim.set {l : List Int} (h : Lim l) {n : Nat} {x : Int} (hx : 0 ≤ x ∧ x < 1000000000) : Lim (l.set n x) := fun y hy => by
  rcases List.mem_or_eq_of_mem_set hy with h1 | rfl
  · exact h y h1
  · exact hx
theorem Lim.rep (n : Nat) : Lim (List.replicate n 0) := fun x hx => by
  have := (List.mem_replicate.mp hx).2
  omega

theorem V_nil : V [] = 0 := rfl
theorem V_cons (x : Int) (l : List Int) : V (x :: l) = x + 1000000000 * V l := rfl
theorem V_nonneg {l : List Int} (h : Lim l) : 0 ≤ V l := by
  induction l with
  | nil => simp [V]
  | cons x l ih =>
    have h1 := ih h.tail
    have h2 := h.head
    rw [V_cons]; omega
theorem V_lt {l : List Int} (h : Lim l) : V l < B l.length := by
  induction l with
  | nil => simp [V, B]
  | cons x l ih =>
    have h1 := ih h.tail
    have h2 := h.head
    rw [V_cons, List.length_cons, B_succ]; omega
theorem V_append (a b : List Int) : V (a ++ b) = V a + B a.length * V b := by
  induction a with
  | nil => simp [V, B]
  | cons x a ih =>
    rw [List.cons_append, V_cons, V_cons, List.length_cons, B_succ, ih]
    grind
theorem V_rep (n : Nat) : V (List.replicate n 0) = 0 := by
  induction n with
  | zero => rfl
  | succ n ih => rw [List.replicate_succ, V_cons, ih]; rfl
theorem V_set {l : List Int} {n : Nat} {x y : Int} (h : l[n]? = some y) : V (l.set n x) = V l + (x - y) * B n := by
  induction l generalizing n with
  | nil => simp at h
  | cons z l ih =>
    cases n with
    | zero =>
      simp at h
      subst h
      rw [List.set_cons_zero, V_cons, V_cons]
      simp [B]
      omega
    | succ n =>
      rw [List.set_cons_succ, V_cons, V_cons, ih (by simpa using h), B_succ]
      grind
theorem V_split {l : List Int} {n : Nat} (h : n ≤ l.length) : V l = V (l.take n) + B n * V (l.drop n) := by
  have := V_append (l.take n) (l.drop n)
  rw [List.take_append_drop] at this
  rw [this, List.length_take, Nat.min_eq_left h]
theorem V_take1 {l : List Int} {n : Nat} {x : Int} (h : l[n]? = some x) : V (l.take (n + 1)) = V (l.take n) + B n * x := by
  have hn := lt_of_get h
  have : l.take (n + 1) = l.take n ++ [x] := by
    rw [List.take_add_one, h]; rfl
  rw [this, V_append, List.length_take, Nat.min_eq_left (by omega)]
  simp [V]
theorem drop_get {α : Type} {l : List α} {n : Nat} {x : α} (h : l[n]? = some x) : l.drop n = x :: l.drop (n + 1) := by
  have hn := lt_of_get h
  rw [List.getElem?_eq_getElem hn] at h
  rw [List.drop_eq_getElem_cons hn]
  simp at h
  rw [h]
theorem V_drop1 {l : List Int} {n : Nat} {x : Int} (h : l[n]? = some x) : V (l.drop n) = x + 1000000000 * V (l.drop (n + 1)) := by
  rw [drop_get h, V_cons]

/-- Written without a zero in front. -/
def Nf (l : List Int) : Prop := Lim l ∧ ∀ x, l.getLast? = some x → x ≠ 0

theorem Nf.lim {l : List Int} (h : Nf l) : Lim l := h.1
theorem Nf.nil : Nf [] := ⟨Lim.nil, fun _ h => by simp at h⟩
theorem Nf.tail {x : Int} {l : List Int} (h : Nf (x :: l)) : Nf l := ⟨h.1.tail, fun y hy => h.2 y (by
  cases l with
  | nil => simp at hy
  | cons z l => simpa using hy)⟩
theorem V_pos {l : List Int} (h : Nf l) (hl : l ≠ []) : 0 < V l := by
  induction l with
  | nil => exact absurd rfl hl
  | cons x l ih =>
    have h1 := h.1.head
    by_cases h2 : l = []
    · subst h2
      have := h.2 x (by simp)
      simp [V]
      omega
    · have := ih h.tail h2
      rw [V_cons]
      omega
theorem V_ge {l : List Int} (h : Nf l) (hl : l ≠ []) : B (l.length - 1) ≤ V l := by
  induction l with
  | nil => exact absurd rfl hl
  | cons x l ih =>
    have h1 := h.1.head
    by_cases h2 : l = []
    · subst h2
      have := h.2 x (by simp)
      simp [V, B]
      omega
    · have h3 := ih h.tail h2
      have h4 : (x :: l).length - 1 = (l.length - 1) + 1 := by
        have := List.length_pos_iff.mpr h2
        simp
        omega
      rw [V_cons, h4, B_succ]
      omega

def Ln (n : Nat) : List Int := if h : n = 0 then [] else ((n % 1000000000 : Nat) : Int) :: Ln (n / 1000000000)
decreasing_by exact Nat.div_lt_self (Nat.pos_of_ne_zero h) (by decide)

/-- How a number is written. -/
def L (n : Int) : List Int := Ln n.toNat

theorem Ln_can (n : Nat) : Nf (Ln n) ∧ V (Ln n) = n := by
  induction n using Nat.strongRecOn with
  | ind n ih =>
    rw [Ln]
    by_cases h : n = 0
    · subst h
      simp [V, Nf.nil]
    · rw [dif_neg h]
      obtain ⟨h1, h2⟩ := ih (n / 1000000000) (Nat.div_lt_self (Nat.pos_of_ne_zero h) (by decide))
      refine ⟨⟨Lim.cons (by omega) h1.1, fun x hx => ?_⟩, ?_⟩
      · by_cases h3 : Ln (n / 1000000000) = []
        · rw [h3] at hx h2
          simp [V] at hx h2
          omega
        · refine h1.2 x ?_
          cases h4 : Ln (n / 1000000000) with
          | nil => exact absurd h4 h3
          | cons z l => rw [h4] at hx; simpa using hx
      · rw [V_cons, h2]
        omega

theorem L_can (n : Int) : Nf (L n) := (Ln_can _).1
theorem L_lim (n : Int) : Lim (L n) := (L_can n).1
theorem V_L {n : Int} (h : 0 ≤ n) : V (L n) = n := by
  rw [L, (Ln_can _).2]; omega
theorem V_inj {a b : List Int} (ha : Nf a) (hb : Nf b) (h : V a = V b) : a = b := by
  induction a generalizing b with
  | nil =>
    by_cases h1 : b = []
    · exact h1.symm
    · have := V_pos hb h1
      simp [V] at h
      omega
  | cons x a ih =>
    cases b with
    | nil =>
      have := V_pos ha (by simp)
      rw [h] at this
      simp [V] at this
    | cons y b =>
      have h1 := ha.1.head
      have h2 := hb.1.head
      rw [V_cons, V_cons] at h
      have h3 : x = y := by omega
      have h4 := ih ha.tail hb.tail (by omega)
      rw [h3, h4]
theorem L_V {l : List Int} (h : Nf l) : L (V l) = l := V_inj (L_can _) h (V_L (V_nonneg h.1))
theorem L_eq {l : List Int} {n : Int} (h : Nf l) (hv : V l = n) : l = L n := by rw [← hv, L_V h]
theorem L_zero : L 0 = [] := by rw [L, Ln]; rfl
theorem L_neg {n : Int} (h : n ≤ 0) : L n = [] := by
  rw [L, Int.toNat_eq_zero.mpr h]
  exact L_zero
theorem L_len {n : Int} {k : Nat} (h : 0 ≤ n) : (L n).length ≤ k ↔ n < B k := by
  constructor
  · intro h1
    have h2 := V_lt (L_lim n)
    rw [V_L h] at h2
    have := B_mono h1
    omega
  · intro h1
    by_cases h2 : L n = []
    · rw [h2]; simp
    · have h3 := V_ge (L_can n) h2
      rw [V_L h] at h3
      have h4 := List.length_pos_iff.mpr h2
      apply Nat.le_of_not_lt
      intro h5
      have := B_mono (m := k) (n := (L n).length - 1) (by omega)
      omega
theorem Nf.len {l : List Int} (h : Nf l) {k : Nat} : l.length ≤ k ↔ V l < B k := by
  have := L_len (n := V l) (k := k) (V_nonneg h.1)
  rwa [L_V h] at this
theorem L_nil {n : Int} : L n = [] ↔ n ≤ 0 := by
  constructor
  · intro h
    apply Int.not_lt.mp
    intro h1
    have := V_L (n := n) (by omega)
    rw [h] at this
    simp [V] at this
    omega
  · exact L_neg
theorem Nf.pos {l : List Int} (h : Nf l) : 0 < V l ↔ l ≠ [] := by
  constructor
  · intro h1 h2
    subst h2
    simp [V] at h1
  · exact V_pos h
theorem Nf.of_take {l : List Int} (hl : Lim l) (n : Nat) (h : ∀ x, l[n]? = some x → x ≠ 0) : Nf (l.take (n + 1)) ∨ l.length ≤ n := by
  by_cases hn : n < l.length
  · refine .inl ⟨hl.take _, fun x hx => h x ?_⟩
    rw [List.take_add_one, List.getElem?_eq_getElem hn, show (some l[n]).toList = [l[n]] from rfl, List.getLast?_append] at hx
    rw [List.getElem?_eq_getElem hn]
    exact hx
  · exact .inr (by omega)
theorem Nf.one {x : Int} (h : 0 < x ∧ x < 1000000000) : Nf [x] := ⟨Lim.cons (by omega) Lim.nil, fun y hy => by
  simp at hy
  omega⟩
theorem L_small {x : Int} (h : 0 < x ∧ x < 1000000000) : L x = [x] := (L_eq (Nf.one h) (by simp [V])).symm

/-- Which of two numbers is greater. -/
def cmp3 (a b : Int) : Int := if a < b then -1 else if b < a then 1 else 0

theorem cmp_len {a b : List Int} (ha : Nf a) (hb : Nf b) (h : a.length < b.length) : V a < V b := by
  have h1 := V_lt ha.1
  have hb0 : b ≠ [] := by intro h2; rw [h2] at h; simp at h
  have h2 := V_ge hb hb0
  have := B_mono (m := a.length) (n := b.length - 1) (by omega)
  omega

/-- Compared from above: equal in the upper part, different here. -/
theorem cmp_top {a b : List Int} (ha : Lim a) (hb : Lim b) {n : Nat} {x y : Int} (hx : a[n]? = some x) (hy : b[n]? = some y) (h : V (a.drop (n + 1)) = V (b.drop (n + 1))) (hxy : x < y) : V a < V b := by
  have h1 := V_split (Nat.le_of_lt (lt_of_get hx))
  have h2 := V_split (Nat.le_of_lt (lt_of_get hy))
  rw [V_drop1 hx] at h1
  rw [V_drop1 hy, ← h] at h2
  have h3 := V_lt (ha.take n)
  have h4 := V_nonneg (hb.take n)
  rw [List.length_take, Nat.min_eq_left (Nat.le_of_lt (lt_of_get hx))] at h3
  have h5 := B_pos n
  rw [h1, h2]
  generalize V (a.drop (n + 1)) = t at *
  generalize V (a.take n) = p at *
  generalize V (b.take n) = q at *
  generalize B n = w at *
  have : w * (x + 1000000000 * t) + w ≤ w * (y + 1000000000 * t) := by
    have h6 : w * (x + 1000000000 * t + 1) ≤ w * (y + 1000000000 * t) := Int.mul_le_mul_of_nonneg_left (by omega) (by omega)
    rw [Int.mul_add, Int.mul_one] at h6
    exact h6
  omega

end Go.VL
