/- Loops as iteration, and small facts for printed proofs. -/
import Derived.Test.YtiacejpdgjmdfabGreatVlT
namespace Go.VL
set_option linter.unusedVariables false
set_option linter.unusedSimpArgs false
open Go

/-- A body done again and again, until it answers. -/
def iter {α β : Type} (f : α → Option (α ⊕ β)) (a : α) : Option β := do
  match ← f a with
  | .inl a' => iter f a'
  | .inr r => some r
partial_fixpoint

abbrev nt : Ans × Bool := (.none, true)
abbrev nf : Ans × Bool := (.none, false)
abbrev ii : C2 := .c1 (.c0 .id)

abbrev w64 (x : Int) : Int := IntKind.wrap .i64 x

section
variable {P : Program} {N m : Nat} {α β : Type}

/-- A loop's proof from its body's. -/
theorem iter_ok {c : Code} {f : α → Option (α ⊕ β)} {head : α → S} {ex : β → Exit} {out : β → S} (hex : ∀ r, ex r ≠ .normal)
    (h : ∀ a, Wp (f a) (Sum.elim (fun a' => VEx P N m c .normal (head a) (head a')) (fun r => VEx P N m c (ex r) (head a) (out r)))) : ∀ a r, iter f a = some r → VLoop P N m c (ex r) (head a) (out r) := by
  apply iter.partial_correctness f (fun a r => VLoop P N m c (ex r) (head a) (out r))
  intro it ih a r hr
  cases hf : f a with
  | none => rw [hf] at hr; simp at hr
  | some x =>
    have hx := h a x hf
    rw [hf] at hr
    cases x with
    | inl a' =>
      have hr' : it a' = some r := hr
      exact VLoop.next hx (ih a' r hr')
    | inr r' =>
      have hr' : some r' = some r := hr
      obtain rfl := Option.some.inj hr'
      exact VLoop.out hx (hex _)

theorem not_t {a : Bool} (h : a = true) : (!a) = false := by rw [h]; rfl
theorem not_f {a : Bool} (h : a = false) : (!a) = true := by rw [h]; rfl

theorem get_prf {γ : Type} {raw : List (List AV)} {f : γ → List AV} {l : List γ} (e : raw = l.map f) {i : Nat} {x : γ} (h : l[i]? = some x) : raw[i]? = some (f x) := by
  rw [e]; exact map_get h
theorem lt_prfI {γ : Type} {raw : List (List AV)} {f : γ → List AV} {l : List γ} (e : raw = l.map f) {j : Int} (h : j < l.length) : j < (raw.length : Nat) := by
  rw [e]; exact lt_mapI h
theorem lt_prf {γ : Type} {raw : List (List AV)} {f : γ → List AV} {l : List γ} (e : raw = l.map f) {j : Nat} (h : j < l.length) : j < raw.length := by
  rw [e]; exact lt_map h
theorem set_prf {γ : Type} {raw : List (List AV)} {f : γ → List AV} {l : List γ} (e : raw = l.map f) (i : Nat) (x : γ) : raw.set i (f x) = (l.set i x).map f := by
  rw [e, List.map_set]
theorem app_prf {γ : Type} {raw : List (List AV)} {f : γ → List AV} {l : List γ} (e : raw = l.map f) (x : List γ) : raw ++ x.map f = (l ++ x).map f := by
  rw [e, List.map_append]
theorem rep_prf {γ : Type} (f : γ → List AV) (n : Nat) (x : γ) : List.replicate n (f x) = (List.replicate n x).map f := by
  rw [List.map_replicate]
theorem sub_prf {γ : Type} {raw : List (List AV)} {f : γ → List AV} {l : List γ} (e : raw = l.map f) (i n : Nat) : (raw.drop i).take n = ((l.drop i).take n).map f := by
  rw [e, List.map_take, List.map_drop]
theorem len_prf {γ : Type} {raw : List (List AV)} {f : γ → List AV} {l : List γ} (e : raw = l.map f) : raw.length = l.length := by rw [e, List.length_map]
theorem snap_prf {γ : Type} {raw : List (List AV)} {f : γ → List AV} {l : List γ} (e : raw = l.map f) (i n : Nat) : ((l.drop i).take n).map f = (raw.drop i).take n := (sub_prf e i n).symm
theorem fit_prf {γ : Type} {raw : List (List AV)} {f : γ → List AV} {l : List γ} (e : raw = l.map f) {n : Nat} (h : n ≤ l.length) : n ≤ raw.length := by rw [len_prf e]; exact h
theorem pure_map {γ : Type} {f : γ → List AV} (hf : ∀ x, ∀ v ∈ f x, Pure v) (l : List γ) : PureEs (l.map f) := by
  intro e he v hv
  rw [List.mem_map] at he
  obtain ⟨x, -, rfl⟩ := he
  exact hf x v hv
theorem row_prf {γ : Type} {raw : List (List AV)} {f : γ → List AV} {l : List γ} {sz : Nat} {kd : Kd} (e : raw = l.map f) : [Ob.mk sz raw kd] = [Ob.mk sz (l.map f) kd] := by rw [e]
theorem pure_row {γ : Type} {f : γ → List AV} (hf : ∀ x, ∀ v ∈ f x, Pure v) {sz : Nat} {kd : Kd} (l : List γ) : PureRow [Ob.mk sz (l.map f) kd] := by
  intro o ho
  rw [List.mem_singleton] at ho
  subst ho
  exact pure_map hf l
theorem pure_es1 {c : List AV} (h : ∀ v ∈ c, Pure v) : PureEs [c] := by
  intro e he
  rw [List.mem_singleton] at he
  subst he
  exact h

theorem snap_all {γ : Type} {raw : List (List AV)} {f : γ → List AV} {l : List γ} (e : raw = l.map f) : l.map f = (raw.drop 0).take l.length := by
  rw [e, List.drop_zero, List.take_of_length_le (by simp)]
theorem fit_all {γ : Type} {raw : List (List AV)} {f : γ → List AV} {l : List γ} (e : raw = l.map f) : 0 + l.length ≤ raw.length := by rw [e]; simp
theorem sc_nil : ∀ x ∈ ([] : List AV), Sc x := by simp
theorem sc_cons {x : AV} {l : List AV} (h : Sc x) (t : ∀ y ∈ l, Sc y) : ∀ y ∈ x :: l, Sc y := by
  intro y hy
  rw [List.mem_cons] at hy
  rcases hy with rfl | hy
  · exact h
  · exact t y hy
theorem sc_tup {l : List AV} (h : ∀ y ∈ l, Sc y) : Sc (.tup l) := .tup h
def len_ {γ : Type} (f : γ → List AV) (l : List γ) : Int := ((l.map f).length : Nat)
theorem len_eq {γ : Type} (f : γ → List AV) (l : List γ) : len_ f l = (l.length : Nat) := by simp [len_]

/-! Encodings of the plain types -/
def eI (x : Int) : List AV := [.n .i64 x]
def eU8 (x : Int) : List AV := [.n .u8 x]
def eB (x : Bool) : List AV := [.b x]
def eS (x : ByteArray) : List AV := [.s x]
theorem eI_pure : ∀ x, ∀ v ∈ eI x, Pure v := by intro x v hv; simp [eI] at hv; subst hv; exact .n _ _
theorem eU8_pure : ∀ x, ∀ v ∈ eU8 x, Pure v := by intro x v hv; simp [eU8] at hv; subst hv; exact .n _ _
theorem eB_pure : ∀ x, ∀ v ∈ eB x, Pure v := by intro x v hv; simp [eB] at hv; subst hv; exact .b _
theorem eS_pure : ∀ x, ∀ v ∈ eS x, Pure v := by intro x v hv; simp [eS] at hv; subst hv; exact .s _
def eL {γ : Type} (sz : Nat) (f : γ → List AV) (l : List γ) : List AV := [.isl sz (l.map f)]
theorem eL_pure {γ : Type} {sz : Nat} {f : γ → List AV} (hf : ∀ x, ∀ v ∈ f x, Pure v) : ∀ l, ∀ v ∈ eL sz f l, Pure v := by
  intro l v hv; simp [eL] at hv; subst hv; exact .isl (pure_map hf l)

/-! Pointers that may be nil -/
def aO {γ : Type} (sz : Nat) (f : γ → List AV) (x : Option γ) : AV := .ipo sz (x.map f)
def eO {γ : Type} (sz : Nat) (f : γ → List AV) (x : Option γ) : List AV := [aO sz f x]
theorem aO_pure {γ : Type} {sz : Nat} {f : γ → List AV} (hf : ∀ x, ∀ v ∈ f x, Pure v) (x : Option γ) : Pure (aO sz f x) := by
  cases x with
  | none => exact .ipoN _
  | some x => exact .ipoS (hf x)
theorem eO_pure {γ : Type} {sz : Nat} {f : γ → List AV} (hf : ∀ x, ∀ v ∈ f x, Pure v) : ∀ x, ∀ v ∈ eO sz f x, Pure v := by
  intro x v hv; simp [eO] at hv; subst hv; exact aO_pure hf x
theorem aO_none {γ : Type} {sz : Nat} {f : γ → List AV} {x : Option γ} (h : x = none) : aO sz f x = .ipo sz none := by rw [h]; rfl
theorem aO_some {γ : Type} {sz : Nat} {f : γ → List AV} {x : Option γ} {y : γ} (h : x = some y) : aO sz f x = .ipo sz (some (f y)) := by rw [h]; rfl

theorem Wp.opt {α γ : Type} {Q : α → Prop} {o : Option γ} {x : Option α} {f : γ → Option α} (h1 : o = none → Wp x Q) (h2 : ∀ y, o = some y → Wp (f y) Q) : Wp (o.elim x f) Q := by
  cases o with
  | none => exact h1 rfl
  | some y => exact h2 y rfl

theorem Wp.sum {α β γ : Type} {Q : γ → Prop} {s : α ⊕ β} {f : α → Option γ} {g : β → Option γ} (h1 : ∀ a, s = .inl a → Wp (f a) Q) (h2 : ∀ b, s = .inr b → Wp (g b) Q) :
    Wp (match s with | .inl a => f a | .inr b => g b) Q := by
  cases s with
  | inl a => exact h1 a rfl
  | inr b => exact h2 b rfl

/-! Lengths and appending -/
theorem len_set {γ : Type} {n : Nat} {l : List γ} (h : n = l.length) (i : Nat) (x : γ) : n = (l.set i x).length := by rw [List.length_set]; exact h
theorem len_rep {γ : Type} (n : Nat) (x : γ) : n = (List.replicate n x).length := by rw [List.length_replicate]
theorem tk_prf {γ : Type} {raw : List (List AV)} {f : γ → List AV} {l : List γ} (e : raw = l.map f) {n : Nat} (h : n = l.length) : (raw.drop 0).take n = l.map f := by
  rw [e, h, List.drop_zero, List.take_of_length_le (by simp)]
theorem app_full {γ : Type} {rx ry : List (List AV)} {f : γ → List AV} {xs ys : List γ} (ex : rx = xs.map f) {n : Nat} (h : n = xs.length) (ey : ry = ys.map f) : rx.take n ++ ry = (xs ++ ys).map f := by
  rw [ex, ey, h, List.take_of_length_le (by simp), List.map_append]
theorem app_part {γ : Type} {rx ry : List (List AV)} {f : γ → List AV} {xs ys : List γ} (ex : rx = xs.map f) (n : Nat) (ey : ry = ys.map f) : rx.take n ++ ry = (xs.take n ++ ys).map f := by
  rw [ex, ey, List.map_append, List.map_take]
theorem fit_full {γ : Type} {raw : List (List AV)} {f : γ → List AV} {l : List γ} (e : raw = l.map f) {n : Nat} (h : n = l.length) : 0 + n ≤ raw.length := by rw [e, h]; simp
theorem le_full {γ : Type} {raw : List (List AV)} {f : γ → List AV} {l : List γ} (e : raw = l.map f) {n : Nat} (h : n = l.length) : n ≤ raw.length := by rw [e, h]; simp
theorem len_of {γ : Type} {raw : List (List AV)} {f : γ → List AV} {l : List γ} (e : raw = l.map f) : l.length = raw.length := by rw [e]; simp
theorem len_app {γ : Type} {ry : List (List AV)} {f : γ → List AV} {xs ys : List γ} {n : Nat} (h : n = xs.length) (ey : ry = ys.map f) : (xs ++ ys).length = n + ry.length := by rw [ey, h]; simp
theorem len_appp {γ : Type} {ry : List (List AV)} {f : γ → List AV} {xs ys : List γ} {n : Nat} (h : n ≤ xs.length) (ey : ry = ys.map f) : (xs.take n ++ ys).length = n + ry.length := by rw [ey]; simp; omega
theorem snap_full {γ : Type} {raw : List (List AV)} {f : γ → List AV} {l : List γ} (e : raw = l.map f) {n : Nat} (h : n = l.length) : l.map f = (raw.drop 0).take n := (tk_prf e h).symm
theorem pure_live {γ : Type} {f : γ → List AV} (hf : ∀ x, ∀ v ∈ f x, Pure v) {sz : Nat} (l : List γ) : PureLive [Ob.mk sz (l.map f) .live] := by
  intro o ho
  rw [List.mem_singleton] at ho
  subst ho
  exact ⟨pure_map hf l, rfl⟩
theorem pure_live_nil : PureLive [] := by intro o ho; simp at ho
theorem set_prf2 {γ : Type} {raw : List (List AV)} {f : γ → List AV} {l : List γ} (e : raw = l.map f) (i : Nat) {c : List AV} (x : γ) (hc : c = f x) : raw.set i c = (l.set i x).map f := by
  rw [e, hc, List.map_set]

/-- A slice of which nothing is known but that it is empty. -/
theorem Con.isl0 {P : Program} {f : FuncId} {sz : Nat} {T : List (List Ob)} {r : AV} {T' : List (List Ob)} (h1 : Con P f [.nils] T r T') (h2 : Con P f [.esl] T r T') : Con P f [.isl sz []] T r T' := by
  refine ⟨h1.1, ?_⟩
  intro g φ w vs hw hm hu0 htb hM hsz hargs
  have h0 : 0 < vs.size := by rw [hsz]; simp
  have hv := hargs 0 (.isl sz []) vs[0] rfl (Array.getElem?_eq_getElem h0)
  have key : ∀ y : AV, Rel w ((rowsS T).ok g φ w) (rowsS T).us ((rowsS T).tb φ) y vs[0] → ∀ (j : Nat) x v, [y][j]? = some x → vs[j]? = some v → Rel w ((rowsS T).ok g φ w) (rowsS T).us ((rowsS T).tb φ) x v := by
    intro y hy j x v hx hv
    match j, hx, hv with
    | 0, hx, hv =>
      obtain rfl := Option.some.inj hx
      rw [Array.getElem?_eq_getElem h0] at hv
      obtain rfl := Option.some.inj hv
      exact hy
    | j + 1, hx, hv => simp at hx
  rcases hv.isl_inv with ⟨-, a, c, he, ha⟩ | ⟨blk, off, c, -, he, -⟩
  · cases a with
    | none =>
      have := ha rfl
      subst this
      exact h1.2 g φ w vs hw hm hu0 htb hM hsz (key .nils (by rw [he]; exact .nils))
    | some a => exact h2.2 g φ w vs hw hm hu0 htb hM hsz (key .esl (by rw [he]; exact .esl a c))
  · exact h2.2 g φ w vs hw hm hu0 htb hM hsz (key .esl (by rw [he]; exact .esl _ c))
end
end Go.VL
