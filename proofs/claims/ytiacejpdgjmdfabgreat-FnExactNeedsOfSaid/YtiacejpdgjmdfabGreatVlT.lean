/- Small helps for printed proofs. -/
import Derived.Test.YtiacejpdgjmdfabGreatVlS
namespace Go.VL
set_option linter.unusedVariables false
set_option linter.unusedSimpArgs false
open Go

/-- What an answer, if there is one, must be like. -/
def Wp {α : Type} (o : Option α) (Q : α → Prop) : Prop := ∀ r, o = some r → Q r

section
variable {α β : Type} {Q : α → Prop}
theorem Wp.ite {b : Bool} {x y : Option α} (h1 : b = true → Wp x Q) (h2 : b = false → Wp y Q) : Wp (if b = true then x else y) Q := by
  cases b
  · exact h2 rfl
  · exact h1 rfl
theorem Wp.bnd {o : Option β} {f : β → Option α} (h : ∀ x, o = some x → Wp (f x) Q) : Wp (o >>= f) Q := by
  cases o with
  | none => intro r hr; simp at hr
  | some x => exact h x rfl
theorem Wp.grd {p : Prop} [Decidable p] {x : Option α} (h : p → Wp x Q) : Wp (if p then x else none) Q := by
  by_cases hp : p
  · rw [if_pos hp]; exact h hp
  · rw [if_neg hp]; intro r hr; simp at hr
theorem Wp.ret {r : α} (h : Q r) : Wp (some r) Q := by
  intro x hx; obtain rfl := Option.some.inj hx; exact h
end

theorem Wp.nix {α : Type} {Q : α → Prop} : Wp (none : Option α) Q := by intro r hr; simp at hr

/-- A place in a piece of code. -/
def nodeAt : Code → List Nat → Code
  | c, [] => c
  | .seq x _, 0 :: l => nodeAt x l
  | .seq _ y, 1 :: l => nodeAt y l
  | .cond _ x _, 0 :: l => nodeAt x l
  | .cond _ _ y, 1 :: l => nodeAt y l
  | .block _ x, 0 :: l => nodeAt x l
  | .loop x, 0 :: l => nodeAt x l
  | .scope x, 0 :: l => nodeAt x l
  | _, _ => .skip

def bodyOf (P : Program) (f : FuncId) : Code :=
  match P.funcs[f]? with
  | some fn => match fn.body with
    | some c => c
    | none => .skip
  | none => .skip

theorem map_get {α β : Type} {f : α → β} {l : List α} {i : Nat} {x : α} (h : l[i]? = some x) : (l.map f)[i]? = some (f x) := by
  rw [List.getElem?_map, h]; rfl

theorem lt_mapI {α β : Type} {f : α → β} {l : List α} {j : Int} (h : j < l.length) : j < ((l.map f).length : Nat) := by
  rw [List.length_map]; exact h

theorem lt_map {α β : Type} {f : α → β} {l : List α} {j : Nat} (h : j < l.length) : j < (l.map f).length := by
  rw [List.length_map]; exact h

end Go.VL
