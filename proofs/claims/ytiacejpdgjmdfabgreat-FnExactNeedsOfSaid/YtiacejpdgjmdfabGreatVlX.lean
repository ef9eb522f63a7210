/- Helps for data of a call's own that hold slices of their own: handles into a row, how they are read as values and under other names. -/
import Derived.Test.YtiacejpdgjmdfabGreatVlV
namespace Go.VL
set_option linter.unusedVariables false
set_option linter.unusedSimpArgs false
open Go

abbrev GN : Ob := ⟨0, [], .gone⟩
/-- A handle: none for an empty slice; place in the row and length. -/
abbrev HO := Option (Nat × Nat)

/-- The cell of a handle into row `rp`, from object `c` on. -/
abbrev aH (rp c sz : Nat) (h : HO) : AV := .hsl rp c sz h
def eH (rp c sz : Nat) (h : HO) : List AV := [aH rp c sz h]

theorem aH_none {rp c sz : Nat} {h : HO} (e : h = none) : ReOk (aH rp c sz h) (.isl sz []) := by rw [e]; exact .n1 _ _ _
theorem aH_some {rp c sz : Nat} {h : HO} {p : Nat × Nat} (e : h = some p) : ReOk (aH rp c sz h) (.osl rp (p.1 + c) 0 p.2) := by rw [e]; exact .s1 _ _ _ _ _
theorem re_eq {x v : AV} (e : x = v) : ReOk x v := e ▸ .refl x
def ReL : List AV → List AV → Prop
  | [], [] => True
  | a :: l, b :: m => ReOk a b ∧ ReL l m
  | _, _ => False
theorem ReL.at_ : ∀ {l m : List AV}, ReL l m → m.length = l.length ∧ ∀ (j : Nat) x x', l[j]? = some x → m[j]? = some x' → ReOk x x'
  | [], [], _ => ⟨rfl, fun j x x' h => by simp at h⟩
  | a :: l, b :: m, h => ⟨by simp [(ReL.at_ h.2).1], fun j x x' hx hx' => by
      cases j with
      | zero => simp at hx hx'; subst hx; subst hx'; exact h.1
      | succ j => exact (ReL.at_ h.2).2 j x x' (by simpa using hx) (by simpa using hx')⟩
  | [], _ :: _, h => h.elim
  | _ :: _, [], h => h.elim
theorem re_agg {l m : List AV} (h : ReL l m) : ReOk (.agg l) (.agg m) := .agg h.at_.1 h.at_.2
theorem aH_rn {tgt : Nat → Option Nat} {rp rp' c sz : Nat} (ht : tgt rp = some rp') (h : HO) : rnV tgt (aH rp c sz h) = aH rp' c sz h := by simp only [aH, rnV, ht]
theorem aH_rx {mv : Mv} {rp rp' c c' sz : Nat} (hm : ∀ k, mv rp' (k + c') = some (rp, k + c)) (h : HO) : RxV mv (aH rp c sz h) (aH rp' c' sz h) := .inr (.inr (.inr ⟨rp, c, sz, h, rp', c', rfl, hm, rfl⟩))
theorem aH_sc (rp c sz : Nat) (h : HO) : Sc (aH rp c sz h) := .hsl _ _ _ _

/-- An object of a row of like objects. -/
def poolO {α : Type} (kd : Kd) (sz : Nat) (f : α → List AV) (l : List α) : Ob := ⟨sz, l.map f, kd⟩

section
variable {α : Type} {sz : Nat} {kd : Kd} {f : α → List AV} {P : List (List α)} {raw : List Ob}

theorem pl_at (e : raw = P.map (poolO kd sz f)) (hk : kd ≠ .gone) {k : Nat} {l : List α} (h : P[k]? = some l) : obIn (some raw) k = some (Ob.mk sz (l.map f) kd) := by
  rw [e, obIn_eq, List.getElem?_map, h]; exact if_neg hk
theorem kl : Kd.live ≠ .gone := by simp
theorem kf : Kd.frz ≠ .gone := by simp
theorem pl_frz (e : raw = P.map (poolO .live sz f)) : frzRow raw = P.map (poolO .frz sz f) := by rw [e]; unfold frzRow; rw [List.map_map]; rfl
theorem pl_std (P : List (List α)) : P.map (poolO kd sz f) = P.map (poolO kd sz f) := rfl
theorem pl_set (e : raw = P.map (poolO kd sz f)) (k : Nat) {l : List α} {es : List (List AV)} (hl : es = l.map f) : raw.set k (Ob.mk sz es kd) = (P.set k l).map (poolO kd sz f) := by
  rw [e, hl, List.map_set]; rfl
theorem pl_nil (kd : Kd) (sz : Nat) (f : α → List AV) : ([] : List Ob) = ([] : List (List α)).map (poolO kd sz f) := rfl
theorem pl_len (e : raw = P.map (poolO kd sz f)) {n : Nat} (h : n = P.length) : raw.length = n := by rw [e, h, List.length_map]

theorem shV_pure (a b n : Nat) : ∀ {x : AV}, Pure x → shV a b n x = x := by
  intro x h
  have hl : ∀ c : List AV, (∀ x ∈ c, shV a b n x = x) → shV.shL a b n c = c := by
    intro c hc
    rw [shL_eq]
    exact (List.map_congr_left hc).trans (List.map_id _)
  induction h with
  | agg h ih => rw [shV, hl _ ih]
  | tup h ih => rw [shV, hl _ ih]
  | _ => rfl

theorem shE_pure (hp : ∀ x, ∀ v ∈ f x, Pure v) (a b n : Nat) {es : List (List AV)} {l : List α} (e : es = l.map f) : es.map (fun e => e.map (shV a b n)) = l.map f := by
  rw [e, List.map_map]
  refine List.map_congr_left fun x _ => ?_
  exact (List.map_congr_left fun v hv => shV_pure a b n (hp x v hv)).trans (List.map_id _)

/-- Merged objects are objects of the row. -/
theorem pl_app (e : raw = P.map (poolO kd sz f)) {Q : List (List α)} {r2 : List Ob} (h : r2 = Q.map (poolO kd sz f)) : raw ++ r2 = (P ++ Q).map (poolO kd sz f) := by rw [e, h, List.map_append]
theorem pl_c1 (hp : ∀ x, ∀ v ∈ f x, Pure v) (a b n : Nat) {es : List (List AV)} {l : List α} (h : es = l.map f) {r2 : List Ob} {Q : List (List α)} (t : r2.map (shO a b n) = Q.map (poolO kd sz f)) :
    (Ob.mk sz es kd :: r2).map (shO a b n) = (l :: Q).map (poolO kd sz f) := by
  simp only [List.map_cons, t, shO, shE_pure hp a b n h]; rfl
theorem pl_c0 (a b n : Nat) : ([] : List Ob).map (shO a b n) = ([] : List (List α)).map (poolO kd sz f) := rfl

/-! ### Read as values -/

/-- What a handle's slice holds. -/
def vwH (P : List (List α)) : HO → List α
  | none => []
  | some (k, n) => (P.getD k []).take n
/-- Is a handle one into this row? -/
def inH (P : List (List α)) : HO → Bool
  | none => true
  | some (k, n) => decide (k < P.length) && decide (n ≤ (P.getD k []).length)

/-- Cells read as values, one by one. -/
def DVL (rp : Nat) (prow : List Ob) (al : Kd → Bool) : List AV → List AV → Prop
  | [], [] => True
  | a :: l, b :: m => DVx rp prow al a b ∧ DVL rp prow al l m
  | _, _ => False

theorem dvl_len {rp : Nat} {prow : List Ob} {al : Kd → Bool} : ∀ {l m : List AV}, DVL rp prow al l m → m.length = l.length
  | [], [], _ => rfl
  | _ :: _, _ :: _, h => by simp [dvl_len h.2]
  | [], _ :: _, h => h.elim
  | _ :: _, [], h => h.elim
theorem dvl_at {rp : Nat} {prow : List Ob} {al : Kd → Bool} : ∀ {l m : List AV}, DVL rp prow al l m → ∀ (j : Nat) x x', l[j]? = some x → m[j]? = some x' → DVx rp prow al x x'
  | _ :: _, _ :: _, h, 0, x, x', h1, h2 => by simp at h1 h2; subst h1; subst h2; exact h.1
  | _ :: _, _ :: _, h, j + 1, x, x', h1, h2 => dvl_at h.2 j x x' (by simpa using h1) (by simpa using h2)
  | [], _, _, _, _, _, h1, _ => by simp at h1

theorem dvx_id {rp : Nat} {prow : List Ob} {al : Kd → Bool} {x : AV} (h : x.noref0 = true) : DVx rp prow al x x := .inl ⟨rfl, h⟩

theorem dvx_H {rp c : Nat} {heads : List Ob} {al : Kd → Bool} (e : raw = P.map (poolO kd sz f)) (hp : ∀ x, ∀ v ∈ f x, Pure v) (hc : heads.length = c) (hk : kd ≠ .gone) (ha : al kd = true) : ∀ {h : HO}, inH P h = true →
    DVx rp (heads ++ raw) al (aH rp c sz h) (.isl sz ((vwH P h).map f))
  | none, _ => .inr (.inl ⟨c, sz, rfl, rfl⟩)
  | some (k, n), hin => by
    simp only [inH, Bool.and_eq_true, decide_eq_true_eq] at hin
    obtain ⟨h1, h2⟩ := hin
    have hkk : P[k]? = some P[k] := List.getElem?_eq_getElem h1
    have hg : P.getD k [] = P[k] := by simp [List.getD, hkk]
    rw [hg] at h2
    refine .inr (.inr ⟨k + c, 0, n, Ob.mk sz (P[k].map f) kd, .inr ⟨c, sz, k, rfl, rfl, rfl⟩, ?_, ha, by simpa using h2, ?_, ?_⟩)
    · have := pl_at e hk hkk
      rw [obIn_eq] at this ⊢
      rw [List.getElem?_append_right (by omega), hc, show k + c - c = k by omega]
      exact this
    · intro e he x hx
      rw [List.drop_zero] at he
      have he := List.mem_of_mem_take he
      rw [List.mem_map] at he
      obtain ⟨y, -, rfl⟩ := he
      exact hp y x hx
    · simp only [vwH, hg, List.drop_zero, List.map_take]
end

/-- Elements read as values. -/
theorem dv_map {α β : Type} {f : α → List AV} {g : β → List AV} {v : α → β} {rp : Nat} {prow : List Ob} {al : Kd → Bool} {sz : Nat} {raw : List (List AV)} {xs : List α} (e : raw = xs.map f) (hg : ∀ y, (g y).length = sz)
    (h : ∀ x ∈ xs, DVL rp prow al (f x) (g (v x))) {n : Nat} (hn : n = xs.length) : DV rp prow al sz ((raw.drop 0).take n) ((xs.map v).map g) := by
  have e0 : (raw.drop 0).take n = xs.map f := by rw [List.drop_zero, hn, e, List.take_of_length_le (by simp)]
  rw [e0]
  have hf : ∀ x ∈ xs, (f x).length = sz := fun x hx => by rw [← dvl_len (h x hx), hg]
  refine ⟨by simp, fun e he => ?_, fun j x x' hx hx' => ?_⟩
  · rw [List.mem_map] at he; obtain ⟨y, -, rfl⟩ := he; exact hg y
  · rcases Nat.eq_zero_or_pos sz with h0 | hs
    · have : ∀ l : List α, (∀ x ∈ l, (f x).length = sz) → (l.map f).flatten = [] := by
        intro l hl
        induction l with
        | nil => rfl
        | cons a l ih =>
          have h1 := hl a (by simp)
          rw [h0] at h1
          rw [List.map_cons, List.flatten_cons, ih fun x hx => hl x (by simp [hx]), List.length_eq_zero_iff.1 h1]; rfl
      rw [this xs hf] at hx; simp at hx
    · rw [flatten_idx hs _ (by intro e he; rw [List.mem_map] at he; obtain ⟨y, hy, rfl⟩ := he; exact hf y hy)] at hx
      rw [flatten_idx hs _ (by intro e he; rw [List.mem_map] at he; obtain ⟨y, -, rfl⟩ := he; exact hg y)] at hx'
      rw [List.getElem?_map, List.getElem?_map] at hx'
      rw [List.getElem?_map] at hx
      cases hy : xs[j / sz]? with
      | none => rw [hy] at hx; simp at hx
      | some y =>
        rw [hy] at hx hx'
        simp only [Option.map_some, Option.bind_some] at hx hx'
        exact dvl_at (h y (List.mem_of_getElem? hy)) _ x x' hx hx'

theorem dv_pure {rp : Nat} {prow : List Ob} {al : Kd → Bool} {sz : Nat} {α : Type} {f : α → List AV} {raw : List (List AV)} {l : List α} (e : raw = l.map f) (hl : ∀ x, (f x).length = sz) (hn : ∀ x, ∀ v ∈ f x, v.noref0 = true) {lo n : Nat} (hfit : lo + n ≤ raw.length) :
    DV rp prow al sz ((raw.drop lo).take n) (((l.drop lo).take n).map f) := by
  have e1 : (raw.drop lo).take n = ((l.drop lo).take n).map f := by rw [e, List.map_take, List.map_drop]
  rw [e1]
  refine ⟨rfl, fun e he => ?_, fun j x x' hx hx' => ?_⟩
  · rw [List.mem_map] at he; obtain ⟨y, -, rfl⟩ := he; exact hl y
  · rw [hx] at hx'; simp at hx'; subst hx'
    obtain ⟨e, he, hxe⟩ := mem_flatten_at hx
    rw [List.mem_map] at he; obtain ⟨y, -, rfl⟩ := he
    exact .inl ⟨rfl, hn y x hxe⟩

/-! ### Rows under other names -/

section
variable {tgt : Nat → Option Nat}
theorem rn_nil : ([] : List Ob) = ([] : List Ob).map (rnO tgt) := rfl
theorem rn_cons {o o' : Ob} {l l' : List Ob} (h : o' = rnO tgt o) (t : l' = l.map (rnO tgt)) : o' :: l' = (o :: l).map (rnO tgt) := by rw [h, t]; rfl
theorem rn_es {α : Type} {sz : Nat} {kd : Kd} {f f' : α → List AV} {raw : List (List AV)} {xs : List α} (e : raw = xs.map f) (h : ∀ x, (f x).map (rnV tgt) = f' x) : Ob.mk sz (xs.map f') kd = rnO tgt (Ob.mk sz raw kd) := by
  simp only [rnO, e, List.map_map, Ob.mk.injEq, true_and, and_true]
  exact List.map_congr_left fun x _ => (h x).symm
theorem rn_pool {α : Type} {kd : Kd} {sz : Nat} {f : α → List AV} {raw : List Ob} {P : List (List α)} (e : raw = P.map (poolO kd sz f)) (h : ∀ x, (f x).map (rnV tgt) = f x) : P.map (poolO kd sz f) = raw.map (rnO tgt) := by
  rw [e, List.map_map]
  refine List.map_congr_left fun l _ => ?_
  exact rn_es rfl h
theorem aO_rn {α : Type} (sz : Nat) (f : α → List AV) (o : Option α) : rnV tgt (aO sz f o) = aO sz f o := by cases o <;> rfl

theorem live_nil : LiveR [] := fun o h => by simp at h
theorem live_cons {o : Ob} {l : List Ob} (h : o.kd = .live) (t : LiveR l) : LiveR (o :: l) := fun p hp => by
  rcases List.mem_cons.1 hp with e | e
  · rw [e]; exact .inl h
  · exact t p e
theorem live_gone {o : Ob} {l : List Ob} (h : o.kd = .gone) (t : LiveR l) : LiveR (o :: l) := fun p hp => by
  rcases List.mem_cons.1 hp with e | e
  · rw [e]; exact .inr h
  · exact t p e
theorem live_pool {α : Type} {sz : Nat} {f : α → List AV} {raw : List Ob} {P : List (List α)} (e : raw = P.map (poolO .live sz f)) : LiveR raw := fun o ho => by
  rw [e, List.mem_map] at ho; obtain ⟨l, -, rfl⟩ := ho; exact .inl rfl
end

/-! ### Rows under new places -/
section
variable {mv : Mv}
theorem rx_nil : RxR mv [] [] := ⟨rfl, fun k o o' h => by simp at h⟩
def RxO (mv : Mv) (o o' : Ob) : Prop := o'.sz = o.sz ∧ o'.kd = o.kd ∧ o'.es.length = o.es.length ∧ (∀ e ∈ o'.es, e.length = o.sz) ∧
    ∀ (j : Nat) x x', o.es.flatten[j]? = some x → o'.es.flatten[j]? = some x' → RxV mv x x'
theorem rx_cons {o o' : Ob} {l l' : List Ob} (h : RxO mv o o') (t : RxR mv l l') : RxR mv (o :: l) (o' :: l') := by
  refine ⟨by simp [t.1], fun k p p' hp hp' => ?_⟩
  cases k with
  | zero => simp at hp hp'; subst hp; subst hp'; exact h
  | succ k => exact t.2 k p p' (by simpa using hp) (by simpa using hp')
def RxL (mv : Mv) : List AV → List AV → Prop
  | [], [] => True
  | a :: l, b :: m => RxV mv a b ∧ RxL mv l m
  | _, _ => False
theorem rxl_len : ∀ {l m : List AV}, RxL mv l m → m.length = l.length
  | [], [], _ => rfl
  | _ :: _, _ :: _, h => by simp [rxl_len h.2]
  | [], _ :: _, h => h.elim
  | _ :: _, [], h => h.elim
theorem rxl_at : ∀ {l m : List AV}, RxL mv l m → ∀ (j : Nat) x x', l[j]? = some x → m[j]? = some x' → RxV mv x x'
  | _ :: _, _ :: _, h, 0, x, x', h1, h2 => by simp at h1 h2; subst h1; subst h2; exact h.1
  | _ :: _, _ :: _, h, j + 1, x, x', h1, h2 => rxl_at h.2 j x x' (by simpa using h1) (by simpa using h2)
  | [], _, _, _, _, _, h1, _ => by simp at h1
theorem rxv_id {x : AV} (h : x.noref0 = true) : RxV mv x x := .inl ⟨rfl, h⟩
theorem rx_es {α : Type} {sz : Nat} {kd : Kd} {f f' : α → List AV} {raw : List (List AV)} {xs : List α} (e : raw = xs.map f) (hl : ∀ x, (f' x).length = sz) (h : ∀ x, RxL mv (f x) (f' x)) : RxO mv (Ob.mk sz raw kd) (Ob.mk sz (xs.map f') kd) := by
  subst e
  refine ⟨rfl, rfl, by simp, fun e he => ?_, fun j x x' hx hx' => ?_⟩
  · simp only [List.mem_map] at he; obtain ⟨y, -, rfl⟩ := he; exact hl y
  · simp only at hx hx'
    rcases Nat.eq_zero_or_pos sz with h0 | hs
    · have : (xs.map f').flatten = [] := by
        induction xs with
        | nil => rfl
        | cons a l ih =>
          have h1 := hl a
          rw [h0] at h1
          have h2 : (l.map f').flatten = [] := by
            clear ih hx hx'
            induction l with
            | nil => rfl
            | cons b l ih =>
              have h1 := hl b
              rw [h0] at h1
              rw [List.map_cons, List.flatten_cons, ih, List.length_eq_zero_iff.1 h1]; rfl
          rw [List.map_cons, List.flatten_cons, h2, List.length_eq_zero_iff.1 h1]; rfl
      rw [this] at hx'; simp at hx'
    · have hlf : ∀ x, (f x).length = sz := fun x => by rw [← rxl_len (h x), hl]
      rw [flatten_idx hs _ (by intro e he; rw [List.mem_map] at he; obtain ⟨y, -, rfl⟩ := he; exact hlf y)] at hx
      rw [flatten_idx hs _ (by intro e he; rw [List.mem_map] at he; obtain ⟨y, -, rfl⟩ := he; exact hl y)] at hx'
      rw [List.getElem?_map] at hx hx'
      cases hy : xs[j / sz]? with
      | none => rw [hy] at hx; simp at hx
      | some y =>
        rw [hy] at hx hx'
        simp only [Option.map_some, Option.bind_some] at hx hx'
        exact rxl_at (h y) _ x x' hx hx'
theorem rxl_pure {l : List AV} (h : ∀ v ∈ l, v.noref0 = true) : RxL mv l l := by
  induction l with
  | nil => trivial
  | cons a l ih => exact ⟨.inl ⟨rfl, h a (by simp)⟩, ih fun v hv => h v (by simp [hv])⟩
theorem rx_pool {α : Type} {kd : Kd} {sz : Nat} {f : α → List AV} {raw : List Ob} {P : List (List α)} (e : raw = P.map (poolO kd sz f)) (hl : ∀ x, (f x).length = sz) (hn : ∀ x, ∀ v ∈ f x, v.noref0 = true) : RxR mv raw (P.map (poolO kd sz f)) := by
  subst e
  refine ⟨rfl, fun k o o' ho ho' => ?_⟩
  rw [ho] at ho'; simp at ho'; subst ho'
  rw [List.getElem?_map, Option.map_eq_some_iff] at ho
  obtain ⟨l, -, rfl⟩ := ho
  exact rx_es rfl hl fun x => rxl_pure (hn x)
end

/-! ### Values without memory -/
theorem scT_nil : ScT [] := fun row h => by simp at h
theorem scT_cons {row : List Ob} {T : List (List Ob)} (h : ∀ o ∈ row, ∀ e ∈ o.es, ∀ x ∈ e, Sc x) (t : ScT T) : ScT (row :: T) := fun r hr => by
  rcases List.mem_cons.1 hr with e | e
  · rw [e]; exact h
  · exact t r e
theorem scR_nil : ∀ o ∈ ([] : List Ob), ∀ e ∈ o.es, ∀ x ∈ e, Sc x := fun o h => by simp at h
theorem scR_cons {o : Ob} {row : List Ob} (h : ∀ e ∈ o.es, ∀ x ∈ e, Sc x) (t : ∀ o ∈ row, ∀ e ∈ o.es, ∀ x ∈ e, Sc x) : ∀ p ∈ o :: row, ∀ e ∈ p.es, ∀ x ∈ e, Sc x := fun p hp => by
  rcases List.mem_cons.1 hp with e | e
  · rw [e]; exact h
  · exact t p e
theorem scO_es {α : Type} {sz : Nat} {kd : Kd} {f : α → List AV} {xs : List α} (h : ∀ x, ∀ v ∈ f x, Sc v) : ∀ e ∈ (Ob.mk sz (xs.map f) kd).es, ∀ x ∈ e, Sc x := fun e he x hx => by
  simp only [List.mem_map] at he; obtain ⟨y, -, rfl⟩ := he; exact h y x hx
theorem scR_pool {α : Type} {kd : Kd} {sz : Nat} {f : α → List AV} {P : List (List α)} (h : ∀ x, ∀ v ∈ f x, Sc v) : ∀ o ∈ P.map (poolO kd sz f), ∀ e ∈ o.es, ∀ x ∈ e, Sc x := fun o ho => by
  rw [List.mem_map] at ho; obtain ⟨l, -, rfl⟩ := ho; exact scO_es h
theorem eI_sc : ∀ x, ∀ v ∈ eI x, Sc v := fun x v h => by simp [eI] at h; subst h; exact .n _ _
theorem eB_sc : ∀ x, ∀ v ∈ eB x, Sc v := fun x v h => by simp [eB] at h; subst h; exact .b _
theorem eS_sc : ∀ x, ∀ v ∈ eS x, Sc v := fun x v h => by simp [eS] at h; subst h; exact .s _
theorem eI_nr : ∀ x, ∀ v ∈ eI x, v.noref0 = true := fun x v h => by simp [eI] at h; subst h; rfl
theorem eB_nr : ∀ x, ∀ v ∈ eB x, v.noref0 = true := fun x v h => by simp [eB] at h; subst h; rfl
theorem eS_nr : ∀ x, ∀ v ∈ eS x, v.noref0 = true := fun x v h => by simp [eS] at h; subst h; rfl

theorem sc_tupL {l : List AV} (h : ∀ x ∈ l, Sc x) : Sc (.tup l) := .tup h
theorem scl_nil : ∀ x ∈ ([] : List AV), Sc x := fun x h => by simp at h
theorem scl_cons {a : AV} {l : List AV} (h : Sc a) (t : ∀ x ∈ l, Sc x) : ∀ x ∈ a :: l, Sc x := fun x hx => by
  rcases List.mem_cons.1 hx with e | e
  · rw [e]; exact h
  · exact t x e
theorem eH_rn {tgt : Nat → Option Nat} {rp rp' c sz : Nat} (ht : tgt rp = some rp') (h : HO) : (eH rp c sz h).map (rnV tgt) = eH rp' c sz h := by simp only [eH, List.map_cons, List.map_nil, aH_rn ht]
theorem eH_rx {mv : Mv} {rp rp' c c' sz : Nat} (hm : ∀ k, mv rp' (k + c') = some (rp, k + c)) (h : HO) : RxL mv (eH rp c sz h) (eH rp' c' sz h) := ⟨aH_rx hm h, trivial⟩
theorem eH_sc (rp c sz : Nat) : ∀ x, ∀ v ∈ eH rp c sz x, Sc v := fun x v h => by simp [eH] at h; subst h; exact aH_sc _ _ _ x
theorem dvH {α : Type} {sz : Nat} {kd : Kd} {f : α → List AV} {P : List (List α)} {raw : List Ob} {rp c : Nat} {heads : List Ob} {al : Kd → Bool} (e : raw = P.map (poolO kd sz f)) (hp : ∀ x, ∀ v ∈ f x, Pure v) (hc : heads.length = c) (hk : kd ≠ .gone) (ha : al kd = true)
    {h : HO} (hi : inH P h = true) : DVL rp (heads ++ raw) al (eH rp c sz h) (eL sz f (vwH P h)) := ⟨dvx_H e hp hc hk ha hi, trivial⟩
theorem all_in {α : Type} {p : α → Bool} {l : List α} (h : l.all p = true) : ∀ x ∈ l, p x = true := List.all_eq_true.1 h
theorem eL_nr {γ : Type} {sz : Nat} {f : γ → List AV} : ∀ l, ∀ v ∈ eL sz f l, v.noref0 = true := fun l v h => by simp [eL] at h; subst h; rfl
theorem eO_nr {γ : Type} {sz : Nat} {f : γ → List AV} : ∀ l, ∀ v ∈ eO sz f l, v.noref0 = true := fun l v h => by simp [eO] at h; subst h; rfl
theorem nr_rn {α : Type} {f : α → List AV} (h : ∀ x, ∀ v ∈ f x, v.noref0 = true) {tgt : Nat → Option Nat} (x : α) : (f x).map (rnV tgt) = f x := by
  refine (List.map_congr_left fun v hv => ?_).trans (List.map_id _)
  have := h x v hv
  cases v <;> simp [AV.noref0] at this <;> simp [rnV, AV.noref0]
theorem eU8_nr : ∀ x, ∀ v ∈ eU8 x, v.noref0 = true := fun x v h => by simp [eU8] at h; subst h; rfl
end Go.VL
