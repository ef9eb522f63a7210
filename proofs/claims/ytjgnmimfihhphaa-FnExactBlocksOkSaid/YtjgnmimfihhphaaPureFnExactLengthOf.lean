/- The program's LengthOf and the reference's say the same, in plain functions. No condition. -/
import Derived.Test.YtjgnmimfihhphaaPureFnExactLimitsOk
import Derived.Test.YtjgnmimfihhphaaVFnExactLengthOfA
namespace Go.Proofs.Ytjgnmimfihhphaa
open Go Go.VL

/-! ### What a structure that is in order has -/

theorem jointOk_bounds (j : TJoint) (h : spec_JointOk j = some true) : -50 ≤ j.fX ∧ j.fX ≤ 50 ∧ -50 ≤ j.fY ∧ j.fY ≤ 50 := by
  unfold spec_JointOk at h
  cases hn : spec_IsName j.fName with
  | none => simp [hn] at h
  | some r =>
    simp only [hn, l01In_eq, Option.bind_eq_bind, Option.bind_some] at h
    cases r with
    | false => simp at h
    | true =>
      by_cases a : -50 ≤ j.fX ∧ j.fX ≤ 50
      · by_cases b : -50 ≤ j.fY ∧ j.fY ≤ 50
        · omega
        · simp [a, b] at h
      · simp [a] at h

theorem joints_ok (s : TStructure) (i0 : ITStructure s) (h : spec_StructureOk_L1 s.fJoints (len_ eTJoint s.fJoints) s.fMembers 0 = some (.inl ())) : ∀ (n : Nat) j, s.fJoints[n]? = some j → spec_JointOk j = some true := by
  have hm := maxLen_eq
  obtain ⟨⟨a1, a2⟩, -⟩ := i0
  obtain ⟨r, h1, h2⟩ := iter_inv (f := fun w => spec_StructureOk_L1_body s.fJoints (len_ eTJoint s.fJoints) s.fMembers w) (fun i => 0 ≤ i ∧ i ≤ s.fJoints.length ∧ ∀ (n : Nat) j, (n : Int) < i → s.fJoints[n]? = some j → spec_JointOk j = some true) (fun i => (s.fJoints.length - i).toNat)
    (fun r => r = .inl () → ∀ (n : Nat) j, s.fJoints[n]? = some j → spec_JointOk j = some true) (fun i hi => by
    obtain ⟨h0, h1, h3⟩ := hi
    by_cases h2 : i < (s.fJoints.length : Int)
    · have hw : w64 (i + 1) = i + 1 := w64_eq (by omega) (by omega)
      obtain ⟨x, hx⟩ : ∃ x, s.fJoints[i.toNat]? = some x := ⟨_, List.getElem?_eq_getElem (by omega)⟩
      obtain ⟨p, hp⟩ := jointOk_some x (a2 x (List.mem_of_getElem? hx)).1
      obtain ⟨q, hq⟩ := jointNamed_some ⟨s.fJoints, s.fMembers⟩ x.fName a1
      unfold spec_StructureOk_L1_body
      simp only [len_eq, h2, h0, hw, hx, hp, hq, decide_true, if_true, and_self, Option.bind_eq_bind, Option.bind_some]
      by_cases e : p = true
      · rw [if_pos e]
        by_cases e2 : (q != i) = true
        · exact .inr ⟨_, by rw [if_pos e2], by simp⟩
        · refine .inl ⟨i + 1, by rw [if_neg e2], ⟨by omega, by omega, fun n j hn hj => ?_⟩, by omega⟩
          by_cases c : (n : Int) < i
          · exact h3 n j c hj
          · have : n = i.toNat := by omega
            subst this
            rw [hx] at hj
            obtain rfl := Option.some.inj hj
            rw [hp, e]
      · exact .inr ⟨_, by rw [if_neg e], by simp⟩
    · refine .inr ⟨.inl (), by simp [spec_StructureOk_L1_body, len_eq, h2], fun _ n j hj => h3 n j (by have := lt_of_get hj; omega) hj⟩) 0 ⟨by omega, by omega, fun n j hn => by omega⟩
  have h1' : spec_StructureOk_L1 s.fJoints (len_ eTJoint s.fJoints) s.fMembers 0 = some r := h1
  rw [h] at h1'
  exact h2 (Option.some.inj h1').symm

theorem members_ok (js : List TJoint) (ms : List TMember) (hms : ms.length ≤ 8) (h : slices_IndexFunc'_L1 ms js ms (len_ eTMember ms) 0 = some (.inl ())) : ∀ (n : Nat) m, ms[n]? = some m → memberB js m = true := by
  obtain ⟨r, h1, h2⟩ := iter_inv (f := fun w => slices_IndexFunc'_L1_body ms js ms (len_ eTMember ms) w) (fun i => 0 ≤ i ∧ i ≤ ms.length ∧ ∀ (n : Nat) m, (n : Int) < i → ms[n]? = some m → memberB js m = true) (fun i => (ms.length - i).toNat)
    (fun r => r = .inl () → ∀ (n : Nat) m, ms[n]? = some m → memberB js m = true) (fun i hi => by
    obtain ⟨h0, h1, h3⟩ := hi
    by_cases h2 : i < (ms.length : Int)
    · have hw : w64 (i + 1) = i + 1 := w64_eq (by omega) (by omega)
      obtain ⟨x, hx⟩ : ∃ x, ms[i.toNat]? = some x := ⟨_, List.getElem?_eq_getElem (by omega)⟩
      unfold slices_IndexFunc'_L1_body impl_StructureOk_1
      simp only [len_eq, h2, h0, hw, hx, memberOk_eq, decide_true, if_true, and_self, Option.bind_eq_bind, Option.bind_some]
      by_cases e : (!memberB js x) = true
      · exact .inr ⟨_, by rw [if_pos e], by simp⟩
      · refine .inl ⟨i + 1, by rw [if_neg e], ⟨by omega, by omega, fun n j hn hj => ?_⟩, by omega⟩
        by_cases c : (n : Int) < i
        · exact h3 n j c hj
        · have : n = i.toNat := by omega
          subst this
          rw [hx] at hj
          obtain rfl := Option.some.inj hj
          simpa using e
    · refine .inr ⟨.inl (), by simp [slices_IndexFunc'_L1_body, len_eq, h2], fun _ n j hj => h3 n j (by have := lt_of_get hj; omega) hj⟩) 0 ⟨by omega, by omega, fun n j hn => by omega⟩
  have h1' : slices_IndexFunc'_L1 ms js ms (len_ eTMember ms) 0 = some r := h1
  rw [h] at h1'
  exact h2 (Option.some.inj h1').symm

/-! ### Roots -/

theorem sq_lt {j k : Int} (h0 : 0 ≤ j) (h : j < k) : j * j < k * k := Int.mul_self_lt_mul_self h0 h

theorem sq_le {j k : Int} (h0 : 0 ≤ j) (h : j ≤ k) : j * j ≤ k * k := Int.mul_self_le_mul_self h0 h

theorem small_of_sq {k N : Int} (h0 : 0 ≤ k) (hN : N ≤ 20000) (h : k * k ≤ N) : k ≤ 141 := by
  rcases Int.lt_or_le 141 k with h1 | h1
  · have := sq_le (j := 142) (k := k) (by omega) (by omega)
    omega
  · exact h1

theorem root_spec (N : Int) (hN : N ≤ 20000) : ∃ r, spec_l24Root_L1 N 1 = some r ∧ (match r with | .inl _ => ∀ k, 1 ≤ k → k * k ≠ N | .inr k => 1 ≤ k ∧ k * k = N) := by
  exact iter_inv (f := fun w => spec_l24Root_L1_body N w) (fun k => 1 ≤ k ∧ k ≤ 142 ∧ ∀ j, 1 ≤ j → j < k → j * j < N) (fun k => (142 - k).toNat)
    (fun r => match r with | .inl _ => ∀ k, 1 ≤ k → k * k ≠ N | .inr k => 1 ≤ k ∧ k * k = N) (fun k hk => by
    obtain ⟨h1, h2, h3⟩ := hk
    have hkk : k * k ≤ 142 * 142 := sq_le (by omega) h2
    have hk0 : 0 ≤ k * k := Int.mul_nonneg (by omega) (by omega)
    have hw : w64 (k * k) = k * k := w64_eq (by omega) (by omega)
    have hw1 : w64 (k + 1) = k + 1 := w64_eq (by omega) (by omega)
    unfold spec_l24Root_L1_body
    rw [hw, hw1]
    by_cases a : k * k ≤ N
    · have := small_of_sq (by omega) hN a
      by_cases b : k * k = N
      · exact .inr ⟨.inr k, by simp [b], h1, b⟩
      · refine .inl ⟨k + 1, by simp [a, b], ⟨by omega, by omega, fun j j1 j2 => ?_⟩, by omega⟩
        rcases Int.lt_or_le j k with c | c
        · exact h3 j j1 c
        · have : j = k := by omega
          subst this; omega
    · refine .inr ⟨.inl (), by simp [a], fun j j1 => ?_⟩
      rcases Int.lt_or_le j k with c | c
      · have := h3 j j1 c; omega
      · have := sq_le (j := k) (k := j) (by omega) c; omega) 1 ⟨by omega, by omega, fun j j1 j2 => by omega⟩

theorem root_impl (x y : Int) (hx : -100 ≤ x ∧ x ≤ 100) (hy : -100 ≤ y ∧ y ≤ 100) : ∃ n, impl_Structure_length_L1 x y 0 = some n ∧ (0 ≤ n ∧ n ≤ 142 ∧ x * x + y * y ≤ n * n ∧ ∀ j, 0 ≤ j → j < n → j * j < x * x + y * y) := by
  have sx : x * x ≤ 10000 ∧ 0 ≤ x * x := by
    rcases Int.le_total 0 x with h | h
    · have := sq_le h hx.2; exact ⟨by omega, Int.mul_nonneg h h⟩
    · have := sq_le (j := -x) (k := 100) (by omega) (by omega)
      rw [Int.neg_mul_neg] at this
      exact ⟨by omega, Int.mul_nonneg_of_nonpos_of_nonpos h h⟩
  have sy : y * y ≤ 10000 ∧ 0 ≤ y * y := by
    rcases Int.le_total 0 y with h | h
    · have := sq_le h hy.2; exact ⟨by omega, Int.mul_nonneg h h⟩
    · have := sq_le (j := -y) (k := 100) (by omega) (by omega)
      rw [Int.neg_mul_neg] at this
      exact ⟨by omega, Int.mul_nonneg_of_nonpos_of_nonpos h h⟩
  have e1 : w64 (x * x) = x * x := w64_eq (by omega) (by omega)
  have e2 : w64 (y * y) = y * y := w64_eq (by omega) (by omega)
  have e3 : w64 (x * x + y * y) = x * x + y * y := w64_eq (by omega) (by omega)
  exact iter_inv (f := fun w => impl_Structure_length_L1_body x y w) (fun n => 0 ≤ n ∧ n ≤ 142 ∧ ∀ j, 0 ≤ j → j < n → j * j < x * x + y * y) (fun n => (142 - n).toNat)
    (fun n => 0 ≤ n ∧ n ≤ 142 ∧ x * x + y * y ≤ n * n ∧ ∀ j, 0 ≤ j → j < n → j * j < x * x + y * y) (fun n hn => by
    obtain ⟨h1, h2, h3⟩ := hn
    have hnn : n * n ≤ 142 * 142 := sq_le h1 h2
    have hn0 : 0 ≤ n * n := Int.mul_nonneg h1 h1
    have hw : w64 (n * n) = n * n := w64_eq (by omega) (by omega)
    have hw1 : w64 (n + 1) = n + 1 := w64_eq (by omega) (by omega)
    unfold impl_Structure_length_L1_body
    rw [e1, e2, e3, hw, hw1]
    by_cases a : n * n < x * x + y * y
    · have := small_of_sq (N := 20000) h1 (by omega) (by omega)
      refine .inl ⟨n + 1, by simp [a], ⟨by omega, by omega, fun j j1 j2 => ?_⟩, by omega⟩
      rcases Int.lt_or_le j n with c | c
      · exact h3 j j1 c
      · have : j = n := by omega
        subst this; omega
    · exact .inr ⟨n, by simp [a], h1, h2, by omega, h3⟩) 0 ⟨by omega, by omega, fun j j1 j2 => by omega⟩

/-! ### Lengths -/

theorem structureOk_facts (s : TStructure) (i0 : ITStructure s) (h : spec_StructureOk s = some true) :
    (∀ (n : Nat) j, s.fJoints[n]? = some j → spec_JointOk j = some true) ∧ (∀ (n : Nat) m, s.fMembers[n]? = some m → memberB s.fJoints m = true) ∧ s.fJoints.length ≤ 6 ∧ s.fMembers.length ≤ 8 := by
  obtain ⟨p, p1, p2⟩ := structureOk_both s i0
  rw [h] at p1
  obtain rfl := Option.some.inj p1
  unfold impl_StructureOk at p2
  by_cases h1 : 6 < (s.fJoints.length : Int)
  · simp [len_eq, h1] at p2
  by_cases h2 : 8 < (s.fMembers.length : Int)
  · simp [len_eq, h1, h2] at p2
  obtain ⟨r, hr⟩ := structure_L1_some s i0
  rw [structure_L1_eq, hr] at p2
  obtain ⟨q, hq, hq0⟩ := index_members_some s.fJoints s.fMembers (by omega)
  have d1 : decide ((6 : Int) < len_ eTJoint s.fJoints) = false := by rw [len_eq]; exact decide_eq_false h1
  have d2 : decide ((8 : Int) < len_ eTMember s.fMembers) = false := by rw [len_eq]; exact decide_eq_false h2
  rw [d1, d2] at p2
  simp only [slices_ContainsFunc, slices_IndexFunc', hq, Bool.false_eq_true, if_false, Option.bind_eq_bind, Option.bind_some] at p2
  cases r with
  | inr a => simp at p2
  | inl a =>
    cases q with
    | inr k =>
      have := hq0 k rfl
      simp [this] at p2
    | inl b => exact ⟨joints_ok s i0 hr, members_ok s.fJoints s.fMembers (by omega) hq, by omega, by omega⟩

/-- The vector along a member. -/
theorem vector_at (s : TStructure) (i0 : ITStructure s) (h : spec_StructureOk s = some true) (k : Int) (h0 : 0 ≤ k) (h1 : k < s.fMembers.length) :
    ∃ x y, impl_Structure_vector s k = some (x, y) ∧ spec_l12Vector s k = some (x, y) ∧ (-100 ≤ x ∧ x ≤ 100) ∧ (-100 ≤ y ∧ y ≤ 100) := by
  obtain ⟨f1, f2, f3, f4⟩ := structureOk_facts s i0 h
  obtain ⟨m, hm⟩ : ∃ x, s.fMembers[k.toNat]? = some x := ⟨_, List.getElem?_eq_getElem (by omega)⟩
  have hmb := f2 _ m hm
  unfold memberB at hmb
  simp only [Bool.and_eq_true, decide_eq_true_eq] at hmb
  obtain ⟨⟨g1, g2, g3, g4, -⟩, -⟩ := hmb
  obtain ⟨a, ha⟩ : ∃ x, s.fJoints[m.fA.toNat]? = some x := ⟨_, List.getElem?_eq_getElem (by omega)⟩
  obtain ⟨b, hb⟩ : ∃ x, s.fJoints[m.fB.toNat]? = some x := ⟨_, List.getElem?_eq_getElem (by omega)⟩
  have ja := jointOk_bounds a (f1 _ a ha)
  have jb := jointOk_bounds b (f1 _ b hb)
  have e1 : w64 (b.fX - a.fX) = b.fX - a.fX := w64_eq (by omega) (by omega)
  have e2 : w64 (b.fY - a.fY) = b.fY - a.fY := w64_eq (by omega) (by omega)
  have c0 : 0 ≤ k ∧ k < s.fMembers.length := ⟨h0, h1⟩
  have c1 : 0 ≤ m.fA ∧ m.fA < s.fJoints.length := ⟨g1, g2⟩
  have c2 : 0 ≤ m.fB ∧ m.fB < s.fJoints.length := ⟨g3, g4⟩
  refine ⟨b.fX - a.fX, b.fY - a.fY, ?_, ?_, by omega, by omega⟩
  · unfold impl_Structure_vector
    simp only [if_pos c0, hm, if_pos c1, if_pos c2, ha, hb, Option.bind_eq_bind, Option.bind_some, e1, e2]
  · unfold spec_l12Vector
    simp only [if_pos c0, hm, if_pos c1, if_pos c2, ha, hb, Option.bind_eq_bind, Option.bind_some, e1, e2]

theorem sq_bound {x : Int} (hx : -100 ≤ x ∧ x ≤ 100) : x * x ≤ 10000 ∧ 0 ≤ x * x := by
  rcases Int.le_total 0 x with h | h
  · have := sq_le h hx.2; exact ⟨by omega, Int.mul_nonneg h h⟩
  · have := sq_le (j := -x) (k := 100) (by omega) (by omega)
    rw [Int.neg_mul_neg] at this
    exact ⟨by omega, Int.mul_nonneg_of_nonpos_of_nonpos h h⟩

theorem lengthOf_both (s : TStructure) (i0 : ITStructure s) (k : Int) (ik : In64 k) : ∃ r, spec_LengthOf s k = some r ∧ impl_LengthOf s k = some r := by
  have hm := maxLen_eq
  have i0' := i0
  obtain ⟨-, b1, -⟩ := i0'
  obtain ⟨p, p1, p2⟩ := structureOk_both s i0
  have hroot0 : spec_l24Root 0 = some 0 := by
    obtain ⟨r, r1, r2⟩ := root_spec 0 (by omega)
    unfold spec_l24Root
    rw [r1]
    cases r with
    | inl a => rfl
    | inr a =>
      obtain ⟨c1, c2⟩ := r2
      have := Int.mul_pos (a := a) (b := a) (by omega) (by omega)
      omega
  have hz : w64 (w64 0 + w64 0) = 0 := by decide
  unfold spec_LengthOf spec_SquareOf spec_VectorOf impl_LengthOf impl_hasMember
  simp only [p1, p2, l01In_eq, Option.bind_eq_bind, Option.bind_some, len_eq]
  have hw : w64 ((s.fMembers.length : Nat) - 1) = (s.fMembers.length : Nat) - 1 := w64_eq (by omega) (by omega)
  rw [hw]
  cases p with
  | false =>
    refine ⟨0, by simp [hz, hroot0], ?_⟩
    by_cases c1 : 0 ≤ k <;> by_cases c2 : k < s.fMembers.length <;> simp [c1, c2]
  | true =>
    by_cases c : 0 ≤ k ∧ k < s.fMembers.length
    · obtain ⟨x, y, v1, v2, hx, hy⟩ := vector_at s i0 p1 k c.1 c.2
      have sx := sq_bound hx
      have sy := sq_bound hy
      have e1 : w64 (x * x) = x * x := w64_eq (by omega) (by omega)
      have e2 : w64 (y * y) = y * y := w64_eq (by omega) (by omega)
      have e3 : w64 (x * x + y * y) = x * x + y * y := w64_eq (by omega) (by omega)
      obtain ⟨r, r1, r2⟩ := root_spec (x * x + y * y) (by omega)
      obtain ⟨n, n1, n2, n3, n4, n5⟩ := root_impl x y hx hy
      have hnn : n * n ≤ 142 * 142 := sq_le n2 n3
      have hn0 : 0 ≤ n * n := Int.mul_nonneg n2 n2
      have e4 : w64 (n * n) = n * n := w64_eq (by omega) (by omega)
      have c3 : 0 ≤ k ∧ k ≤ (s.fMembers.length : Int) - 1 := by omega
      refine ⟨if n * n = x * x + y * y then n else 0, ?_, ?_⟩
      · simp only [decide_eq_true c3, if_true, v2, Option.bind_some, e1, e2, e3, spec_l24Root, r1]
        by_cases e : n * n = x * x + y * y
        · rw [if_pos e]
          cases r with
          | inl a =>
            rcases Int.lt_or_le 0 n with q | q
            · exact absurd e (r2 n (by omega))
            · have : n = 0 := by omega
              subst this; rfl
          | inr a =>
            obtain ⟨a1, a2⟩ := r2
            have : a = n := by
              rcases Int.lt_trichotomy a n with q | q | q
              · have := n5 a (by omega) q; omega
              · exact q
              · have := sq_lt (j := n) (k := a) n2 q; omega
            subst this; rfl
        · rw [if_neg e]
          cases r with
          | inl a => rfl
          | inr a =>
            exfalso
            obtain ⟨a1, a2⟩ := r2
            rcases Int.lt_trichotomy a n with q | q | q
            · have := n5 a (by omega) q; omega
            · subst q; exact e a2
            · have := sq_lt (j := n) (k := a) n2 q; omega
      · simp only [decide_eq_true c.1, decide_eq_true c.2, if_true, Option.bind_some, impl_Structure_length, v1, n1, e1, e2, e3, e4]
        by_cases e : n * n = x * x + y * y
        · rw [if_pos e]; simp [n1, e1, e2, e3, e]
        · rw [if_neg e]; simp [n1, e1, e2, e3, e4, e]
    · have c3 : ¬ (0 ≤ k ∧ k ≤ (s.fMembers.length : Int) - 1) := by omega
      refine ⟨0, by simp [hz, hroot0, c3], ?_⟩
      by_cases c1 : 0 ≤ k
      · have c2 : ¬ k < s.fMembers.length := fun h => c ⟨c1, h⟩
        simp [c1, c2]
      · simp [c1]

theorem laws_FnExactLengthOf_true (x0 : TStructure) (x1 : Int) (i0 : ITStructure x0) (i1 : In64 x1) : laws_FnExactLengthOf x0 x1 = some true := by
  unfold laws_FnExactLengthOf
  obtain ⟨r, r1, r2⟩ := szStructure_some x0 i0 1048576 (by omega) (by omega)
  rw [r1]
  simp only [Option.bind_eq_bind, Option.bind_some]
  by_cases h2 : r < 0
  · simp [h2]
  · obtain ⟨a1, a2⟩ := r2 (by omega)
    obtain ⟨q, q1, q2⟩ := lengthOf_both x0 i0 x1 i1
    simp [h2, toStructure_eq x0 a1 a2, q1, q2, eqStructure_self x0 a1 a2]

end Go.Proofs.Ytjgnmimfihhphaa
