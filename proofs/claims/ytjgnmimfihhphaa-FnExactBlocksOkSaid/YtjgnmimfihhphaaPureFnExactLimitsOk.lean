/- The program's LimitsOk and the reference's say the same, in plain functions. No condition. -/
import Derived.Test.YtjgnmimfihhphaaPureStructure
namespace Go.Proofs.Ytjgnmimfihhphaa
open Go Go.VL

theorem structure_L1_eq (s : TStructure) : impl_StructureOk_L1 s.fJoints (len_ eTJoint s.fJoints) s.fMembers 0 = spec_StructureOk_L1 s.fJoints (len_ eTJoint s.fJoints) s.fMembers 0 := by
  unfold impl_StructureOk_L1 spec_StructureOk_L1
  congr 1
  funext w
  unfold impl_StructureOk_L1_body spec_StructureOk_L1_body
  simp only [jointOk_eq, jointNamed_eq]

theorem structure_L1_some (s : TStructure) (i0 : ITStructure s) : ∃ r, spec_StructureOk_L1 s.fJoints (len_ eTJoint s.fJoints) s.fMembers 0 = some r := by
  have hm := maxLen_eq
  obtain ⟨⟨a1, a2⟩, -⟩ := i0
  obtain ⟨r, h1, -⟩ := iter_inv (f := fun w => spec_StructureOk_L1_body s.fJoints (len_ eTJoint s.fJoints) s.fMembers w) (fun i => 0 ≤ i ∧ i ≤ s.fJoints.length) (fun i => (s.fJoints.length - i).toNat) (fun _ => True) (fun i hi => by
    obtain ⟨h0, h1⟩ := hi
    by_cases h2 : i < (s.fJoints.length : Int)
    · have hw : w64 (i + 1) = i + 1 := w64_eq (by omega) (by omega)
      obtain ⟨x, hx⟩ : ∃ x, s.fJoints[i.toNat]? = some x := ⟨_, List.getElem?_eq_getElem (by omega)⟩
      obtain ⟨p, hp⟩ := jointOk_some x (a2 x (List.mem_of_getElem? hx)).1
      obtain ⟨q, hq⟩ := jointNamed_some ⟨s.fJoints, s.fMembers⟩ x.fName a1
      unfold spec_StructureOk_L1_body
      simp only [len_eq, h2, h0, hw, hx, hp, hq, decide_true, if_true, and_self, Option.bind_eq_bind, Option.bind_some]
      by_cases e : p = true
      · rw [if_pos e]
        by_cases e2 : (q != i) = true
        · exact .inr ⟨_, by rw [if_pos e2], trivial⟩
        · exact .inl ⟨i + 1, by rw [if_neg e2], by omega, by omega⟩
      · exact .inr ⟨_, by rw [if_neg e], trivial⟩
    · exact .inr ⟨.inl (), by simp [spec_StructureOk_L1_body, len_eq, h2], trivial⟩) 0 (by omega)
  exact ⟨r, h1⟩

/-- A member, in one word. -/
def memberB (js : List TJoint) (m : TMember) : Bool :=
  decide (0 ≤ m.fA ∧ m.fA < js.length ∧ 0 ≤ m.fB ∧ m.fB < js.length ∧ 1 ≤ m.fKind ∧ m.fKind ≤ 3) &&
  match js[m.fA.toNat]?, js[m.fB.toNat]? with
  | some a, some b => !(a.fX == b.fX && a.fY == b.fY) && !(a.fFixed && b.fFixed)
  | _, _ => false

theorem memberOk_eq (s : TStructure) (m : TMember) : impl_Structure_memberOk s m = some (memberB s.fJoints m) := by
  unfold impl_Structure_memberOk memberB
  simp only [len_eq]
  by_cases h1 : m.fA < 0
  · simp [h1]; omega
  by_cases h2 : (s.fJoints.length : Int) ≤ m.fA
  · simp [h1, h2]; omega
  by_cases h3 : m.fB < 0
  · simp [h1, h2, h3]; omega
  by_cases h4 : (s.fJoints.length : Int) ≤ m.fB
  · simp [h1, h2, h3, h4]; omega
  by_cases h5 : m.fKind < 1
  · simp [h1, h2, h3, h4, h5]; omega
  by_cases h6 : 3 < m.fKind
  · simp [h1, h2, h3, h4, h5, h6]; omega
  obtain ⟨x, hx⟩ : ∃ x, s.fJoints[m.fA.toNat]? = some x := ⟨_, List.getElem?_eq_getElem (by omega)⟩
  obtain ⟨y, hy⟩ : ∃ y, s.fJoints[m.fB.toNat]? = some y := ⟨_, List.getElem?_eq_getElem (by omega)⟩
  have c1 : 0 ≤ m.fA ∧ m.fA < s.fJoints.length := by omega
  have c2 : 0 ≤ m.fB ∧ m.fB < s.fJoints.length := by omega
  have c3 : 0 ≤ m.fA ∧ m.fA < s.fJoints.length ∧ 0 ≤ m.fB ∧ m.fB < s.fJoints.length ∧ 1 ≤ m.fKind ∧ m.fKind ≤ 3 := by omega
  rw [decide_eq_false h1, decide_eq_false h2, decide_eq_false h3, decide_eq_false h4, decide_eq_false h5, decide_eq_false h6, decide_eq_true c3, if_pos c1, hx]
  simp only [Bool.false_eq_true, if_false, Option.bind_eq_bind, Option.bind_some, Bool.true_and]
  rw [if_pos c2, hy]
  simp only [Option.bind_some]
  by_cases e1 : x.fX = y.fX <;> by_cases e2 : x.fY = y.fY <;> by_cases hf1 : x.fFixed = true <;> by_cases hf2 : y.fFixed = true <;> simp [e1, e2, hf1, hf2]

theorem member_L2_body (js : List TJoint) (ms : List TMember) (hj : js.length ≤ 6) (hms : ms.length ≤ 8) (i : Int) :
    spec_StructureOk_L2_body (w64 (len_ eTJoint js - 1)) ms (len_ eTMember ms) js i =
    (slices_IndexFunc'_L1_body ms js ms (len_ eTMember ms) i).map (Sum.map id (Sum.map id fun _ => ())) := by
  have hw : w64 ((js.length : Nat) - 1) = (js.length : Nat) - 1 := w64_eq (by omega) (by omega)
  unfold spec_StructureOk_L2_body slices_IndexFunc'_L1_body impl_StructureOk_1
  simp only [len_eq, hw, memberOk_eq, l01In_eq, Option.bind_eq_bind, Option.bind_some]
  by_cases h1 : i < (ms.length : Int)
  · by_cases h0 : 0 ≤ i
    · obtain ⟨m, hm⟩ : ∃ x, ms[i.toNat]? = some x := ⟨_, List.getElem?_eq_getElem (by omega)⟩
      simp only [h1, h0, hm, decide_true, if_true, and_self, Option.bind_some]
      unfold memberB
      by_cases hA : 0 ≤ m.fA ∧ m.fA ≤ (js.length : Int) - 1
      · by_cases hB : 0 ≤ m.fB ∧ m.fB ≤ (js.length : Int) - 1
        · by_cases hK : 1 ≤ m.fKind ∧ m.fKind ≤ 3
          · obtain ⟨x, hx⟩ : ∃ x, js[m.fA.toNat]? = some x := ⟨_, List.getElem?_eq_getElem (by omega)⟩
            obtain ⟨y, hy⟩ : ∃ y, js[m.fB.toNat]? = some y := ⟨_, List.getElem?_eq_getElem (by omega)⟩
            have c1 : 0 ≤ m.fA ∧ m.fA < js.length := by omega
            have c2 : 0 ≤ m.fB ∧ m.fB < js.length := by omega
            have c3 : 0 ≤ m.fA ∧ m.fA < js.length ∧ 0 ≤ m.fB ∧ m.fB < js.length ∧ 1 ≤ m.fKind ∧ m.fKind ≤ 3 := by omega
            rw [decide_eq_true hA, decide_eq_true hB, decide_eq_true hK, decide_eq_true c3]
            simp only [if_true, Option.bind_some, Bool.true_and]
            rw [if_pos c1, hx]
            simp only [Option.bind_some]
            rw [if_pos c2, hy]
            simp only [Option.bind_some]
            by_cases e1 : x.fX = y.fX <;> by_cases e2 : x.fY = y.fY <;> by_cases hf1 : x.fFixed = true <;> by_cases hf2 : y.fFixed = true <;> simp [e1, e2, hf1, hf2]
          · have c3 : ¬ (0 ≤ m.fA ∧ m.fA < js.length ∧ 0 ≤ m.fB ∧ m.fB < js.length ∧ 1 ≤ m.fKind ∧ m.fKind ≤ 3) := by omega
            rw [decide_eq_true hA, decide_eq_true hB, decide_eq_false hK, decide_eq_false c3]
            simp
        · have c3 : ¬ (0 ≤ m.fA ∧ m.fA < js.length ∧ 0 ≤ m.fB ∧ m.fB < js.length ∧ 1 ≤ m.fKind ∧ m.fKind ≤ 3) := by omega
          rw [decide_eq_true hA, decide_eq_false hB, decide_eq_false c3]
          simp
      · have c3 : ¬ (0 ≤ m.fA ∧ m.fA < js.length ∧ 0 ≤ m.fB ∧ m.fB < js.length ∧ 1 ≤ m.fKind ∧ m.fKind ≤ 3) := by omega
        rw [decide_eq_false hA, decide_eq_false c3]
        simp
    · simp [h1, h0]
  · simp [h1]

theorem index_members_some (js : List TJoint) (ms : List TMember) (hms : ms.length ≤ 8) : ∃ r, slices_IndexFunc'_L1 ms js ms (len_ eTMember ms) 0 = some r ∧ ∀ k, r = .inr k → 0 ≤ k := by
  exact iter_inv (f := fun w => slices_IndexFunc'_L1_body ms js ms (len_ eTMember ms) w) (fun i => 0 ≤ i ∧ i ≤ ms.length) (fun i => (ms.length - i).toNat) (fun r => ∀ k, r = .inr k → 0 ≤ k) (fun i hi => by
    obtain ⟨h0, h1⟩ := hi
    by_cases h2 : i < (ms.length : Int)
    · have hw : w64 (i + 1) = i + 1 := w64_eq (by omega) (by omega)
      obtain ⟨x, hx⟩ : ∃ x, ms[i.toNat]? = some x := ⟨_, List.getElem?_eq_getElem (by omega)⟩
      unfold slices_IndexFunc'_L1_body impl_StructureOk_1
      simp only [len_eq, h2, h0, hw, hx, memberOk_eq, decide_true, if_true, and_self, Option.bind_eq_bind, Option.bind_some]
      by_cases e : (!memberB js x) = true
      · exact .inr ⟨_, by rw [if_pos e], by intro k hk; simp at hk; omega⟩
      · exact .inl ⟨i + 1, by rw [if_neg e], by omega, by omega⟩
    · exact .inr ⟨.inl (), by simp [slices_IndexFunc'_L1_body, len_eq, h2], by intro k hk; simp at hk⟩) 0 (by omega)

theorem structureOk_both (s : TStructure) (i0 : ITStructure s) : ∃ r, spec_StructureOk s = some r ∧ impl_StructureOk s = some r := by
  unfold spec_StructureOk impl_StructureOk
  by_cases h1 : 6 < (s.fJoints.length : Int)
  · exact ⟨false, by simp [len_eq, h1], by simp [len_eq, h1]⟩
  by_cases h2 : 8 < (s.fMembers.length : Int)
  · exact ⟨false, by simp [len_eq, h1, h2], by simp [len_eq, h1, h2]⟩
  obtain ⟨r, hr⟩ := structure_L1_some s i0
  rw [structure_L1_eq, hr]
  obtain ⟨q, hq, hq0⟩ := index_members_some s.fJoints s.fMembers (by omega)
  have hL2 : spec_StructureOk_L2 (w64 (len_ eTJoint s.fJoints - 1)) s.fMembers (len_ eTMember s.fMembers) s.fJoints 0 = some (Sum.map id (fun _ => ()) q) :=
    iter_map (f := fun w => slices_IndexFunc'_L1_body s.fMembers s.fJoints s.fMembers (len_ eTMember s.fMembers) w) (Sum.map id fun _ => ()) (fun _ => True) (fun _ _ _ _ => trivial)
      (fun i _ => member_L2_body s.fJoints s.fMembers (by omega) (by omega) i) 0 q hq trivial
  simp only [slices_ContainsFunc, slices_IndexFunc', hq, hL2, Option.bind_eq_bind, Option.bind_some]
  have d1 : decide ((6 : Int) < len_ eTJoint s.fJoints) = false := by rw [len_eq]; exact decide_eq_false h1
  have d2 : decide ((8 : Int) < len_ eTMember s.fMembers) = false := by rw [len_eq]; exact decide_eq_false h2
  rw [d1, d2]
  simp only [Bool.false_eq_true, if_false]
  cases r with
  | inr a => exact ⟨false, rfl, rfl⟩
  | inl a =>
    cases q with
    | inl b => exact ⟨true, rfl, by simp⟩
    | inr k =>
      have := hq0 k rfl
      exact ⟨false, rfl, by simp [this]⟩

/-! ### Limits -/

theorem limits_L1_body (l : List Int) (i : Int) : spec_LimitsOk_L1_body l (len_ eI l) i = (slices_IndexFunc''_L1_body l (len_ eI l) i).map (Sum.map id (Sum.map id fun _ => ())) := by
  unfold spec_LimitsOk_L1_body slices_IndexFunc''_L1_body impl_fitsLimits_1
  simp only [isLimit_eq, l01In_eq, Option.bind_eq_bind, Option.bind_some]
  by_cases h1 : i < len_ eI l
  · by_cases h2 : 0 ≤ i ∧ i < l.length
    · cases hx : l[i.toNat]? with
      | none => simp [h1]
      | some x =>
        simp only [h1, h2, decide_true, if_true, and_self, Option.bind_some]
        cases hd : decide (0 ≤ x ∧ x ≤ 1000) <;> simp
    · rw [decide_eq_true h1, if_neg h2]
      simp [h2]
  · simp [h1]

theorem index_limits_some (l : List Int) (hl : l.length ≤ maxLen) : ∃ r, slices_IndexFunc''_L1 l (len_ eI l) 0 = some r ∧ ∀ k, r = .inr k → 0 ≤ k := by
  have hm := maxLen_eq
  exact iter_inv (f := fun w => slices_IndexFunc''_L1_body l (len_ eI l) w) (fun i => 0 ≤ i ∧ i ≤ l.length) (fun i => (l.length - i).toNat) (fun r => ∀ k, r = .inr k → 0 ≤ k) (fun i hi => by
    obtain ⟨h0, h1⟩ := hi
    by_cases h2 : i < (l.length : Int)
    · have hw : w64 (i + 1) = i + 1 := w64_eq (by omega) (by omega)
      obtain ⟨x, hx⟩ : ∃ x, l[i.toNat]? = some x := ⟨_, List.getElem?_eq_getElem (by omega)⟩
      unfold slices_IndexFunc''_L1_body impl_fitsLimits_1
      simp only [len_eq, h2, h0, hw, hx, isLimit_eq, decide_true, if_true, and_self, Option.bind_eq_bind, Option.bind_some]
      by_cases e : (!decide (0 ≤ x ∧ x ≤ 1000)) = true
      · exact .inr ⟨_, by rw [if_pos e], by intro k hk; simp at hk; omega⟩
      · exact .inl ⟨i + 1, by rw [if_neg e], by omega, by omega⟩
    · exact .inr ⟨.inl (), by simp [slices_IndexFunc''_L1_body, len_eq, h2], by intro k hk; simp at hk⟩) 0 (by omega)

theorem limitsOk_both (s : TStructure) (i0 : ITStructure s) (l : List Int) (hl : l.length ≤ maxLen) : ∃ r, spec_LimitsOk s l = some r ∧ impl_LimitsOk s l = some r := by
  obtain ⟨p, p1, p2⟩ := structureOk_both s i0
  unfold spec_LimitsOk impl_LimitsOk impl_fitsLimits
  simp only [p1, p2, Option.bind_eq_bind, Option.bind_some]
  cases p with
  | false => exact ⟨false, rfl, rfl⟩
  | true =>
    obtain ⟨q, hq, hq0⟩ := index_limits_some l hl
    have hL1 : spec_LimitsOk_L1 l (len_ eI l) 0 = some (Sum.map id (fun _ => ()) q) :=
      iter_map (f := fun w => slices_IndexFunc''_L1_body l (len_ eI l) w) (Sum.map id fun _ => ()) (fun _ => True) (fun _ _ _ _ => trivial) (fun i _ => limits_L1_body l i) 0 q hq trivial
    simp only [slices_ContainsFunc', slices_IndexFunc'', hq, hL1, Option.bind_eq_bind, Option.bind_some, if_true]
    by_cases e : len_ eI l = len_ eTMember s.fMembers
    · simp only [e, bne_self_eq_false, beq_self_eq_true, Bool.false_eq_true, if_false, if_true]
      cases q with
      | inl b => exact ⟨true, rfl, by simp⟩
      | inr k =>
        have := hq0 k rfl
        exact ⟨false, rfl, by simp [this]⟩
    · exact ⟨false, by simp [e], by simp [e]⟩

theorem laws_FnExactLimitsOk_true (x0 : TStructure) (x1 : (List Int)) (i0 : ITStructure x0) (i1 : (fun l => l.length ≤ maxLen ∧ ∀ x ∈ l, In64 x) x1) : laws_FnExactLimitsOk x0 x1 = some true := by
  unfold laws_FnExactLimitsOk
  rw [len_eq]
  by_cases h1 : (1048576 : Int) < (x1.length : Nat)
  · simp [h1]
  · obtain ⟨r, r1, r2⟩ := szStructure_some x0 i0 1048576 (by omega) (by omega)
    rw [decide_eq_false h1, r1]
    simp only [Bool.false_eq_true, if_false, Option.bind_eq_bind, Option.bind_some]
    by_cases h2 : r < 0
    · simp [h2]
    · obtain ⟨a1, a2⟩ := r2 (by omega)
      obtain ⟨q, q1, q2⟩ := limitsOk_both x0 i0 x1 i1.1
      simp [h2, toStructure_eq x0 a1 a2, toIntS_eq x1 (by omega), q1, q2, eqStructure_self x0 a1 a2, eqIntS_self x1 (by omega)]

end Go.Proofs.Ytjgnmimfihhphaa
