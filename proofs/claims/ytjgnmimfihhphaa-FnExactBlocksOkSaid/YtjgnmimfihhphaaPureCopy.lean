/- Copies, comparisons and sizes of structures and lists, in plain functions. No condition. -/
import Derived.Test.YtjgnmimfihhphaaVFnExactLimitsOkA
import Derived.Test.YtjgnmimfihhphaaVmA
namespace Go.Proofs.Ytjgnmimfihhphaa
open Go Go.VL

/-! ### Copies -/

theorem toIntS_eq (l : List Int) (h : l.length ≤ 1048576) : laws_toIntS l = some l := by
  have hb : ∀ (n : Nat) x (row : List Int), l[n]? = some x → row.length = l.length → laws_toIntS_L1_body l (len_ eI l).toNat n row = some (.inl (((n + 1 : Nat) : Int), row.set n x)) := by
    intro n x row hx hr
    obtain ⟨hn, rfl⟩ := List.getElem?_eq_some_iff.1 hx
    have hw : w64 ((n : Int) + 1) = ((n + 1 : Nat) : Int) := by rw [w64_eq (by omega) (by omega)]; rfl
    simp only [laws_toIntS_L1_body, len_eq, hw]
    simp [hn, hr]
  have he : ∀ row : List Int, laws_toIntS_L1_body l (len_ eI l).toNat l.length row = some (.inr row) := by
    intro row
    simp [laws_toIntS_L1_body, len_eq]
  have h1 : laws_toIntS_L1 l (len_ eI l).toNat 0 (List.replicate (len_ eI l).toNat 0) = some l :=
    iter_copy l (List.replicate (len_ eI l).toNat 0) (by simp [len_eq]) hb he
  unfold laws_toIntS
  rw [h1, if_pos (by rw [len_eq]; omega)]
  simp [len_eq]

theorem toJointS_eq (l : List TJoint) (h : l.length ≤ 1048576) : laws_toJointS l = some l := by
  have hb : ∀ (n : Nat) x (row : List TJoint), l[n]? = some x → row.length = l.length → laws_toJointS_L1_body l (len_ eTJoint l).toNat n row = some (.inl (((n + 1 : Nat) : Int), row.set n x)) := by
    intro n x row hx hr
    obtain ⟨hn, rfl⟩ := List.getElem?_eq_some_iff.1 hx
    have hw : w64 ((n : Int) + 1) = ((n + 1 : Nat) : Int) := by rw [w64_eq (by omega) (by omega)]; rfl
    simp only [laws_toJointS_L1_body, len_eq, hw, laws_toJoint]
    simp [hn, hr]
  have he : ∀ row : List TJoint, laws_toJointS_L1_body l (len_ eTJoint l).toNat l.length row = some (.inr row) := by
    intro row
    simp [laws_toJointS_L1_body, len_eq]
  have h1 : laws_toJointS_L1 l (len_ eTJoint l).toNat 0 (List.replicate (len_ eTJoint l).toNat (⟨ByteArray.empty, 0, 0, false⟩ : TJoint)) = some l :=
    iter_copy l _ (by simp [len_eq]) hb he
  unfold laws_toJointS
  rw [h1, if_pos (by rw [len_eq]; omega)]
  simp [len_eq]

theorem toMemberS_eq (l : List TMember) (h : l.length ≤ 1048576) : laws_toMemberS l = some l := by
  have hb : ∀ (n : Nat) x (row : List TMember), l[n]? = some x → row.length = l.length → laws_toMemberS_L1_body l (len_ eTMember l).toNat n row = some (.inl (((n + 1 : Nat) : Int), row.set n x)) := by
    intro n x row hx hr
    obtain ⟨hn, rfl⟩ := List.getElem?_eq_some_iff.1 hx
    have hw : w64 ((n : Int) + 1) = ((n + 1 : Nat) : Int) := by rw [w64_eq (by omega) (by omega)]; rfl
    simp only [laws_toMemberS_L1_body, len_eq, hw, laws_toMember]
    simp [hn, hr]
  have he : ∀ row : List TMember, laws_toMemberS_L1_body l (len_ eTMember l).toNat l.length row = some (.inr row) := by
    intro row
    simp [laws_toMemberS_L1_body, len_eq]
  have h1 : laws_toMemberS_L1 l (len_ eTMember l).toNat 0 (List.replicate (len_ eTMember l).toNat (⟨0, 0, 0⟩ : TMember)) = some l :=
    iter_copy l _ (by simp [len_eq]) hb he
  unfold laws_toMemberS
  rw [h1, if_pos (by rw [len_eq]; omega)]
  simp [len_eq]

theorem toStructure_eq (s : TStructure) (h1 : s.fJoints.length ≤ 1048576) (h2 : s.fMembers.length ≤ 1048576) : laws_toStructure s = some s := by
  simp [laws_toStructure, toJointS_eq _ h1, toMemberS_eq _ h2]

/-! ### Comparisons with itself -/

theorem scan_none {α β : Type} {t : Nat → α → Option β} : ∀ (l : List α) (k : Nat), (∀ n x, l[n]? = some x → t (k + n) x = none) → scan t k l = none
  | [], _, _ => rfl
  | x :: l, k, h => by
    have h0 := h 0 x rfl
    simp only [Nat.add_zero] at h0
    simp only [scan, h0]
    exact scan_none l (k + 1) fun n y hy => by rw [show k + 1 + n = k + (n + 1) by omega]; exact h (n + 1) y (by simpa using hy)

theorem eqIntS_self (l : List Int) (h : l.length ≤ 1048576) : laws_eqIntS l l = some true := by
  have h1 : laws_eqIntS_L1 l l 0 = some (.inl ()) := by
    have := iter_scan (f := fun w => laws_eqIntS_L1_body l l w) (t := fun _ _ => none) (e := .inl ()) l 0 (fun n x hx => by
      have hn := lt_of_get hx
      have hw : w64 ((n : Int) + 1) = ((n + 1 : Nat) : Int) := by rw [w64_eq (by omega) (by omega)]; rfl
      simp only [laws_eqIntS_L1_body, len_eq, Nat.zero_add, hw]
      simp [hn]) (by simp [laws_eqIntS_L1_body, len_eq])
    rw [scan_none l 0 (fun _ _ _ => rfl)] at this
    exact this
  simp [laws_eqIntS, h1]

theorem eqJoint_self (j : TJoint) : laws_eqJoint j j = some true := by simp [laws_eqJoint]
theorem eqMember_self (j : TMember) : laws_eqMember j j = some true := by simp [laws_eqMember]

theorem eqJointS_self (l : List TJoint) (h : l.length ≤ 1048576) : laws_eqJointS l l = some true := by
  have h1 : laws_eqJointS_L1 l l 0 = some (.inl ()) := by
    have := iter_scan (f := fun w => laws_eqJointS_L1_body l l w) (t := fun _ _ => none) (e := .inl ()) l 0 (fun n x hx => by
      have hn := lt_of_get hx
      have hw : w64 ((n : Int) + 1) = ((n + 1 : Nat) : Int) := by rw [w64_eq (by omega) (by omega)]; rfl
      simp only [laws_eqJointS_L1_body, len_eq, Nat.zero_add, hw]
      simp [hn, eqJoint_self]) (by simp [laws_eqJointS_L1_body, len_eq])
    rw [scan_none l 0 (fun _ _ _ => rfl)] at this
    exact this
  simp [laws_eqJointS, h1]

theorem eqMemberS_self (l : List TMember) (h : l.length ≤ 1048576) : laws_eqMemberS l l = some true := by
  have h1 : laws_eqMemberS_L1 l l 0 = some (.inl ()) := by
    have := iter_scan (f := fun w => laws_eqMemberS_L1_body l l w) (t := fun _ _ => none) (e := .inl ()) l 0 (fun n x hx => by
      have hn := lt_of_get hx
      have hw : w64 ((n : Int) + 1) = ((n + 1 : Nat) : Int) := by rw [w64_eq (by omega) (by omega)]; rfl
      simp only [laws_eqMemberS_L1_body, len_eq, Nat.zero_add, hw]
      simp [hn, eqMember_self]) (by simp [laws_eqMemberS_L1_body, len_eq])
    rw [scan_none l 0 (fun _ _ _ => rfl)] at this
    exact this
  simp [laws_eqMemberS, h1]

theorem eqStructure_self (s : TStructure) (h1 : s.fJoints.length ≤ 1048576) (h2 : s.fMembers.length ≤ 1048576) : laws_eqStructure s s = some true := by
  simp [laws_eqStructure, eqJointS_self _ h1, eqMemberS_self _ h2]

/-! ### Sizes -/

theorem szJoint_some (j : TJoint) (left : Int) (hj : j.fName.size ≤ maxLen) (h0 : 0 ≤ left) (h1 : left ≤ 1048576) : ∃ r, laws_szJoint j left = some r ∧ r ≤ left := by
  have hm : j.fName.size < 9223372036854775808 := by have : maxLen = 9223372036854775807 := by decide
                                                     omega
  have hw : w64 (left - j.fName.size) = left - j.fName.size := w64_eq (by omega) (by omega)
  unfold laws_szJoint
  rw [hw]
  by_cases h : left - (j.fName.size : Int) < 0
  · exact ⟨-1, by simp [h], by omega⟩
  · exact ⟨left - j.fName.size, by simp [h], by omega⟩

theorem szJointS_some (l : List TJoint) (left : Int) (hl : l.length ≤ maxLen) (hj : ∀ j ∈ l, j.fName.size ≤ maxLen) (h0 : 0 ≤ left) (h1 : left ≤ 1048576) :
    ∃ r, laws_szJointS l left = some r ∧ r ≤ left ∧ (0 ≤ r → l.length ≤ 1048576) := by
  have hm : maxLen = 9223372036854775807 := by decide
  have hw : w64 (left - (l.length : Nat)) = left - (l.length : Nat) := w64_eq (by omega) (by omega)
  unfold laws_szJointS
  simp only [len_eq, hw]
  by_cases h : left - (l.length : Int) < 0
  · exact ⟨-1, by simp [h], by omega, by omega⟩
  · obtain ⟨r, r1, r2⟩ := iter_inv (f := fun w : Int × Int => laws_szJointS_L1_body l w.1 w.2) (fun w => 0 ≤ w.1 ∧ w.1 ≤ left ∧ 0 ≤ w.2 ∧ w.2 ≤ l.length) (fun w => (l.length - w.2).toNat)
      (fun r => match r with | .inl a => a ≤ left | .inr _ => True) (fun w hw => by
        obtain ⟨a, i⟩ := w
        simp only at hw
        obtain ⟨w1, w2, w3, w4⟩ := hw
        by_cases hi : i < l.length
        · obtain ⟨x, hx⟩ : ∃ x, l[i.toNat]? = some x := ⟨_, List.getElem?_eq_getElem (by omega)⟩
          obtain ⟨r, s1, s2⟩ := szJoint_some x a (hj x (List.mem_of_getElem? hx)) w1 (by omega)
          obtain ⟨hn, rfl⟩ := List.getElem?_eq_some_iff.1 hx
          have hi1 : w64 (i + 1) = i + 1 := w64_eq (by omega) (by omega)
          by_cases hr : r < 0
          · right
            exact ⟨.inr (), by simp [laws_szJointS_L1_body, len_eq, hi, w3, hx, s1, hr], trivial⟩
          · left
            refine ⟨(r, i + 1), by simp [laws_szJointS_L1_body, len_eq, hi, w3, hx, s1, hr, hi1], ?_, ?_⟩
            · simp only; omega
            · simp only; omega
        · right
          exact ⟨.inl a, by simp [laws_szJointS_L1_body, len_eq, hi], by simpa using w2⟩) (left - (l.length : Nat), 0) (by simp only; omega)
    have r1' : laws_szJointS_L1 l (left - (l.length : Nat)) 0 = some r := r1
    rw [r1']
    cases r with
    | inl a => exact ⟨a, by simp [h], r2, by omega⟩
    | inr a => exact ⟨-1, by simp [h], by omega, by omega⟩

theorem szMemberS_some (l : List TMember) (left : Int) (hl : l.length ≤ maxLen) (h0 : 0 ≤ left) (h1 : left ≤ 1048576) :
    ∃ r, laws_szMemberS l left = some r ∧ r ≤ left ∧ (0 ≤ r → l.length ≤ 1048576) := by
  have hm : maxLen = 9223372036854775807 := by decide
  have hw : w64 (left - (l.length : Nat)) = left - (l.length : Nat) := w64_eq (by omega) (by omega)
  unfold laws_szMemberS
  simp only [len_eq, hw]
  by_cases h : left - (l.length : Int) < 0
  · exact ⟨-1, by simp [h], by omega, by omega⟩
  · exact ⟨left - (l.length : Nat), by simp [h], by omega, by omega⟩

theorem szStructure_some (s : TStructure) (i0 : ITStructure s) (left : Int) (h0 : 0 ≤ left) (h1 : left ≤ 1048576) :
    ∃ r, laws_szStructure s left = some r ∧ (0 ≤ r → s.fJoints.length ≤ 1048576 ∧ s.fMembers.length ≤ 1048576) := by
  obtain ⟨⟨a1, a2⟩, a3, a4⟩ := i0
  obtain ⟨r, r1, r2, r3⟩ := szJointS_some s.fJoints left a1 (fun j hj => (a2 j hj).1) h0 h1
  unfold laws_szStructure
  rw [r1]
  by_cases h : r < 0
  · exact ⟨-1, by simp [h], by omega⟩
  · obtain ⟨q, q1, q2, q3⟩ := szMemberS_some s.fMembers r a3 (by omega) (by omega)
    by_cases hq : q < 0
    · exact ⟨-1, by simp [h, q1, hq], by omega⟩
    · exact ⟨q, by simp [h, q1, hq], fun _ => ⟨r3 (by omega), q3 (by omega)⟩⟩

end Go.Proofs.Ytjgnmimfihhphaa
