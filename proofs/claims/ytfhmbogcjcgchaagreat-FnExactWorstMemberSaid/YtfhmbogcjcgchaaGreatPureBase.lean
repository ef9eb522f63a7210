/- Copies, comparisons, sizes; structures, limits, vectors: in plain functions. No condition. -/
import Derived.Test.YtfhmbogcjcgchaaGreatVFnExactIsWithinC
import Derived.Test.YtfhmbogcjcgchaaGreatVmA
namespace Go.Proofs.YtfhmbogcjcgchaaGreat
open Go Go.VL

theorem l01In_eq (n lo hi : Int) : spec_l01In n lo hi = some (decide (lo ≤ n ∧ n ≤ hi)) := by
  unfold spec_l01In
  by_cases h : lo ≤ n <;> simp [h]

theorem isLimit_eq (n : Int) : impl_isLimit n = some (decide (0 ≤ n ∧ n ≤ 1000)) := by
  unfold impl_isLimit
  by_cases h : 0 ≤ n <;> simp [h]


/-! ### Copies -/

theorem toIntS_eq (l : List Int) (h : l.length ≤ 1048576) : laws_toIntS l = some l := by
  have hb : ∀ (n : Nat) x (row : List Int), l[n]? = some x → row.length = l.length → laws_toIntS_L1_body l n row = some (.inl (((n + 1 : Nat) : Int), row.set n x)) := by
    intro n x row hx hr
    obtain ⟨hn, rfl⟩ := List.getElem?_eq_some_iff.1 hx
    have hw : w64 ((n : Int) + 1) = ((n + 1 : Nat) : Int) := by rw [w64_eq (by omega) (by omega)]; rfl
    simp only [laws_toIntS_L1_body, len_eq, hw]
    simp [hn, hr]
  have he : ∀ row : List Int, laws_toIntS_L1_body l l.length row = some (.inr row) := by
    intro row
    simp [laws_toIntS_L1_body, len_eq]
  have h1 : laws_toIntS_L1 l 0 (List.replicate (len_ eI l).toNat 0) = some l :=
    iter_copy l (List.replicate (len_ eI l).toNat 0) (by simp [len_eq]) hb he
  unfold laws_toIntS
  rw [h1, if_pos (by rw [len_eq]; omega)]
  simp [len_eq]

theorem toJointS_eq (l : List TJoint) (h : l.length ≤ 1048576) : laws_toJointS l = some l := by
  have hb : ∀ (n : Nat) x (row : List TJoint), l[n]? = some x → row.length = l.length → laws_toJointS_L1_body l n row = some (.inl (((n + 1 : Nat) : Int), row.set n x)) := by
    intro n x row hx hr
    obtain ⟨hn, rfl⟩ := List.getElem?_eq_some_iff.1 hx
    have hw : w64 ((n : Int) + 1) = ((n + 1 : Nat) : Int) := by rw [w64_eq (by omega) (by omega)]; rfl
    simp only [laws_toJointS_L1_body, len_eq, hw, laws_toJoint]
    simp [hn, hr]
  have he : ∀ row : List TJoint, laws_toJointS_L1_body l l.length row = some (.inr row) := by
    intro row
    simp [laws_toJointS_L1_body, len_eq]
  have h1 : laws_toJointS_L1 l 0 (List.replicate (len_ eTJoint l).toNat (⟨ByteArray.empty, 0, 0, false⟩ : TJoint)) = some l :=
    iter_copy l _ (by simp [len_eq]) hb he
  unfold laws_toJointS
  rw [h1, if_pos (by rw [len_eq]; omega)]
  simp [len_eq]

theorem toMemberS_eq (l : List TMember) (h : l.length ≤ 1048576) : laws_toMemberS l = some l := by
  have hb : ∀ (n : Nat) x (row : List TMember), l[n]? = some x → row.length = l.length → laws_toMemberS_L1_body l n row = some (.inl (((n + 1 : Nat) : Int), row.set n x)) := by
    intro n x row hx hr
    obtain ⟨hn, rfl⟩ := List.getElem?_eq_some_iff.1 hx
    have hw : w64 ((n : Int) + 1) = ((n + 1 : Nat) : Int) := by rw [w64_eq (by omega) (by omega)]; rfl
    simp only [laws_toMemberS_L1_body, len_eq, hw, laws_toMember]
    simp [hn, hr]
  have he : ∀ row : List TMember, laws_toMemberS_L1_body l l.length row = some (.inr row) := by
    intro row
    simp [laws_toMemberS_L1_body, len_eq]
  have h1 : laws_toMemberS_L1 l 0 (List.replicate (len_ eTMember l).toNat (⟨0, 0, 0⟩ : TMember)) = some l :=
    iter_copy l _ (by simp [len_eq]) hb he
  unfold laws_toMemberS
  rw [h1, if_pos (by rw [len_eq]; omega)]
  simp [len_eq]

theorem toStructure_eq (s : TStructure) (h1 : s.fJoints.length ≤ 1048576) (h2 : s.fMembers.length ≤ 1048576) : laws_toStructure s = some s := by
  simp [laws_toStructure, toJointS_eq _ h1, toMemberS_eq _ h2]

/-! ### Comparisons with itself -/

theorem scan_none {α β : Type} {t : Nat → α → Option β} : ∀ (l : List α) (k : Nat), (∀ n x, l[n]? = some x → t (k + n) x = none) → scan t k l = none
  | [], _, _ => rfl
  | x :: l, k, h => by
    have h0 := h 0 x rfl
    simp only [Nat.add_zero] at h0
    simp only [scan, h0]
    exact scan_none l (k + 1) fun n y hy => by rw [show k + 1 + n = k + (n + 1) by omega]; exact h (n + 1) y (by simpa using hy)

theorem eqIntS_self (l : List Int) (h : l.length ≤ 1048576) : laws_eqIntS l l = some true := by
  have h1 : laws_eqIntS_L1 l l 0 = some (.inl ()) := by
    have := iter_scan (f := fun w => laws_eqIntS_L1_body l l w) (t := fun _ _ => none) (e := .inl ()) l 0 (fun n x hx => by
      have hn := lt_of_get hx
      have hw : w64 ((n : Int) + 1) = ((n + 1 : Nat) : Int) := by rw [w64_eq (by omega) (by omega)]; rfl
      simp only [laws_eqIntS_L1_body, len_eq, Nat.zero_add, hw]
      simp [hn]) (by simp [laws_eqIntS_L1_body, len_eq])
    rw [scan_none l 0 (fun _ _ _ => rfl)] at this
    exact this
  simp [laws_eqIntS, h1]

theorem eqJoint_self (j : TJoint) : laws_eqJoint j j = some true := by simp [laws_eqJoint]
theorem eqMember_self (j : TMember) : laws_eqMember j j = some true := by simp [laws_eqMember]

theorem eqJointS_self (l : List TJoint) (h : l.length ≤ 1048576) : laws_eqJointS l l = some true := by
  have h1 : laws_eqJointS_L1 l l 0 = some (.inl ()) := by
    have := iter_scan (f := fun w => laws_eqJointS_L1_body l l w) (t := fun _ _ => none) (e := .inl ()) l 0 (fun n x hx => by
      have hn := lt_of_get hx
      have hw : w64 ((n : Int) + 1) = ((n + 1 : Nat) : Int) := by rw [w64_eq (by omega) (by omega)]; rfl
      simp only [laws_eqJointS_L1_body, len_eq, Nat.zero_add, hw]
      simp [hn, eqJoint_self]) (by simp [laws_eqJointS_L1_body, len_eq])
    rw [scan_none l 0 (fun _ _ _ => rfl)] at this
    exact this
  simp [laws_eqJointS, h1]

theorem eqMemberS_self (l : List TMember) (h : l.length ≤ 1048576) : laws_eqMemberS l l = some true := by
  have h1 : laws_eqMemberS_L1 l l 0 = some (.inl ()) := by
    have := iter_scan (f := fun w => laws_eqMemberS_L1_body l l w) (t := fun _ _ => none) (e := .inl ()) l 0 (fun n x hx => by
      have hn := lt_of_get hx
      have hw : w64 ((n : Int) + 1) = ((n + 1 : Nat) : Int) := by rw [w64_eq (by omega) (by omega)]; rfl
      simp only [laws_eqMemberS_L1_body, len_eq, Nat.zero_add, hw]
      simp [hn, eqMember_self]) (by simp [laws_eqMemberS_L1_body, len_eq])
    rw [scan_none l 0 (fun _ _ _ => rfl)] at this
    exact this
  simp [laws_eqMemberS, h1]

theorem eqStructure_self (s : TStructure) (h1 : s.fJoints.length ≤ 1048576) (h2 : s.fMembers.length ≤ 1048576) : laws_eqStructure s s = some true := by
  simp [laws_eqStructure, eqJointS_self _ h1, eqMemberS_self _ h2]

/-! ### Sizes -/

theorem szJoint_some (j : TJoint) (left : Int) (hj : j.fName.size ≤ maxLen) (h0 : 0 ≤ left) (h1 : left ≤ 1048576) : ∃ r, laws_szJoint j left = some r ∧ r ≤ left := by
  have hm : j.fName.size < 9223372036854775808 := by have : maxLen = 9223372036854775807 := by decide
                                                     omega
  have hw : w64 (left - j.fName.size) = left - j.fName.size := w64_eq (by omega) (by omega)
  unfold laws_szJoint
  rw [hw]
  by_cases h : left - (j.fName.size : Int) < 0
  · exact ⟨-1, by simp [h], by omega⟩
  · exact ⟨left - j.fName.size, by simp [h], by omega⟩

theorem szJointS_some (l : List TJoint) (left : Int) (hl : l.length ≤ maxLen) (hj : ∀ j ∈ l, j.fName.size ≤ maxLen) (h0 : 0 ≤ left) (h1 : left ≤ 1048576) :
    ∃ r, laws_szJointS l left = some r ∧ r ≤ left ∧ (0 ≤ r → l.length ≤ 1048576) := by
  have hm : maxLen = 9223372036854775807 := by decide
  have hw : w64 (left - (l.length : Nat)) = left - (l.length : Nat) := w64_eq (by omega) (by omega)
  unfold laws_szJointS
  simp only [len_eq, hw]
  by_cases h : left - (l.length : Int) < 0
  · exact ⟨-1, by simp [h], by omega, by omega⟩
  · obtain ⟨r, r1, r2⟩ := iter_inv (f := fun w : Int × Int => laws_szJointS_L1_body l w.1 w.2) (fun w => 0 ≤ w.1 ∧ w.1 ≤ left ∧ 0 ≤ w.2 ∧ w.2 ≤ l.length) (fun w => (l.length - w.2).toNat)
      (fun r => match r with | .inl a => a ≤ left | .inr _ => True) (fun w hw => by
        obtain ⟨a, i⟩ := w
        simp only at hw
        obtain ⟨w1, w2, w3, w4⟩ := hw
        by_cases hi : i < l.length
        · obtain ⟨x, hx⟩ : ∃ x, l[i.toNat]? = some x := ⟨_, List.getElem?_eq_getElem (by omega)⟩
          obtain ⟨r, s1, s2⟩ := szJoint_some x a (hj x (List.mem_of_getElem? hx)) w1 (by omega)
          obtain ⟨hn, rfl⟩ := List.getElem?_eq_some_iff.1 hx
          have hi1 : w64 (i + 1) = i + 1 := w64_eq (by omega) (by omega)
          by_cases hr : r < 0
          · right
            exact ⟨.inr (), by simp [laws_szJointS_L1_body, len_eq, hi, w3, hx, s1, hr], trivial⟩
          · left
            refine ⟨(r, i + 1), by simp [laws_szJointS_L1_body, len_eq, hi, w3, hx, s1, hr, hi1], ?_, ?_⟩
            · simp only; omega
            · simp only; omega
        · right
          exact ⟨.inl a, by simp [laws_szJointS_L1_body, len_eq, hi], by simpa using w2⟩) (left - (l.length : Nat), 0) (by simp only; omega)
    have r1' : laws_szJointS_L1 l (left - (l.length : Nat)) 0 = some r := r1
    rw [r1']
    cases r with
    | inl a => exact ⟨a, by simp [h], r2, by omega⟩
    | inr a => exact ⟨-1, by simp [h], by omega, by omega⟩

theorem szMemberS_some (l : List TMember) (left : Int) (hl : l.length ≤ maxLen) (h0 : 0 ≤ left) (h1 : left ≤ 1048576) :
    ∃ r, laws_szMemberS l left = some r ∧ r ≤ left ∧ (0 ≤ r → l.length ≤ 1048576) := by
  have hm : maxLen = 9223372036854775807 := by decide
  have hw : w64 (left - (l.length : Nat)) = left - (l.length : Nat) := w64_eq (by omega) (by omega)
  unfold laws_szMemberS
  simp only [len_eq, hw]
  by_cases h : left - (l.length : Int) < 0
  · exact ⟨-1, by simp [h], by omega, by omega⟩
  · exact ⟨left - (l.length : Nat), by simp [h], by omega, by omega⟩

theorem szStructure_some (s : TStructure) (i0 : ITStructure s) (left : Int) (h0 : 0 ≤ left) (h1 : left ≤ 1048576) :
    ∃ r, laws_szStructure s left = some r ∧ (0 ≤ r → s.fJoints.length ≤ 1048576 ∧ s.fMembers.length ≤ 1048576) := by
  obtain ⟨⟨a1, a2⟩, a3, a4⟩ := i0
  obtain ⟨r, r1, r2, r3⟩ := szJointS_some s.fJoints left a1 (fun j hj => (a2 j hj).1) h0 h1
  unfold laws_szStructure
  rw [r1]
  by_cases h : r < 0
  · exact ⟨-1, by simp [h], by omega⟩
  · obtain ⟨q, q1, q2, q3⟩ := szMemberS_some s.fMembers r a3 (by omega) (by omega)
    by_cases hq : q < 0
    · exact ⟨-1, by simp [h, q1, hq], by omega⟩
    · exact ⟨q, by simp [h, q1, hq], fun _ => ⟨r3 (by omega), q3 (by omega)⟩⟩

theorem maxLen_eq : maxLen = 9223372036854775807 := by decide

theorem isPlace_eq (n : Int) : impl_isPlace n = spec_l01In n (-50) 50 := by
  rw [l01In_eq]
  unfold impl_isPlace
  by_cases h : -50 ≤ n <;> simp [h]

theorem isLetter_eq (c : Int) : impl_isLetter c = some (decide (97 ≤ c ∧ c ≤ 122)) := by
  unfold impl_isLetter
  by_cases h : 97 ≤ c <;> simp [h]

theorem isDigit_eq (c : Int) : impl_isDigit c = some (decide (48 ≤ c ∧ c ≤ 57)) := by
  unfold impl_isDigit
  by_cases h : 48 ≤ c <;> simp [h]

theorem isName_body (s : ByteArray) (i : Int) : impl_IsName_L1_body s s.size i = spec_IsName_L1_body s i := by
  unfold impl_IsName_L1_body spec_IsName_L1_body
  generalize ((s.data.toList.getD i.toNat 0).toNat : Int) = c
  simp only [isLetter_eq, isDigit_eq, Option.bind_eq_bind, Option.bind_some]
  by_cases h1 : i < (s.size : Int) <;> by_cases h0 : 0 ≤ i <;> by_cases a : (97 : Int) ≤ c <;> by_cases b : c ≤ 122 <;> by_cases d : i = 0 <;> by_cases e : c < 48 <;> by_cases f : 57 < c <;>
    simp [h1, h0, a, b, d, e, f, Int.not_lt.1, Int.not_le] <;> omega

theorem isName_eq (s : ByteArray) : impl_IsName s = spec_IsName s := by
  have h : impl_IsName_L1 s s.size 0 = spec_IsName_L1 s 0 := by
    unfold impl_IsName_L1 spec_IsName_L1
    congr 1
    funext w
    exact isName_body s w
  unfold impl_IsName spec_IsName
  rw [h]
  congr 1
  funext r
  cases r with
  | inr a => rfl
  | inl a =>
    simp only [l01In_eq, Option.bind_eq_bind, Option.bind_some]
    by_cases h0 : s.size = 0
    · have : s = ⟨#[]⟩ := by
        cases s with
        | mk d => simp only [ByteArray.size] at h0; rw [Array.size_eq_zero_iff] at h0; rw [h0]
      subst this
      have e0 : (ByteArray.mk #[]).size = 0 := rfl
      simp [e0]
    · have hne : s.toList ≠ (⟨#[]⟩ : ByteArray).toList := by
        intro e
        have hl : ∀ x : ByteArray, x.toList.length = x.size := by intro x; rw [ByteArray.toList_eq]; rfl
        have := hl s
        rw [e, hl] at this
        exact h0 this.symm
      simp only [beq_iff_eq, hne, Bool.not_eq_true', beq_eq_false_iff_ne, ne_eq, not_false_eq_true, if_true]
      congr 1
      apply decide_eq_decide.2
      omega

theorem isName_some (s : ByteArray) (hs : s.size ≤ maxLen) : ∃ r, spec_IsName s = some r := by
  have hm := maxLen_eq
  obtain ⟨r, h, -⟩ := iter_inv (f := fun w => spec_IsName_L1_body s w) (fun i => 0 ≤ i ∧ i ≤ s.size) (fun i => (s.size - i).toNat) (fun _ => True) (fun i hi => by
    obtain ⟨h0, h1⟩ := hi
    by_cases h2 : i < (s.size : Int)
    · have hw : w64 (i + 1) = i + 1 := w64_eq (by omega) (by omega)
      unfold spec_IsName_L1_body
      generalize ((s.data.toList.getD i.toNat 0).toNat : Int) = c
      have hnext : 0 ≤ i + 1 ∧ i + 1 ≤ (s.size : Int) := by omega
      have hmm : ((s.size : Int) - (i + 1)).toNat < ((s.size : Int) - i).toNat := by omega
      have key : ∀ x : Option (Int ⊕ (Unit ⊕ Unit)), (x = some (.inl (i + 1)) ∨ x = some (.inr (.inr ()))) → (∃ a', x = some (.inl a') ∧ (0 ≤ a' ∧ a' ≤ (s.size : Int)) ∧ ((s.size : Int) - a').toNat < ((s.size : Int) - i).toNat) ∨ ∃ r, x = some (.inr r) ∧ True := by
        intro x hx
        rcases hx with hx | hx
        · exact .inl ⟨i + 1, hx, hnext, hmm⟩
        · exact .inr ⟨_, hx, trivial⟩
      apply key
      simp only [h2, h0, hw, decide_true, if_true, and_self]
      by_cases a : (97 : Int) ≤ c <;> by_cases b : c ≤ 122 <;> by_cases d : i = 0 <;> by_cases e : c < 48 <;> by_cases f : 57 < c <;> simp [a, b, d, e, f]
    · exact .inr ⟨.inl (), by simp [spec_IsName_L1_body, h2], trivial⟩) 0 (by omega)
  have h' : spec_IsName_L1 s 0 = some r := h
  unfold spec_IsName
  rw [h']
  cases r with
  | inl a => exact ⟨_, by simp [l01In_eq]; rfl⟩
  | inr a => exact ⟨_, rfl⟩

theorem jointOk_eq (j : TJoint) : impl_JointOk j = spec_JointOk j := by
  unfold impl_JointOk spec_JointOk
  simp only [isName_eq, isPlace_eq]

theorem jointOk_some (j : TJoint) (h : j.fName.size ≤ maxLen) : ∃ r, spec_JointOk j = some r := by
  obtain ⟨r, hr⟩ := isName_some _ h
  unfold spec_JointOk
  simp only [hr, l01In_eq, Option.bind_eq_bind, Option.bind_some]
  repeat' split
  all_goals exact ⟨_, rfl⟩

theorem jointNamed_eq (s : TStructure) (n : ByteArray) : impl_JointNamed s n = spec_JointNamed s n := by
  have h : s_IndexFunc_impl_JointNamed_1_L1 s.fJoints n (len_ eTJoint s.fJoints) 0 = spec_JointNamed_L1 n s.fJoints (len_ eTJoint s.fJoints) 0 := by
    unfold s_IndexFunc_impl_JointNamed_1_L1 spec_JointNamed_L1
    congr 1
  unfold impl_JointNamed spec_JointNamed s_IndexFunc_impl_JointNamed_1
  rw [h]
  cases spec_JointNamed_L1 n s.fJoints (len_ eTJoint s.fJoints) 0 with
  | none => rfl
  | some r => cases r <;> rfl

theorem jointNamed_some (s : TStructure) (n : ByteArray) (h : s.fJoints.length ≤ maxLen) : ∃ r, spec_JointNamed s n = some r := by
  have hm := maxLen_eq
  obtain ⟨r, h1, -⟩ := iter_inv (f := fun w => spec_JointNamed_L1_body n s.fJoints (len_ eTJoint s.fJoints) w) (fun i => 0 ≤ i ∧ i ≤ s.fJoints.length) (fun i => (s.fJoints.length - i).toNat) (fun _ => True) (fun i hi => by
    obtain ⟨h0, h1⟩ := hi
    by_cases h2 : i < (s.fJoints.length : Int)
    · have hw : w64 (i + 1) = i + 1 := w64_eq (by omega) (by omega)
      obtain ⟨x, hx⟩ : ∃ x, s.fJoints[i.toNat]? = some x := ⟨_, List.getElem?_eq_getElem (by omega)⟩
      unfold spec_JointNamed_L1_body
      simp only [len_eq, h2, h0, hw, hx, decide_true, if_true, and_self, Option.bind_eq_bind, Option.bind_some]
      by_cases e : (x.fName.toList == n.toList) = true
      · exact .inr ⟨_, by rw [if_pos e], trivial⟩
      · exact .inl ⟨i + 1, by rw [if_neg e], by omega, by omega⟩
    · exact .inr ⟨.inl (), by simp [spec_JointNamed_L1_body, len_eq, h2], trivial⟩) 0 (by omega)
  have h' : spec_JointNamed_L1 n s.fJoints (len_ eTJoint s.fJoints) 0 = some r := h1
  unfold spec_JointNamed
  rw [h']
  cases r with
  | inl a => exact ⟨_, rfl⟩
  | inr a => exact ⟨_, rfl⟩

theorem structure_L1_eq (s : TStructure) : impl_StructureOk_L1 s.fJoints (len_ eTJoint s.fJoints) s.fMembers 0 = spec_StructureOk_L1 s.fJoints (len_ eTJoint s.fJoints) s.fMembers 0 := by
  unfold impl_StructureOk_L1 spec_StructureOk_L1
  congr 1
  funext w
  unfold impl_StructureOk_L1_body spec_StructureOk_L1_body
  simp only [jointOk_eq, jointNamed_eq]

theorem structure_L1_some (s : TStructure) (i0 : ITStructure s) : ∃ r, spec_StructureOk_L1 s.fJoints (len_ eTJoint s.fJoints) s.fMembers 0 = some r := by
  have hm := maxLen_eq
  obtain ⟨⟨a1, a2⟩, -⟩ := i0
  obtain ⟨r, h1, -⟩ := iter_inv (f := fun w => spec_StructureOk_L1_body s.fJoints (len_ eTJoint s.fJoints) s.fMembers w) (fun i => 0 ≤ i ∧ i ≤ s.fJoints.length) (fun i => (s.fJoints.length - i).toNat) (fun _ => True) (fun i hi => by
    obtain ⟨h0, h1⟩ := hi
    by_cases h2 : i < (s.fJoints.length : Int)
    · have hw : w64 (i + 1) = i + 1 := w64_eq (by omega) (by omega)
      obtain ⟨x, hx⟩ : ∃ x, s.fJoints[i.toNat]? = some x := ⟨_, List.getElem?_eq_getElem (by omega)⟩
      obtain ⟨p, hp⟩ := jointOk_some x (a2 x (List.mem_of_getElem? hx)).1
      obtain ⟨q, hq⟩ := jointNamed_some ⟨s.fJoints, s.fMembers⟩ x.fName a1
      unfold spec_StructureOk_L1_body
      simp only [len_eq, h2, h0, hw, hx, hp, hq, decide_true, if_true, and_self, Option.bind_eq_bind, Option.bind_some]
      by_cases e : p = true
      · rw [if_pos e]
        by_cases e2 : (q != i) = true
        · exact .inr ⟨_, by rw [if_pos e2], trivial⟩
        · exact .inl ⟨i + 1, by rw [if_neg e2], by omega, by omega⟩
      · exact .inr ⟨_, by rw [if_neg e], trivial⟩
    · exact .inr ⟨.inl (), by simp [spec_StructureOk_L1_body, len_eq, h2], trivial⟩) 0 (by omega)
  exact ⟨r, h1⟩

/-- A member, in one word. -/
def memberB (js : List TJoint) (m : TMember) : Bool :=
  decide (0 ≤ m.fA ∧ m.fA < js.length ∧ 0 ≤ m.fB ∧ m.fB < js.length ∧ 1 ≤ m.fKind ∧ m.fKind ≤ 3) &&
  match js[m.fA.toNat]?, js[m.fB.toNat]? with
  | some a, some b => !(a.fX == b.fX && a.fY == b.fY) && !(a.fFixed && b.fFixed)
  | _, _ => false

theorem memberOk_eq (s : TStructure) (m : TMember) : impl_Structure_memberOk s m = some (memberB s.fJoints m) := by
  unfold impl_Structure_memberOk memberB
  simp only [len_eq]
  by_cases h1 : m.fA < 0
  · simp [h1]; omega
  by_cases h2 : (s.fJoints.length : Int) ≤ m.fA
  · simp [h1, h2]; omega
  by_cases h3 : m.fB < 0
  · simp [h1, h2, h3]; omega
  by_cases h4 : (s.fJoints.length : Int) ≤ m.fB
  · simp [h1, h2, h3, h4]; omega
  by_cases h5 : m.fKind < 1
  · simp [h1, h2, h3, h4, h5]; omega
  by_cases h6 : 3 < m.fKind
  · simp [h1, h2, h3, h4, h5, h6]; omega
  obtain ⟨x, hx⟩ : ∃ x, s.fJoints[m.fA.toNat]? = some x := ⟨_, List.getElem?_eq_getElem (by omega)⟩
  obtain ⟨y, hy⟩ : ∃ y, s.fJoints[m.fB.toNat]? = some y := ⟨_, List.getElem?_eq_getElem (by omega)⟩
  have c1 : 0 ≤ m.fA ∧ m.fA < s.fJoints.length := by omega
  have c2 : 0 ≤ m.fB ∧ m.fB < s.fJoints.length := by omega
  have c3 : 0 ≤ m.fA ∧ m.fA < s.fJoints.length ∧ 0 ≤ m.fB ∧ m.fB < s.fJoints.length ∧ 1 ≤ m.fKind ∧ m.fKind ≤ 3 := by omega
  rw [decide_eq_false h1, decide_eq_false h2, decide_eq_false h3, decide_eq_false h4, decide_eq_false h5, decide_eq_false h6, decide_eq_true c3, if_pos c1, hx]
  simp only [Bool.false_eq_true, if_false, Option.bind_eq_bind, Option.bind_some, Bool.true_and]
  rw [if_pos c2, hy]
  simp only [Option.bind_some]
  by_cases e1 : x.fX = y.fX <;> by_cases e2 : x.fY = y.fY <;> by_cases hf1 : x.fFixed = true <;> by_cases hf2 : y.fFixed = true <;> simp [e1, e2, hf1, hf2]

theorem member_L2_body (js : List TJoint) (ms : List TMember) (hj : js.length ≤ 6) (hms : ms.length ≤ 8) (i : Int) :
    spec_StructureOk_L2_body (w64 (len_ eTJoint js - 1)) ms (len_ eTMember ms) js i =
    (s_IndexFunc_impl_StructureOk_1_L1_body ms js ms (len_ eTMember ms) i).map (Sum.map id (Sum.map id fun _ => ())) := by
  have hw : w64 ((js.length : Nat) - 1) = (js.length : Nat) - 1 := w64_eq (by omega) (by omega)
  unfold spec_StructureOk_L2_body s_IndexFunc_impl_StructureOk_1_L1_body impl_StructureOk_1
  simp only [len_eq, hw, memberOk_eq, l01In_eq, Option.bind_eq_bind, Option.bind_some]
  by_cases h1 : i < (ms.length : Int)
  · by_cases h0 : 0 ≤ i
    · obtain ⟨m, hm⟩ : ∃ x, ms[i.toNat]? = some x := ⟨_, List.getElem?_eq_getElem (by omega)⟩
      simp only [h1, h0, hm, decide_true, if_true, and_self, Option.bind_some]
      unfold memberB
      by_cases hA : 0 ≤ m.fA ∧ m.fA ≤ (js.length : Int) - 1
      · by_cases hB : 0 ≤ m.fB ∧ m.fB ≤ (js.length : Int) - 1
        · by_cases hK : 1 ≤ m.fKind ∧ m.fKind ≤ 3
          · obtain ⟨x, hx⟩ : ∃ x, js[m.fA.toNat]? = some x := ⟨_, List.getElem?_eq_getElem (by omega)⟩
            obtain ⟨y, hy⟩ : ∃ y, js[m.fB.toNat]? = some y := ⟨_, List.getElem?_eq_getElem (by omega)⟩
            have c1 : 0 ≤ m.fA ∧ m.fA < js.length := by omega
            have c2 : 0 ≤ m.fB ∧ m.fB < js.length := by omega
            have c3 : 0 ≤ m.fA ∧ m.fA < js.length ∧ 0 ≤ m.fB ∧ m.fB < js.length ∧ 1 ≤ m.fKind ∧ m.fKind ≤ 3 := by omega
            rw [decide_eq_true hA, decide_eq_true hB, decide_eq_true hK, decide_eq_true c3]
            simp only [if_true, Option.bind_some, Bool.true_and]
            rw [if_pos c1, hx]
            simp only [Option.bind_some]
            rw [if_pos c2, hy]
            simp only [Option.bind_some]
            by_cases e1 : x.fX = y.fX <;> by_cases e2 : x.fY = y.fY <;> by_cases hf1 : x.fFixed = true <;> by_cases hf2 : y.fFixed = true <;> simp [e1, e2, hf1, hf2]
          · have c3 : ¬ (0 ≤ m.fA ∧ m.fA < js.length ∧ 0 ≤ m.fB ∧ m.fB < js.length ∧ 1 ≤ m.fKind ∧ m.fKind ≤ 3) := by omega
            rw [decide_eq_true hA, decide_eq_true hB, decide_eq_false hK, decide_eq_false c3]
            simp
        · have c3 : ¬ (0 ≤ m.fA ∧ m.fA < js.length ∧ 0 ≤ m.fB ∧ m.fB < js.length ∧ 1 ≤ m.fKind ∧ m.fKind ≤ 3) := by omega
          rw [decide_eq_true hA, decide_eq_false hB, decide_eq_false c3]
          simp
      · have c3 : ¬ (0 ≤ m.fA ∧ m.fA < js.length ∧ 0 ≤ m.fB ∧ m.fB < js.length ∧ 1 ≤ m.fKind ∧ m.fKind ≤ 3) := by omega
        rw [decide_eq_false hA, decide_eq_false c3]
        simp
    · simp [h1, h0]
  · simp [h1]

theorem index_members_some (js : List TJoint) (ms : List TMember) (hms : ms.length ≤ 8) : ∃ r, s_IndexFunc_impl_StructureOk_1_L1 ms js ms (len_ eTMember ms) 0 = some r ∧ ∀ k, r = .inr k → 0 ≤ k := by
  exact iter_inv (f := fun w => s_IndexFunc_impl_StructureOk_1_L1_body ms js ms (len_ eTMember ms) w) (fun i => 0 ≤ i ∧ i ≤ ms.length) (fun i => (ms.length - i).toNat) (fun r => ∀ k, r = .inr k → 0 ≤ k) (fun i hi => by
    obtain ⟨h0, h1⟩ := hi
    by_cases h2 : i < (ms.length : Int)
    · have hw : w64 (i + 1) = i + 1 := w64_eq (by omega) (by omega)
      obtain ⟨x, hx⟩ : ∃ x, ms[i.toNat]? = some x := ⟨_, List.getElem?_eq_getElem (by omega)⟩
      unfold s_IndexFunc_impl_StructureOk_1_L1_body impl_StructureOk_1
      simp only [len_eq, h2, h0, hw, hx, memberOk_eq, decide_true, if_true, and_self, Option.bind_eq_bind, Option.bind_some]
      by_cases e : (!memberB js x) = true
      · exact .inr ⟨_, by rw [if_pos e], by intro k hk; simp at hk; omega⟩
      · exact .inl ⟨i + 1, by rw [if_neg e], by omega, by omega⟩
    · exact .inr ⟨.inl (), by simp [s_IndexFunc_impl_StructureOk_1_L1_body, len_eq, h2], by intro k hk; simp at hk⟩) 0 (by omega)

theorem structureOk_both (s : TStructure) (i0 : ITStructure s) : ∃ r, spec_StructureOk s = some r ∧ impl_StructureOk s = some r := by
  unfold spec_StructureOk impl_StructureOk
  by_cases h1 : 6 < (s.fJoints.length : Int)
  · exact ⟨false, by simp [len_eq, h1], by simp [len_eq, h1]⟩
  by_cases h2 : 8 < (s.fMembers.length : Int)
  · exact ⟨false, by simp [len_eq, h1, h2], by simp [len_eq, h1, h2]⟩
  obtain ⟨r, hr⟩ := structure_L1_some s i0
  rw [structure_L1_eq, hr]
  obtain ⟨q, hq, hq0⟩ := index_members_some s.fJoints s.fMembers (by omega)
  have hL2 : spec_StructureOk_L2 (w64 (len_ eTJoint s.fJoints - 1)) s.fMembers (len_ eTMember s.fMembers) s.fJoints 0 = some (Sum.map id (fun _ => ()) q) :=
    iter_map (f := fun w => s_IndexFunc_impl_StructureOk_1_L1_body s.fMembers s.fJoints s.fMembers (len_ eTMember s.fMembers) w) (Sum.map id fun _ => ()) (fun _ => True) (fun _ _ _ _ => trivial)
      (fun i _ => member_L2_body s.fJoints s.fMembers (by omega) (by omega) i) 0 q hq trivial
  simp only [s_ContainsFunc_impl_StructureOk_1, s_IndexFunc_impl_StructureOk_1, hq, hL2, Option.bind_eq_bind, Option.bind_some]
  have d1 : decide ((6 : Int) < len_ eTJoint s.fJoints) = false := by rw [len_eq]; exact decide_eq_false h1
  have d2 : decide ((8 : Int) < len_ eTMember s.fMembers) = false := by rw [len_eq]; exact decide_eq_false h2
  rw [d1, d2]
  simp only [Bool.false_eq_true, if_false]
  cases r with
  | inr a => exact ⟨false, rfl, rfl⟩
  | inl a =>
    cases q with
    | inl b => exact ⟨true, rfl, by simp⟩
    | inr k =>
      have := hq0 k rfl
      exact ⟨false, rfl, by simp [this]⟩

/-! ### Limits -/

theorem limits_L1_body (l : List Int) (i : Int) : spec_LimitsOk_L1_body l (len_ eI l) i = (s_IndexFunc_impl_fitsLimits_1_L1_body l (len_ eI l) i).map (Sum.map id (Sum.map id fun _ => ())) := by
  unfold spec_LimitsOk_L1_body s_IndexFunc_impl_fitsLimits_1_L1_body impl_fitsLimits_1
  simp only [isLimit_eq, l01In_eq, Option.bind_eq_bind, Option.bind_some]
  by_cases h1 : i < len_ eI l
  · by_cases h2 : 0 ≤ i ∧ i < l.length
    · cases hx : l[i.toNat]? with
      | none => simp [h1]
      | some x =>
        simp only [h1, h2, decide_true, if_true, and_self, Option.bind_some]
        cases hd : decide (0 ≤ x ∧ x ≤ 1000) <;> simp
    · rw [decide_eq_true h1, if_neg h2]
      simp [h2]
  · simp [h1]

theorem index_limits_some (l : List Int) (hl : l.length ≤ maxLen) : ∃ r, s_IndexFunc_impl_fitsLimits_1_L1 l (len_ eI l) 0 = some r ∧ ∀ k, r = .inr k → 0 ≤ k := by
  have hm := maxLen_eq
  exact iter_inv (f := fun w => s_IndexFunc_impl_fitsLimits_1_L1_body l (len_ eI l) w) (fun i => 0 ≤ i ∧ i ≤ l.length) (fun i => (l.length - i).toNat) (fun r => ∀ k, r = .inr k → 0 ≤ k) (fun i hi => by
    obtain ⟨h0, h1⟩ := hi
    by_cases h2 : i < (l.length : Int)
    · have hw : w64 (i + 1) = i + 1 := w64_eq (by omega) (by omega)
      obtain ⟨x, hx⟩ : ∃ x, l[i.toNat]? = some x := ⟨_, List.getElem?_eq_getElem (by omega)⟩
      unfold s_IndexFunc_impl_fitsLimits_1_L1_body impl_fitsLimits_1
      simp only [len_eq, h2, h0, hw, hx, isLimit_eq, decide_true, if_true, and_self, Option.bind_eq_bind, Option.bind_some]
      by_cases e : (!decide (0 ≤ x ∧ x ≤ 1000)) = true
      · exact .inr ⟨_, by rw [if_pos e], by intro k hk; simp at hk; omega⟩
      · exact .inl ⟨i + 1, by rw [if_neg e], by omega, by omega⟩
    · exact .inr ⟨.inl (), by simp [s_IndexFunc_impl_fitsLimits_1_L1_body, len_eq, h2], by intro k hk; simp at hk⟩) 0 (by omega)

theorem jointOk_bounds (j : TJoint) (h : spec_JointOk j = some true) : -50 ≤ j.fX ∧ j.fX ≤ 50 ∧ -50 ≤ j.fY ∧ j.fY ≤ 50 := by
  unfold spec_JointOk at h
  cases hn : spec_IsName j.fName with
  | none => simp [hn] at h
  | some r =>
    simp only [hn, l01In_eq, Option.bind_eq_bind, Option.bind_some] at h
    cases r with
    | false => simp at h
    | true =>
      by_cases a : -50 ≤ j.fX ∧ j.fX ≤ 50
      · by_cases b : -50 ≤ j.fY ∧ j.fY ≤ 50
        · omega
        · simp [a, b] at h
      · simp [a] at h

theorem joints_ok (s : TStructure) (i0 : ITStructure s) (h : spec_StructureOk_L1 s.fJoints (len_ eTJoint s.fJoints) s.fMembers 0 = some (.inl ())) : ∀ (n : Nat) j, s.fJoints[n]? = some j → spec_JointOk j = some true := by
  have hm := maxLen_eq
  obtain ⟨⟨a1, a2⟩, -⟩ := i0
  obtain ⟨r, h1, h2⟩ := iter_inv (f := fun w => spec_StructureOk_L1_body s.fJoints (len_ eTJoint s.fJoints) s.fMembers w) (fun i => 0 ≤ i ∧ i ≤ s.fJoints.length ∧ ∀ (n : Nat) j, (n : Int) < i → s.fJoints[n]? = some j → spec_JointOk j = some true) (fun i => (s.fJoints.length - i).toNat)
    (fun r => r = .inl () → ∀ (n : Nat) j, s.fJoints[n]? = some j → spec_JointOk j = some true) (fun i hi => by
    obtain ⟨h0, h1, h3⟩ := hi
    by_cases h2 : i < (s.fJoints.length : Int)
    · have hw : w64 (i + 1) = i + 1 := w64_eq (by omega) (by omega)
      obtain ⟨x, hx⟩ : ∃ x, s.fJoints[i.toNat]? = some x := ⟨_, List.getElem?_eq_getElem (by omega)⟩
      obtain ⟨p, hp⟩ := jointOk_some x (a2 x (List.mem_of_getElem? hx)).1
      obtain ⟨q, hq⟩ := jointNamed_some ⟨s.fJoints, s.fMembers⟩ x.fName a1
      unfold spec_StructureOk_L1_body
      simp only [len_eq, h2, h0, hw, hx, hp, hq, decide_true, if_true, and_self, Option.bind_eq_bind, Option.bind_some]
      by_cases e : p = true
      · rw [if_pos e]
        by_cases e2 : (q != i) = true
        · exact .inr ⟨_, by rw [if_pos e2], by simp⟩
        · refine .inl ⟨i + 1, by rw [if_neg e2], ⟨by omega, by omega, fun n j hn hj => ?_⟩, by omega⟩
          by_cases c : (n : Int) < i
          · exact h3 n j c hj
          · have : n = i.toNat := by omega
            subst this
            rw [hx] at hj
            obtain rfl := Option.some.inj hj
            rw [hp, e]
      · exact .inr ⟨_, by rw [if_neg e], by simp⟩
    · refine .inr ⟨.inl (), by simp [spec_StructureOk_L1_body, len_eq, h2], fun _ n j hj => h3 n j (by have := lt_of_get hj; omega) hj⟩) 0 ⟨by omega, by omega, fun n j hn => by omega⟩
  have h1' : spec_StructureOk_L1 s.fJoints (len_ eTJoint s.fJoints) s.fMembers 0 = some r := h1
  rw [h] at h1'
  exact h2 (Option.some.inj h1').symm

theorem members_ok (js : List TJoint) (ms : List TMember) (hms : ms.length ≤ 8) (h : s_IndexFunc_impl_StructureOk_1_L1 ms js ms (len_ eTMember ms) 0 = some (.inl ())) : ∀ (n : Nat) m, ms[n]? = some m → memberB js m = true := by
  obtain ⟨r, h1, h2⟩ := iter_inv (f := fun w => s_IndexFunc_impl_StructureOk_1_L1_body ms js ms (len_ eTMember ms) w) (fun i => 0 ≤ i ∧ i ≤ ms.length ∧ ∀ (n : Nat) m, (n : Int) < i → ms[n]? = some m → memberB js m = true) (fun i => (ms.length - i).toNat)
    (fun r => r = .inl () → ∀ (n : Nat) m, ms[n]? = some m → memberB js m = true) (fun i hi => by
    obtain ⟨h0, h1, h3⟩ := hi
    by_cases h2 : i < (ms.length : Int)
    · have hw : w64 (i + 1) = i + 1 := w64_eq (by omega) (by omega)
      obtain ⟨x, hx⟩ : ∃ x, ms[i.toNat]? = some x := ⟨_, List.getElem?_eq_getElem (by omega)⟩
      unfold s_IndexFunc_impl_StructureOk_1_L1_body impl_StructureOk_1
      simp only [len_eq, h2, h0, hw, hx, memberOk_eq, decide_true, if_true, and_self, Option.bind_eq_bind, Option.bind_some]
      by_cases e : (!memberB js x) = true
      · exact .inr ⟨_, by rw [if_pos e], by simp⟩
      · refine .inl ⟨i + 1, by rw [if_neg e], ⟨by omega, by omega, fun n j hn hj => ?_⟩, by omega⟩
        by_cases c : (n : Int) < i
        · exact h3 n j c hj
        · have : n = i.toNat := by omega
          subst this
          rw [hx] at hj
          obtain rfl := Option.some.inj hj
          simpa using e
    · refine .inr ⟨.inl (), by simp [s_IndexFunc_impl_StructureOk_1_L1_body, len_eq, h2], fun _ n j hj => h3 n j (by have := lt_of_get hj; omega) hj⟩) 0 ⟨by omega, by omega, fun n j hn => by omega⟩
  have h1' : s_IndexFunc_impl_StructureOk_1_L1 ms js ms (len_ eTMember ms) 0 = some r := h1
  rw [h] at h1'
  exact h2 (Option.some.inj h1').symm

theorem structureOk_facts (s : TStructure) (i0 : ITStructure s) (h : spec_StructureOk s = some true) :
    (∀ (n : Nat) j, s.fJoints[n]? = some j → spec_JointOk j = some true) ∧ (∀ (n : Nat) m, s.fMembers[n]? = some m → memberB s.fJoints m = true) ∧ s.fJoints.length ≤ 6 ∧ s.fMembers.length ≤ 8 := by
  obtain ⟨p, p1, p2⟩ := structureOk_both s i0
  rw [h] at p1
  obtain rfl := Option.some.inj p1
  unfold impl_StructureOk at p2
  by_cases h1 : 6 < (s.fJoints.length : Int)
  · simp [len_eq, h1] at p2
  by_cases h2 : 8 < (s.fMembers.length : Int)
  · simp [len_eq, h1, h2] at p2
  obtain ⟨r, hr⟩ := structure_L1_some s i0
  rw [structure_L1_eq, hr] at p2
  obtain ⟨q, hq, hq0⟩ := index_members_some s.fJoints s.fMembers (by omega)
  have d1 : decide ((6 : Int) < len_ eTJoint s.fJoints) = false := by rw [len_eq]; exact decide_eq_false h1
  have d2 : decide ((8 : Int) < len_ eTMember s.fMembers) = false := by rw [len_eq]; exact decide_eq_false h2
  rw [d1, d2] at p2
  simp only [s_ContainsFunc_impl_StructureOk_1, s_IndexFunc_impl_StructureOk_1, hq, Bool.false_eq_true, if_false, Option.bind_eq_bind, Option.bind_some] at p2
  cases r with
  | inr a => simp at p2
  | inl a =>
    cases q with
    | inr k =>
      have := hq0 k rfl
      simp [this] at p2
    | inl b => exact ⟨joints_ok s i0 hr, members_ok s.fJoints s.fMembers (by omega) hq, by omega, by omega⟩

/-- The vector along a member. -/
theorem vector_at (s : TStructure) (i0 : ITStructure s) (h : spec_StructureOk s = some true) (k : Int) (h0 : 0 ≤ k) (h1 : k < s.fMembers.length) :
    ∃ x y, impl_Structure_vector s k = some (x, y) ∧ spec_l12Vector s k = some (x, y) ∧ (-100 ≤ x ∧ x ≤ 100) ∧ (-100 ≤ y ∧ y ≤ 100) := by
  obtain ⟨f1, f2, f3, f4⟩ := structureOk_facts s i0 h
  obtain ⟨m, hm⟩ : ∃ x, s.fMembers[k.toNat]? = some x := ⟨_, List.getElem?_eq_getElem (by omega)⟩
  have hmb := f2 _ m hm
  unfold memberB at hmb
  simp only [Bool.and_eq_true, decide_eq_true_eq] at hmb
  obtain ⟨⟨g1, g2, g3, g4, -⟩, -⟩ := hmb
  obtain ⟨a, ha⟩ : ∃ x, s.fJoints[m.fA.toNat]? = some x := ⟨_, List.getElem?_eq_getElem (by omega)⟩
  obtain ⟨b, hb⟩ : ∃ x, s.fJoints[m.fB.toNat]? = some x := ⟨_, List.getElem?_eq_getElem (by omega)⟩
  have ja := jointOk_bounds a (f1 _ a ha)
  have jb := jointOk_bounds b (f1 _ b hb)
  have e1 : w64 (b.fX - a.fX) = b.fX - a.fX := w64_eq (by omega) (by omega)
  have e2 : w64 (b.fY - a.fY) = b.fY - a.fY := w64_eq (by omega) (by omega)
  have c0 : 0 ≤ k ∧ k < s.fMembers.length := ⟨h0, h1⟩
  have c1 : 0 ≤ m.fA ∧ m.fA < s.fJoints.length := ⟨g1, g2⟩
  have c2 : 0 ≤ m.fB ∧ m.fB < s.fJoints.length := ⟨g3, g4⟩
  refine ⟨b.fX - a.fX, b.fY - a.fY, ?_, ?_, by omega, by omega⟩
  · unfold impl_Structure_vector
    simp only [if_pos c0, hm, if_pos c1, if_pos c2, ha, hb, Option.bind_eq_bind, Option.bind_some, e1, e2]
  · unfold spec_l12Vector
    simp only [if_pos c0, hm, if_pos c1, if_pos c2, ha, hb, Option.bind_eq_bind, Option.bind_some, e1, e2]

theorem sq_lt {j k : Int} (h0 : 0 ≤ j) (h : j < k) : j * j < k * k := Int.mul_self_lt_mul_self h0 h

theorem sq_le {j k : Int} (h0 : 0 ≤ j) (h : j ≤ k) : j * j ≤ k * k := Int.mul_self_le_mul_self h0 h

theorem sq_bound {x : Int} (hx : -100 ≤ x ∧ x ≤ 100) : x * x ≤ 10000 ∧ 0 ≤ x * x := by
  rcases Int.le_total 0 x with h | h
  · have := sq_le h hx.2; exact ⟨by omega, Int.mul_nonneg h h⟩
  · have := sq_le (j := -x) (k := 100) (by omega) (by omega)
    rw [Int.neg_mul_neg] at this
    exact ⟨by omega, Int.mul_nonneg_of_nonpos_of_nonpos h h⟩

theorem szIntS_eq (l : List Int) (hl : l.length ≤ maxLen) (left : Int) (h0 : 0 ≤ left) (h1 : left ≤ 1048576) : laws_szIntS l left = some (if left < l.length then -1 else left - l.length) := by
  have hm := maxLen_eq
  have hw : w64 (left - ((l.length : Nat) : Int)) = left - (l.length : Nat) := w64_eq (by omega) (by omega)
  unfold laws_szIntS
  rw [len_eq, hw]
  by_cases e : left < (l.length : Nat)
  · have : left - (l.length : Nat) < 0 := by omega
    simp [e, this]
  · have : ¬ left - (l.length : Nat) < 0 := by omega
    simp [e, this]

theorem szStructure_le (s : TStructure) (i0 : ITStructure s) (left : Int) (h0 : 0 ≤ left) (h1 : left ≤ 1048576) (q : Int) (hq : laws_szStructure s left = some q) : q ≤ 1048576 := by
  obtain ⟨⟨a1, a2⟩, a3, a4⟩ := i0
  obtain ⟨r, r1, r2, r3⟩ := szJointS_some s.fJoints left a1 (fun j hj => (a2 j hj).1) h0 h1
  unfold laws_szStructure at hq
  rw [r1] at hq
  by_cases h : r < 0
  · simp [h] at hq; omega
  · obtain ⟨t, t1, t2, t3⟩ := szMemberS_some s.fMembers r a3 (by omega) (by omega)
    by_cases ht : t < 0
    · simp [h, t1, ht] at hq; omega
    · simp [h, t1, ht] at hq; omega

end Go.Proofs.YtfhmbogcjcgchaaGreat
