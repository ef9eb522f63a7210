/- The program's StructureOk and the reference's say the same, in plain functions. No condition. -/
import Derived.Test.YtjgnmimfihhphaaPureCopy
import Derived.Test.YtjgnmimfihhphaaPureFnExactBeamOk
namespace Go.Proofs.Ytjgnmimfihhphaa
open Go Go.VL

theorem maxLen_eq : maxLen = 9223372036854775807 := by decide

theorem isPlace_eq (n : Int) : impl_isPlace n = spec_l01In n (-50) 50 := by
  rw [l01In_eq]
  unfold impl_isPlace
  by_cases h : -50 ≤ n <;> simp [h]

theorem isLetter_eq (c : Int) : impl_isLetter c = some (decide (97 ≤ c ∧ c ≤ 122)) := by
  unfold impl_isLetter
  by_cases h : 97 ≤ c <;> simp [h]

theorem isDigit_eq (c : Int) : impl_isDigit c = some (decide (48 ≤ c ∧ c ≤ 57)) := by
  unfold impl_isDigit
  by_cases h : 48 ≤ c <;> simp [h]

theorem isName_body (s : ByteArray) (i : Int) : impl_IsName_L1_body s s.size i = spec_IsName_L1_body s i := by
  unfold impl_IsName_L1_body spec_IsName_L1_body
  generalize ((s.data.toList.getD i.toNat 0).toNat : Int) = c
  simp only [isLetter_eq, isDigit_eq, Option.bind_eq_bind, Option.bind_some]
  by_cases h1 : i < (s.size : Int) <;> by_cases h0 : 0 ≤ i <;> by_cases a : (97 : Int) ≤ c <;> by_cases b : c ≤ 122 <;> by_cases d : i = 0 <;> by_cases e : c < 48 <;> by_cases f : 57 < c <;>
    simp [h1, h0, a, b, d, e, f, Int.not_lt.1, Int.not_le] <;> omega

theorem isName_eq (s : ByteArray) : impl_IsName s = spec_IsName s := by
  have h : impl_IsName_L1 s s.size 0 = spec_IsName_L1 s 0 := by
    unfold impl_IsName_L1 spec_IsName_L1
    congr 1
    funext w
    exact isName_body s w
  unfold impl_IsName spec_IsName
  rw [h]
  congr 1
  funext r
  cases r with
  | inr a => rfl
  | inl a =>
    simp only [l01In_eq, Option.bind_eq_bind, Option.bind_some]
    by_cases h0 : s.size = 0
    · have : s = ⟨#[]⟩ := by
        cases s with
        | mk d => simp only [ByteArray.size] at h0; rw [Array.size_eq_zero_iff] at h0; rw [h0]
      subst this
      have e0 : (ByteArray.mk #[]).size = 0 := rfl
      simp [e0]
    · have hne : s.toList ≠ (⟨#[]⟩ : ByteArray).toList := by
        intro e
        have hl : ∀ x : ByteArray, x.toList.length = x.size := by intro x; rw [ByteArray.toList_eq]; rfl
        have := hl s
        rw [e, hl] at this
        exact h0 this.symm
      simp only [beq_iff_eq, hne, Bool.not_eq_true', beq_eq_false_iff_ne, ne_eq, not_false_eq_true, if_true]
      congr 1
      apply decide_eq_decide.2
      omega

theorem isName_some (s : ByteArray) (hs : s.size ≤ maxLen) : ∃ r, spec_IsName s = some r := by
  have hm := maxLen_eq
  obtain ⟨r, h, -⟩ := iter_inv (f := fun w => spec_IsName_L1_body s w) (fun i => 0 ≤ i ∧ i ≤ s.size) (fun i => (s.size - i).toNat) (fun _ => True) (fun i hi => by
    obtain ⟨h0, h1⟩ := hi
    by_cases h2 : i < (s.size : Int)
    · have hw : w64 (i + 1) = i + 1 := w64_eq (by omega) (by omega)
      unfold spec_IsName_L1_body
      generalize ((s.data.toList.getD i.toNat 0).toNat : Int) = c
      have hnext : 0 ≤ i + 1 ∧ i + 1 ≤ (s.size : Int) := by omega
      have hmm : ((s.size : Int) - (i + 1)).toNat < ((s.size : Int) - i).toNat := by omega
      have key : ∀ x : Option (Int ⊕ (Unit ⊕ Unit)), (x = some (.inl (i + 1)) ∨ x = some (.inr (.inr ()))) → (∃ a', x = some (.inl a') ∧ (0 ≤ a' ∧ a' ≤ (s.size : Int)) ∧ ((s.size : Int) - a').toNat < ((s.size : Int) - i).toNat) ∨ ∃ r, x = some (.inr r) ∧ True := by
        intro x hx
        rcases hx with hx | hx
        · exact .inl ⟨i + 1, hx, hnext, hmm⟩
        · exact .inr ⟨_, hx, trivial⟩
      apply key
      simp only [h2, h0, hw, decide_true, if_true, and_self]
      by_cases a : (97 : Int) ≤ c <;> by_cases b : c ≤ 122 <;> by_cases d : i = 0 <;> by_cases e : c < 48 <;> by_cases f : 57 < c <;> simp [a, b, d, e, f]
    · exact .inr ⟨.inl (), by simp [spec_IsName_L1_body, h2], trivial⟩) 0 (by omega)
  have h' : spec_IsName_L1 s 0 = some r := h
  unfold spec_IsName
  rw [h']
  cases r with
  | inl a => exact ⟨_, by simp [l01In_eq]; rfl⟩
  | inr a => exact ⟨_, rfl⟩

theorem jointOk_eq (j : TJoint) : impl_JointOk j = spec_JointOk j := by
  unfold impl_JointOk spec_JointOk
  simp only [isName_eq, isPlace_eq]

theorem jointOk_some (j : TJoint) (h : j.fName.size ≤ maxLen) : ∃ r, spec_JointOk j = some r := by
  obtain ⟨r, hr⟩ := isName_some _ h
  unfold spec_JointOk
  simp only [hr, l01In_eq, Option.bind_eq_bind, Option.bind_some]
  repeat' split
  all_goals exact ⟨_, rfl⟩

theorem jointNamed_eq (s : TStructure) (n : ByteArray) : impl_JointNamed s n = spec_JointNamed s n := by
  have h : slices_IndexFunc_L1 s.fJoints n (len_ eTJoint s.fJoints) 0 = spec_JointNamed_L1 n s.fJoints (len_ eTJoint s.fJoints) 0 := by
    unfold slices_IndexFunc_L1 spec_JointNamed_L1
    congr 1
  unfold impl_JointNamed spec_JointNamed slices_IndexFunc
  rw [h]
  cases spec_JointNamed_L1 n s.fJoints (len_ eTJoint s.fJoints) 0 with
  | none => rfl
  | some r => cases r <;> rfl

theorem jointNamed_some (s : TStructure) (n : ByteArray) (h : s.fJoints.length ≤ maxLen) : ∃ r, spec_JointNamed s n = some r := by
  have hm := maxLen_eq
  obtain ⟨r, h1, -⟩ := iter_inv (f := fun w => spec_JointNamed_L1_body n s.fJoints (len_ eTJoint s.fJoints) w) (fun i => 0 ≤ i ∧ i ≤ s.fJoints.length) (fun i => (s.fJoints.length - i).toNat) (fun _ => True) (fun i hi => by
    obtain ⟨h0, h1⟩ := hi
    by_cases h2 : i < (s.fJoints.length : Int)
    · have hw : w64 (i + 1) = i + 1 := w64_eq (by omega) (by omega)
      obtain ⟨x, hx⟩ : ∃ x, s.fJoints[i.toNat]? = some x := ⟨_, List.getElem?_eq_getElem (by omega)⟩
      unfold spec_JointNamed_L1_body
      simp only [len_eq, h2, h0, hw, hx, decide_true, if_true, and_self, Option.bind_eq_bind, Option.bind_some]
      by_cases e : (x.fName.toList == n.toList) = true
      · exact .inr ⟨_, by rw [if_pos e], trivial⟩
      · exact .inl ⟨i + 1, by rw [if_neg e], by omega, by omega⟩
    · exact .inr ⟨.inl (), by simp [spec_JointNamed_L1_body, len_eq, h2], trivial⟩) 0 (by omega)
  have h' : spec_JointNamed_L1 n s.fJoints (len_ eTJoint s.fJoints) 0 = some r := h1
  unfold spec_JointNamed
  rw [h']
  cases r with
  | inl a => exact ⟨_, rfl⟩
  | inr a => exact ⟨_, rfl⟩

end Go.Proofs.Ytjgnmimfihhphaa
