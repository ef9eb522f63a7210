/- The program's IsSteep and the reference's IsSteep agree on all four integers: both test the same ranges and the same inequality of products. -/
import Derived.Test.YtjgnmimfihhphaaPFnExactIsSteepx1
namespace Go.Proofs.Ytjgnmimfihhphaa.Pure
open Go.RowKit Go.Proofs.Ytjgnmimfihhphaa.PFnExactIsSteep Go.Proofs.YtjgnmimfihhphaaW.PrintWords Go.Proofs.YtjgnmimfihhphaaW.PrintLast

theorem FnExactIsSteep : laws_FnExactIsSteep.Pure := by
  intro a b c d _ _ _ _
  have e : impl_IsSteep.f a b c d = spec_IsSteep.f a b c d := by
    unfold impl_IsSteep.f spec_IsSteep.f impl_isWidth.f impl_isHeight.f spec_l01In.f
    rfl
  have hs : ∀ x lo hi, ∃ r, spec_l01In.f x lo hi = some r := by
    intro x lo hi
    unfold spec_l01In.f
    split <;> exact ⟨_, rfl⟩
  obtain ⟨r1, h1⟩ := hs a 0 1000
  obtain ⟨r2, h2⟩ := hs b 1 1000
  obtain ⟨r3, h3⟩ := hs c 0 1000
  obtain ⟨r4, h4⟩ := hs d 1 1000
  have h : ∃ r, spec_IsSteep.f a b c d = some r := by
    unfold spec_IsSteep.f
    rw [h1, h2, h3, h4]
    cases r1 <;> cases r2 <;> cases r3 <;> cases r4 <;> exact ⟨_, rfl⟩
  obtain ⟨r, hr⟩ := h
  unfold laws_FnExactIsSteep.f
  rw [e, hr]
  simp

end Go.Proofs.Ytjgnmimfihhphaa.Pure
