/- The program's BeamOk and the reference's say the same, in plain functions. No condition. -/
import Derived.Test.YtjgnmimfihhphaaVFnExactBeamOkA
namespace Go.Proofs.Ytjgnmimfihhphaa
open Go Go.VL

theorem l01In_eq (n lo hi : Int) : spec_l01In n lo hi = some (decide (lo ≤ n ∧ n ≤ hi)) := by
  unfold spec_l01In
  by_cases h : lo ≤ n <;> simp [h]

theorem isSpot_eq (n : Int) : impl_isSpot n = some (decide (-1000 ≤ n ∧ n ≤ 1000)) := by
  unfold impl_isSpot
  by_cases h : -1000 ≤ n <;> simp [h]

theorem isLimit_eq (n : Int) : impl_isLimit n = some (decide (0 ≤ n ∧ n ≤ 1000)) := by
  unfold impl_isLimit
  by_cases h : 0 ≤ n <;> simp [h]

theorem beamOk_eq (b : TBeam) : impl_BeamOk b = spec_BeamOk b := by
  unfold impl_BeamOk spec_BeamOk
  simp only [l01In_eq, isSpot_eq, isLimit_eq]

theorem beamOk_some (b : TBeam) : ∃ r, spec_BeamOk b = some r := by
  unfold spec_BeamOk
  simp only [l01In_eq, Option.bind_eq_bind, Option.bind_some]
  repeat' split
  all_goals exact ⟨_, rfl⟩

theorem laws_FnExactBeamOk_true (x0 : TBeam) (i0 : ITBeam x0) : laws_FnExactBeamOk x0 = some true := by
  obtain ⟨r, hr⟩ := beamOk_some x0
  simp [laws_FnExactBeamOk, laws_toBeam, beamOk_eq, hr]

end Go.Proofs.Ytjgnmimfihhphaa
