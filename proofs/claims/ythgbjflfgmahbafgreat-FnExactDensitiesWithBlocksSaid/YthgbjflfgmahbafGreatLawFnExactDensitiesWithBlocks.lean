/- The row, from the walk and the plain part. No condition. -/
import Derived.Test.YthgbjflfgmahbafGreatRows
import Derived.WalkKit
import Derived.ProofKit
import Derived.OpenShut
import Derived.ShutString
import Derived.ChangeOld
import Derived.Below
import Derived.SizedLaws
import Derived.Test.YthgbjflfgmahbafGreatMF
namespace Go.Proofs.YthgbjflfgmahbafGreat.fnExactDensitiesWithBlocks
open Go.ChangeShapes Go.WideShapes Go.ChangeAt Go.RowKit Go.VL
set_option linter.unusedVariables false
theorem laidOut : laidOutB Tryz.prog = true := by kernel_rfl
theorem own : ownKnob Tryz.prog.godebug = none := by kernel_rfl
set_option maxRecDepth 100000 in
theorem lifted (os : Os) (started : os.Started) (H : Type) (enc : TypeId × Value → H) :
    ReturnsInHanded {} Tryz.checked os 3 .any (Rows.fnExactDensitiesWithBlocksSpec.pre6 enc Tryz.prog Tryz.f3 Rows.fnExactDensitiesWithBlocksRow.domain false) (Rows.fnExactDensitiesWithBlocksSpec.post enc Tryz.prog Tryz.f3 false true false false) := by
  refine returnsInHanded_of_change_sized (C := Tryz.checked) own started (by kernel_rfl) Tryz.func3
    (ChangeSpec.witness6 (enc := enc) (C := Tryz.checked) false ⟨#[], #[.agg #[.slice none 0 0, .slice none 0 0], .slice none 0 0, .slice none 0 0], []⟩ 8 (by kernel_rfl) (by kernel_rfl) (by kernel_rfl) (by kernel_rfl)) ?_
  intro W base args ds gs before hval0 hW hcnd hsz0 _
  have hval : ∀ (j : Nat) t v, Tryz.f3.params[j]? = some t → args[j]? = some v → Value.okWide Tryz.prog W .any base t v := hval0
  have hW' := hW
  obtain ⟨p, q, hA0, hV, rfl, hfz, hnd⟩ := hW
  have hA : DataW.TrodAll enc Tryz.prog W 0 (fun _ => true) true Tryz.f3.params.toList args.toList ds p := hA0
  rw [Tryz.params3] at hA hval
  obtain ⟨v0, vs0, d0, ds0, p0, q0, hargs, rfl, rfl, h0, r0⟩ := trodAll_cons hA
  obtain ⟨v1, vs1, d1, ds1, p1, q1, rfl, rfl, rfl, h1, r1⟩ := trodAll_cons r0
  obtain ⟨v2, vs2, d2, ds2, p2, q2, rfl, rfl, rfl, h2, r2⟩ := trodAll_cons r1
  obtain ⟨rfl, rfl, rfl⟩ := trodAll_nil r2
  obtain rfl : args = #[v0, v1, v2] := by cases args; simp_all
  obtain ⟨rfl, rfl⟩ := trodVars_none hV
  obtain ⟨cs0, rfl, -⟩ := okWide_struct Tryz.underlying25 (hval 0 25 v0 rfl rfl)
  obtain ⟨x0, i0, e0⟩ := arg_agg (aet _) h0
  have n1 : ∀ cs, v1 ≠ .agg cs := by
    obtain ⟨a, l, c, e⟩ := okWide_slice Tryz.underlying26 (hval 1 26 v1 rfl rfl)
    intro cs hcs
    rw [e] at hcs
    cases hcs
  obtain ⟨x1, i1, e1⟩ := arg_one (f := fun x => .isl 1 (x.map eI)) (KM (sz := 1) Tryz.underlying26 (by kernel_rfl) (by kernel_rfl) (by decide) (wk Tryz.underlying3 (by kernel_rfl))) (fun _ => rfl) h1 n1
  have n2 : ∀ cs, v2 ≠ .agg cs := by
    obtain ⟨a, l, c, e⟩ := okWide_slice Tryz.underlying27 (hval 2 27 v2 rfl rfl)
    intro cs hcs
    rw [e] at hcs
    cases hcs
  obtain ⟨x2, i2, e2⟩ := arg_one (f := fun x => .isl 4 (x.map eTBlock)) (KM (sz := 4) Tryz.underlying27 (by kernel_rfl) (by kernel_rfl) (by decide) (afF _)) (fun _ => rfl) h2 n2
  clear hA0 hval0 hsz0
  refine (Con.row (vs := [.agg cs0, v1, v2]) (ack true (acg x0 x1 x2 i0 i1 i2)) (.cons e0 (.cons e1 (.cons e2 .nil)))).mono fun e W' ⟨he, bel⟩ => ?_
  subst he
  exact ⟨_, rfl, _, _, _, [], _, [], hW', trodAll_mk1 (shut_bool Tryz.underlying4 _), (trodAll_cons_mk (Below.trod laidOut (by kernel_rfl) (of_decide_eq_true (by kernel_rfl)) h0 bel (trod_lt' h0)) (trodAll_cons_mk (Below.trod laidOut (by kernel_rfl) (of_decide_eq_true (by kernel_rfl)) h1 bel (trod_lt' h1)) (trodAll_cons_mk (Below.trod laidOut (by kernel_rfl) (of_decide_eq_true (by kernel_rfl)) h2 bel (trod_lt' h2)) trodAll_mk0))), rfl, bel.frame _, fun h => by cases h⟩
theorem over : Rows.fnExactDensitiesWithBlocksRow.holds Tryz.pinned (OpenSpec.ofChange Rows.fnExactDensitiesWithBlocksSpec) :=
  OpenClaim.holds_of_wide 3 Tryz.f3 rfl rfl rfl rfl rfl rfl rfl ⟨rfl, rfl, rfl, rfl, rfl⟩ rfl rfl rfl rfl rfl (by kernel_rfl) Tryz.func3 (by kernel_rfl)
    (of_decide_eq_true (by kernel_rfl)) (by unfold Func.isWrapper; first | (rw [if_pos (by decide +kernel)]; kernel_rfl) | (rw [if_neg (by decide +kernel)]; exact ⟨rfl, rfl⟩))
    (fun os started H enc _ => lifted os started H enc)
theorem proved : Rows.FnExactDensitiesWithBlocksSaid := over
end Go.Proofs.YthgbjflfgmahbafGreat.fnExactDensitiesWithBlocks
namespace Go.Proofs.YthgbjflfgmahbafGreat
theorem fnExactDensitiesWithBlocks_holds : Rows.FnExactDensitiesWithBlocksSaid := fnExactDensitiesWithBlocks.proved
end Go.Proofs.YthgbjflfgmahbafGreat
