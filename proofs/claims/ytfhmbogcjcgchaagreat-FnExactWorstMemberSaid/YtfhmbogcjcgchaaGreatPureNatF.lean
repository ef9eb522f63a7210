/- The program's long division, in plain functions. No condition. -/
import Derived.Test.YtfhmbogcjcgchaaGreatPureNatE
namespace Go.Proofs.YtfhmbogcjcgchaaGreat
open Go Go.VL

theorem guess_up {g q v1 v2 top u3 rest R W P : Int} (hP : 1 ≤ P) (hg : 0 ≤ g) (ht : g * v1 + rest = top) (hW1 : P * (v1 * 1000000000 + v2) ≤ W) (hR2 : R < P * (top * 1000000000 + u3 + 1)) (hqW : q * W ≤ R) (hW : 0 ≤ W) (h : rest * 1000000000 + u3 < g * v2) : q < g := by
  apply Int.not_le.mp
  intro hgq
  have h1 : g * W ≤ q * W := Int.mul_le_mul_of_nonneg_right hgq hW
  have h2 : g * (P * (v1 * 1000000000 + v2)) ≤ g * W := Int.mul_le_mul_of_nonneg_left hW1 hg
  have h3 : g * (P * (v1 * 1000000000 + v2)) = P * (g * (v1 * 1000000000 + v2)) := by grind
  have h4 : P * (g * (v1 * 1000000000 + v2)) < P * (top * 1000000000 + u3 + 1) := by omega
  have h5 := Int.lt_of_mul_lt_mul_left h4 (by omega)
  have h6 : g * (v1 * 1000000000 + v2) = 1000000000 * (g * v1) + g * v2 := by grind
  omega

theorem guess_end {g v1 v2 top u3 rest R W P : Int} (hP : 1 ≤ P) (hg : 0 ≤ g) (hg1 : g ≤ 999999999) (hv1 : 1 ≤ v1) (hv2 : 0 ≤ v2) (ht : g * v1 + rest = top) (hW1 : P * (v1 * 1000000000 + v2) ≤ W) (hW2 : W < P * (v1 * 1000000000 + v2 + 1)) (hR1 : P * (top * 1000000000 + u3) ≤ R) (h : g * v2 ≤ rest * 1000000000 + u3) : g ≤ R / W + 1 := by
  have hWp : P * 1000000000 ≤ W := by
    have h1 : P * 1000000000 ≤ P * (v1 * 1000000000 + v2) := Int.mul_le_mul_of_nonneg_left (by omega) (by omega)
    omega
  have h1 : g * W ≤ g * (P * (v1 * 1000000000 + v2 + 1)) := Int.mul_le_mul_of_nonneg_left (by omega) hg
  have h2 : g * (P * (v1 * 1000000000 + v2 + 1)) = P * (1000000000 * (g * v1) + g * v2 + g) := by grind
  have h3 : P * (1000000000 * (g * v1) + g * v2 + g) ≤ P * (top * 1000000000 + u3 + 999999999) := Int.mul_le_mul_of_nonneg_left (by omega) (by omega)
  have h4 : P * (top * 1000000000 + u3 + 999999999) = P * (top * 1000000000 + u3) + P * 999999999 := by grind
  have h5 : (g - 1) * W = g * W - W := by grind
  have : g - 1 ≤ R / W := (Int.le_ediv_iff_mul_le (by omega)).2 (by omega)
  omega

theorem guess_loop {row0 u rv row3 : List Int} {N n j : Nat} {v1 v2 u3 top R W P : Int} (hn : 2 ≤ n) (hn1 : n ≤ 5000000) (hjn : j + n < N) (hN : N ≤ 5000000) (h1 : rv[n - 1]? = some v1) (h2 : rv[n - 2]? = some v2) (h3 : u[j + n - 2]? = some u3)
    (hv1 : 1 ≤ v1 ∧ v1 < 1000000000) (hv2 : 0 ≤ v2 ∧ v2 < 1000000000) (hu3 : 0 ≤ u3 ∧ u3 < 1000000000) (hP : 1 ≤ P) (hW1 : P * (v1 * 1000000000 + v2) ≤ W) (hW2 : W < P * (v1 * 1000000000 + v2 + 1)) (hR1 : P * (top * 1000000000 + u3) ≤ R) (hR2 : R < P * (top * 1000000000 + u3 + 1)) (hR : 0 ≤ R) (hRW : R < 1000000000 * W) (ht0 : 0 ≤ top) (ht1 : top ≤ v1 * 1000000000 + 999999999) (hq : R / W ≤ top / v1) :
    ∃ g, impl_over_L2 N n n j row0 u rv row3 (top / v1) (top % v1) = some g ∧ (R / W = g ∨ R / W + 1 = g) ∧ 0 ≤ g ∧ g ≤ 999999999 := by
  have hWp : 0 < W := by
    have h1 : P * 1000000000 ≤ P * (v1 * 1000000000 + v2) := Int.mul_le_mul_of_nonneg_left (by omega) (by omega)
    omega
  have hq0 : 0 ≤ R / W := Int.ediv_nonneg hR (by omega)
  have hq1 : R / W < 1000000000 := Int.ediv_lt_of_lt_mul hWp hRW
  have hqW : R / W * W ≤ R := Int.ediv_mul_le _ (by omega)
  have htv := Int.mul_ediv_add_emod top v1
  have hm0 := Int.emod_nonneg top (b := v1) (by omega)
  have hm1 := Int.emod_lt_of_pos top (b := v1) (by omega)
  have hen1 : w64 ((n : Int) - 1) = ((n - 1 : Nat) : Int) := by rw [w64_eq (by omega) (by omega)]; omega
  have hen2 : w64 ((n : Int) - 2) = ((n - 2 : Nat) : Int) := by rw [w64_eq (by omega) (by omega)]; omega
  have hejn : w64 (w64 ((j : Int) + (n : Int)) - 2) = ((j + n - 2 : Nat) : Int) := by rw [w64_eq (x := (j : Int) + n) (by omega) (by omega), w64_eq (by omega) (by omega)]; omega
  have htop : top / v1 ≤ top := Int.ediv_le_self _ ht0
  refine iter_inv (I := fun w : Int × Int => w.1 * v1 + w.2 = top ∧ 0 ≤ w.2 ∧ w.2 < 1000000000 ∧ R / W ≤ w.1 ∧ w.1 ≤ top) (m := fun w : Int × Int => w.1.toNat) _ ?_ _ ⟨by rw [Int.mul_comm]; exact htv, hm0, by simp only; omega, hq, htop⟩
  rintro ⟨g, rest⟩ ⟨i1, i2, i3, i4, i5⟩
  simp only at i1 i2 i3 i4 i5 ⊢
  have hwr : w64 (rest + v1) = rest + v1 := w64_eq (by omega) (by omega)
  have hwg : w64 (g - 1) = g - 1 := w64_eq (by omega) (by omega)
  have hg1 : (g - 1) * v1 + (rest + v1) = top := by grind
  have hbreak : R / W ≤ g - 1 → 1000000000 ≤ rest + v1 → (R / W = g - 1 ∨ R / W + 1 = g - 1) ∧ 0 ≤ g - 1 ∧ g - 1 ≤ 999999999 := by
    intro k1 k2
    have k3 : (g - 1) * v1 < 1000000000 * v1 := by omega
    have k4 : g - 1 < 1000000000 := Int.lt_of_mul_lt_mul_right k3 (by omega)
    have k5 : 0 ≤ g - 1 := by omega
    have k6 := (mul_bd ⟨k5, k4⟩ hv2).2
    have := guess_end hP k5 (by omega) hv1.1 hv2.1 hg1 hW1 hW2 hR1 (by omega)
    omega
  by_cases hbig : 1000000000 ≤ g
  · by_cases hb : 1000000000 ≤ rest + v1
    · refine .inr ⟨g - 1, ?_, hbreak (by omega) hb⟩
      unfold impl_over_L2_body
      rw [if_pos (by simpa using hbig), hen1, if_pos (by omega), Nat.zero_add, Int.toNat_natCast, h1]
      simp only [Option.bind_eq_bind, Option.bind_some, hwr, hwg]
      rw [if_pos (by simpa using hb)]
    · refine .inl ⟨(g - 1, rest + v1), ?_, ⟨hg1, by simp only; omega, by simp only; omega, by simp only; omega, by simp only; omega⟩, by simp only; omega⟩
      unfold impl_over_L2_body
      rw [if_pos (by simpa using hbig), hen1, if_pos (by omega), Nat.zero_add, Int.toNat_natCast, h1]
      simp only [Option.bind_eq_bind, Option.bind_some, hwr, hwg]
      rw [if_neg (by simpa using hb)]
  · have k0 : 0 ≤ g := by omega
    obtain ⟨m1, m2⟩ := mul_bd ⟨k0, by omega⟩ hv2
    have e1 : w64 (w64 (rest * 1000000000) + u3) = rest * 1000000000 + u3 := by rw [w64_eq (x := rest * 1000000000) (by omega) (by omega), w64_eq (by omega) (by omega)]
    have e2 : w64 (g * v2) = g * v2 := w64_eq (by omega) (by omega)
    have hbody : impl_over_L2_body N n n j row0 u rv row3 g rest = some (if rest * 1000000000 + u3 < g * v2 then (if 1000000000 ≤ rest + v1 then .inr (g - 1) else .inl (g - 1, rest + v1)) else .inr g) := by
      unfold impl_over_L2_body
      rw [if_neg (by simpa using hbig), hen2, if_pos (by omega), Nat.zero_add, Int.toNat_natCast, h2]
      simp only [Option.bind_eq_bind, Option.bind_some]
      rw [hejn, if_pos (by omega), Nat.zero_add, Int.toNat_natCast, h3]
      simp only [Option.bind_some, e1, e2]
      by_cases hc : rest * 1000000000 + u3 < g * v2
      · rw [if_pos (by simpa using hc), if_pos hc, hen1, if_pos (by omega), Nat.zero_add, Int.toNat_natCast, h1]
        simp only [Option.bind_some, hwr, hwg]
        by_cases hb : 1000000000 ≤ rest + v1
        · rw [if_pos (by simpa using hb), if_pos hb]
        · rw [if_neg (by simpa using hb), if_neg hb]
      · rw [if_neg (by simpa using hc), if_neg hc]
    rw [hbody]
    by_cases hc : rest * 1000000000 + u3 < g * v2
    · have hup := guess_up hP k0 i1 hW1 hR2 hqW (by omega) hc
      rw [if_pos hc]
      by_cases hb : 1000000000 ≤ rest + v1
      · rw [if_pos hb]
        exact .inr ⟨g - 1, rfl, hbreak (by omega) hb⟩
      · rw [if_neg hb]
        exact .inl ⟨(g - 1, rest + v1), rfl, ⟨hg1, by simp only; omega, by simp only; omega, by simp only; omega, by simp only; omega⟩, by simp only; omega⟩
    · rw [if_neg hc]
      have := guess_end hP k0 (by omega) hv1.1 hv2.1 i1 hW1 hW2 hR1 (by omega)
      exact .inr ⟨g, rfl, by omega, by omega, by omega⟩

end Go.Proofs.YtfhmbogcjcgchaaGreat
