/- The program's long division: one digit, and the whole. No condition. -/
import Derived.Test.YtfhmbogcjcgchaaGreatPureNatF
namespace Go.Proofs.YtfhmbogcjcgchaaGreat
open Go Go.VL

theorem drop_same {a b : List Int} {k : Nat} (h : ∀ i, k ≤ i → a[i]? = b[i]?) : a.drop k = b.drop k := by
  apply List.ext_getElem?
  intro i
  rw [List.getElem?_drop, List.getElem?_drop]
  exact h _ (by omega)
theorem take_same {a b : List Int} {k : Nat} (h : ∀ i, i < k → a[i]? = b[i]?) : a.take k = b.take k := by
  apply List.ext_getElem?
  intro i
  rw [List.getElem?_take, List.getElem?_take]
  by_cases hi : i < k
  · rw [if_pos hi, if_pos hi]; exact h i hi
  · rw [if_neg hi, if_neg hi]

/-- What a segment of a row comes to when a multiple was taken away in it. -/
theorem seg {u w : List Int} {j n : Nat} {y c : Int} (hlen : w.length = u.length) (hjn : j + n < u.length) (hE : LimE (j + n) w) (hy : w[j + n]? = some y) (hsame : ∀ i, i < j ∨ j + n < i → w[i]? = u[i]?) (h0 : V (u.drop (j + n + 1)) = 0) (hV : V w = V u - c * B j) :
    V (w.drop j) = V (u.drop j) - c ∧ ∃ low, 0 ≤ low ∧ low < B n ∧ V (w.drop j) = low + B n * y := by
  have h1 := V_split (l := u) (n := j) (by omega)
  have h2 := V_split (l := w) (n := j) (by omega)
  rw [take_same (a := w) (b := u) (fun i hi => hsame i (.inl hi))] at h2
  have h3 : B j * V (w.drop j) = B j * (V (u.drop j) - c) := by grind
  have hB := B_pos j
  have h4 : V (w.drop j) = V (u.drop j) - c := Int.eq_of_mul_eq_mul_left (by omega) h3
  refine ⟨h4, V ((w.drop j).take n), ?_, ?_, ?_⟩
  · refine V_nonneg (fun x hx => ?_)
    obtain ⟨i, hi⟩ := List.mem_iff_getElem?.mp hx
    have hin := lt_of_get hi
    simp at hin
    rw [List.getElem?_take, if_pos (by omega), List.getElem?_drop] at hi
    exact hE _ _ (by omega) hi
  · have hl : Lim ((w.drop j).take n) := fun x hx => by
      obtain ⟨i, hi⟩ := List.mem_iff_getElem?.mp hx
      have hin := lt_of_get hi
      simp at hin
      rw [List.getElem?_take, if_pos (by omega), List.getElem?_drop] at hi
      exact hE _ _ (by omega) hi
    have := V_lt hl
    rwa [List.length_take, Nat.min_eq_left (by simp; omega)] at this
  · have h5 := V_split (l := w.drop j) (n := n) (by simp; omega)
    rw [List.drop_drop, V_drop1 hy, drop_same (a := w) (b := u) (k := j + n + 1) (fun i hi => hsame i (.inr (by omega))), h0] at h5
    rw [h5]
    grind

theorem limE_zero {w : List Int} {p : Nat} (hE : LimE p w) (hy : w[p]? = some 0) : Lim w := fun x hx => by
  obtain ⟨i, hi⟩ := List.mem_iff_getElem?.mp hx
  by_cases h : i = p
  · subst h
    rw [hy] at hi
    have := Option.some.inj hi
    omega
  · exact hE i x h hi

theorem top_zero {low y X Bn W : Int} (h0 : 0 ≤ low) (h1 : low < Bn) (hX : X = low + Bn * y) (h2 : 0 ≤ X) (h3 : X < W) (h4 : W ≤ Bn) : y = 0 := by
  have hlt : Bn * y < Bn * 1 := by omega
  have h5 := Int.lt_of_mul_lt_mul_left hlt (by omega)
  have hgt : Bn * (-1) < Bn * y := by omega
  have h6 := Int.lt_of_mul_lt_mul_left hgt (by omega)
  omega

theorem over_step {row0 u rv row3 : List Int} {n j : Nat} {v1 W : Int} (hn : 2 ≤ n) (hnl : n ≤ rv.length) (hv : Lim (rv.take n)) (hW : V (rv.take n) = W) (hv1 : rv[n - 1]? = some v1) (hv10 : 1 ≤ v1) (hu : Lim u) (hul : u.length ≤ 5000000) (hjn : j + n < u.length) (hlt : V (u.drop (j + 1)) < W) (hr3 : j < row3.length) :
    ∃ u', impl_over_L3_body u.length n n row0 rv j u row3 = some (.inl ((j : Int) - 1, u', row3.set j (V (u.drop j) / W))) ∧ Lim u' ∧ u'.length = u.length ∧ V u' = V u - (V (u.drop j) / W) * B j * W ∧ V (u'.drop j) < W ∧ 0 ≤ V (u.drop j) / W ∧ V (u.drop j) / W < 1000000000 := by
  obtain ⟨n, rfl⟩ : ∃ m, n = m + 2 := ⟨n - 2, by omega⟩
  have hvl : (rv.take (n + 2)).length = n + 2 := by simp; omega
  have hg1 : (rv.take (n + 2))[n + 1]? = some v1 := by rw [List.getElem?_take, if_pos (by omega)]; exact hv1
  have hg2 := List.getElem?_eq_getElem (show n < rv.length by omega)
  have hg2' : (rv.take (n + 2))[n]? = some rv[n] := by rw [List.getElem?_take, if_pos (by omega)]; exact hg2
  have hv1b := hv.get hg1
  have hv2b := hv.get hg2'
  have hx0 := List.getElem?_eq_getElem (show j + (n + 2) < u.length by omega)
  have hx1 := List.getElem?_eq_getElem (show j + (n + 1) < u.length by omega)
  have hx2 := List.getElem?_eq_getElem (show j + n < u.length by omega)
  have hxj := List.getElem?_eq_getElem (show j < u.length by omega)
  have hb0 := hu.get hx0
  have hb1 := hu.get hx1
  have hb2 := hu.get hx2
  have hbj := hu.get hxj
  -- the divisor from above
  have hw1 := top_bounds hv (k := n + 1) (by omega)
  rw [V_single hg1 (by omega), hW] at hw1
  have hw2 := top_bounds hv (k := n) (by omega)
  rw [V_drop1 hg2', V_single hg1 (by omega), hW] at hw2
  have hWlt := V_lt hv
  rw [hvl, hW] at hWlt
  have hWn : 0 ≤ W := by rw [← hW]; exact V_nonneg hv
  -- nothing above
  have hz := top_bounds (hu.drop (j + 1)) (k := n + 2) (by simp; omega)
  rw [List.drop_drop] at hz
  have hzn := V_nonneg (hu.drop (j + 1 + (n + 2)))
  have hBp := B_pos (n + 2)
  have h0 : V (u.drop (j + (n + 2) + 1)) = 0 := by
    rw [show j + (n + 2) + 1 = j + 1 + (n + 2) by omega]
    apply Int.le_antisymm _ hzn
    apply Int.not_lt.mp
    intro h
    have : B (n + 2) * 1 ≤ B (n + 2) * V (u.drop (j + 1 + (n + 2))) := Int.mul_le_mul_of_nonneg_left (by omega) (by omega)
    omega
  have ht0 : V (u.drop (j + (n + 2))) = u[j + (n + 2)] := by rw [V_drop1 hx0, h0]; omega
  have htop : V (u.drop (j + (n + 1))) = u[j + (n + 1)] + 1000000000 * u[j + (n + 2)] := by rw [V_drop1 hx1, show j + (n + 1) + 1 = j + (n + 2) by omega, ht0]
  have hT : V (u.drop (j + n)) = u[j + n] + 1000000000 * (u[j + (n + 1)] + 1000000000 * u[j + (n + 2)]) := by rw [V_drop1 hx2, show j + n + 1 = j + (n + 1) by omega, htop]
  -- the rest from above
  have hr1 := top_bounds (hu.drop j) (k := n + 1) (by simp; omega)
  rw [List.drop_drop, htop] at hr1
  have hr2 := top_bounds (hu.drop j) (k := n) (by simp; omega)
  rw [List.drop_drop, hT] at hr2
  have hR0 := V_nonneg (hu.drop j)
  have hR : V (u.drop j) < 1000000000 * W := by rw [V_drop1 hxj]; omega
  have hbn := B_pos n
  have hbn1 := B_pos (n + 1)
  have hu0 : u[j + (n + 2)] ≤ v1 := by
    have h1 := top_bounds (hu.drop (j + 1)) (k := n + 1) (by simp; omega)
    rw [List.drop_drop, show j + 1 + (n + 1) = j + (n + 2) by omega, ht0] at h1
    have h2 : B (n + 1) * u[j + (n + 2)] < B (n + 1) * (v1 + 1) := by omega
    have := Int.lt_of_mul_lt_mul_left h2 (by omega)
    omega
  have hdig := digit_bounds hbn1 hr1.1 hr1.2 hw1.1 hw1.2 (by omega) (by omega) hR
  obtain ⟨g, hg, hgq, hgn, hgb⟩ := guess_loop (row0 := row0) (row3 := row3) (N := u.length) (n := n + 2) (j := j) (v1 := v1) (v2 := rv[n]) (u3 := u[j + n]) (top := u[j + (n + 1)] + 1000000000 * u[j + (n + 2)]) (R := V (u.drop j)) (W := W) (P := B n) (u := u) (rv := rv) (by omega) (by omega) hjn hul hv1 hg2 hx2 ⟨hv10, hv1b.2⟩ hv2b hb2 hbn
    (by rw [Int.mul_comm v1, Int.add_comm]; exact hw2.1) (by rw [Int.mul_comm v1, Int.add_comm (1000000000 * v1)]; exact hw2.2)
    (by rw [Int.mul_comm (u[j + (n + 1)] + _), Int.add_comm]; exact hr2.1) (by rw [Int.mul_comm (u[j + (n + 1)] + _), Int.add_comm (1000000000 * _) u[j + n]]; exact hr2.2) hR0 hR (by omega) (by omega) hdig.2.1
  have hWp : 0 < W := by
    have : B (n + 1) * 1 ≤ B (n + 1) * v1 := Int.mul_le_mul_of_nonneg_left (by omega) (by omega)
    omega
  have hq0 : 0 ≤ V (u.drop j) / W := Int.ediv_nonneg hR0 (by omega)
  have hq1 : V (u.drop j) / W < 1000000000 := Int.ediv_lt_of_lt_mul hWp hR
  have hm := Int.mul_ediv_add_emod (V (u.drop j)) W
  have hm0 := Int.emod_nonneg (V (u.drop j)) (b := W) (by omega)
  have hm1 := Int.emod_lt_of_pos (V (u.drop j)) hWp
  -- taking away
  obtain ⟨y, w, ht, hwl, hwE, hwy, hy0, hy1, hwV, hwsame⟩ := take_o (v := rv.take (n + 2)) (row := u) (lo := j) (ulen := u.length - j) (by_ := g) hv hu ⟨hgn, by omega⟩ (by omega) (by omega) hul
  rw [hvl] at hwE hwy hwsame
  rw [hW] at hwV
  obtain ⟨hs1, low, hl0, hl1, hs2⟩ := seg (c := g * W) hwl hjn hwE hwy hwsame h0 (by rw [hwV]; grind)
  have hj0 : w64 ((j : Int) - 1) = (j : Int) - 1 := wpred (by omega)
  have e1 : w64 ((j : Int) + ((n + 2 : Nat) : Int)) = ((j + (n + 2) : Nat) : Int) := by rw [w64_eq (by omega) (by omega)]; omega
  have e2 : w64 (((j + (n + 2) : Nat) : Int) - 1) = ((j + (n + 1) : Nat) : Int) := by rw [w64_eq (by omega) (by omega)]; omega
  have e3 : w64 (((n + 2 : Nat) : Int) - 1) = ((n + 1 : Nat) : Int) := by rw [w64_eq (by omega) (by omega)]; omega
  have e4 : w64 (w64 (u[j + (n + 2)] * 1000000000) + u[j + (n + 1)]) = u[j + (n + 1)] + 1000000000 * u[j + (n + 2)] := by
    rw [w64_eq (x := u[j + (n + 2)] * 1000000000) (by omega) (by omega), w64_eq (by omega) (by omega)]; omega
  have e5 : 0 ≤ u[j + (n + 1)] + 1000000000 * u[j + (n + 2)] := by omega
  have e6 : (u[j + (n + 1)] + 1000000000 * u[j + (n + 2)]) / v1 ≤ u[j + (n + 1)] + 1000000000 * u[j + (n + 2)] := Int.ediv_le_self _ e5
  have e7 : 0 ≤ (u[j + (n + 1)] + 1000000000 * u[j + (n + 2)]) / v1 := Int.ediv_nonneg e5 (by omega)
  have hv1' : rv[n + 1]? = some v1 := hv1
  have pre : impl_over_L3_body u.length (n + 2) ((n + 2 : Nat) : Int) row0 rv j u row3 =
      (if (decide (y < 0)) = true then
        impl_give_o (rv.take (n + 2)) j (u.length - j) w >>= fun r20 => some (.inl ((j : Int) - 1, r20, row3.set j (w64 (g - 1))))
      else some (.inl ((j : Int) - 1, w, row3.set j g))) := by
    unfold impl_over_L3_body
    rw [if_pos (by simp)]
    simp only [e1, e2, e3, Int.toNat_natCast, Nat.zero_add, hj0]
    rw [if_pos (by omega), hx0]
    simp only [Option.bind_eq_bind, Option.bind_some]
    rw [if_pos (by omega), hx1]
    simp only [Option.bind_some]
    rw [if_pos (by omega), hv1']
    simp only [Option.bind_some]
    rw [if_pos (by omega), e4, td e5, tm e5, w64_eq (by omega) (by omega), hg]
    simp only [Option.bind_some]
    rw [if_pos (by omega), if_pos (by omega), if_pos (by omega), List.drop_zero, ht]
    simp only [Option.bind_some]
    by_cases hy : y < 0
    · have hd : (decide (y < 0)) = true := by simpa using hy
      simp only [if_pos hd]
      congr 1
      funext r
      rw [if_pos (by omega), if_pos (by omega)]
    · have hd : ¬ (decide (y < 0)) = true := by simpa using hy
      simp only [if_neg hd]
      rw [if_pos (by omega), if_pos (by omega)]
  rcases hgq with hgq | hgq
  · subst hgq
    have hX : V (w.drop j) = V (u.drop j) % W := by rw [hs1]; grind
    have hy : y = 0 := top_zero (W := W) hl0 hl1 hs2 (by rw [hX]; exact hm0) (by rw [hX]; exact hm1) (Int.le_of_lt hWlt)
    subst hy
    refine ⟨w, ?_, limE_zero hwE hwy, hwl, hwV, by omega, hq0, hq1⟩
    rw [pre]
    rfl
  · have hX : V (w.drop j) = V (u.drop j) % W - W := by rw [hs1, ← hgq]; grind
    have hy : y < 0 := by
      apply Int.not_le.mp
      intro h
      have : 0 ≤ B (n + 2) * y := Int.mul_nonneg (by omega) h
      omega
    obtain ⟨y', w', ht', hwl', hwE', hwy', hwV', hwsame'⟩ := give_o (v := rv.take (n + 2)) (row := w) (lo := j) (ulen := u.length - j) (y := y) hv (by rw [hvl]; exact hwE) (by omega) (by omega) (by omega) (by rw [hvl]; exact hwy) hy0 hy1
    rw [hvl] at hwE' hwy' hwsame'
    rw [hW] at hwV'
    have hV2 : V w' = V u - V (u.drop j) / W * B j * W := by rw [hwV', hwV, ← hgq]; grind
    obtain ⟨hs1', low', hl0', hl1', hs2'⟩ := seg (c := V (u.drop j) / W * W) (by omega) hjn hwE' hwy' (fun i hi => by rw [hwsame' i hi, hwsame i hi]) h0 (by rw [hV2]; grind)
    have hX' : V (w'.drop j) = V (u.drop j) % W := by rw [hs1']; grind
    have hy' : y' = 0 := top_zero (W := W) hl0' hl1' hs2' (by rw [hX']; exact hm0) (by rw [hX']; exact hm1) (Int.le_of_lt hWlt)
    subst hy'
    refine ⟨w', ?_, limE_zero hwE' hwy', by omega, hV2, by omega, hq0, hq1⟩
    rw [pre, if_pos (by simpa using hy), ht']
    simp only [Option.bind_eq_bind, Option.bind_some]
    rw [w64_eq (by omega) (by omega), show g - 1 = V (u.drop j) / W by omega]

end Go.Proofs.YtfhmbogcjcgchaaGreat
