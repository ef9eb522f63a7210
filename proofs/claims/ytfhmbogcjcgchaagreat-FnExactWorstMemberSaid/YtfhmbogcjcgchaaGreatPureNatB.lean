/- Dividing by one limb and multiplying, in plain functions. No condition. -/
import Derived.Test.YtfhmbogcjcgchaaGreatPureNatA
namespace Go.Proofs.YtfhmbogcjcgchaaGreat
open Go Go.VL

theorem mul_bd {x y : Int} (hx : 0 ≤ x ∧ x < 1000000000) (hy : 0 ≤ y ∧ y < 1000000000) : 0 ≤ x * y ∧ x * y ≤ 999999998000000001 := by
  have h1 := Int.mul_nonneg hx.1 hy.1
  have h2 : x * y ≤ 999999999 * 999999999 := Int.mul_le_mul (by omega) (by omega) hy.1 (by omega)
  omega

theorem tm {a b : Int} (h : 0 ≤ a) : a.tmod b = a % b := Int.tmod_eq_emod_of_nonneg h
theorem td {a b : Int} (h : 0 ≤ a) : a.tdiv b = a / b := Int.tdiv_eq_ediv_of_nonneg h

theorem rep_set (k : Nat) (x : Int) (q : List Int) : (List.replicate (k + 1) 0 ++ q).set k x = List.replicate k 0 ++ x :: q := by
  induction k with
  | zero => rfl
  | succ k ih =>
    show (0 :: (List.replicate (k + 1) 0 ++ q)).set (k + 1) x = _
    rw [List.set_cons_succ, ih]; rfl

theorem small_body {a : List Int} {d rest : Int} {row : List Int} {k : Nat} {x : Int} (hx : a[k]? = some x) (hx0 : 0 ≤ x ∧ x < 1000000000) (hd : 0 < d ∧ d < 1000000000) (hr : 0 ≤ rest ∧ rest < d) (hrow : row.length = a.length) (hn : a.length ≤ 1000000) :
    spec_l02Small_L1_body a d rest (k : Int) row = some (.inl ((rest * 1000000000 + x) % d, (k : Int) - 1, row.set k ((rest * 1000000000 + x) / d))) := by
  have hk := lt_of_get hx
  unfold spec_l02Small_L1_body
  rw [if_pos (by simp), if_pos (by omega), Int.toNat_natCast, hx]
  simp only [Option.bind_eq_bind, Option.bind_some]
  rw [if_pos (by omega), if_pos (by omega), if_pos (by omega), wpred (by omega)]
  have h1 : w64 (w64 (rest * 1000000000) + x) = rest * 1000000000 + x := by rw [w64_eq (x := rest * 1000000000) (by omega) (by omega)]; exact w64_eq (by omega) (by omega)
  have h2 : 0 ≤ rest * 1000000000 + x := by omega
  have h3 : (rest * 1000000000 + x) / d ≤ rest * 1000000000 + x := Int.ediv_le_self _ h2
  have h4 : 0 ≤ (rest * 1000000000 + x) / d := Int.ediv_nonneg h2 (by omega)
  rw [h1, tm h2, td h2, w64_eq (by omega) (by omega), Nat.zero_add]

theorem small_loop {a : List Int} {d : Int} (ha : Lim a) (hd : 0 < d ∧ d < 1000000000) (hn : a.length ≤ 1000000) :
    ∃ r, spec_l02Small_L1 a d 0 ((a.length : Int) - 1) (List.replicate a.length 0) = some r ∧ r.1 = V a % d ∧ Lim r.2 ∧ r.2.length = a.length ∧ V r.2 = V a / d := by
  refine iter_inv (I := fun w : Int × Int × List Int => ∃ (k : Nat) (q : List Int), w.2.1 = (k : Int) - 1 ∧ k ≤ a.length ∧ w.2.2 = List.replicate k 0 ++ q ∧ q.length + k = a.length ∧ Lim q ∧ 0 ≤ w.1 ∧ w.1 < d ∧ V (a.drop k) = V q * d + w.1) (m := fun w : Int × Int × List Int => (w.2.1 + 1).toNat) _ ?_ _ ⟨a.length, [], rfl, by omega, by simp, by simp, Lim.nil, by omega, by omega, by simp [V]⟩
  rintro ⟨rest, i, row⟩ ⟨k, q, h1, hk, h2, hq, hlq, hr0, hr1, hv⟩
  simp only at h1 h2 hr0 hr1 hv ⊢
  subst h1 h2
  cases k with
  | zero =>
    refine .inr ⟨(rest, q), by simp [spec_l02Small_L1_body], ?_, hlq, by simpa using hq, ?_⟩
    · simp at hv
      rw [hv, Int.add_comm, Int.add_mul_emod_self_right]
      exact (Int.emod_eq_of_lt hr0 hr1).symm
    · simp at hv
      rw [hv, Int.add_comm, Int.add_mul_ediv_right _ _ (by omega), Int.ediv_eq_zero_of_lt hr0 hr1]
      simp
  | succ k =>
    have hx := List.getElem?_eq_getElem (show k < a.length by omega)
    have hx0 := ha.get hx
    rw [show ((k + 1 : Nat) : Int) - 1 = k by omega, small_body hx hx0 hd ⟨hr0, hr1⟩ (by simp; omega) hn]
    refine .inl ⟨_, rfl, ⟨k, (rest * 1000000000 + a[k]) / d :: q, rfl, by omega, rep_set _ _ _, by simp; omega, Lim.cons ⟨Int.ediv_nonneg (by omega) (by omega), ?_⟩ hlq, Int.emod_nonneg _ (by omega), Int.emod_lt_of_pos _ hd.1, ?_⟩, by simp⟩
    · refine Int.ediv_lt_of_lt_mul hd.1 ?_
      omega
    · rw [V_drop1 hx, hv, V_cons]
      have := Int.mul_ediv_add_emod (rest * 1000000000 + a[k]) d
      generalize (rest * 1000000000 + a[k]) / d = u at *
      generalize (rest * 1000000000 + a[k]) % d = t at *
      grind

theorem small_eq {a : List Int} {d : Int} (ha : Lim a) (hd : 0 < d ∧ d < 1000000000) (hn : a.length ≤ 1000000) : spec_l02Small a d = some (L (V a / d), V a % d) := by
  obtain ⟨r, hr, h1, h2, h3, h4⟩ := small_loop ha hd hn
  unfold spec_l02Small
  simp only [len_eI]
  rw [if_pos (by omega), wpred (by omega), Int.toNat_natCast, hr]
  simp only [Option.bind_eq_bind, Option.bind_some]
  rw [l02Trim_eq h2 (by omega), h1, h4]
  rfl

theorem overSmall_L1_eq : impl_overSmall_L1 = spec_l02Small_L1 := rfl

theorem overSmall_eq {a : List Int} {d : Int} (ha : Lim a) (hd : 0 < d ∧ d < 1000000000) (hn : a.length ≤ 1000000) : impl_overSmall a d = some (L (V a / d), V a % d) := by
  obtain ⟨r, hr, h1, h2, h3, h4⟩ := small_loop ha hd hn
  unfold impl_overSmall
  simp only [len_eI]
  rw [if_pos (by omega), wpred (by omega), Int.toNat_natCast, overSmall_L1_eq, hr]
  simp only [Option.bind_eq_bind, Option.bind_some]
  rw [trim_eq h2 (by omega), h1, h4]
  rfl

/- Multiplying. -/
theorem mul_body2 {b : List Int} {i j : Nat} {x y z carry : Int} {row : List Int} {t26 : List Int} {t27 : Int} (hy : b[j]? = some y) (hz : row[i + j]? = some z) (hx : 0 ≤ x ∧ x < 1000000000) (hy0 : 0 ≤ y ∧ y < 1000000000) (hz0 : 0 ≤ z ∧ z < 1000000000) (hc : 0 ≤ carry ∧ carry < 1000000000) (hn : row.length ≤ 2000000) :
    spec_l02Mul_L2_body b i x t26 t27 b.length carry j row = some (.inl ((z + x * y + carry) / 1000000000, ((j + 1 : Nat) : Int), row.set (i + j) ((z + x * y + carry) % 1000000000))) := by
  have hj := lt_of_get hy
  have hij := lt_of_get hz
  obtain ⟨m1, m2⟩ := mul_bd hx hy0
  unfold spec_l02Mul_L2_body
  have e : w64 ((i : Int) + (j : Int)) = ((i + j : Nat) : Int) := by rw [w64_eq (by omega) (by omega)]; rfl
  rw [if_pos (by simp; omega), if_pos (by omega), Int.toNat_natCast, hy]
  simp only [Option.bind_eq_bind, Option.bind_some, e, Int.toNat_natCast, Nat.zero_add]
  rw [if_pos (by omega), hz]
  simp only [Option.bind_some]
  rw [if_pos (by omega), wnat1 (by omega), w64_eq (x := x * y) (by omega) (by omega), w64_eq (x := z + x * y) (by omega) (by omega), w64_eq (x := z + x * y + carry) (by omega) (by omega), tm (by omega), td (by omega), w64_eq (by omega) (by omega)]

theorem mul_loop2 {b : List Int} {i : Nat} {x : Int} {row : List Int} {t26 : List Int} {t27 : Int} (hb : Lim b) (hrow : Lim row) (hx : 0 ≤ x ∧ x < 1000000000) (hl : i + b.length < row.length) (hn : row.length ≤ 2000000) :
    ∃ r, spec_l02Mul_L2 b i x t26 t27 b.length 0 0 row = some r ∧ 0 ≤ r.1 ∧ r.1 < 1000000000 ∧ Lim r.2 ∧ r.2.length = row.length ∧ V r.2 + r.1 * B (i + b.length) = V row + x * B i * V b ∧ ∀ j, i + b.length ≤ j → r.2[j]? = row[j]? := by
  refine iter_inv (I := fun w : Int × Int × List Int => ∃ (j : Nat), w.2.1 = (j : Int) ∧ j ≤ b.length ∧ 0 ≤ w.1 ∧ w.1 < 1000000000 ∧ Lim w.2.2 ∧ w.2.2.length = row.length ∧ V w.2.2 + w.1 * B (i + j) = V row + x * B i * V (b.take j) ∧ ∀ j, i + b.length ≤ j → w.2.2[j]? = row[j]?) (m := fun w : Int × Int × List Int => b.length - w.2.1.toNat) _ ?_ _ ⟨0, rfl, by omega, by simp, by simp, hrow, rfl, by simp [V], fun _ _ => rfl⟩
  rintro ⟨carry, jj, rw0⟩ ⟨j, h1, hj, hc0, hc1, hlr, hlen, hv, hsame⟩
  simp only at h1 hc0 hc1 hlr hlen hv hsame ⊢
  subst h1
  by_cases hjb : j = b.length
  · subst hjb
    refine .inr ⟨(carry, rw0), by simp [spec_l02Mul_L2_body], hc0, hc1, hlr, hlen, by simpa using hv, hsame⟩
  · have hy := List.getElem?_eq_getElem (show j < b.length by omega)
    have hz := List.getElem?_eq_getElem (show i + j < rw0.length by omega)
    have hy0 := hb.get hy
    have hz0 := hlr.get hz
    obtain ⟨m1, m2⟩ := mul_bd hx hy0
    rw [mul_body2 hy hz hx hy0 hz0 ⟨hc0, hc1⟩ (by omega)]
    refine .inl ⟨_, rfl, ⟨j + 1, rfl, by omega, by simp only; omega, by simp only; omega, hlr.set (by omega), by simpa using hlen, ?_, fun j' hj' => ?_⟩, by simp; omega⟩
    · simp only
      rw [V_set hz, V_take1 hy, ← Nat.add_assoc, B_succ]
      rw [B_add] at hv ⊢
      have := Int.mul_ediv_add_emod (rw0[i + j] + x * b[j] + carry) 1000000000
      generalize (rw0[i + j] + x * b[j] + carry) / 1000000000 = u at *
      generalize (rw0[i + j] + x * b[j] + carry) % 1000000000 = t at *
      grind
    · rw [← hsame j' hj']
      exact List.getElem?_set_ne (by omega)

theorem mul_loop3 {a b : List Int} (ha : Lim a) (hb : Lim b) (hn : a.length ≤ 1000000) (hm : b.length ≤ 1000000) :
    ∃ r, spec_l02Mul_L3 b a a.length 0 (List.replicate (a.length + b.length) 0) = some r ∧ Lim r ∧ r.length = a.length + b.length ∧ V r = V a * V b := by
  refine iter_inv (I := fun w : Int × List Int => ∃ (i : Nat), w.1 = (i : Int) ∧ i ≤ a.length ∧ Lim w.2 ∧ w.2.length = a.length + b.length ∧ V w.2 = V (a.take i) * V b ∧ ∀ j, i + b.length ≤ j → j < a.length + b.length → w.2[j]? = some 0) (m := fun w : Int × List Int => a.length - w.1.toNat) _ ?_ _ ⟨0, rfl, by omega, Lim.rep _, by simp, by simp [V, V_rep], fun j _ h => by simp [List.getElem?_replicate, h]⟩
  rintro ⟨ii, row⟩ ⟨i, h1, hi, hlr, hlen, hv, h0⟩
  simp only at h1 hlr hlen hv h0 ⊢
  subst h1
  by_cases hia : i = a.length
  · subst hia
    refine .inr ⟨row, by simp [spec_l02Mul_L3_body], hlr, hlen, by simpa using hv⟩
  · have hx := List.getElem?_eq_getElem (show i < a.length by omega)
    have hx0 := ha.get hx
    obtain ⟨r, hr, hc0, hc1, hlr', hlen', hv', hsame⟩ := mul_loop2 (i := i) (t26 := a) (t27 := a.length) hb hlr hx0 (by omega) (by omega)
    have e : w64 ((i : Int) + (b.length : Int)) = ((i + b.length : Nat) : Int) := by rw [w64_eq (by omega) (by omega)]; rfl
    have hz : r.2[i + b.length]? = some 0 := by rw [hsame _ (Nat.le_refl _)]; exact h0 _ (Nat.le_refl _) (by omega)
    refine .inl ⟨(((i + 1 : Nat) : Int), r.2.set (i + b.length) r.1), ?_, ⟨i + 1, rfl, by omega, hlr'.set ⟨hc0, hc1⟩, by simp; omega, ?_, fun j hj1 hj2 => ?_⟩, by simp; omega⟩
    · unfold spec_l02Mul_L3_body
      rw [if_pos (by simp; omega), if_pos (by omega), Int.toNat_natCast, hx]
      simp only [Option.bind_eq_bind, Option.bind_some, len_eI]
      rw [hr]
      simp only [Option.bind_some, e, Int.toNat_natCast, Nat.zero_add]
      rw [if_pos (by omega), if_pos (by omega), wnat1 (n := i) (by omega)]
    · simp only
      rw [V_set hz, V_take1 hx]
      grind
    · simp only
      rw [List.getElem?_set_ne (by omega), hsame _ (by omega)]
      exact h0 _ (by omega) hj2

theorem mul_eq {a b : List Int} (ha : Lim a) (hb : Lim b) (hn : a.length ≤ 1000000) (hm : b.length ≤ 1000000) : spec_l02Mul a b = some (L (V a * V b)) := by
  unfold spec_l02Mul
  simp only [len_eI]
  by_cases h1 : a = []
  · subst h1
    simp [V, L_zero]
  · by_cases h2 : b = []
    · subst h2
      simp [h1, V, L_zero]
    · obtain ⟨r, hr, h3, h4, h5⟩ := mul_loop3 ha hb hn hm
      have e : w64 ((a.length : Int) + (b.length : Int)) = ((a.length + b.length : Nat) : Int) := by rw [w64_eq (by omega) (by omega)]; rfl
      rw [if_neg (by simp [h1]), if_neg (by simp [h2]), e, if_pos (by omega), Int.toNat_natCast, hr]
      simp only [Option.bind_eq_bind, Option.bind_some]
      rw [l02Trim_eq h3 (by omega), h5]
      rfl

theorem times_L3_eq : impl_times_L3 = spec_l02Mul_L3 := rfl
theorem times_o_L3_eq : impl_times_o_L3 = spec_l02Mul_L3 := rfl

theorem times_eq {a b : List Int} (ha : Lim a) (hb : Lim b) (hn : a.length ≤ 1000000) (hm : b.length ≤ 1000000) : impl_times a b = some (L (V a * V b)) := by
  unfold impl_times
  simp only [len_eI]
  by_cases h1 : a = []
  · subst h1
    simp [V, L_zero]
  · by_cases h2 : b = []
    · subst h2
      simp [h1, V, L_zero]
    · obtain ⟨r, hr, h3, h4, h5⟩ := mul_loop3 ha hb hn hm
      have e : w64 ((a.length : Int) + (b.length : Int)) = ((a.length + b.length : Nat) : Int) := by rw [w64_eq (by omega) (by omega)]; rfl
      rw [if_neg (by simp [h1]), if_neg (by simp [h2]), e, if_pos (by omega), Int.toNat_natCast, times_L3_eq, hr]
      simp only [Option.bind_eq_bind, Option.bind_some]
      rw [trim_eq h3 (by omega), h5]
      rfl

theorem times_o_eq {a b : List Int} (ha : Lim a) (hb : Lim b) (h1 : a ≠ []) (h2 : b ≠ []) (hn : a.length ≤ 1000000) (hm : b.length ≤ 1000000) :
    ∃ k r, impl_times_o a b = some (k, r) ∧ k ≤ r.length ∧ r.length = a.length + b.length ∧ r.take k = L (V a * V b) ∧ Lim r := by
  obtain ⟨r, hr, h3, h4, h5⟩ := mul_loop3 ha hb hn hm
  obtain ⟨k, hk, h6, h7⟩ := trim_o_eq h3 (by omega)
  refine ⟨k, r, ?_, h6, h4, by rw [h7, h5], h3⟩
  unfold impl_times_o
  simp only [len_eI]
  have e : w64 ((a.length : Int) + (b.length : Int)) = ((a.length + b.length : Nat) : Int) := by rw [w64_eq (by omega) (by omega)]; rfl
  rw [if_neg (by simp [h1]), if_neg (by simp [h2]), e, if_pos (by omega), Int.toNat_natCast, times_o_L3_eq, hr]
  simp only [Option.bind_eq_bind, Option.bind_some]
  rw [hk]
  rfl

end Go.Proofs.YtfhmbogcjcgchaaGreat
