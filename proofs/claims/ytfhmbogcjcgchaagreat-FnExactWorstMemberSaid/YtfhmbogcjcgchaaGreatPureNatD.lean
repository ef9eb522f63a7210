/- The reference's division and greatest common divisor, in plain functions. No condition. -/
import Derived.Test.YtfhmbogcjcgchaaGreatPureNatC
namespace Go.Proofs.YtfhmbogcjcgchaaGreat
open Go Go.VL

/-- The upper limbs: what they say of the whole. -/
theorem top_bounds {l : List Int} (h : Lim l) {k : Nat} (hk : k ≤ l.length) : B k * V (l.drop k) ≤ V l ∧ V l < B k * (V (l.drop k) + 1) := by
  have h1 := V_split hk
  have h2 := V_nonneg (h.take k)
  have h3 := V_lt (h.take k)
  rw [List.length_take, Nat.min_eq_left hk] at h3
  rw [Int.mul_add, Int.mul_one]
  omega

theorem V_single {l : List Int} {k : Nat} {x : Int} (hx : l[k]? = some x) (hl : l.length = k + 1) : V (l.drop k) = x := by
  rw [V_drop1 hx, List.drop_of_length_le (by omega)]
  simp [V]

theorem digit_bounds {R W t d P : Int} (hP : 1 ≤ P) (hR1 : P * t ≤ R) (hR2 : R < P * (t + 1)) (hW1 : P * d ≤ W) (hW2 : W < P * (d + 1)) (hd : 0 < d) (ht : 0 ≤ t) (hRW : R < 1000000000 * W) : t / (d + 1) ≤ R / W ∧ R / W ≤ t / d ∧ R / W ≤ 999999999 := by
  have hW : 0 < W := by
    have := Int.mul_pos (a := P) (b := d) (by omega) hd
    omega
  have hR : 0 ≤ R := by
    have := Int.mul_nonneg (a := P) (b := t) (by omega) ht
    omega
  refine ⟨?_, ?_, ?_⟩
  · apply (Int.le_ediv_iff_mul_le hW).2
    have h1 : t / (d + 1) * (d + 1) ≤ t := Int.ediv_mul_le _ (by omega)
    have h2 : 0 ≤ t / (d + 1) := Int.ediv_nonneg ht (by omega)
    have h3 : t / (d + 1) * W ≤ t / (d + 1) * (P * (d + 1)) := Int.mul_le_mul_of_nonneg_left (by omega) h2
    have h4 : P * (t / (d + 1) * (d + 1)) ≤ P * t := Int.mul_le_mul_of_nonneg_left h1 (by omega)
    have h5 : t / (d + 1) * (P * (d + 1)) = P * (t / (d + 1) * (d + 1)) := by grind
    omega
  · apply (Int.le_ediv_iff_mul_le hd).2
    have h1 : R / W * W ≤ R := Int.ediv_mul_le _ (by omega)
    have h2 : 0 ≤ R / W := Int.ediv_nonneg hR (by omega)
    have h3 : R / W * (P * d) ≤ R / W * W := Int.mul_le_mul_of_nonneg_left hW1 h2
    have h4 : R / W * (P * d) = P * (R / W * d) := by grind
    have h5 : P * (R / W * d) < P * (t + 1) := by omega
    have := Int.lt_of_mul_lt_mul_left h5 (by omega)
    omega
  · have := Int.ediv_lt_of_lt_mul hW hRW
    omega

theorem cmp3_le {a b : Int} : cmp3 a b ≤ 0 ↔ a ≤ b := by
  unfold cmp3
  by_cases h : a < b
  · simp [h]; omega
  · by_cases h2 : b < a
    · simp [h, h2]
    · simp [h, h2]; omega
theorem cmp3_lt {a b : Int} : cmp3 a b < 0 ↔ a < b := by
  unfold cmp3
  by_cases h : a < b
  · simp [h]
  · by_cases h2 : b < a
    · simp [h, h2]
    · simp [h, h2]
theorem cmp3_pos {a b : Int} : 0 < cmp3 a b ↔ b < a := by
  unfold cmp3
  by_cases h : a < b
  · simp [h]; omega
  · by_cases h2 : b < a
    · simp [h, h2]
    · simp [h, h2]
theorem cmp3_zero {a b : Int} : cmp3 a b = 0 ↔ a = b := by
  unfold cmp3
  by_cases h : a < b
  · simp [h]; omega
  · by_cases h2 : b < a
    · simp [h, h2]; omega
    · simp [h, h2]; omega

theorem digit_loop {r b : List Int} (hr : Nf r) (hb : Nf b) (hb0 : b ≠ []) (hn : r.length ≤ 1000000) (hm : b.length ≤ 1000000) {lo hi : Int} (h0 : 0 ≤ lo) (h1 : lo ≤ V r / V b) (h2 : V r / V b ≤ hi) (h3 : hi ≤ 999999999) : spec_l02Digit_L1 r b lo hi = some (V r / V b) := by
  have hbp := V_pos hb hb0
  have : ∃ q, iter (fun w : Int × Int => spec_l02Digit_L1_body r b w.1 w.2) (lo, hi) = some q ∧ q = V r / V b := by
    refine iter_inv (I := fun w : Int × Int => 0 ≤ w.1 ∧ w.1 ≤ V r / V b ∧ V r / V b ≤ w.2 ∧ w.2 ≤ 999999999) (m := fun w : Int × Int => (w.2 - w.1).toNat) _ ?_ _ ⟨h0, h1, h2, h3⟩
    rintro ⟨l, h⟩ ⟨g0, g1, g2, g3⟩
    simp only at g0 g1 g2 g3
    by_cases hlt : l < h
    · have e1 : w64 ((w64 ((w64 (l + h)) + (1 : Int))).tdiv (2 : Int)) = (l + h + 1) / 2 := by
        rw [w64_eq (x := l + h) (by omega) (by omega), w64_eq (x := l + h + 1) (by omega) (by omega), td (by omega), w64_eq (by omega) (by omega)]
      have hm0 : 0 ≤ (l + h + 1) / 2 := by omega
      have hm1 : (l + h + 1) / 2 < 1000000000 := by omega
      have hlm : (L ((l + h + 1) / 2)).length ≤ 1 := (L_len hm0).2 (by simpa [B] using hm1)
      have e2 : spec_l02Digit_L1_body r b l h = some (.inl (if V b * ((l + h + 1) / 2) ≤ V r then ((l + h + 1) / 2, h) else (l, (l + h + 1) / 2 - 1))) := by
        unfold spec_l02Digit_L1_body
        rw [if_pos (by simp [hlt]), e1, natOf_eq hm0 (by omega)]
        simp only [Option.bind_eq_bind, Option.bind_some]
        rw [mul_eq hb.1 (L_lim _) hm (by omega), V_L hm0]
        simp only [Option.bind_some]
        have hp : 0 ≤ V b * ((l + h + 1) / 2) := Int.mul_nonneg (by omega) hm0
        have hlen : (L (V b * ((l + h + 1) / 2))).length ≤ b.length + 1 := (L_len hp).2 (by
          rw [B_succ]
          have h5 := V_lt hb.1
          have : V b * ((l + h + 1) / 2) ≤ V b * 1000000000 := Int.mul_le_mul_of_nonneg_left (by omega) (by omega)
          omega)
        rw [cmp_eq (L_can _) hr (by omega), V_L hp]
        simp only [Option.bind_some]
        by_cases hc : V b * ((l + h + 1) / 2) ≤ V r
        · rw [if_pos (by simpa using cmp3_le.2 hc), if_pos hc]
        · rw [if_neg (fun h => hc (cmp3_le.1 (by simpa using h))), if_neg hc, w64_eq (by omega) (by omega)]
      rw [e2]
      refine .inl ⟨_, rfl, ?_⟩
      by_cases hc : V b * ((l + h + 1) / 2) ≤ V r
      · rw [if_pos hc]
        have : (l + h + 1) / 2 ≤ V r / V b := (Int.le_ediv_iff_mul_le hbp).2 (by rw [Int.mul_comm]; exact hc)
        exact ⟨⟨by simp only; omega, this, g2, g3⟩, by simp only; omega⟩
      · rw [if_neg hc]
        have : V r / V b < (l + h + 1) / 2 := (Int.ediv_lt_iff_lt_mul hbp).2 (by rw [Int.mul_comm]; omega)
        exact ⟨⟨g0, g1, by simp only; omega, by simp only; omega⟩, by simp only; omega⟩
    · exact .inr ⟨l, by simp [spec_l02Digit_L1_body, hlt], by omega⟩
  obtain ⟨q, hq, rfl⟩ := this
  exact hq

theorem nf_top {b : List Int} (hb : Nf b) (hb0 : b ≠ []) : ∃ k d, b.length = k + 1 ∧ b[k]? = some d ∧ 0 < d ∧ d < 1000000000 ∧ V (b.drop k) = d := by
  have hp := List.length_pos_iff.mpr hb0
  obtain ⟨x, hx, h⟩ := natOk_last hb0
  have h1 := h.1 hb
  have h2 := h1.1.get hx
  exact ⟨b.length - 1, x, by omega, hx, by omega, h2.2, V_single hx (by omega)⟩

theorem digit_eq {r b : List Int} (hr : Nf r) (hb : Nf b) (hb0 : b ≠ []) (hn : r.length ≤ 1000000) (hm : b.length ≤ 1000000) (h1 : V b ≤ V r) (h2 : V r < 1000000000 * V b) : spec_l02Digit r b = some (V r / V b) := by
  obtain ⟨k, d, hk, hd, hd0, hd1, hdv⟩ := nf_top hb hb0
  have hlo : b.length ≤ r.length := Nat.le_of_not_lt fun h => by
    have := cmp_len hr hb h
    omega
  have hhi : r.length ≤ b.length + 1 := hr.len.2 (by
    have := V_lt hb.1
    rw [B_succ]
    omega)
  have hb1 := top_bounds hb.1 (k := k) (by omega)
  rw [hdv] at hb1
  have hr1 := top_bounds hr.1 (k := k) (by omega)
  have hx := List.getElem?_eq_getElem (show k < r.length by omega)
  have hx0 := hr.1.get hx
  have hw : w64 ((b.length : Int) - 1) = (k : Int) := by rw [w64_eq (by omega) (by omega)]; omega
  have ht0 := V_nonneg (hr.1.drop k)
  have hdb := digit_bounds (B_pos k) hr1.1 hr1.2 hb1.1 hb1.2 hd0 ht0 h2
  have hV0 := V_nonneg hr.1
  have hW := V_pos hb hb0
  unfold spec_l02Digit
  simp only [len_eI, hw]
  rw [if_pos (by omega), Int.toNat_natCast, hx]
  simp only [Option.bind_eq_bind, Option.bind_some]
  by_cases hlen : b.length < r.length
  · have hy := List.getElem?_eq_getElem hlen
    have hy0 := hr.1.get hy
    have hy' : V (r.drop (k + 1)) = r[b.length] := by
      rw [← hk]
      exact V_single hy (by omega)
    have ht : V (r.drop k) = r[k] + 1000000000 * r[b.length] := by rw [V_drop1 hx, hy']
    rw [ht] at hdb ht0
    have hq0 : 0 ≤ (r[k] + 1000000000 * r[b.length]) / (d + 1) := Int.ediv_nonneg ht0 (by omega)
    have hq1 : (r[k] + 1000000000 * r[b.length]) / (d + 1) ≤ r[k] + 1000000000 * r[b.length] := Int.ediv_le_self _ ht0
    have hq2 : 0 ≤ (r[k] + 1000000000 * r[b.length]) / d := Int.ediv_nonneg ht0 (by omega)
    have hq3 : (r[k] + 1000000000 * r[b.length]) / d ≤ r[k] + 1000000000 * r[b.length] := Int.ediv_le_self _ ht0
    rw [if_pos (by simp; omega), if_pos (by omega), Int.toNat_natCast, hy]
    simp only [Option.bind_some]
    rw [if_pos (by omega), hd]
    simp only [Option.bind_some]
    have e1 : w64 (d + 1) = d + 1 := w64_eq (by omega) (by omega)
    have e2 : w64 (r[k] + w64 (r[b.length] * 1000000000)) = r[k] + 1000000000 * r[b.length] := by
      rw [w64_eq (x := r[b.length] * 1000000000) (by omega) (by omega), w64_eq (by omega) (by omega), Int.mul_comm]
    rw [e1, if_pos (by omega), if_pos (by omega), e2, td ht0, td ht0, w64_eq (by omega) (by omega), w64_eq (x := (r[k] + 1000000000 * r[b.length]) / d) (by omega) (by omega)]
    rw [digit_loop hr hb hb0 hn hm hq0 hdb.1 (by split <;> omega) (by split <;> omega)]
    rfl
  · have ht : V (r.drop k) = r[k] := V_single hx (by omega)
    rw [ht] at hdb ht0
    have hq0 : 0 ≤ r[k] / (d + 1) := Int.ediv_nonneg ht0 (by omega)
    have hq1 : r[k] / (d + 1) ≤ r[k] := Int.ediv_le_self _ ht0
    have hq2 : 0 ≤ r[k] / d := Int.ediv_nonneg ht0 (by omega)
    have hq3 : r[k] / d ≤ r[k] := Int.ediv_le_self _ ht0
    rw [if_neg (by simp; omega), if_pos (by omega), hd]
    simp only [Option.bind_some]
    have e1 : w64 (d + 1) = d + 1 := w64_eq (by omega) (by omega)
    rw [e1, if_pos (by omega), if_pos (by omega), td ht0, td ht0, w64_eq (by omega) (by omega), w64_eq (x := r[k] / d) (by omega) (by omega)]
    rw [digit_loop hr hb hb0 hn hm hq0 hdb.1 (by split <;> omega) (by split <;> omega)]
    rfl

theorem div_loop {a b : List Int} (ha : Nf a) (hb : Nf b) (hb0 : b ≠ []) (hn : a.length ≤ 900000) (hm : b.length ≤ 900000) :
    ∃ r, spec_l02Div_L1 a b [] ((a.length : Int) - 1) (List.replicate a.length 0) = some r ∧ r.1 = L (V a % V b) ∧ Lim r.2 ∧ r.2.length = a.length ∧ V r.2 = V a / V b := by
  have hbp := V_pos hb hb0
  refine iter_inv (I := fun w : List Int × Int × List Int => ∃ (k : Nat) (q : List Int), w.2.1 = (k : Int) - 1 ∧ k ≤ a.length ∧ w.2.2 = List.replicate k 0 ++ q ∧ q.length + k = a.length ∧ Lim q ∧ Nf w.1 ∧ V w.1 < V b ∧ V (a.drop k) = V q * V b + V w.1) (m := fun w : List Int × Int × List Int => (w.2.1 + 1).toNat) _ ?_ _ ⟨a.length, [], rfl, by omega, by simp, by simp, Lim.nil, Nf.nil, by simpa [V] using hbp, by simp [V]⟩
  rintro ⟨rest, i, row⟩ ⟨k, q, h1, hk, h2, hq, hlq, hr0, hr1, hv⟩
  simp only at h1 h2 hr0 hr1 hv ⊢
  subst h1 h2
  have hrn := V_nonneg hr0.1
  cases k with
  | zero =>
    simp at hv
    refine .inr ⟨(rest, q), by simp [spec_l02Div_L1_body], ?_, hlq, by simpa using hq, ?_⟩
    · refine L_eq hr0 ?_
      rw [hv, Int.add_comm, Int.add_mul_emod_self_right]
      exact (Int.emod_eq_of_lt hrn hr1).symm
    · rw [hv, Int.add_comm, Int.add_mul_ediv_right _ _ (by omega), Int.ediv_eq_zero_of_lt hrn hr1]
      simp
  | succ k =>
    have hx := List.getElem?_eq_getElem (show k < a.length by omega)
    have hx0 := ha.1.get hx
    have hrl : rest.length ≤ b.length := hr0.len.2 (by have := V_lt hb.1; omega)
    have hcl : Lim (a[k] :: rest) := Lim.cons hx0 hr0.1
    have hcv : V (a[k] :: rest) = a[k] + 1000000000 * V rest := V_cons _ _
    have hR0 : 0 ≤ a[k] + 1000000000 * V rest := by omega
    have hRl : (L (a[k] + 1000000000 * V rest)).length ≤ b.length + 1 := (L_len hR0).2 (by
      have := V_lt hb.1
      rw [B_succ]
      omega)
    have hd := V_drop1 hx
    have hbody : spec_l02Div_L1_body a b rest (k : Int) (List.replicate (k + 1) 0 ++ q) = some (.inl (if a[k] + 1000000000 * V rest < V b then (L (a[k] + 1000000000 * V rest), (k : Int) - 1, List.replicate (k + 1) 0 ++ q) else (L ((a[k] + 1000000000 * V rest) % V b), (k : Int) - 1, (List.replicate (k + 1) 0 ++ q).set k ((a[k] + 1000000000 * V rest) / V b)))) := by
      unfold spec_l02Div_L1_body
      rw [if_pos (by simp), if_pos (by omega), Int.toNat_natCast, hx]
      simp only [Option.bind_eq_bind, Option.bind_some, List.singleton_append]
      rw [if_pos (by simp; omega), l02Trim_eq hcl (by simp; omega), hcv]
      simp only [Option.bind_some]
      rw [cmp_eq (L_can _) hb (by omega), V_L hR0]
      simp only [Option.bind_some]
      by_cases hc : a[k] + 1000000000 * V rest < V b
      · rw [if_pos (by simpa using cmp3_lt.2 hc), if_pos hc, wpred (by omega)]
      · rw [if_neg (fun h => hc (cmp3_lt.1 (by simpa using h))), if_neg hc]
        have hlt : a[k] + 1000000000 * V rest < 1000000000 * V b := by omega
        rw [digit_eq (L_can _) hb hb0 (by omega) (by omega) (by rw [V_L hR0]; omega) (by rw [V_L hR0]; exact hlt), V_L hR0]
        simp only [Option.bind_some]
        have hq0 : 0 ≤ (a[k] + 1000000000 * V rest) / V b := Int.ediv_nonneg hR0 (by omega)
        have hq1 : (a[k] + 1000000000 * V rest) / V b < 1000000000 := Int.ediv_lt_of_lt_mul hbp hlt
        have hql : (L ((a[k] + 1000000000 * V rest) / V b)).length ≤ 1 := (L_len hq0).2 (by simpa [B] using hq1)
        have hm1 := Int.mul_ediv_add_emod (a[k] + 1000000000 * V rest) (V b)
        have hm2 := Int.emod_nonneg (a[k] + 1000000000 * V rest) (b := V b) (by omega)
        have hp0 : 0 ≤ V b * ((a[k] + 1000000000 * V rest) / V b) := Int.mul_nonneg (by omega) hq0
        rw [if_pos (by simp; omega), if_pos (by simp; omega), natOf_eq hq0 (by omega)]
        simp only [Option.bind_some]
        rw [mul_eq hb.1 (L_lim _) (by omega) (by omega), V_L hq0]
        simp only [Option.bind_some]
        rw [sub_eq (L_lim _) (L_lim _) ((L_len hp0).2 (by
          have := V_lt (L_lim (a[k] + 1000000000 * V rest))
          rw [V_L hR0] at this
          omega)) (by rw [V_L hR0, V_L hp0]; omega) (by omega), V_L hR0, V_L hp0]
        simp only [Option.bind_some]
        rw [wpred (by omega), Nat.zero_add]
        congr 4
        omega
    rw [show ((k + 1 : Nat) : Int) - 1 = k by omega, hbody]
    refine .inl ⟨_, rfl, ?_⟩
    by_cases hc : a[k] + 1000000000 * V rest < V b
    · rw [if_pos hc]
      refine ⟨⟨k, 0 :: q, rfl, by omega, ?_, by simp; omega, Lim.cons (by omega) hlq, L_can _, by rw [V_L hR0]; exact hc, ?_⟩, by simp⟩
      · simp only
        rw [List.replicate_succ', List.append_assoc]; rfl
      · simp only
        rw [hd, hv, V_cons, V_L hR0]
        grind
    · rw [if_neg hc]
      have hlt : a[k] + 1000000000 * V rest < 1000000000 * V b := by omega
      have hm2 := Int.emod_nonneg (a[k] + 1000000000 * V rest) (b := V b) (by omega)
      refine ⟨⟨k, (a[k] + 1000000000 * V rest) / V b :: q, rfl, by omega, rep_set _ _ _, by simp; omega, Lim.cons ⟨Int.ediv_nonneg hR0 (by omega), Int.ediv_lt_of_lt_mul hbp hlt⟩ hlq, L_can _, by rw [V_L hm2]; exact Int.emod_lt_of_pos _ hbp, ?_⟩, by simp⟩
      simp only
      rw [hd, hv, V_cons, V_L hm2]
      have hm1 := Int.mul_ediv_add_emod (a[k] + 1000000000 * V rest) (V b)
      generalize (a[k] + 1000000000 * V rest) / V b = u at *
      generalize (a[k] + 1000000000 * V rest) % V b = t at *
      grind

theorem div_eq {a b : List Int} (ha : Nf a) (hb : Nf b) (hb0 : b ≠ []) (hn : a.length ≤ 900000) (hm : b.length ≤ 900000) : spec_l02Div a b = some (L (V a / V b), L (V a % V b)) := by
  unfold spec_l02Div
  simp only [len_eI]
  by_cases h1 : b.length = 1
  · obtain ⟨k, d, hk, hd, hd0, hd1, hdv⟩ := nf_top hb hb0
    have hk0 : k = 0 := by omega
    subst hk0
    have hbv : V b = d := by simpa using hdv
    rw [if_pos (by simp [h1]), if_pos (by omega), hd]
    simp only [Option.bind_eq_bind, Option.bind_some]
    have hm1 := Int.emod_nonneg (V a) (b := d) (by omega)
    have hm2 := Int.emod_lt_of_pos (V a) hd0
    rw [small_eq ha.1 ⟨hd0, hd1⟩ (by omega)]
    simp only [Option.bind_some]
    rw [natOf_eq hm1 (by omega), hbv]
    rfl
  · obtain ⟨r, hr, e1, e2, e3, e4⟩ := div_loop ha hb hb0 hn hm
    rw [if_neg (by simp; omega), if_pos (by omega), wpred (by omega), Int.toNat_natCast, hr]
    simp only [Option.bind_eq_bind, Option.bind_some]
    rw [l02Trim_eq e2 (by omega), e4, e1]
    rfl

end Go.Proofs.YtfhmbogcjcgchaaGreat
