/- The program's long division, whole, and its greatest common divisor. No condition. -/
import Derived.Test.YtfhmbogcjcgchaaGreatPureNatG
namespace Go.Proofs.YtfhmbogcjcgchaaGreat
open Go Go.VL

theorem over_loop {row0 rv u : List Int} {n m : Nat} {v1 W : Int} (hn : 2 ≤ n) (hnl : n ≤ rv.length) (hv : Lim (rv.take n)) (hW : V (rv.take n) = W) (hv1 : rv[n - 1]? = some v1) (hv10 : 1 ≤ v1) (hu : Lim u) (hul : u.length ≤ 5000000) (hm : m + n = u.length) (hlt : V (u.drop m) < W) :
    ∃ r, impl_over_L3 u.length n n row0 rv ((m : Int) - 1) u (List.replicate m 0) = some r ∧ Lim r.1 ∧ r.1.length = u.length ∧ V r.1 < W ∧ Lim r.2 ∧ r.2.length = m ∧ V u = V r.2 * W + V r.1 := by
  refine iter_inv (I := fun w : Int × List Int × List Int => ∃ (k : Nat) (q : List Int), w.1 = (k : Int) - 1 ∧ k ≤ m ∧ Lim w.2.1 ∧ w.2.1.length = u.length ∧ w.2.2 = List.replicate k 0 ++ q ∧ q.length + k = m ∧ Lim q ∧ V (w.2.1.drop k) < W ∧ V u = V w.2.1 + B k * V q * W) (m := fun w : Int × List Int × List Int => (w.1 + 1).toNat) _ ?_ _ ⟨m, [], rfl, by omega, hu, rfl, by simp, by simp, Lim.nil, hlt, by simp [V]⟩
  rintro ⟨jj, u', row3⟩ ⟨k, q, h1, hk, hu', hlen, h3, hq, hlq, hlt', hV⟩
  simp only at h1 hu' hlen h3 hlt' hV ⊢
  subst h1 h3
  cases k with
  | zero =>
    refine .inr ⟨(u', q), by simp [impl_over_L3_body], hu', hlen, by simpa using hlt', hlq, by simpa using hq, ?_⟩
    rw [hV]
    simp [B]
    omega
  | succ k =>
    obtain ⟨u'', he, s1, s2, s3, s4, s5, s6⟩ := over_step (row0 := row0) (rv := rv) (u := u') (row3 := List.replicate (k + 1) 0 ++ q) (j := k) hn hnl hv hW hv1 hv10 hu' (by omega) (by omega) hlt' (by simp; omega)
    rw [hlen] at he
    rw [show ((k + 1 : Nat) : Int) - 1 = k by omega, he]
    refine .inl ⟨_, rfl, ⟨k, V (u'.drop k) / W :: q, rfl, by omega, s1, s2.trans hlen, rep_set _ _ _, by simp; omega, Lim.cons ⟨s5, s6⟩ hlq, s4, ?_⟩, by simp only; omega⟩
    simp only
    rw [hV, s3, V_cons, B_succ]
    grind

theorem clone_eq {a : List Int} (h : a.length ≤ 900000) : s_Clone a = some a := by
  unfold s_Clone
  rw [if_pos (by omega)]

theorem div_unique {a b q s : Int} (h : a = q * b + s) (h0 : 0 ≤ s) (h1 : s < b) : a / b = q ∧ a % b = s := by
  subst h
  constructor
  · rw [Int.add_comm, Int.add_mul_ediv_right _ _ (by omega), Int.ediv_eq_zero_of_lt h0 h1]
    omega
  · rw [Int.add_comm, Int.add_mul_emod_self_right]
    exact Int.emod_eq_of_lt h0 h1

theorem over_eq {a b : List Int} (ha : Nf a) (hb : Nf b) (hb0 : b ≠ []) (hn : a.length ≤ 900000) (hm : b.length ≤ 900000) : impl_over a b = some (L (V a / V b), L (V a % V b)) := by
  have hbp := V_pos hb hb0
  have hap := V_nonneg ha.1
  unfold impl_over
  simp only [len_eI]
  rw [compare_eq ha hb (by omega)]
  simp only [Option.bind_eq_bind, Option.bind_some]
  by_cases hc : V a < V b
  · rw [if_pos (by simpa using cmp3_lt.2 hc), clone_eq hn, Int.ediv_eq_zero_of_lt hap hc, Int.emod_eq_of_lt hap hc, L_zero, L_V ha]
    rfl
  · rw [if_neg (fun h => hc (cmp3_lt.1 (by simpa using h)))]
    obtain ⟨k, d, hk, hd, hd0, hd1, hdv⟩ := nf_top hb hb0
    by_cases h1 : b.length = 1
    · have hk0 : k = 0 := by omega
      subst hk0
      have hbv : V b = d := by simpa using hdv
      rw [if_pos (by simp [h1]), if_pos (by omega), hd]
      simp only [Option.bind_some]
      have hm1 := Int.emod_nonneg (V a) (b := d) (by omega)
      have hm2 := Int.emod_lt_of_pos (V a) hd0
      rw [overSmall_eq ha.1 ⟨hd0, hd1⟩ (by omega)]
      simp only [Option.bind_some]
      rw [wrapu hm1 (by omega), limbsOf_eq hm1 (by omega), hbv]
      rfl
    · have hw : w64 ((b.length : Int) - 1) = (k : Int) := by rw [w64_eq (by omega) (by omega)]; omega
      have e1 : w64 (d + 1) = d + 1 := w64_eq (by omega) (by omega)
      have hf1 : 1 ≤ 1000000000 / (d + 1) := by
        apply (Int.le_ediv_iff_mul_le (by omega)).2
        omega
      have hf2 : 1000000000 / (d + 1) < 1000000000 := by
        apply Int.ediv_lt_of_lt_mul (by omega)
        omega
      have hf3 : 1000000000 / (d + 1) * (d + 1) ≤ 1000000000 := Int.ediv_mul_le _ (by omega)
      have e2 : w64 ((1000000000 : Int).tdiv (d + 1)) = 1000000000 / (d + 1) := by rw [td (by omega), w64_eq (by omega) (by omega)]
      rw [if_neg (by simp; omega), hw, if_pos (by omega), Int.toNat_natCast, hd]
      simp only [Option.bind_some, e1, e2]
      generalize 1000000000 / (d + 1) = f at *
      rw [if_pos (by omega)]
      have hfl : Lim [f] := Lim.cons (by omega) Lim.nil
      have hfv : V [f] = f := by simp [V]
      have ha0 : a ≠ [] := by
        intro h
        subst h
        simp [V] at hc
        omega
      obtain ⟨ku, ru, hru, ku1, ku2, ku3, ku4⟩ := times_o_eq ha.1 hfl ha0 (by simp) (by omega) (by simp)
      obtain ⟨kv, rv, hrv, kv1, kv2, kv3, kv4⟩ := times_o_eq hb.1 hfl hb0 (by simp) (by omega) (by simp)
      rw [hfv] at ku3 kv3
      rw [hru]
      simp only [Option.bind_some]
      simp only [List.length_singleton] at ku2 kv2
      -- sizes
      have hbk := B_pos k
      have hWf : V b * f < B b.length := by
        have h2 := (top_bounds hb.1 (k := k) (by omega)).2
        rw [hdv] at h2
        have h3 : V b * f ≤ (B k * (d + 1) - 1) * f := Int.mul_le_mul_of_nonneg_right (by omega) (by omega)
        have h4 : (B k * (d + 1) - 1) * f = B k * (f * (d + 1)) - f := by grind
        have h5 : B k * (f * (d + 1)) ≤ B k * 1000000000 := Int.mul_le_mul_of_nonneg_left hf3 (by omega)
        rw [hk, B_succ]
        omega
      have hWb : V b ≤ V b * f := by
        have : V b * 1 ≤ V b * f := Int.mul_le_mul_of_nonneg_left hf1 (by omega)
        omega
      have hUa : V a ≤ V a * f := by
        have : V a * 1 ≤ V a * f := Int.mul_le_mul_of_nonneg_left hf1 (by omega)
        omega
      have hW0 : 0 ≤ V b * f := by omega
      have hU0 : 0 ≤ V a * f := by omega
      have hkv : kv = b.length := by
        have h2 : (rv.take kv).length = kv := by simp; omega
        rw [kv3] at h2
        have h3 := (L_len hW0 (k := b.length)).2 hWf
        have h4 := V_ge hb hb0
        have h5 : ¬ (L (V b * f)).length ≤ b.length - 1 := fun h => by
          have := (L_len hW0).1 h
          omega
        omega
      have hku : (L (V a * f)).length = ku := by rw [← ku3]; simp; omega
      have hVlt := V_lt (L_lim (V a * f))
      rw [V_L hU0, hku] at hVlt
      have hkua : a.length ≤ ku := ha.len.2 (by omega)
      have hba : b.length ≤ a.length := Nat.le_of_not_lt fun h => by
        have := cmp_len ha hb h
        omega
      rw [if_pos (by omega), if_pos (by simp; omega), hrv]
      simp only [Option.bind_some]
      have hul : (ru.take ku ++ [0]).length = ku + 1 := by simp; omega
      have hL1 : impl_over_L1 a kv [f] rv (ru.take ku ++ [0]) = some (ru.take ku ++ [0]) := by
        unfold impl_over_L1
        rw [iter]
        unfold impl_over_L1_body
        simp only [len_eI, hul]
        rw [if_neg (by simp; omega)]
        rfl
      rw [hL1]
      simp only [Option.bind_some, hul]
      have hmm : w64 (((ku + 1 : Nat) : Int) - ((kv : Nat) : Int)) = ((ku + 1 - b.length : Nat) : Int) := by rw [w64_eq (by omega) (by omega)]; omega
      rw [hmm, if_pos (by omega), wpred (by omega), Int.toNat_natCast]
      -- the loop
      have hulim : Lim (ru.take ku ++ [0]) := by
        rw [ku3]
        exact (L_lim _).append (Lim.cons (by omega) Lim.nil)
      have huv : V (ru.take ku ++ [0]) = V a * f := by
        rw [V_append, ku3, V_L hU0]
        simp [V]
      have hvtake : rv.take b.length = L (V b * f) := by rw [← hkv]; exact kv3
      have hvv : V (rv.take b.length) = V b * f := by rw [hvtake, V_L hW0]
      obtain ⟨k', d', hk', hd', hd0', hd1', hdv'⟩ := nf_top (L_can (V b * f)) (fun h => by have := L_nil.1 h; omega)
      rw [← hvtake] at hk' hd'
      have hvl : (rv.take b.length).length = b.length := by simp; omega
      have hd2 : rv[b.length - 1]? = some d' := by
        rw [List.getElem?_take] at hd'
        rw [show b.length - 1 = k' by omega]
        split at hd'
        · exact hd'
        · simp at hd'
      have hlt0 : V ((ru.take ku ++ [0]).drop (ku + 1 - b.length)) < V b * f := by
        have h2 := (top_bounds hulim (k := ku + 1 - b.length) (by omega)).1
        rw [huv] at h2
        have h3 := V_ge hb hb0
        have h4 : B ku = B (ku + 1 - b.length) * B (b.length - 1) := by rw [← B_add]; congr 1; omega
        rw [h4] at hVlt
        have h5 : B (ku + 1 - b.length) * V ((ru.take ku ++ [0]).drop (ku + 1 - b.length)) < B (ku + 1 - b.length) * B (b.length - 1) := by omega
        have := Int.lt_of_mul_lt_mul_left h5 (by have := B_pos (ku + 1 - b.length); omega)
        omega
      obtain ⟨r, hr, r1, r2, r3, r4, r5, r6⟩ := over_loop (row0 := [f]) (m := ku + 1 - b.length) (by omega) (by omega) (by rw [hvtake]; exact L_lim _) hvv hd2 (by omega) hulim (by omega) (by omega) hlt0
      rw [hul] at hr r2
      rw [hkv, hr]
      simp only [Option.bind_some]
      rw [if_pos (by omega), List.drop_zero, List.take_of_length_le (by omega), trim_eq r1 (by omega)]
      simp only [Option.bind_some]
      have hrn := V_nonneg r1
      rw [huv] at r6
      have hs : V r.1 = (V a - V r.2 * V b) * f := by grind
      have hs0 : 0 ≤ V a - V r.2 * V b := by
        apply Int.not_lt.mp
        intro h
        have : (V a - V r.2 * V b) * f ≤ (-1) * f := Int.mul_le_mul_of_nonneg_right (by omega) (by omega)
        omega
      have hs1 : V a - V r.2 * V b < V b := by
        apply Int.lt_of_mul_lt_mul_right (a := f) _ (by omega)
        omega
      obtain ⟨q1, q2⟩ := div_unique (a := V a) (b := V b) (q := V r.2) (s := V a - V r.2 * V b) (by omega) hs0 hs1
      rw [if_pos (by simp)]
      simp only [List.getElem?_cons_zero, Option.bind_some]
      have hl2 : (L (V r.1)).length ≤ ku + 1 := (L_len hrn).2 (by have := V_lt r1; rwa [r2] at this)
      rw [overSmall_eq (L_lim _) ⟨by omega, hf2⟩ (by omega), V_L hrn]
      simp only [Option.bind_some]
      rw [trim_eq r4 (by omega)]
      simp only [Option.bind_some]
      rw [q1, q2, hs, Int.mul_ediv_cancel _ (by omega)]

theorem divisor_eq {a b : List Int} (ha : Nf a) (hb : Nf b) (hn : a.length ≤ 900000) (hm : b.length ≤ 900000) : impl_divisor a b = some (L (Int.gcd (V a) (V b))) := by
  have : ∃ r, iter (fun w : List Int × List Int => impl_divisor_L1_body w.1 w.2) (a, b) = some r ∧ r = L (Int.gcd (V a) (V b)) := by
    refine iter_inv (I := fun w : List Int × List Int => Nf w.1 ∧ Nf w.2 ∧ w.1.length ≤ 900000 ∧ w.2.length ≤ 900000 ∧ Int.gcd (V w.1) (V w.2) = Int.gcd (V a) (V b)) (m := fun w : List Int × List Int => (V w.2).toNat) _ ?_ _ ⟨ha, hb, hn, hm, rfl⟩
    rintro ⟨x, y⟩ ⟨h1, h2, h3, h4, h5⟩
    simp only at h1 h2 h3 h4 h5 ⊢
    have hx0 := V_nonneg h1.1
    have hy0 := V_nonneg h2.1
    by_cases hy : y = []
    · subst hy
      refine .inr ⟨x, by simp [impl_divisor_L1_body, len_eI], ?_⟩
      rw [← h5, V_nil, gcd_end hx0]
      exact (L_V h1).symm
    · have hyp := V_pos h2 hy
      have hly := List.length_pos_iff.mpr hy
      have hmn := Int.emod_nonneg (V x) (b := V y) (by omega)
      have hml := Int.emod_lt_of_pos (V x) hyp
      refine .inl ⟨(y, L (V x % V y)), ?_, ⟨h2, L_can _, h4, (L_len hmn).2 ?_, ?_⟩, ?_⟩
      · unfold impl_divisor_L1_body
        simp only [len_eI]
        rw [if_pos (by simp; omega), over_eq h1 h2 hy h3 h4]
        rfl
      · have := V_lt h2.1
        have := B_mono h4
        omega
      · simp only
        rw [V_L hmn, ← h5]
        exact gcd_step hx0
      · simp only
        rw [V_L hmn]
        omega
  obtain ⟨r, hr, rfl⟩ := this
  unfold impl_divisor impl_divisor_L1
  rw [hr]
  rfl

end Go.Proofs.YtfhmbogcjcgchaaGreat
