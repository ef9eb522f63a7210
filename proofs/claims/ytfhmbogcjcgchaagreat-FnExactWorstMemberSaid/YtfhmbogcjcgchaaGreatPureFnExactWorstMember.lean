/- The program's WorstMember and the reference's say the same, in plain functions. No condition. -/
import Derived.Test.YtfhmbogcjcgchaaGreatPureRatE
import Derived.Test.YtfhmbogcjcgchaaGreatVFnExactWorstMemberA
namespace Go.Proofs.YtfhmbogcjcgchaaGreat
open Go Go.VL

theorem ratSign_eq {p : Int × Int} (hp : Fr p) (h0 : 0 ≤ p.1) : spec_RatSign (mk p) = some (if p.1 = 0 then 0 else 1) := by
  have h1 : spec_RatOk (mk p) = some true := enc_ok (x := some p) (okQ_some hp)
  have hs : spec_RatSign (mk p) = (spec_RatOk (mk p)).bind (fun r1 => if r1 = true then (if ((len_ eI (L p.1.natAbs)) == (0 : Int)) = true then some 0 else if (decide (p.1 < 0)) = true then some (-1) else some 1) else some 0) := rfl
  rw [hs, h1, Option.bind_some, if_pos rfl, len_eI]
  by_cases h : p.1 = 0
  · rw [if_pos (by rw [h]; simp [L_zero]), if_pos h]
  · rw [if_neg (by simp only [beq_iff_eq]; intro h2; have := (len0 (n := p.1.natAbs) (by omega)).1 h2; omega), if_neg (by simp; omega), if_neg h]

theorem ratioSign_eq {p : Int × Int} (h0 : 0 ≤ p.1) : impl_ratio_Sign (someO p) = some (if p.1 = 0 then 0 else 1) := by
  have hs : impl_ratio_Sign (someO p) = ((if ((len_ eI (L p.1.natAbs)) == (0 : Int)) = true then some 0 else if (decide (p.1 < 0)) = true then some (-1) else some 1 : Option Int)).bind (fun r => some r) := rfl
  rw [hs, len_eI]
  by_cases h : p.1 = 0
  · rw [if_pos (by rw [h]; simp [L_zero]), if_pos h]
    rfl
  · rw [if_neg (by simp only [beq_iff_eq]; intro h2; have := (len0 (n := p.1.natAbs) (by omega)).1 h2; omega), if_neg (by simp; omega), if_neg h]
    rfl

theorem sq1000 {w : Int} (h0 : 0 ≤ w) (h1 : w ≤ 1000) : 0 ≤ w * w ∧ w * w ≤ 1000000 := by
  have := Int.mul_le_mul h1 h1 h0 (by omega)
  exact ⟨sq_nonneg w, by omega⟩

theorem bigI_sg {x : Int} : sg false x = x := rfl

theorem l20Cmp_eq {p q : Int × Int} (hp : Fr p) (hq : Fr q) (hp0 : 0 ≤ p.1) (hq0 : 0 ≤ q.1) {v w : Int} (hv0 : 0 ≤ v) (hv1 : v ≤ 1000) (hw0 : 0 ≤ w) (hw1 : w ≤ 1000) : spec_l20Cmp (mk p) v (mk q) w = some (cmp3 (p.1 * q.2 * (w * w)) (q.1 * p.2 * (v * v))) := by
  have h1 := hp.lnum
  have h2 := hp.lden
  have h3 := hq.lnum
  have h4 := hq.lden
  have h5 := hp.pos
  have h6 := hq.pos
  have ea : (p.1.natAbs : Int) = p.1 := by omega
  have eb : (q.1.natAbs : Int) = q.1 := by omega
  obtain ⟨w2, w3⟩ := sq1000 hw0 hw1
  obtain ⟨v2, v3⟩ := sq1000 hv0 hv1
  have np := hp.num
  have nq := hq.num
  rw [ea] at h1 np
  rw [eb] at h3 nq
  have n1 : 0 ≤ p.1 * q.2 := Int.mul_nonneg hp0 (by omega)
  have n2 : 0 ≤ q.1 * p.2 := Int.mul_nonneg hq0 (by omega)
  have l1 := len_mul hp0 (by omega) np hq.den
  have l2 := len_mul hq0 (by omega) nq hp.den
  have b1 := (L_len (k := 48) n1).1 l1
  have b2 := (L_len (k := 48) n2).1 l2
  have hB1 : (1000000 : Int) < B 1 := by decide
  have l3 := len_mul (m := 48) (n := 1) n1 w2 b1 (by omega)
  have l4 := len_mul (m := 48) (n := 1) n2 v2 b2 (by omega)
  have lw := (L_len (k := 1) w2).2 (by omega)
  have lv := (L_len (k := 1) v2).2 (by omega)
  have n3 : 0 ≤ p.1 * q.2 * (w * w) := Int.mul_nonneg n1 w2
  have n4 : 0 ≤ q.1 * p.2 * (v * v) := Int.mul_nonneg n2 v2
  have e1 : spec_l02Mul (mk p).fNum.fMag (mk q).fDen = some (L (p.1 * q.2)) := by
    show spec_l02Mul (L p.1.natAbs) (L q.2) = _
    rw [ea, mul_eq (L_lim _) (L_lim _) (by omega) (by omega), V_L hp0, V_L (by omega)]
  have e2 : spec_l02Mul (mk q).fNum.fMag (mk p).fDen = some (L (q.1 * p.2)) := by
    show spec_l02Mul (L q.1.natAbs) (L p.2) = _
    rw [eb, mul_eq (L_lim _) (L_lim _) (by omega) (by omega), V_L hq0, V_L (by omega)]
  have ww : w64 (w * w) = w * w := w64_eq (by omega) (by omega)
  have wv : w64 (v * v) = v * v := w64_eq (by omega) (by omega)
  unfold spec_l20Cmp
  rw [e1, e2, ww, wv, natOf_eq w2 (by omega), natOf_eq v2 (by omega)]
  simp only [Option.bind_eq_bind, Option.bind_some]
  rw [mul_eq (L_lim _) (L_lim _) (by omega) (by omega), V_L n1, V_L w2]
  simp only [Option.bind_some]
  rw [mul_eq (L_lim _) (L_lim _) (by omega) (by omega), V_L n2, V_L v2]
  simp only [Option.bind_some]
  rw [make_eq n3 ((L_len n3).1 (by omega)), make_eq n4 ((L_len n4).1 (by omega))]
  simp only [Option.bind_some, bigI_sg]
  have a3 : ((p.1 * q.2 * (w * w)).natAbs : Int) = p.1 * q.2 * (w * w) := by omega
  have a4 : ((q.1 * p.2 * (v * v)).natAbs : Int) = q.1 * p.2 * (v * v) := by omega
  rw [l03Cmp_eq (by rw [a3]; omega) (by rw [a4]; omega)]
  simp only [Option.bind_some]

/-- The quotient that the program makes, in lowest terms. -/
theorem isMore_2_eq {p : Int × Int} (hp : Fr p) (hp0 : 0 ≤ p.1) {w : Int} (hw0 : 0 < w) (hw1 : w ≤ 1000) :
    ∃ (g m e : Int), 0 < g ∧ p.1 = g * m ∧ p.2 * (w * w) = g * e ∧ 0 ≤ m ∧ 0 < e ∧ m < B 24 ∧ e < B 25 ∧ impl_isMore_2 (someO p) w = some (someO (m, e)) := by
  have h1 := hp.lnum
  have h2 := hp.lden
  have h5 := hp.pos
  obtain ⟨w2, w3⟩ := sq1000 (show 0 ≤ w by omega) hw1
  have wp : 0 < w * w := Int.mul_pos hw0 hw0
  have hd : 0 < p.2 * (w * w) := Int.mul_pos h5 wp
  obtain ⟨m, e, g1, g2, g3, g4, g5, g6⟩ := div_gcd (n := p.1) hd
  have hg := gcd_pos (n := p.1) hd
  have hB1 : (1000000 : Int) < B 1 := by decide
  have np := hp.num
  have ld := len_mul (m := 24) (n := 1) (by omega) w2 hp.den (by omega)
  have bd := (L_len (k := 25) (Int.le_of_lt hd)).1 ld
  have lw := (L_len (k := 1) w2).2 (by omega)
  have hm0 : 0 ≤ m := by
    apply Int.not_lt.mp
    intro h
    have : (Int.gcd p.1 (p.2 * (w * w)) : Int) * m ≤ Int.gcd p.1 (p.2 * (w * w)) * (-1) := Int.mul_le_mul_of_nonneg_left (by omega) (by omega)
    omega
  have hmle : m ≤ p.1 := by
    have : 1 * m ≤ (Int.gcd p.1 (p.2 * (w * w)) : Int) * m := Int.mul_le_mul_of_nonneg_right (by omega) hm0
    omega
  have hele : e ≤ p.2 * (w * w) := by
    have : 1 * e ≤ (Int.gcd p.1 (p.2 * (w * w)) : Int) * e := Int.mul_le_mul_of_nonneg_right (by omega) (by omega)
    omega
  refine ⟨Int.gcd p.1 (p.2 * (w * w)), m, e, hg, g3, g4, hm0, g5, by omega, by omega, ?_⟩
  have hin : In64 (w * w) := in64_iff.2 (by omega)
  have ww : w64 (w * w) = w * w := w64_eq (by omega) (by omega)
  have e1 : impl_times (mkO p).gNum.fMag (mkO (w * w, 1)).gDen = some (L p.1) := by
    show impl_times (L p.1.natAbs) (L 1) = _
    rw [times_eq (L_lim _) (L_lim _) (by omega) (by rw [L_one]; simp), V_L (by omega), V_L (by omega), Int.mul_one]
    congr 2
    omega
  have e2 : impl_times (mkO p).gDen (mkO (w * w, 1)).gNum.fMag = some (L (p.2 * (w * w))) := by
    show impl_times (L p.2) (L (w * w).natAbs) = _
    have : ((w * w).natAbs : Int) = w * w := by omega
    rw [this, times_eq (L_lim _) (L_lim _) (by omega) (by omega), V_L (by omega), V_L w2]
  have e3 : impl_signed (!((mkO p).gNum.fNeg == (mkO (w * w, 1)).gNum.fNeg)) (L p.1) = some (bigI p.1) := by
    show impl_signed (!(decide (p.1 < 0) == decide (w * w < 0))) (L p.1) = _
    rw [decide_eq_false (by omega), decide_eq_false (by omega), signed_eq hp0]
    rfl
  unfold impl_isMore_2
  rw [if_neg (by simp; omega), ww, whole_eq hin]
  simp only [Option.bind_eq_bind, Option.bind_some]
  unfold impl_ratio_by someO
  simp only [Option.bind_eq_bind, Option.bind_some]
  rw [e1]
  simp only [Option.bind_some]
  rw [e3]
  simp only [Option.bind_some]
  rw [e2]
  simp only [Option.bind_some]
  rw [lowest_eq hd (by omega) (by omega), g1, g2]
  simp only [Option.bind_some]

theorem cmp3_scale {k x y : Int} (hk : 0 < k) : cmp3 (k * x) (k * y) = cmp3 x y := by
  unfold cmp3
  have h1 : k * x < k * y ↔ x < y := Int.mul_lt_mul_left hk
  have h2 : k * y < k * x ↔ y < x := Int.mul_lt_mul_left hk
  by_cases a : x < y
  · rw [if_pos a, if_pos (h1.2 a)]
  · rw [if_neg a, if_neg (fun h => a (h1.1 h))]
    by_cases b : y < x
    · rw [if_pos b, if_pos (h2.2 b)]
    · rw [if_neg b, if_neg (fun h => b (h2.1 h))]

theorem fr01 : Fr ((0 : Int), (1 : Int)) := fr_int (in64_iff.2 (by omega))

theorem isMore_2_zero {x : Option TRatio_} : impl_isMore_2 x 0 = some (someO (0, 1)) := by
  unfold impl_isMore_2
  rw [if_pos (by rfl), whole_eq (in64_iff.2 (by omega))]
  rfl

theorem isMore_1_eq {p : Int × Int} (h0 : 0 ≤ p.1) (w : Int) : impl_isMore_1 (someO p) w = some (decide (w = 0 ∧ p.1 ≠ 0)) := by
  unfold impl_isMore_1
  by_cases hw : w = 0
  · rw [if_pos (by simpa using hw), ratioSign_eq h0]
    by_cases h : p.1 = 0 <;> simp [h, hw]
  · rw [if_neg (by simpa using hw)]
    simp [hw]

theorem worse_both {p q : Int × Int} (hp : Fr p) (hq : Fr q) (hp0 : 0 ≤ p.1) (hq0 : 0 ≤ q.1) {v w : Int} (hv0 : 0 ≤ v) (hv1 : v ≤ 1000) (hw0 : 0 ≤ w) (hw1 : w ≤ 1000) :
    ∃ r, spec_l20Worse (mk p) v (mk q) w = some r ∧ impl_isMore (someO p) v (someO q) w = some r ∧ (p = q → v = w → r = false) := by
  have hB24 := B24_big
  have c0 : ((0 : Int) == (0 : Int)) = true := rfl
  unfold spec_l20Worse impl_isMore
  rw [ratSign_eq hp hp0, ratSign_eq hq hq0, isMore_1_eq hp0, isMore_1_eq hq0]
  simp only [Option.bind_eq_bind, Option.bind_some]
  by_cases hv : v = 0
  · subst hv
    by_cases ha : p.1 = 0
    · -- nothing here
      have hsp : (if ((0 : Int) == (0 : Int)) = true then (if decide ((0 : Int) < (if p.1 = 0 then 0 else 1)) = true then (if (w != (0 : Int)) = true then some true else some ((if q.1 = 0 then (0 : Int) else 1) == (0 : Int))) else if (w == (0 : Int)) = true then (if decide ((0 : Int) < (if q.1 = 0 then 0 else 1)) = true then some false else some false) else some false) else (if (w == (0 : Int)) = true then (if decide ((0 : Int) < (if q.1 = 0 then 0 else 1)) = true then some false else some (decide ((0 : Int) < (if p.1 = 0 then 0 else 1)))) else ((spec_l20Cmp (mk p) 0 (mk q) w).bind fun r3 => some (decide ((0 : Int) < r3))))) = some false := by
        rw [if_pos c0, if_neg (by simp [ha])]
        by_cases hw : w = 0
        · rw [if_pos (by simpa using hw)]; split <;> rfl
        · rw [if_neg (by simpa using hw)]
      refine ⟨false, hsp, ?_, fun _ _ => rfl⟩
      rw [if_neg (by simp [ha])]
      by_cases hb : w = 0 ∧ q.1 ≠ 0
      · rw [if_pos (by simpa using hb)]
      · rw [if_neg (by simpa using hb), isMore_2_zero]
        simp only [Option.bind_some]
        by_cases hw : w = 0
        · subst hw
          rw [isMore_2_zero]
          simp only [Option.bind_some]
          have := ratio_Cmp_eq (p := (0, 1)) (q := (0, 1)) fr01.pos fr01.pos fr01.num fr01.den fr01.num fr01.den (by omega) (by omega) (by omega) (by omega)
          unfold someO
          rw [this]
          rfl
        · obtain ⟨g, m, e, g1, g2, g3, g4, g5, g6, g7, g8⟩ := isMore_2_eq hq hq0 (show 0 < w by omega) hw1
          rw [g8]
          simp only [Option.bind_some]
          have := ratio_Cmp_eq (p := (0, 1)) (q := (m, e)) (i := 24) (j := 24) (k := 24) (l := 25) fr01.pos g5 fr01.num fr01.den (by simp only; omega) g7 (by omega) (by omega) (by omega) (by omega)
          unfold someO
          rw [this]
          simp only [Option.bind_some]
          congr 1
          rw [decide_eq_false_iff_not, cmp3_pos]
          omega
    · have hap : 0 < p.1 := by omega
      have d1 : decide ((0 : Int) < (if p.1 = 0 then 0 else 1)) = true := by simp [ha]
      have d2 : decide ((0 : Int) = 0 ∧ p.1 ≠ 0) = true := by simp [ha]
      simp only [c0, d1, d2, if_true]
      by_cases hw : w = 0
      · subst hw
        by_cases hb : q.1 = 0
        · refine ⟨true, by simp [hb], by simp [ha, hb], fun h _ => by rw [h] at ha; exact absurd hb ha⟩
        · refine ⟨false, by simp [hb], by simp [ha, hb], fun _ _ => rfl⟩
      · refine ⟨true, by simp [hw], by simp [ha, hw], fun _ h => absurd h.symm hw⟩
  · have hvp : 0 < v := by omega
    have c1 : ¬ ((v == (0 : Int)) = true) := by simpa using hv
    have c2 : ¬ (decide (v = 0 ∧ p.1 ≠ 0) = true) := by simp [hv]
    rw [if_neg c1, if_neg c2]
    obtain ⟨g, m, e, g1, g2, g3, g4, g5, g6, g7, g8⟩ := isMore_2_eq hp hp0 hvp hv1
    by_cases hw : w = 0
    · subst hw
      rw [if_pos c0]
      by_cases hb : q.1 = 0
      · have d3 : ¬ decide ((0 : Int) < (if q.1 = 0 then 0 else 1)) = true := by simp [hb]
        have d4 : ¬ decide ((0 : Int) = 0 ∧ q.1 ≠ 0) = true := by simp [hb]
        rw [if_neg d3, if_neg d4, g8, Option.bind_some, isMore_2_zero, Option.bind_some]
        have := ratio_Cmp_eq (p := (m, e)) (q := (0, 1)) (i := 24) (j := 25) (k := 24) (l := 24) g5 fr01.pos (by simp only; omega) g7 fr01.num fr01.den (by omega) (by omega) (by omega) (by omega)
        unfold someO
        rw [this]
        refine ⟨_, rfl, ?_, fun _ h => absurd h hv⟩
        simp only [Option.bind_some]
        congr 1
        rw [decide_eq_decide, cmp3_pos]
        simp only [Int.zero_mul, Int.mul_one]
        by_cases ha : p.1 = 0
        · have : m = 0 := by
            rw [ha] at g2
            rcases Int.mul_eq_zero.1 g2.symm with h | h <;> omega
          simp [ha, this]
        · have : m ≠ 0 := fun h => by
            rw [h] at g2
            omega
          simp [ha]
          omega
      · rw [if_pos (by simp [hb]), if_pos (by simp [hb])]
        exact ⟨false, rfl, rfl, fun _ _ => rfl⟩
    · have c3 : ¬ ((w == (0 : Int)) = true) := by simpa using hw
      have c4 : ¬ (decide (w = 0 ∧ q.1 ≠ 0) = true) := by simp [hw]
      obtain ⟨g', m', e', g1', g2', g3', g4', g5', g6', g7', g8'⟩ := isMore_2_eq hq hq0 (show 0 < w by omega) hw1
      rw [if_neg c3, if_neg c4, l20Cmp_eq hp hq hp0 hq0 hv0 hv1 hw0 hw1, g8]
      simp only [Option.bind_some]
      rw [g8']
      simp only [Option.bind_some]
      have := ratio_Cmp_eq (p := (m, e)) (q := (m', e')) (i := 24) (j := 25) (k := 24) (l := 25) g5 g5' (by simp only; omega) g7 (by simp only; omega) g7' (by omega) (by omega) (by omega) (by omega)
      unfold someO
      rw [this]
      have hs : cmp3 (p.1 * q.2 * (w * w)) (q.1 * p.2 * (v * v)) = cmp3 (m * e') (m' * e) := by
        have hgg : 0 < g * g' := Int.mul_pos g1 g1'
        rw [← cmp3_scale (k := g * g') (x := m * e') hgg]
        congr 1
        · rw [Int.mul_assoc, g3', g2]
          grind
        · rw [Int.mul_assoc, g3, g2']
          grind
      rw [hs]
      refine ⟨_, rfl, rfl, fun h1 h2 => ?_⟩
      subst h1 h2
      rw [decide_eq_false_iff_not, ← hs, cmp3_pos]
      omega

theorem worst_loop {ys : List (Int × Int)} {w : List Int} (hy : ∀ p ∈ ys, Fr p ∧ 0 ≤ p.1) (hw : w.length = ys.length) (hw1 : ∀ (n : Nat) x, w[n]? = some x → 0 ≤ x ∧ x ≤ 1000) (h8 : ys.length ≤ 8) (hne : ys ≠ []) :
    ∃ r, spec_WorstMember_L1 w (ys.map mk) ys.length 0 0 = some r ∧ impl_WorstMember_L1 w (ys.map someO) ys.length (-1) 0 = some r := by
  have hpos := List.length_pos_iff.mpr hne
  have step : ∀ n b : Nat, n < ys.length → b < ys.length → ∃ r : Bool, (b = n → r = false) ∧ spec_WorstMember_L1_body w (ys.map mk) ys.length b n = some (.inl (if r then (n : Int) else (b : Int), ((n + 1 : Nat) : Int))) ∧ impl_WorstMember_L1_body w (ys.map someO) ys.length b n = some (.inl (if r then (n : Int) else (b : Int), ((n + 1 : Nat) : Int))) := by
    intro n b hn hb
    have yn := List.getElem?_eq_getElem hn
    have yb := List.getElem?_eq_getElem hb
    have wn := List.getElem?_eq_getElem (show n < w.length by omega)
    have wb := List.getElem?_eq_getElem (show b < w.length by omega)
    obtain ⟨f1, f2⟩ := hy _ (List.mem_of_getElem? yn)
    obtain ⟨f3, f4⟩ := hy _ (List.mem_of_getElem? yb)
    obtain ⟨r, r1, r2, r3⟩ := worse_both f1 f3 f2 f4 (hw1 n _ wn).1 (hw1 n _ wn).2 (hw1 b _ wb).1 (hw1 b _ wb).2
    refine ⟨r, fun h => ?_, ?_, ?_⟩
    · subst h
      exact r3 rfl rfl
    · unfold spec_WorstMember_L1_body
      rw [if_pos (by simp; omega), if_pos (by simp; omega), Int.toNat_natCast, List.getElem?_map, yn]
      simp only [Option.bind_eq_bind, Option.bind_some, Option.map_some]
      rw [if_pos (by omega), wn]
      simp only [Option.bind_some]
      rw [if_pos (by simp; omega), Int.toNat_natCast, List.getElem?_map, yb]
      simp only [Option.bind_some, Option.map_some]
      rw [if_pos (by omega), wb]
      simp only [Option.bind_some]
      rw [r1, i1 (by omega)]
      cases r <;> rfl
    · unfold impl_WorstMember_L1_body
      rw [if_pos (by simp; omega), if_pos (by simp; omega), Int.toNat_natCast, List.getElem?_map, yn]
      simp only [Option.bind_eq_bind, Option.bind_some, Option.map_some]
      rw [if_neg (by simp), if_pos (by omega), wn]
      simp only [Option.bind_some]
      rw [if_pos (by simp; omega), Int.toNat_natCast, List.getElem?_map, yb]
      simp only [Option.bind_some, Option.map_some]
      rw [if_pos (by omega), wb]
      simp only [Option.bind_some]
      rw [r2, i1 (by omega)]
      cases r <;> rfl
  -- from the same state both come to the same
  have both : ∀ (d n b : Nat), n + d = ys.length → b < ys.length → ∃ r, iter (fun v : Int × Int => spec_WorstMember_L1_body w (ys.map mk) ys.length v.1 v.2) (b, n) = some r ∧ iter (fun v : Int × Int => impl_WorstMember_L1_body w (ys.map someO) ys.length v.1 v.2) (b, n) = some r := by
    intro d
    induction d with
    | zero =>
      intro n b hn hb
      refine ⟨b, ?_, ?_⟩
      · rw [iter]
        have : n = ys.length := by omega
        simp [spec_WorstMember_L1_body, this]
      · rw [iter]
        have : n = ys.length := by omega
        simp [impl_WorstMember_L1_body, this]
    | succ d ih =>
      intro n b hn hb
      obtain ⟨r, -, s1, s2⟩ := step n b (by omega) hb
      rw [iter, iter]
      simp only
      rw [s1, s2]
      cases r
      · exact ih (n + 1) b (by omega) hb
      · exact ih (n + 1) n (by omega) (by omega)
  obtain ⟨r, r1, r2⟩ := both (ys.length - 1) 1 0 (by omega) hpos
  refine ⟨r, ?_, ?_⟩
  · obtain ⟨r0, hr0, s1, -⟩ := step 0 0 hpos hpos
    have := hr0 rfl
    subst this
    unfold spec_WorstMember_L1
    rw [iter]
    have s1' : spec_WorstMember_L1_body w (ys.map mk) ys.length 0 0 = some (.inl ((0 : Int), (1 : Int))) := s1
    simp only
    rw [s1']
    exact r1
  · unfold impl_WorstMember_L1
    rw [iter]
    have yn := List.getElem?_eq_getElem hpos
    have s1' : impl_WorstMember_L1_body w (ys.map someO) ys.length (-1) 0 = some (.inl ((0 : Int), (1 : Int))) := by
      unfold impl_WorstMember_L1_body
      have h0 : (ys.map someO)[0]? = some (someO ys[0]) := by rw [List.getElem?_map, yn]; rfl
      rw [if_pos (by simp; omega), if_pos (by simp; omega)]
      simp only [Int.toNat_zero]
      rw [h0]
      simp only [Option.bind_eq_bind, Option.bind_some]
      rw [if_pos (by simp), w64_eq (by omega) (by omega)]
      rfl
    simp only
    rw [s1']
    exact r2

theorem worstMember_both (s : TStructure) (i0 : ITStructure s) (q : List TRat) (h : q.length ≤ 1048576) (hr : ∀ r ∈ q, RatLen r) (w : List Int) (hwl : w.length ≤ maxLen) : ∃ r, spec_WorstMember s q w = some r ∧ impl_WorstMember s q w = some r := by
  unfold spec_WorstMember impl_WorstMember
  rcases squares_both s i0 q h hr with ⟨ys, y1, y2, y3, y4, y5, y6⟩ | ⟨y5, y6⟩
  · rw [y5, y6]
    simp only [Option.bind_eq_bind, Option.bind_some, if_true]
    obtain ⟨l, l1, l2, l3⟩ := limits_both s y4 w hwl
    rw [l1, l2]
    cases l with
    | false => exact ⟨-1, rfl, rfl⟩
    | true =>
      obtain ⟨l4, l5⟩ := l3 rfl
      simp only [Option.bind_some, if_true, len_eq, List.length_map]
      by_cases hy0 : ys = []
      · subst hy0
        refine ⟨-1, by simp, ?_⟩
        unfold impl_WorstMember_L1
        rw [iter]
        simp [impl_WorstMember_L1_body]
      · obtain ⟨r, r1, r2⟩ := worst_loop y1 (by omega) l5 (by omega) hy0
        rw [if_neg (by simp [hy0]), r1, r2]
        exact ⟨r, rfl, rfl⟩
  · rw [y5, y6]
    exact ⟨-1, rfl, rfl⟩

theorem laws_FnExactWorstMember_true (x0 : TStructure) (x1 : List TRat) (x2 : List Int) (i0 : ITStructure x0) (i1 : (fun l => l.length ≤ maxLen ∧ ∀ x ∈ l, ITRat x) x1) (i2 : (fun l => l.length ≤ maxLen ∧ ∀ x ∈ l, In64 x) x2) : laws_FnExactWorstMember x0 x1 x2 = some true := by
  unfold laws_FnExactWorstMember
  rw [len_eq]
  by_cases h1 : (1048576 : Int) < (x2.length : Nat)
  · simp [h1]
  · obtain ⟨r, r1, r2⟩ := szStructure_some x0 i0 1048576 (by omega) (by omega)
    have hle := szStructure_le x0 i0 1048576 (by omega) (by omega) r r1
    rw [decide_eq_false h1, r1]
    simp only [Bool.false_eq_true, if_false, Option.bind_eq_bind, Option.bind_some]
    by_cases h2 : r < 0
    · simp [h2]
    · obtain ⟨a1, a2⟩ := r2 (by omega)
      rw [decide_eq_false h2]
      obtain ⟨t, t1, t2, t3⟩ := szRatS_some x1 i1.1 i1.2 r (by omega) hle
      rw [t1]
      simp only [Bool.false_eq_true, if_false, Option.bind_some]
      by_cases h3 : t < 0
      · simp [h3]
      · obtain ⟨b1, b2⟩ := t3 (by omega)
        obtain ⟨a, q1, q2⟩ := worstMember_both x0 i0 x1 b1 b2 x2 i2.1
        simp [h3, toStructure_eq x0 a1 a2, toRatS_eq x1 b1 b2, toIntS_eq x2 (by omega), q1, q2, eqStructure_self x0 a1 a2, eqRatS_self x1 b1 b2, eqIntS_self x2 (by omega)]

end Go.Proofs.YtfhmbogcjcgchaaGreat
