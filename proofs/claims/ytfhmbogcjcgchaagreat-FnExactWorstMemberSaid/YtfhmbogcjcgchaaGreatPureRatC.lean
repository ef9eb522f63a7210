/- Whole numbers as fractions, comparing fractions, in plain functions. No condition. -/
import Derived.Test.YtfhmbogcjcgchaaGreatPureRatB
namespace Go.Proofs.YtfhmbogcjcgchaaGreat
open Go Go.VL

theorem B24_big : (1000000000000000000000000000 : Int) ≤ B 24 := by
  have h : B 3 ≤ B 24 := B_mono (by omega)
  have h3 : B 3 = 1000000000000000000000000000 := by decide
  omega
theorem B60_big : (1000000000000000000000000000 : Int) ≤ B 60 := by
  have := B24_60
  have := B24_big
  omega

theorem bigIntOf_eq {n : Int} (h : In64 n) : spec_BigIntOf n = some (bigI n) := by
  obtain ⟨h1, h2⟩ := in64_iff.1 h
  have hb := B60_big
  unfold spec_BigIntOf
  by_cases hm : n = -9223372036854775808
  · rw [if_pos (by simpa using hm)]
    have e : ([854775808, 223372036, 9] : List Int) = L 9223372036854775808 := L_eq ⟨by intro x hx; simp at hx; omega, by simp⟩ (by decide)
    rw [e, make_eq (by omega) (by omega)]
    subst hm
    rfl
  · rw [if_neg (by simpa using hm)]
    by_cases hn : n < 0
    · rw [if_pos (by simpa using hn), w64_eq (by omega) (by omega), natOf_eq (by omega) (by omega)]
      simp only [Option.bind_eq_bind, Option.bind_some]
      rw [make_eq (by omega) (by omega)]
      simp only [Option.bind_some]
      congr 2
      unfold sg
      simp
    · rw [if_neg (by simpa using hn), natOf_eq (by omega) (by omega)]
      simp only [Option.bind_eq_bind, Option.bind_some]
      rw [make_eq (by omega) (by omega)]
      simp only [Option.bind_some]
      congr 2

theorem integer_eq {n : Int} (h : In64 n) : impl_integer n = some (bigI n) := by
  obtain ⟨h1, h2⟩ := in64_iff.1 h
  unfold impl_integer
  by_cases hn : n < 0
  · rw [if_pos (by simpa using hn), w64_eq (x := n + 1) (by omega) (by omega), w64_eq (x := 0 - (n + 1)) (by omega) (by omega), wrapu (x := 0 - (n + 1)) (by omega) (by omega), wrapu (by omega) (by omega), limbsOf_eq (by omega) (by omega)]
    simp only [Option.bind_eq_bind, Option.bind_some]
    rw [signed_eq (by omega)]
    simp only [Option.bind_some]
    congr 2
    unfold sg
    simp
    omega
  · rw [if_neg (by simpa using hn), wrapu (by omega) (by omega), limbsOf_eq (by omega) (by omega)]
    simp only [Option.bind_eq_bind, Option.bind_some]
    rw [signed_eq (by omega)]
    simp only [Option.bind_some]
    congr 2

theorem L_one : L 1 = [1] := L_small (by omega)

theorem ratFromInt_eq {n : Int} (h : In64 n) : spec_RatFromInt n = some (mk (n, 1)) := by
  unfold spec_RatFromInt
  rw [bigIntOf_eq h]
  simp only [Option.bind_eq_bind, Option.bind_some, mk, L_one]

theorem whole_eq {n : Int} (h : In64 n) : impl_whole n = some (some (mkO (n, 1))) := by
  unfold impl_whole
  rw [integer_eq h]
  simp only [Option.bind_eq_bind, Option.bind_some, mkO, L_one]

theorem fr_int {n : Int} (h : In64 n) : Fr (n, 1) := by
  obtain ⟨h1, h2⟩ := in64_iff.1 h
  have hb := B24_big
  exact ⟨by simp, by simp, by simp only; omega, by simp only; omega⟩

/-- Two fractions compared. -/
theorem l04Cmp_eq {p q : Int × Int} (hp : Fr p) (hq : Fr q) : spec_l04Cmp (mk p) (mk q) = some (cmp3 (p.1 * q.2) (q.1 * p.2)) := by
  have h1 := hp.lnum
  have h2 := hp.lden
  have h3 := hq.lnum
  have h4 := hq.lden
  have h5 := hp.pos
  have h6 := hq.pos
  have h7 := len_mul (x := p.1.natAbs) (y := q.2) (by omega) (by omega) hp.num hq.den
  have h8 := len_mul (x := q.1.natAbs) (y := p.2) (by omega) (by omega) hq.num hp.den
  have n7 : 0 ≤ (p.1.natAbs : Int) * q.2 := Int.mul_nonneg (by omega) (by omega)
  have n8 : 0 ≤ (q.1.natAbs : Int) * p.2 := Int.mul_nonneg (by omega) (by omega)
  have a7 : ((p.1 * q.2).natAbs : Int) = (p.1.natAbs : Int) * q.2 := by
    rw [Int.natAbs_mul, Int.natCast_mul]
    congr 1
    omega
  have a8 : ((q.1 * p.2).natAbs : Int) = (q.1.natAbs : Int) * p.2 := by
    rw [Int.natAbs_mul, Int.natCast_mul]
    congr 1
    omega
  have e1 : spec_l02Mul (mk p).fNum.fMag (mk q).fDen = some (L ((p.1.natAbs : Int) * q.2)) := by
    show spec_l02Mul (L p.1.natAbs) (L q.2) = _
    rw [mul_eq (L_lim _) (L_lim _) (by omega) (by omega), V_L (by omega), V_L (by omega)]
  have e2 : spec_l02Mul (mk q).fNum.fMag (mk p).fDen = some (L ((q.1.natAbs : Int) * p.2)) := by
    show spec_l02Mul (L q.1.natAbs) (L p.2) = _
    rw [mul_eq (L_lim _) (L_lim _) (by omega) (by omega), V_L (by omega), V_L (by omega)]
  have e3 : spec_l03Make (mk p).fNum.fNeg (L ((p.1.natAbs : Int) * q.2)) = some (bigI (p.1 * q.2)) := by
    show spec_l03Make (decide (p.1 < 0)) _ = _
    rw [make_eq n7 ((L_len n7).1 (by omega)), sg_mul1]
  have e4 : spec_l03Make (mk q).fNum.fNeg (L ((q.1.natAbs : Int) * p.2)) = some (bigI (q.1 * p.2)) := by
    show spec_l03Make (decide (q.1 < 0)) _ = _
    rw [make_eq n8 ((L_len n8).1 (by omega)), sg_mul1]
  unfold spec_l04Cmp
  rw [e1, Option.bind_eq_bind, Option.bind_some, e3, Option.bind_eq_bind, Option.bind_some, e2, Option.bind_eq_bind, Option.bind_some, e4, Option.bind_some, l03Cmp_eq (by rw [a7]; omega) (by rw [a8]; omega)]
  rfl

theorem scaled_eq {p : Int × Int} {d : Int} (hd : 0 ≤ d) (h1 : (L p.1.natAbs).length ≤ 900000) (h2 : (L d).length ≤ 900000) : impl_ratio_scaled (some (mkO p)) (L d) = some (bigI (p.1 * d)) := by
  have e1 : impl_times (mkO p).gNum.fMag (L d) = some (L ((p.1.natAbs : Int) * d)) := by
    show impl_times (L p.1.natAbs) (L d) = _
    rw [times_eq (L_lim _) (L_lim _) (by omega) (by omega), V_L (by omega), V_L (by omega)]
  have n7 : 0 ≤ (p.1.natAbs : Int) * d := Int.mul_nonneg (by omega) (by omega)
  have e3 : impl_signed (mkO p).gNum.fNeg (L ((p.1.natAbs : Int) * d)) = some (bigI (p.1 * d)) := by
    show impl_signed (decide (p.1 < 0)) _ = _
    rw [signed_eq n7, sg_mul1]
  unfold impl_ratio_scaled
  rw [Option.bind_eq_bind, Option.bind_some, e1, Option.bind_eq_bind, Option.bind_some, e3]
  rfl

theorem mulabs {a d : Int} (hd : 0 ≤ d) : ((a * d).natAbs : Int) = (a.natAbs : Int) * d := by
  rw [Int.natAbs_mul, Int.natCast_mul]
  congr 1
  omega

theorem ratio_Cmp_eq {p q : Int × Int} {i j k l : Nat} (hp : 0 < p.2) (hq : 0 < q.2) (h1 : (p.1.natAbs : Int) < B i) (h2 : p.2 < B j) (h3 : (q.1.natAbs : Int) < B k) (h4 : q.2 < B l) (hi : i ≤ 1000) (hj : j ≤ 1000) (hk : k ≤ 1000) (hl : l ≤ 1000) : impl_ratio_Cmp (some (mkO p)) (some (mkO q)) = some (cmp3 (p.1 * q.2) (q.1 * p.2)) := by
  have l1 := (L_len (by omega)).2 h1
  have l2 := (L_len (by omega)).2 h2
  have l3 := (L_len (by omega)).2 h3
  have l4 := (L_len (by omega)).2 h4
  have h7 := len_mul (x := p.1.natAbs) (y := q.2) (by omega) (by omega) h1 h4
  have h8 := len_mul (x := q.1.natAbs) (y := p.2) (by omega) (by omega) h3 h2
  unfold impl_ratio_Cmp
  rw [Option.bind_eq_bind, Option.bind_some]
  show (impl_ratio_scaled (some (mkO p)) (L q.2)).bind _ = _
  rw [scaled_eq (by omega) (by omega) (by omega), Option.bind_some, Option.bind_eq_bind, Option.bind_some]
  show (impl_ratio_scaled (some (mkO q)) (L p.2)).bind _ = _
  rw [scaled_eq (by omega) (by omega) (by omega), Option.bind_some, BigInt_compare_eq (by rw [mulabs (by omega)]; omega) (by rw [mulabs (by omega)]; omega)]
  rfl

end Go.Proofs.YtfhmbogcjcgchaaGreat
