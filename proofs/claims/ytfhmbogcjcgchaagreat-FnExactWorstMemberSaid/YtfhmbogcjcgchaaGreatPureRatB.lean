/- The rule of a fraction, multiplying and comparing fractions, in plain functions. No condition. -/
import Derived.Test.YtfhmbogcjcgchaaGreatPureRatA
namespace Go.Proofs.YtfhmbogcjcgchaaGreat
open Go Go.VL

theorem sg_lt {neg : Bool} {a : Int} (h : 0 ≤ a) (h2 : neg = true → 0 < a) : decide (sg neg a < 0) = neg := by
  unfold sg
  cases neg
  · simp; omega
  · have := h2 rfl
    simp; omega

theorem bigI_of {neg : Bool} {l : List Int} (hl : Nf l) (h2 : neg = true → l ≠ []) : (⟨neg, l⟩ : TBigInt) = bigI (sg neg (V l)) := by
  have h := V_nonneg hl.1
  unfold bigI
  rw [sg_abs h, L_V hl, sg_lt h (fun hn => V_pos hl (h2 hn))]

theorem bigIntOk_both {x : TBigInt} (hm : (x.fMag.length : Int) < 9223372036854775807) : ∃ ok, spec_BigIntOk x = some ok ∧ impl_BigIntOk x = some ok ∧ (ok = true ↔ ∃ n, x = bigI n ∧ (L n.natAbs).length ≤ 60) := by
  obtain ⟨o, h1, h2, h3⟩ := natOk_both hm
  unfold spec_BigIntOk impl_BigIntOk
  rw [h1, h2]
  simp only [Option.bind_eq_bind, Option.bind_some, len_eI]
  obtain ⟨neg, mag⟩ := x
  simp only at h3 ⊢
  have hpos : decide ((0 : Int) < (mag.length : Nat)) = !((((mag.length : Nat) : Int) == 0)) := by
    by_cases h : mag = []
    · subst h; rfl
    · have := List.length_pos_iff.mpr h
      rw [decide_eq_true (by omega)]
      symm
      simp
      omega
  by_cases ho : o = true
  · obtain ⟨h4, h5⟩ := h3.1 ho
    subst ho
    cases neg
    · refine ⟨true, rfl, rfl, ?_⟩
      simp only [true_iff]
      refine ⟨_, bigI_of h4 (fun h => by simp at h), ?_⟩
      rw [sg_abs (V_nonneg h4.1), L_V h4]
      exact h5
    · refine ⟨decide ((0 : Int) < (mag.length : Nat)), rfl, by rw [hpos]; rfl, ?_⟩
      rw [decide_eq_true_iff]
      constructor
      · intro hp
        refine ⟨_, bigI_of h4 (fun _ h => by subst h; simp at hp), ?_⟩
        rw [sg_abs (V_nonneg h4.1), L_V h4]
        exact h5
      · rintro ⟨n, hn, -⟩
        have e1 := congrArg TBigInt.fNeg hn
        have e2 := congrArg TBigInt.fMag hn
        simp only [bigI_neg, bigI_mag] at e1 e2
        have e3 : n < 0 := by simpa using e1.symm
        have : mag ≠ [] := by
          rw [e2]
          intro h
          have := L_nil.1 h
          omega
        have := List.length_pos_iff.mpr this
        omega
  · refine ⟨false, by simp [ho], by simp [ho], ?_⟩
    simp only [Bool.false_eq_true, false_iff]
    rintro ⟨n, hn, h60⟩
    have e2 := congrArg TBigInt.fMag hn
    simp only [bigI_mag] at e2
    exact ho (h3.2 (e2 ▸ ⟨L_can _, h60⟩))

theorem ratOk_both {r : TRat} (hm : r.fNum.fMag.length ≤ 2000000) (hd : r.fDen.length ≤ 2000000) : ∃ ok, spec_RatOk r = some ok ∧ impl_RatOk r = some ok ∧ (ok = true ↔ ∃ p, Fr p ∧ r = mk p) := by
  obtain ⟨o1, a1, a2, a3⟩ := bigIntOk_both (x := r.fNum) (by omega)
  obtain ⟨o2, b1, b2, b3⟩ := natOk_both (a := r.fDen) (by omega)
  unfold spec_RatOk impl_RatOk
  rw [a1, a2]
  simp only [Option.bind_eq_bind, Option.bind_some, len_eI]
  by_cases h1 : o1 = true
  · rw [if_pos h1, if_pos h1, b1, b2]
    simp only [Option.bind_some]
    by_cases h2 : o2 = true
    · rw [if_pos h2, if_pos h2]
      obtain ⟨n, hn, hn60⟩ := a3.1 h1
      obtain ⟨hd1, hd60⟩ := b3.1 h2
      have hdv := V_nonneg hd1.1
      have hdl : r.fDen = L (V r.fDen) := (L_V hd1).symm
      have hnl : r.fNum.fMag = L n.natAbs := by rw [hn]; rfl
      by_cases h3 : r.fDen = []
      · rw [if_pos (by simp [h3]), if_pos (by simp [h3])]
        refine ⟨false, rfl, rfl, ?_⟩
        simp only [Bool.false_eq_true, false_iff]
        rintro ⟨p, hp, hr⟩
        have e : r.fDen = L p.2 := by rw [hr]; rfl
        rw [h3] at e
        have := L_nil.1 e.symm
        have := hp.pos
        omega
      · have hdp := V_pos hd1 h3
        have hlp := List.length_pos_iff.mpr h3
        have hd0 : ¬ ((((r.fDen.length : Nat) : Int) == 0) = true) := by simp [h3]
        rw [if_neg hd0, if_neg hd0]
        by_cases h4 : 24 < r.fDen.length
        · rw [if_pos (by simp; omega)]
          have hno : ¬ ∃ p, Fr p ∧ r = mk p := by
            rintro ⟨p, hp, hr⟩
            have e : r.fDen = L p.2 := by rw [hr]; rfl
            have := (L_len (k := 24) (by have := hp.pos; omega)).2 hp.den
            rw [← e] at this
            omega
          refine ⟨false, rfl, ?_, by simp [hno]⟩
          by_cases h5 : 24 < r.fNum.fMag.length
          · rw [if_pos (by simp; omega)]
          · rw [if_neg (by simp; omega), if_pos (by simp; omega)]
        · rw [if_neg (by simp; omega)]
          by_cases h5 : 24 < r.fNum.fMag.length
          · rw [if_pos (by simp; omega), if_pos (by simp; omega)]
            refine ⟨false, rfl, rfl, ?_⟩
            simp only [Bool.false_eq_true, false_iff]
            rintro ⟨p, hp, hr⟩
            have e : r.fNum.fMag = L p.1.natAbs := by rw [hr]; rfl
            have := (L_len (k := 24) (by omega)).2 hp.num
            rw [← e] at this
            omega
          · rw [if_neg (by simp; omega), if_neg (by simp; omega), if_neg (by simp; omega)]
            rw [hnl] at h5 ⊢
            rw [gcd_eq (L_can _) hd1 (by omega) (by omega), divisor_eq (L_can _) hd1 (by omega) (by omega), V_L (by omega), gcd_abs hdv]
            simp only [Option.bind_some]
            have hg := gcd_pos (n := n) hdp
            have h1n : Nf [1] := Nf.one (by omega)
            have hgl : (L (Int.gcd n (V r.fDen))).length ≤ 5000000 := by
              have h7 : (Int.gcd n (V r.fDen) : Int) ≤ V r.fDen := Int.le_of_dvd hdp (Int.gcd_dvd_right ..)
              have := (L_len (k := 24) (by omega)).2 (show (Int.gcd n (V r.fDen) : Int) < B 24 by
                have := (hd1.len (k := 24)).1 (by omega)
                omega)
              omega
            rw [one_eq (by omega), compare_eq (L_can _) h1n hgl, V_L (by omega)]
            have hv1 : V [1] = 1 := by decide
            rw [hv1]
            simp only [Option.bind_some]
            refine ⟨decide ((Int.gcd n (V r.fDen) : Int) = 1), rfl, ?_, ?_⟩
            · congr 1
              rw [Bool.eq_iff_iff]
              simp [cmp3_zero]
            · rw [decide_eq_true_iff]
              constructor
              · intro hu
                refine ⟨(n, V r.fDen), ⟨hdp, by simp only; omega, (L_len (by omega)).1 (by simp only; omega), (hd1.len).1 (by omega)⟩, ?_⟩
                obtain ⟨num, den⟩ := r
                simp only at hn hdl ⊢
                unfold mk
                simp only
                rw [← hdl, ← hn]
              · rintro ⟨p, hp, hr⟩
                have e : r.fDen = L p.2 := by rw [hr]; rfl
                have e2 : r.fNum = bigI p.1 := by rw [hr]; rfl
                have e3 : V r.fDen = p.2 := by rw [e, V_L (by have := hp.pos; omega)]
                have e4 : n = p.1 := by
                  rw [hn] at e2
                  have f1 := congrArg TBigInt.fNeg e2
                  have f2 := congrArg TBigInt.fMag e2
                  simp only [bigI_neg, bigI_mag] at f1 f2
                  have f3 := congrArg V f2
                  rw [V_L (by omega), V_L (by omega)] at f3
                  have f4 : n < 0 ↔ p.1 < 0 := by
                    constructor
                    · intro h; simpa [h] using f1.symm
                    · intro h; simpa [h] using f1
                  omega
                rw [e3, e4, hp.red]
                rfl
    · refine ⟨false, by simp [h2], by simp [h2], ?_⟩
      simp only [Bool.false_eq_true, false_iff]
      rintro ⟨p, hp, hr⟩
      have e : r.fDen = L p.2 := by rw [hr]; rfl
      have := (L_len (k := 24) (by have := hp.pos; omega)).2 hp.den
      exact h2 (b3.2 (e ▸ ⟨L_can _, by omega⟩))
  · refine ⟨false, by simp [h1], by simp [h1], ?_⟩
    simp only [Bool.false_eq_true, false_iff]
    rintro ⟨p, hp, hr⟩
    have e2 : r.fNum = bigI p.1 := by rw [hr]; rfl
    have := (L_len (k := 24) (n := p.1.natAbs) (by omega)).2 hp.num
    exact h1 (a3.2 ⟨p.1, e2, by omega⟩)

def OkQ (x : Option (Int × Int)) : Prop := ∀ p, x = some p → Fr p

theorem Fr.lnum {p : Int × Int} (h : Fr p) : (L p.1.natAbs).length ≤ 24 := (L_len (by omega)).2 h.num
theorem Fr.lden {p : Int × Int} (h : Fr p) : (L p.2).length ≤ 24 := (L_len (by have := h.pos; omega)).2 h.den

theorem bad_ok : spec_RatOk bad = some false := by
  obtain ⟨o, h3, -, h4⟩ := ratOk_both (r := bad) (by simp [bad]) (by simp [bad])
  rw [h3]
  congr 1
  cases o with
  | false => rfl
  | true =>
    obtain ⟨p, hp, hr⟩ := h4.1 rfl
    have e : [] = L p.2 := congrArg TRat.fDen hr
    have := L_nil.1 e.symm
    have := hp.pos
    omega

theorem enc_ok {x : Option (Int × Int)} (h : OkQ x) : spec_RatOk (enc x) = some x.isSome := by
  cases x with
  | none => exact bad_ok
  | some p =>
    have hp := h p rfl
    have h1 := hp.lnum
    have h2 := hp.lden
    obtain ⟨o, h3, -, h4⟩ := ratOk_both (r := mk p) (show (L p.1.natAbs).length ≤ _ by omega) (show (L p.2).length ≤ _ by omega)
    have : o = true := h4.2 ⟨p, hp, rfl⟩
    subst this
    exact h3

theorem load_eq {r : TRat} (hm : r.fNum.fMag.length ≤ 2000000) (hd : r.fDen.length ≤ 2000000) : (∃ p, Fr p ∧ r = mk p ∧ spec_RatOk r = some true ∧ impl_load r = some (some (mkO p))) ∨ (spec_RatOk r = some false ∧ impl_load r = some none) := by
  obtain ⟨o, h1, h2, h3⟩ := ratOk_both hm hd
  cases o with
  | false =>
    refine .inr ⟨h1, ?_⟩
    unfold impl_load
    rw [h2]
    rfl
  | true =>
    obtain ⟨p, hp, hr⟩ := h3.1 rfl
    refine .inl ⟨p, hp, hr, h1, ?_⟩
    unfold impl_load
    rw [h2]
    subst hr
    rfl

theorem B_mul (m n : Nat) : B m * B n = B (m + n) := (B_add m n).symm

theorem len_mul {x y : Int} {m n : Nat} (hx : 0 ≤ x) (hy : 0 ≤ y) (h1 : x < B m) (h2 : y < B n) : (L (x * y)).length ≤ m + n := by
  apply (L_len (Int.mul_nonneg hx hy)).2
  rw [← B_mul]
  have h3 : x * y ≤ (B m - 1) * (B n - 1) := Int.mul_le_mul (by omega) (by omega) hy (by omega)
  have h4 : (B m - 1) * (B n - 1) = B m * B n - B m - B n + 1 := by grind
  have h5 := B_pos m
  have h6 := B_pos n
  omega

noncomputable def qmul (x y : Option (Int × Int)) : Option (Int × Int) := x.bind fun p => y.bind fun q => low (p.1 * q.1) (p.2 * q.2)

theorem qmul_some {p q : Int × Int} : qmul (some p) (some q) = low (p.1 * q.1) (p.2 * q.2) := by
  unfold qmul
  rw [Option.bind_some, Option.bind_some]

theorem l04Mul_raw (r s : TRat) {a b : Int} (ha : 0 ≤ a) (hb : 0 < b) (h1 : spec_l02Mul r.fNum.fMag s.fNum.fMag = some (L a)) (h2 : spec_l02Mul r.fDen s.fDen = some (L b)) (h3 : (L a).length ≤ 900000) (h4 : (L b).length ≤ 900000) : spec_l04Mul r s = some (enc (low (sg (!(r.fNum.fNeg == s.fNum.fNeg)) a) b)) := by
  unfold spec_l04Mul
  rw [h1]
  simp only [Option.bind_eq_bind, Option.bind_some]
  rw [h2]
  simp only [Option.bind_some]
  rw [l04Low_eq ha hb h3 h4]
  simp only [Option.bind_some]

theorem l04Mul_eq {p q : Int × Int} (hp : Fr p) (hq : Fr q) : spec_l04Mul (mk p) (mk q) = some (enc (low (p.1 * q.1) (p.2 * q.2))) := by
  have h1 := hp.lnum
  have h2 := hp.lden
  have h3 := hq.lnum
  have h4 := hq.lden
  have h5 := hp.pos
  have h6 := hq.pos
  have h7 := len_mul (x := p.1.natAbs) (y := q.1.natAbs) (by omega) (by omega) hp.num hq.num
  have h8 := len_mul (x := p.2) (y := q.2) (by omega) (by omega) hp.den hq.den
  have e1 : spec_l02Mul (L p.1.natAbs) (L q.1.natAbs) = some (L ((p.1.natAbs : Int) * q.1.natAbs)) := by
    rw [mul_eq (L_lim _) (L_lim _) (by omega) (by omega), V_L (by omega), V_L (by omega)]
  have e2 : spec_l02Mul (L p.2) (L q.2) = some (L (p.2 * q.2)) := by
    rw [mul_eq (L_lim _) (L_lim _) (by omega) (by omega), V_L (by omega), V_L (by omega)]
  have := l04Mul_raw (mk p) (mk q) (a := (p.1.natAbs : Int) * q.1.natAbs) (b := p.2 * q.2) (Int.mul_nonneg (by omega) (by omega)) (Int.mul_pos h5 h6) e1 e2 (by omega) (by omega)
  rw [this]
  have e3 : sg (!((mk p).fNum.fNeg == (mk q).fNum.fNeg)) ((p.1.natAbs : Int) * q.1.natAbs) = p.1 * q.1 := sg_mul
  rw [e3]

theorem ratMul_eq {x y : Option (Int × Int)} (hx : OkQ x) (hy : OkQ y) : spec_RatMul (enc x) (enc y) = some (enc (qmul x y)) := by
  unfold spec_RatMul
  rw [enc_ok hx, enc_ok hy]
  cases x with
  | none =>
    simp only [Option.isSome_none, Option.bind_eq_bind, Option.bind_some, Bool.false_eq_true, if_false]
    rfl
  | some p =>
    cases y with
    | none =>
      simp only [Option.isSome_none, Option.isSome_some, Option.bind_eq_bind, Option.bind_some, Bool.false_eq_true, if_false, if_true]
      rfl
    | some q =>
      simp only [Option.bind_eq_bind, Option.bind_some, Option.isSome_some, if_true]
      show (spec_l04Mul (mk p) (mk q)).bind _ = _
      rw [l04Mul_eq (hx p rfl) (hy q rfl), qmul_some]
      simp only [Option.bind_some]

theorem qmul_ok {x y : Option (Int × Int)} (hx : OkQ x) (hy : OkQ y) : OkQ (qmul x y) := by
  intro r hr
  cases x with
  | none => simp [qmul] at hr
  | some p =>
    cases y with
    | none => simp [qmul] at hr
    | some q =>
      rw [qmul_some] at hr
      exact low_fr (Int.mul_pos (hx p rfl).pos (hy q rfl).pos) r hr

theorem lowest_eq {n d : Int} (hd : 0 < d) (hln : (L n.natAbs).length ≤ 900000) (hld : (L d).length ≤ 900000) : impl_lowest (bigI n) (L d) = some (some (mkO (n / (Int.gcd n d : Int), d / (Int.gcd n d : Int)))) := by
  obtain ⟨m, e, h1, h2, h3, h4, h5, h6⟩ := div_gcd (n := n) hd
  have hg := gcd_pos (n := n) hd
  rw [h1, h2]
  unfold impl_lowest
  simp only [bigI_mag, bigI_neg, len_eI]
  by_cases hn : n = 0
  · subst hn
    have hgd : (Int.gcd 0 d : Int) = d := by rw [Int.gcd_comm, gcd_end (by omega)]
    rw [hgd] at h3 h4
    have hm : m = 0 := by
      rcases Int.mul_eq_zero.1 h3.symm with h | h <;> omega
    have he : e = 1 := by
      have : d * e = d * 1 := by omega
      exact Int.eq_of_mul_eq_mul_left (by omega) this
    subst hm he
    rw [if_pos (by simp [L_zero])]
    unfold mkO bigI
    simp only [Int.natAbs_zero]
    rw [L_small (x := 1) (by omega), show ((0 : Nat) : Int) = 0 from rfl, L_zero]
    rfl
  · have hln0 : ¬ ((((L n.natAbs).length : Nat) : Int) == 0) = true := by
      simp only [beq_iff_eq]
      intro h
      have := (len0 (n := n.natAbs) (by omega)).1 h
      omega
    rw [if_neg hln0, divisor_eq (L_can _) (L_can _) hln hld, V_L (by omega), V_L (by omega), gcd_abs (by omega)]
    simp only [Option.bind_eq_bind, Option.bind_some]
    have hgl : (L (Int.gcd n d)).length ≤ 900000 := by
      have h7 : (Int.gcd n d : Int) ≤ d := Int.le_of_dvd hd (Int.gcd_dvd_right ..)
      apply (L_len (by omega)).2
      have := (L_len (n := d) (by omega)).1 hld
      omega
    rw [compare_eq (L_can _) (Nf.one (by omega)) (by omega), V_L (by omega), show V [1] = 1 by decide]
    simp only [Option.bind_some]
    by_cases hu : (Int.gcd n d : Int) = 1
    · rw [if_pos (by simpa using cmp3_zero.2 hu)]
      rw [hu] at h3 h4
      rw [Int.one_mul] at h3 h4
      subst h3 h4
      rfl
    · rw [if_neg (fun h => hu (cmp3_zero.1 (by simpa using h)))]
      have hg0 : L (Int.gcd n d) ≠ [] := fun h => by
        have := L_nil.1 h
        omega
      rw [over_eq (L_can _) (L_can _) hg0 hln hgl, V_L (by omega), V_L (by omega)]
      simp only [Option.bind_some]
      rw [over_eq (L_can _) (L_can _) hg0 hld hgl, V_L (by omega), V_L (by omega)]
      simp only [Option.bind_some]
      rw [h6, h2, signed_eq (by omega)]
      simp only [Option.bind_some]
      have hs : sg (decide (n < 0)) (m.natAbs : Int) = m := by
        refine sg_div (p := n.natAbs) (g := Int.gcd n d) (by omega) hg ?_
        rw [← h3]
        unfold sg
        by_cases h : n < 0 <;> simp [h] <;> omega
      rw [hs]
      rfl

theorem fit_eq {m e : Int} (he : 0 ≤ e) : impl_fit (some (mkO (m, e))) = some (encO (if fits (m.natAbs : Int) ∧ fits e then some (m, e) else none)) := by
  have hs : impl_fit (some (mkO (m, e))) = if (decide ((24 : Int) < len_ eI (L m.natAbs))) = true then some none else if (decide ((24 : Int) < len_ eI (L e))) = true then some none else some (some (mkO (m, e))) := rfl
  rw [hs, len_eI, len_eI]
  by_cases h1 : fits (m.natAbs : Int)
  · have h2 := (L_len (by omega)).2 h1
    rw [if_neg (by simp; omega)]
    by_cases h3 : fits e
    · have h4 := (L_len he).2 h3
      rw [if_neg (by simp; omega), if_pos ⟨h1, h3⟩]
      rfl
    · have h4 : ¬ (L e).length ≤ 24 := fun h => h3 ((L_len he).1 h)
      rw [if_pos (by simp; omega), if_neg (fun h => h3 h.2)]
      rfl
  · have h4 : ¬ (L m.natAbs).length ≤ 24 := fun h => h1 ((L_len (by omega)).1 h)
    rw [if_pos (by simp; omega), if_neg (fun h => h1 h.1)]
    rfl

theorem lowfit {n d : Int} (hd : 0 < d) (hln : (L n.natAbs).length ≤ 900000) (hld : (L d).length ≤ 900000) : (impl_lowest (bigI n) (L d)).bind (fun r => impl_fit r) = some (encO (low n d)) := by
  obtain ⟨m, e, h1, h2, h3, h4, h5, h6⟩ := div_gcd (n := n) hd
  rw [lowest_eq hd hln hld, Option.bind_some, h1, h2, fit_eq (by omega)]
  unfold low
  rw [h1, h2]

theorem big_times {a b : Int} (ha : (L a.natAbs).length ≤ 900000) (hb : (L b.natAbs).length ≤ 900000) : impl_BigInt_times (bigI a) (bigI b) = some (bigI (a * b)) := by
  unfold impl_BigInt_times
  simp only [bigI_mag, bigI_neg]
  rw [times_eq (L_lim _) (L_lim _) (by omega) (by omega), V_L (by omega), V_L (by omega)]
  simp only [Option.bind_eq_bind, Option.bind_some]
  rw [signed_eq (Int.mul_nonneg (by omega) (by omega)), sg_mul]
  rfl

theorem mul_eqO {x y : Option (Int × Int)} (hx : OkQ x) (hy : OkQ y) : impl_mul (encO x) (encO y) = some (encO (qmul x y)) := by
  cases x with
  | none => rfl
  | some p =>
    cases y with
    | none => rfl
    | some q =>
      have hp := hx p rfl
      have hq := hy q rfl
      have h1 := hp.lnum
      have h2 := hp.lden
      have h3 := hq.lnum
      have h4 := hq.lden
      have h5 := hp.pos
      have h6 := hq.pos
      have h7 := len_mul (x := p.1.natAbs) (y := q.1.natAbs) (by omega) (by omega) hp.num hq.num
      have h8 := len_mul (x := p.2) (y := q.2) (by omega) (by omega) hp.den hq.den
      unfold impl_mul impl_ratio_times
      simp only [encO, Option.map_some, Option.elim_some, Option.bind_eq_bind, Option.bind_some, mkO]
      rw [big_times (by omega) (by omega)]
      simp only [Option.bind_some]
      rw [times_eq (L_lim _) (L_lim _) (by omega) (by omega), V_L (by omega), V_L (by omega)]
      simp only [Option.bind_some]
      have := lowfit (n := p.1 * q.1) (d := p.2 * q.2) (Int.mul_pos h5 h6) (by rw [Int.natAbs_mul, Int.natCast_mul]; omega) (by omega)
      rw [lowest_eq (Int.mul_pos h5 h6) (by rw [Int.natAbs_mul, Int.natCast_mul]; omega) (by omega)] at this ⊢
      simp only [Option.bind_some] at this ⊢
      rw [this, qmul_some]
      simp only [Option.bind_some, encO]

end Go.Proofs.YtfhmbogcjcgchaaGreat
