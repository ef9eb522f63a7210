/- Signed numbers and fractions, in plain functions. No condition. -/
import Derived.Test.YtfhmbogcjcgchaaGreatPureNatH
namespace Go.Proofs.YtfhmbogcjcgchaaGreat
open Go Go.VL

def bigI (n : Int) : TBigInt := ⟨decide (n < 0), L n.natAbs⟩
def sg (neg : Bool) (a : Int) : Int := if neg then -a else a
def mk (p : Int × Int) : TRat := ⟨bigI p.1, L p.2⟩
def mkO (p : Int × Int) : TRatio_ := ⟨bigI p.1, L p.2⟩
def bad : TRat := ⟨⟨false, []⟩, []⟩
def enc : Option (Int × Int) → TRat
  | none => bad
  | some p => mk p
def encO (x : Option (Int × Int)) : Option TRatio_ := x.map mkO

/-- A fraction in lowest terms that fits. -/
structure Fr (p : Int × Int) : Prop where
  pos : 0 < p.2
  red : Int.gcd p.1 p.2 = 1
  num : (p.1.natAbs : Int) < B 24
  den : p.2 < B 24

theorem bigI_mag {n : Int} : (bigI n).fMag = L n.natAbs := rfl
theorem bigI_neg {n : Int} : (bigI n).fNeg = decide (n < 0) := rfl

theorem L_pos_len {n : Int} (h : 0 ≤ n) : decide ((0 : Int) < ((L n).length : Nat)) = decide (0 < n) := by
  apply decide_eq_decide.2
  by_cases h1 : 0 < n
  · have : (L n) ≠ [] := fun h2 => by have := L_nil.1 h2; omega
    have := List.length_pos_iff.mpr this
    omega
  · have : n = 0 := by omega
    subst this
    simp [L_zero]

theorem len0 {n : Int} (h : 0 ≤ n) : (((L n).length : Nat) : Int) = 0 ↔ n = 0 := by
  constructor
  · intro h1
    have : L n = [] := List.eq_nil_of_length_eq_zero (by omega)
    have := L_nil.1 this
    omega
  · rintro rfl
    simp [L_zero]

theorem sg_abs {neg : Bool} {a : Int} (h : 0 ≤ a) : ((sg neg a).natAbs : Int) = a := by
  unfold sg
  cases neg <;> simp <;> omega
theorem sg_bigI {neg : Bool} {a : Int} (h : 0 ≤ a) : (⟨neg && decide (0 < a), L a⟩ : TBigInt) = bigI (sg neg a) := by
  unfold bigI
  rw [sg_abs h]
  congr 1
  unfold sg
  cases neg
  · simp; omega
  · simp

theorem cap_eq {a : Int} (h : 0 ≤ a) (h60 : a < B 60) : spec_l02Cap (L a) = some (L a) := by
  have hl := (L_len h).2 h60
  unfold spec_l02Cap
  rw [l02Trim_eq (L_lim _) (by omega), V_L h]
  simp only [Option.bind_eq_bind, Option.bind_some, len_eI]
  rw [if_neg (by simp; omega)]

theorem make_eq {neg : Bool} {a : Int} (h : 0 ≤ a) (h60 : a < B 60) : spec_l03Make neg (L a) = some (bigI (sg neg a)) := by
  have hl := (L_len h).2 h60
  unfold spec_l03Make
  rw [cap_eq h h60]
  simp only [Option.bind_eq_bind, Option.bind_some, len_eI, List.nil_append]
  have hc : (L a).length * 8 ≤ 140737488355328 := by omega
  rw [← sg_bigI h, ← L_pos_len h]
  cases neg <;> simp [hc]

theorem signed_eq {neg : Bool} {a : Int} (h : 0 ≤ a) : impl_signed neg (L a) = some (bigI (sg neg a)) := by
  unfold impl_signed
  rw [← sg_bigI h, len_eI, L_pos_len h]
  cases neg <;> simp

theorem sg_mul {a b : Int} : sg (!(decide (a < 0) == decide (b < 0))) ((a.natAbs : Int) * (b.natAbs : Int)) = a * b := by
  unfold sg
  by_cases ha : a < 0
  · have e1 : (a.natAbs : Int) = -a := by omega
    by_cases hb : b < 0
    · have e2 : (b.natAbs : Int) = -b := by omega
      rw [e1, e2]
      simp [ha, hb, Int.neg_mul, Int.mul_neg]
    · have e2 : (b.natAbs : Int) = b := by omega
      rw [e1, e2]
      simp [ha, hb, Int.neg_mul, Int.mul_neg]
  · have e1 : (a.natAbs : Int) = a := by omega
    by_cases hb : b < 0
    · have e2 : (b.natAbs : Int) = -b := by omega
      rw [e1, e2]
      simp [ha, hb, Int.neg_mul, Int.mul_neg]
    · have e2 : (b.natAbs : Int) = b := by omega
      rw [e1, e2]
      simp [ha, hb, Int.neg_mul, Int.mul_neg]
theorem sg_mul1 {a b : Int} : sg (decide (a < 0)) ((a.natAbs : Int) * b) = a * b := by
  unfold sg
  by_cases ha : a < 0
  · have e1 : (a.natAbs : Int) = -a := by omega
    rw [e1]
    simp [ha, Int.neg_mul, Int.mul_neg]
  · have e1 : (a.natAbs : Int) = a := by omega
    rw [e1]
    simp [ha, Int.neg_mul, Int.mul_neg]

theorem cmp3_neg {a c : Int} : cmp3 (-c) (-a) = cmp3 a c := by
  unfold cmp3
  by_cases h : a < c
  · have : -c < -a := by omega
    simp [h, this]
  · by_cases h2 : c < a
    · have h3 : ¬ -c < -a := by omega
      have h4 : -a < -c := by omega
      simp [h, h2, h3, h4]
    · have h3 : ¬ -c < -a := by omega
      have h4 : ¬ -a < -c := by omega
      simp [h, h2, h3, h4]

theorem l03Cmp_eq {a c : Int} (ha : (L a.natAbs).length ≤ 5000000) (hc : (L c.natAbs).length ≤ 5000000) : spec_l03Cmp (bigI a) (bigI c) = some (cmp3 a c) := by
  unfold spec_l03Cmp
  simp only [bigI_neg, bigI_mag, decide_eq_true_eq]
  by_cases h1 : a < 0
  · by_cases h2 : c < 0
    · rw [if_pos h1, if_pos h2, cmp_eq (L_can _) (L_can _) hc, V_L (by omega), V_L (by omega), show (c.natAbs : Int) = -c by omega, show (a.natAbs : Int) = -a by omega, cmp3_neg]
      rfl
    · rw [if_pos h1, if_neg h2]
      unfold cmp3
      rw [if_pos (by omega)]
  · by_cases h2 : c < 0
    · rw [if_neg h1, if_pos h2]
      unfold cmp3
      rw [if_neg (by omega), if_pos (by omega)]
    · rw [if_neg h1, if_neg h2, cmp_eq (L_can _) (L_can _) ha, V_L (by omega), V_L (by omega)]
      show some (cmp3 _ _) = _
      congr 2 <;> omega

theorem BigInt_compare_eq {a c : Int} (ha : (L a.natAbs).length ≤ 5000000) (hc : (L c.natAbs).length ≤ 5000000) : impl_BigInt_compare (bigI a) (bigI c) = some (cmp3 a c) := by
  rw [← l03Cmp_eq ha hc]
  unfold impl_BigInt_compare spec_l03Cmp
  simp only [bigI_neg, bigI_mag, compare_spec]
  by_cases h1 : a < 0 <;> by_cases h2 : c < 0 <;> simp [h1, h2]

/- Lowest terms. -/
/-- Numbers of at most 24 limbs. -/
def fits (x : Int) : Prop := x < B 24
noncomputable instance (x : Int) : Decidable (fits x) := Classical.propDecidable _

/-- A quotient in lowest terms, if it fits. -/
noncomputable def low (n d : Int) : Option (Int × Int) :=
  if fits ((n / (Int.gcd n d : Int)).natAbs : Int) ∧ fits (d / (Int.gcd n d : Int)) then some (n / (Int.gcd n d : Int), d / (Int.gcd n d : Int)) else none

theorem gcd_pos {n d : Int} (h : 0 < d) : (0 : Int) < Int.gcd n d := by
  have : Int.gcd n d ≠ 0 := by
    rw [Ne, Int.gcd_eq_zero_iff]
    omega
  omega

theorem div_gcd {n d : Int} (h : 0 < d) : ∃ m e, n / (Int.gcd n d : Int) = m ∧ d / (Int.gcd n d : Int) = e ∧ n = Int.gcd n d * m ∧ d = Int.gcd n d * e ∧ 0 < e ∧ (n.natAbs : Int) / (Int.gcd n d : Int) = m.natAbs := by
  have hg := gcd_pos (n := n) h
  obtain ⟨m, hm⟩ := Int.gcd_dvd_left (a := n) (b := d)
  obtain ⟨e, he⟩ := Int.gcd_dvd_right (a := n) (b := d)
  refine ⟨m, e, ?_, ?_, hm, he, ?_, ?_⟩
  · conv => lhs; lhs; rw [hm]
    exact Int.mul_ediv_cancel_left _ (by omega)
  · conv => lhs; lhs; rw [he]
    exact Int.mul_ediv_cancel_left _ (by omega)
  · apply Int.not_le.mp
    intro h1
    have : (Int.gcd n d : Int) * e ≤ Int.gcd n d * 0 := Int.mul_le_mul_of_nonneg_left h1 (by omega)
    omega
  · have e1 : (n.natAbs : Int) = Int.gcd n d * m.natAbs := by
      conv => lhs; rw [hm]
      rw [Int.natAbs_mul]
      simp
    rw [e1]
    exact Int.mul_ediv_cancel_left _ (by omega)

theorem low_fr {n d : Int} (h : 0 < d) : ∀ p, low n d = some p → Fr p := by
  intro p hp
  obtain ⟨m, e, h1, h2, h3, h4, h5, h6⟩ := div_gcd (n := n) h
  have hg := gcd_pos (n := n) h
  unfold low at hp
  rw [h1, h2] at hp
  split at hp
  · next hc =>
    have := Option.some.inj hp
    subst this
    refine ⟨h5, ?_, hc.1, hc.2⟩
    have h7 : Int.gcd n d = Int.gcd n d * Int.gcd m e := by
      have key : ∀ g : Nat, Int.gcd ((g : Int) * m) (g * e) = g * Int.gcd m e := fun g => by
        rw [Int.gcd_mul_left]
        simp
      have := key (Int.gcd n d)
      rwa [← h3, ← h4] at this
    simp only
    have h8 : Int.gcd n d * 1 = Int.gcd n d * Int.gcd m e := by omega
    exact (Nat.eq_of_mul_eq_mul_left (by omega) h8).symm
  · simp at hp

theorem low_red {p : Int × Int} (h : Fr p) : low p.1 p.2 = some p := by
  unfold low
  rw [h.red]
  simp only [Int.cast_ofNat_Int, Int.ediv_one]
  rw [if_pos ⟨h.num, h.den⟩]

theorem one_eq {a : Int} (h : 0 ≤ a) : spec_l04One (L a) = some (decide (a = 1)) := by
  unfold spec_l04One
  simp only [len_eI]
  by_cases h1 : (L a).length = 1
  · have h2 := (L_len (k := 1) h).1 (by omega)
    have h3 : 0 < a := by
      apply Int.not_le.mp
      intro h4
      rw [L_neg h4] at h1
      simp at h1
    have h5 : a < 1000000000 := by simpa [B] using h2
    rw [L_small ⟨h3, h5⟩]
    by_cases h6 : a = 1 <;> simp [h6]
  · rw [if_neg (by simp; omega)]
    have : a ≠ 1 := by
      rintro rfl
      rw [L_small (by omega)] at h1
      simp at h1
    simp [this]

theorem gcd_abs {n d : Int} (h : 0 ≤ d) : Int.gcd (n.natAbs : Int) d = Int.gcd n d := by
  simp [Int.gcd]

theorem B24_60 : B 24 ≤ B 60 := B_mono (by omega)

theorem low_cases {neg : Bool} {m e : Int} (hm : 0 ≤ m) (he : 0 ≤ e) : (if (decide ((24 : Int) < ((L m).length : Nat))) = true then some bad else if (decide ((24 : Int) < ((L e).length : Nat))) = true then some bad else spec_l03Make neg (L m) >>= fun r => if (([] : List Int) ++ L e).length * 8 ≤ 140737488355328 then some (⟨r, ([] : List Int) ++ L e⟩ : TRat) else none) =
    some (enc (if fits m ∧ fits e then some (sg neg m, e) else none)) := by
  by_cases h1 : fits m
  · have h2 := (L_len hm).2 h1
    rw [if_neg (by simp; omega)]
    by_cases h3 : fits e
    · have h4 := (L_len he).2 h3
      have := B24_60
      unfold fits at h1
      rw [if_neg (by simp; omega), make_eq hm (by omega), if_pos ⟨h1, h3⟩]
      simp only [Option.bind_eq_bind, Option.bind_some]
      rw [if_pos (by simp; omega)]
      rfl
    · have h4 : ¬ (L e).length ≤ 24 := fun h => h3 ((L_len he).1 h)
      rw [if_pos (by simp; omega), if_neg (fun h => h3 h.2)]
      rfl
  · have h4 : ¬ (L m).length ≤ 24 := fun h => h1 ((L_len hm).1 h)
    rw [if_pos (by simp; omega), if_neg (fun h => h1 h.1)]
    rfl

theorem sg_div {neg : Bool} {p m g : Int} (hp : 0 ≤ p) (hg : 0 < g) (hm : sg neg p = g * m) : sg neg (m.natAbs : Int) = m := by
  unfold sg at hm ⊢
  cases neg
  · simp at hm ⊢
    have : 0 ≤ m := by
      apply Int.not_lt.mp
      intro h1
      have : g * m ≤ g * (-1) := Int.mul_le_mul_of_nonneg_left (by omega) (by omega)
      omega
    omega
  · simp at hm ⊢
    have : m ≤ 0 := by
      apply Int.not_lt.mp
      intro h1
      have : g * 1 ≤ g * m := Int.mul_le_mul_of_nonneg_left (by omega) (by omega)
      omega
    omega

theorem l04Low_eq {neg : Bool} {p q : Int} (hp : 0 ≤ p) (hq : 0 < q) (hlp : (L p).length ≤ 900000) (hlq : (L q).length ≤ 900000) : spec_l04Low neg (L p) (L q) = some (enc (low (sg neg p) q)) := by
  obtain ⟨m, e, h1, h2, h3, h4, h5, h6⟩ := div_gcd (n := sg neg p) hq
  have hsg := sg_div hp (gcd_pos (n := sg neg p) hq) h3
  rw [sg_abs hp] at h6
  have hg : Int.gcd p q = Int.gcd (sg neg p) q := by rw [← gcd_abs (n := sg neg p) (by omega), sg_abs hp]
  have hgp := gcd_pos (n := sg neg p) hq
  unfold spec_l04Low
  rw [l02Trim_eq (L_lim _) (by omega), V_L hp]
  simp only [Option.bind_eq_bind, Option.bind_some]
  rw [l02Trim_eq (L_lim _) (by omega), V_L (by omega)]
  simp only [Option.bind_some, len_eI]
  have hq0 : ¬ ((((L q).length : Nat) : Int) == 0) = true := by
    simp only [beq_iff_eq]
    intro h
    have := (len0 (n := q) (by omega)).1 h
    omega
  rw [if_neg hq0, one_eq (by omega)]
  simp only [Option.bind_some]
  have hlow : low (sg neg p) q = if fits (m.natAbs : Int) ∧ fits e then some (sg neg (m.natAbs : Int), e) else none := by
    unfold low
    rw [h1, h2, hsg]
  have hunit : Int.gcd (sg neg p) q = 1 → (m.natAbs : Int) = p ∧ e = q := by
    intro hu
    rw [hu] at h2 h6
    simp at h2 h6
    omega
  by_cases hq1 : q = 1
  · have hu : Int.gcd (sg neg p) q = 1 := by rw [hq1]; simp
    obtain ⟨u1, u2⟩ := hunit hu
    rw [if_pos (by simpa using hq1), hlow, u1, u2]
    exact low_cases hp (by omega)
  · rw [if_neg (by simpa using hq1), gcd_eq (L_can _) (L_can _) hlp hlq, V_L hp, V_L (by omega)]
    simp only [Option.bind_some]
    rw [one_eq (by omega)]
    simp only [Option.bind_some]
    by_cases hu : Int.gcd p q = 1
    · obtain ⟨u1, u2⟩ := hunit (by omega)
      rw [if_pos (by simp; omega), hlow, u1, u2]
      exact low_cases hp (by omega)
    · rw [if_neg (by simp; omega)]
      have hgl : (L (Int.gcd p q)).length ≤ 900000 := by
        have h7 : (Int.gcd p q : Int) ≤ q := by
          rw [hg]
          have : (Int.gcd (sg neg p) q : Int) * 1 ≤ Int.gcd (sg neg p) q * e := Int.mul_le_mul_of_nonneg_left (by omega) (by omega)
          omega
        apply (L_len (by omega)).2
        have := (L_len (n := q) (by omega)).1 hlq
        omega
      have hg0 : L (Int.gcd p q) ≠ [] := fun h => by
        have := L_nil.1 h
        omega
      rw [div_eq (L_can _) (L_can _) hg0 hlp hgl, V_L hp, V_L (by omega)]
      simp only [Option.bind_some]
      rw [div_eq (L_can _) (L_can _) hg0 hlq hgl, V_L (by omega), V_L (by omega)]
      simp only [Option.bind_some]
      rw [hg, h6, h2, hlow]
      exact low_cases (by omega) (by omega)

end Go.Proofs.YtfhmbogcjcgchaaGreat
