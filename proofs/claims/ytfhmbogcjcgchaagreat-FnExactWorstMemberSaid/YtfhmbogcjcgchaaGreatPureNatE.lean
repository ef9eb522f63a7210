/- The reference's greatest common divisor; the program's taking and giving back, in plain functions. No condition. -/
import Derived.Test.YtfhmbogcjcgchaaGreatPureNatD
namespace Go.Proofs.YtfhmbogcjcgchaaGreat
open Go Go.VL

theorem gcd_step {x y : Int} (hx : 0 ≤ x) : Int.gcd y (x % y) = Int.gcd x y := by
  have := Nat.gcd_rec y.natAbs x.natAbs
  simp only [Int.gcd]
  rw [Nat.gcd_comm x.natAbs, this, Int.natAbs_emod_of_nonneg hx, Nat.gcd_comm]

theorem gcd_end {x : Int} (hx : 0 ≤ x) : (Int.gcd x 0 : Int) = x := by
  rw [Int.gcd_zero_right]; omega

theorem plain_eq {x y : Int} (hx : 0 ≤ x) (hy : 0 ≤ y) (hx1 : x < 9223372036854775808) (hy1 : y < 9223372036854775808) : spec_l02Plain x y = some (L (Int.gcd x y)) := by
  have : ∃ r, iter (fun w : Int × Int => spec_l02Plain_L1_body w.1 w.2) (x, y) = some r ∧ (r = (Int.gcd x y : Int) ∧ r < 9223372036854775808) := by
    refine iter_inv (I := fun w : Int × Int => 0 ≤ w.1 ∧ 0 ≤ w.2 ∧ w.1 < 9223372036854775808 ∧ w.2 < 9223372036854775808 ∧ Int.gcd w.1 w.2 = Int.gcd x y) (m := fun w : Int × Int => w.2.toNat) _ ?_ _ ⟨hx, hy, hx1, hy1, rfl⟩
    rintro ⟨u, v⟩ ⟨h1, h2, h3, h4, h5⟩
    simp only at h1 h2 h3 h4 h5
    by_cases hv : 0 < v
    · have h6 := Int.emod_nonneg u (b := v) (by omega)
      have h7 := Int.emod_lt_of_pos u hv
      refine .inl ⟨(v, u % v), ?_, ⟨h2, h6, h4, by simp only; omega, by rw [← h5]; exact gcd_step h1⟩, by simp only; omega⟩
      unfold spec_l02Plain_L1_body
      rw [if_pos (by simpa using hv), if_pos (by omega), tm h1]
    · have hv0 : v = 0 := by omega
      subst hv0
      refine .inr ⟨u, by simp [spec_l02Plain_L1_body], ?_, h3⟩
      rw [← h5, gcd_end h1]
  obtain ⟨r, hr, rfl, h⟩ := this
  unfold spec_l02Plain spec_l02Plain_L1
  rw [hr]
  simp only [Option.bind_eq_bind, Option.bind_some]
  rw [natOf_eq (by omega) h]
  rfl

theorem small2 {a : List Int} (ha : Nf a) (h : a.length < 3) : V a < 9223372036854775808 := by
  have h1 := V_lt ha.1
  have h2 := B_mono (m := a.length) (n := 2) (by omega)
  have h3 : B 2 = 1000000000000000000 := by decide
  omega

theorem gcd_eq {a b : List Int} (ha : Nf a) (hb : Nf b) (hn : a.length ≤ 900000) (hm : b.length ≤ 900000) : spec_l02Gcd a b = some (L (Int.gcd (V a) (V b))) := by
  have : ∃ r, iter (fun w : List Int × List Int => spec_l02Gcd_L1_body w.1 w.2) (a, b) = some r ∧ r.elim id id = L (Int.gcd (V a) (V b)) := by
    refine iter_inv (I := fun w : List Int × List Int => Nf w.1 ∧ Nf w.2 ∧ w.1.length ≤ 900000 ∧ w.2.length ≤ 900000 ∧ Int.gcd (V w.1) (V w.2) = Int.gcd (V a) (V b)) (m := fun w : List Int × List Int => (V w.2).toNat) _ ?_ _ ⟨ha, hb, hn, hm, rfl⟩
    rintro ⟨x, y⟩ ⟨h1, h2, h3, h4, h5⟩
    simp only at h1 h2 h3 h4 h5 ⊢
    have hx0 := V_nonneg h1.1
    have hy0 := V_nonneg h2.1
    by_cases hy : y = []
    · subst hy
      refine .inr ⟨.inl x, by simp [spec_l02Gcd_L1_body, len_eI], ?_⟩
      rw [← h5, V_nil, gcd_end hx0]
      exact (L_V h1).symm
    · have hyp := V_pos h2 hy
      have hly := List.length_pos_iff.mpr hy
      by_cases hs : x.length < 3 ∧ y.length < 3
      · refine .inr ⟨.inr (L (Int.gcd (V a) (V b))), ?_, rfl⟩
        unfold spec_l02Gcd_L1_body
        simp only [len_eI]
        rw [if_pos (by simp; omega), if_pos (by simp; omega), if_pos (by simp; omega), natToInt_eq h1 (by omega) (small2 h1 hs.1)]
        simp only [Option.bind_eq_bind, Option.bind_some]
        rw [natToInt_eq h2 (by omega) (small2 h2 hs.2)]
        simp only [Option.bind_some]
        rw [plain_eq hx0 hy0 (small2 h1 hs.1) (small2 h2 hs.2), h5]
        rfl
      · have hmn := Int.emod_nonneg (V x) (b := V y) (by omega)
        have hml := Int.emod_lt_of_pos (V x) hyp
        refine .inl ⟨(y, L (V x % V y)), ?_, ⟨h2, L_can _, h4, (L_len hmn).2 ?_, ?_⟩, ?_⟩
        · unfold spec_l02Gcd_L1_body
          simp only [len_eI]
          rw [if_pos (by simp; omega), div_eq h1 h2 hy h3 h4]
          by_cases hs1 : x.length < 3
          · rw [if_pos (by simp; omega), if_neg (by simp; omega)]
            rfl
          · rw [if_neg (by simp; omega)]
            rfl
        · have := V_lt h2.1
          have := B_mono h4
          omega
        · simp only
          rw [V_L hmn, ← h5]
          exact gcd_step hx0
        · simp only
          rw [V_L hmn]
          omega
  obtain ⟨r, hr, h⟩ := this
  unfold spec_l02Gcd spec_l02Gcd_L1
  rw [List.nil_append, List.nil_append, if_pos (by omega), if_pos (by omega), hr]
  cases r with
  | inl r => exact congrArg some h
  | inr r => exact congrArg some h

/- Taking a multiple away in place, and giving back. -/
def LimE (p : Nat) (l : List Int) : Prop := ∀ i z, i ≠ p → l[i]? = some z → 0 ≤ z ∧ z < 1000000000

theorem LimE.set {p : Nat} {l : List Int} (h : LimE p l) {k : Nat} {x : Int} (hx : 0 ≤ x ∧ x < 1000000000) : LimE p (l.set k x) := fun i z hi hz => by
  by_cases hk : k = i
  · subst hk
    rw [List.getElem?_set] at hz
    simp only [if_true] at hz
    split at hz
    · rw [← Option.some.inj hz]; exact hx
    · simp at hz
  · rw [List.getElem?_set_ne hk] at hz
    exact h i z hi hz
theorem LimE.setp {p : Nat} {l : List Int} (h : LimE p l) {x : Int} : LimE p (l.set p x) := fun i z hi hz => by
  rw [List.getElem?_set_ne (fun h => hi h.symm)] at hz
  exact h i z hi hz
theorem Lim.toE {l : List Int} (h : Lim l) (p : Nat) : LimE p l := fun _ _ _ hz => h.get hz

theorem take_body {v row : List Int} {lo ulen i : Nat} {by_ carry x y : Int} (hx : v[i]? = some x) (hy : row[lo + i]? = some y) (hx0 : 0 ≤ x ∧ x < 1000000000) (hy0 : 0 ≤ y ∧ y < 1000000000) (hb : 0 ≤ by_ ∧ by_ < 1000000000) (hc : 0 ≤ carry ∧ carry < 1000000000) (hu : i < ulen) (hn : row.length ≤ 5000000) :
    ∃ c z, impl_take_o_L1_body lo ulen v by_ v.length carry i row = some (.inl (c, ((i + 1 : Nat) : Int), row.set (lo + i) z)) ∧ 0 ≤ c ∧ c < 1000000000 ∧ 0 ≤ z ∧ z < 1000000000 ∧ z - 1000000000 * c = y - by_ * x - carry := by
  have hi := lt_of_get hx
  have hj := lt_of_get hy
  obtain ⟨m1, m2⟩ := mul_bd hb hx0
  have e : w64 (w64 (y - w64 (by_ * x)) - carry) = y - by_ * x - carry := by
    rw [w64_eq (x := by_ * x) (by omega) (by omega), w64_eq (x := y - by_ * x) (by omega) (by omega), w64_eq (by omega) (by omega)]
  by_cases ht : y - by_ * x - carry < 0
  · refine ⟨(999999999 - (y - by_ * x - carry)) / 1000000000, y - by_ * x - carry + (999999999 - (y - by_ * x - carry)) / 1000000000 * 1000000000, ?_, by omega, by omega, by omega, by omega, by omega⟩
    unfold impl_take_o_L1_body
    rw [if_pos (by simp; omega), if_pos (by omega), Int.toNat_natCast, hx]
    simp only [Option.bind_eq_bind, Option.bind_some]
    rw [if_pos (by omega), hy]
    simp only [Option.bind_some, e]
    rw [if_pos (by simpa using ht), if_pos (by omega), wnat1 (n := i) (by omega), w64_eq (x := 999999999 - (y - by_ * x - carry)) (by omega) (by omega), td (by omega), w64_eq (x := (999999999 - (y - by_ * x - carry)) / 1000000000) (by omega) (by omega), w64_eq (x := (999999999 - (y - by_ * x - carry)) / 1000000000 * 1000000000) (by omega) (by omega), w64_eq (by omega) (by omega)]
  · refine ⟨0, y - by_ * x - carry, ?_, by omega, by omega, by omega, by omega, by omega⟩
    unfold impl_take_o_L1_body
    rw [if_pos (by simp; omega), if_pos (by omega), Int.toNat_natCast, hx]
    simp only [Option.bind_eq_bind, Option.bind_some]
    rw [if_pos (by omega), hy]
    simp only [Option.bind_some, e]
    rw [if_neg (by simpa using ht), if_pos (by omega), wnat1 (n := i) (by omega)]

theorem take_loop {v row : List Int} {lo ulen : Nat} {by_ : Int} (hv : Lim v) (hr : Lim row) (hb : 0 ≤ by_ ∧ by_ < 1000000000) (hu : v.length < ulen) (hl : lo + v.length < row.length) (hn : row.length ≤ 5000000) :
    ∃ r, impl_take_o_L1 lo ulen v by_ v.length 0 0 row = some r ∧ 0 ≤ r.1 ∧ r.1 < 1000000000 ∧ Lim r.2 ∧ r.2.length = row.length ∧ V r.2 = V row - by_ * B lo * V v + r.1 * B (lo + v.length) ∧ ∀ i, i < lo ∨ lo + v.length ≤ i → r.2[i]? = row[i]? := by
  refine iter_inv (I := fun w : Int × Int × List Int => ∃ (i : Nat), w.2.1 = (i : Int) ∧ i ≤ v.length ∧ 0 ≤ w.1 ∧ w.1 < 1000000000 ∧ Lim w.2.2 ∧ w.2.2.length = row.length ∧ V w.2.2 = V row - by_ * B lo * V (v.take i) + w.1 * B (lo + i) ∧ ∀ i, i < lo ∨ lo + v.length ≤ i → w.2.2[i]? = row[i]?) (m := fun w : Int × Int × List Int => v.length - w.2.1.toNat) _ ?_ _ ⟨0, rfl, by omega, by simp, by simp, hr, rfl, by simp [V], fun _ _ => rfl⟩
  rintro ⟨carry, ii, rw0⟩ ⟨i, h1, hi, hc0, hc1, hlr, hlen, hV, hsame⟩
  simp only at h1 hc0 hc1 hlr hlen hV hsame ⊢
  subst h1
  by_cases hie : i = v.length
  · subst hie
    exact .inr ⟨(carry, rw0), by simp [impl_take_o_L1_body], hc0, hc1, hlr, hlen, by simpa using hV, hsame⟩
  · have hx := List.getElem?_eq_getElem (show i < v.length by omega)
    have hy := List.getElem?_eq_getElem (show lo + i < rw0.length by omega)
    obtain ⟨c, z, he, c0, c1, z0, z1, hz⟩ := take_body (ulen := ulen) hx hy (hv.get hx) (hlr.get hy) hb ⟨hc0, hc1⟩ (by omega) (by omega)
    rw [he]
    refine .inl ⟨_, rfl, ⟨i + 1, rfl, by omega, c0, c1, hlr.set ⟨z0, z1⟩, by simpa using hlen, ?_, fun k hk => ?_⟩, by simp; omega⟩
    · simp only
      rw [V_set hy, V_take1 hx, hV, ← Nat.add_assoc, B_succ, B_add]
      have hz' : z = rw0[lo + i] - by_ * v[i] - carry + 1000000000 * c := by omega
      rw [hz']
      grind
    · simp only
      rw [List.getElem?_set_ne (by omega)]
      exact hsame k hk

theorem take_o {v row : List Int} {lo ulen : Nat} {by_ : Int} (hv : Lim v) (hr : Lim row) (hb : 0 ≤ by_ ∧ by_ < 1000000000) (hu : v.length < ulen) (hl : lo + v.length < row.length) (hn : row.length ≤ 5000000) :
    ∃ y row', impl_take_o v by_ lo ulen row = some (decide (y < 0), row') ∧ row'.length = row.length ∧ LimE (lo + v.length) row' ∧ row'[lo + v.length]? = some y ∧ -1000000000 < y ∧ y < 1000000000 ∧ V row' = V row - by_ * B lo * V v ∧ ∀ i, i < lo ∨ lo + v.length < i → row'[i]? = row[i]? := by
  obtain ⟨r, hr1, c0, c1, hlr, hlen, hV, hsame⟩ := take_loop hv hr hb hu hl hn
  have hx := List.getElem?_eq_getElem (show lo + v.length < r.2.length by omega)
  have hx0 := hlr.get hx
  refine ⟨r.2[lo + v.length] - r.1, r.2.set (lo + v.length) (r.2[lo + v.length] - r.1), ?_, by simpa using hlen, (Lim.toE hlr _).setp, ?_, by omega, by omega, ?_, fun i hi => ?_⟩
  · unfold impl_take_o
    simp only [len_eI]
    rw [hr1]
    simp only [Option.bind_eq_bind, Option.bind_some, Int.toNat_natCast]
    rw [if_pos (by omega), hx]
    simp only [Option.bind_some]
    rw [if_pos (by omega), w64_eq (by omega) (by omega), List.getElem?_set, if_pos rfl, if_pos (by omega)]
    rfl
  · rw [List.getElem?_set, if_pos rfl, if_pos (by omega)]
  · rw [V_set hx, hV]
    grind
  · rw [List.getElem?_set_ne (by omega)]
    exact hsame i (by omega)

theorem give_loop {v row : List Int} {lo ulen : Nat} (hv : Lim v) (hr : LimE (lo + v.length) row) (hu : v.length < ulen) (hl : lo + v.length < row.length) (hn : row.length ≤ 5000000) :
    ∃ r, impl_give_o_L1 lo ulen v v.length 0 0 row = some r ∧ 0 ≤ r.1 ∧ r.1 ≤ 1 ∧ LimE (lo + v.length) r.2 ∧ r.2.length = row.length ∧ V r.2 = V row + B lo * V v - r.1 * B (lo + v.length) ∧ ∀ i, i < lo ∨ lo + v.length ≤ i → r.2[i]? = row[i]? := by
  refine iter_inv (I := fun w : Int × Int × List Int => ∃ (i : Nat), w.2.1 = (i : Int) ∧ i ≤ v.length ∧ 0 ≤ w.1 ∧ w.1 ≤ 1 ∧ LimE (lo + v.length) w.2.2 ∧ w.2.2.length = row.length ∧ V w.2.2 = V row + B lo * V (v.take i) - w.1 * B (lo + i) ∧ ∀ i, i < lo ∨ lo + v.length ≤ i → w.2.2[i]? = row[i]?) (m := fun w : Int × Int × List Int => v.length - w.2.1.toNat) _ ?_ _ ⟨0, rfl, by omega, by simp, by simp, hr, rfl, by simp [V], fun _ _ => rfl⟩
  rintro ⟨carry, ii, rw0⟩ ⟨i, h1, hi, hc0, hc1, hlr, hlen, hV, hsame⟩
  simp only at h1 hc0 hc1 hlr hlen hV hsame ⊢
  subst h1
  by_cases hie : i = v.length
  · subst hie
    exact .inr ⟨(carry, rw0), by simp [impl_give_o_L1_body], hc0, hc1, hlr, hlen, by simpa using hV, hsame⟩
  · have hx := List.getElem?_eq_getElem (show i < v.length by omega)
    have hy := List.getElem?_eq_getElem (show lo + i < rw0.length by omega)
    have hx0 := hv.get hx
    have hy0 := hlr _ _ (by omega) hy
    have he : impl_give_o_L1_body lo ulen v v.length carry i rw0 = some (.inl ((rw0[lo + i] + v[i] + carry) / 1000000000, ((i + 1 : Nat) : Int), rw0.set (lo + i) ((rw0[lo + i] + v[i] + carry) % 1000000000))) := by
      unfold impl_give_o_L1_body
      rw [if_pos (by simp; omega), if_pos (by omega), Int.toNat_natCast, hx]
      simp only [Option.bind_eq_bind, Option.bind_some]
      rw [if_pos (by omega), hy]
      simp only [Option.bind_some]
      rw [if_pos (by omega), w64_eq (x := rw0[lo + i] + v[i]) (by omega) (by omega), w64_eq (x := rw0[lo + i] + v[i] + carry) (by omega) (by omega), tm (by omega), td (by omega), w64_eq (by omega) (by omega), wnat1 (n := i) (by omega)]
    rw [he]
    refine .inl ⟨_, rfl, ⟨i + 1, rfl, by omega, by simp only; omega, by simp only; omega, hlr.set (by omega), by simpa using hlen, ?_, fun k hk => ?_⟩, by simp; omega⟩
    · simp only
      rw [V_set hy, V_take1 hx, hV, ← Nat.add_assoc, B_succ, B_add]
      have := Int.mul_ediv_add_emod (rw0[lo + i] + v[i] + carry) 1000000000
      generalize (rw0[lo + i] + v[i] + carry) / 1000000000 = q at *
      generalize (rw0[lo + i] + v[i] + carry) % 1000000000 = t at *
      have hz' : t = rw0[lo + i] + v[i] + carry - 1000000000 * q := by omega
      rw [hz']
      grind
    · simp only
      rw [List.getElem?_set_ne (by omega)]
      exact hsame k hk

theorem give_o {v row : List Int} {lo ulen : Nat} {y : Int} (hv : Lim v) (hr : LimE (lo + v.length) row) (hu : v.length < ulen) (hl : lo + v.length < row.length) (hn : row.length ≤ 5000000) (hy : row[lo + v.length]? = some y) (hy0 : -1000000000 < y) (hy1 : y < 1000000000) :
    ∃ y' row', impl_give_o v lo ulen row = some row' ∧ row'.length = row.length ∧ LimE (lo + v.length) row' ∧ row'[lo + v.length]? = some y' ∧ V row' = V row + B lo * V v ∧ ∀ i, i < lo ∨ lo + v.length < i → row'[i]? = row[i]? := by
  obtain ⟨r, hr1, c0, c1, hlr, hlen, hV, hsame⟩ := give_loop hv hr hu hl hn
  have hx : r.2[lo + v.length]? = some y := by rw [hsame _ (by omega)]; exact hy
  refine ⟨y + r.1, r.2.set (lo + v.length) (y + r.1), ?_, by simpa using hlen, hlr.setp, ?_, ?_, fun i hi => ?_⟩
  · unfold impl_give_o
    simp only [len_eI]
    rw [hr1]
    simp only [Option.bind_eq_bind, Option.bind_some, Int.toNat_natCast]
    rw [if_pos (by omega), hx]
    simp only [Option.bind_some]
    rw [if_pos (by omega), w64_eq (by omega) (by omega)]
  · rw [List.getElem?_set, if_pos rfl, if_pos (by omega)]
  · rw [V_set hx, hV]
    grind
  · rw [List.getElem?_set_ne (by omega)]
    exact hsame i (by omega)

end Go.Proofs.YtfhmbogcjcgchaaGreat
