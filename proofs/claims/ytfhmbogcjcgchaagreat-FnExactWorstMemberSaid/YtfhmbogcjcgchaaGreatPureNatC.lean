/- Writing a number, its rules, taking away, in plain functions. No condition. -/
import Derived.Test.YtfhmbogcjcgchaaGreatPureNatB
namespace Go.Proofs.YtfhmbogcjcgchaaGreat
open Go Go.VL

theorem wrapu {x : Int} (h1 : 0 ≤ x) (h2 : x < 18446744073709551616) : IntKind.wrap .u64 x = x := by
  simp only [IntKind.wrap, IntKind.signed, IntKind.bits]
  have : ((2 : Int) ^ 64) = 18446744073709551616 := by decide
  simp
  omega
theorem wrapi {x : Int} (h1 : -9223372036854775808 ≤ x) (h2 : x < 9223372036854775808) : IntKind.wrap .i64 x = x := w64_eq h1 h2

theorem Nf.snoc {l : List Int} {x : Int} (h : Lim l) (hx : 0 < x ∧ x < 1000000000) : Nf (l ++ [x]) := ⟨h.append (Lim.cons (by omega) Lim.nil), fun y hy => by
  rw [List.getLast?_append] at hy
  simp at hy
  omega⟩

/-- What writing a number comes to, for both. -/
theorem natOf_inv {N : Int} (hN : N < 18446744073709551616) {n : Int} {row : List Int} (h : 0 ≤ n ∧ Lim row ∧ V row + B row.length * n = N ∧ (n = 0 → Nf row) ∧ ((row.length = 0 ∧ n < 18446744073709551616) ∨ (row.length = 1 ∧ n < 20000000000) ∨ (row.length = 2 ∧ n < 20) ∨ (row.length = 3 ∧ n = 0))) (hn : 0 < n) :
    (fun (n : Int) (row : List Int) => 0 ≤ n ∧ Lim row ∧ V row + B row.length * n = N ∧ (n = 0 → Nf row) ∧ ((row.length = 0 ∧ n < 18446744073709551616) ∨ (row.length = 1 ∧ n < 20000000000) ∨ (row.length = 2 ∧ n < 20) ∨ (row.length = 3 ∧ n = 0))) (n / 1000000000) (row ++ [n % 1000000000]) := by
  obtain ⟨h0, h1, h2, h3, h4⟩ := h
  refine ⟨by omega, h1.append (Lim.cons (by omega) Lim.nil), ?_, fun h5 => Nf.snoc h1 (by omega), ?_⟩
  · rw [V_append, List.length_append, List.length_singleton, B_succ, V_cons, V_nil]
    have := Int.mul_ediv_add_emod n 1000000000
    generalize n / 1000000000 = u at *
    generalize n % 1000000000 = t at *
    grind
  · rw [List.length_append, List.length_singleton]
    omega

theorem natOf_eq {n : Int} (h : 0 ≤ n) (hn : n < 9223372036854775808) : spec_NatOf n = some (L n) := by
  have : ∃ r, iter (fun w : Int × List Int => spec_NatOf_L1_body w.1 w.2) (n, []) = some r ∧ r = L n := by
    refine iter_inv (I := fun w : Int × List Int => w.1 ≤ n ∧ 0 ≤ w.1 ∧ Lim w.2 ∧ V w.2 + B w.2.length * w.1 = n ∧ (w.1 = 0 → Nf w.2) ∧ ((w.2.length = 0 ∧ w.1 < 18446744073709551616) ∨ (w.2.length = 1 ∧ w.1 < 20000000000) ∨ (w.2.length = 2 ∧ w.1 < 20) ∨ (w.2.length = 3 ∧ w.1 = 0))) (m := fun w : Int × List Int => w.1.toNat) _ ?_ _ ⟨Int.le_refl _, h, Lim.nil, by simp [V, B], fun _ => Nf.nil, .inl ⟨rfl, by simp only; omega⟩⟩
    rintro ⟨m, row⟩ ⟨hm, hI⟩
    simp only at hm hI
    obtain ⟨h0, h1, h2, h3, h4⟩ := id hI
    by_cases hpos : 0 < m
    · have := natOf_inv (by omega) hI hpos
      refine .inl ⟨(m / 1000000000, row ++ [m % 1000000000]), ?_, ⟨by simp only; omega, this⟩, by simp only; omega⟩
      unfold spec_NatOf_L1_body
      rw [if_pos (by simp; omega), tm (by omega), td (by omega), if_pos (by simp; omega), w64_eq (by omega) (by omega)]
    · refine .inr ⟨row, by simp [spec_NatOf_L1_body, hpos], ?_⟩
      have hm0 : m = 0 := by omega
      refine L_eq (h3 hm0) ?_
      rw [hm0] at h2
      simpa using h2
  obtain ⟨r, hr, rfl⟩ := this
  unfold spec_NatOf spec_NatOf_L1
  rw [hr]
  rfl

theorem limbsOf_eq {n : Int} (h : 0 ≤ n) (hn : n < 18446744073709551616) : impl_limbsOf n = some (L n) := by
  have : ∃ r, iter (fun w : Int × List Int => impl_limbsOf_L1_body w.1 w.2) (n, []) = some r ∧ r = L n := by
    refine iter_inv (I := fun w : Int × List Int => w.1 ≤ n ∧ 0 ≤ w.1 ∧ Lim w.2 ∧ V w.2 + B w.2.length * w.1 = n ∧ (w.1 = 0 → Nf w.2) ∧ ((w.2.length = 0 ∧ w.1 < 18446744073709551616) ∨ (w.2.length = 1 ∧ w.1 < 20000000000) ∨ (w.2.length = 2 ∧ w.1 < 20) ∨ (w.2.length = 3 ∧ w.1 = 0))) (m := fun w : Int × List Int => w.1.toNat) _ ?_ _ ⟨Int.le_refl _, h, Lim.nil, by simp [V, B], fun _ => Nf.nil, .inl ⟨rfl, by simp only; omega⟩⟩
    rintro ⟨m, row⟩ ⟨hm, hI⟩
    simp only at hm hI
    obtain ⟨h0, h1, h2, h3, h4⟩ := id hI
    by_cases hpos : 0 < m
    · have := natOf_inv (by omega) hI hpos
      refine .inl ⟨(m / 1000000000, row ++ [m % 1000000000]), ?_, ⟨by simp only; omega, this⟩, by simp only; omega⟩
      unfold impl_limbsOf_L1_body
      rw [if_pos (by simp; omega), tm (by omega), td (by omega), wrapi (x := m % 1000000000) (by omega) (by omega), if_pos (by simp; omega), wrapu (by omega) (by omega)]
    · refine .inr ⟨row, by simp [impl_limbsOf_L1_body, hpos], ?_⟩
      have hm0 : m = 0 := by omega
      refine L_eq (h3 hm0) ?_
      rw [hm0] at h2
      simpa using h2
  obtain ⟨r, hr, rfl⟩ := this
  unfold impl_limbsOf impl_limbsOf_L1
  rw [hr]
  rfl

/- The rule of a number. -/
def limb (x : Int) : Bool := decide (0 ≤ x) && decide (x < 1000000000)
theorem lim_all (l : List Int) : l.all limb = true ↔ Lim l := by
  simp [limb, Lim]

theorem natOk_last {a : List Int} (h : a ≠ []) : ∃ x, a[a.length - 1]? = some x ∧ (Nf a ↔ Lim a ∧ x ≠ 0) := by
  have hp := List.length_pos_iff.mpr h
  refine ⟨a[a.length - 1], List.getElem?_eq_getElem (by omega), ?_⟩
  have e : a.getLast? = some a[a.length - 1] := by rw [List.getLast?_eq_getElem?]; exact List.getElem?_eq_getElem (by omega)
  constructor
  · exact fun h => ⟨h.1, h.2 _ e⟩
  · refine fun h => ⟨h.1, fun x hx => ?_⟩
    rw [e] at hx
    rw [← Option.some.inj hx]
    exact h.2

theorem wlast {a : List Int} (h : a ≠ []) (hm : (a.length : Int) < 9223372036854775807) : w64 ((a.length : Int) - 1) = ((a.length - 1 : Nat) : Int) := by
  have hp := List.length_pos_iff.mpr h
  rw [w64_eq (by omega) (by omega)]
  omega

theorem l01In_limb (x : Int) : spec_l01In x 0 999999999 = some (limb x) := by
  unfold spec_l01In limb
  by_cases h : 0 ≤ x
  · simp [h]; omega
  · simp [h]

theorem spec_natOk {a : List Int} (hm : (a.length : Int) < 9223372036854775807) : ∃ ok, spec_NatOk a = some ok ∧ (ok = true ↔ Nf a ∧ a.length ≤ 60) := by
  have h1 : iter (fun w : Int => spec_NatOk_L1_body a a.length w) 0 = some (if a.all limb then .inl () else .inr ()) := by
    refine iter_all a limb (fun n x hx => ?_) (by simp [spec_NatOk_L1_body])
    have := lt_of_get hx
    unfold spec_NatOk_L1_body
    rw [if_pos (by simp; omega), if_pos (by omega), Int.toNat_natCast, hx]
    simp only [Option.bind_eq_bind, Option.bind_some, l01In_limb]
    rw [i1 (by omega)]
    cases limb x <;> rfl
  unfold spec_NatOk spec_NatOk_L1
  simp only [len_eI]
  rw [h1]
  by_cases hL : a.all limb = true
  · have hlim := (lim_all a).1 hL
    simp only [hL, if_true, Option.bind_eq_bind, Option.bind_some]
    by_cases h60 : a.length ≤ 60
    · rw [if_pos (by simp; omega)]
      by_cases h0 : a = []
      · subst h0
        exact ⟨true, rfl, by simp [Nf.nil]⟩
      · obtain ⟨x, hx, hn⟩ := natOk_last h0
        have hp := List.length_pos_iff.mpr h0
        rw [if_neg (by simp [h0]), wlast h0 hm, if_pos (by omega), Int.toNat_natCast, hx]
        refine ⟨_, rfl, ?_⟩
        rw [hn]
        simp [hlim, h60]
    · rw [if_neg (by simp; omega)]
      exact ⟨false, rfl, by simp; omega⟩
  · have hlim : ¬ Lim a := fun h => hL ((lim_all a).2 h)
    simp only [Bool.not_eq_true] at hL
    refine ⟨false, by simp [hL], ?_⟩
    simp only [Bool.false_eq_true, false_iff]
    exact fun h => hlim h.1.1

theorem natOk_1_eq (x : Int) : impl_NatOk_1 x = some (!limb x) := by
  unfold impl_NatOk_1 limb
  by_cases h : x < 0
  · simp [h]
  · rw [if_neg (by simp [h])]
    congr 1
    rw [Bool.eq_iff_iff]
    simp
    omega

theorem containsNat {a : List Int} (hm : (a.length : Int) < 9223372036854775807) : s_ContainsFunc_impl_NatOk_1 a = some (!(a.all limb)) := by
  obtain ⟨r, hr, h⟩ := iter_find (f := fun w : Int => s_IndexFunc_impl_NatOk_1_L1_body a a.length w) a (fun x => !limb x) (fun n x hx => by
    have := lt_of_get hx
    unfold s_IndexFunc_impl_NatOk_1_L1_body
    rw [if_pos (by simp; omega), if_pos (by omega), Int.toNat_natCast, hx]
    simp only [Option.bind_eq_bind, Option.bind_some, natOk_1_eq]
    rw [i1 (by omega)]
    cases limb x <;> rfl) (by simp [s_IndexFunc_impl_NatOk_1_L1_body])
  have e : a.any (fun x => !limb x) = !(a.all limb) := by rw [List.not_all_eq_any_not]
  rw [e] at h
  unfold s_ContainsFunc_impl_NatOk_1 s_IndexFunc_impl_NatOk_1 s_IndexFunc_impl_NatOk_1_L1
  simp only [len_eI]
  rw [hr]
  rcases h with ⟨k, rfl, hk, h⟩ | ⟨rfl, h⟩
  · simp only [Option.bind_eq_bind, Option.bind_some]
    rw [h]
    simp [hk]
  · simp only [Option.bind_eq_bind, Option.bind_some]
    rw [h]
    rfl

theorem impl_natOk {a : List Int} (hm : (a.length : Int) < 9223372036854775807) : ∃ ok, impl_NatOk a = some ok ∧ (ok = true ↔ Nf a ∧ a.length ≤ 60) := by
  unfold impl_NatOk
  simp only [len_eI]
  by_cases h60 : 60 < a.length
  · rw [if_pos (by simp; omega)]
    exact ⟨false, rfl, by simp; omega⟩
  · rw [if_neg (by simp; omega)]
    by_cases h0 : a = []
    · subst h0
      exact ⟨true, by simp [containsNat], by simp [Nf.nil]⟩
    · obtain ⟨x, hx, hn⟩ := natOk_last h0
      have hp := List.length_pos_iff.mpr h0
      rw [if_pos (by simp; omega), wlast h0 hm, if_pos (by omega), Int.toNat_natCast, hx]
      simp only [Option.bind_eq_bind, Option.bind_some]
      rw [hn]
      by_cases hx0 : x = 0
      · exact ⟨false, by simp [hx0], by simp [hx0]⟩
      · rw [if_neg (by simp [hx0]), containsNat hm]
        refine ⟨_, rfl, ?_⟩
        rw [← lim_all]
        simp [hx0]
        omega

theorem natOk_both {a : List Int} (hm : (a.length : Int) < 9223372036854775807) : ∃ ok, spec_NatOk a = some ok ∧ impl_NatOk a = some ok ∧ (ok = true ↔ Nf a ∧ a.length ≤ 60) := by
  obtain ⟨o1, h1, h2⟩ := spec_natOk hm
  obtain ⟨o2, h3, h4⟩ := impl_natOk hm
  have : o2 = o1 := Bool.eq_iff_iff.mpr (h4.trans h2.symm)
  exact ⟨o1, h1, this ▸ h3, h2⟩

/-- A number read. -/
theorem natToInt_eq {a : List Int} (ha : Nf a) (h60 : a.length ≤ 60) (hv : V a < 9223372036854775808) : spec_NatToInt a = some (V a, true) := by
  obtain ⟨ok, h1, h2⟩ := spec_natOk (a := a) (by omega)
  have hok : ok = true := h2.2 ⟨ha, h60⟩
  subst hok
  have hc : Nf [854775807, 223372036, 9] := ⟨by intro x hx; simp at hx; omega, by simp⟩
  have hcv : V [854775807, 223372036, 9] = 9223372036854775807 := by decide
  unfold spec_NatToInt
  rw [h1]
  simp only [Option.bind_eq_bind, Option.bind_some, if_true]
  rw [cmp_eq ha hc (by omega), hcv]
  have : ∃ r, iter (fun w : Int × Int => spec_NatToInt_L1_body a w.1 w.2) (0, (a.length : Int) - 1) = some r ∧ r = V a := by
    refine iter_inv (I := fun w : Int × Int => ∃ k : Nat, w.2 = (k : Int) - 1 ∧ k ≤ a.length ∧ w.1 = V (a.drop k)) (m := fun w : Int × Int => (w.2 + 1).toNat) _ ?_ _ ⟨a.length, rfl, by omega, by simp [V]⟩
    rintro ⟨n, i⟩ ⟨k, h3, hk, h4⟩
    simp only at h3 h4
    subst h3 h4
    cases k with
    | zero => exact .inr ⟨V a, by simp [spec_NatToInt_L1_body], rfl⟩
    | succ k =>
      have hx := List.getElem?_eq_getElem (show k < a.length by omega)
      have hx0 := ha.1.get hx
      have h5 := V_drop1 hx
      have h6 := V_nonneg (ha.1.drop (k + 1))
      have h7 : V (a.drop k) ≤ V a := by
        have h8 := V_split (l := a) (n := k) (by omega)
        have h9 := V_nonneg (ha.1.take k)
        have h10 := V_nonneg (ha.1.drop k)
        have h11 : 1 * V (a.drop k) ≤ B k * V (a.drop k) := Int.mul_le_mul_of_nonneg_right (B_pos k) h10
        omega
      refine .inl ⟨(V (a.drop k), (k : Int) - 1), ?_, ⟨k, rfl, by omega, rfl⟩, by simp only; omega⟩
      unfold spec_NatToInt_L1_body
      rw [show ((k + 1 : Nat) : Int) - 1 = k by omega, if_pos (by simp), if_pos (by omega), Int.toNat_natCast, hx]
      simp only [Option.bind_eq_bind, Option.bind_some]
      rw [wpred (by omega), w64_eq (x := V (a.drop (k + 1)) * 1000000000) (by omega) (by omega), w64_eq (by omega) (by omega), h5]
      congr 3
      omega
  obtain ⟨r, hr, rfl⟩ := this
  unfold cmp3 spec_NatToInt_L1
  simp only [len_eI]
  rw [wpred (by omega), hr]
  have h3 : ¬ (9223372036854775807 : Int) < V a := by omega
  by_cases h4 : V a < 9223372036854775807 <;> simp [h3, h4]

/- Taking away. -/
theorem sub_body {a b row : List Int} {less x : Int} {i : Nat} (hb : Lim b) (hx : a[i]? = some x) (hx0 : 0 ≤ x ∧ x < 1000000000) (hl : less = 0 ∨ less = 1) (hn : a.length ≤ 1000000) (hm : b.length ≤ 1000000) (hr : row.length ≤ 1000000) :
    ∃ y, 0 ≤ y ∧ y < 1000000000 ∧ (∀ z, b[i]? = some z → y = z) ∧ (b[i]? = none → y = 0) ∧
    spec_l02Sub_L1_body a b a.length less i row = some (.inl (if x - less - y < 0 then (1, ((i + 1 : Nat) : Int), row ++ [x - less - y + 1000000000]) else (0, ((i + 1 : Nat) : Int), row ++ [x - less - y]))) := by
  have hi := lt_of_get hx
  unfold spec_l02Sub_L1_body
  rw [if_pos (by simp; omega), if_pos (by omega), Int.toNat_natCast, hx]
  simp only [Option.bind_eq_bind, Option.bind_some, len_eI]
  by_cases hib : i < b.length
  · have hy := List.getElem?_eq_getElem hib
    have hy0 := hb.get hy
    refine ⟨b[i], hy0.1, hy0.2, fun z hz => by rw [hy] at hz; exact Option.some.inj hz, fun h => by rw [hy] at h; simp at h, ?_⟩
    rw [if_pos (by simp; omega), if_pos (by omega), hy]
    simp only [Option.bind_some]
    rw [w64_eq (x := x - less) (by omega) (by omega), w64_eq (x := x - less - b[i]) (by omega) (by omega), wnat1 (n := i) (by omega), w64_eq (x := x - less - b[i] + 1000000000) (by omega) (by omega)]
    by_cases h : x - less - b[i] < 0
    · rw [if_pos (by simp [h]), if_pos (by simp; omega)]
      simp [h]
    · rw [if_neg (by simp [h]), if_pos (by simp; omega)]
      simp [h]
  · have hy : b[i]? = none := by simp; omega
    refine ⟨0, by omega, by omega, fun z hz => by rw [hy] at hz; simp at hz, fun _ => rfl, ?_⟩
    rw [if_neg (by simp; omega), w64_eq (x := x - less) (by omega) (by omega), wnat1 (n := i) (by omega), w64_eq (x := x - less + 1000000000) (by omega) (by omega), Int.sub_zero]
    by_cases h : x - less < 0
    · rw [if_pos (by simp [h]), if_pos (by simp; omega)]
      simp [h]
    · rw [if_neg (by simp [h]), if_pos (by simp; omega)]
      simp [h]

theorem V_take1' {b : List Int} {i : Nat} {y : Int} (h1 : ∀ z, b[i]? = some z → y = z) (h2 : b[i]? = none → y = 0) : V (b.take (i + 1)) = V (b.take i) + B i * y := by
  cases h : b[i]? with
  | some z => rw [h1 z h, V_take1 h]
  | none =>
    rw [h2 h]
    have : b.length ≤ i := by simpa using h
    rw [List.take_of_length_le (by omega), List.take_of_length_le (by omega)]
    simp

theorem sub_eq {a b : List Int} (ha : Lim a) (hb : Lim b) (hlen : b.length ≤ a.length) (hab : V b ≤ V a) (hn : a.length ≤ 1000000) : spec_l02Sub a b = some (L (V a - V b)) := by
  have : ∃ r, iter (fun w : Int × Int × List Int => spec_l02Sub_L1_body a b a.length w.1 w.2.1 w.2.2) (0, 0, []) = some r ∧ Lim r ∧ r.length = a.length ∧ V r = V a - V b := by
    refine iter_inv (I := fun w : Int × Int × List Int => ∃ i : Nat, w.2.1 = i ∧ i ≤ a.length ∧ (w.1 = 0 ∨ w.1 = 1) ∧ Lim w.2.2 ∧ w.2.2.length = i ∧ V w.2.2 - w.1 * B i = V (a.take i) - V (b.take i)) (m := fun w : Int × Int × List Int => a.length - w.2.1.toNat) _ ?_ _ ⟨0, rfl, by omega, .inl rfl, Lim.nil, rfl, by simp [V]⟩
    rintro ⟨less, ii, row⟩ ⟨i, h1, hi, hl, hlr, hrl, hv⟩
    simp only at h1 hl hlr hrl hv ⊢
    subst h1
    by_cases hia : i = a.length
    · refine .inr ⟨row, by simp [spec_l02Sub_L1_body, hia], hlr, by omega, ?_⟩
      rw [hia] at hv
      rw [List.take_length, List.take_of_length_le hlen] at hv
      have h2 := V_lt hlr
      rw [hrl, hia] at h2
      rcases hl with rfl | rfl <;> omega
    · have hx := List.getElem?_eq_getElem (show i < a.length by omega)
      have hx0 := ha.get hx
      obtain ⟨y, hy1, hy2, hy3, hy4, he⟩ := sub_body (row := row) hb hx hx0 hl hn (by omega) (by omega)
      rw [he]
      refine .inl ⟨_, rfl, ?_⟩
      have h3 := V_take1 hx
      have h4 := V_take1' hy3 hy4
      by_cases h : a[i] - less - y < 0
      · rw [if_pos h]
        refine ⟨⟨i + 1, rfl, by omega, .inr rfl, hlr.append (Lim.cons (by omega) Lim.nil), by simp [hrl], ?_⟩, by simp only; omega⟩
        simp only
        rw [h3, h4, V_append, hrl, B_succ, V_cons, V_nil]
        grind
      · rw [if_neg h]
        refine ⟨⟨i + 1, rfl, by omega, .inl rfl, hlr.append (Lim.cons (by omega) Lim.nil), by simp [hrl], ?_⟩, by simp only; omega⟩
        simp only
        rw [h3, h4, V_append, hrl, V_cons, V_nil]
        grind
  obtain ⟨r, hr, h1, h2, h3⟩ := this
  unfold spec_l02Sub spec_l02Sub_L1
  simp only [len_eI]
  rw [hr]
  simp only [Option.bind_eq_bind, Option.bind_some]
  rw [l02Trim_eq h1 (by omega), h3]
  rfl

end Go.Proofs.YtfhmbogcjcgchaaGreat
