/- What FnExactNeedsOf needs of plain facts; no condition. -/
import Derived.Test.YtiacejpdgjmdfabGreatVFnExactNeedsOfC
import Derived.Test.YtiacejpdgjmdfabGreatVmC
import Derived.Test.YtiacejpdgjmdfabGreatVmD
import Derived.Test.YtiacejpdgjmdfabGreatVmE
namespace Go.Proofs.YtiacejpdgjmdfabGreat
set_option linter.unusedVariables false
set_option linter.unusedSimpArgs false
open Go Go.VL

theorem wnat1 {n : Nat} (h : n ≤ 10000000) : w64 ((n : Int) + 1) = ((n + 1 : Nat) : Int) := by rw [w64_eq (by omega) (by omega)]; rfl

theorem wpred {n : Nat} (h : n ≤ 10000000) : w64 ((n : Int) - 1) = (n : Int) - 1 := w64_eq (by omega) (by omega)

theorem wsucc {n : Nat} (h : n ≤ 10000000) : w64 (((n + 1 : Nat) : Int) - 1) = n := by rw [w64_eq (by omega) (by omega)]; omega

theorem len_eI (l : List Int) : len_ eI l = l.length := len_eq _ l

theorem trim_step {l : List Int} {k : Nat} {x : Int} (hx : l[k]? = some x) (hn : l.length ≤ 5000000) : spec_l02Trim_L1_body l ((k + 1 : Nat) : Int) = some (if x = 0 then .inl (k : Int) else .inr ((k + 1 : Nat) : Int)) := by
  have hk := lt_of_get hx
  unfold spec_l02Trim_L1_body
  rw [wsucc (by omega), if_pos (by simp), if_pos (by omega), Int.toNat_natCast, hx]
  by_cases h : x = 0 <;> simp [h]

theorem l02Trim_eq {l : List Int} (hl : Lim l) (hn : l.length ≤ 5000000) : spec_l02Trim l = some (L (V l)) := by
  have : ∃ r, iter (fun w : Int => spec_l02Trim_L1_body l w) (l.length : Int) = some r ∧ ∃ k : Nat, r = k ∧ k ≤ l.length ∧ l.take k = L (V l) := by
    refine iter_inv (I := fun w : Int => ∃ k : Nat, w = k ∧ k ≤ l.length ∧ V (l.take k) = V l) (m := fun w : Int => w.toNat) _ ?_ _ ⟨l.length, rfl, by omega, by simp⟩
    rintro _ ⟨k, rfl, hk, hv⟩
    cases k with
    | zero =>
      refine .inr ⟨0, by simp [spec_l02Trim_L1_body], 0, rfl, by omega, ?_⟩
      rw [← hv]
      simp [V, L_zero]
    | succ k =>
      have hx := List.getElem?_eq_getElem (show k < l.length by omega)
      rw [trim_step hx hn]
      by_cases h : l[k] = 0
      · refine .inl ⟨_, by simp [h], ⟨k, rfl, by omega, ?_⟩, by omega⟩
        have := V_take1 hx
        rw [h] at this
        simp at this
        omega
      · refine .inr ⟨_, by simp [h], k + 1, rfl, hk, ?_⟩
        rcases Nf.of_take hl k (fun x h1 => by rw [hx] at h1; simp at h1; omega) with h1 | h1
        · exact L_eq h1 hv
        · omega
  obtain ⟨r, hr, k, rfl, h1, h2⟩ := this
  unfold spec_l02Trim spec_l02Trim_L1
  rw [len_eI, hr]
  simp [h1, h2]

theorem trim_eq {l : List Int} (hl : Lim l) (hn : l.length ≤ 5000000) : impl_trim l = some (L (V l)) := by
  have : ∃ r, iter (fun w : List Int => impl_trim_L1_body w) l = some r ∧ r = L (V l) := by
    refine iter_inv (I := fun w => ∃ k : Nat, w = l.take k ∧ k ≤ l.length ∧ V (l.take k) = V l) (m := fun w : List Int => w.length) _ ?_ _ ⟨l.length, by simp, by omega, by simp⟩
    rintro _ ⟨k, rfl, hk, hv⟩
    have hlen : (l.take k).length = k := by simp; omega
    cases k with
    | zero =>
      refine .inr ⟨[], by simp [impl_trim_L1_body, len_eI], ?_⟩
      rw [← hv]
      simp [V, L_zero]
    | succ k =>
      have hx := List.getElem?_eq_getElem (show k < l.length by omega)
      have hx' : (l.take (k + 1))[k]? = some l[k] := by rw [List.getElem?_take]; simp [hx]
      unfold impl_trim_L1_body
      simp only [len_eI, hlen]
      rw [wsucc (by omega), if_pos (by simp), if_pos (by omega), Int.toNat_natCast, hx']
      by_cases h : l[k] = 0
      · refine .inl ⟨l.take k, by simp [h, List.take_take, Nat.min_eq_left], ⟨k, rfl, by omega, ?_⟩, by simp; omega⟩
        have := V_take1 hx
        rw [h] at this
        simp at this
        omega
      · refine .inr ⟨l.take (k + 1), by simp [h], ?_⟩
        rcases Nf.of_take hl k (fun x h1 => by rw [hx] at h1; simp at h1; omega) with h1 | h1
        · exact L_eq h1 hv
        · omega
  obtain ⟨r, hr, rfl⟩ := this
  unfold impl_trim impl_trim_L1
  rw [hr]
  rfl

theorem trim_o_eq {l : List Int} (hl : Lim l) (hn : l.length ≤ 5000000) : ∃ k, impl_trim_o l = some k ∧ k ≤ l.length ∧ l.take k = L (V l) := by
  have : ∃ r, iter (fun w : Nat => impl_trim_o_L1_body l w) l.length = some r ∧ r ≤ l.length ∧ l.take r = L (V l) := by
    refine iter_inv (I := fun k => k ≤ l.length ∧ V (l.take k) = V l) (m := fun w : Nat => w) _ ?_ _ ⟨by omega, by simp⟩
    rintro k ⟨hk, hv⟩
    cases k with
    | zero =>
      refine .inr ⟨0, by simp [impl_trim_o_L1_body], by omega, ?_⟩
      rw [← hv]
      simp [V, L_zero]
    | succ k =>
      have hx := List.getElem?_eq_getElem (show k < l.length by omega)
      unfold impl_trim_o_L1_body
      rw [wsucc (by omega), if_pos (by simp), if_pos (by omega), Int.toNat_natCast, Nat.zero_add, hx]
      by_cases h : l[k] = 0
      · refine .inl ⟨k, by simp [h], ⟨by omega, ?_⟩, by omega⟩
        have := V_take1 hx
        rw [h] at this
        simp at this
        omega
      · refine .inr ⟨k + 1, by simp [h], hk, ?_⟩
        rcases Nf.of_take hl k (fun x h1 => by rw [hx] at h1; simp at h1; omega) with h1 | h1
        · exact L_eq h1 hv
        · omega
  obtain ⟨r, hr, h1, h2⟩ := this
  unfold impl_trim_o impl_trim_o_L1
  rw [hr]
  exact ⟨r, rfl, h1, h2⟩

theorem cmp_eq {a b : List Int} (ha : Nf a) (hb : Nf b) (hn : a.length ≤ 5000000) : spec_l02Cmp a b = some (cmp3 (V a) (V b)) := by
  unfold spec_l02Cmp cmp3
  simp only [len_eI]
  by_cases h1 : a.length = b.length
  · rw [if_neg (by simp [h1])]
    have : ∃ r, iter (fun w : Int => spec_l02Cmp_L1_body a b w) ((a.length : Int) - 1) = some r ∧ (r.elim (fun _ => V a = V b) (fun c => (c = -1 ∧ V a < V b) ∨ (c = 1 ∧ V b < V a))) := by
      refine iter_inv (I := fun w : Int => ∃ k : Nat, w = (k : Int) - 1 ∧ k ≤ a.length ∧ V (a.drop k) = V (b.drop k)) (m := fun w : Int => (w + 1).toNat) _ ?_ _ ⟨a.length, rfl, by omega, by rw [List.drop_length, h1, List.drop_length]⟩
      rintro _ ⟨k, rfl, hk, hv⟩
      cases k with
      | zero => exact .inr ⟨.inl (), by simp [spec_l02Cmp_L1_body], by simpa using hv⟩
      | succ k =>
        have hx := List.getElem?_eq_getElem (show k < a.length by omega)
        have hy := List.getElem?_eq_getElem (show k < b.length by omega)
        have e : ((k + 1 : Nat) : Int) - 1 = k := by omega
        unfold spec_l02Cmp_L1_body
        rw [e, wpred (by omega), if_pos (by simp), if_pos (by omega), Int.toNat_natCast, hx]
        simp only [Option.bind_eq_bind, Option.bind_some]
        rw [if_pos (by omega), hy]
        by_cases h2 : a[k] < b[k]
        · exact .inr ⟨.inr (-1), by simp [h2], .inl ⟨rfl, cmp_top ha.1 hb.1 hx hy hv h2⟩⟩
        · by_cases h3 : b[k] < a[k]
          · exact .inr ⟨.inr 1, by simp [h2, h3], .inr ⟨rfl, cmp_top hb.1 ha.1 hy hx hv.symm h3⟩⟩
          · refine .inl ⟨(k : Int) - 1, by simp [h2, h3], ⟨k, rfl, by omega, ?_⟩, by omega⟩
            rw [V_drop1 hx, V_drop1 hy, hv, show a[k] = b[k] by omega]
    obtain ⟨r, hr, h2⟩ := this
    unfold spec_l02Cmp_L1
    rw [wpred (by omega), hr]
    cases r with
    | inl u =>
      simp at h2
      simp [h2]
    | inr c =>
      rcases h2 with ⟨rfl, h2⟩ | ⟨rfl, h2⟩
      · simp [h2]
      · simp [h2]; omega
  · rw [if_pos (by simp; omega)]
    by_cases h2 : a.length < b.length
    · have := cmp_len ha hb h2
      simp [h2, this]
    · have := cmp_len hb ha (by omega)
      rw [if_neg (by simp; omega), if_neg (by omega), if_pos this]

theorem compare_spec : impl_compare = spec_l02Cmp := rfl

theorem compare_eq {a b : List Int} (ha : Nf a) (hb : Nf b) (hn : a.length ≤ 5000000) : impl_compare a b = some (cmp3 (V a) (V b)) := cmp_eq ha hb hn

theorem mul_bd {x y : Int} (hx : 0 ≤ x ∧ x < 1000000000) (hy : 0 ≤ y ∧ y < 1000000000) : 0 ≤ x * y ∧ x * y ≤ 999999998000000001 := by
  have h1 := Int.mul_nonneg hx.1 hy.1
  have h2 : x * y ≤ 999999999 * 999999999 := Int.mul_le_mul (by omega) (by omega) hy.1 (by omega)
  omega

theorem tm {a b : Int} (h : 0 ≤ a) : a.tmod b = a % b := Int.tmod_eq_emod_of_nonneg h

theorem td {a b : Int} (h : 0 ≤ a) : a.tdiv b = a / b := Int.tdiv_eq_ediv_of_nonneg h

theorem rep_set (k : Nat) (x : Int) (q : List Int) : (List.replicate (k + 1) 0 ++ q).set k x = List.replicate k 0 ++ x :: q := by
  induction k with
  | zero => rfl
  | succ k ih =>
    show (0 :: (List.replicate (k + 1) 0 ++ q)).set (k + 1) x = _
    rw [List.set_cons_succ, ih]; rfl

theorem small_body {a : List Int} {d rest : Int} {row : List Int} {k : Nat} {x : Int} (hx : a[k]? = some x) (hx0 : 0 ≤ x ∧ x < 1000000000) (hd : 0 < d ∧ d < 1000000000) (hr : 0 ≤ rest ∧ rest < d) (hrow : row.length = a.length) (hn : a.length ≤ 1000000) :
    spec_l02Small_L1_body a d rest (k : Int) row = some (.inl ((rest * 1000000000 + x) % d, (k : Int) - 1, row.set k ((rest * 1000000000 + x) / d))) := by
  have hk := lt_of_get hx
  unfold spec_l02Small_L1_body
  rw [if_pos (by simp), if_pos (by omega), Int.toNat_natCast, hx]
  simp only [Option.bind_eq_bind, Option.bind_some]
  rw [if_pos (by omega), if_pos (by omega), if_pos (by omega), wpred (by omega)]
  have h1 : w64 (w64 (rest * 1000000000) + x) = rest * 1000000000 + x := by rw [w64_eq (x := rest * 1000000000) (by omega) (by omega)]; exact w64_eq (by omega) (by omega)
  have h2 : 0 ≤ rest * 1000000000 + x := by omega
  have h3 : (rest * 1000000000 + x) / d ≤ rest * 1000000000 + x := Int.ediv_le_self _ h2
  have h4 : 0 ≤ (rest * 1000000000 + x) / d := Int.ediv_nonneg h2 (by omega)
  rw [h1, tm h2, td h2, w64_eq (by omega) (by omega), Nat.zero_add]

theorem small_loop {a : List Int} {d : Int} (ha : Lim a) (hd : 0 < d ∧ d < 1000000000) (hn : a.length ≤ 1000000) :
    ∃ r, spec_l02Small_L1 a d 0 ((a.length : Int) - 1) (List.replicate a.length 0) = some r ∧ r.1 = V a % d ∧ Lim r.2 ∧ r.2.length = a.length ∧ V r.2 = V a / d := by
  refine iter_inv (I := fun w : Int × Int × List Int => ∃ (k : Nat) (q : List Int), w.2.1 = (k : Int) - 1 ∧ k ≤ a.length ∧ w.2.2 = List.replicate k 0 ++ q ∧ q.length + k = a.length ∧ Lim q ∧ 0 ≤ w.1 ∧ w.1 < d ∧ V (a.drop k) = V q * d + w.1) (m := fun w : Int × Int × List Int => (w.2.1 + 1).toNat) _ ?_ _ ⟨a.length, [], rfl, by omega, by simp, by simp, Lim.nil, by omega, by omega, by simp [V]⟩
  rintro ⟨rest, i, row⟩ ⟨k, q, h1, hk, h2, hq, hlq, hr0, hr1, hv⟩
  simp only at h1 h2 hr0 hr1 hv ⊢
  subst h1 h2
  cases k with
  | zero =>
    refine .inr ⟨(rest, q), by simp [spec_l02Small_L1_body], ?_, hlq, by simpa using hq, ?_⟩
    · simp at hv
      rw [hv, Int.add_comm, Int.add_mul_emod_self_right]
      exact (Int.emod_eq_of_lt hr0 hr1).symm
    · simp at hv
      rw [hv, Int.add_comm, Int.add_mul_ediv_right _ _ (by omega), Int.ediv_eq_zero_of_lt hr0 hr1]
      simp
  | succ k =>
    have hx := List.getElem?_eq_getElem (show k < a.length by omega)
    have hx0 := ha.get hx
    rw [show ((k + 1 : Nat) : Int) - 1 = k by omega, small_body hx hx0 hd ⟨hr0, hr1⟩ (by simp; omega) hn]
    refine .inl ⟨_, rfl, ⟨k, (rest * 1000000000 + a[k]) / d :: q, rfl, by omega, rep_set _ _ _, by simp; omega, Lim.cons ⟨Int.ediv_nonneg (by omega) (by omega), ?_⟩ hlq, Int.emod_nonneg _ (by omega), Int.emod_lt_of_pos _ hd.1, ?_⟩, by simp⟩
    · refine Int.ediv_lt_of_lt_mul hd.1 ?_
      omega
    · rw [V_drop1 hx, hv, V_cons]
      have := Int.mul_ediv_add_emod (rest * 1000000000 + a[k]) d
      generalize (rest * 1000000000 + a[k]) / d = u at *
      generalize (rest * 1000000000 + a[k]) % d = t at *
      grind

theorem small_eq {a : List Int} {d : Int} (ha : Lim a) (hd : 0 < d ∧ d < 1000000000) (hn : a.length ≤ 1000000) : spec_l02Small a d = some (L (V a / d), V a % d) := by
  obtain ⟨r, hr, h1, h2, h3, h4⟩ := small_loop ha hd hn
  unfold spec_l02Small
  simp only [len_eI]
  rw [if_pos (by omega), wpred (by omega), Int.toNat_natCast, hr]
  simp only [Option.bind_eq_bind, Option.bind_some]
  rw [l02Trim_eq h2 (by omega), h1, h4]
  rfl

theorem overSmall_L1_eq : impl_overSmall_L1 = spec_l02Small_L1 := rfl

theorem overSmall_eq {a : List Int} {d : Int} (ha : Lim a) (hd : 0 < d ∧ d < 1000000000) (hn : a.length ≤ 1000000) : impl_overSmall a d = some (L (V a / d), V a % d) := by
  obtain ⟨r, hr, h1, h2, h3, h4⟩ := small_loop ha hd hn
  unfold impl_overSmall
  simp only [len_eI]
  rw [if_pos (by omega), wpred (by omega), Int.toNat_natCast, overSmall_L1_eq, hr]
  simp only [Option.bind_eq_bind, Option.bind_some]
  rw [trim_eq h2 (by omega), h1, h4]
  rfl

theorem mul_body2 {b : List Int} {i j : Nat} {x y z carry : Int} {row : List Int} {t26 : List Int} {t27 : Int} (hy : b[j]? = some y) (hz : row[i + j]? = some z) (hx : 0 ≤ x ∧ x < 1000000000) (hy0 : 0 ≤ y ∧ y < 1000000000) (hz0 : 0 ≤ z ∧ z < 1000000000) (hc : 0 ≤ carry ∧ carry < 1000000000) (hn : row.length ≤ 2000000) :
    spec_l02Mul_L2_body b i x t26 t27 b.length carry j row = some (.inl ((z + x * y + carry) / 1000000000, ((j + 1 : Nat) : Int), row.set (i + j) ((z + x * y + carry) % 1000000000))) := by
  have hj := lt_of_get hy
  have hij := lt_of_get hz
  obtain ⟨m1, m2⟩ := mul_bd hx hy0
  unfold spec_l02Mul_L2_body
  have e : w64 ((i : Int) + (j : Int)) = ((i + j : Nat) : Int) := by rw [w64_eq (by omega) (by omega)]; rfl
  rw [if_pos (by simp; omega), if_pos (by omega), Int.toNat_natCast, hy]
  simp only [Option.bind_eq_bind, Option.bind_some, e, Int.toNat_natCast, Nat.zero_add]
  rw [if_pos (by omega), hz]
  simp only [Option.bind_some]
  rw [if_pos (by omega), wnat1 (by omega), w64_eq (x := x * y) (by omega) (by omega), w64_eq (x := z + x * y) (by omega) (by omega), w64_eq (x := z + x * y + carry) (by omega) (by omega), tm (by omega), td (by omega), w64_eq (by omega) (by omega)]

theorem mul_loop2 {b : List Int} {i : Nat} {x : Int} {row : List Int} {t26 : List Int} {t27 : Int} (hb : Lim b) (hrow : Lim row) (hx : 0 ≤ x ∧ x < 1000000000) (hl : i + b.length < row.length) (hn : row.length ≤ 2000000) :
    ∃ r, spec_l02Mul_L2 b i x t26 t27 b.length 0 0 row = some r ∧ 0 ≤ r.1 ∧ r.1 < 1000000000 ∧ Lim r.2 ∧ r.2.length = row.length ∧ V r.2 + r.1 * B (i + b.length) = V row + x * B i * V b ∧ ∀ j, i + b.length ≤ j → r.2[j]? = row[j]? := by
  refine iter_inv (I := fun w : Int × Int × List Int => ∃ (j : Nat), w.2.1 = (j : Int) ∧ j ≤ b.length ∧ 0 ≤ w.1 ∧ w.1 < 1000000000 ∧ Lim w.2.2 ∧ w.2.2.length = row.length ∧ V w.2.2 + w.1 * B (i + j) = V row + x * B i * V (b.take j) ∧ ∀ j, i + b.length ≤ j → w.2.2[j]? = row[j]?) (m := fun w : Int × Int × List Int => b.length - w.2.1.toNat) _ ?_ _ ⟨0, rfl, by omega, by simp, by simp, hrow, rfl, by simp [V], fun _ _ => rfl⟩
  rintro ⟨carry, jj, rw0⟩ ⟨j, h1, hj, hc0, hc1, hlr, hlen, hv, hsame⟩
  simp only at h1 hc0 hc1 hlr hlen hv hsame ⊢
  subst h1
  by_cases hjb : j = b.length
  · subst hjb
    refine .inr ⟨(carry, rw0), by simp [spec_l02Mul_L2_body], hc0, hc1, hlr, hlen, by simpa using hv, hsame⟩
  · have hy := List.getElem?_eq_getElem (show j < b.length by omega)
    have hz := List.getElem?_eq_getElem (show i + j < rw0.length by omega)
    have hy0 := hb.get hy
    have hz0 := hlr.get hz
    obtain ⟨m1, m2⟩ := mul_bd hx hy0
    rw [mul_body2 hy hz hx hy0 hz0 ⟨hc0, hc1⟩ (by omega)]
    refine .inl ⟨_, rfl, ⟨j + 1, rfl, by omega, by simp only; omega, by simp only; omega, hlr.set (by omega), by simpa using hlen, ?_, fun j' hj' => ?_⟩, by simp; omega⟩
    · simp only
      rw [V_set hz, V_take1 hy, ← Nat.add_assoc, B_succ]
      rw [B_add] at hv ⊢
      have := Int.mul_ediv_add_emod (rw0[i + j] + x * b[j] + carry) 1000000000
      generalize (rw0[i + j] + x * b[j] + carry) / 1000000000 = u at *
      generalize (rw0[i + j] + x * b[j] + carry) % 1000000000 = t at *
      grind
    · rw [← hsame j' hj']
      exact List.getElem?_set_ne (by omega)

theorem mul_loop3 {a b : List Int} (ha : Lim a) (hb : Lim b) (hn : a.length ≤ 1000000) (hm : b.length ≤ 1000000) :
    ∃ r, spec_l02Mul_L3 b a a.length 0 (List.replicate (a.length + b.length) 0) = some r ∧ Lim r ∧ r.length = a.length + b.length ∧ V r = V a * V b := by
  refine iter_inv (I := fun w : Int × List Int => ∃ (i : Nat), w.1 = (i : Int) ∧ i ≤ a.length ∧ Lim w.2 ∧ w.2.length = a.length + b.length ∧ V w.2 = V (a.take i) * V b ∧ ∀ j, i + b.length ≤ j → j < a.length + b.length → w.2[j]? = some 0) (m := fun w : Int × List Int => a.length - w.1.toNat) _ ?_ _ ⟨0, rfl, by omega, Lim.rep _, by simp, by simp [V, V_rep], fun j _ h => by simp [List.getElem?_replicate, h]⟩
  rintro ⟨ii, row⟩ ⟨i, h1, hi, hlr, hlen, hv, h0⟩
  simp only at h1 hlr hlen hv h0 ⊢
  subst h1
  by_cases hia : i = a.length
  · subst hia
    refine .inr ⟨row, by simp [spec_l02Mul_L3_body], hlr, hlen, by simpa using hv⟩
  · have hx := List.getElem?_eq_getElem (show i < a.length by omega)
    have hx0 := ha.get hx
    obtain ⟨r, hr, hc0, hc1, hlr', hlen', hv', hsame⟩ := mul_loop2 (i := i) (t26 := a) (t27 := a.length) hb hlr hx0 (by omega) (by omega)
    have e : w64 ((i : Int) + (b.length : Int)) = ((i + b.length : Nat) : Int) := by rw [w64_eq (by omega) (by omega)]; rfl
    have hz : r.2[i + b.length]? = some 0 := by rw [hsame _ (Nat.le_refl _)]; exact h0 _ (Nat.le_refl _) (by omega)
    refine .inl ⟨(((i + 1 : Nat) : Int), r.2.set (i + b.length) r.1), ?_, ⟨i + 1, rfl, by omega, hlr'.set ⟨hc0, hc1⟩, by simp; omega, ?_, fun j hj1 hj2 => ?_⟩, by simp; omega⟩
    · unfold spec_l02Mul_L3_body
      rw [if_pos (by simp; omega), if_pos (by omega), Int.toNat_natCast, hx]
      simp only [Option.bind_eq_bind, Option.bind_some, len_eI]
      rw [hr]
      simp only [Option.bind_some, e, Int.toNat_natCast, Nat.zero_add]
      rw [if_pos (by omega), if_pos (by omega), wnat1 (n := i) (by omega)]
    · simp only
      rw [V_set hz, V_take1 hx]
      grind
    · simp only
      rw [List.getElem?_set_ne (by omega), hsame _ (by omega)]
      exact h0 _ (by omega) hj2

theorem mul_eq {a b : List Int} (ha : Lim a) (hb : Lim b) (hn : a.length ≤ 1000000) (hm : b.length ≤ 1000000) : spec_l02Mul a b = some (L (V a * V b)) := by
  unfold spec_l02Mul
  simp only [len_eI]
  by_cases h1 : a = []
  · subst h1
    simp [V, L_zero]
  · by_cases h2 : b = []
    · subst h2
      simp [h1, V, L_zero]
    · obtain ⟨r, hr, h3, h4, h5⟩ := mul_loop3 ha hb hn hm
      have e : w64 ((a.length : Int) + (b.length : Int)) = ((a.length + b.length : Nat) : Int) := by rw [w64_eq (by omega) (by omega)]; rfl
      rw [if_neg (by simp [h1]), if_neg (by simp [h2]), e, if_pos (by omega), Int.toNat_natCast, hr]
      simp only [Option.bind_eq_bind, Option.bind_some]
      rw [l02Trim_eq h3 (by omega), h5]
      rfl

theorem times_L3_eq : impl_times_L3 = spec_l02Mul_L3 := rfl

theorem times_o_L3_eq : impl_times_o_L3 = spec_l02Mul_L3 := rfl

theorem times_eq {a b : List Int} (ha : Lim a) (hb : Lim b) (hn : a.length ≤ 1000000) (hm : b.length ≤ 1000000) : impl_times a b = some (L (V a * V b)) := by
  unfold impl_times
  simp only [len_eI]
  by_cases h1 : a = []
  · subst h1
    simp [V, L_zero]
  · by_cases h2 : b = []
    · subst h2
      simp [h1, V, L_zero]
    · obtain ⟨r, hr, h3, h4, h5⟩ := mul_loop3 ha hb hn hm
      have e : w64 ((a.length : Int) + (b.length : Int)) = ((a.length + b.length : Nat) : Int) := by rw [w64_eq (by omega) (by omega)]; rfl
      rw [if_neg (by simp [h1]), if_neg (by simp [h2]), e, if_pos (by omega), Int.toNat_natCast, times_L3_eq, hr]
      simp only [Option.bind_eq_bind, Option.bind_some]
      rw [trim_eq h3 (by omega), h5]
      rfl

theorem times_o_eq {a b : List Int} (ha : Lim a) (hb : Lim b) (h1 : a ≠ []) (h2 : b ≠ []) (hn : a.length ≤ 1000000) (hm : b.length ≤ 1000000) :
    ∃ k r, impl_times_o a b = some (k, r) ∧ k ≤ r.length ∧ r.length = a.length + b.length ∧ r.take k = L (V a * V b) ∧ Lim r := by
  obtain ⟨r, hr, h3, h4, h5⟩ := mul_loop3 ha hb hn hm
  obtain ⟨k, hk, h6, h7⟩ := trim_o_eq h3 (by omega)
  refine ⟨k, r, ?_, h6, h4, by rw [h7, h5], h3⟩
  unfold impl_times_o
  simp only [len_eI]
  have e : w64 ((a.length : Int) + (b.length : Int)) = ((a.length + b.length : Nat) : Int) := by rw [w64_eq (by omega) (by omega)]; rfl
  rw [if_neg (by simp [h1]), if_neg (by simp [h2]), e, if_pos (by omega), Int.toNat_natCast, times_o_L3_eq, hr]
  simp only [Option.bind_eq_bind, Option.bind_some]
  rw [hk]
  rfl

theorem wrapu {x : Int} (h1 : 0 ≤ x) (h2 : x < 18446744073709551616) : IntKind.wrap .u64 x = x := by
  simp only [IntKind.wrap, IntKind.signed, IntKind.bits]
  have : ((2 : Int) ^ 64) = 18446744073709551616 := by decide
  simp
  omega

theorem wrapi {x : Int} (h1 : -9223372036854775808 ≤ x) (h2 : x < 9223372036854775808) : IntKind.wrap .i64 x = x := w64_eq h1 h2

theorem Nf.snoc {l : List Int} {x : Int} (h : Lim l) (hx : 0 < x ∧ x < 1000000000) : Nf (l ++ [x]) := ⟨h.append (Lim.cons (by omega) Lim.nil), fun y hy => by
  rw [List.getLast?_append] at hy
  simp at hy
  omega⟩

/-- What writing a number comes to, for both. -/
theorem natOf_inv {N : Int} (hN : N < 18446744073709551616) {n : Int} {row : List Int} (h : 0 ≤ n ∧ Lim row ∧ V row + B row.length * n = N ∧ (n = 0 → Nf row) ∧ ((row.length = 0 ∧ n < 18446744073709551616) ∨ (row.length = 1 ∧ n < 20000000000) ∨ (row.length = 2 ∧ n < 20) ∨ (row.length = 3 ∧ n = 0))) (hn : 0 < n) :
    (fun (n : Int) (row : List Int) => 0 ≤ n ∧ Lim row ∧ V row + B row.length * n = N ∧ (n = 0 → Nf row) ∧ ((row.length = 0 ∧ n < 18446744073709551616) ∨ (row.length = 1 ∧ n < 20000000000) ∨ (row.length = 2 ∧ n < 20) ∨ (row.length = 3 ∧ n = 0))) (n / 1000000000) (row ++ [n % 1000000000]) := by
  obtain ⟨h0, h1, h2, h3, h4⟩ := h
  refine ⟨by omega, h1.append (Lim.cons (by omega) Lim.nil), ?_, fun h5 => Nf.snoc h1 (by omega), ?_⟩
  · rw [V_append, List.length_append, List.length_singleton, B_succ, V_cons, V_nil]
    have := Int.mul_ediv_add_emod n 1000000000
    generalize n / 1000000000 = u at *
    generalize n % 1000000000 = t at *
    grind
  · rw [List.length_append, List.length_singleton]
    omega

theorem natOf_eq {n : Int} (h : 0 ≤ n) (hn : n < 9223372036854775808) : spec_NatOf n = some (L n) := by
  have : ∃ r, iter (fun w : Int × List Int => spec_NatOf_L1_body w.1 w.2) (n, []) = some r ∧ r = L n := by
    refine iter_inv (I := fun w : Int × List Int => w.1 ≤ n ∧ 0 ≤ w.1 ∧ Lim w.2 ∧ V w.2 + B w.2.length * w.1 = n ∧ (w.1 = 0 → Nf w.2) ∧ ((w.2.length = 0 ∧ w.1 < 18446744073709551616) ∨ (w.2.length = 1 ∧ w.1 < 20000000000) ∨ (w.2.length = 2 ∧ w.1 < 20) ∨ (w.2.length = 3 ∧ w.1 = 0))) (m := fun w : Int × List Int => w.1.toNat) _ ?_ _ ⟨Int.le_refl _, h, Lim.nil, by simp [V, B], fun _ => Nf.nil, .inl ⟨rfl, by simp only; omega⟩⟩
    rintro ⟨m, row⟩ ⟨hm, hI⟩
    simp only at hm hI
    obtain ⟨h0, h1, h2, h3, h4⟩ := id hI
    by_cases hpos : 0 < m
    · have := natOf_inv (by omega) hI hpos
      refine .inl ⟨(m / 1000000000, row ++ [m % 1000000000]), ?_, ⟨by simp only; omega, this⟩, by simp only; omega⟩
      unfold spec_NatOf_L1_body
      rw [if_pos (by simp; omega), tm (by omega), td (by omega), if_pos (by simp; omega), w64_eq (by omega) (by omega)]
    · refine .inr ⟨row, by simp [spec_NatOf_L1_body, hpos], ?_⟩
      have hm0 : m = 0 := by omega
      refine L_eq (h3 hm0) ?_
      rw [hm0] at h2
      simpa using h2
  obtain ⟨r, hr, rfl⟩ := this
  unfold spec_NatOf spec_NatOf_L1
  rw [hr]
  rfl

theorem limbsOf_eq {n : Int} (h : 0 ≤ n) (hn : n < 18446744073709551616) : impl_limbsOf n = some (L n) := by
  have : ∃ r, iter (fun w : Int × List Int => impl_limbsOf_L1_body w.1 w.2) (n, []) = some r ∧ r = L n := by
    refine iter_inv (I := fun w : Int × List Int => w.1 ≤ n ∧ 0 ≤ w.1 ∧ Lim w.2 ∧ V w.2 + B w.2.length * w.1 = n ∧ (w.1 = 0 → Nf w.2) ∧ ((w.2.length = 0 ∧ w.1 < 18446744073709551616) ∨ (w.2.length = 1 ∧ w.1 < 20000000000) ∨ (w.2.length = 2 ∧ w.1 < 20) ∨ (w.2.length = 3 ∧ w.1 = 0))) (m := fun w : Int × List Int => w.1.toNat) _ ?_ _ ⟨Int.le_refl _, h, Lim.nil, by simp [V, B], fun _ => Nf.nil, .inl ⟨rfl, by simp only; omega⟩⟩
    rintro ⟨m, row⟩ ⟨hm, hI⟩
    simp only at hm hI
    obtain ⟨h0, h1, h2, h3, h4⟩ := id hI
    by_cases hpos : 0 < m
    · have := natOf_inv (by omega) hI hpos
      refine .inl ⟨(m / 1000000000, row ++ [m % 1000000000]), ?_, ⟨by simp only; omega, this⟩, by simp only; omega⟩
      unfold impl_limbsOf_L1_body
      rw [if_pos (by simp; omega), tm (by omega), td (by omega), wrapi (x := m % 1000000000) (by omega) (by omega), if_pos (by simp; omega), wrapu (by omega) (by omega)]
    · refine .inr ⟨row, by simp [impl_limbsOf_L1_body, hpos], ?_⟩
      have hm0 : m = 0 := by omega
      refine L_eq (h3 hm0) ?_
      rw [hm0] at h2
      simpa using h2
  obtain ⟨r, hr, rfl⟩ := this
  unfold impl_limbsOf impl_limbsOf_L1
  rw [hr]
  rfl

def limb (x : Int) : Bool := decide (0 ≤ x) && decide (x < 1000000000)

theorem lim_all (l : List Int) : l.all limb = true ↔ Lim l := by
  simp [limb, Lim]

theorem natOk_last {a : List Int} (h : a ≠ []) : ∃ x, a[a.length - 1]? = some x ∧ (Nf a ↔ Lim a ∧ x ≠ 0) := by
  have hp := List.length_pos_iff.mpr h
  refine ⟨a[a.length - 1], List.getElem?_eq_getElem (by omega), ?_⟩
  have e : a.getLast? = some a[a.length - 1] := by rw [List.getLast?_eq_getElem?]; exact List.getElem?_eq_getElem (by omega)
  constructor
  · exact fun h => ⟨h.1, h.2 _ e⟩
  · refine fun h => ⟨h.1, fun x hx => ?_⟩
    rw [e] at hx
    rw [← Option.some.inj hx]
    exact h.2

theorem wlast {a : List Int} (h : a ≠ []) (hm : (a.length : Int) < 9223372036854775807) : w64 ((a.length : Int) - 1) = ((a.length - 1 : Nat) : Int) := by
  have hp := List.length_pos_iff.mpr h
  rw [w64_eq (by omega) (by omega)]
  omega

theorem l01In_limb (x : Int) : spec_l01In x 0 999999999 = some (limb x) := by
  unfold spec_l01In limb
  by_cases h : 0 ≤ x
  · simp [h]; omega
  · simp [h]

theorem spec_natOk {a : List Int} (hm : (a.length : Int) < 9223372036854775807) : ∃ ok, spec_NatOk a = some ok ∧ (ok = true ↔ Nf a ∧ a.length ≤ 60) := by
  have h1 : iter (fun w : Int => spec_NatOk_L1_body a a.length w) 0 = some (if a.all limb then .inl () else .inr ()) := by
    refine iter_all a limb (fun n x hx => ?_) (by simp [spec_NatOk_L1_body])
    have := lt_of_get hx
    unfold spec_NatOk_L1_body
    rw [if_pos (by simp; omega), if_pos (by omega), Int.toNat_natCast, hx]
    simp only [Option.bind_eq_bind, Option.bind_some, l01In_limb]
    rw [i1 (by omega)]
    cases limb x <;> rfl
  unfold spec_NatOk spec_NatOk_L1
  simp only [len_eI]
  rw [h1]
  by_cases hL : a.all limb = true
  · have hlim := (lim_all a).1 hL
    simp only [hL, if_true, Option.bind_eq_bind, Option.bind_some]
    by_cases h60 : a.length ≤ 60
    · rw [if_pos (by simp; omega)]
      by_cases h0 : a = []
      · subst h0
        exact ⟨true, rfl, by simp [Nf.nil]⟩
      · obtain ⟨x, hx, hn⟩ := natOk_last h0
        have hp := List.length_pos_iff.mpr h0
        rw [if_neg (by simp [h0]), wlast h0 hm, if_pos (by omega), Int.toNat_natCast, hx]
        refine ⟨_, rfl, ?_⟩
        rw [hn]
        simp [hlim, h60]
    · rw [if_neg (by simp; omega)]
      exact ⟨false, rfl, by simp; omega⟩
  · have hlim : ¬ Lim a := fun h => hL ((lim_all a).2 h)
    simp only [Bool.not_eq_true] at hL
    refine ⟨false, by simp [hL], ?_⟩
    simp only [Bool.false_eq_true, false_iff]
    exact fun h => hlim h.1.1

theorem natOk_1_eq (x : Int) : impl_NatOk_1 x = some (!limb x) := by
  unfold impl_NatOk_1 limb
  by_cases h : x < 0
  · simp [h]
  · rw [if_neg (by simp [h])]
    congr 1
    rw [Bool.eq_iff_iff]
    simp
    omega

theorem containsNat {a : List Int} (hm : (a.length : Int) < 9223372036854775807) : s_ContainsFunc_impl_NatOk_1 a = some (!(a.all limb)) := by
  obtain ⟨r, hr, h⟩ := iter_find (f := fun w : Int => s_IndexFunc_impl_NatOk_1_L1_body a a.length w) a (fun x => !limb x) (fun n x hx => by
    have := lt_of_get hx
    unfold s_IndexFunc_impl_NatOk_1_L1_body
    rw [if_pos (by simp; omega), if_pos (by omega), Int.toNat_natCast, hx]
    simp only [Option.bind_eq_bind, Option.bind_some, natOk_1_eq]
    rw [i1 (by omega)]
    cases limb x <;> rfl) (by simp [s_IndexFunc_impl_NatOk_1_L1_body])
  have e : a.any (fun x => !limb x) = !(a.all limb) := by rw [List.not_all_eq_any_not]
  rw [e] at h
  unfold s_ContainsFunc_impl_NatOk_1 s_IndexFunc_impl_NatOk_1 s_IndexFunc_impl_NatOk_1_L1
  simp only [len_eI]
  rw [hr]
  rcases h with ⟨k, rfl, hk, h⟩ | ⟨rfl, h⟩
  · simp only [Option.bind_eq_bind, Option.bind_some]
    rw [h]
    simp [hk]
  · simp only [Option.bind_eq_bind, Option.bind_some]
    rw [h]
    rfl

theorem impl_natOk {a : List Int} (hm : (a.length : Int) < 9223372036854775807) : ∃ ok, impl_NatOk a = some ok ∧ (ok = true ↔ Nf a ∧ a.length ≤ 60) := by
  unfold impl_NatOk
  simp only [len_eI]
  by_cases h60 : 60 < a.length
  · rw [if_pos (by simp; omega)]
    exact ⟨false, rfl, by simp; omega⟩
  · rw [if_neg (by simp; omega)]
    by_cases h0 : a = []
    · subst h0
      exact ⟨true, by simp [containsNat], by simp [Nf.nil]⟩
    · obtain ⟨x, hx, hn⟩ := natOk_last h0
      have hp := List.length_pos_iff.mpr h0
      rw [if_pos (by simp; omega), wlast h0 hm, if_pos (by omega), Int.toNat_natCast, hx]
      simp only [Option.bind_eq_bind, Option.bind_some]
      rw [hn]
      by_cases hx0 : x = 0
      · exact ⟨false, by simp [hx0], by simp [hx0]⟩
      · rw [if_neg (by simp [hx0]), containsNat hm]
        refine ⟨_, rfl, ?_⟩
        rw [← lim_all]
        simp [hx0]
        omega

theorem natOk_both {a : List Int} (hm : (a.length : Int) < 9223372036854775807) : ∃ ok, spec_NatOk a = some ok ∧ impl_NatOk a = some ok ∧ (ok = true ↔ Nf a ∧ a.length ≤ 60) := by
  obtain ⟨o1, h1, h2⟩ := spec_natOk hm
  obtain ⟨o2, h3, h4⟩ := impl_natOk hm
  have : o2 = o1 := Bool.eq_iff_iff.mpr (h4.trans h2.symm)
  exact ⟨o1, h1, this ▸ h3, h2⟩

/-- A number read. -/
theorem natToInt_eq {a : List Int} (ha : Nf a) (h60 : a.length ≤ 60) (hv : V a < 9223372036854775808) : spec_NatToInt a = some (V a, true) := by
  obtain ⟨ok, h1, h2⟩ := spec_natOk (a := a) (by omega)
  have hok : ok = true := h2.2 ⟨ha, h60⟩
  subst hok
  have hc : Nf [854775807, 223372036, 9] := ⟨by intro x hx; simp at hx; omega, by simp⟩
  have hcv : V [854775807, 223372036, 9] = 9223372036854775807 := by decide
  unfold spec_NatToInt
  rw [h1]
  simp only [Option.bind_eq_bind, Option.bind_some, if_true]
  rw [cmp_eq ha hc (by omega), hcv]
  have : ∃ r, iter (fun w : Int × Int => spec_NatToInt_L1_body a w.1 w.2) (0, (a.length : Int) - 1) = some r ∧ r = V a := by
    refine iter_inv (I := fun w : Int × Int => ∃ k : Nat, w.2 = (k : Int) - 1 ∧ k ≤ a.length ∧ w.1 = V (a.drop k)) (m := fun w : Int × Int => (w.2 + 1).toNat) _ ?_ _ ⟨a.length, rfl, by omega, by simp [V]⟩
    rintro ⟨n, i⟩ ⟨k, h3, hk, h4⟩
    simp only at h3 h4
    subst h3 h4
    cases k with
    | zero => exact .inr ⟨V a, by simp [spec_NatToInt_L1_body], rfl⟩
    | succ k =>
      have hx := List.getElem?_eq_getElem (show k < a.length by omega)
      have hx0 := ha.1.get hx
      have h5 := V_drop1 hx
      have h6 := V_nonneg (ha.1.drop (k + 1))
      have h7 : V (a.drop k) ≤ V a := by
        have h8 := V_split (l := a) (n := k) (by omega)
        have h9 := V_nonneg (ha.1.take k)
        have h10 := V_nonneg (ha.1.drop k)
        have h11 : 1 * V (a.drop k) ≤ B k * V (a.drop k) := Int.mul_le_mul_of_nonneg_right (B_pos k) h10
        omega
      refine .inl ⟨(V (a.drop k), (k : Int) - 1), ?_, ⟨k, rfl, by omega, rfl⟩, by simp only; omega⟩
      unfold spec_NatToInt_L1_body
      rw [show ((k + 1 : Nat) : Int) - 1 = k by omega, if_pos (by simp), if_pos (by omega), Int.toNat_natCast, hx]
      simp only [Option.bind_eq_bind, Option.bind_some]
      rw [wpred (by omega), w64_eq (x := V (a.drop (k + 1)) * 1000000000) (by omega) (by omega), w64_eq (by omega) (by omega), h5]
      congr 3
      omega
  obtain ⟨r, hr, rfl⟩ := this
  unfold cmp3 spec_NatToInt_L1
  simp only [len_eI]
  rw [wpred (by omega), hr]
  have h3 : ¬ (9223372036854775807 : Int) < V a := by omega
  by_cases h4 : V a < 9223372036854775807 <;> simp [h3, h4]

theorem sub_body {a b row : List Int} {less x : Int} {i : Nat} (hb : Lim b) (hx : a[i]? = some x) (hx0 : 0 ≤ x ∧ x < 1000000000) (hl : less = 0 ∨ less = 1) (hn : a.length ≤ 1000000) (hm : b.length ≤ 1000000) (hr : row.length ≤ 1000000) :
    ∃ y, 0 ≤ y ∧ y < 1000000000 ∧ (∀ z, b[i]? = some z → y = z) ∧ (b[i]? = none → y = 0) ∧
    spec_l02Sub_L1_body a b a.length less i row = some (.inl (if x - less - y < 0 then (1, ((i + 1 : Nat) : Int), row ++ [x - less - y + 1000000000]) else (0, ((i + 1 : Nat) : Int), row ++ [x - less - y]))) := by
  have hi := lt_of_get hx
  unfold spec_l02Sub_L1_body
  rw [if_pos (by simp; omega), if_pos (by omega), Int.toNat_natCast, hx]
  simp only [Option.bind_eq_bind, Option.bind_some, len_eI]
  by_cases hib : i < b.length
  · have hy := List.getElem?_eq_getElem hib
    have hy0 := hb.get hy
    refine ⟨b[i], hy0.1, hy0.2, fun z hz => by rw [hy] at hz; exact Option.some.inj hz, fun h => by rw [hy] at h; simp at h, ?_⟩
    rw [if_pos (by simp; omega), if_pos (by omega), hy]
    simp only [Option.bind_some]
    rw [w64_eq (x := x - less) (by omega) (by omega), w64_eq (x := x - less - b[i]) (by omega) (by omega), wnat1 (n := i) (by omega), w64_eq (x := x - less - b[i] + 1000000000) (by omega) (by omega)]
    by_cases h : x - less - b[i] < 0
    · rw [if_pos (by simp [h]), if_pos (by simp; omega)]
      simp [h]
    · rw [if_neg (by simp [h]), if_pos (by simp; omega)]
      simp [h]
  · have hy : b[i]? = none := by simp; omega
    refine ⟨0, by omega, by omega, fun z hz => by rw [hy] at hz; simp at hz, fun _ => rfl, ?_⟩
    rw [if_neg (by simp; omega), w64_eq (x := x - less) (by omega) (by omega), wnat1 (n := i) (by omega), w64_eq (x := x - less + 1000000000) (by omega) (by omega), Int.sub_zero]
    by_cases h : x - less < 0
    · rw [if_pos (by simp [h]), if_pos (by simp; omega)]
      simp [h]
    · rw [if_neg (by simp [h]), if_pos (by simp; omega)]
      simp [h]

theorem V_take1' {b : List Int} {i : Nat} {y : Int} (h1 : ∀ z, b[i]? = some z → y = z) (h2 : b[i]? = none → y = 0) : V (b.take (i + 1)) = V (b.take i) + B i * y := by
  cases h : b[i]? with
  | some z => rw [h1 z h, V_take1 h]
  | none =>
    rw [h2 h]
    have : b.length ≤ i := by simpa using h
    rw [List.take_of_length_le (by omega), List.take_of_length_le (by omega)]
    simp

theorem sub_eq {a b : List Int} (ha : Lim a) (hb : Lim b) (hlen : b.length ≤ a.length) (hab : V b ≤ V a) (hn : a.length ≤ 1000000) : spec_l02Sub a b = some (L (V a - V b)) := by
  have : ∃ r, iter (fun w : Int × Int × List Int => spec_l02Sub_L1_body a b a.length w.1 w.2.1 w.2.2) (0, 0, []) = some r ∧ Lim r ∧ r.length = a.length ∧ V r = V a - V b := by
    refine iter_inv (I := fun w : Int × Int × List Int => ∃ i : Nat, w.2.1 = i ∧ i ≤ a.length ∧ (w.1 = 0 ∨ w.1 = 1) ∧ Lim w.2.2 ∧ w.2.2.length = i ∧ V w.2.2 - w.1 * B i = V (a.take i) - V (b.take i)) (m := fun w : Int × Int × List Int => a.length - w.2.1.toNat) _ ?_ _ ⟨0, rfl, by omega, .inl rfl, Lim.nil, rfl, by simp [V]⟩
    rintro ⟨less, ii, row⟩ ⟨i, h1, hi, hl, hlr, hrl, hv⟩
    simp only at h1 hl hlr hrl hv ⊢
    subst h1
    by_cases hia : i = a.length
    · refine .inr ⟨row, by simp [spec_l02Sub_L1_body, hia], hlr, by omega, ?_⟩
      rw [hia] at hv
      rw [List.take_length, List.take_of_length_le hlen] at hv
      have h2 := V_lt hlr
      rw [hrl, hia] at h2
      rcases hl with rfl | rfl <;> omega
    · have hx := List.getElem?_eq_getElem (show i < a.length by omega)
      have hx0 := ha.get hx
      obtain ⟨y, hy1, hy2, hy3, hy4, he⟩ := sub_body (row := row) hb hx hx0 hl hn (by omega) (by omega)
      rw [he]
      refine .inl ⟨_, rfl, ?_⟩
      have h3 := V_take1 hx
      have h4 := V_take1' hy3 hy4
      by_cases h : a[i] - less - y < 0
      · rw [if_pos h]
        refine ⟨⟨i + 1, rfl, by omega, .inr rfl, hlr.append (Lim.cons (by omega) Lim.nil), by simp [hrl], ?_⟩, by simp only; omega⟩
        simp only
        rw [h3, h4, V_append, hrl, B_succ, V_cons, V_nil]
        grind
      · rw [if_neg h]
        refine ⟨⟨i + 1, rfl, by omega, .inl rfl, hlr.append (Lim.cons (by omega) Lim.nil), by simp [hrl], ?_⟩, by simp only; omega⟩
        simp only
        rw [h3, h4, V_append, hrl, V_cons, V_nil]
        grind
  obtain ⟨r, hr, h1, h2, h3⟩ := this
  unfold spec_l02Sub spec_l02Sub_L1
  simp only [len_eI]
  rw [hr]
  simp only [Option.bind_eq_bind, Option.bind_some]
  rw [l02Trim_eq h1 (by omega), h3]
  rfl

/-- The upper limbs: what they say of the whole. -/
theorem top_bounds {l : List Int} (h : Lim l) {k : Nat} (hk : k ≤ l.length) : B k * V (l.drop k) ≤ V l ∧ V l < B k * (V (l.drop k) + 1) := by
  have h1 := V_split hk
  have h2 := V_nonneg (h.take k)
  have h3 := V_lt (h.take k)
  rw [List.length_take, Nat.min_eq_left hk] at h3
  rw [Int.mul_add, Int.mul_one]
  omega

theorem V_single {l : List Int} {k : Nat} {x : Int} (hx : l[k]? = some x) (hl : l.length = k + 1) : V (l.drop k) = x := by
  rw [V_drop1 hx, List.drop_of_length_le (by omega)]
  simp [V]

theorem digit_bounds {R W t d P : Int} (hP : 1 ≤ P) (hR1 : P * t ≤ R) (hR2 : R < P * (t + 1)) (hW1 : P * d ≤ W) (hW2 : W < P * (d + 1)) (hd : 0 < d) (ht : 0 ≤ t) (hRW : R < 1000000000 * W) : t / (d + 1) ≤ R / W ∧ R / W ≤ t / d ∧ R / W ≤ 999999999 := by
  have hW : 0 < W := by
    have := Int.mul_pos (a := P) (b := d) (by omega) hd
    omega
  have hR : 0 ≤ R := by
    have := Int.mul_nonneg (a := P) (b := t) (by omega) ht
    omega
  refine ⟨?_, ?_, ?_⟩
  · apply (Int.le_ediv_iff_mul_le hW).2
    have h1 : t / (d + 1) * (d + 1) ≤ t := Int.ediv_mul_le _ (by omega)
    have h2 : 0 ≤ t / (d + 1) := Int.ediv_nonneg ht (by omega)
    have h3 : t / (d + 1) * W ≤ t / (d + 1) * (P * (d + 1)) := Int.mul_le_mul_of_nonneg_left (by omega) h2
    have h4 : P * (t / (d + 1) * (d + 1)) ≤ P * t := Int.mul_le_mul_of_nonneg_left h1 (by omega)
    have h5 : t / (d + 1) * (P * (d + 1)) = P * (t / (d + 1) * (d + 1)) := by grind
    omega
  · apply (Int.le_ediv_iff_mul_le hd).2
    have h1 : R / W * W ≤ R := Int.ediv_mul_le _ (by omega)
    have h2 : 0 ≤ R / W := Int.ediv_nonneg hR (by omega)
    have h3 : R / W * (P * d) ≤ R / W * W := Int.mul_le_mul_of_nonneg_left hW1 h2
    have h4 : R / W * (P * d) = P * (R / W * d) := by grind
    have h5 : P * (R / W * d) < P * (t + 1) := by omega
    have := Int.lt_of_mul_lt_mul_left h5 (by omega)
    omega
  · have := Int.ediv_lt_of_lt_mul hW hRW
    omega

theorem cmp3_le {a b : Int} : cmp3 a b ≤ 0 ↔ a ≤ b := by
  unfold cmp3
  by_cases h : a < b
  · simp [h]; omega
  · by_cases h2 : b < a
    · simp [h, h2]
    · simp [h, h2]; omega

theorem cmp3_lt {a b : Int} : cmp3 a b < 0 ↔ a < b := by
  unfold cmp3
  by_cases h : a < b
  · simp [h]
  · by_cases h2 : b < a
    · simp [h, h2]
    · simp [h, h2]

theorem cmp3_pos {a b : Int} : 0 < cmp3 a b ↔ b < a := by
  unfold cmp3
  by_cases h : a < b
  · simp [h]; omega
  · by_cases h2 : b < a
    · simp [h, h2]
    · simp [h, h2]

theorem cmp3_zero {a b : Int} : cmp3 a b = 0 ↔ a = b := by
  unfold cmp3
  by_cases h : a < b
  · simp [h]; omega
  · by_cases h2 : b < a
    · simp [h, h2]; omega
    · simp [h, h2]; omega

theorem digit_loop {r b : List Int} (hr : Nf r) (hb : Nf b) (hb0 : b ≠ []) (hn : r.length ≤ 1000000) (hm : b.length ≤ 1000000) {lo hi : Int} (h0 : 0 ≤ lo) (h1 : lo ≤ V r / V b) (h2 : V r / V b ≤ hi) (h3 : hi ≤ 999999999) : spec_l02Digit_L1 r b lo hi = some (V r / V b) := by
  have hbp := V_pos hb hb0
  have : ∃ q, iter (fun w : Int × Int => spec_l02Digit_L1_body r b w.1 w.2) (lo, hi) = some q ∧ q = V r / V b := by
    refine iter_inv (I := fun w : Int × Int => 0 ≤ w.1 ∧ w.1 ≤ V r / V b ∧ V r / V b ≤ w.2 ∧ w.2 ≤ 999999999) (m := fun w : Int × Int => (w.2 - w.1).toNat) _ ?_ _ ⟨h0, h1, h2, h3⟩
    rintro ⟨l, h⟩ ⟨g0, g1, g2, g3⟩
    simp only at g0 g1 g2 g3
    by_cases hlt : l < h
    · have e1 : w64 ((w64 ((w64 (l + h)) + (1 : Int))).tdiv (2 : Int)) = (l + h + 1) / 2 := by
        rw [w64_eq (x := l + h) (by omega) (by omega), w64_eq (x := l + h + 1) (by omega) (by omega), td (by omega), w64_eq (by omega) (by omega)]
      have hm0 : 0 ≤ (l + h + 1) / 2 := by omega
      have hm1 : (l + h + 1) / 2 < 1000000000 := by omega
      have hlm : (L ((l + h + 1) / 2)).length ≤ 1 := (L_len hm0).2 (by simpa [B] using hm1)
      have e2 : spec_l02Digit_L1_body r b l h = some (.inl (if V b * ((l + h + 1) / 2) ≤ V r then ((l + h + 1) / 2, h) else (l, (l + h + 1) / 2 - 1))) := by
        unfold spec_l02Digit_L1_body
        rw [if_pos (by simp [hlt]), e1, natOf_eq hm0 (by omega)]
        simp only [Option.bind_eq_bind, Option.bind_some]
        rw [mul_eq hb.1 (L_lim _) hm (by omega), V_L hm0]
        simp only [Option.bind_some]
        have hp : 0 ≤ V b * ((l + h + 1) / 2) := Int.mul_nonneg (by omega) hm0
        have hlen : (L (V b * ((l + h + 1) / 2))).length ≤ b.length + 1 := (L_len hp).2 (by
          rw [B_succ]
          have h5 := V_lt hb.1
          have : V b * ((l + h + 1) / 2) ≤ V b * 1000000000 := Int.mul_le_mul_of_nonneg_left (by omega) (by omega)
          omega)
        rw [cmp_eq (L_can _) hr (by omega), V_L hp]
        simp only [Option.bind_some]
        by_cases hc : V b * ((l + h + 1) / 2) ≤ V r
        · rw [if_pos (by simpa using cmp3_le.2 hc), if_pos hc]
        · rw [if_neg (fun h => hc (cmp3_le.1 (by simpa using h))), if_neg hc, w64_eq (by omega) (by omega)]
      rw [e2]
      refine .inl ⟨_, rfl, ?_⟩
      by_cases hc : V b * ((l + h + 1) / 2) ≤ V r
      · rw [if_pos hc]
        have : (l + h + 1) / 2 ≤ V r / V b := (Int.le_ediv_iff_mul_le hbp).2 (by rw [Int.mul_comm]; exact hc)
        exact ⟨⟨by simp only; omega, this, g2, g3⟩, by simp only; omega⟩
      · rw [if_neg hc]
        have : V r / V b < (l + h + 1) / 2 := (Int.ediv_lt_iff_lt_mul hbp).2 (by rw [Int.mul_comm]; omega)
        exact ⟨⟨g0, g1, by simp only; omega, by simp only; omega⟩, by simp only; omega⟩
    · exact .inr ⟨l, by simp [spec_l02Digit_L1_body, hlt], by omega⟩
  obtain ⟨q, hq, rfl⟩ := this
  exact hq

theorem nf_top {b : List Int} (hb : Nf b) (hb0 : b ≠ []) : ∃ k d, b.length = k + 1 ∧ b[k]? = some d ∧ 0 < d ∧ d < 1000000000 ∧ V (b.drop k) = d := by
  have hp := List.length_pos_iff.mpr hb0
  obtain ⟨x, hx, h⟩ := natOk_last hb0
  have h1 := h.1 hb
  have h2 := h1.1.get hx
  exact ⟨b.length - 1, x, by omega, hx, by omega, h2.2, V_single hx (by omega)⟩

theorem digit_eq {r b : List Int} (hr : Nf r) (hb : Nf b) (hb0 : b ≠ []) (hn : r.length ≤ 1000000) (hm : b.length ≤ 1000000) (h1 : V b ≤ V r) (h2 : V r < 1000000000 * V b) : spec_l02Digit r b = some (V r / V b) := by
  obtain ⟨k, d, hk, hd, hd0, hd1, hdv⟩ := nf_top hb hb0
  have hlo : b.length ≤ r.length := Nat.le_of_not_lt fun h => by
    have := cmp_len hr hb h
    omega
  have hhi : r.length ≤ b.length + 1 := hr.len.2 (by
    have := V_lt hb.1
    rw [B_succ]
    omega)
  have hb1 := top_bounds hb.1 (k := k) (by omega)
  rw [hdv] at hb1
  have hr1 := top_bounds hr.1 (k := k) (by omega)
  have hx := List.getElem?_eq_getElem (show k < r.length by omega)
  have hx0 := hr.1.get hx
  have hw : w64 ((b.length : Int) - 1) = (k : Int) := by rw [w64_eq (by omega) (by omega)]; omega
  have ht0 := V_nonneg (hr.1.drop k)
  have hdb := digit_bounds (B_pos k) hr1.1 hr1.2 hb1.1 hb1.2 hd0 ht0 h2
  have hV0 := V_nonneg hr.1
  have hW := V_pos hb hb0
  unfold spec_l02Digit
  simp only [len_eI, hw]
  rw [if_pos (by omega), Int.toNat_natCast, hx]
  simp only [Option.bind_eq_bind, Option.bind_some]
  by_cases hlen : b.length < r.length
  · have hy := List.getElem?_eq_getElem hlen
    have hy0 := hr.1.get hy
    have hy' : V (r.drop (k + 1)) = r[b.length] := by
      rw [← hk]
      exact V_single hy (by omega)
    have ht : V (r.drop k) = r[k] + 1000000000 * r[b.length] := by rw [V_drop1 hx, hy']
    rw [ht] at hdb ht0
    have hq0 : 0 ≤ (r[k] + 1000000000 * r[b.length]) / (d + 1) := Int.ediv_nonneg ht0 (by omega)
    have hq1 : (r[k] + 1000000000 * r[b.length]) / (d + 1) ≤ r[k] + 1000000000 * r[b.length] := Int.ediv_le_self _ ht0
    have hq2 : 0 ≤ (r[k] + 1000000000 * r[b.length]) / d := Int.ediv_nonneg ht0 (by omega)
    have hq3 : (r[k] + 1000000000 * r[b.length]) / d ≤ r[k] + 1000000000 * r[b.length] := Int.ediv_le_self _ ht0
    rw [if_pos (by simp; omega), if_pos (by omega), Int.toNat_natCast, hy]
    simp only [Option.bind_some]
    rw [if_pos (by omega), hd]
    simp only [Option.bind_some]
    have e1 : w64 (d + 1) = d + 1 := w64_eq (by omega) (by omega)
    have e2 : w64 (r[k] + w64 (r[b.length] * 1000000000)) = r[k] + 1000000000 * r[b.length] := by
      rw [w64_eq (x := r[b.length] * 1000000000) (by omega) (by omega), w64_eq (by omega) (by omega), Int.mul_comm]
    rw [e1, if_pos (by omega), if_pos (by omega), e2, td ht0, td ht0, w64_eq (by omega) (by omega), w64_eq (x := (r[k] + 1000000000 * r[b.length]) / d) (by omega) (by omega)]
    rw [digit_loop hr hb hb0 hn hm hq0 hdb.1 (by split <;> omega) (by split <;> omega)]
    rfl
  · have ht : V (r.drop k) = r[k] := V_single hx (by omega)
    rw [ht] at hdb ht0
    have hq0 : 0 ≤ r[k] / (d + 1) := Int.ediv_nonneg ht0 (by omega)
    have hq1 : r[k] / (d + 1) ≤ r[k] := Int.ediv_le_self _ ht0
    have hq2 : 0 ≤ r[k] / d := Int.ediv_nonneg ht0 (by omega)
    have hq3 : r[k] / d ≤ r[k] := Int.ediv_le_self _ ht0
    rw [if_neg (by simp; omega), if_pos (by omega), hd]
    simp only [Option.bind_some]
    have e1 : w64 (d + 1) = d + 1 := w64_eq (by omega) (by omega)
    rw [e1, if_pos (by omega), if_pos (by omega), td ht0, td ht0, w64_eq (by omega) (by omega), w64_eq (x := r[k] / d) (by omega) (by omega)]
    rw [digit_loop hr hb hb0 hn hm hq0 hdb.1 (by split <;> omega) (by split <;> omega)]
    rfl

theorem div_loop {a b : List Int} (ha : Nf a) (hb : Nf b) (hb0 : b ≠ []) (hn : a.length ≤ 900000) (hm : b.length ≤ 900000) :
    ∃ r, spec_l02Div_L1 a b [] ((a.length : Int) - 1) (List.replicate a.length 0) = some r ∧ r.1 = L (V a % V b) ∧ Lim r.2 ∧ r.2.length = a.length ∧ V r.2 = V a / V b := by
  have hbp := V_pos hb hb0
  refine iter_inv (I := fun w : List Int × Int × List Int => ∃ (k : Nat) (q : List Int), w.2.1 = (k : Int) - 1 ∧ k ≤ a.length ∧ w.2.2 = List.replicate k 0 ++ q ∧ q.length + k = a.length ∧ Lim q ∧ Nf w.1 ∧ V w.1 < V b ∧ V (a.drop k) = V q * V b + V w.1) (m := fun w : List Int × Int × List Int => (w.2.1 + 1).toNat) _ ?_ _ ⟨a.length, [], rfl, by omega, by simp, by simp, Lim.nil, Nf.nil, by simpa [V] using hbp, by simp [V]⟩
  rintro ⟨rest, i, row⟩ ⟨k, q, h1, hk, h2, hq, hlq, hr0, hr1, hv⟩
  simp only at h1 h2 hr0 hr1 hv ⊢
  subst h1 h2
  have hrn := V_nonneg hr0.1
  cases k with
  | zero =>
    simp at hv
    refine .inr ⟨(rest, q), by simp [spec_l02Div_L1_body], ?_, hlq, by simpa using hq, ?_⟩
    · refine L_eq hr0 ?_
      rw [hv, Int.add_comm, Int.add_mul_emod_self_right]
      exact (Int.emod_eq_of_lt hrn hr1).symm
    · rw [hv, Int.add_comm, Int.add_mul_ediv_right _ _ (by omega), Int.ediv_eq_zero_of_lt hrn hr1]
      simp
  | succ k =>
    have hx := List.getElem?_eq_getElem (show k < a.length by omega)
    have hx0 := ha.1.get hx
    have hrl : rest.length ≤ b.length := hr0.len.2 (by have := V_lt hb.1; omega)
    have hcl : Lim (a[k] :: rest) := Lim.cons hx0 hr0.1
    have hcv : V (a[k] :: rest) = a[k] + 1000000000 * V rest := V_cons _ _
    have hR0 : 0 ≤ a[k] + 1000000000 * V rest := by omega
    have hRl : (L (a[k] + 1000000000 * V rest)).length ≤ b.length + 1 := (L_len hR0).2 (by
      have := V_lt hb.1
      rw [B_succ]
      omega)
    have hd := V_drop1 hx
    have hbody : spec_l02Div_L1_body a b rest (k : Int) (List.replicate (k + 1) 0 ++ q) = some (.inl (if a[k] + 1000000000 * V rest < V b then (L (a[k] + 1000000000 * V rest), (k : Int) - 1, List.replicate (k + 1) 0 ++ q) else (L ((a[k] + 1000000000 * V rest) % V b), (k : Int) - 1, (List.replicate (k + 1) 0 ++ q).set k ((a[k] + 1000000000 * V rest) / V b)))) := by
      unfold spec_l02Div_L1_body
      rw [if_pos (by simp), if_pos (by omega), Int.toNat_natCast, hx]
      simp only [Option.bind_eq_bind, Option.bind_some, List.singleton_append]
      rw [if_pos (by simp; omega), l02Trim_eq hcl (by simp; omega), hcv]
      simp only [Option.bind_some]
      rw [cmp_eq (L_can _) hb (by omega), V_L hR0]
      simp only [Option.bind_some]
      by_cases hc : a[k] + 1000000000 * V rest < V b
      · rw [if_pos (by simpa using cmp3_lt.2 hc), if_pos hc, wpred (by omega)]
      · rw [if_neg (fun h => hc (cmp3_lt.1 (by simpa using h))), if_neg hc]
        have hlt : a[k] + 1000000000 * V rest < 1000000000 * V b := by omega
        rw [digit_eq (L_can _) hb hb0 (by omega) (by omega) (by rw [V_L hR0]; omega) (by rw [V_L hR0]; exact hlt), V_L hR0]
        simp only [Option.bind_some]
        have hq0 : 0 ≤ (a[k] + 1000000000 * V rest) / V b := Int.ediv_nonneg hR0 (by omega)
        have hq1 : (a[k] + 1000000000 * V rest) / V b < 1000000000 := Int.ediv_lt_of_lt_mul hbp hlt
        have hql : (L ((a[k] + 1000000000 * V rest) / V b)).length ≤ 1 := (L_len hq0).2 (by simpa [B] using hq1)
        have hm1 := Int.mul_ediv_add_emod (a[k] + 1000000000 * V rest) (V b)
        have hm2 := Int.emod_nonneg (a[k] + 1000000000 * V rest) (b := V b) (by omega)
        have hp0 : 0 ≤ V b * ((a[k] + 1000000000 * V rest) / V b) := Int.mul_nonneg (by omega) hq0
        rw [if_pos (by simp; omega), if_pos (by simp; omega), natOf_eq hq0 (by omega)]
        simp only [Option.bind_some]
        rw [mul_eq hb.1 (L_lim _) (by omega) (by omega), V_L hq0]
        simp only [Option.bind_some]
        rw [sub_eq (L_lim _) (L_lim _) ((L_len hp0).2 (by
          have := V_lt (L_lim (a[k] + 1000000000 * V rest))
          rw [V_L hR0] at this
          omega)) (by rw [V_L hR0, V_L hp0]; omega) (by omega), V_L hR0, V_L hp0]
        simp only [Option.bind_some]
        rw [wpred (by omega), Nat.zero_add]
        congr 4
        omega
    rw [show ((k + 1 : Nat) : Int) - 1 = k by omega, hbody]
    refine .inl ⟨_, rfl, ?_⟩
    by_cases hc : a[k] + 1000000000 * V rest < V b
    · rw [if_pos hc]
      refine ⟨⟨k, 0 :: q, rfl, by omega, ?_, by simp; omega, Lim.cons (by omega) hlq, L_can _, by rw [V_L hR0]; exact hc, ?_⟩, by simp⟩
      · simp only
        rw [List.replicate_succ', List.append_assoc]; rfl
      · simp only
        rw [hd, hv, V_cons, V_L hR0]
        grind
    · rw [if_neg hc]
      have hlt : a[k] + 1000000000 * V rest < 1000000000 * V b := by omega
      have hm2 := Int.emod_nonneg (a[k] + 1000000000 * V rest) (b := V b) (by omega)
      refine ⟨⟨k, (a[k] + 1000000000 * V rest) / V b :: q, rfl, by omega, rep_set _ _ _, by simp; omega, Lim.cons ⟨Int.ediv_nonneg hR0 (by omega), Int.ediv_lt_of_lt_mul hbp hlt⟩ hlq, L_can _, by rw [V_L hm2]; exact Int.emod_lt_of_pos _ hbp, ?_⟩, by simp⟩
      simp only
      rw [hd, hv, V_cons, V_L hm2]
      have hm1 := Int.mul_ediv_add_emod (a[k] + 1000000000 * V rest) (V b)
      generalize (a[k] + 1000000000 * V rest) / V b = u at *
      generalize (a[k] + 1000000000 * V rest) % V b = t at *
      grind

theorem div_eq {a b : List Int} (ha : Nf a) (hb : Nf b) (hb0 : b ≠ []) (hn : a.length ≤ 900000) (hm : b.length ≤ 900000) : spec_l02Div a b = some (L (V a / V b), L (V a % V b)) := by
  unfold spec_l02Div
  simp only [len_eI]
  by_cases h1 : b.length = 1
  · obtain ⟨k, d, hk, hd, hd0, hd1, hdv⟩ := nf_top hb hb0
    have hk0 : k = 0 := by omega
    subst hk0
    have hbv : V b = d := by simpa using hdv
    rw [if_pos (by simp [h1]), if_pos (by omega), hd]
    simp only [Option.bind_eq_bind, Option.bind_some]
    have hm1 := Int.emod_nonneg (V a) (b := d) (by omega)
    have hm2 := Int.emod_lt_of_pos (V a) hd0
    rw [small_eq ha.1 ⟨hd0, hd1⟩ (by omega)]
    simp only [Option.bind_some]
    rw [natOf_eq hm1 (by omega), hbv]
    rfl
  · obtain ⟨r, hr, e1, e2, e3, e4⟩ := div_loop ha hb hb0 hn hm
    rw [if_neg (by simp; omega), if_pos (by omega), wpred (by omega), Int.toNat_natCast, hr]
    simp only [Option.bind_eq_bind, Option.bind_some]
    rw [l02Trim_eq e2 (by omega), e4, e1]
    rfl

theorem gcd_step {x y : Int} (hx : 0 ≤ x) : Int.gcd y (x % y) = Int.gcd x y := by
  have := Nat.gcd_rec y.natAbs x.natAbs
  simp only [Int.gcd]
  rw [Nat.gcd_comm x.natAbs, this, Int.natAbs_emod_of_nonneg hx, Nat.gcd_comm]

theorem gcd_end {x : Int} (hx : 0 ≤ x) : (Int.gcd x 0 : Int) = x := by
  rw [Int.gcd_zero_right]; omega

theorem plain_eq {x y : Int} (hx : 0 ≤ x) (hy : 0 ≤ y) (hx1 : x < 9223372036854775808) (hy1 : y < 9223372036854775808) : spec_l02Plain x y = some (L (Int.gcd x y)) := by
  have : ∃ r, iter (fun w : Int × Int => spec_l02Plain_L1_body w.1 w.2) (x, y) = some r ∧ (r = (Int.gcd x y : Int) ∧ r < 9223372036854775808) := by
    refine iter_inv (I := fun w : Int × Int => 0 ≤ w.1 ∧ 0 ≤ w.2 ∧ w.1 < 9223372036854775808 ∧ w.2 < 9223372036854775808 ∧ Int.gcd w.1 w.2 = Int.gcd x y) (m := fun w : Int × Int => w.2.toNat) _ ?_ _ ⟨hx, hy, hx1, hy1, rfl⟩
    rintro ⟨u, v⟩ ⟨h1, h2, h3, h4, h5⟩
    simp only at h1 h2 h3 h4 h5
    by_cases hv : 0 < v
    · have h6 := Int.emod_nonneg u (b := v) (by omega)
      have h7 := Int.emod_lt_of_pos u hv
      refine .inl ⟨(v, u % v), ?_, ⟨h2, h6, h4, by simp only; omega, by rw [← h5]; exact gcd_step h1⟩, by simp only; omega⟩
      unfold spec_l02Plain_L1_body
      rw [if_pos (by simpa using hv), if_pos (by omega), tm h1]
    · have hv0 : v = 0 := by omega
      subst hv0
      refine .inr ⟨u, by simp [spec_l02Plain_L1_body], ?_, h3⟩
      rw [← h5, gcd_end h1]
  obtain ⟨r, hr, rfl, h⟩ := this
  unfold spec_l02Plain spec_l02Plain_L1
  rw [hr]
  simp only [Option.bind_eq_bind, Option.bind_some]
  rw [natOf_eq (by omega) h]
  rfl

theorem small2 {a : List Int} (ha : Nf a) (h : a.length < 3) : V a < 9223372036854775808 := by
  have h1 := V_lt ha.1
  have h2 := B_mono (m := a.length) (n := 2) (by omega)
  have h3 : B 2 = 1000000000000000000 := by decide
  omega

theorem gcd_eq {a b : List Int} (ha : Nf a) (hb : Nf b) (hn : a.length ≤ 900000) (hm : b.length ≤ 900000) : spec_l02Gcd a b = some (L (Int.gcd (V a) (V b))) := by
  have : ∃ r, iter (fun w : List Int × List Int => spec_l02Gcd_L1_body w.1 w.2) (a, b) = some r ∧ r.elim id id = L (Int.gcd (V a) (V b)) := by
    refine iter_inv (I := fun w : List Int × List Int => Nf w.1 ∧ Nf w.2 ∧ w.1.length ≤ 900000 ∧ w.2.length ≤ 900000 ∧ Int.gcd (V w.1) (V w.2) = Int.gcd (V a) (V b)) (m := fun w : List Int × List Int => (V w.2).toNat) _ ?_ _ ⟨ha, hb, hn, hm, rfl⟩
    rintro ⟨x, y⟩ ⟨h1, h2, h3, h4, h5⟩
    simp only at h1 h2 h3 h4 h5 ⊢
    have hx0 := V_nonneg h1.1
    have hy0 := V_nonneg h2.1
    by_cases hy : y = []
    · subst hy
      refine .inr ⟨.inl x, by simp [spec_l02Gcd_L1_body, len_eI], ?_⟩
      rw [← h5, V_nil, gcd_end hx0]
      exact (L_V h1).symm
    · have hyp := V_pos h2 hy
      have hly := List.length_pos_iff.mpr hy
      by_cases hs : x.length < 3 ∧ y.length < 3
      · refine .inr ⟨.inr (L (Int.gcd (V a) (V b))), ?_, rfl⟩
        unfold spec_l02Gcd_L1_body
        simp only [len_eI]
        rw [if_pos (by simp; omega), if_pos (by simp; omega), if_pos (by simp; omega), natToInt_eq h1 (by omega) (small2 h1 hs.1)]
        simp only [Option.bind_eq_bind, Option.bind_some]
        rw [natToInt_eq h2 (by omega) (small2 h2 hs.2)]
        simp only [Option.bind_some]
        rw [plain_eq hx0 hy0 (small2 h1 hs.1) (small2 h2 hs.2), h5]
        rfl
      · have hmn := Int.emod_nonneg (V x) (b := V y) (by omega)
        have hml := Int.emod_lt_of_pos (V x) hyp
        refine .inl ⟨(y, L (V x % V y)), ?_, ⟨h2, L_can _, h4, (L_len hmn).2 ?_, ?_⟩, ?_⟩
        · unfold spec_l02Gcd_L1_body
          simp only [len_eI]
          rw [if_pos (by simp; omega), div_eq h1 h2 hy h3 h4]
          by_cases hs1 : x.length < 3
          · rw [if_pos (by simp; omega), if_neg (by simp; omega)]
            rfl
          · rw [if_neg (by simp; omega)]
            rfl
        · have := V_lt h2.1
          have := B_mono h4
          omega
        · simp only
          rw [V_L hmn, ← h5]
          exact gcd_step hx0
        · simp only
          rw [V_L hmn]
          omega
  obtain ⟨r, hr, h⟩ := this
  unfold spec_l02Gcd spec_l02Gcd_L1
  rw [List.nil_append, List.nil_append, if_pos (by omega), if_pos (by omega), hr]
  cases r with
  | inl r => exact congrArg some h
  | inr r => exact congrArg some h

def LimE (p : Nat) (l : List Int) : Prop := ∀ i z, i ≠ p → l[i]? = some z → 0 ≤ z ∧ z < 1000000000

theorem LimE.set {p : Nat} {l : List Int} (h : LimE p l) {k : Nat} {x : Int} (hx : 0 ≤ x ∧ x < 1000000000) : LimE p (l.set k x) := fun i z hi hz => by
  by_cases hk : k = i
  · subst hk
    rw [List.getElem?_set] at hz
    simp only [if_true] at hz
    split at hz
    · rw [← Option.some.inj hz]; exact hx
    · simp at hz
  · rw [List.getElem?_set_ne hk] at hz
    exact h i z hi hz

theorem LimE.setp {p : Nat} {l : List Int} (h : LimE p l) {x : Int} : LimE p (l.set p x) := fun i z hi hz => by
  rw [List.getElem?_set_ne (fun h => hi h.symm)] at hz
  exact h i z hi hz

theorem Lim.toE {l : List Int} (h : Lim l) (p : Nat) : LimE p l := fun _ _ _ hz => h.get hz

theorem take_body {v row : List Int} {lo ulen i : Nat} {by_ carry x y : Int} (hx : v[i]? = some x) (hy : row[lo + i]? = some y) (hx0 : 0 ≤ x ∧ x < 1000000000) (hy0 : 0 ≤ y ∧ y < 1000000000) (hb : 0 ≤ by_ ∧ by_ < 1000000000) (hc : 0 ≤ carry ∧ carry < 1000000000) (hu : i < ulen) (hn : row.length ≤ 5000000) :
    ∃ c z, impl_take_o_L1_body lo ulen v by_ v.length carry i row = some (.inl (c, ((i + 1 : Nat) : Int), row.set (lo + i) z)) ∧ 0 ≤ c ∧ c < 1000000000 ∧ 0 ≤ z ∧ z < 1000000000 ∧ z - 1000000000 * c = y - by_ * x - carry := by
  have hi := lt_of_get hx
  have hj := lt_of_get hy
  obtain ⟨m1, m2⟩ := mul_bd hb hx0
  have e : w64 (w64 (y - w64 (by_ * x)) - carry) = y - by_ * x - carry := by
    rw [w64_eq (x := by_ * x) (by omega) (by omega), w64_eq (x := y - by_ * x) (by omega) (by omega), w64_eq (by omega) (by omega)]
  by_cases ht : y - by_ * x - carry < 0
  · refine ⟨(999999999 - (y - by_ * x - carry)) / 1000000000, y - by_ * x - carry + (999999999 - (y - by_ * x - carry)) / 1000000000 * 1000000000, ?_, by omega, by omega, by omega, by omega, by omega⟩
    unfold impl_take_o_L1_body
    rw [if_pos (by simp; omega), if_pos (by omega), Int.toNat_natCast, hx]
    simp only [Option.bind_eq_bind, Option.bind_some]
    rw [if_pos (by omega), hy]
    simp only [Option.bind_some, e]
    rw [if_pos (by simpa using ht), if_pos (by omega), wnat1 (n := i) (by omega), w64_eq (x := 999999999 - (y - by_ * x - carry)) (by omega) (by omega), td (by omega), w64_eq (x := (999999999 - (y - by_ * x - carry)) / 1000000000) (by omega) (by omega), w64_eq (x := (999999999 - (y - by_ * x - carry)) / 1000000000 * 1000000000) (by omega) (by omega), w64_eq (by omega) (by omega)]
  · refine ⟨0, y - by_ * x - carry, ?_, by omega, by omega, by omega, by omega, by omega⟩
    unfold impl_take_o_L1_body
    rw [if_pos (by simp; omega), if_pos (by omega), Int.toNat_natCast, hx]
    simp only [Option.bind_eq_bind, Option.bind_some]
    rw [if_pos (by omega), hy]
    simp only [Option.bind_some, e]
    rw [if_neg (by simpa using ht), if_pos (by omega), wnat1 (n := i) (by omega)]

theorem take_loop {v row : List Int} {lo ulen : Nat} {by_ : Int} (hv : Lim v) (hr : Lim row) (hb : 0 ≤ by_ ∧ by_ < 1000000000) (hu : v.length < ulen) (hl : lo + v.length < row.length) (hn : row.length ≤ 5000000) :
    ∃ r, impl_take_o_L1 lo ulen v by_ v.length 0 0 row = some r ∧ 0 ≤ r.1 ∧ r.1 < 1000000000 ∧ Lim r.2 ∧ r.2.length = row.length ∧ V r.2 = V row - by_ * B lo * V v + r.1 * B (lo + v.length) ∧ ∀ i, i < lo ∨ lo + v.length ≤ i → r.2[i]? = row[i]? := by
  refine iter_inv (I := fun w : Int × Int × List Int => ∃ (i : Nat), w.2.1 = (i : Int) ∧ i ≤ v.length ∧ 0 ≤ w.1 ∧ w.1 < 1000000000 ∧ Lim w.2.2 ∧ w.2.2.length = row.length ∧ V w.2.2 = V row - by_ * B lo * V (v.take i) + w.1 * B (lo + i) ∧ ∀ i, i < lo ∨ lo + v.length ≤ i → w.2.2[i]? = row[i]?) (m := fun w : Int × Int × List Int => v.length - w.2.1.toNat) _ ?_ _ ⟨0, rfl, by omega, by simp, by simp, hr, rfl, by simp [V], fun _ _ => rfl⟩
  rintro ⟨carry, ii, rw0⟩ ⟨i, h1, hi, hc0, hc1, hlr, hlen, hV, hsame⟩
  simp only at h1 hc0 hc1 hlr hlen hV hsame ⊢
  subst h1
  by_cases hie : i = v.length
  · subst hie
    exact .inr ⟨(carry, rw0), by simp [impl_take_o_L1_body], hc0, hc1, hlr, hlen, by simpa using hV, hsame⟩
  · have hx := List.getElem?_eq_getElem (show i < v.length by omega)
    have hy := List.getElem?_eq_getElem (show lo + i < rw0.length by omega)
    obtain ⟨c, z, he, c0, c1, z0, z1, hz⟩ := take_body (ulen := ulen) hx hy (hv.get hx) (hlr.get hy) hb ⟨hc0, hc1⟩ (by omega) (by omega)
    rw [he]
    refine .inl ⟨_, rfl, ⟨i + 1, rfl, by omega, c0, c1, hlr.set ⟨z0, z1⟩, by simpa using hlen, ?_, fun k hk => ?_⟩, by simp; omega⟩
    · simp only
      rw [V_set hy, V_take1 hx, hV, ← Nat.add_assoc, B_succ, B_add]
      have hz' : z = rw0[lo + i] - by_ * v[i] - carry + 1000000000 * c := by omega
      rw [hz']
      grind
    · simp only
      rw [List.getElem?_set_ne (by omega)]
      exact hsame k hk

theorem take_o {v row : List Int} {lo ulen : Nat} {by_ : Int} (hv : Lim v) (hr : Lim row) (hb : 0 ≤ by_ ∧ by_ < 1000000000) (hu : v.length < ulen) (hl : lo + v.length < row.length) (hn : row.length ≤ 5000000) :
    ∃ y row', impl_take_o v by_ lo ulen row = some (decide (y < 0), row') ∧ row'.length = row.length ∧ LimE (lo + v.length) row' ∧ row'[lo + v.length]? = some y ∧ -1000000000 < y ∧ y < 1000000000 ∧ V row' = V row - by_ * B lo * V v ∧ ∀ i, i < lo ∨ lo + v.length < i → row'[i]? = row[i]? := by
  obtain ⟨r, hr1, c0, c1, hlr, hlen, hV, hsame⟩ := take_loop hv hr hb hu hl hn
  have hx := List.getElem?_eq_getElem (show lo + v.length < r.2.length by omega)
  have hx0 := hlr.get hx
  refine ⟨r.2[lo + v.length] - r.1, r.2.set (lo + v.length) (r.2[lo + v.length] - r.1), ?_, by simpa using hlen, (Lim.toE hlr _).setp, ?_, by omega, by omega, ?_, fun i hi => ?_⟩
  · unfold impl_take_o
    simp only [len_eI]
    rw [hr1]
    simp only [Option.bind_eq_bind, Option.bind_some, Int.toNat_natCast]
    rw [if_pos (by omega), hx]
    simp only [Option.bind_some]
    rw [if_pos (by omega), w64_eq (by omega) (by omega), List.getElem?_set, if_pos rfl, if_pos (by omega)]
    rfl
  · rw [List.getElem?_set, if_pos rfl, if_pos (by omega)]
  · rw [V_set hx, hV]
    grind
  · rw [List.getElem?_set_ne (by omega)]
    exact hsame i (by omega)

theorem give_loop {v row : List Int} {lo ulen : Nat} (hv : Lim v) (hr : LimE (lo + v.length) row) (hu : v.length < ulen) (hl : lo + v.length < row.length) (hn : row.length ≤ 5000000) :
    ∃ r, impl_give_o_L1 lo ulen v v.length 0 0 row = some r ∧ 0 ≤ r.1 ∧ r.1 ≤ 1 ∧ LimE (lo + v.length) r.2 ∧ r.2.length = row.length ∧ V r.2 = V row + B lo * V v - r.1 * B (lo + v.length) ∧ ∀ i, i < lo ∨ lo + v.length ≤ i → r.2[i]? = row[i]? := by
  refine iter_inv (I := fun w : Int × Int × List Int => ∃ (i : Nat), w.2.1 = (i : Int) ∧ i ≤ v.length ∧ 0 ≤ w.1 ∧ w.1 ≤ 1 ∧ LimE (lo + v.length) w.2.2 ∧ w.2.2.length = row.length ∧ V w.2.2 = V row + B lo * V (v.take i) - w.1 * B (lo + i) ∧ ∀ i, i < lo ∨ lo + v.length ≤ i → w.2.2[i]? = row[i]?) (m := fun w : Int × Int × List Int => v.length - w.2.1.toNat) _ ?_ _ ⟨0, rfl, by omega, by simp, by simp, hr, rfl, by simp [V], fun _ _ => rfl⟩
  rintro ⟨carry, ii, rw0⟩ ⟨i, h1, hi, hc0, hc1, hlr, hlen, hV, hsame⟩
  simp only at h1 hc0 hc1 hlr hlen hV hsame ⊢
  subst h1
  by_cases hie : i = v.length
  · subst hie
    exact .inr ⟨(carry, rw0), by simp [impl_give_o_L1_body], hc0, hc1, hlr, hlen, by simpa using hV, hsame⟩
  · have hx := List.getElem?_eq_getElem (show i < v.length by omega)
    have hy := List.getElem?_eq_getElem (show lo + i < rw0.length by omega)
    have hx0 := hv.get hx
    have hy0 := hlr _ _ (by omega) hy
    have he : impl_give_o_L1_body lo ulen v v.length carry i rw0 = some (.inl ((rw0[lo + i] + v[i] + carry) / 1000000000, ((i + 1 : Nat) : Int), rw0.set (lo + i) ((rw0[lo + i] + v[i] + carry) % 1000000000))) := by
      unfold impl_give_o_L1_body
      rw [if_pos (by simp; omega), if_pos (by omega), Int.toNat_natCast, hx]
      simp only [Option.bind_eq_bind, Option.bind_some]
      rw [if_pos (by omega), hy]
      simp only [Option.bind_some]
      rw [if_pos (by omega), w64_eq (x := rw0[lo + i] + v[i]) (by omega) (by omega), w64_eq (x := rw0[lo + i] + v[i] + carry) (by omega) (by omega), tm (by omega), td (by omega), w64_eq (by omega) (by omega), wnat1 (n := i) (by omega)]
    rw [he]
    refine .inl ⟨_, rfl, ⟨i + 1, rfl, by omega, by simp only; omega, by simp only; omega, hlr.set (by omega), by simpa using hlen, ?_, fun k hk => ?_⟩, by simp; omega⟩
    · simp only
      rw [V_set hy, V_take1 hx, hV, ← Nat.add_assoc, B_succ, B_add]
      have := Int.mul_ediv_add_emod (rw0[lo + i] + v[i] + carry) 1000000000
      generalize (rw0[lo + i] + v[i] + carry) / 1000000000 = q at *
      generalize (rw0[lo + i] + v[i] + carry) % 1000000000 = t at *
      have hz' : t = rw0[lo + i] + v[i] + carry - 1000000000 * q := by omega
      rw [hz']
      grind
    · simp only
      rw [List.getElem?_set_ne (by omega)]
      exact hsame k hk

theorem give_o {v row : List Int} {lo ulen : Nat} {y : Int} (hv : Lim v) (hr : LimE (lo + v.length) row) (hu : v.length < ulen) (hl : lo + v.length < row.length) (hn : row.length ≤ 5000000) (hy : row[lo + v.length]? = some y) (hy0 : -1000000000 < y) (hy1 : y < 1000000000) :
    ∃ y' row', impl_give_o v lo ulen row = some row' ∧ row'.length = row.length ∧ LimE (lo + v.length) row' ∧ row'[lo + v.length]? = some y' ∧ V row' = V row + B lo * V v ∧ ∀ i, i < lo ∨ lo + v.length < i → row'[i]? = row[i]? := by
  obtain ⟨r, hr1, c0, c1, hlr, hlen, hV, hsame⟩ := give_loop hv hr hu hl hn
  have hx : r.2[lo + v.length]? = some y := by rw [hsame _ (by omega)]; exact hy
  refine ⟨y + r.1, r.2.set (lo + v.length) (y + r.1), ?_, by simpa using hlen, hlr.setp, ?_, ?_, fun i hi => ?_⟩
  · unfold impl_give_o
    simp only [len_eI]
    rw [hr1]
    simp only [Option.bind_eq_bind, Option.bind_some, Int.toNat_natCast]
    rw [if_pos (by omega), hx]
    simp only [Option.bind_some]
    rw [if_pos (by omega), w64_eq (by omega) (by omega)]
  · rw [List.getElem?_set, if_pos rfl, if_pos (by omega)]
  · rw [V_set hx, hV]
    grind
  · rw [List.getElem?_set_ne (by omega)]
    exact hsame i (by omega)

theorem guess_up {g q v1 v2 top u3 rest R W P : Int} (hP : 1 ≤ P) (hg : 0 ≤ g) (ht : g * v1 + rest = top) (hW1 : P * (v1 * 1000000000 + v2) ≤ W) (hR2 : R < P * (top * 1000000000 + u3 + 1)) (hqW : q * W ≤ R) (hW : 0 ≤ W) (h : rest * 1000000000 + u3 < g * v2) : q < g := by
  apply Int.not_le.mp
  intro hgq
  have h1 : g * W ≤ q * W := Int.mul_le_mul_of_nonneg_right hgq hW
  have h2 : g * (P * (v1 * 1000000000 + v2)) ≤ g * W := Int.mul_le_mul_of_nonneg_left hW1 hg
  have h3 : g * (P * (v1 * 1000000000 + v2)) = P * (g * (v1 * 1000000000 + v2)) := by grind
  have h4 : P * (g * (v1 * 1000000000 + v2)) < P * (top * 1000000000 + u3 + 1) := by omega
  have h5 := Int.lt_of_mul_lt_mul_left h4 (by omega)
  have h6 : g * (v1 * 1000000000 + v2) = 1000000000 * (g * v1) + g * v2 := by grind
  omega

theorem guess_end {g v1 v2 top u3 rest R W P : Int} (hP : 1 ≤ P) (hg : 0 ≤ g) (hg1 : g ≤ 999999999) (hv1 : 1 ≤ v1) (hv2 : 0 ≤ v2) (ht : g * v1 + rest = top) (hW1 : P * (v1 * 1000000000 + v2) ≤ W) (hW2 : W < P * (v1 * 1000000000 + v2 + 1)) (hR1 : P * (top * 1000000000 + u3) ≤ R) (h : g * v2 ≤ rest * 1000000000 + u3) : g ≤ R / W + 1 := by
  have hWp : P * 1000000000 ≤ W := by
    have h1 : P * 1000000000 ≤ P * (v1 * 1000000000 + v2) := Int.mul_le_mul_of_nonneg_left (by omega) (by omega)
    omega
  have h1 : g * W ≤ g * (P * (v1 * 1000000000 + v2 + 1)) := Int.mul_le_mul_of_nonneg_left (by omega) hg
  have h2 : g * (P * (v1 * 1000000000 + v2 + 1)) = P * (1000000000 * (g * v1) + g * v2 + g) := by grind
  have h3 : P * (1000000000 * (g * v1) + g * v2 + g) ≤ P * (top * 1000000000 + u3 + 999999999) := Int.mul_le_mul_of_nonneg_left (by omega) (by omega)
  have h4 : P * (top * 1000000000 + u3 + 999999999) = P * (top * 1000000000 + u3) + P * 999999999 := by grind
  have h5 : (g - 1) * W = g * W - W := by grind
  have : g - 1 ≤ R / W := (Int.le_ediv_iff_mul_le (by omega)).2 (by omega)
  omega

theorem guess_loop {row0 u rv row3 : List Int} {N n j : Nat} {v1 v2 u3 top R W P : Int} (hn : 2 ≤ n) (hn1 : n ≤ 5000000) (hjn : j + n < N) (hN : N ≤ 5000000) (h1 : rv[n - 1]? = some v1) (h2 : rv[n - 2]? = some v2) (h3 : u[j + n - 2]? = some u3)
    (hv1 : 1 ≤ v1 ∧ v1 < 1000000000) (hv2 : 0 ≤ v2 ∧ v2 < 1000000000) (hu3 : 0 ≤ u3 ∧ u3 < 1000000000) (hP : 1 ≤ P) (hW1 : P * (v1 * 1000000000 + v2) ≤ W) (hW2 : W < P * (v1 * 1000000000 + v2 + 1)) (hR1 : P * (top * 1000000000 + u3) ≤ R) (hR2 : R < P * (top * 1000000000 + u3 + 1)) (hR : 0 ≤ R) (hRW : R < 1000000000 * W) (ht0 : 0 ≤ top) (ht1 : top ≤ v1 * 1000000000 + 999999999) (hq : R / W ≤ top / v1) :
    ∃ g, impl_over_L2 N n n j row0 u rv row3 (top / v1) (top % v1) = some g ∧ (R / W = g ∨ R / W + 1 = g) ∧ 0 ≤ g ∧ g ≤ 999999999 := by
  have hWp : 0 < W := by
    have h1 : P * 1000000000 ≤ P * (v1 * 1000000000 + v2) := Int.mul_le_mul_of_nonneg_left (by omega) (by omega)
    omega
  have hq0 : 0 ≤ R / W := Int.ediv_nonneg hR (by omega)
  have hq1 : R / W < 1000000000 := Int.ediv_lt_of_lt_mul hWp hRW
  have hqW : R / W * W ≤ R := Int.ediv_mul_le _ (by omega)
  have htv := Int.mul_ediv_add_emod top v1
  have hm0 := Int.emod_nonneg top (b := v1) (by omega)
  have hm1 := Int.emod_lt_of_pos top (b := v1) (by omega)
  have hen1 : w64 ((n : Int) - 1) = ((n - 1 : Nat) : Int) := by rw [w64_eq (by omega) (by omega)]; omega
  have hen2 : w64 ((n : Int) - 2) = ((n - 2 : Nat) : Int) := by rw [w64_eq (by omega) (by omega)]; omega
  have hejn : w64 (w64 ((j : Int) + (n : Int)) - 2) = ((j + n - 2 : Nat) : Int) := by rw [w64_eq (x := (j : Int) + n) (by omega) (by omega), w64_eq (by omega) (by omega)]; omega
  have htop : top / v1 ≤ top := Int.ediv_le_self _ ht0
  refine iter_inv (I := fun w : Int × Int => w.1 * v1 + w.2 = top ∧ 0 ≤ w.2 ∧ w.2 < 1000000000 ∧ R / W ≤ w.1 ∧ w.1 ≤ top) (m := fun w : Int × Int => w.1.toNat) _ ?_ _ ⟨by rw [Int.mul_comm]; exact htv, hm0, by simp only; omega, hq, htop⟩
  rintro ⟨g, rest⟩ ⟨i1, i2, i3, i4, i5⟩
  simp only at i1 i2 i3 i4 i5 ⊢
  have hwr : w64 (rest + v1) = rest + v1 := w64_eq (by omega) (by omega)
  have hwg : w64 (g - 1) = g - 1 := w64_eq (by omega) (by omega)
  have hg1 : (g - 1) * v1 + (rest + v1) = top := by grind
  have hbreak : R / W ≤ g - 1 → 1000000000 ≤ rest + v1 → (R / W = g - 1 ∨ R / W + 1 = g - 1) ∧ 0 ≤ g - 1 ∧ g - 1 ≤ 999999999 := by
    intro k1 k2
    have k3 : (g - 1) * v1 < 1000000000 * v1 := by omega
    have k4 : g - 1 < 1000000000 := Int.lt_of_mul_lt_mul_right k3 (by omega)
    have k5 : 0 ≤ g - 1 := by omega
    have k6 := (mul_bd ⟨k5, k4⟩ hv2).2
    have := guess_end hP k5 (by omega) hv1.1 hv2.1 hg1 hW1 hW2 hR1 (by omega)
    omega
  by_cases hbig : 1000000000 ≤ g
  · by_cases hb : 1000000000 ≤ rest + v1
    · refine .inr ⟨g - 1, ?_, hbreak (by omega) hb⟩
      unfold impl_over_L2_body
      rw [if_pos (by simpa using hbig), hen1, if_pos (by omega), Nat.zero_add, Int.toNat_natCast, h1]
      simp only [Option.bind_eq_bind, Option.bind_some, hwr, hwg]
      rw [if_pos (by simpa using hb)]
    · refine .inl ⟨(g - 1, rest + v1), ?_, ⟨hg1, by simp only; omega, by simp only; omega, by simp only; omega, by simp only; omega⟩, by simp only; omega⟩
      unfold impl_over_L2_body
      rw [if_pos (by simpa using hbig), hen1, if_pos (by omega), Nat.zero_add, Int.toNat_natCast, h1]
      simp only [Option.bind_eq_bind, Option.bind_some, hwr, hwg]
      rw [if_neg (by simpa using hb)]
  · have k0 : 0 ≤ g := by omega
    obtain ⟨m1, m2⟩ := mul_bd ⟨k0, by omega⟩ hv2
    have e1 : w64 (w64 (rest * 1000000000) + u3) = rest * 1000000000 + u3 := by rw [w64_eq (x := rest * 1000000000) (by omega) (by omega), w64_eq (by omega) (by omega)]
    have e2 : w64 (g * v2) = g * v2 := w64_eq (by omega) (by omega)
    have hbody : impl_over_L2_body N n n j row0 u rv row3 g rest = some (if rest * 1000000000 + u3 < g * v2 then (if 1000000000 ≤ rest + v1 then .inr (g - 1) else .inl (g - 1, rest + v1)) else .inr g) := by
      unfold impl_over_L2_body
      rw [if_neg (by simpa using hbig), hen2, if_pos (by omega), Nat.zero_add, Int.toNat_natCast, h2]
      simp only [Option.bind_eq_bind, Option.bind_some]
      rw [hejn, if_pos (by omega), Nat.zero_add, Int.toNat_natCast, h3]
      simp only [Option.bind_some, e1, e2]
      by_cases hc : rest * 1000000000 + u3 < g * v2
      · rw [if_pos (by simpa using hc), if_pos hc, hen1, if_pos (by omega), Nat.zero_add, Int.toNat_natCast, h1]
        simp only [Option.bind_some, hwr, hwg]
        by_cases hb : 1000000000 ≤ rest + v1
        · rw [if_pos (by simpa using hb), if_pos hb]
        · rw [if_neg (by simpa using hb), if_neg hb]
      · rw [if_neg (by simpa using hc), if_neg hc]
    rw [hbody]
    by_cases hc : rest * 1000000000 + u3 < g * v2
    · have hup := guess_up hP k0 i1 hW1 hR2 hqW (by omega) hc
      rw [if_pos hc]
      by_cases hb : 1000000000 ≤ rest + v1
      · rw [if_pos hb]
        exact .inr ⟨g - 1, rfl, hbreak (by omega) hb⟩
      · rw [if_neg hb]
        exact .inl ⟨(g - 1, rest + v1), rfl, ⟨hg1, by simp only; omega, by simp only; omega, by simp only; omega, by simp only; omega⟩, by simp only; omega⟩
    · rw [if_neg hc]
      have := guess_end hP k0 (by omega) hv1.1 hv2.1 i1 hW1 hW2 hR1 (by omega)
      exact .inr ⟨g, rfl, by omega, by omega, by omega⟩

theorem drop_same {a b : List Int} {k : Nat} (h : ∀ i, k ≤ i → a[i]? = b[i]?) : a.drop k = b.drop k := by
  apply List.ext_getElem?
  intro i
  rw [List.getElem?_drop, List.getElem?_drop]
  exact h _ (by omega)

theorem take_same {a b : List Int} {k : Nat} (h : ∀ i, i < k → a[i]? = b[i]?) : a.take k = b.take k := by
  apply List.ext_getElem?
  intro i
  rw [List.getElem?_take, List.getElem?_take]
  by_cases hi : i < k
  · rw [if_pos hi, if_pos hi]; exact h i hi
  · rw [if_neg hi, if_neg hi]

/-- What a segment of a row comes to when a multiple was taken away in it. -/
theorem seg {u w : List Int} {j n : Nat} {y c : Int} (hlen : w.length = u.length) (hjn : j + n < u.length) (hE : LimE (j + n) w) (hy : w[j + n]? = some y) (hsame : ∀ i, i < j ∨ j + n < i → w[i]? = u[i]?) (h0 : V (u.drop (j + n + 1)) = 0) (hV : V w = V u - c * B j) :
    V (w.drop j) = V (u.drop j) - c ∧ ∃ low, 0 ≤ low ∧ low < B n ∧ V (w.drop j) = low + B n * y := by
  have h1 := V_split (l := u) (n := j) (by omega)
  have h2 := V_split (l := w) (n := j) (by omega)
  rw [take_same (a := w) (b := u) (fun i hi => hsame i (.inl hi))] at h2
  have h3 : B j * V (w.drop j) = B j * (V (u.drop j) - c) := by grind
  have hB := B_pos j
  have h4 : V (w.drop j) = V (u.drop j) - c := Int.eq_of_mul_eq_mul_left (by omega) h3
  refine ⟨h4, V ((w.drop j).take n), ?_, ?_, ?_⟩
  · refine V_nonneg (fun x hx => ?_)
    obtain ⟨i, hi⟩ := List.mem_iff_getElem?.mp hx
    have hin := lt_of_get hi
    simp at hin
    rw [List.getElem?_take, if_pos (by omega), List.getElem?_drop] at hi
    exact hE _ _ (by omega) hi
  · have hl : Lim ((w.drop j).take n) := fun x hx => by
      obtain ⟨i, hi⟩ := List.mem_iff_getElem?.mp hx
      have hin := lt_of_get hi
      simp at hin
      rw [List.getElem?_take, if_pos (by omega), List.getElem?_drop] at hi
      exact hE _ _ (by omega) hi
    have := V_lt hl
    rwa [List.length_take, Nat.min_eq_left (by simp; omega)] at this
  · have h5 := V_split (l := w.drop j) (n := n) (by simp; omega)
    rw [List.drop_drop, V_drop1 hy, drop_same (a := w) (b := u) (k := j + n + 1) (fun i hi => hsame i (.inr (by omega))), h0] at h5
    rw [h5]
    grind

theorem limE_zero {w : List Int} {p : Nat} (hE : LimE p w) (hy : w[p]? = some 0) : Lim w := fun x hx => by
  obtain ⟨i, hi⟩ := List.mem_iff_getElem?.mp hx
  by_cases h : i = p
  · subst h
    rw [hy] at hi
    have := Option.some.inj hi
    omega
  · exact hE i x h hi

theorem top_zero {low y X Bn W : Int} (h0 : 0 ≤ low) (h1 : low < Bn) (hX : X = low + Bn * y) (h2 : 0 ≤ X) (h3 : X < W) (h4 : W ≤ Bn) : y = 0 := by
  have hlt : Bn * y < Bn * 1 := by omega
  have h5 := Int.lt_of_mul_lt_mul_left hlt (by omega)
  have hgt : Bn * (-1) < Bn * y := by omega
  have h6 := Int.lt_of_mul_lt_mul_left hgt (by omega)
  omega

theorem over_step {row0 u rv row3 : List Int} {n j : Nat} {v1 W : Int} (hn : 2 ≤ n) (hnl : n ≤ rv.length) (hv : Lim (rv.take n)) (hW : V (rv.take n) = W) (hv1 : rv[n - 1]? = some v1) (hv10 : 1 ≤ v1) (hu : Lim u) (hul : u.length ≤ 5000000) (hjn : j + n < u.length) (hlt : V (u.drop (j + 1)) < W) (hr3 : j < row3.length) :
    ∃ u', impl_over_L3_body u.length n n row0 rv j u row3 = some (.inl ((j : Int) - 1, u', row3.set j (V (u.drop j) / W))) ∧ Lim u' ∧ u'.length = u.length ∧ V u' = V u - (V (u.drop j) / W) * B j * W ∧ V (u'.drop j) < W ∧ 0 ≤ V (u.drop j) / W ∧ V (u.drop j) / W < 1000000000 := by
  obtain ⟨n, rfl⟩ : ∃ m, n = m + 2 := ⟨n - 2, by omega⟩
  have hvl : (rv.take (n + 2)).length = n + 2 := by simp; omega
  have hg1 : (rv.take (n + 2))[n + 1]? = some v1 := by rw [List.getElem?_take, if_pos (by omega)]; exact hv1
  have hg2 := List.getElem?_eq_getElem (show n < rv.length by omega)
  have hg2' : (rv.take (n + 2))[n]? = some rv[n] := by rw [List.getElem?_take, if_pos (by omega)]; exact hg2
  have hv1b := hv.get hg1
  have hv2b := hv.get hg2'
  have hx0 := List.getElem?_eq_getElem (show j + (n + 2) < u.length by omega)
  have hx1 := List.getElem?_eq_getElem (show j + (n + 1) < u.length by omega)
  have hx2 := List.getElem?_eq_getElem (show j + n < u.length by omega)
  have hxj := List.getElem?_eq_getElem (show j < u.length by omega)
  have hb0 := hu.get hx0
  have hb1 := hu.get hx1
  have hb2 := hu.get hx2
  have hbj := hu.get hxj
  -- the divisor from above
  have hw1 := top_bounds hv (k := n + 1) (by omega)
  rw [V_single hg1 (by omega), hW] at hw1
  have hw2 := top_bounds hv (k := n) (by omega)
  rw [V_drop1 hg2', V_single hg1 (by omega), hW] at hw2
  have hWlt := V_lt hv
  rw [hvl, hW] at hWlt
  have hWn : 0 ≤ W := by rw [← hW]; exact V_nonneg hv
  -- nothing above
  have hz := top_bounds (hu.drop (j + 1)) (k := n + 2) (by simp; omega)
  rw [List.drop_drop] at hz
  have hzn := V_nonneg (hu.drop (j + 1 + (n + 2)))
  have hBp := B_pos (n + 2)
  have h0 : V (u.drop (j + (n + 2) + 1)) = 0 := by
    rw [show j + (n + 2) + 1 = j + 1 + (n + 2) by omega]
    apply Int.le_antisymm _ hzn
    apply Int.not_lt.mp
    intro h
    have : B (n + 2) * 1 ≤ B (n + 2) * V (u.drop (j + 1 + (n + 2))) := Int.mul_le_mul_of_nonneg_left (by omega) (by omega)
    omega
  have ht0 : V (u.drop (j + (n + 2))) = u[j + (n + 2)] := by rw [V_drop1 hx0, h0]; omega
  have htop : V (u.drop (j + (n + 1))) = u[j + (n + 1)] + 1000000000 * u[j + (n + 2)] := by rw [V_drop1 hx1, show j + (n + 1) + 1 = j + (n + 2) by omega, ht0]
  have hT : V (u.drop (j + n)) = u[j + n] + 1000000000 * (u[j + (n + 1)] + 1000000000 * u[j + (n + 2)]) := by rw [V_drop1 hx2, show j + n + 1 = j + (n + 1) by omega, htop]
  -- the rest from above
  have hr1 := top_bounds (hu.drop j) (k := n + 1) (by simp; omega)
  rw [List.drop_drop, htop] at hr1
  have hr2 := top_bounds (hu.drop j) (k := n) (by simp; omega)
  rw [List.drop_drop, hT] at hr2
  have hR0 := V_nonneg (hu.drop j)
  have hR : V (u.drop j) < 1000000000 * W := by rw [V_drop1 hxj]; omega
  have hbn := B_pos n
  have hbn1 := B_pos (n + 1)
  have hu0 : u[j + (n + 2)] ≤ v1 := by
    have h1 := top_bounds (hu.drop (j + 1)) (k := n + 1) (by simp; omega)
    rw [List.drop_drop, show j + 1 + (n + 1) = j + (n + 2) by omega, ht0] at h1
    have h2 : B (n + 1) * u[j + (n + 2)] < B (n + 1) * (v1 + 1) := by omega
    have := Int.lt_of_mul_lt_mul_left h2 (by omega)
    omega
  have hdig := digit_bounds hbn1 hr1.1 hr1.2 hw1.1 hw1.2 (by omega) (by omega) hR
  obtain ⟨g, hg, hgq, hgn, hgb⟩ := guess_loop (row0 := row0) (row3 := row3) (N := u.length) (n := n + 2) (j := j) (v1 := v1) (v2 := rv[n]) (u3 := u[j + n]) (top := u[j + (n + 1)] + 1000000000 * u[j + (n + 2)]) (R := V (u.drop j)) (W := W) (P := B n) (u := u) (rv := rv) (by omega) (by omega) hjn hul hv1 hg2 hx2 ⟨hv10, hv1b.2⟩ hv2b hb2 hbn
    (by rw [Int.mul_comm v1, Int.add_comm]; exact hw2.1) (by rw [Int.mul_comm v1, Int.add_comm (1000000000 * v1)]; exact hw2.2)
    (by rw [Int.mul_comm (u[j + (n + 1)] + _), Int.add_comm]; exact hr2.1) (by rw [Int.mul_comm (u[j + (n + 1)] + _), Int.add_comm (1000000000 * _) u[j + n]]; exact hr2.2) hR0 hR (by omega) (by omega) hdig.2.1
  have hWp : 0 < W := by
    have : B (n + 1) * 1 ≤ B (n + 1) * v1 := Int.mul_le_mul_of_nonneg_left (by omega) (by omega)
    omega
  have hq0 : 0 ≤ V (u.drop j) / W := Int.ediv_nonneg hR0 (by omega)
  have hq1 : V (u.drop j) / W < 1000000000 := Int.ediv_lt_of_lt_mul hWp hR
  have hm := Int.mul_ediv_add_emod (V (u.drop j)) W
  have hm0 := Int.emod_nonneg (V (u.drop j)) (b := W) (by omega)
  have hm1 := Int.emod_lt_of_pos (V (u.drop j)) hWp
  -- taking away
  obtain ⟨y, w, ht, hwl, hwE, hwy, hy0, hy1, hwV, hwsame⟩ := take_o (v := rv.take (n + 2)) (row := u) (lo := j) (ulen := u.length - j) (by_ := g) hv hu ⟨hgn, by omega⟩ (by omega) (by omega) hul
  rw [hvl] at hwE hwy hwsame
  rw [hW] at hwV
  obtain ⟨hs1, low, hl0, hl1, hs2⟩ := seg (c := g * W) hwl hjn hwE hwy hwsame h0 (by rw [hwV]; grind)
  have hj0 : w64 ((j : Int) - 1) = (j : Int) - 1 := wpred (by omega)
  have e1 : w64 ((j : Int) + ((n + 2 : Nat) : Int)) = ((j + (n + 2) : Nat) : Int) := by rw [w64_eq (by omega) (by omega)]; omega
  have e2 : w64 (((j + (n + 2) : Nat) : Int) - 1) = ((j + (n + 1) : Nat) : Int) := by rw [w64_eq (by omega) (by omega)]; omega
  have e3 : w64 (((n + 2 : Nat) : Int) - 1) = ((n + 1 : Nat) : Int) := by rw [w64_eq (by omega) (by omega)]; omega
  have e4 : w64 (w64 (u[j + (n + 2)] * 1000000000) + u[j + (n + 1)]) = u[j + (n + 1)] + 1000000000 * u[j + (n + 2)] := by
    rw [w64_eq (x := u[j + (n + 2)] * 1000000000) (by omega) (by omega), w64_eq (by omega) (by omega)]; omega
  have e5 : 0 ≤ u[j + (n + 1)] + 1000000000 * u[j + (n + 2)] := by omega
  have e6 : (u[j + (n + 1)] + 1000000000 * u[j + (n + 2)]) / v1 ≤ u[j + (n + 1)] + 1000000000 * u[j + (n + 2)] := Int.ediv_le_self _ e5
  have e7 : 0 ≤ (u[j + (n + 1)] + 1000000000 * u[j + (n + 2)]) / v1 := Int.ediv_nonneg e5 (by omega)
  have hv1' : rv[n + 1]? = some v1 := hv1
  have pre : impl_over_L3_body u.length (n + 2) ((n + 2 : Nat) : Int) row0 rv j u row3 =
      (if (decide (y < 0)) = true then
        impl_give_o (rv.take (n + 2)) j (u.length - j) w >>= fun r20 => some (.inl ((j : Int) - 1, r20, row3.set j (w64 (g - 1))))
      else some (.inl ((j : Int) - 1, w, row3.set j g))) := by
    unfold impl_over_L3_body
    rw [if_pos (by simp)]
    simp only [e1, e2, e3, Int.toNat_natCast, Nat.zero_add, hj0]
    rw [if_pos (by omega), hx0]
    simp only [Option.bind_eq_bind, Option.bind_some]
    rw [if_pos (by omega), hx1]
    simp only [Option.bind_some]
    rw [if_pos (by omega), hv1']
    simp only [Option.bind_some]
    rw [if_pos (by omega), e4, td e5, tm e5, w64_eq (by omega) (by omega), hg]
    simp only [Option.bind_some]
    rw [if_pos (by omega), if_pos (by omega), if_pos (by omega), List.drop_zero, ht]
    simp only [Option.bind_some]
    by_cases hy : y < 0
    · have hd : (decide (y < 0)) = true := by simpa using hy
      simp only [if_pos hd]
      congr 1
      funext r
      rw [if_pos (by omega), if_pos (by omega)]
    · have hd : ¬ (decide (y < 0)) = true := by simpa using hy
      simp only [if_neg hd]
      rw [if_pos (by omega), if_pos (by omega)]
  rcases hgq with hgq | hgq
  · subst hgq
    have hX : V (w.drop j) = V (u.drop j) % W := by rw [hs1]; grind
    have hy : y = 0 := top_zero (W := W) hl0 hl1 hs2 (by rw [hX]; exact hm0) (by rw [hX]; exact hm1) (Int.le_of_lt hWlt)
    subst hy
    refine ⟨w, ?_, limE_zero hwE hwy, hwl, hwV, by omega, hq0, hq1⟩
    rw [pre]
    rfl
  · have hX : V (w.drop j) = V (u.drop j) % W - W := by rw [hs1, ← hgq]; grind
    have hy : y < 0 := by
      apply Int.not_le.mp
      intro h
      have : 0 ≤ B (n + 2) * y := Int.mul_nonneg (by omega) h
      omega
    obtain ⟨y', w', ht', hwl', hwE', hwy', hwV', hwsame'⟩ := give_o (v := rv.take (n + 2)) (row := w) (lo := j) (ulen := u.length - j) (y := y) hv (by rw [hvl]; exact hwE) (by omega) (by omega) (by omega) (by rw [hvl]; exact hwy) hy0 hy1
    rw [hvl] at hwE' hwy' hwsame'
    rw [hW] at hwV'
    have hV2 : V w' = V u - V (u.drop j) / W * B j * W := by rw [hwV', hwV, ← hgq]; grind
    obtain ⟨hs1', low', hl0', hl1', hs2'⟩ := seg (c := V (u.drop j) / W * W) (by omega) hjn hwE' hwy' (fun i hi => by rw [hwsame' i hi, hwsame i hi]) h0 (by rw [hV2]; grind)
    have hX' : V (w'.drop j) = V (u.drop j) % W := by rw [hs1']; grind
    have hy' : y' = 0 := top_zero (W := W) hl0' hl1' hs2' (by rw [hX']; exact hm0) (by rw [hX']; exact hm1) (Int.le_of_lt hWlt)
    subst hy'
    refine ⟨w', ?_, limE_zero hwE' hwy', by omega, hV2, by omega, hq0, hq1⟩
    rw [pre, if_pos (by simpa using hy), ht']
    simp only [Option.bind_eq_bind, Option.bind_some]
    rw [w64_eq (by omega) (by omega), show g - 1 = V (u.drop j) / W by omega]

theorem over_loop {row0 rv u : List Int} {n m : Nat} {v1 W : Int} (hn : 2 ≤ n) (hnl : n ≤ rv.length) (hv : Lim (rv.take n)) (hW : V (rv.take n) = W) (hv1 : rv[n - 1]? = some v1) (hv10 : 1 ≤ v1) (hu : Lim u) (hul : u.length ≤ 5000000) (hm : m + n = u.length) (hlt : V (u.drop m) < W) :
    ∃ r, impl_over_L3 u.length n n row0 rv ((m : Int) - 1) u (List.replicate m 0) = some r ∧ Lim r.1 ∧ r.1.length = u.length ∧ V r.1 < W ∧ Lim r.2 ∧ r.2.length = m ∧ V u = V r.2 * W + V r.1 := by
  refine iter_inv (I := fun w : Int × List Int × List Int => ∃ (k : Nat) (q : List Int), w.1 = (k : Int) - 1 ∧ k ≤ m ∧ Lim w.2.1 ∧ w.2.1.length = u.length ∧ w.2.2 = List.replicate k 0 ++ q ∧ q.length + k = m ∧ Lim q ∧ V (w.2.1.drop k) < W ∧ V u = V w.2.1 + B k * V q * W) (m := fun w : Int × List Int × List Int => (w.1 + 1).toNat) _ ?_ _ ⟨m, [], rfl, by omega, hu, rfl, by simp, by simp, Lim.nil, hlt, by simp [V]⟩
  rintro ⟨jj, u', row3⟩ ⟨k, q, h1, hk, hu', hlen, h3, hq, hlq, hlt', hV⟩
  simp only at h1 hu' hlen h3 hlt' hV ⊢
  subst h1 h3
  cases k with
  | zero =>
    refine .inr ⟨(u', q), by simp [impl_over_L3_body], hu', hlen, by simpa using hlt', hlq, by simpa using hq, ?_⟩
    rw [hV]
    simp [B]
    omega
  | succ k =>
    obtain ⟨u'', he, s1, s2, s3, s4, s5, s6⟩ := over_step (row0 := row0) (rv := rv) (u := u') (row3 := List.replicate (k + 1) 0 ++ q) (j := k) hn hnl hv hW hv1 hv10 hu' (by omega) (by omega) hlt' (by simp; omega)
    rw [hlen] at he
    rw [show ((k + 1 : Nat) : Int) - 1 = k by omega, he]
    refine .inl ⟨_, rfl, ⟨k, V (u'.drop k) / W :: q, rfl, by omega, s1, s2.trans hlen, rep_set _ _ _, by simp; omega, Lim.cons ⟨s5, s6⟩ hlq, s4, ?_⟩, by simp only; omega⟩
    simp only
    rw [hV, s3, V_cons, B_succ]
    grind

theorem clone_eq {a : List Int} (h : a.length ≤ 900000) : s_Clone a = some a := by
  unfold s_Clone
  rw [if_pos (by omega)]

theorem div_unique {a b q s : Int} (h : a = q * b + s) (h0 : 0 ≤ s) (h1 : s < b) : a / b = q ∧ a % b = s := by
  subst h
  constructor
  · rw [Int.add_comm, Int.add_mul_ediv_right _ _ (by omega), Int.ediv_eq_zero_of_lt h0 h1]
    omega
  · rw [Int.add_comm, Int.add_mul_emod_self_right]
    exact Int.emod_eq_of_lt h0 h1

theorem over_eq {a b : List Int} (ha : Nf a) (hb : Nf b) (hb0 : b ≠ []) (hn : a.length ≤ 900000) (hm : b.length ≤ 900000) : impl_over a b = some (L (V a / V b), L (V a % V b)) := by
  have hbp := V_pos hb hb0
  have hap := V_nonneg ha.1
  unfold impl_over
  simp only [len_eI]
  rw [compare_eq ha hb (by omega)]
  simp only [Option.bind_eq_bind, Option.bind_some]
  by_cases hc : V a < V b
  · rw [if_pos (by simpa using cmp3_lt.2 hc), clone_eq hn, Int.ediv_eq_zero_of_lt hap hc, Int.emod_eq_of_lt hap hc, L_zero, L_V ha]
    rfl
  · rw [if_neg (fun h => hc (cmp3_lt.1 (by simpa using h)))]
    obtain ⟨k, d, hk, hd, hd0, hd1, hdv⟩ := nf_top hb hb0
    by_cases h1 : b.length = 1
    · have hk0 : k = 0 := by omega
      subst hk0
      have hbv : V b = d := by simpa using hdv
      rw [if_pos (by simp [h1]), if_pos (by omega), hd]
      simp only [Option.bind_some]
      have hm1 := Int.emod_nonneg (V a) (b := d) (by omega)
      have hm2 := Int.emod_lt_of_pos (V a) hd0
      rw [overSmall_eq ha.1 ⟨hd0, hd1⟩ (by omega)]
      simp only [Option.bind_some]
      rw [wrapu hm1 (by omega), limbsOf_eq hm1 (by omega), hbv]
      rfl
    · have hw : w64 ((b.length : Int) - 1) = (k : Int) := by rw [w64_eq (by omega) (by omega)]; omega
      have e1 : w64 (d + 1) = d + 1 := w64_eq (by omega) (by omega)
      have hf1 : 1 ≤ 1000000000 / (d + 1) := by
        apply (Int.le_ediv_iff_mul_le (by omega)).2
        omega
      have hf2 : 1000000000 / (d + 1) < 1000000000 := by
        apply Int.ediv_lt_of_lt_mul (by omega)
        omega
      have hf3 : 1000000000 / (d + 1) * (d + 1) ≤ 1000000000 := Int.ediv_mul_le _ (by omega)
      have e2 : w64 ((1000000000 : Int).tdiv (d + 1)) = 1000000000 / (d + 1) := by rw [td (by omega), w64_eq (by omega) (by omega)]
      rw [if_neg (by simp; omega), hw, if_pos (by omega), Int.toNat_natCast, hd]
      simp only [Option.bind_some, e1, e2]
      generalize 1000000000 / (d + 1) = f at *
      rw [if_pos (by omega)]
      have hfl : Lim [f] := Lim.cons (by omega) Lim.nil
      have hfv : V [f] = f := by simp [V]
      have ha0 : a ≠ [] := by
        intro h
        subst h
        simp [V] at hc
        omega
      obtain ⟨ku, ru, hru, ku1, ku2, ku3, ku4⟩ := times_o_eq ha.1 hfl ha0 (by simp) (by omega) (by simp)
      obtain ⟨kv, rv, hrv, kv1, kv2, kv3, kv4⟩ := times_o_eq hb.1 hfl hb0 (by simp) (by omega) (by simp)
      rw [hfv] at ku3 kv3
      rw [hru]
      simp only [Option.bind_some]
      simp only [List.length_singleton] at ku2 kv2
      -- sizes
      have hbk := B_pos k
      have hWf : V b * f < B b.length := by
        have h2 := (top_bounds hb.1 (k := k) (by omega)).2
        rw [hdv] at h2
        have h3 : V b * f ≤ (B k * (d + 1) - 1) * f := Int.mul_le_mul_of_nonneg_right (by omega) (by omega)
        have h4 : (B k * (d + 1) - 1) * f = B k * (f * (d + 1)) - f := by grind
        have h5 : B k * (f * (d + 1)) ≤ B k * 1000000000 := Int.mul_le_mul_of_nonneg_left hf3 (by omega)
        rw [hk, B_succ]
        omega
      have hWb : V b ≤ V b * f := by
        have : V b * 1 ≤ V b * f := Int.mul_le_mul_of_nonneg_left hf1 (by omega)
        omega
      have hUa : V a ≤ V a * f := by
        have : V a * 1 ≤ V a * f := Int.mul_le_mul_of_nonneg_left hf1 (by omega)
        omega
      have hW0 : 0 ≤ V b * f := by omega
      have hU0 : 0 ≤ V a * f := by omega
      have hkv : kv = b.length := by
        have h2 : (rv.take kv).length = kv := by simp; omega
        rw [kv3] at h2
        have h3 := (L_len hW0 (k := b.length)).2 hWf
        have h4 := V_ge hb hb0
        have h5 : ¬ (L (V b * f)).length ≤ b.length - 1 := fun h => by
          have := (L_len hW0).1 h
          omega
        omega
      have hku : (L (V a * f)).length = ku := by rw [← ku3]; simp; omega
      have hVlt := V_lt (L_lim (V a * f))
      rw [V_L hU0, hku] at hVlt
      have hkua : a.length ≤ ku := ha.len.2 (by omega)
      have hba : b.length ≤ a.length := Nat.le_of_not_lt fun h => by
        have := cmp_len ha hb h
        omega
      rw [if_pos (by omega), if_pos (by simp; omega), hrv]
      simp only [Option.bind_some]
      have hul : (ru.take ku ++ [0]).length = ku + 1 := by simp; omega
      have hL1 : impl_over_L1 a kv [f] rv (ru.take ku ++ [0]) = some (ru.take ku ++ [0]) := by
        unfold impl_over_L1
        rw [iter]
        unfold impl_over_L1_body
        simp only [len_eI, hul]
        rw [if_neg (by simp; omega)]
        rfl
      rw [hL1]
      simp only [Option.bind_some, hul]
      have hmm : w64 (((ku + 1 : Nat) : Int) - ((kv : Nat) : Int)) = ((ku + 1 - b.length : Nat) : Int) := by rw [w64_eq (by omega) (by omega)]; omega
      rw [hmm, if_pos (by omega), wpred (by omega), Int.toNat_natCast]
      -- the loop
      have hulim : Lim (ru.take ku ++ [0]) := by
        rw [ku3]
        exact (L_lim _).append (Lim.cons (by omega) Lim.nil)
      have huv : V (ru.take ku ++ [0]) = V a * f := by
        rw [V_append, ku3, V_L hU0]
        simp [V]
      have hvtake : rv.take b.length = L (V b * f) := by rw [← hkv]; exact kv3
      have hvv : V (rv.take b.length) = V b * f := by rw [hvtake, V_L hW0]
      obtain ⟨k', d', hk', hd', hd0', hd1', hdv'⟩ := nf_top (L_can (V b * f)) (fun h => by have := L_nil.1 h; omega)
      rw [← hvtake] at hk' hd'
      have hvl : (rv.take b.length).length = b.length := by simp; omega
      have hd2 : rv[b.length - 1]? = some d' := by
        rw [List.getElem?_take] at hd'
        rw [show b.length - 1 = k' by omega]
        split at hd'
        · exact hd'
        · simp at hd'
      have hlt0 : V ((ru.take ku ++ [0]).drop (ku + 1 - b.length)) < V b * f := by
        have h2 := (top_bounds hulim (k := ku + 1 - b.length) (by omega)).1
        rw [huv] at h2
        have h3 := V_ge hb hb0
        have h4 : B ku = B (ku + 1 - b.length) * B (b.length - 1) := by rw [← B_add]; congr 1; omega
        rw [h4] at hVlt
        have h5 : B (ku + 1 - b.length) * V ((ru.take ku ++ [0]).drop (ku + 1 - b.length)) < B (ku + 1 - b.length) * B (b.length - 1) := by omega
        have := Int.lt_of_mul_lt_mul_left h5 (by have := B_pos (ku + 1 - b.length); omega)
        omega
      obtain ⟨r, hr, r1, r2, r3, r4, r5, r6⟩ := over_loop (row0 := [f]) (m := ku + 1 - b.length) (by omega) (by omega) (by rw [hvtake]; exact L_lim _) hvv hd2 (by omega) hulim (by omega) (by omega) hlt0
      rw [hul] at hr r2
      rw [hkv, hr]
      simp only [Option.bind_some]
      rw [if_pos (by omega), List.drop_zero, List.take_of_length_le (by omega), trim_eq r1 (by omega)]
      simp only [Option.bind_some]
      have hrn := V_nonneg r1
      rw [huv] at r6
      have hs : V r.1 = (V a - V r.2 * V b) * f := by grind
      have hs0 : 0 ≤ V a - V r.2 * V b := by
        apply Int.not_lt.mp
        intro h
        have : (V a - V r.2 * V b) * f ≤ (-1) * f := Int.mul_le_mul_of_nonneg_right (by omega) (by omega)
        omega
      have hs1 : V a - V r.2 * V b < V b := by
        apply Int.lt_of_mul_lt_mul_right (a := f) _ (by omega)
        omega
      obtain ⟨q1, q2⟩ := div_unique (a := V a) (b := V b) (q := V r.2) (s := V a - V r.2 * V b) (by omega) hs0 hs1
      rw [if_pos (by simp)]
      simp only [List.getElem?_cons_zero, Option.bind_some]
      have hl2 : (L (V r.1)).length ≤ ku + 1 := (L_len hrn).2 (by have := V_lt r1; rwa [r2] at this)
      rw [overSmall_eq (L_lim _) ⟨by omega, hf2⟩ (by omega), V_L hrn]
      simp only [Option.bind_some]
      rw [trim_eq r4 (by omega)]
      simp only [Option.bind_some]
      rw [q1, q2, hs, Int.mul_ediv_cancel _ (by omega)]

theorem divisor_eq {a b : List Int} (ha : Nf a) (hb : Nf b) (hn : a.length ≤ 900000) (hm : b.length ≤ 900000) : impl_divisor a b = some (L (Int.gcd (V a) (V b))) := by
  have : ∃ r, iter (fun w : List Int × List Int => impl_divisor_L1_body w.1 w.2) (a, b) = some r ∧ r = L (Int.gcd (V a) (V b)) := by
    refine iter_inv (I := fun w : List Int × List Int => Nf w.1 ∧ Nf w.2 ∧ w.1.length ≤ 900000 ∧ w.2.length ≤ 900000 ∧ Int.gcd (V w.1) (V w.2) = Int.gcd (V a) (V b)) (m := fun w : List Int × List Int => (V w.2).toNat) _ ?_ _ ⟨ha, hb, hn, hm, rfl⟩
    rintro ⟨x, y⟩ ⟨h1, h2, h3, h4, h5⟩
    simp only at h1 h2 h3 h4 h5 ⊢
    have hx0 := V_nonneg h1.1
    have hy0 := V_nonneg h2.1
    by_cases hy : y = []
    · subst hy
      refine .inr ⟨x, by simp [impl_divisor_L1_body, len_eI], ?_⟩
      rw [← h5, V_nil, gcd_end hx0]
      exact (L_V h1).symm
    · have hyp := V_pos h2 hy
      have hly := List.length_pos_iff.mpr hy
      have hmn := Int.emod_nonneg (V x) (b := V y) (by omega)
      have hml := Int.emod_lt_of_pos (V x) hyp
      refine .inl ⟨(y, L (V x % V y)), ?_, ⟨h2, L_can _, h4, (L_len hmn).2 ?_, ?_⟩, ?_⟩
      · unfold impl_divisor_L1_body
        simp only [len_eI]
        rw [if_pos (by simp; omega), over_eq h1 h2 hy h3 h4]
        rfl
      · have := V_lt h2.1
        have := B_mono h4
        omega
      · simp only
        rw [V_L hmn, ← h5]
        exact gcd_step hx0
      · simp only
        rw [V_L hmn]
        omega
  obtain ⟨r, hr, rfl⟩ := this
  unfold impl_divisor impl_divisor_L1
  rw [hr]
  rfl

def bigI (n : Int) : TBigInt := ⟨decide (n < 0), L n.natAbs⟩

def sg (neg : Bool) (a : Int) : Int := if neg then -a else a

def mk (p : Int × Int) : TRat := ⟨bigI p.1, L p.2⟩

def mkO (p : Int × Int) : TRatio_ := ⟨bigI p.1, L p.2⟩

def bad : TRat := ⟨⟨false, []⟩, []⟩

def enc : Option (Int × Int) → TRat
  | none => bad
  | some p => mk p

def encO (x : Option (Int × Int)) : Option TRatio_ := x.map mkO

/-- A fraction in lowest terms that fits. -/
structure Fr (p : Int × Int) : Prop where
  pos : 0 < p.2
  red : Int.gcd p.1 p.2 = 1
  num : (p.1.natAbs : Int) < B 24
  den : p.2 < B 24

theorem bigI_mag {n : Int} : (bigI n).fMag = L n.natAbs := rfl

theorem bigI_neg {n : Int} : (bigI n).fNeg = decide (n < 0) := rfl

theorem L_pos_len {n : Int} (h : 0 ≤ n) : decide ((0 : Int) < ((L n).length : Nat)) = decide (0 < n) := by
  apply decide_eq_decide.2
  by_cases h1 : 0 < n
  · have : (L n) ≠ [] := fun h2 => by have := L_nil.1 h2; omega
    have := List.length_pos_iff.mpr this
    omega
  · have : n = 0 := by omega
    subst this
    simp [L_zero]

theorem len0 {n : Int} (h : 0 ≤ n) : (((L n).length : Nat) : Int) = 0 ↔ n = 0 := by
  constructor
  · intro h1
    have : L n = [] := List.eq_nil_of_length_eq_zero (by omega)
    have := L_nil.1 this
    omega
  · rintro rfl
    simp [L_zero]

theorem sg_abs {neg : Bool} {a : Int} (h : 0 ≤ a) : ((sg neg a).natAbs : Int) = a := by
  unfold sg
  cases neg <;> simp <;> omega

theorem sg_bigI {neg : Bool} {a : Int} (h : 0 ≤ a) : (⟨neg && decide (0 < a), L a⟩ : TBigInt) = bigI (sg neg a) := by
  unfold bigI
  rw [sg_abs h]
  congr 1
  unfold sg
  cases neg
  · simp; omega
  · simp

theorem cap_eq {a : Int} (h : 0 ≤ a) (h60 : a < B 60) : spec_l02Cap (L a) = some (L a) := by
  have hl := (L_len h).2 h60
  unfold spec_l02Cap
  rw [l02Trim_eq (L_lim _) (by omega), V_L h]
  simp only [Option.bind_eq_bind, Option.bind_some, len_eI]
  rw [if_neg (by simp; omega)]

theorem make_eq {neg : Bool} {a : Int} (h : 0 ≤ a) (h60 : a < B 60) : spec_l03Make neg (L a) = some (bigI (sg neg a)) := by
  have hl := (L_len h).2 h60
  unfold spec_l03Make
  rw [cap_eq h h60]
  simp only [Option.bind_eq_bind, Option.bind_some, len_eI, List.nil_append]
  have hc : (L a).length * 8 ≤ 140737488355328 := by omega
  rw [← sg_bigI h, ← L_pos_len h]
  cases neg <;> simp [hc]

theorem signed_eq {neg : Bool} {a : Int} (h : 0 ≤ a) : impl_signed neg (L a) = some (bigI (sg neg a)) := by
  unfold impl_signed
  rw [← sg_bigI h, len_eI, L_pos_len h]
  cases neg <;> simp

theorem sg_mul {a b : Int} : sg (!(decide (a < 0) == decide (b < 0))) ((a.natAbs : Int) * (b.natAbs : Int)) = a * b := by
  unfold sg
  by_cases ha : a < 0
  · have e1 : (a.natAbs : Int) = -a := by omega
    by_cases hb : b < 0
    · have e2 : (b.natAbs : Int) = -b := by omega
      rw [e1, e2]
      simp [ha, hb, Int.neg_mul, Int.mul_neg]
    · have e2 : (b.natAbs : Int) = b := by omega
      rw [e1, e2]
      simp [ha, hb, Int.neg_mul, Int.mul_neg]
  · have e1 : (a.natAbs : Int) = a := by omega
    by_cases hb : b < 0
    · have e2 : (b.natAbs : Int) = -b := by omega
      rw [e1, e2]
      simp [ha, hb, Int.neg_mul, Int.mul_neg]
    · have e2 : (b.natAbs : Int) = b := by omega
      rw [e1, e2]
      simp [ha, hb, Int.neg_mul, Int.mul_neg]

theorem sg_mul1 {a b : Int} : sg (decide (a < 0)) ((a.natAbs : Int) * b) = a * b := by
  unfold sg
  by_cases ha : a < 0
  · have e1 : (a.natAbs : Int) = -a := by omega
    rw [e1]
    simp [ha, Int.neg_mul, Int.mul_neg]
  · have e1 : (a.natAbs : Int) = a := by omega
    rw [e1]
    simp [ha, Int.neg_mul, Int.mul_neg]

theorem cmp3_neg {a c : Int} : cmp3 (-c) (-a) = cmp3 a c := by
  unfold cmp3
  by_cases h : a < c
  · have : -c < -a := by omega
    simp [h, this]
  · by_cases h2 : c < a
    · have h3 : ¬ -c < -a := by omega
      have h4 : -a < -c := by omega
      simp [h, h2, h3, h4]
    · have h3 : ¬ -c < -a := by omega
      have h4 : ¬ -a < -c := by omega
      simp [h, h2, h3, h4]

theorem l03Cmp_eq {a c : Int} (ha : (L a.natAbs).length ≤ 5000000) (hc : (L c.natAbs).length ≤ 5000000) : spec_l03Cmp (bigI a) (bigI c) = some (cmp3 a c) := by
  unfold spec_l03Cmp
  simp only [bigI_neg, bigI_mag, decide_eq_true_eq]
  by_cases h1 : a < 0
  · by_cases h2 : c < 0
    · rw [if_pos h1, if_pos h2, cmp_eq (L_can _) (L_can _) hc, V_L (by omega), V_L (by omega), show (c.natAbs : Int) = -c by omega, show (a.natAbs : Int) = -a by omega, cmp3_neg]
      rfl
    · rw [if_pos h1, if_neg h2]
      unfold cmp3
      rw [if_pos (by omega)]
  · by_cases h2 : c < 0
    · rw [if_neg h1, if_pos h2]
      unfold cmp3
      rw [if_neg (by omega), if_pos (by omega)]
    · rw [if_neg h1, if_neg h2, cmp_eq (L_can _) (L_can _) ha, V_L (by omega), V_L (by omega)]
      show some (cmp3 _ _) = _
      congr 2 <;> omega

theorem BigInt_compare_eq {a c : Int} (ha : (L a.natAbs).length ≤ 5000000) (hc : (L c.natAbs).length ≤ 5000000) : impl_BigInt_compare (bigI a) (bigI c) = some (cmp3 a c) := by
  have hs : impl_BigInt_compare (bigI a) (bigI c) = if (decide (a < 0) == decide (c < 0)) = true then (if decide (a < 0) = true then (impl_compare (L c.natAbs) (L a.natAbs)).bind (fun r => some r) else (impl_compare (L a.natAbs) (L c.natAbs)).bind (fun r => some r)) else if decide (a < 0) = true then some (-1) else some 1 := rfl
  rw [hs, compare_spec]
  by_cases h1 : a < 0
  · by_cases h2 : c < 0
    · rw [if_pos (by simp [h1, h2]), if_pos (by simpa using h1), cmp_eq (L_can _) (L_can _) hc, V_L (by omega), V_L (by omega), show (c.natAbs : Int) = -c by omega, show (a.natAbs : Int) = -a by omega, cmp3_neg]
      rfl
    · rw [if_neg (by simp [h1, h2]), if_pos (by simpa using h1)]
      unfold cmp3
      rw [if_pos (by omega)]
  · by_cases h2 : c < 0
    · rw [if_neg (by simp [h1, h2]), if_neg (by simpa using h1)]
      unfold cmp3
      rw [if_neg (by omega), if_pos (by omega)]
    · rw [if_pos (by simp [h1, h2]), if_neg (by simpa using h1), cmp_eq (L_can _) (L_can _) ha, V_L (by omega), V_L (by omega), show (c.natAbs : Int) = c by omega, show (a.natAbs : Int) = a by omega]
      rfl

/-- Numbers of at most 24 limbs. -/
def fits (x : Int) : Prop := x < B 24

noncomputable instance (x : Int) : Decidable (fits x) := Classical.propDecidable _

/-- A quotient in lowest terms, if it fits. -/
noncomputable def low (n d : Int) : Option (Int × Int) :=
  if fits ((n / (Int.gcd n d : Int)).natAbs : Int) ∧ fits (d / (Int.gcd n d : Int)) then some (n / (Int.gcd n d : Int), d / (Int.gcd n d : Int)) else none

theorem gcd_pos {n d : Int} (h : 0 < d) : (0 : Int) < Int.gcd n d := by
  have : Int.gcd n d ≠ 0 := by
    rw [Ne, Int.gcd_eq_zero_iff]
    omega
  omega

theorem div_gcd {n d : Int} (h : 0 < d) : ∃ m e, n / (Int.gcd n d : Int) = m ∧ d / (Int.gcd n d : Int) = e ∧ n = Int.gcd n d * m ∧ d = Int.gcd n d * e ∧ 0 < e ∧ (n.natAbs : Int) / (Int.gcd n d : Int) = m.natAbs := by
  have hg := gcd_pos (n := n) h
  obtain ⟨m, hm⟩ := Int.gcd_dvd_left (a := n) (b := d)
  obtain ⟨e, he⟩ := Int.gcd_dvd_right (a := n) (b := d)
  refine ⟨m, e, ?_, ?_, hm, he, ?_, ?_⟩
  · conv => lhs; lhs; rw [hm]
    exact Int.mul_ediv_cancel_left _ (by omega)
  · conv => lhs; lhs; rw [he]
    exact Int.mul_ediv_cancel_left _ (by omega)
  · apply Int.not_le.mp
    intro h1
    have : (Int.gcd n d : Int) * e ≤ Int.gcd n d * 0 := Int.mul_le_mul_of_nonneg_left h1 (by omega)
    omega
  · have e1 : (n.natAbs : Int) = Int.gcd n d * m.natAbs := by
      conv => lhs; rw [hm]
      rw [Int.natAbs_mul]
      simp
    rw [e1]
    exact Int.mul_ediv_cancel_left _ (by omega)

theorem low_fr {n d : Int} (h : 0 < d) : ∀ p, low n d = some p → Fr p := by
  intro p hp
  obtain ⟨m, e, h1, h2, h3, h4, h5, h6⟩ := div_gcd (n := n) h
  have hg := gcd_pos (n := n) h
  unfold low at hp
  rw [h1, h2] at hp
  split at hp
  · next hc =>
    have := Option.some.inj hp
    subst this
    refine ⟨h5, ?_, hc.1, hc.2⟩
    have h7 : Int.gcd n d = Int.gcd n d * Int.gcd m e := by
      have key : ∀ g : Nat, Int.gcd ((g : Int) * m) (g * e) = g * Int.gcd m e := fun g => by
        rw [Int.gcd_mul_left]
        simp
      have := key (Int.gcd n d)
      rwa [← h3, ← h4] at this
    simp only
    have h8 : Int.gcd n d * 1 = Int.gcd n d * Int.gcd m e := by omega
    exact (Nat.eq_of_mul_eq_mul_left (by omega) h8).symm
  · simp at hp

theorem one_eq {a : Int} (h : 0 ≤ a) : spec_l04One (L a) = some (decide (a = 1)) := by
  unfold spec_l04One
  simp only [len_eI]
  by_cases h1 : (L a).length = 1
  · have h2 := (L_len (k := 1) h).1 (by omega)
    have h3 : 0 < a := by
      apply Int.not_le.mp
      intro h4
      rw [L_neg h4] at h1
      simp at h1
    have h5 : a < 1000000000 := by simpa [B] using h2
    rw [L_small ⟨h3, h5⟩]
    by_cases h6 : a = 1 <;> simp [h6]
  · rw [if_neg (by simp; omega)]
    have : a ≠ 1 := by
      rintro rfl
      rw [L_small (by omega)] at h1
      simp at h1
    simp [this]

theorem gcd_abs {n d : Int} (h : 0 ≤ d) : Int.gcd (n.natAbs : Int) d = Int.gcd n d := by
  simp [Int.gcd]

theorem B24_60 : B 24 ≤ B 60 := B_mono (by omega)

theorem low_cases {neg : Bool} {m e : Int} (hm : 0 ≤ m) (he : 0 ≤ e) : (if (decide ((24 : Int) < ((L m).length : Nat))) = true then some bad else if (decide ((24 : Int) < ((L e).length : Nat))) = true then some bad else spec_l03Make neg (L m) >>= fun r => if (([] : List Int) ++ L e).length * 8 ≤ 140737488355328 then some (⟨r, ([] : List Int) ++ L e⟩ : TRat) else none) =
    some (enc (if fits m ∧ fits e then some (sg neg m, e) else none)) := by
  by_cases h1 : fits m
  · have h2 := (L_len hm).2 h1
    rw [if_neg (by simp; omega)]
    by_cases h3 : fits e
    · have h4 := (L_len he).2 h3
      have := B24_60
      unfold fits at h1
      rw [if_neg (by simp; omega), make_eq hm (by omega), if_pos ⟨h1, h3⟩]
      simp only [Option.bind_eq_bind, Option.bind_some]
      rw [if_pos (by simp; omega)]
      rfl
    · have h4 : ¬ (L e).length ≤ 24 := fun h => h3 ((L_len he).1 h)
      rw [if_pos (by simp; omega), if_neg (fun h => h3 h.2)]
      rfl
  · have h4 : ¬ (L m).length ≤ 24 := fun h => h1 ((L_len hm).1 h)
    rw [if_pos (by simp; omega), if_neg (fun h => h1 h.1)]
    rfl

theorem sg_div {neg : Bool} {p m g : Int} (hp : 0 ≤ p) (hg : 0 < g) (hm : sg neg p = g * m) : sg neg (m.natAbs : Int) = m := by
  unfold sg at hm ⊢
  cases neg
  · simp at hm ⊢
    have : 0 ≤ m := by
      apply Int.not_lt.mp
      intro h1
      have : g * m ≤ g * (-1) := Int.mul_le_mul_of_nonneg_left (by omega) (by omega)
      omega
    omega
  · simp at hm ⊢
    have : m ≤ 0 := by
      apply Int.not_lt.mp
      intro h1
      have : g * 1 ≤ g * m := Int.mul_le_mul_of_nonneg_left (by omega) (by omega)
      omega
    omega

theorem l04Low_eq {neg : Bool} {p q : Int} (hp : 0 ≤ p) (hq : 0 < q) (hlp : (L p).length ≤ 900000) (hlq : (L q).length ≤ 900000) : spec_l04Low neg (L p) (L q) = some (enc (low (sg neg p) q)) := by
  obtain ⟨m, e, h1, h2, h3, h4, h5, h6⟩ := div_gcd (n := sg neg p) hq
  have hsg := sg_div hp (gcd_pos (n := sg neg p) hq) h3
  rw [sg_abs hp] at h6
  have hg : Int.gcd p q = Int.gcd (sg neg p) q := by rw [← gcd_abs (n := sg neg p) (by omega), sg_abs hp]
  have hgp := gcd_pos (n := sg neg p) hq
  unfold spec_l04Low
  rw [l02Trim_eq (L_lim _) (by omega), V_L hp]
  simp only [Option.bind_eq_bind, Option.bind_some]
  rw [l02Trim_eq (L_lim _) (by omega), V_L (by omega)]
  simp only [Option.bind_some, len_eI]
  have hq0 : ¬ ((((L q).length : Nat) : Int) == 0) = true := by
    simp only [beq_iff_eq]
    intro h
    have := (len0 (n := q) (by omega)).1 h
    omega
  rw [if_neg hq0, one_eq (by omega)]
  simp only [Option.bind_some]
  have hlow : low (sg neg p) q = if fits (m.natAbs : Int) ∧ fits e then some (sg neg (m.natAbs : Int), e) else none := by
    unfold low
    rw [h1, h2, hsg]
  have hunit : Int.gcd (sg neg p) q = 1 → (m.natAbs : Int) = p ∧ e = q := by
    intro hu
    rw [hu] at h2 h6
    simp at h2 h6
    omega
  by_cases hq1 : q = 1
  · have hu : Int.gcd (sg neg p) q = 1 := by rw [hq1]; simp
    obtain ⟨u1, u2⟩ := hunit hu
    rw [if_pos (by simpa using hq1), hlow, u1, u2]
    exact low_cases hp (by omega)
  · rw [if_neg (by simpa using hq1), gcd_eq (L_can _) (L_can _) hlp hlq, V_L hp, V_L (by omega)]
    simp only [Option.bind_some]
    rw [one_eq (by omega)]
    simp only [Option.bind_some]
    by_cases hu : Int.gcd p q = 1
    · obtain ⟨u1, u2⟩ := hunit (by omega)
      rw [if_pos (by simp; omega), hlow, u1, u2]
      exact low_cases hp (by omega)
    · rw [if_neg (by simp; omega)]
      have hgl : (L (Int.gcd p q)).length ≤ 900000 := by
        have h7 : (Int.gcd p q : Int) ≤ q := by
          rw [hg]
          have : (Int.gcd (sg neg p) q : Int) * 1 ≤ Int.gcd (sg neg p) q * e := Int.mul_le_mul_of_nonneg_left (by omega) (by omega)
          omega
        apply (L_len (by omega)).2
        have := (L_len (n := q) (by omega)).1 hlq
        omega
      have hg0 : L (Int.gcd p q) ≠ [] := fun h => by
        have := L_nil.1 h
        omega
      rw [div_eq (L_can _) (L_can _) hg0 hlp hgl, V_L hp, V_L (by omega)]
      simp only [Option.bind_some]
      rw [div_eq (L_can _) (L_can _) hg0 hlq hgl, V_L (by omega), V_L (by omega)]
      simp only [Option.bind_some]
      rw [hg, h6, h2, hlow]
      exact low_cases (by omega) (by omega)

theorem sg_lt {neg : Bool} {a : Int} (h : 0 ≤ a) (h2 : neg = true → 0 < a) : decide (sg neg a < 0) = neg := by
  unfold sg
  cases neg
  · simp; omega
  · have := h2 rfl
    simp; omega

theorem bigI_of {neg : Bool} {l : List Int} (hl : Nf l) (h2 : neg = true → l ≠ []) : (⟨neg, l⟩ : TBigInt) = bigI (sg neg (V l)) := by
  have h := V_nonneg hl.1
  unfold bigI
  rw [sg_abs h, L_V hl, sg_lt h (fun hn => V_pos hl (h2 hn))]

theorem bigIntOk_both {x : TBigInt} (hm : (x.fMag.length : Int) < 9223372036854775807) : ∃ ok, spec_BigIntOk x = some ok ∧ impl_BigIntOk x = some ok ∧ (ok = true ↔ ∃ n, x = bigI n ∧ (L n.natAbs).length ≤ 60) := by
  obtain ⟨o, h1, h2, h3⟩ := natOk_both hm
  unfold spec_BigIntOk impl_BigIntOk
  rw [h1, h2]
  simp only [Option.bind_eq_bind, Option.bind_some, len_eI]
  obtain ⟨neg, mag⟩ := x
  simp only at h3 ⊢
  have hpos : decide ((0 : Int) < (mag.length : Nat)) = !((((mag.length : Nat) : Int) == 0)) := by
    by_cases h : mag = []
    · subst h; rfl
    · have := List.length_pos_iff.mpr h
      rw [decide_eq_true (by omega)]
      symm
      simp
      omega
  by_cases ho : o = true
  · obtain ⟨h4, h5⟩ := h3.1 ho
    subst ho
    cases neg
    · refine ⟨true, rfl, rfl, ?_⟩
      simp only [true_iff]
      refine ⟨_, bigI_of h4 (fun h => by simp at h), ?_⟩
      rw [sg_abs (V_nonneg h4.1), L_V h4]
      exact h5
    · refine ⟨decide ((0 : Int) < (mag.length : Nat)), rfl, by rw [hpos]; rfl, ?_⟩
      rw [decide_eq_true_iff]
      constructor
      · intro hp
        refine ⟨_, bigI_of h4 (fun _ h => by subst h; simp at hp), ?_⟩
        rw [sg_abs (V_nonneg h4.1), L_V h4]
        exact h5
      · rintro ⟨n, hn, -⟩
        have e1 := congrArg TBigInt.fNeg hn
        have e2 := congrArg TBigInt.fMag hn
        simp only [bigI_neg, bigI_mag] at e1 e2
        have e3 : n < 0 := by simpa using e1.symm
        have : mag ≠ [] := by
          rw [e2]
          intro h
          have := L_nil.1 h
          omega
        have := List.length_pos_iff.mpr this
        omega
  · refine ⟨false, by simp [ho], by simp [ho], ?_⟩
    simp only [Bool.false_eq_true, false_iff]
    rintro ⟨n, hn, h60⟩
    have e2 := congrArg TBigInt.fMag hn
    simp only [bigI_mag] at e2
    exact ho (h3.2 (e2 ▸ ⟨L_can _, h60⟩))

theorem ratOk_both {r : TRat} (hm : r.fNum.fMag.length ≤ 2000000) (hd : r.fDen.length ≤ 2000000) : ∃ ok, spec_RatOk r = some ok ∧ impl_RatOk r = some ok ∧ (ok = true ↔ ∃ p, Fr p ∧ r = mk p) := by
  obtain ⟨o1, a1, a2, a3⟩ := bigIntOk_both (x := r.fNum) (by omega)
  obtain ⟨o2, b1, b2, b3⟩ := natOk_both (a := r.fDen) (by omega)
  unfold spec_RatOk impl_RatOk
  rw [a1, a2]
  simp only [Option.bind_eq_bind, Option.bind_some, len_eI]
  by_cases h1 : o1 = true
  · rw [if_pos h1, if_pos h1, b1, b2]
    simp only [Option.bind_some]
    by_cases h2 : o2 = true
    · rw [if_pos h2, if_pos h2]
      obtain ⟨n, hn, hn60⟩ := a3.1 h1
      obtain ⟨hd1, hd60⟩ := b3.1 h2
      have hdv := V_nonneg hd1.1
      have hdl : r.fDen = L (V r.fDen) := (L_V hd1).symm
      have hnl : r.fNum.fMag = L n.natAbs := by rw [hn]; rfl
      by_cases h3 : r.fDen = []
      · rw [if_pos (by simp [h3]), if_pos (by simp [h3])]
        refine ⟨false, rfl, rfl, ?_⟩
        simp only [Bool.false_eq_true, false_iff]
        rintro ⟨p, hp, hr⟩
        have e : r.fDen = L p.2 := by rw [hr]; rfl
        rw [h3] at e
        have := L_nil.1 e.symm
        have := hp.pos
        omega
      · have hdp := V_pos hd1 h3
        have hlp := List.length_pos_iff.mpr h3
        have hd0 : ¬ ((((r.fDen.length : Nat) : Int) == 0) = true) := by simp [h3]
        rw [if_neg hd0, if_neg hd0]
        by_cases h4 : 24 < r.fDen.length
        · rw [if_pos (by simp; omega)]
          have hno : ¬ ∃ p, Fr p ∧ r = mk p := by
            rintro ⟨p, hp, hr⟩
            have e : r.fDen = L p.2 := by rw [hr]; rfl
            have := (L_len (k := 24) (by have := hp.pos; omega)).2 hp.den
            rw [← e] at this
            omega
          refine ⟨false, rfl, ?_, by simp [hno]⟩
          by_cases h5 : 24 < r.fNum.fMag.length
          · rw [if_pos (by simp; omega)]
          · rw [if_neg (by simp; omega), if_pos (by simp; omega)]
        · rw [if_neg (by simp; omega)]
          by_cases h5 : 24 < r.fNum.fMag.length
          · rw [if_pos (by simp; omega), if_pos (by simp; omega)]
            refine ⟨false, rfl, rfl, ?_⟩
            simp only [Bool.false_eq_true, false_iff]
            rintro ⟨p, hp, hr⟩
            have e : r.fNum.fMag = L p.1.natAbs := by rw [hr]; rfl
            have := (L_len (k := 24) (by omega)).2 hp.num
            rw [← e] at this
            omega
          · rw [if_neg (by simp; omega), if_neg (by simp; omega), if_neg (by simp; omega)]
            rw [hnl] at h5 ⊢
            rw [gcd_eq (L_can _) hd1 (by omega) (by omega), divisor_eq (L_can _) hd1 (by omega) (by omega), V_L (by omega), gcd_abs hdv]
            simp only [Option.bind_some]
            have hg := gcd_pos (n := n) hdp
            have h1n : Nf [1] := Nf.one (by omega)
            have hgl : (L (Int.gcd n (V r.fDen))).length ≤ 5000000 := by
              have h7 : (Int.gcd n (V r.fDen) : Int) ≤ V r.fDen := Int.le_of_dvd hdp (Int.gcd_dvd_right ..)
              have := (L_len (k := 24) (by omega)).2 (show (Int.gcd n (V r.fDen) : Int) < B 24 by
                have := (hd1.len (k := 24)).1 (by omega)
                omega)
              omega
            rw [one_eq (by omega), compare_eq (L_can _) h1n hgl, V_L (by omega)]
            have hv1 : V [1] = 1 := by decide
            rw [hv1]
            simp only [Option.bind_some]
            refine ⟨decide ((Int.gcd n (V r.fDen) : Int) = 1), rfl, ?_, ?_⟩
            · congr 1
              rw [Bool.eq_iff_iff]
              simp [cmp3_zero]
            · rw [decide_eq_true_iff]
              constructor
              · intro hu
                refine ⟨(n, V r.fDen), ⟨hdp, by simp only; omega, (L_len (by omega)).1 (by simp only; omega), (hd1.len).1 (by omega)⟩, ?_⟩
                obtain ⟨num, den⟩ := r
                simp only at hn hdl ⊢
                unfold mk
                simp only
                rw [← hdl, ← hn]
              · rintro ⟨p, hp, hr⟩
                have e : r.fDen = L p.2 := by rw [hr]; rfl
                have e2 : r.fNum = bigI p.1 := by rw [hr]; rfl
                have e3 : V r.fDen = p.2 := by rw [e, V_L (by have := hp.pos; omega)]
                have e4 : n = p.1 := by
                  rw [hn] at e2
                  have f1 := congrArg TBigInt.fNeg e2
                  have f2 := congrArg TBigInt.fMag e2
                  simp only [bigI_neg, bigI_mag] at f1 f2
                  have f3 := congrArg V f2
                  rw [V_L (by omega), V_L (by omega)] at f3
                  have f4 : n < 0 ↔ p.1 < 0 := by
                    constructor
                    · intro h; simpa [h] using f1.symm
                    · intro h; simpa [h] using f1
                  omega
                rw [e3, e4, hp.red]
                rfl
    · refine ⟨false, by simp [h2], by simp [h2], ?_⟩
      simp only [Bool.false_eq_true, false_iff]
      rintro ⟨p, hp, hr⟩
      have e : r.fDen = L p.2 := by rw [hr]; rfl
      have := (L_len (k := 24) (by have := hp.pos; omega)).2 hp.den
      exact h2 (b3.2 (e ▸ ⟨L_can _, by omega⟩))
  · refine ⟨false, by simp [h1], by simp [h1], ?_⟩
    simp only [Bool.false_eq_true, false_iff]
    rintro ⟨p, hp, hr⟩
    have e2 : r.fNum = bigI p.1 := by rw [hr]; rfl
    have := (L_len (k := 24) (n := p.1.natAbs) (by omega)).2 hp.num
    exact h1 (a3.2 ⟨p.1, e2, by omega⟩)

def OkQ (x : Option (Int × Int)) : Prop := ∀ p, x = some p → Fr p

theorem Fr.lnum {p : Int × Int} (h : Fr p) : (L p.1.natAbs).length ≤ 24 := (L_len (by omega)).2 h.num

theorem Fr.lden {p : Int × Int} (h : Fr p) : (L p.2).length ≤ 24 := (L_len (by have := h.pos; omega)).2 h.den

theorem bad_ok : spec_RatOk bad = some false := by
  obtain ⟨o, h3, -, h4⟩ := ratOk_both (r := bad) (by simp [bad]) (by simp [bad])
  rw [h3]
  congr 1
  cases o with
  | false => rfl
  | true =>
    obtain ⟨p, hp, hr⟩ := h4.1 rfl
    have e : [] = L p.2 := congrArg TRat.fDen hr
    have := L_nil.1 e.symm
    have := hp.pos
    omega

theorem enc_ok {x : Option (Int × Int)} (h : OkQ x) : spec_RatOk (enc x) = some x.isSome := by
  cases x with
  | none => exact bad_ok
  | some p =>
    have hp := h p rfl
    have h1 := hp.lnum
    have h2 := hp.lden
    obtain ⟨o, h3, -, h4⟩ := ratOk_both (r := mk p) (show (L p.1.natAbs).length ≤ _ by omega) (show (L p.2).length ≤ _ by omega)
    have : o = true := h4.2 ⟨p, hp, rfl⟩
    subst this
    exact h3

theorem load_eq {r : TRat} (hm : r.fNum.fMag.length ≤ 2000000) (hd : r.fDen.length ≤ 2000000) : (∃ p, Fr p ∧ r = mk p ∧ spec_RatOk r = some true ∧ impl_load r = some (some (mkO p))) ∨ (spec_RatOk r = some false ∧ impl_load r = some none) := by
  obtain ⟨o, h1, h2, h3⟩ := ratOk_both hm hd
  cases o with
  | false =>
    refine .inr ⟨h1, ?_⟩
    unfold impl_load
    rw [h2]
    rfl
  | true =>
    obtain ⟨p, hp, hr⟩ := h3.1 rfl
    refine .inl ⟨p, hp, hr, h1, ?_⟩
    unfold impl_load
    rw [h2]
    subst hr
    rfl

theorem B_mul (m n : Nat) : B m * B n = B (m + n) := (B_add m n).symm

theorem len_mul {x y : Int} {m n : Nat} (hx : 0 ≤ x) (hy : 0 ≤ y) (h1 : x < B m) (h2 : y < B n) : (L (x * y)).length ≤ m + n := by
  apply (L_len (Int.mul_nonneg hx hy)).2
  rw [← B_mul]
  have h3 : x * y ≤ (B m - 1) * (B n - 1) := Int.mul_le_mul (by omega) (by omega) hy (by omega)
  have h4 : (B m - 1) * (B n - 1) = B m * B n - B m - B n + 1 := by grind
  have h5 := B_pos m
  have h6 := B_pos n
  omega

noncomputable def qmul (x y : Option (Int × Int)) : Option (Int × Int) := x.bind fun p => y.bind fun q => low (p.1 * q.1) (p.2 * q.2)

theorem qmul_some {p q : Int × Int} : qmul (some p) (some q) = low (p.1 * q.1) (p.2 * q.2) := by
  unfold qmul
  rw [Option.bind_some, Option.bind_some]

theorem l04Mul_raw (r s : TRat) {a b : Int} (ha : 0 ≤ a) (hb : 0 < b) (h1 : spec_l02Mul r.fNum.fMag s.fNum.fMag = some (L a)) (h2 : spec_l02Mul r.fDen s.fDen = some (L b)) (h3 : (L a).length ≤ 900000) (h4 : (L b).length ≤ 900000) : spec_l04Mul r s = some (enc (low (sg (!(r.fNum.fNeg == s.fNum.fNeg)) a) b)) := by
  unfold spec_l04Mul
  rw [h1]
  simp only [Option.bind_eq_bind, Option.bind_some]
  rw [h2]
  simp only [Option.bind_some]
  rw [l04Low_eq ha hb h3 h4]
  simp only [Option.bind_some]

theorem l04Mul_eq {p q : Int × Int} (hp : Fr p) (hq : Fr q) : spec_l04Mul (mk p) (mk q) = some (enc (low (p.1 * q.1) (p.2 * q.2))) := by
  have h1 := hp.lnum
  have h2 := hp.lden
  have h3 := hq.lnum
  have h4 := hq.lden
  have h5 := hp.pos
  have h6 := hq.pos
  have h7 := len_mul (x := p.1.natAbs) (y := q.1.natAbs) (by omega) (by omega) hp.num hq.num
  have h8 := len_mul (x := p.2) (y := q.2) (by omega) (by omega) hp.den hq.den
  have e1 : spec_l02Mul (L p.1.natAbs) (L q.1.natAbs) = some (L ((p.1.natAbs : Int) * q.1.natAbs)) := by
    rw [mul_eq (L_lim _) (L_lim _) (by omega) (by omega), V_L (by omega), V_L (by omega)]
  have e2 : spec_l02Mul (L p.2) (L q.2) = some (L (p.2 * q.2)) := by
    rw [mul_eq (L_lim _) (L_lim _) (by omega) (by omega), V_L (by omega), V_L (by omega)]
  have := l04Mul_raw (mk p) (mk q) (a := (p.1.natAbs : Int) * q.1.natAbs) (b := p.2 * q.2) (Int.mul_nonneg (by omega) (by omega)) (Int.mul_pos h5 h6) e1 e2 (by omega) (by omega)
  rw [this]
  have e3 : sg (!((mk p).fNum.fNeg == (mk q).fNum.fNeg)) ((p.1.natAbs : Int) * q.1.natAbs) = p.1 * q.1 := sg_mul
  rw [e3]

theorem ratMul_eq {x y : Option (Int × Int)} (hx : OkQ x) (hy : OkQ y) : spec_RatMul (enc x) (enc y) = some (enc (qmul x y)) := by
  unfold spec_RatMul
  rw [enc_ok hx, enc_ok hy]
  cases x with
  | none =>
    simp only [Option.isSome_none, Option.bind_eq_bind, Option.bind_some, Bool.false_eq_true, if_false]
    rfl
  | some p =>
    cases y with
    | none =>
      simp only [Option.isSome_none, Option.isSome_some, Option.bind_eq_bind, Option.bind_some, Bool.false_eq_true, if_false, if_true]
      rfl
    | some q =>
      simp only [Option.bind_eq_bind, Option.bind_some, Option.isSome_some, if_true]
      show (spec_l04Mul (mk p) (mk q)).bind _ = _
      rw [l04Mul_eq (hx p rfl) (hy q rfl), qmul_some]
      simp only [Option.bind_some]

theorem qmul_ok {x y : Option (Int × Int)} (hx : OkQ x) (hy : OkQ y) : OkQ (qmul x y) := by
  intro r hr
  cases x with
  | none => simp [qmul] at hr
  | some p =>
    cases y with
    | none => simp [qmul] at hr
    | some q =>
      rw [qmul_some] at hr
      exact low_fr (Int.mul_pos (hx p rfl).pos (hy q rfl).pos) r hr

theorem lowest_eq {n d : Int} (hd : 0 < d) (hln : (L n.natAbs).length ≤ 900000) (hld : (L d).length ≤ 900000) : impl_lowest (bigI n) (L d) = some (some (mkO (n / (Int.gcd n d : Int), d / (Int.gcd n d : Int)))) := by
  obtain ⟨m, e, h1, h2, h3, h4, h5, h6⟩ := div_gcd (n := n) hd
  have hg := gcd_pos (n := n) hd
  rw [h1, h2]
  unfold impl_lowest
  simp only [bigI_mag, bigI_neg, len_eI]
  by_cases hn : n = 0
  · subst hn
    have hgd : (Int.gcd 0 d : Int) = d := by rw [Int.gcd_comm, gcd_end (by omega)]
    rw [hgd] at h3 h4
    have hm : m = 0 := by
      rcases Int.mul_eq_zero.1 h3.symm with h | h <;> omega
    have he : e = 1 := by
      have : d * e = d * 1 := by omega
      exact Int.eq_of_mul_eq_mul_left (by omega) this
    subst hm he
    rw [if_pos (by simp [L_zero])]
    unfold mkO bigI
    simp only [Int.natAbs_zero]
    rw [L_small (x := 1) (by omega), show ((0 : Nat) : Int) = 0 from rfl, L_zero]
    rfl
  · have hln0 : ¬ ((((L n.natAbs).length : Nat) : Int) == 0) = true := by
      simp only [beq_iff_eq]
      intro h
      have := (len0 (n := n.natAbs) (by omega)).1 h
      omega
    rw [if_neg hln0, divisor_eq (L_can _) (L_can _) hln hld, V_L (by omega), V_L (by omega), gcd_abs (by omega)]
    simp only [Option.bind_eq_bind, Option.bind_some]
    have hgl : (L (Int.gcd n d)).length ≤ 900000 := by
      have h7 : (Int.gcd n d : Int) ≤ d := Int.le_of_dvd hd (Int.gcd_dvd_right ..)
      apply (L_len (by omega)).2
      have := (L_len (n := d) (by omega)).1 hld
      omega
    rw [compare_eq (L_can _) (Nf.one (by omega)) (by omega), V_L (by omega), show V [1] = 1 by decide]
    simp only [Option.bind_some]
    by_cases hu : (Int.gcd n d : Int) = 1
    · rw [if_pos (by simpa using cmp3_zero.2 hu)]
      rw [hu] at h3 h4
      rw [Int.one_mul] at h3 h4
      subst h3 h4
      rfl
    · rw [if_neg (fun h => hu (cmp3_zero.1 (by simpa using h)))]
      have hg0 : L (Int.gcd n d) ≠ [] := fun h => by
        have := L_nil.1 h
        omega
      rw [over_eq (L_can _) (L_can _) hg0 hln hgl, V_L (by omega), V_L (by omega)]
      simp only [Option.bind_some]
      rw [over_eq (L_can _) (L_can _) hg0 hld hgl, V_L (by omega), V_L (by omega)]
      simp only [Option.bind_some]
      rw [h6, h2, signed_eq (by omega)]
      simp only [Option.bind_some]
      have hs : sg (decide (n < 0)) (m.natAbs : Int) = m := by
        refine sg_div (p := n.natAbs) (g := Int.gcd n d) (by omega) hg ?_
        rw [← h3]
        unfold sg
        by_cases h : n < 0 <;> simp [h] <;> omega
      rw [hs]
      rfl

theorem fit_eq {m e : Int} (he : 0 ≤ e) : impl_fit (some (mkO (m, e))) = some (encO (if fits (m.natAbs : Int) ∧ fits e then some (m, e) else none)) := by
  have hs : impl_fit (some (mkO (m, e))) = if (decide ((24 : Int) < len_ eI (L m.natAbs))) = true then some none else if (decide ((24 : Int) < len_ eI (L e))) = true then some none else some (some (mkO (m, e))) := rfl
  rw [hs, len_eI, len_eI]
  by_cases h1 : fits (m.natAbs : Int)
  · have h2 := (L_len (by omega)).2 h1
    rw [if_neg (by simp; omega)]
    by_cases h3 : fits e
    · have h4 := (L_len he).2 h3
      rw [if_neg (by simp; omega), if_pos ⟨h1, h3⟩]
      rfl
    · have h4 : ¬ (L e).length ≤ 24 := fun h => h3 ((L_len he).1 h)
      rw [if_pos (by simp; omega), if_neg (fun h => h3 h.2)]
      rfl
  · have h4 : ¬ (L m.natAbs).length ≤ 24 := fun h => h1 ((L_len (by omega)).1 h)
    rw [if_pos (by simp; omega), if_neg (fun h => h1 h.1)]
    rfl

theorem lowfit {n d : Int} (hd : 0 < d) (hln : (L n.natAbs).length ≤ 900000) (hld : (L d).length ≤ 900000) : (impl_lowest (bigI n) (L d)).bind (fun r => impl_fit r) = some (encO (low n d)) := by
  obtain ⟨m, e, h1, h2, h3, h4, h5, h6⟩ := div_gcd (n := n) hd
  rw [lowest_eq hd hln hld, Option.bind_some, h1, h2, fit_eq (by omega)]
  unfold low
  rw [h1, h2]

theorem big_times {a b : Int} (ha : (L a.natAbs).length ≤ 900000) (hb : (L b.natAbs).length ≤ 900000) : impl_BigInt_times (bigI a) (bigI b) = some (bigI (a * b)) := by
  unfold impl_BigInt_times
  simp only [bigI_mag, bigI_neg]
  rw [times_eq (L_lim _) (L_lim _) (by omega) (by omega), V_L (by omega), V_L (by omega)]
  simp only [Option.bind_eq_bind, Option.bind_some]
  rw [signed_eq (Int.mul_nonneg (by omega) (by omega)), sg_mul]
  rfl

theorem mul_eqO {x y : Option (Int × Int)} (hx : OkQ x) (hy : OkQ y) : impl_mul (encO x) (encO y) = some (encO (qmul x y)) := by
  cases x with
  | none => rfl
  | some p =>
    cases y with
    | none => rfl
    | some q =>
      have hp := hx p rfl
      have hq := hy q rfl
      have h1 := hp.lnum
      have h2 := hp.lden
      have h3 := hq.lnum
      have h4 := hq.lden
      have h5 := hp.pos
      have h6 := hq.pos
      have h7 := len_mul (x := p.1.natAbs) (y := q.1.natAbs) (by omega) (by omega) hp.num hq.num
      have h8 := len_mul (x := p.2) (y := q.2) (by omega) (by omega) hp.den hq.den
      unfold impl_mul impl_ratio_times
      simp only [encO, Option.map_some, Option.elim_some, Option.bind_eq_bind, Option.bind_some, mkO]
      rw [big_times (by omega) (by omega)]
      simp only [Option.bind_some]
      rw [times_eq (L_lim _) (L_lim _) (by omega) (by omega), V_L (by omega), V_L (by omega)]
      simp only [Option.bind_some]
      have := lowfit (n := p.1 * q.1) (d := p.2 * q.2) (Int.mul_pos h5 h6) (by rw [Int.natAbs_mul, Int.natCast_mul]; omega) (by omega)
      rw [lowest_eq (Int.mul_pos h5 h6) (by rw [Int.natAbs_mul, Int.natCast_mul]; omega) (by omega)] at this ⊢
      simp only [Option.bind_some] at this ⊢
      rw [this, qmul_some]
      simp only [Option.bind_some, encO]

theorem B24_big : (1000000000000000000000000000 : Int) ≤ B 24 := by
  have h : B 3 ≤ B 24 := B_mono (by omega)
  have h3 : B 3 = 1000000000000000000000000000 := by decide
  omega

theorem B60_big : (1000000000000000000000000000 : Int) ≤ B 60 := by
  have := B24_60
  have := B24_big
  omega

theorem bigIntOf_eq {n : Int} (h : In64 n) : spec_BigIntOf n = some (bigI n) := by
  obtain ⟨h1, h2⟩ := in64_iff.1 h
  have hb := B60_big
  unfold spec_BigIntOf
  by_cases hm : n = -9223372036854775808
  · rw [if_pos (by simpa using hm)]
    have e : ([854775808, 223372036, 9] : List Int) = L 9223372036854775808 := L_eq ⟨by intro x hx; simp at hx; omega, by simp⟩ (by decide)
    rw [e, make_eq (by omega) (by omega)]
    subst hm
    rfl
  · rw [if_neg (by simpa using hm)]
    by_cases hn : n < 0
    · rw [if_pos (by simpa using hn), w64_eq (by omega) (by omega), natOf_eq (by omega) (by omega)]
      simp only [Option.bind_eq_bind, Option.bind_some]
      rw [make_eq (by omega) (by omega)]
      simp only [Option.bind_some]
      congr 2
      unfold sg
      simp
    · rw [if_neg (by simpa using hn), natOf_eq (by omega) (by omega)]
      simp only [Option.bind_eq_bind, Option.bind_some]
      rw [make_eq (by omega) (by omega)]
      simp only [Option.bind_some]
      congr 2

theorem integer_eq {n : Int} (h : In64 n) : impl_integer n = some (bigI n) := by
  obtain ⟨h1, h2⟩ := in64_iff.1 h
  unfold impl_integer
  by_cases hn : n < 0
  · rw [if_pos (by simpa using hn), w64_eq (x := n + 1) (by omega) (by omega), w64_eq (x := 0 - (n + 1)) (by omega) (by omega), wrapu (x := 0 - (n + 1)) (by omega) (by omega), wrapu (by omega) (by omega), limbsOf_eq (by omega) (by omega)]
    simp only [Option.bind_eq_bind, Option.bind_some]
    rw [signed_eq (by omega)]
    simp only [Option.bind_some]
    congr 2
    unfold sg
    simp
    omega
  · rw [if_neg (by simpa using hn), wrapu (by omega) (by omega), limbsOf_eq (by omega) (by omega)]
    simp only [Option.bind_eq_bind, Option.bind_some]
    rw [signed_eq (by omega)]
    simp only [Option.bind_some]
    congr 2

theorem L_one : L 1 = [1] := L_small (by omega)

theorem ratFromInt_eq {n : Int} (h : In64 n) : spec_RatFromInt n = some (mk (n, 1)) := by
  unfold spec_RatFromInt
  rw [bigIntOf_eq h]
  simp only [Option.bind_eq_bind, Option.bind_some, mk, L_one]

theorem whole_eq {n : Int} (h : In64 n) : impl_whole n = some (some (mkO (n, 1))) := by
  unfold impl_whole
  rw [integer_eq h]
  simp only [Option.bind_eq_bind, Option.bind_some, mkO, L_one]

theorem fr_int {n : Int} (h : In64 n) : Fr (n, 1) := by
  obtain ⟨h1, h2⟩ := in64_iff.1 h
  have hb := B24_big
  exact ⟨by simp, by simp, by simp only; omega, by simp only; omega⟩

/-- Two fractions compared. -/
theorem l04Cmp_eq {p q : Int × Int} (hp : Fr p) (hq : Fr q) : spec_l04Cmp (mk p) (mk q) = some (cmp3 (p.1 * q.2) (q.1 * p.2)) := by
  have h1 := hp.lnum
  have h2 := hp.lden
  have h3 := hq.lnum
  have h4 := hq.lden
  have h5 := hp.pos
  have h6 := hq.pos
  have h7 := len_mul (x := p.1.natAbs) (y := q.2) (by omega) (by omega) hp.num hq.den
  have h8 := len_mul (x := q.1.natAbs) (y := p.2) (by omega) (by omega) hq.num hp.den
  have n7 : 0 ≤ (p.1.natAbs : Int) * q.2 := Int.mul_nonneg (by omega) (by omega)
  have n8 : 0 ≤ (q.1.natAbs : Int) * p.2 := Int.mul_nonneg (by omega) (by omega)
  have a7 : ((p.1 * q.2).natAbs : Int) = (p.1.natAbs : Int) * q.2 := by
    rw [Int.natAbs_mul, Int.natCast_mul]
    congr 1
    omega
  have a8 : ((q.1 * p.2).natAbs : Int) = (q.1.natAbs : Int) * p.2 := by
    rw [Int.natAbs_mul, Int.natCast_mul]
    congr 1
    omega
  have e1 : spec_l02Mul (mk p).fNum.fMag (mk q).fDen = some (L ((p.1.natAbs : Int) * q.2)) := by
    show spec_l02Mul (L p.1.natAbs) (L q.2) = _
    rw [mul_eq (L_lim _) (L_lim _) (by omega) (by omega), V_L (by omega), V_L (by omega)]
  have e2 : spec_l02Mul (mk q).fNum.fMag (mk p).fDen = some (L ((q.1.natAbs : Int) * p.2)) := by
    show spec_l02Mul (L q.1.natAbs) (L p.2) = _
    rw [mul_eq (L_lim _) (L_lim _) (by omega) (by omega), V_L (by omega), V_L (by omega)]
  have e3 : spec_l03Make (mk p).fNum.fNeg (L ((p.1.natAbs : Int) * q.2)) = some (bigI (p.1 * q.2)) := by
    show spec_l03Make (decide (p.1 < 0)) _ = _
    rw [make_eq n7 ((L_len n7).1 (by omega)), sg_mul1]
  have e4 : spec_l03Make (mk q).fNum.fNeg (L ((q.1.natAbs : Int) * p.2)) = some (bigI (q.1 * p.2)) := by
    show spec_l03Make (decide (q.1 < 0)) _ = _
    rw [make_eq n8 ((L_len n8).1 (by omega)), sg_mul1]
  unfold spec_l04Cmp
  rw [e1, Option.bind_eq_bind, Option.bind_some, e3, Option.bind_eq_bind, Option.bind_some, e2, Option.bind_eq_bind, Option.bind_some, e4, Option.bind_some, l03Cmp_eq (by rw [a7]; omega) (by rw [a8]; omega)]
  rfl

theorem scaled_eq {p : Int × Int} {d : Int} (hd : 0 ≤ d) (h1 : (L p.1.natAbs).length ≤ 900000) (h2 : (L d).length ≤ 900000) : impl_ratio_scaled (some (mkO p)) (L d) = some (bigI (p.1 * d)) := by
  have e1 : impl_times (mkO p).gNum.fMag (L d) = some (L ((p.1.natAbs : Int) * d)) := by
    show impl_times (L p.1.natAbs) (L d) = _
    rw [times_eq (L_lim _) (L_lim _) (by omega) (by omega), V_L (by omega), V_L (by omega)]
  have n7 : 0 ≤ (p.1.natAbs : Int) * d := Int.mul_nonneg (by omega) (by omega)
  have e3 : impl_signed (mkO p).gNum.fNeg (L ((p.1.natAbs : Int) * d)) = some (bigI (p.1 * d)) := by
    show impl_signed (decide (p.1 < 0)) _ = _
    rw [signed_eq n7, sg_mul1]
  unfold impl_ratio_scaled
  rw [Option.bind_eq_bind, Option.bind_some, e1, Option.bind_eq_bind, Option.bind_some, e3]
  rfl

theorem mulabs {a d : Int} (hd : 0 ≤ d) : ((a * d).natAbs : Int) = (a.natAbs : Int) * d := by
  rw [Int.natAbs_mul, Int.natCast_mul]
  congr 1
  omega

theorem ratio_Cmp_eq {p q : Int × Int} {i j k l : Nat} (hp : 0 < p.2) (hq : 0 < q.2) (h1 : (p.1.natAbs : Int) < B i) (h2 : p.2 < B j) (h3 : (q.1.natAbs : Int) < B k) (h4 : q.2 < B l) (hi : i ≤ 1000) (hj : j ≤ 1000) (hk : k ≤ 1000) (hl : l ≤ 1000) : impl_ratio_Cmp (some (mkO p)) (some (mkO q)) = some (cmp3 (p.1 * q.2) (q.1 * p.2)) := by
  have l1 := (L_len (by omega)).2 h1
  have l2 := (L_len (by omega)).2 h2
  have l3 := (L_len (by omega)).2 h3
  have l4 := (L_len (by omega)).2 h4
  have h7 := len_mul (x := p.1.natAbs) (y := q.2) (by omega) (by omega) h1 h4
  have h8 := len_mul (x := q.1.natAbs) (y := p.2) (by omega) (by omega) h3 h2
  unfold impl_ratio_Cmp
  rw [Option.bind_eq_bind, Option.bind_some]
  show (impl_ratio_scaled (some (mkO p)) (L q.2)).bind _ = _
  rw [scaled_eq (by omega) (by omega) (by omega), Option.bind_some, Option.bind_eq_bind, Option.bind_some]
  show (impl_ratio_scaled (some (mkO q)) (L p.2)).bind _ = _
  rw [scaled_eq (by omega) (by omega) (by omega), Option.bind_some, BigInt_compare_eq (by rw [mulabs (by omega)]; omega) (by rw [mulabs (by omega)]; omega)]
  rfl

theorem l01In_eq (n lo hi : Int) : spec_l01In n lo hi = some (decide (lo ≤ n ∧ n ≤ hi)) := by
  unfold spec_l01In
  by_cases h : lo ≤ n <;> simp [h]

theorem scan_none {α β : Type} {t : Nat → α → Option β} : ∀ (l : List α) (k : Nat), (∀ n x, l[n]? = some x → t (k + n) x = none) → scan t k l = none
  | [], _, _ => rfl
  | x :: l, k, h => by
    have h0 := h 0 x rfl
    simp only [Nat.add_zero] at h0
    simp only [scan, h0]
    exact scan_none l (k + 1) fun n y hy => by rw [show k + 1 + n = k + (n + 1) by omega]; exact h (n + 1) y (by simpa using hy)

theorem eqIntS_self (l : List Int) (h : l.length ≤ 1048576) : laws_eqIntS l l = some true := by
  have h1 : laws_eqIntS_L1 l l 0 = some (.inl ()) := by
    have := iter_scan (f := fun w => laws_eqIntS_L1_body l l w) (t := fun _ _ => none) (e := .inl ()) l 0 (fun n x hx => by
      have hn := lt_of_get hx
      have hw : w64 ((n : Int) + 1) = ((n + 1 : Nat) : Int) := by rw [w64_eq (by omega) (by omega)]; rfl
      simp only [laws_eqIntS_L1_body, len_eq, Nat.zero_add, hw]
      simp [hn]) (by simp [laws_eqIntS_L1_body, len_eq])
    rw [scan_none l 0 (fun _ _ _ => rfl)] at this
    exact this
  simp [laws_eqIntS, h1]

theorem eqJoint_self (j : TJoint) : laws_eqJoint j j = some true := by simp [laws_eqJoint]

theorem eqMember_self (j : TMember) : laws_eqMember j j = some true := by simp [laws_eqMember]

theorem eqJointS_self (l : List TJoint) (h : l.length ≤ 1048576) : laws_eqJointS l l = some true := by
  have h1 : laws_eqJointS_L1 l l 0 = some (.inl ()) := by
    have := iter_scan (f := fun w => laws_eqJointS_L1_body l l w) (t := fun _ _ => none) (e := .inl ()) l 0 (fun n x hx => by
      have hn := lt_of_get hx
      have hw : w64 ((n : Int) + 1) = ((n + 1 : Nat) : Int) := by rw [w64_eq (by omega) (by omega)]; rfl
      simp only [laws_eqJointS_L1_body, len_eq, Nat.zero_add, hw]
      simp [hn, eqJoint_self]) (by simp [laws_eqJointS_L1_body, len_eq])
    rw [scan_none l 0 (fun _ _ _ => rfl)] at this
    exact this
  simp [laws_eqJointS, h1]

theorem eqMemberS_self (l : List TMember) (h : l.length ≤ 1048576) : laws_eqMemberS l l = some true := by
  have h1 : laws_eqMemberS_L1 l l 0 = some (.inl ()) := by
    have := iter_scan (f := fun w => laws_eqMemberS_L1_body l l w) (t := fun _ _ => none) (e := .inl ()) l 0 (fun n x hx => by
      have hn := lt_of_get hx
      have hw : w64 ((n : Int) + 1) = ((n + 1 : Nat) : Int) := by rw [w64_eq (by omega) (by omega)]; rfl
      simp only [laws_eqMemberS_L1_body, len_eq, Nat.zero_add, hw]
      simp [hn, eqMember_self]) (by simp [laws_eqMemberS_L1_body, len_eq])
    rw [scan_none l 0 (fun _ _ _ => rfl)] at this
    exact this
  simp [laws_eqMemberS, h1]

theorem eqStructure_self (s : TStructure) (h1 : s.fJoints.length ≤ 1048576) (h2 : s.fMembers.length ≤ 1048576) : laws_eqStructure s s = some true := by
  simp [laws_eqStructure, eqJointS_self _ h1, eqMemberS_self _ h2]

theorem szJoint_some (j : TJoint) (left : Int) (hj : j.fName.size ≤ maxLen) (h0 : 0 ≤ left) (h1 : left ≤ 1048576) : ∃ r, laws_szJoint j left = some r ∧ r ≤ left := by
  have hm : j.fName.size < 9223372036854775808 := by have : maxLen = 9223372036854775807 := by decide
                                                     omega
  have hw : w64 (left - j.fName.size) = left - j.fName.size := w64_eq (by omega) (by omega)
  unfold laws_szJoint
  rw [hw]
  by_cases h : left - (j.fName.size : Int) < 0
  · exact ⟨-1, by simp [h], by omega⟩
  · exact ⟨left - j.fName.size, by simp [h], by omega⟩

theorem szJointS_some (l : List TJoint) (left : Int) (hl : l.length ≤ maxLen) (hj : ∀ j ∈ l, j.fName.size ≤ maxLen) (h0 : 0 ≤ left) (h1 : left ≤ 1048576) :
    ∃ r, laws_szJointS l left = some r ∧ r ≤ left ∧ (0 ≤ r → l.length ≤ 1048576) := by
  have hm : maxLen = 9223372036854775807 := by decide
  have hw : w64 (left - (l.length : Nat)) = left - (l.length : Nat) := w64_eq (by omega) (by omega)
  unfold laws_szJointS
  simp only [len_eq, hw]
  by_cases h : left - (l.length : Int) < 0
  · exact ⟨-1, by simp [h], by omega, by omega⟩
  · obtain ⟨r, r1, r2⟩ := iter_inv (f := fun w : Int × Int => laws_szJointS_L1_body l w.1 w.2) (fun w => 0 ≤ w.1 ∧ w.1 ≤ left ∧ 0 ≤ w.2 ∧ w.2 ≤ l.length) (fun w => (l.length - w.2).toNat)
      (fun r => match r with | .inl a => a ≤ left | .inr _ => True) (fun w hw => by
        obtain ⟨a, i⟩ := w
        simp only at hw
        obtain ⟨w1, w2, w3, w4⟩ := hw
        by_cases hi : i < l.length
        · obtain ⟨x, hx⟩ : ∃ x, l[i.toNat]? = some x := ⟨_, List.getElem?_eq_getElem (by omega)⟩
          obtain ⟨r, s1, s2⟩ := szJoint_some x a (hj x (List.mem_of_getElem? hx)) w1 (by omega)
          obtain ⟨hn, rfl⟩ := List.getElem?_eq_some_iff.1 hx
          have hi1 : w64 (i + 1) = i + 1 := w64_eq (by omega) (by omega)
          by_cases hr : r < 0
          · right
            exact ⟨.inr (), by simp [laws_szJointS_L1_body, len_eq, hi, w3, hx, s1, hr], trivial⟩
          · left
            refine ⟨(r, i + 1), by simp [laws_szJointS_L1_body, len_eq, hi, w3, hx, s1, hr, hi1], ?_, ?_⟩
            · simp only; omega
            · simp only; omega
        · right
          exact ⟨.inl a, by simp [laws_szJointS_L1_body, len_eq, hi], by simpa using w2⟩) (left - (l.length : Nat), 0) (by simp only; omega)
    have r1' : laws_szJointS_L1 l (left - (l.length : Nat)) 0 = some r := r1
    rw [r1']
    cases r with
    | inl a => exact ⟨a, by simp [h], r2, by omega⟩
    | inr a => exact ⟨-1, by simp [h], by omega, by omega⟩

theorem szMemberS_some (l : List TMember) (left : Int) (hl : l.length ≤ maxLen) (h0 : 0 ≤ left) (h1 : left ≤ 1048576) :
    ∃ r, laws_szMemberS l left = some r ∧ r ≤ left ∧ (0 ≤ r → l.length ≤ 1048576) := by
  have hm : maxLen = 9223372036854775807 := by decide
  have hw : w64 (left - (l.length : Nat)) = left - (l.length : Nat) := w64_eq (by omega) (by omega)
  unfold laws_szMemberS
  simp only [len_eq, hw]
  by_cases h : left - (l.length : Int) < 0
  · exact ⟨-1, by simp [h], by omega, by omega⟩
  · exact ⟨left - (l.length : Nat), by simp [h], by omega, by omega⟩

theorem szStructure_some (s : TStructure) (i0 : ITStructure s) (left : Int) (h0 : 0 ≤ left) (h1 : left ≤ 1048576) :
    ∃ r, laws_szStructure s left = some r ∧ (0 ≤ r → s.fJoints.length ≤ 1048576 ∧ s.fMembers.length ≤ 1048576) := by
  obtain ⟨⟨a1, a2⟩, a3, a4⟩ := i0
  obtain ⟨r, r1, r2, r3⟩ := szJointS_some s.fJoints left a1 (fun j hj => (a2 j hj).1) h0 h1
  unfold laws_szStructure
  rw [r1]
  by_cases h : r < 0
  · exact ⟨-1, by simp [h], by omega⟩
  · obtain ⟨q, q1, q2, q3⟩ := szMemberS_some s.fMembers r a3 (by omega) (by omega)
    by_cases hq : q < 0
    · exact ⟨-1, by simp [h, q1, hq], by omega⟩
    · exact ⟨q, by simp [h, q1, hq], fun _ => ⟨r3 (by omega), q3 (by omega)⟩⟩

theorem maxLen_eq : maxLen = 9223372036854775807 := by decide

theorem isPlace_eq (n : Int) : impl_isPlace n = spec_l01In n (-50) 50 := by
  rw [l01In_eq]
  unfold impl_isPlace
  by_cases h : -50 ≤ n <;> simp [h]

theorem isLetter_eq (c : Int) : impl_isLetter c = some (decide (97 ≤ c ∧ c ≤ 122)) := by
  unfold impl_isLetter
  by_cases h : 97 ≤ c <;> simp [h]

theorem isDigit_eq (c : Int) : impl_isDigit c = some (decide (48 ≤ c ∧ c ≤ 57)) := by
  unfold impl_isDigit
  by_cases h : 48 ≤ c <;> simp [h]

theorem isName_body (s : ByteArray) (i : Int) : impl_IsName_L1_body s s.size i = spec_IsName_L1_body s i := by
  unfold impl_IsName_L1_body spec_IsName_L1_body
  generalize ((s.data.toList.getD i.toNat 0).toNat : Int) = c
  simp only [isLetter_eq, isDigit_eq, Option.bind_eq_bind, Option.bind_some]
  by_cases h1 : i < (s.size : Int) <;> by_cases h0 : 0 ≤ i <;> by_cases a : (97 : Int) ≤ c <;> by_cases b : c ≤ 122 <;> by_cases d : i = 0 <;> by_cases e : c < 48 <;> by_cases f : 57 < c <;>
    simp [h1, h0, a, b, d, e, f, Int.not_lt.1, Int.not_le] <;> omega

theorem isName_eq (s : ByteArray) : impl_IsName s = spec_IsName s := by
  have h : impl_IsName_L1 s s.size 0 = spec_IsName_L1 s 0 := by
    unfold impl_IsName_L1 spec_IsName_L1
    congr 1
    funext w
    exact isName_body s w
  unfold impl_IsName spec_IsName
  rw [h]
  congr 1
  funext r
  cases r with
  | inr a => rfl
  | inl a =>
    simp only [l01In_eq, Option.bind_eq_bind, Option.bind_some]
    by_cases h0 : s.size = 0
    · have : s = ⟨#[]⟩ := by
        cases s with
        | mk d => simp only [ByteArray.size] at h0; rw [Array.size_eq_zero_iff] at h0; rw [h0]
      subst this
      have e0 : (ByteArray.mk #[]).size = 0 := rfl
      simp [e0]
    · have hne : s.toList ≠ (⟨#[]⟩ : ByteArray).toList := by
        intro e
        have hl : ∀ x : ByteArray, x.toList.length = x.size := by intro x; rw [ByteArray.toList_eq]; rfl
        have := hl s
        rw [e, hl] at this
        exact h0 this.symm
      simp only [beq_iff_eq, hne, Bool.not_eq_true', beq_eq_false_iff_ne, ne_eq, not_false_eq_true, if_true]
      congr 1
      apply decide_eq_decide.2
      omega

theorem isName_some (s : ByteArray) (hs : s.size ≤ maxLen) : ∃ r, spec_IsName s = some r := by
  have hm := maxLen_eq
  obtain ⟨r, h, -⟩ := iter_inv (f := fun w => spec_IsName_L1_body s w) (fun i => 0 ≤ i ∧ i ≤ s.size) (fun i => (s.size - i).toNat) (fun _ => True) (fun i hi => by
    obtain ⟨h0, h1⟩ := hi
    by_cases h2 : i < (s.size : Int)
    · have hw : w64 (i + 1) = i + 1 := w64_eq (by omega) (by omega)
      unfold spec_IsName_L1_body
      generalize ((s.data.toList.getD i.toNat 0).toNat : Int) = c
      have hnext : 0 ≤ i + 1 ∧ i + 1 ≤ (s.size : Int) := by omega
      have hmm : ((s.size : Int) - (i + 1)).toNat < ((s.size : Int) - i).toNat := by omega
      have key : ∀ x : Option (Int ⊕ (Unit ⊕ Unit)), (x = some (.inl (i + 1)) ∨ x = some (.inr (.inr ()))) → (∃ a', x = some (.inl a') ∧ (0 ≤ a' ∧ a' ≤ (s.size : Int)) ∧ ((s.size : Int) - a').toNat < ((s.size : Int) - i).toNat) ∨ ∃ r, x = some (.inr r) ∧ True := by
        intro x hx
        rcases hx with hx | hx
        · exact .inl ⟨i + 1, hx, hnext, hmm⟩
        · exact .inr ⟨_, hx, trivial⟩
      apply key
      simp only [h2, h0, hw, decide_true, if_true, and_self]
      by_cases a : (97 : Int) ≤ c <;> by_cases b : c ≤ 122 <;> by_cases d : i = 0 <;> by_cases e : c < 48 <;> by_cases f : 57 < c <;> simp [a, b, d, e, f]
    · exact .inr ⟨.inl (), by simp [spec_IsName_L1_body, h2], trivial⟩) 0 (by omega)
  have h' : spec_IsName_L1 s 0 = some r := h
  unfold spec_IsName
  rw [h']
  cases r with
  | inl a => exact ⟨_, by simp [l01In_eq]; rfl⟩
  | inr a => exact ⟨_, rfl⟩

theorem jointOk_eq (j : TJoint) : impl_JointOk j = spec_JointOk j := by
  unfold impl_JointOk spec_JointOk
  simp only [isName_eq, isPlace_eq]

theorem jointOk_some (j : TJoint) (h : j.fName.size ≤ maxLen) : ∃ r, spec_JointOk j = some r := by
  obtain ⟨r, hr⟩ := isName_some _ h
  unfold spec_JointOk
  simp only [hr, l01In_eq, Option.bind_eq_bind, Option.bind_some]
  repeat' split
  all_goals exact ⟨_, rfl⟩

theorem jointNamed_eq (s : TStructure) (n : ByteArray) : impl_JointNamed s n = spec_JointNamed s n := by
  have h : s_IndexFunc_impl_JointNamed_1_L1 s.fJoints n (len_ eTJoint s.fJoints) 0 = spec_JointNamed_L1 n s.fJoints (len_ eTJoint s.fJoints) 0 := by
    unfold s_IndexFunc_impl_JointNamed_1_L1 spec_JointNamed_L1
    congr 1
  unfold impl_JointNamed spec_JointNamed s_IndexFunc_impl_JointNamed_1
  rw [h]
  cases spec_JointNamed_L1 n s.fJoints (len_ eTJoint s.fJoints) 0 with
  | none => rfl
  | some r => cases r <;> rfl

theorem jointNamed_some (s : TStructure) (n : ByteArray) (h : s.fJoints.length ≤ maxLen) : ∃ r, spec_JointNamed s n = some r := by
  have hm := maxLen_eq
  obtain ⟨r, h1, -⟩ := iter_inv (f := fun w => spec_JointNamed_L1_body n s.fJoints (len_ eTJoint s.fJoints) w) (fun i => 0 ≤ i ∧ i ≤ s.fJoints.length) (fun i => (s.fJoints.length - i).toNat) (fun _ => True) (fun i hi => by
    obtain ⟨h0, h1⟩ := hi
    by_cases h2 : i < (s.fJoints.length : Int)
    · have hw : w64 (i + 1) = i + 1 := w64_eq (by omega) (by omega)
      obtain ⟨x, hx⟩ : ∃ x, s.fJoints[i.toNat]? = some x := ⟨_, List.getElem?_eq_getElem (by omega)⟩
      unfold spec_JointNamed_L1_body
      simp only [len_eq, h2, h0, hw, hx, decide_true, if_true, and_self, Option.bind_eq_bind, Option.bind_some]
      by_cases e : (x.fName.toList == n.toList) = true
      · exact .inr ⟨_, by rw [if_pos e], trivial⟩
      · exact .inl ⟨i + 1, by rw [if_neg e], by omega, by omega⟩
    · exact .inr ⟨.inl (), by simp [spec_JointNamed_L1_body, len_eq, h2], trivial⟩) 0 (by omega)
  have h' : spec_JointNamed_L1 n s.fJoints (len_ eTJoint s.fJoints) 0 = some r := h1
  unfold spec_JointNamed
  rw [h']
  cases r with
  | inl a => exact ⟨_, rfl⟩
  | inr a => exact ⟨_, rfl⟩

theorem structure_L1_eq (s : TStructure) : impl_StructureOk_L1 s.fJoints (len_ eTJoint s.fJoints) s.fMembers 0 = spec_StructureOk_L1 s.fJoints (len_ eTJoint s.fJoints) s.fMembers 0 := by
  unfold impl_StructureOk_L1 spec_StructureOk_L1
  congr 1
  funext w
  unfold impl_StructureOk_L1_body spec_StructureOk_L1_body
  simp only [jointOk_eq, jointNamed_eq]

theorem structure_L1_some (s : TStructure) (i0 : ITStructure s) : ∃ r, spec_StructureOk_L1 s.fJoints (len_ eTJoint s.fJoints) s.fMembers 0 = some r := by
  have hm := maxLen_eq
  obtain ⟨⟨a1, a2⟩, -⟩ := i0
  obtain ⟨r, h1, -⟩ := iter_inv (f := fun w => spec_StructureOk_L1_body s.fJoints (len_ eTJoint s.fJoints) s.fMembers w) (fun i => 0 ≤ i ∧ i ≤ s.fJoints.length) (fun i => (s.fJoints.length - i).toNat) (fun _ => True) (fun i hi => by
    obtain ⟨h0, h1⟩ := hi
    by_cases h2 : i < (s.fJoints.length : Int)
    · have hw : w64 (i + 1) = i + 1 := w64_eq (by omega) (by omega)
      obtain ⟨x, hx⟩ : ∃ x, s.fJoints[i.toNat]? = some x := ⟨_, List.getElem?_eq_getElem (by omega)⟩
      obtain ⟨p, hp⟩ := jointOk_some x (a2 x (List.mem_of_getElem? hx)).1
      obtain ⟨q, hq⟩ := jointNamed_some ⟨s.fJoints, s.fMembers⟩ x.fName a1
      unfold spec_StructureOk_L1_body
      simp only [len_eq, h2, h0, hw, hx, hp, hq, decide_true, if_true, and_self, Option.bind_eq_bind, Option.bind_some]
      by_cases e : p = true
      · rw [if_pos e]
        by_cases e2 : (q != i) = true
        · exact .inr ⟨_, by rw [if_pos e2], trivial⟩
        · exact .inl ⟨i + 1, by rw [if_neg e2], by omega, by omega⟩
      · exact .inr ⟨_, by rw [if_neg e], trivial⟩
    · exact .inr ⟨.inl (), by simp [spec_StructureOk_L1_body, len_eq, h2], trivial⟩) 0 (by omega)
  exact ⟨r, h1⟩

/-- A member, in one word. -/
def memberB (js : List TJoint) (m : TMember) : Bool :=
  decide (0 ≤ m.fA ∧ m.fA < js.length ∧ 0 ≤ m.fB ∧ m.fB < js.length ∧ 1 ≤ m.fKind ∧ m.fKind ≤ 3) &&
  match js[m.fA.toNat]?, js[m.fB.toNat]? with
  | some a, some b => !(a.fX == b.fX && a.fY == b.fY) && !(a.fFixed && b.fFixed)
  | _, _ => false

theorem memberOk_eq (s : TStructure) (m : TMember) : impl_Structure_memberOk s m = some (memberB s.fJoints m) := by
  unfold impl_Structure_memberOk memberB
  simp only [len_eq]
  by_cases h1 : m.fA < 0
  · simp [h1]; omega
  by_cases h2 : (s.fJoints.length : Int) ≤ m.fA
  · simp [h1, h2]; omega
  by_cases h3 : m.fB < 0
  · simp [h1, h2, h3]; omega
  by_cases h4 : (s.fJoints.length : Int) ≤ m.fB
  · simp [h1, h2, h3, h4]; omega
  by_cases h5 : m.fKind < 1
  · simp [h1, h2, h3, h4, h5]; omega
  by_cases h6 : 3 < m.fKind
  · simp [h1, h2, h3, h4, h5, h6]; omega
  obtain ⟨x, hx⟩ : ∃ x, s.fJoints[m.fA.toNat]? = some x := ⟨_, List.getElem?_eq_getElem (by omega)⟩
  obtain ⟨y, hy⟩ : ∃ y, s.fJoints[m.fB.toNat]? = some y := ⟨_, List.getElem?_eq_getElem (by omega)⟩
  have c1 : 0 ≤ m.fA ∧ m.fA < s.fJoints.length := by omega
  have c2 : 0 ≤ m.fB ∧ m.fB < s.fJoints.length := by omega
  have c3 : 0 ≤ m.fA ∧ m.fA < s.fJoints.length ∧ 0 ≤ m.fB ∧ m.fB < s.fJoints.length ∧ 1 ≤ m.fKind ∧ m.fKind ≤ 3 := by omega
  rw [decide_eq_false h1, decide_eq_false h2, decide_eq_false h3, decide_eq_false h4, decide_eq_false h5, decide_eq_false h6, decide_eq_true c3, if_pos c1, hx]
  simp only [Bool.false_eq_true, if_false, Option.bind_eq_bind, Option.bind_some, Bool.true_and]
  rw [if_pos c2, hy]
  simp only [Option.bind_some]
  by_cases e1 : x.fX = y.fX <;> by_cases e2 : x.fY = y.fY <;> by_cases hf1 : x.fFixed = true <;> by_cases hf2 : y.fFixed = true <;> simp [e1, e2, hf1, hf2]

theorem member_L2_body (js : List TJoint) (ms : List TMember) (hj : js.length ≤ 6) (hms : ms.length ≤ 8) (i : Int) :
    spec_StructureOk_L2_body (w64 (len_ eTJoint js - 1)) ms (len_ eTMember ms) js i =
    (s_IndexFunc_impl_StructureOk_1_L1_body ms js ms (len_ eTMember ms) i).map (Sum.map id (Sum.map id fun _ => ())) := by
  have hw : w64 ((js.length : Nat) - 1) = (js.length : Nat) - 1 := w64_eq (by omega) (by omega)
  unfold spec_StructureOk_L2_body s_IndexFunc_impl_StructureOk_1_L1_body impl_StructureOk_1
  simp only [len_eq, hw, memberOk_eq, l01In_eq, Option.bind_eq_bind, Option.bind_some]
  by_cases h1 : i < (ms.length : Int)
  · by_cases h0 : 0 ≤ i
    · obtain ⟨m, hm⟩ : ∃ x, ms[i.toNat]? = some x := ⟨_, List.getElem?_eq_getElem (by omega)⟩
      simp only [h1, h0, hm, decide_true, if_true, and_self, Option.bind_some]
      unfold memberB
      by_cases hA : 0 ≤ m.fA ∧ m.fA ≤ (js.length : Int) - 1
      · by_cases hB : 0 ≤ m.fB ∧ m.fB ≤ (js.length : Int) - 1
        · by_cases hK : 1 ≤ m.fKind ∧ m.fKind ≤ 3
          · obtain ⟨x, hx⟩ : ∃ x, js[m.fA.toNat]? = some x := ⟨_, List.getElem?_eq_getElem (by omega)⟩
            obtain ⟨y, hy⟩ : ∃ y, js[m.fB.toNat]? = some y := ⟨_, List.getElem?_eq_getElem (by omega)⟩
            have c1 : 0 ≤ m.fA ∧ m.fA < js.length := by omega
            have c2 : 0 ≤ m.fB ∧ m.fB < js.length := by omega
            have c3 : 0 ≤ m.fA ∧ m.fA < js.length ∧ 0 ≤ m.fB ∧ m.fB < js.length ∧ 1 ≤ m.fKind ∧ m.fKind ≤ 3 := by omega
            rw [decide_eq_true hA, decide_eq_true hB, decide_eq_true hK, decide_eq_true c3]
            simp only [if_true, Option.bind_some, Bool.true_and]
            rw [if_pos c1, hx]
            simp only [Option.bind_some]
            rw [if_pos c2, hy]
            simp only [Option.bind_some]
            by_cases e1 : x.fX = y.fX <;> by_cases e2 : x.fY = y.fY <;> by_cases hf1 : x.fFixed = true <;> by_cases hf2 : y.fFixed = true <;> simp [e1, e2, hf1, hf2]
          · have c3 : ¬ (0 ≤ m.fA ∧ m.fA < js.length ∧ 0 ≤ m.fB ∧ m.fB < js.length ∧ 1 ≤ m.fKind ∧ m.fKind ≤ 3) := by omega
            rw [decide_eq_true hA, decide_eq_true hB, decide_eq_false hK, decide_eq_false c3]
            simp
        · have c3 : ¬ (0 ≤ m.fA ∧ m.fA < js.length ∧ 0 ≤ m.fB ∧ m.fB < js.length ∧ 1 ≤ m.fKind ∧ m.fKind ≤ 3) := by omega
          rw [decide_eq_true hA, decide_eq_false hB, decide_eq_false c3]
          simp
      · have c3 : ¬ (0 ≤ m.fA ∧ m.fA < js.length ∧ 0 ≤ m.fB ∧ m.fB < js.length ∧ 1 ≤ m.fKind ∧ m.fKind ≤ 3) := by omega
        rw [decide_eq_false hA, decide_eq_false c3]
        simp
    · simp [h1, h0]
  · simp [h1]

theorem index_members_some (js : List TJoint) (ms : List TMember) (hms : ms.length ≤ 8) : ∃ r, s_IndexFunc_impl_StructureOk_1_L1 ms js ms (len_ eTMember ms) 0 = some r ∧ ∀ k, r = .inr k → 0 ≤ k := by
  exact iter_inv (f := fun w => s_IndexFunc_impl_StructureOk_1_L1_body ms js ms (len_ eTMember ms) w) (fun i => 0 ≤ i ∧ i ≤ ms.length) (fun i => (ms.length - i).toNat) (fun r => ∀ k, r = .inr k → 0 ≤ k) (fun i hi => by
    obtain ⟨h0, h1⟩ := hi
    by_cases h2 : i < (ms.length : Int)
    · have hw : w64 (i + 1) = i + 1 := w64_eq (by omega) (by omega)
      obtain ⟨x, hx⟩ : ∃ x, ms[i.toNat]? = some x := ⟨_, List.getElem?_eq_getElem (by omega)⟩
      unfold s_IndexFunc_impl_StructureOk_1_L1_body impl_StructureOk_1
      simp only [len_eq, h2, h0, hw, hx, memberOk_eq, decide_true, if_true, and_self, Option.bind_eq_bind, Option.bind_some]
      by_cases e : (!memberB js x) = true
      · exact .inr ⟨_, by rw [if_pos e], by intro k hk; simp at hk; omega⟩
      · exact .inl ⟨i + 1, by rw [if_neg e], by omega, by omega⟩
    · exact .inr ⟨.inl (), by simp [s_IndexFunc_impl_StructureOk_1_L1_body, len_eq, h2], by intro k hk; simp at hk⟩) 0 (by omega)

theorem structureOk_both (s : TStructure) (i0 : ITStructure s) : ∃ r, spec_StructureOk s = some r ∧ impl_StructureOk s = some r := by
  unfold spec_StructureOk impl_StructureOk
  by_cases h1 : 6 < (s.fJoints.length : Int)
  · exact ⟨false, by simp [len_eq, h1], by simp [len_eq, h1]⟩
  by_cases h2 : 8 < (s.fMembers.length : Int)
  · exact ⟨false, by simp [len_eq, h1, h2], by simp [len_eq, h1, h2]⟩
  obtain ⟨r, hr⟩ := structure_L1_some s i0
  rw [structure_L1_eq, hr]
  obtain ⟨q, hq, hq0⟩ := index_members_some s.fJoints s.fMembers (by omega)
  have hL2 : spec_StructureOk_L2 (w64 (len_ eTJoint s.fJoints - 1)) s.fMembers (len_ eTMember s.fMembers) s.fJoints 0 = some (Sum.map id (fun _ => ()) q) :=
    iter_map (f := fun w => s_IndexFunc_impl_StructureOk_1_L1_body s.fMembers s.fJoints s.fMembers (len_ eTMember s.fMembers) w) (Sum.map id fun _ => ()) (fun _ => True) (fun _ _ _ _ => trivial)
      (fun i _ => member_L2_body s.fJoints s.fMembers (by omega) (by omega) i) 0 q hq trivial
  simp only [s_ContainsFunc_impl_StructureOk_1, s_IndexFunc_impl_StructureOk_1, hq, hL2, Option.bind_eq_bind, Option.bind_some]
  have d1 : decide ((6 : Int) < len_ eTJoint s.fJoints) = false := by rw [len_eq]; exact decide_eq_false h1
  have d2 : decide ((8 : Int) < len_ eTMember s.fMembers) = false := by rw [len_eq]; exact decide_eq_false h2
  rw [d1, d2]
  simp only [Bool.false_eq_true, if_false]
  cases r with
  | inr a => exact ⟨false, rfl, rfl⟩
  | inl a =>
    cases q with
    | inl b => exact ⟨true, rfl, by simp⟩
    | inr k =>
      have := hq0 k rfl
      exact ⟨false, rfl, by simp [this]⟩

theorem jointOk_bounds (j : TJoint) (h : spec_JointOk j = some true) : -50 ≤ j.fX ∧ j.fX ≤ 50 ∧ -50 ≤ j.fY ∧ j.fY ≤ 50 := by
  unfold spec_JointOk at h
  cases hn : spec_IsName j.fName with
  | none => simp [hn] at h
  | some r =>
    simp only [hn, l01In_eq, Option.bind_eq_bind, Option.bind_some] at h
    cases r with
    | false => simp at h
    | true =>
      by_cases a : -50 ≤ j.fX ∧ j.fX ≤ 50
      · by_cases b : -50 ≤ j.fY ∧ j.fY ≤ 50
        · omega
        · simp [a, b] at h
      · simp [a] at h

theorem joints_ok (s : TStructure) (i0 : ITStructure s) (h : spec_StructureOk_L1 s.fJoints (len_ eTJoint s.fJoints) s.fMembers 0 = some (.inl ())) : ∀ (n : Nat) j, s.fJoints[n]? = some j → spec_JointOk j = some true := by
  have hm := maxLen_eq
  obtain ⟨⟨a1, a2⟩, -⟩ := i0
  obtain ⟨r, h1, h2⟩ := iter_inv (f := fun w => spec_StructureOk_L1_body s.fJoints (len_ eTJoint s.fJoints) s.fMembers w) (fun i => 0 ≤ i ∧ i ≤ s.fJoints.length ∧ ∀ (n : Nat) j, (n : Int) < i → s.fJoints[n]? = some j → spec_JointOk j = some true) (fun i => (s.fJoints.length - i).toNat)
    (fun r => r = .inl () → ∀ (n : Nat) j, s.fJoints[n]? = some j → spec_JointOk j = some true) (fun i hi => by
    obtain ⟨h0, h1, h3⟩ := hi
    by_cases h2 : i < (s.fJoints.length : Int)
    · have hw : w64 (i + 1) = i + 1 := w64_eq (by omega) (by omega)
      obtain ⟨x, hx⟩ : ∃ x, s.fJoints[i.toNat]? = some x := ⟨_, List.getElem?_eq_getElem (by omega)⟩
      obtain ⟨p, hp⟩ := jointOk_some x (a2 x (List.mem_of_getElem? hx)).1
      obtain ⟨q, hq⟩ := jointNamed_some ⟨s.fJoints, s.fMembers⟩ x.fName a1
      unfold spec_StructureOk_L1_body
      simp only [len_eq, h2, h0, hw, hx, hp, hq, decide_true, if_true, and_self, Option.bind_eq_bind, Option.bind_some]
      by_cases e : p = true
      · rw [if_pos e]
        by_cases e2 : (q != i) = true
        · exact .inr ⟨_, by rw [if_pos e2], by simp⟩
        · refine .inl ⟨i + 1, by rw [if_neg e2], ⟨by omega, by omega, fun n j hn hj => ?_⟩, by omega⟩
          by_cases c : (n : Int) < i
          · exact h3 n j c hj
          · have : n = i.toNat := by omega
            subst this
            rw [hx] at hj
            obtain rfl := Option.some.inj hj
            rw [hp, e]
      · exact .inr ⟨_, by rw [if_neg e], by simp⟩
    · refine .inr ⟨.inl (), by simp [spec_StructureOk_L1_body, len_eq, h2], fun _ n j hj => h3 n j (by have := lt_of_get hj; omega) hj⟩) 0 ⟨by omega, by omega, fun n j hn => by omega⟩
  have h1' : spec_StructureOk_L1 s.fJoints (len_ eTJoint s.fJoints) s.fMembers 0 = some r := h1
  rw [h] at h1'
  exact h2 (Option.some.inj h1').symm

theorem members_ok (js : List TJoint) (ms : List TMember) (hms : ms.length ≤ 8) (h : s_IndexFunc_impl_StructureOk_1_L1 ms js ms (len_ eTMember ms) 0 = some (.inl ())) : ∀ (n : Nat) m, ms[n]? = some m → memberB js m = true := by
  obtain ⟨r, h1, h2⟩ := iter_inv (f := fun w => s_IndexFunc_impl_StructureOk_1_L1_body ms js ms (len_ eTMember ms) w) (fun i => 0 ≤ i ∧ i ≤ ms.length ∧ ∀ (n : Nat) m, (n : Int) < i → ms[n]? = some m → memberB js m = true) (fun i => (ms.length - i).toNat)
    (fun r => r = .inl () → ∀ (n : Nat) m, ms[n]? = some m → memberB js m = true) (fun i hi => by
    obtain ⟨h0, h1, h3⟩ := hi
    by_cases h2 : i < (ms.length : Int)
    · have hw : w64 (i + 1) = i + 1 := w64_eq (by omega) (by omega)
      obtain ⟨x, hx⟩ : ∃ x, ms[i.toNat]? = some x := ⟨_, List.getElem?_eq_getElem (by omega)⟩
      unfold s_IndexFunc_impl_StructureOk_1_L1_body impl_StructureOk_1
      simp only [len_eq, h2, h0, hw, hx, memberOk_eq, decide_true, if_true, and_self, Option.bind_eq_bind, Option.bind_some]
      by_cases e : (!memberB js x) = true
      · exact .inr ⟨_, by rw [if_pos e], by simp⟩
      · refine .inl ⟨i + 1, by rw [if_neg e], ⟨by omega, by omega, fun n j hn hj => ?_⟩, by omega⟩
        by_cases c : (n : Int) < i
        · exact h3 n j c hj
        · have : n = i.toNat := by omega
          subst this
          rw [hx] at hj
          obtain rfl := Option.some.inj hj
          simpa using e
    · refine .inr ⟨.inl (), by simp [s_IndexFunc_impl_StructureOk_1_L1_body, len_eq, h2], fun _ n j hj => h3 n j (by have := lt_of_get hj; omega) hj⟩) 0 ⟨by omega, by omega, fun n j hn => by omega⟩
  have h1' : s_IndexFunc_impl_StructureOk_1_L1 ms js ms (len_ eTMember ms) 0 = some r := h1
  rw [h] at h1'
  exact h2 (Option.some.inj h1').symm

theorem structureOk_facts (s : TStructure) (i0 : ITStructure s) (h : spec_StructureOk s = some true) :
    (∀ (n : Nat) j, s.fJoints[n]? = some j → spec_JointOk j = some true) ∧ (∀ (n : Nat) m, s.fMembers[n]? = some m → memberB s.fJoints m = true) ∧ s.fJoints.length ≤ 6 ∧ s.fMembers.length ≤ 8 := by
  obtain ⟨p, p1, p2⟩ := structureOk_both s i0
  rw [h] at p1
  obtain rfl := Option.some.inj p1
  unfold impl_StructureOk at p2
  by_cases h1 : 6 < (s.fJoints.length : Int)
  · simp [len_eq, h1] at p2
  by_cases h2 : 8 < (s.fMembers.length : Int)
  · simp [len_eq, h1, h2] at p2
  obtain ⟨r, hr⟩ := structure_L1_some s i0
  rw [structure_L1_eq, hr] at p2
  obtain ⟨q, hq, hq0⟩ := index_members_some s.fJoints s.fMembers (by omega)
  have d1 : decide ((6 : Int) < len_ eTJoint s.fJoints) = false := by rw [len_eq]; exact decide_eq_false h1
  have d2 : decide ((8 : Int) < len_ eTMember s.fMembers) = false := by rw [len_eq]; exact decide_eq_false h2
  rw [d1, d2] at p2
  simp only [s_ContainsFunc_impl_StructureOk_1, s_IndexFunc_impl_StructureOk_1, hq, Bool.false_eq_true, if_false, Option.bind_eq_bind, Option.bind_some] at p2
  cases r with
  | inr a => simp at p2
  | inl a =>
    cases q with
    | inr k =>
      have := hq0 k rfl
      simp [this] at p2
    | inl b => exact ⟨joints_ok s i0 hr, members_ok s.fJoints s.fMembers (by omega) hq, by omega, by omega⟩

/-- The vector along a member. -/
theorem vector_at (s : TStructure) (i0 : ITStructure s) (h : spec_StructureOk s = some true) (k : Int) (h0 : 0 ≤ k) (h1 : k < s.fMembers.length) :
    ∃ x y, impl_Structure_vector s k = some (x, y) ∧ spec_l12Vector s k = some (x, y) ∧ (-100 ≤ x ∧ x ≤ 100) ∧ (-100 ≤ y ∧ y ≤ 100) := by
  obtain ⟨f1, f2, f3, f4⟩ := structureOk_facts s i0 h
  obtain ⟨m, hm⟩ : ∃ x, s.fMembers[k.toNat]? = some x := ⟨_, List.getElem?_eq_getElem (by omega)⟩
  have hmb := f2 _ m hm
  unfold memberB at hmb
  simp only [Bool.and_eq_true, decide_eq_true_eq] at hmb
  obtain ⟨⟨g1, g2, g3, g4, -⟩, -⟩ := hmb
  obtain ⟨a, ha⟩ : ∃ x, s.fJoints[m.fA.toNat]? = some x := ⟨_, List.getElem?_eq_getElem (by omega)⟩
  obtain ⟨b, hb⟩ : ∃ x, s.fJoints[m.fB.toNat]? = some x := ⟨_, List.getElem?_eq_getElem (by omega)⟩
  have ja := jointOk_bounds a (f1 _ a ha)
  have jb := jointOk_bounds b (f1 _ b hb)
  have e1 : w64 (b.fX - a.fX) = b.fX - a.fX := w64_eq (by omega) (by omega)
  have e2 : w64 (b.fY - a.fY) = b.fY - a.fY := w64_eq (by omega) (by omega)
  have c0 : 0 ≤ k ∧ k < s.fMembers.length := ⟨h0, h1⟩
  have c1 : 0 ≤ m.fA ∧ m.fA < s.fJoints.length := ⟨g1, g2⟩
  have c2 : 0 ≤ m.fB ∧ m.fB < s.fJoints.length := ⟨g3, g4⟩
  refine ⟨b.fX - a.fX, b.fY - a.fY, ?_, ?_, by omega, by omega⟩
  · unfold impl_Structure_vector
    simp only [if_pos c0, hm, if_pos c1, if_pos c2, ha, hb, Option.bind_eq_bind, Option.bind_some, e1, e2]
  · unfold spec_l12Vector
    simp only [if_pos c0, hm, if_pos c1, if_pos c2, ha, hb, Option.bind_eq_bind, Option.bind_some, e1, e2]

theorem szIntS_eq (l : List Int) (hl : l.length ≤ maxLen) (left : Int) (h0 : 0 ≤ left) (h1 : left ≤ 1048576) : laws_szIntS l left = some (if left < l.length then -1 else left - l.length) := by
  have hm := maxLen_eq
  have hw : w64 (left - ((l.length : Nat) : Int)) = left - (l.length : Nat) := w64_eq (by omega) (by omega)
  unfold laws_szIntS
  rw [len_eq, hw]
  by_cases e : left < (l.length : Nat)
  · have : left - (l.length : Nat) < 0 := by omega
    simp [e, this]
  · have : ¬ left - (l.length : Nat) < 0 := by omega
    simp [e, this]

theorem szStructure_le (s : TStructure) (i0 : ITStructure s) (left : Int) (h0 : 0 ≤ left) (h1 : left ≤ 1048576) (q : Int) (hq : laws_szStructure s left = some q) : q ≤ 1048576 := by
  obtain ⟨⟨a1, a2⟩, a3, a4⟩ := i0
  obtain ⟨r, r1, r2, r3⟩ := szJointS_some s.fJoints left a1 (fun j hj => (a2 j hj).1) h0 h1
  unfold laws_szStructure at hq
  rw [r1] at hq
  by_cases h : r < 0
  · simp [h] at hq; omega
  · obtain ⟨t, t1, t2, t3⟩ := szMemberS_some s.fMembers r a3 (by omega) (by omega)
    by_cases ht : t < 0
    · simp [h, t1, ht] at hq; omega
    · simp [h, t1, ht] at hq; omega

def RatLen (r : TRat) : Prop := r.fNum.fMag.length ≤ 1048576 ∧ r.fDen.length ≤ 1048576

theorem eqRat_self {r : TRat} (h : RatLen r) : laws_eqRat r r = some true := by
  unfold laws_eqRat laws_eqBigInt
  simp [eqIntS_self _ h.1, eqIntS_self _ h.2]

theorem eqRatS_self (l : List TRat) (h : l.length ≤ 1048576) (hr : ∀ r ∈ l, RatLen r) : laws_eqRatS l l = some true := by
  have h1 : iter (fun w => laws_eqRatS_L1_body l l w) 0 = some (if l.all (fun _ => true) then .inl () else .inr ()) := iter_all l (fun _ => true) (fun n x hx => by
    have hn := lt_of_get hx
    unfold laws_eqRatS_L1_body
    rw [len_eq, if_pos (by simp; omega), if_pos (by omega), Int.toNat_natCast, hx]
    simp only [Option.bind_eq_bind, Option.bind_some]
    rw [if_pos (by omega), eqRat_self (hr x (List.mem_of_getElem? hx))]
    simp only [Option.bind_some, if_true]
    rw [i1 (by omega)]) (by simp [laws_eqRatS_L1_body, len_eq])
  unfold laws_eqRatS laws_eqRatS_L1
  rw [h1]
  simp

theorem szRat_some {r : TRat} (hr : ITRat r) (left : Int) (h0 : 0 ≤ left) (h1 : left ≤ 1048576) : ∃ q, laws_szRat r left = some q ∧ q ≤ left ∧ (0 ≤ q → RatLen r) := by
  obtain ⟨⟨-, ⟨a1, -⟩⟩, ⟨a2, -⟩⟩ := hr
  unfold laws_szRat laws_szBigInt
  rw [szIntS_eq _ a1 left h0 h1]
  by_cases c1 : left < r.fNum.fMag.length
  · refine ⟨-1, by simp [c1], by omega, by omega⟩
  · have c1' : ¬ left - (r.fNum.fMag.length : Int) < 0 := by omega
    simp only [c1, if_false, Option.bind_eq_bind, Option.bind_some, c1', decide_false, Bool.false_eq_true]
    rw [szIntS_eq _ a2 _ (by omega) (by omega)]
    by_cases c2 : left - (r.fNum.fMag.length : Int) < r.fDen.length
    · refine ⟨-1, by simp [c2], by omega, by omega⟩
    · have c2' : ¬ left - (r.fNum.fMag.length : Int) - (r.fDen.length : Int) < 0 := by omega
      refine ⟨left - (r.fNum.fMag.length : Int) - (r.fDen.length : Int), by simp [c2, c2'], by omega, fun _ => ⟨by omega, by omega⟩⟩

theorem szRatS_some (l : List TRat) (hl : l.length ≤ maxLen) (hr : ∀ r ∈ l, ITRat r) (left : Int) (h0 : 0 ≤ left) (h1 : left ≤ 1048576) :
    ∃ q, laws_szRatS l left = some q ∧ q ≤ left ∧ (0 ≤ q → l.length ≤ 1048576 ∧ ∀ r ∈ l, RatLen r) := by
  have hm := maxLen_eq
  have hw : w64 (left - ((l.length : Nat) : Int)) = left - (l.length : Nat) := w64_eq (by omega) (by omega)
  unfold laws_szRatS
  rw [len_eq, hw]
  by_cases c : left - (l.length : Int) < 0
  · exact ⟨-1, by simp [c], by omega, by omega⟩
  · obtain ⟨r, r1, r2⟩ := iter_inv (f := fun w : Int × Int => laws_szRatS_L1_body l w.1 w.2) (I := fun w => ∃ n : Nat, w.2 = n ∧ n ≤ l.length ∧ 0 ≤ w.1 ∧ w.1 ≤ left ∧ ∀ i x, i < n → l[i]? = some x → RatLen x) (m := fun w => l.length - w.2.toNat)
      (fun r => r.elim (fun a => 0 ≤ a ∧ a ≤ left ∧ ∀ x ∈ l, RatLen x) (fun _ => True)) (by
        rintro ⟨a, ii⟩ ⟨n, e1, e2, e3, e4, e5⟩
        simp only at e1 e3 e4
        subst e1
        by_cases hn : n = l.length
        · subst hn
          refine .inr ⟨.inl a, by simp [laws_szRatS_L1_body, len_eq], e3, e4, fun x hx => ?_⟩
          obtain ⟨i, hi⟩ := List.mem_iff_getElem?.mp hx
          exact e5 i x (lt_of_get hi) hi
        · have hx := List.getElem?_eq_getElem (show n < l.length by omega)
          obtain ⟨q, q1, q2, q3⟩ := szRat_some (hr _ (List.mem_of_getElem? hx)) a e3 (by omega)
          by_cases hq : q < 0
          · refine .inr ⟨.inr (), ?_, trivial⟩
            unfold laws_szRatS_L1_body
            rw [len_eq, if_pos (by simp; omega), if_pos (by omega), Int.toNat_natCast, hx]
            simp only [Option.bind_eq_bind, Option.bind_some]
            rw [q1]
            simp [hq]
          · refine .inl ⟨(q, ((n + 1 : Nat) : Int)), ?_, ⟨n + 1, rfl, by omega, by simp only; omega, by simp only; omega, fun i x hi hx' => ?_⟩, by simp; omega⟩
            · unfold laws_szRatS_L1_body
              rw [len_eq, if_pos (by simp; omega), if_pos (by omega), Int.toNat_natCast, hx]
              simp only [Option.bind_eq_bind, Option.bind_some]
              rw [q1]
              simp only [Option.bind_some]
              rw [if_neg (by simp; omega), i1 (by omega)]
            · by_cases hi' : i = n
              · subst hi'
                rw [hx] at hx'
                rw [← Option.some.inj hx']
                exact q3 (by omega)
              · exact e5 i x (by omega) hx') (left - (l.length : Nat), 0) ⟨0, rfl, by omega, by simp only; omega, by simp only; omega, fun i x hi => by omega⟩
    unfold laws_szRatS_L1
    rw [if_neg (by simp; omega), r1]
    cases r with
    | inl a => exact ⟨a, rfl, r2.2.1, fun _ => ⟨by omega, r2.2.2⟩⟩
    | inr _ => exact ⟨-1, rfl, by omega, by omega⟩

def someO (p : Int × Int) : Option TRatio_ := some (mkO p)

theorem valid_both (l : List TRat) (h : l.length ≤ 1048576) (hr : ∀ r ∈ l, RatLen r) :
    (∃ xs : List (Int × Int), (∀ p ∈ xs, Fr p) ∧ l = xs.map mk ∧ spec_l09Valid l = some true ∧ impl_loads l = some (xs.map someO, true)) ∨ (spec_l09Valid l = some false ∧ impl_loads l = some ([], false)) := by
  -- each element's answer
  have hel : ∀ r ∈ l, ∃ o : Option (Int × Int), (∀ p, o = some p → Fr p ∧ r = mk p) ∧ spec_RatOk r = some o.isSome ∧ impl_load r = some (encO o) := by
    intro r hrl
    have hlen := hr r hrl
    rcases load_eq (r := r) (by have := hlen.1; omega) (by have := hlen.2; omega) with ⟨p, h1, h2, h3, h4⟩ | ⟨h3, h4⟩
    · exact ⟨some p, fun q hq => by rw [← Option.some.inj hq]; exact ⟨h1, h2⟩, h3, h4⟩
    · exact ⟨none, fun q hq => by simp at hq, h3, h4⟩
  obtain ⟨os, hos1, hos2⟩ : ∃ os : List (Option (Int × Int)), os.length = l.length ∧ ∀ (n : Nat) r o, l[n]? = some r → os[n]? = some o → (∀ p, o = some p → Fr p ∧ r = mk p) ∧ spec_RatOk r = some o.isSome ∧ impl_load r = some (encO o) := by
    clear h hr
    induction l with
    | nil => exact ⟨[], rfl, fun n r o h => by simp at h⟩
    | cons x l ih =>
      obtain ⟨os, e1, e2⟩ := ih (fun r hr => hel r (by simp [hr]))
      obtain ⟨o, ho⟩ := hel x (by simp)
      refine ⟨o :: os, by simp [e1], fun n r o' h1 h2 => ?_⟩
      cases n with
      | zero =>
        simp at h1 h2
        subst h1 h2
        exact ho
      | succ n => exact e2 n r o' (by simpa using h1) (by simpa using h2)
  have hspec : iter (fun w : Int => spec_l09Valid_L1_body l l.length w) 0 = some (if os.all Option.isSome then .inl () else .inr ()) := iter_all os Option.isSome (fun n o ho => by
    have hn := lt_of_get ho
    have hx := List.getElem?_eq_getElem (show n < l.length by omega)
    obtain ⟨-, h2, -⟩ := hos2 n _ o hx ho
    unfold spec_l09Valid_L1_body
    rw [if_pos (by simp; omega), if_pos (by omega), Int.toNat_natCast, hx]
    simp only [Option.bind_eq_bind, Option.bind_some]
    rw [h2]
    simp only [Option.bind_some]
    rw [i1 (by omega)]
    cases o.isSome <;> rfl) (by rw [hos1]; simp [spec_l09Valid_L1_body])
  have himpl : iter (fun w : Int × List (Option TRatio_) => impl_loads_L1_body l l.length w.1 w.2) (0, List.replicate l.length (none : Option TRatio_)) = some (if os.all Option.isSome then .inl (os.map encO) else .inr ()) := iter_fill os Option.isSome encO _ (by simp [hos1]) (fun n o row ho hrow => by
    have hn := lt_of_get ho
    have hx := List.getElem?_eq_getElem (show n < l.length by omega)
    obtain ⟨-, -, h3⟩ := hos2 n _ o hx ho
    unfold impl_loads_L1_body
    rw [if_pos (by simp; omega), if_pos (by omega), Int.toNat_natCast, hx]
    simp only [Option.bind_eq_bind, Option.bind_some]
    rw [h3]
    simp only [Option.bind_some]
    rw [if_pos (by omega), Nat.zero_add, if_pos (by omega), List.getElem?_set, if_pos rfl, if_pos (by omega)]
    simp only [Option.bind_some]
    rw [i1 (by omega)]
    cases o <;> rfl) (fun row => by rw [hos1]; simp [impl_loads_L1_body])
  unfold spec_l09Valid spec_l09Valid_L1 impl_loads impl_loads_L1
  simp only [len_eq, Int.toNat_natCast]
  have hc : 0 ≤ (l.length : Int) ∧ (8 : Int) * (l.length : Int) ≤ 281474976710656 ∧ (l.length : Int) < 9223372036854775808 := by omega
  rw [hspec, himpl, if_pos hc]
  by_cases hall : os.all Option.isSome = true
  · refine .inl ⟨os.filterMap id, ?_, ?_, by rw [hall]; rfl, ?_⟩
    · intro p hp
      obtain ⟨o, ho, ho2⟩ := List.mem_filterMap.mp hp
      obtain ⟨n, hn⟩ := List.mem_iff_getElem?.mp ho
      have hlt := lt_of_get hn
      exact ((hos2 n _ o (List.getElem?_eq_getElem (show n < l.length by omega)) hn).1 p ho2).1
    · clear hspec himpl hel hr h hc
      induction l generalizing os with
      | nil =>
        have : os = [] := List.eq_nil_of_length_eq_zero hos1
        subst this
        rfl
      | cons x l ih =>
        cases os with
        | nil => simp at hos1
        | cons o os =>
          simp only [List.all_cons, Bool.and_eq_true] at hall
          obtain ⟨p, rfl⟩ := Option.isSome_iff_exists.mp hall.1
          have h1 := ((hos2 0 x (some p) rfl rfl).1 p rfl).2
          have h2 := ih os (by simpa using hos1) (fun n r o h3 h4 => hos2 (n + 1) r o (by simpa using h3) (by simpa using h4)) hall.2
          simp only [List.filterMap_cons, id, List.map_cons]
          rw [← h2, ← h1]
    · rw [hall]
      simp only [if_true, Option.bind_eq_bind, Option.bind_some]
      congr 2
      clear hspec himpl hel hr h hos2 hos1
      induction os with
      | nil => rfl
      | cons o os ih =>
        simp only [List.all_cons, Bool.and_eq_true] at hall
        obtain ⟨p, rfl⟩ := Option.isSome_iff_exists.mp hall.1
        simp only [List.filterMap_cons, id, List.map_cons]
        rw [ih hall.2]
        rfl
  · simp only [Bool.not_eq_true] at hall
    refine .inr ⟨by rw [hall]; rfl, by rw [hall]; rfl⟩

/-- Densities that fit a structure. -/
theorem fits_both (s : TStructure) (i0 : ITStructure s) (q : List TRat) (h : q.length ≤ 1048576) (hr : ∀ r ∈ q, RatLen r) :
    (∃ xs : List (Int × Int), (∀ p ∈ xs, Fr p) ∧ q = xs.map mk ∧ q.length = s.fMembers.length ∧ spec_StructureOk s = some true ∧ spec_l14Fits s q = some true ∧ impl_densities s q = some (xs.map someO, true)) ∨ (spec_l14Fits s q = some false ∧ impl_densities s q = some ([], false)) := by
  obtain ⟨o, o1, o2⟩ := structureOk_both s i0
  unfold spec_l14Fits impl_densities
  simp only [len_eq]
  rw [o1, o2]
  by_cases hl : q.length = s.fMembers.length
  · cases o with
    | false =>
      refine .inr ⟨rfl, ?_⟩
      simp [hl]
    | true =>
      rcases valid_both q h hr with ⟨xs, x1, x2, x3, x4⟩ | ⟨x3, x4⟩
      · refine .inl ⟨xs, x1, x2, hl, rfl, ?_, ?_⟩
        · simp [hl, x3]
        · simp [hl, x4]
      · refine .inr ⟨?_, ?_⟩
        · simp [hl, x3]
        · simp [hl, x4]
  · refine .inr ⟨?_, ?_⟩
    · cases o <;> simp [hl] <;> omega
    · have : ((q.length : Int) != (s.fMembers.length : Int)) = true := by simp; omega
      rw [if_pos this]

noncomputable def qsq (x : Int × Int) (sq : Int) : Option (Int × Int) := qmul (qmul (some x) (some x)) (some (sq, 1))

theorem okQ_some {p : Int × Int} (h : Fr p) : OkQ (some p) := fun q hq => by rw [← Option.some.inj hq]; exact h

theorem low_nonneg {n d : Int} (hn : 0 ≤ n) : ∀ p, low n d = some p → 0 ≤ p.1 := by
  intro p hp
  unfold low at hp
  split at hp
  · rw [← Option.some.inj hp]
    exact Int.ediv_nonneg hn (by omega)
  · simp at hp

theorem qsq_ok {x : Int × Int} (hx : Fr x) {sq : Int} (h0 : 0 ≤ sq) (h1 : sq ≤ 1000000) : ∀ p, qsq x sq = some p → Fr p ∧ 0 ≤ p.1 := by
  intro p hp
  have hs : Fr (sq, 1) := fr_int (in64_iff.2 (by omega))
  have hx2 := qmul_ok (okQ_some hx) (okQ_some hx)
  refine ⟨qmul_ok hx2 (okQ_some hs) p hp, ?_⟩
  unfold qsq at hp
  rw [qmul_some] at hp
  cases hl : low (x.1 * x.1) (x.2 * x.2) with
  | none => rw [hl] at hp; simp [qmul] at hp
  | some q =>
    rw [hl, qmul_some] at hp
    have h3 := low_nonneg (n := x.1 * x.1) (d := x.2 * x.2) (by rcases Int.le_total 0 x.1 with h | h
                                                                · exact Int.mul_nonneg h h
                                                                · exact Int.mul_nonneg_of_nonpos_of_nonpos h h) q hl
    exact low_nonneg (Int.mul_nonneg h3 h0) p hp

/-- What is shown of one member's square. -/
def SqAt (s : TStructure) (q : List TRat) (xs : List (Int × Int)) (k : Nat) (o : Option (Int × Int)) : Prop :=
  (∀ p, o = some p → Fr p ∧ 0 ≤ p.1) ∧ spec_ForceSquare s q k = some (enc o, o.isSome) ∧ impl_Structure_forceSquare s (xs.map someO) k = some (encO o)

theorem sq_nonneg (x : Int) : 0 ≤ x * x := by
  rcases Int.le_total 0 x with h | h
  · exact Int.mul_nonneg h h
  · exact Int.mul_nonneg_of_nonpos_of_nonpos h h

theorem sq100 {x : Int} (h0 : -100 ≤ x) (h1 : x ≤ 100) : x * x ≤ 10000 := by
  have h2 := Int.mul_nonneg (show 0 ≤ 100 + x by omega) (show 0 ≤ 100 - x by omega)
  have e : (100 + x) * (100 - x) = 10000 - x * x := by grind
  omega

theorem l01In_range {n : Nat} {k : Nat} (hk : k < n) (hn : n ≤ 1000000) : spec_l01In (k : Int) 0 (w64 ((n : Int) - 1)) = some true := by
  rw [l01In_eq, w64_eq (by omega) (by omega)]
  simp
  omega

theorem square_at (s : TStructure) (i0 : ITStructure s) (q : List TRat) (xs : List (Int × Int)) (hx : ∀ p ∈ xs, Fr p) (hq : q = xs.map mk) (hl : q.length = s.fMembers.length) (hok : spec_StructureOk s = some true) (hfit : spec_l14Fits s q = some true) (k : Nat) (hk : k < s.fMembers.length) : ∃ o, SqAt s q xs k o := by
  obtain ⟨-, -, -, hm8⟩ := structureOk_facts s i0 hok
  obtain ⟨x, y, v1, v2, v3, v4⟩ := vector_at s i0 hok k (by omega) (by omega)
  have hxl : xs.length = s.fMembers.length := by rw [← hl, hq]; simp
  have hxk := List.getElem?_eq_getElem (show k < xs.length by omega)
  have hfr := hx _ (List.mem_of_getElem? hxk)
  have s1 := sq_nonneg x
  have s2 := sq_nonneg y
  have s3 := sq100 v3.1 v3.2
  have s4 := sq100 v4.1 v4.2
  have hw : w64 (w64 (x * x) + w64 (y * y)) = x * x + y * y := by
    rw [w64_eq (x := x * x) (by omega) (by omega), w64_eq (x := y * y) (by omega) (by omega), w64_eq (by omega) (by omega)]
  have hin : In64 (x * x + y * y) := in64_iff.2 (by omega)
  have hs : Fr (x * x + y * y, 1) := fr_int hin
  have hx2 := qmul_ok (okQ_some hfr) (okQ_some hfr)
  refine ⟨qsq xs[k] (x * x + y * y), qsq_ok hfr (by omega) (by omega), ?_, ?_⟩
  · have hv : spec_VectorOf s k = some (x, y) := by
      unfold spec_VectorOf
      rw [hok]
      simp only [Option.bind_eq_bind, Option.bind_some, if_true, len_eq]
      rw [l01In_range hk (by omega)]
      simp only [Option.bind_some, if_true]
      rw [v2]
      rfl
    have hsq : spec_SquareOf s k = some (x * x + y * y) := by
      unfold spec_SquareOf
      rw [hv]
      simp only [Option.bind_eq_bind, Option.bind_some]
      rw [hw]
    have hqk : q[k]? = some (enc (some xs[k])) := by rw [hq, List.getElem?_map, hxk]; rfl
    unfold spec_ForceSquare
    rw [hfit]
    simp only [Option.bind_eq_bind, Option.bind_some, if_true, len_eq]
    rw [l01In_range hk (by omega)]
    simp only [Option.bind_some, if_true]
    rw [if_pos (by omega), Int.toNat_natCast, hqk]
    simp only [Option.bind_some]
    rw [ratMul_eq (okQ_some hfr) (okQ_some hfr)]
    simp only [Option.bind_some]
    rw [hsq]
    simp only [Option.bind_some]
    rw [ratFromInt_eq hin]
    simp only [Option.bind_some]
    have e1 : mk (x * x + y * y, 1) = enc (some (x * x + y * y, 1)) := rfl
    rw [e1, ratMul_eq hx2 (okQ_some hs)]
    simp only [Option.bind_some]
    rw [enc_ok (qmul_ok hx2 (okQ_some hs))]
    rfl
  · have hlk : (xs.map someO)[k]? = some (encO (some xs[k])) := by rw [List.getElem?_map, hxk]; rfl
    unfold impl_Structure_forceSquare
    rw [v1]
    simp only [Option.bind_eq_bind, Option.bind_some]
    rw [if_pos (by simp; omega), Int.toNat_natCast, hlk]
    simp only [Option.bind_some]
    rw [mul_eqO (okQ_some hfr) (okQ_some hfr)]
    simp only [Option.bind_some]
    rw [hw, whole_eq hin]
    simp only [Option.bind_some]
    have e1 : some (mkO (x * x + y * y, 1)) = encO (some (x * x + y * y, 1)) := rfl
    rw [e1, mul_eqO hx2 (okQ_some hs)]
    rfl

theorem somes_of {os : List (Option (Int × Int))} (h : os.all Option.isSome = true) : os = (os.filterMap id).map some := by
  induction os with
  | nil => rfl
  | cons o os ih =>
    simp only [List.all_cons, Bool.and_eq_true] at h
    obtain ⟨p, rfl⟩ := Option.isSome_iff_exists.mp h.1
    simp only [List.filterMap_cons, id, List.map_cons]
    rw [← ih h.2]

theorem squares_both (s : TStructure) (i0 : ITStructure s) (q : List TRat) (h : q.length ≤ 1048576) (hr : ∀ r ∈ q, RatLen r) :
    (∃ ys : List (Int × Int), (∀ p ∈ ys, Fr p ∧ 0 ≤ p.1) ∧ ys.length = s.fMembers.length ∧ s.fMembers.length ≤ 8 ∧ spec_StructureOk s = some true ∧ spec_l20Squares s q = some (ys.map mk, true) ∧ impl_forceSquares s q = some (ys.map someO, true)) ∨ (spec_l20Squares s q = some ([], false) ∧ impl_forceSquares s q = some ([], false)) := by
  rcases fits_both s i0 q h hr with ⟨xs, hx, hq, hl, hok, hfit, hden⟩ | ⟨hfit, hden⟩
  · obtain ⟨-, -, -, hm8⟩ := structureOk_facts s i0 hok
    obtain ⟨os, o1, o2⟩ := list_make (P := SqAt s q xs) s.fMembers.length (fun k hk => square_at s i0 q xs hx hq hl hok hfit k hk)
    have hxl : xs.length = s.fMembers.length := by rw [← hl, hq]; simp
    have hspec : iter (fun w : Int × List TRat => spec_l20Squares_L1_body q s.fMembers.length s.fJoints s.fMembers w.1 w.2) (0, []) = some (if os.all Option.isSome then .inl (os.map enc) else .inr ()) := iter_app os Option.isSome enc (fun n o row ho hrow => by
      have hn := lt_of_get ho
      obtain ⟨-, h2, -⟩ := o2 n o ho
      have h2' : spec_ForceSquare (⟨s.fJoints, s.fMembers⟩ : TStructure) q n = some (enc o, o.isSome) := h2
      unfold spec_l20Squares_L1_body
      rw [if_pos (by simp; omega), h2']
      simp only [Option.bind_eq_bind, Option.bind_some]
      rw [i1 (by omega)]
      cases o.isSome
      · rfl
      · rw [if_pos rfl, if_pos (by simp; omega), if_pos rfl]) (fun row => by rw [o1]; simp [spec_l20Squares_L1_body])
    have himpl : iter (fun w : Int × List (Option TRatio_) => impl_forceSquares_L1_body s.fJoints s.fMembers (xs.map someO) xs.length w.1 w.2) (0, List.replicate xs.length (none : Option TRatio_)) = some (if os.all Option.isSome then .inl (os.map encO) else .inr ()) := iter_fill os Option.isSome encO _ (by simp; omega) (fun n o row ho hrow => by
      have hn := lt_of_get ho
      obtain ⟨-, -, h3⟩ := o2 n o ho
      have h3' : impl_Structure_forceSquare (⟨s.fJoints, s.fMembers⟩ : TStructure) (xs.map someO) n = some (encO o) := h3
      unfold impl_forceSquares_L1_body
      rw [if_pos (by simp; omega), h3']
      simp only [Option.bind_eq_bind, Option.bind_some]
      rw [if_pos (by omega), Int.toNat_natCast, Nat.zero_add, if_pos (by omega), List.getElem?_set, if_pos rfl, if_pos (by omega)]
      simp only [Option.bind_some]
      rw [i1 (by omega)]
      cases o <;> rfl) (fun row => by rw [o1, ← hxl]; simp [impl_forceSquares_L1_body])
    unfold spec_l20Squares spec_l20Squares_L1 impl_forceSquares impl_forceSquares_L1
    rw [hfit, hden]
    simp only [Option.bind_eq_bind, Option.bind_some, if_true, len_eq, List.length_map, Int.toNat_natCast]
    have hc : 0 ≤ (xs.length : Int) ∧ (8 : Int) * (xs.length : Int) ≤ 281474976710656 ∧ (xs.length : Int) < 9223372036854775808 := by omega
    rw [hspec, himpl, if_pos hc]
    by_cases hall : os.all Option.isSome = true
    · have hos := somes_of hall
      refine .inl ⟨os.filterMap id, ?_, ?_, hm8, hok, ?_, ?_⟩
      · intro p hp
        obtain ⟨o, ho, ho2⟩ := List.mem_filterMap.mp hp
        obtain ⟨n, hn⟩ := List.mem_iff_getElem?.mp ho
        exact (o2 n _ hn).1 p ho2
      · rw [← o1]
        conv => rhs; rw [hos]
        simp
      · rw [hall, if_pos rfl]
        simp only [Option.bind_some]
        congr 2
        conv => lhs; rw [hos]
        rw [List.map_map]
        rfl
      · rw [hall, if_pos rfl]
        simp only [Option.bind_some]
        congr 2
        conv => lhs; rw [hos]
        rw [List.map_map]
        rfl
    · simp only [Bool.not_eq_true] at hall
      refine .inr ⟨by rw [hall]; rfl, by rw [hall]; rfl⟩
  · refine .inr ⟨?_, ?_⟩
    · unfold spec_l20Squares
      rw [hfit]
      rfl
    · unfold impl_forceSquares
      rw [hden]
      rfl

/-- A limb, or nothing behind the end. -/
def At (l : List Int) (n : Nat) (x : Int) : Prop := 0 ≤ x ∧ x < 1000000000 ∧ (∀ z, l[n]? = some z → x = z) ∧ (l[n]? = none → x = 0)

theorem At.take {l : List Int} {n : Nat} {x : Int} (h : At l n x) : V (l.take (n + 1)) = V (l.take n) + B n * x := V_take1' h.2.2.1 h.2.2.2

theorem Fr.neg {q : Int × Int} (h : Fr q) : Fr (-q.1, q.2) := ⟨h.pos, by simp only; rw [Int.neg_gcd]; exact h.red, by simp only; have := h.num; omega, h.den⟩

theorem w2 {i : Int} {a : Nat} (h0 : 0 ≤ i) (h1 : i ≤ 100) (ha : a ≤ 1) : w64 (w64 (2 * i) + (a : Int)) = (((2 * i + a).toNat : Nat) : Int) := by
  rw [w64_eq (x := 2 * i) (by omega) (by omega), w64_eq (by omega) (by omega)]
  omega

theorem toIntS_o_eq (l : List Int) (h : l.length ≤ 1048576) : laws_toIntS_o l = some l := by
  have hb : ∀ (n : Nat) x (row : List Int), l[n]? = some x → row.length = l.length → laws_toIntS_o_L1_body l n row = some (.inl (((n + 1 : Nat) : Int), row.set n x)) := by
    intro n x row hx hr
    obtain ⟨hn, rfl⟩ := List.getElem?_eq_some_iff.1 hx
    have hw : w64 ((n : Int) + 1) = ((n + 1 : Nat) : Int) := by rw [w64_eq (by omega) (by omega)]; rfl
    simp only [laws_toIntS_o_L1_body, len_eq, hw]
    simp [hn, hr]
  have he : ∀ row : List Int, laws_toIntS_o_L1_body l l.length row = some (.inr row) := by
    intro row
    simp [laws_toIntS_o_L1_body, len_eq]
  have h1 : laws_toIntS_o_L1 l 0 (List.replicate (len_ eI l).toNat 0) = some l :=
    iter_copy l (List.replicate (len_ eI l).toNat 0) (by simp [len_eq]) hb he
  unfold laws_toIntS_o
  rw [h1, if_pos (by rw [len_eq]; omega)]
  simp [len_eq]

theorem toJointS_o_eq (l : List TJoint) (h : l.length ≤ 1048576) : laws_toJointS_o l = some l := by
  have hb : ∀ (n : Nat) x (row : List TJoint), l[n]? = some x → row.length = l.length → laws_toJointS_o_L1_body l n row = some (.inl (((n + 1 : Nat) : Int), row.set n x)) := by
    intro n x row hx hr
    obtain ⟨hn, rfl⟩ := List.getElem?_eq_some_iff.1 hx
    have hw : w64 ((n : Int) + 1) = ((n + 1 : Nat) : Int) := by rw [w64_eq (by omega) (by omega)]; rfl
    simp only [laws_toJointS_o_L1_body, len_eq, hw, laws_toJoint]
    simp [hn, hr]
  have he : ∀ row : List TJoint, laws_toJointS_o_L1_body l l.length row = some (.inr row) := by
    intro row
    simp [laws_toJointS_o_L1_body, len_eq]
  have h1 : laws_toJointS_o_L1 l 0 (List.replicate (len_ eTJoint l).toNat (⟨ByteArray.empty, 0, 0, false⟩ : TJoint)) = some l :=
    iter_copy l _ (by simp [len_eq]) hb he
  unfold laws_toJointS_o
  rw [h1, if_pos (by rw [len_eq]; omega)]
  simp [len_eq]

theorem toMemberS_o_eq (l : List TMember) (h : l.length ≤ 1048576) : laws_toMemberS_o l = some l := by
  have hb : ∀ (n : Nat) x (row : List TMember), l[n]? = some x → row.length = l.length → laws_toMemberS_o_L1_body l n row = some (.inl (((n + 1 : Nat) : Int), row.set n x)) := by
    intro n x row hx hr
    obtain ⟨hn, rfl⟩ := List.getElem?_eq_some_iff.1 hx
    have hw : w64 ((n : Int) + 1) = ((n + 1 : Nat) : Int) := by rw [w64_eq (by omega) (by omega)]; rfl
    simp only [laws_toMemberS_o_L1_body, len_eq, hw, laws_toMember]
    simp [hn, hr]
  have he : ∀ row : List TMember, laws_toMemberS_o_L1_body l l.length row = some (.inr row) := by
    intro row
    simp [laws_toMemberS_o_L1_body, len_eq]
  have h1 : laws_toMemberS_o_L1 l 0 (List.replicate (len_ eTMember l).toNat (⟨0, 0, 0⟩ : TMember)) = some l :=
    iter_copy l _ (by simp [len_eq]) hb he
  unfold laws_toMemberS_o
  rw [h1, if_pos (by rw [len_eq]; omega)]
  simp [len_eq]

theorem toStructure_o_eq (s : TStructure) (h1 : s.fJoints.length ≤ 1048576) (h2 : s.fMembers.length ≤ 1048576) : laws_toStructure_o s = some (s.fJoints, s.fMembers) := by
  simp [laws_toStructure_o, toJointS_o_eq _ h1, toMemberS_o_eq _ h2]

/-- A handle that is as long as its row. -/
def HOk (P : List (List Int)) : HO → Prop
  | none => True
  | some (k, c) => ∃ x, P[k]? = some x ∧ x.length = c ∧ c ≤ 1048576

theorem HOk.in_ {P : List (List Int)} {h : HO} (hh : HOk P h) : inH P h = true := by
  cases h with
  | none => rfl
  | some p =>
    obtain ⟨k, c⟩ := p
    obtain ⟨x, h1, h2, -⟩ := hh
    have hk := lt_of_get h1
    have hd : P.getD k [] = x := by rw [List.getD_eq_getElem?_getD, h1]; rfl
    simp only [inH, hd, Bool.and_eq_true, decide_eq_true_eq]
    omega

theorem HOk.app {P : List (List Int)} (Q : List (List Int)) {h : HO} (hh : HOk P h) : HOk (P ++ Q) h ∧ vwH (P ++ Q) h = vwH P h := by
  cases h with
  | none => exact ⟨trivial, rfl⟩
  | some p =>
    obtain ⟨k, c⟩ := p
    obtain ⟨x, h1, h2, h3⟩ := hh
    have hk := lt_of_get h1
    have e : (P ++ Q)[k]? = some x := by rw [List.getElem?_append_left hk]; exact h1
    refine ⟨⟨x, e, h2, h3⟩, ?_⟩
    simp only [vwH, List.getD_eq_getElem?_getD, e, h1]

theorem HOk.new {P Q : List (List Int)} {x : List Int} {n : Nat} (hx : Q[n]? = some x) (hl : x.length ≤ 1048576) : HOk (P ++ Q) (some (P.length + n, x.length)) ∧ vwH (P ++ Q) (some (P.length + n, x.length)) = x := by
  have e : (P ++ Q)[P.length + n]? = some x := by rw [List.getElem?_append_right (by omega), show P.length + n - P.length = n by omega]; exact hx
  refine ⟨⟨x, e, rfl, hl⟩, ?_⟩
  simp only [vwH, List.getD_eq_getElem?_getD, e, Option.getD_some, List.take_length]

theorem HOk.set {P : List (List Int)} {k : Nat} {x y : List Int} (hx : P[k]? = some x) (hy : y.length = x.length) {h : HO} (hh : HOk P h) : HOk (P.set k y) h := by
  cases h with
  | none => trivial
  | some p =>
    obtain ⟨j, c⟩ := p
    obtain ⟨z, h1, h2, h3⟩ := hh
    by_cases hj : k = j
    · subst hj
      rw [hx] at h1
      obtain rfl := Option.some.inj h1
      exact ⟨y, by rw [List.getElem?_set, if_pos rfl, if_pos (lt_of_get hx)], by omega, h3⟩
    · exact ⟨z, by rw [List.getElem?_set, if_neg hj]; exact h1, h2, h3⟩

def ROk (P : List (List Int)) (x : OTRat) : Prop := HOk P x.fNum.fMag ∧ HOk P x.fDen

theorem ROk.in_ {P : List (List Int)} {x : OTRat} (h : ROk P x) : inOTRat P x = true := by
  simp only [inOTRat, h.1.in_, h.2.in_, Bool.and_self]

theorem toRat_o_eq {r : TRat} (h : RatLen r) : laws_toRat_o r = some (r.fNum.fNeg, r.fNum.fMag, r.fDen) := by
  simp [laws_toRat_o, laws_toBigInt_o, toIntS_o_eq _ h.1, toIntS_o_eq _ h.2]

theorem toRatS_o_eq (l : List TRat) (h : l.length ≤ 1048576) (hr : ∀ r ∈ l, RatLen r) :
    ∃ rw P, laws_toRatS_o l = some (rw, P) ∧ rw.map (vwOTRat P) = l ∧ rw.length = l.length ∧ ∀ x ∈ rw, ROk P x := by
  obtain ⟨r, r1, r2⟩ := iter_inv (f := fun w : Int × (List OTRat) × (List (List Int)) => laws_toRatS_o_L1_body l w.1 w.2.1 w.2.2)
    (I := fun w => ∃ n : Nat, w.1 = n ∧ n ≤ l.length ∧ w.2.1.length = l.length ∧ ∀ j x, j < n → w.2.1[j]? = some x → ROk w.2.2 x ∧ l[j]? = some (vwOTRat w.2.2 x))
    (m := fun w => l.length - w.1.toNat) (fun r => r.1.length = l.length ∧ ∀ j x, r.1[j]? = some x → ROk r.2 x ∧ l[j]? = some (vwOTRat r.2 x)) (by
      rintro ⟨a, row, P⟩ ⟨n, e1, e2, e3, e4⟩
      simp only at e1 e3 e4
      subst e1
      by_cases hn : n = l.length
      · subst hn
        refine .inr ⟨(row, P), by simp [laws_toRatS_o_L1_body, len_eq], e3, fun j x hj => e4 j x (by have := lt_of_get hj; simp only at this; omega) hj⟩
      · have hx := List.getElem?_eq_getElem (show n < l.length by omega)
        generalize l[n] = r at hx
        have hrl := hr r (List.mem_of_getElem? hx)
        have hw : w64 ((n : Int) + 1) = ((n + 1 : Nat) : Int) := by rw [w64_eq (by omega) (by omega)]; rfl
        refine .inl ⟨(((n + 1 : Nat) : Int), row.set n ⟨⟨r.fNum.fNeg, some (P.length, r.fNum.fMag.length)⟩, some (P.length + 1, r.fDen.length)⟩, P ++ [r.fNum.fMag, r.fDen]), ?_, ⟨n + 1, rfl, by omega, by simp [e3], fun j x hj hx' => ?_⟩, by simp; omega⟩
        · have hn' : n < l.length := by omega
          have hn'' : n < row.length := by omega
          unfold laws_toRatS_o_L1_body
          rw [len_eq, if_pos (by simp; omega), if_pos (by omega), Int.toNat_natCast, hx]
          simp only [Option.bind_eq_bind, Option.bind_some]
          rw [toRat_o_eq hrl]
          simp only [Option.bind_some]
          rw [if_pos (by omega), if_pos (by omega), hw, Nat.zero_add]
        · simp only at hx' ⊢
          rw [List.getElem?_set] at hx'
          by_cases hjn : n = j
          · subst hjn
            rw [if_pos rfl, if_pos (by omega)] at hx'
            obtain rfl := Option.some.inj hx'
            have q1 := HOk.new (P := P) (Q := [r.fNum.fMag, r.fDen]) (n := 0) rfl hrl.1
            have q2 := HOk.new (P := P) (Q := [r.fNum.fMag, r.fDen]) (n := 1) rfl hrl.2
            refine ⟨⟨q1.1, q2.1⟩, ?_⟩
            rw [hx]
            simp only [vwOTRat]
            rw [show (some (P.length, r.fNum.fMag.length) : HO) = some (P.length + 0, r.fNum.fMag.length) from rfl, q1.2, q2.2]
          · rw [if_neg hjn] at hx'
            obtain ⟨⟨f1, f2⟩, f3⟩ := e4 j x (by omega) hx'
            have g1 := f1.app [r.fNum.fMag, r.fDen]
            have g2 := f2.app [r.fNum.fMag, r.fDen]
            refine ⟨⟨g1.1, g2.1⟩, ?_⟩
            rw [f3]
            simp only [vwOTRat, g1.2, g2.2])
    (0, List.replicate l.length ⟨⟨false, none⟩, none⟩, []) ⟨0, rfl, by omega, by simp, fun j x hj => by omega⟩
  obtain ⟨rw_, P⟩ := r
  obtain ⟨r2, r3⟩ := r2
  simp only at r2 r3
  refine ⟨rw_, P, ?_, ?_, r2, fun x hx => ?_⟩
  · unfold laws_toRatS_o laws_toRatS_o_L1
    rw [len_eq, Int.toNat_natCast, if_pos (by omega)]
    rw [r1]
    rfl
  · apply List.ext_getElem?
    intro j
    rw [List.getElem?_map]
    cases hj : rw_[j]? with
    | none => rw [List.getElem?_eq_none_iff] at hj; symm; rw [Option.map_none, List.getElem?_eq_none_iff]; omega
    | some x => rw [(r3 j x hj).2]; rfl
  · obtain ⟨j, hj⟩ := List.mem_iff_getElem?.mp hx
    exact (r3 j x hj).1

theorem bstr1 (x : Int) : (bstr [x]).size = 1 := rfl

theorem markText_some {k : Int} (h : k ≤ 1000000000000000000) : ∃ r, laws_markText k = some r := by
  unfold laws_markText
  by_cases c : k ≤ 0
  · exact ⟨_, by rw [if_pos (by simpa using c)]⟩
  · rw [if_neg (by simpa using c)]
    obtain ⟨r, r1, r2⟩ := iter_inv (f := fun w : Int × ByteArray => laws_markText_L1_body w.1 w.2) (I := fun w => 0 ≤ w.1 ∧ (w.2.size : Int) + w.1 ≤ 1000000000000000000) (m := fun w => w.1.toNat)
      (fun r => (r.size : Int) ≤ 1000000000000000000) (by
        rintro ⟨a, o⟩ ⟨h1, h2⟩
        simp only at h1 h2
        by_cases ha : 0 < a
        · have hd : a.tdiv 10 = a / 10 := by rw [Int.tdiv_eq_ediv_of_nonneg h1]
          refine .inl ⟨(a / 10, bstr [IntKind.wrap .u8 (w64 ((48 : Int) + (a.tmod (10 : Int))))] ++ o), ?_, ⟨by simp only; omega, ?_⟩, by simp only; omega⟩
          · unfold laws_markText_L1_body
            simp only
            rw [if_pos (by simpa using ha), bstr1, if_pos (by omega), hd, w64_eq (by omega) (by omega)]
          · simp only [ByteArray.size_append, bstr1]
            omega
        · exact .inr ⟨o, by simp [laws_markText_L1_body, ha], by omega⟩) (k, ⟨#[]⟩) ⟨by simp only; omega, by
          have : (⟨#[]⟩ : ByteArray).size = 0 := rfl
          simp only [this]; omega⟩
    unfold laws_markText_L1
    rw [r1]
    refine ⟨_, by
      simp only [Option.bind_eq_bind, Option.bind_some]
      rw [if_pos ?_]
      have : (⟨#[109]⟩ : ByteArray).size = 1 := rfl
      rw [this]
      omega⟩

theorem markJointS_o_some {k : Int} {l : List TJoint} (h0 : 0 ≤ k) (h : k + 4 * l.length ≤ 1000000000000000000) :
    ∃ k' l', laws_markJointS_o k l = some (k', l') ∧ l'.length = l.length ∧ 0 ≤ k' ∧ k' ≤ k + 4 * l.length := by
  obtain ⟨r, r1, r2⟩ := iter_inv (f := fun w : Int × Int × (List TJoint) => laws_markJointS_o_L1_body w.1 w.2.1 w.2.2)
    (I := fun w => ∃ n : Nat, w.2.1 = n ∧ n ≤ l.length ∧ w.2.2.length = l.length ∧ 0 ≤ w.1 ∧ w.1 ≤ k + 4 * n)
    (m := fun w => l.length - w.2.1.toNat) (fun r => r.2.length = l.length ∧ 0 ≤ r.1 ∧ r.1 ≤ k + 4 * l.length) (by
      rintro ⟨a, i, row⟩ ⟨n, e1, e2, e3, e4, e5⟩
      simp only at e1 e3 e4 e5
      subst e1
      by_cases hn : n = l.length
      · subst hn
        refine .inr ⟨(a, row), by simp [laws_markJointS_o_L1_body, e3], e3, e4, e5⟩
      · have hn' : n < row.length := by omega
        obtain ⟨t, ht⟩ := markText_some (k := a) (by omega)
        have hw : w64 ((n : Int) + 1) = ((n + 1 : Nat) : Int) := by rw [w64_eq (by omega) (by omega)]; rfl
        have w1 : w64 (a + 1) = a + 1 := w64_eq (by omega) (by omega)
        have w2 : w64 (a + 1 + 1) = a + 1 + 1 := w64_eq (by omega) (by omega)
        have w3 : w64 (a + 1 + 1 + 1) = a + 1 + 1 + 1 := w64_eq (by omega) (by omega)
        have w4 : w64 (a + 1 + 1 + 1 + 1) = a + 1 + 1 + 1 + 1 := w64_eq (by omega) (by omega)
        have key : ∃ row', laws_markJointS_o_L1_body a n row = some (.inl (a + 1 + 1 + 1 + 1, ((n + 1 : Nat) : Int), row')) ∧ row'.length = row.length := by
          unfold laws_markJointS_o_L1_body
          rw [if_pos (by simpa using hn'), ht, w1, w2, w3, w4, hw]
          simp only [Option.bind_eq_bind, Option.bind_some, Nat.zero_add, Int.toNat_natCast]
          rw [if_pos (by omega), List.getElem?_eq_getElem hn']
          simp only [Option.bind_some, List.getElem?_set_self hn', List.length_set, List.getElem?_set_self (show n < (row.set n _).length by simpa using hn'), List.set_set]
          exact ⟨_, rfl, by simp⟩
        obtain ⟨row', h1, h2⟩ := key
        refine .inl ⟨_, h1, ⟨n + 1, rfl, by omega, by simp only; omega, by simp only; omega, by simp only; omega⟩, by simp; omega⟩) (k, 0, l) ⟨0, rfl, by omega, rfl, h0, by simp⟩
  obtain ⟨k', l'⟩ := r
  exact ⟨k', l', by unfold laws_markJointS_o laws_markJointS_o_L1; rw [r1]; rfl, r2⟩

theorem markMemberS_o_some {k : Int} {l : List TMember} (h0 : 0 ≤ k) (h : k + 3 * l.length ≤ 1000000000000000000) :
    ∃ k' l', laws_markMemberS_o k l = some (k', l') ∧ l'.length = l.length ∧ 0 ≤ k' ∧ k' ≤ k + 3 * l.length := by
  obtain ⟨r, r1, r2⟩ := iter_inv (f := fun w : Int × Int × (List TMember) => laws_markMemberS_o_L1_body w.1 w.2.1 w.2.2)
    (I := fun w => ∃ n : Nat, w.2.1 = n ∧ n ≤ l.length ∧ w.2.2.length = l.length ∧ 0 ≤ w.1 ∧ w.1 ≤ k + 3 * n)
    (m := fun w => l.length - w.2.1.toNat) (fun r => r.2.length = l.length ∧ 0 ≤ r.1 ∧ r.1 ≤ k + 3 * l.length) (by
      rintro ⟨a, i, row⟩ ⟨n, e1, e2, e3, e4, e5⟩
      simp only at e1 e3 e4 e5
      subst e1
      by_cases hn : n = l.length
      · subst hn
        refine .inr ⟨(a, row), by simp [laws_markMemberS_o_L1_body, e3], e3, e4, e5⟩
      · have hn' : n < row.length := by omega
        have hw : w64 ((n : Int) + 1) = ((n + 1 : Nat) : Int) := by rw [w64_eq (by omega) (by omega)]; rfl
        have w1 : w64 (a + 1) = a + 1 := w64_eq (by omega) (by omega)
        have w2 : w64 (a + 1 + 1) = a + 1 + 1 := w64_eq (by omega) (by omega)
        have w3 : w64 (a + 1 + 1 + 1) = a + 1 + 1 + 1 := w64_eq (by omega) (by omega)
        have key : ∃ row', laws_markMemberS_o_L1_body a n row = some (.inl (a + 1 + 1 + 1, ((n + 1 : Nat) : Int), row')) ∧ row'.length = row.length := by
          unfold laws_markMemberS_o_L1_body
          rw [if_pos (by simpa using hn'), w1, w2, w3, hw]
          simp only [Nat.zero_add, Int.toNat_natCast]
          rw [if_pos (by omega), List.getElem?_eq_getElem hn']
          simp only [Option.bind_eq_bind, Option.bind_some, List.getElem?_set_self hn', List.length_set, List.getElem?_set_self (show n < (row.set n _).length by simpa using hn'), List.set_set]
          exact ⟨_, rfl, by simp⟩
        obtain ⟨row', h1, h2⟩ := key
        refine .inl ⟨_, h1, ⟨n + 1, rfl, by omega, by simp only; omega, by simp only; omega, by simp only; omega⟩, by simp; omega⟩) (k, 0, l) ⟨0, rfl, by omega, rfl, h0, by simp⟩
  obtain ⟨k', l'⟩ := r
  exact ⟨k', l', by unfold laws_markMemberS_o laws_markMemberS_o_L1; rw [r1]; rfl, r2⟩

theorem markStructure_o_some {k : Int} {l : List TJoint} {m : List TMember} (h0 : 0 ≤ k) (h : k + 4 * l.length + 3 * m.length ≤ 1000000000000000000) :
    ∃ k' l' m', laws_markStructure_o k l m = some (k', l', m') ∧ l'.length = l.length ∧ m'.length = m.length ∧ 0 ≤ k' ∧ k' ≤ k + 4 * l.length + 3 * m.length := by
  obtain ⟨k1, l', e1, e2, e3, e4⟩ := markJointS_o_some (l := l) h0 (by omega)
  obtain ⟨k2, m', f1, f2, f3, f4⟩ := markMemberS_o_some (k := k1) (l := m) e3 (by omega)
  refine ⟨k2, l', m', ?_, e2, f2, f3, by omega⟩
  unfold laws_markStructure_o
  rw [e1]
  simp only [Option.bind_eq_bind, Option.bind_some]
  rw [f1]
  rfl

/-- The marks from k on. -/
def marks (k : Int) (n : Nat) : List Int := (List.range n).map fun i : Nat => k + (i : Int)

theorem marks_len (k : Int) (n : Nat) : (marks k n).length = n := by simp [marks]

theorem marks_get {k : Int} {n i : Nat} (h : i < n) : (marks k n)[i]? = some (k + i) := by
  unfold marks
  rw [List.getElem?_map, List.getElem?_range h]
  rfl

theorem marks_step {k : Int} {l : List Int} {i : Nat} (h : i < l.length) : (marks k i ++ l.drop i).set i (k + i) = marks k (i + 1) ++ l.drop (i + 1) := by
  unfold marks
  rw [List.range_succ, List.map_append, List.set_append_right _ _ (by simp)]
  rw [show i - (List.map (fun i : Nat => k + (i : Int)) (List.range i)).length = 0 by simp, List.drop_eq_getElem_cons h, List.set_cons_zero]
  simp

theorem markIntS_o_eq {k : Int} {l : List Int} (h0 : 0 ≤ k) (h : k + l.length ≤ 1000000000000000000) : laws_markIntS_o k 0 l.length l = some (k + l.length, marks k l.length) := by
  have := iter_run (f := fun w : Int × Int × (List Int) => laws_markIntS_o_L1_body 0 l.length w.1 w.2.1 w.2.2) (s := fun n => (k + (n : Int), (n : Int), marks k n ++ l.drop n)) (r := (k + (l.length : Int), marks k l.length)) l.length 0 (fun i _ hi => ?_) ?_
  · unfold laws_markIntS_o laws_markIntS_o_L1
    have e : (k + ((0 : Nat) : Int), ((0 : Nat) : Int), marks k 0 ++ l.drop 0) = (k, 0, l) := by simp [marks]
    rw [e] at this
    rw [this]
    rfl
  · have hi' : i < l.length := by omega
    unfold laws_markIntS_o_L1_body
    simp only
    rw [if_pos (by simpa using hi'), if_pos (by omega), Nat.zero_add, Int.toNat_natCast, if_pos (by simp [marks_len]; omega), marks_step hi', w64_eq (by omega) (by omega), w64_eq (by omega) (by omega)]
    simp only [Int.natCast_add, Int.add_assoc]
    rfl
  · simp [laws_markIntS_o_L1_body]

theorem markIntS_o'_eq {k : Int} {l : List Int} (h0 : 0 ≤ k) (h : k + l.length ≤ 1000000000000000000) : laws_markIntS_o' k l = some (k + l.length, marks k l.length) := by
  have := iter_run (f := fun w : Int × Int × (List Int) => laws_markIntS_o'_L1_body w.1 w.2.1 w.2.2) (s := fun n => (k + (n : Int), (n : Int), marks k n ++ l.drop n)) (r := (k + (l.length : Int), marks k l.length)) l.length 0 (fun i _ hi => ?_) ?_
  · unfold laws_markIntS_o' laws_markIntS_o'_L1
    have e : (k + ((0 : Nat) : Int), ((0 : Nat) : Int), marks k 0 ++ l.drop 0) = (k, 0, l) := by simp [marks]
    rw [e] at this
    rw [this]
    rfl
  · have hi' : i < l.length := by omega
    have hl : (marks k i ++ l.drop i).length = l.length := by simp [marks_len]; omega
    unfold laws_markIntS_o'_L1_body
    simp only [hl]
    rw [if_pos (by simpa using hi'), if_pos (by omega), Nat.zero_add, Int.toNat_natCast, if_pos (by omega), marks_step hi', w64_eq (by omega) (by omega), w64_eq (by omega) (by omega)]
    simp only [Int.natCast_add, Int.add_assoc]
    rfl
  · simp [laws_markIntS_o'_L1_body, marks_len]

theorem markIntS_nil (k : Int) : laws_markIntS [] k = some k := by
  have h : laws_markIntS_L1 [] k = some () := by
    unfold laws_markIntS_L1
    rw [iter]
    simp [laws_markIntS_L1_body, len_eq]
  simp [laws_markIntS, h]

theorem heldIntS_marks {k : Int} {n : Nat} (h0 : 0 ≤ k) (h : k + n ≤ 1000000000000000000) : laws_heldIntS (marks k n) k = some (k + n) := by
  have := iter_run (f := fun w : Int × Int => laws_heldIntS_L1_body (marks k n) w.1 w.2) (s := fun i => (k + (i : Int), (i : Int))) (r := .inl (k + (n : Int))) n 0 (fun i _ hi => ?_) ?_
  · unfold laws_heldIntS laws_heldIntS_L1
    have e : (k + ((0 : Nat) : Int), ((0 : Nat) : Int)) = (k, 0) := by simp
    rw [e] at this
    rw [this]
    rfl
  · have hi' : i < n := by omega
    unfold laws_heldIntS_L1_body
    simp only [len_eq, marks_len]
    rw [if_pos (by simpa using hi'), if_pos (by omega), Int.toNat_natCast, marks_get hi', w64_eq (by omega) (by omega), w64_eq (by omega) (by omega)]
    simp [Int.add_assoc]
  · simp [laws_heldIntS_L1_body, len_eq, marks_len]

theorem heldIntS_nil {k : Int} (h0 : 0 ≤ k) (h : k ≤ 1000000000000000000) : laws_heldIntS [] k = some k := by
  have := heldIntS_marks (k := k) (n := 0) h0 (by simpa using h)
  simpa [marks] using this

theorem mark_h {P : List (List Int)} {k : Int} {h : HO} (hh : HOk P h) (h0 : 0 ≤ k) (hk : k ≤ 500000000000000000) :
    (h = none ∧ laws_markIntS [] k = some k) ∨ ∃ j c x m, h = some (j, c) ∧ P[j]? = some x ∧ c ≤ 1048576 ∧ laws_markIntS_o k 0 c x = some (k + (c : Int), m) ∧ ∀ h', HOk P h' → HOk (P.set j m) h' := by
  cases h with
  | none => exact .inl ⟨rfl, markIntS_nil k⟩
  | some p =>
    obtain ⟨j, c⟩ := p
    obtain ⟨x, h1, h2, h3⟩ := hh
    subst h2
    exact .inr ⟨j, x.length, x, _, rfl, h1, h3, markIntS_o_eq h0 (by omega), fun h' hh' => hh'.set h1 (marks_len _ _)⟩

theorem markRatS_o_some {k : Int} {l : List OTRat} {P : List (List Int)} (hl : ∀ x ∈ l, ROk P x) (h0 : 0 ≤ k) (h : k + 2097153 * l.length ≤ 400000000000000000) :
    ∃ k' l' P', laws_markRatS_o k l P = some (k', l', P') ∧ 0 ≤ k' ∧ k' ≤ k + 2097153 * l.length := by
  obtain ⟨r, r1, r2⟩ := iter_inv (f := fun w : Int × Int × (List OTRat) × (List (List Int)) => laws_markRatS_o_L1_body w.1 w.2.1 w.2.2.1 w.2.2.2)
    (I := fun w => ∃ n : Nat, w.2.1 = n ∧ n ≤ l.length ∧ w.2.2.1.length = l.length ∧ (∀ j x, w.2.2.1[j]? = some x → ROk w.2.2.2 x) ∧ 0 ≤ w.1 ∧ w.1 ≤ k + 2097153 * n)
    (m := fun w => l.length - w.2.1.toNat) (fun r => 0 ≤ r.1 ∧ r.1 ≤ k + 2097153 * l.length) (by
      rintro ⟨a, i, row, P⟩ ⟨n, e1, e2, e3, e6, e4, e5⟩
      simp only at e1 e3 e4 e5 e6
      subst e1
      by_cases hn : n = l.length
      · subst hn
        refine .inr ⟨(a, row, P), by simp [laws_markRatS_o_L1_body, e3], e4, e5⟩
      · have hn' : n < row.length := by omega
        have hw : w64 ((n : Int) + 1) = ((n + 1 : Nat) : Int) := by rw [w64_eq (by omega) (by omega)]; rfl
        have w1 : w64 (a + 1) = a + 1 := w64_eq (by omega) (by omega)
        obtain ⟨x, hx⟩ : ∃ x, row[n]? = some x := ⟨_, List.getElem?_eq_getElem hn'⟩
        obtain ⟨⟨xn, xm⟩, xd⟩ := x
        obtain ⟨f1, f2⟩ := e6 n _ hx
        simp only at f1 f2
        have hset : ∀ P' : List (List Int), (∀ h', HOk P h' → HOk P' h') → ∀ (b : Bool) (j : Nat) (y : OTRat), (row.set n (⟨⟨b, xm⟩, xd⟩ : OTRat))[j]? = some y → ROk P' y := by
          intro P' hP b j y hy
          rw [List.getElem?_set] at hy
          by_cases hj : n = j
          · rw [if_pos hj, if_pos hn'] at hy
            obtain rfl := Option.some.inj hy
            exact ⟨hP _ f1, hP _ f2⟩
          · rw [if_neg hj] at hy
            exact ⟨hP _ (e6 j y hy).1, hP _ (e6 j y hy).2⟩
        refine .inl ?_
        unfold laws_markRatS_o_L1_body
        simp only
        rw [if_pos (by simpa using hn'), w1, hw]
        simp only [Nat.zero_add, Int.toNat_natCast]
        rw [if_pos (by omega), hx]
        simp only [Option.bind_eq_bind, Option.bind_some, List.getElem?_set_self hn']
        rcases mark_h f1 (k := a + 1) (by omega) (by omega) with ⟨rfl, g1⟩ | ⟨j, c, y, m, rfl, g1, g2, g3, g4⟩
        · simp only [Option.elim_none]
          rw [g1]
          simp only [Option.bind_some]
          rcases mark_h f2 (k := a + 1) (by omega) (by omega) with ⟨rfl, p1⟩ | ⟨j, c, y, m, rfl, p1, p2, p3, p4⟩
          · simp only [Option.elim_none]
            rw [p1]
            exact ⟨_, rfl, ⟨n + 1, rfl, by omega, by simp only [List.length_set]; omega, hset P (fun _ h => h) _, by simp only; omega, by simp only; omega⟩, by simp; omega⟩
          · simp only [Option.elim_some]
            rw [p1]
            simp only [Option.bind_some]
            rw [p3]
            exact ⟨_, rfl, ⟨n + 1, rfl, by omega, by simp only [List.length_set]; omega, hset _ p4 _, by simp only; omega, by simp only; omega⟩, by simp; omega⟩
        · simp only [Option.elim_some]
          rw [g1]
          simp only [Option.bind_some]
          rw [g3]
          simp only [Option.bind_some]
          rcases mark_h (g4 _ f2) (k := a + 1 + (c : Int)) (by omega) (by omega) with ⟨rfl, p1⟩ | ⟨j', c', y', m', rfl, p1, p2, p3, p4⟩
          · simp only [Option.elim_none]
            rw [p1]
            exact ⟨_, rfl, ⟨n + 1, rfl, by omega, by simp only [List.length_set]; omega, hset _ g4 _, by simp only; omega, by simp only; omega⟩, by simp; omega⟩
          · simp only [Option.elim_some]
            rw [p1]
            simp only [Option.bind_some]
            rw [p3]
            exact ⟨_, rfl, ⟨n + 1, rfl, by omega, by simp only [List.length_set]; omega, hset _ (fun h' hh => p4 h' (g4 h' hh)) _, by simp only; omega, by simp only; omega⟩, by simp; omega⟩) (k, 0, l, P) ⟨0, rfl, by omega, rfl, fun j x hx => hl x (List.mem_of_getElem? hx), h0, by simp⟩
  obtain ⟨k', l', P'⟩ := r
  exact ⟨k', l', P', by unfold laws_markRatS_o laws_markRatS_o_L1; rw [r1]; rfl, r2⟩

def Need (y : Int × Int) (r : Int) : Prop := 0 ≤ r ∧ r ≤ 1001 ∧ (∀ j, 0 ≤ j → j < r → j * j * y.2 < y.1) ∧ (r ≤ 1000 → y.1 ≤ r * r * y.2)

theorem need_one {y : Int × Int} {a b : Int} (ha : Need y a) (hb : Need y b) : a = b := by
  obtain ⟨a1, a2, a3, a4⟩ := ha
  obtain ⟨b1, b2, b3, b4⟩ := hb
  rcases Int.lt_trichotomy a b with h | h | h
  · have := b3 a a1 h
    have := a4 (by omega)
    omega
  · exact h
  · have := a3 b b1 h
    have := b4 (by omega)
    omega

theorem sq1000 {n : Int} (h0 : 0 ≤ n) (h1 : n ≤ 1000) : 0 ≤ n * n ∧ n * n ≤ 1000000 := by
  have := Int.mul_le_mul h1 h1 h0 (by omega)
  exact ⟨Int.mul_nonneg h0 h0, by omega⟩

theorem sq_mono {y : Int × Int} (hy : 0 < y.2) {j n : Int} (h0 : 0 ≤ j) (h : j ≤ n) : j * j * y.2 ≤ n * n * y.2 :=
  Int.mul_le_mul_of_nonneg_right (Int.mul_le_mul h h h0 (by omega)) (by omega)

theorem need_impl {y : Int × Int} (hy : Fr y) : ∃ r, Need y r ∧ impl_needOf (someO y) = some (if r ≤ 1000 then (r, true) else (0, false)) := by
  obtain ⟨r, r1, r2⟩ := iter_inv (f := fun w : Int => impl_needOf_L1_body (someO y) w) (I := fun n => 0 ≤ n ∧ n ≤ 1001 ∧ ∀ j, 0 ≤ j → j < n → j * j * y.2 < y.1) (m := fun n => (1001 - n).toNat)
    (fun r => r.elim (fun _ => Need y 1001) (fun n => n ≤ 1000 ∧ Need y n)) (by
      intro n hn
      obtain ⟨h1, h2, h3⟩ := hn
      by_cases c : n < 1001
      · obtain ⟨s1, s2⟩ := sq1000 h1 (by omega)
        have hin : In64 (n * n) := in64_iff.2 (by omega)
        have hs : Fr (n * n, 1) := fr_int hin
        have hb : impl_needOf_L1_body (someO y) n = some (if 0 ≤ cmp3 (n * n * y.2) (y.1 * 1) then .inr (.inr n) else .inl (n + 1)) := by
          unfold impl_needOf_L1_body
          rw [if_pos (by simpa using c), w64_eq (x := n * n) (by omega) (by omega), whole_eq hin]
          simp only [Option.bind_eq_bind, Option.bind_some, someO]
          rw [ratio_Cmp_eq hs.pos hy.pos hs.num hs.den hy.num hy.den (by omega) (by omega) (by omega) (by omega), w64_eq (x := n + 1) (by omega) (by omega)]
          simp only [Option.bind_some]
          by_cases d : 0 ≤ cmp3 (n * n * y.2) (y.1 * 1)
          · rw [if_pos (by simpa using d), if_pos d]
          · rw [if_neg (by simpa using d), if_neg d]
        have hlt := cmp3_lt (a := n * n * y.2) (b := y.1 * 1)
        rw [hb]
        by_cases d : 0 ≤ cmp3 (n * n * y.2) (y.1 * 1)
        · exact .inr ⟨.inr n, by rw [if_pos d], by omega, h1, h2, h3, fun _ => by omega⟩
        · refine .inl ⟨n + 1, by rw [if_neg d], ⟨by omega, by omega, fun j j1 j2 => ?_⟩, by omega⟩
          rcases Int.lt_or_le j n with e | e
          · exact h3 j j1 e
          · have : j = n := by omega
            subst this
            omega
      · have : n = 1001 := by omega
        subst this
        exact .inr ⟨.inl (), rfl, h1, h2, h3, fun h => by omega⟩) 0 ⟨by omega, by omega, fun j j1 j2 => by omega⟩
  unfold impl_needOf impl_needOf_L1
  rw [r1]
  cases r with
  | inl _ => exact ⟨1001, r2, rfl⟩
  | inr n => exact ⟨n, r2.2, by rw [if_pos r2.1]; rfl⟩

theorem need_spec {y : Int × Int} (hy : Fr y) {r : Int} (hr : Need y r) (a : List TRat) (b c : Int) (d : List Int) : spec_NeedsOf_L2 a b c d (mk y).fNum.fNeg (mk y).fNum.fMag (mk y).fDen 0 1001 = some r := by
  obtain ⟨x, x1, x2⟩ := iter_inv (f := fun w : Int × Int => spec_NeedsOf_L2_body a b c d (mk y).fNum.fNeg (mk y).fNum.fMag (mk y).fDen w.1 w.2)
    (I := fun w => 0 ≤ w.1 ∧ w.1 ≤ w.2 ∧ w.2 ≤ 1001 ∧ (∀ j, 0 ≤ j → j < w.1 → j * j * y.2 < y.1) ∧ (w.2 ≤ 1000 → y.1 ≤ w.2 * w.2 * y.2)) (m := fun w => (w.2 - w.1).toNat)
    (fun r => Need y r) (by
      rintro ⟨lo, hi⟩ ⟨h1, h2, h3, h4, h5⟩
      simp only at h1 h2 h3 h4 h5
      by_cases q : lo < hi
      · have ht : (lo + hi).tdiv 2 = (lo + hi) / 2 := by rw [Int.tdiv_eq_ediv_of_nonneg (by omega)]
        generalize hm : (lo + hi) / 2 = n at ht
        obtain ⟨s1, s2⟩ := sq1000 (n := n) (by omega) (by omega)
        have hin : In64 (n * n) := in64_iff.2 (by omega)
        have hs : Fr (n * n, 1) := fr_int hin
        have hb : spec_NeedsOf_L2_body a b c d (mk y).fNum.fNeg (mk y).fNum.fMag (mk y).fDen lo hi = some (if 0 < cmp3 (y.1 * 1) (n * n * y.2) then .inl (n + 1, hi) else .inl (lo, n)) := by
          unfold spec_NeedsOf_L2_body
          have e : (⟨⟨(mk y).fNum.fNeg, (mk y).fNum.fMag⟩, (mk y).fDen⟩ : TRat) = mk y := rfl
          rw [if_pos (by simpa using q), e, w64_eq (x := lo + hi) (by omega) (by omega), ht, w64_eq (x := n) (by omega) (by omega), w64_eq (x := n * n) (by omega) (by omega), ratFromInt_eq hin]
          simp only [Option.bind_eq_bind, Option.bind_some]
          rw [l04Cmp_eq hy hs, w64_eq (x := n + 1) (by omega) (by omega)]
          simp only [Option.bind_some]
          by_cases g : 0 < cmp3 (y.1 * 1) (n * n * y.2)
          · rw [if_pos (by simpa using g), if_pos g]
          · rw [if_neg (by simpa using g), if_neg g]
        have hp := cmp3_pos (a := y.1 * 1) (b := n * n * y.2)
        simp only
        rw [hb]
        by_cases g : 0 < cmp3 (y.1 * 1) (n * n * y.2)
        · refine .inl ⟨(n + 1, hi), by rw [if_pos g], ⟨by simp only; omega, by simp only; omega, h3, fun j j1 j2 => ?_, h5⟩, by simp only; omega⟩
          have := sq_mono hy.pos j1 (show j ≤ n by simp only at j2; omega)
          have := hp.1 g
          omega
        · refine .inl ⟨(lo, n), by rw [if_neg g], ⟨h1, by simp only; omega, by simp only; omega, h4, fun _ => ?_⟩, by simp only; omega⟩
          simp only
          omega
      · have : lo = hi := by omega
        subst this
        refine .inr ⟨lo, by simp [spec_NeedsOf_L2_body], h1, h3, h4, h5⟩) (0, 1001) ⟨by simp only; omega, by simp only; omega, by simp only; omega, fun j j1 j2 => by simp only at j2; omega, fun h => by simp only at h; omega⟩
  unfold spec_NeedsOf_L2
  rw [x1, need_one x2 hr]

theorem needsOf_both (s : TStructure) (i0 : ITStructure s) (q : List TRat) (h : q.length ≤ 1048576) (hr : ∀ r ∈ q, RatLen r) :
    ∃ r v, spec_NeedsOf s q = some (r, v) ∧ r.length ≤ 1048576 ∧ ((impl_NeedsOf_o s q = some (.inl r) ∧ v = true) ∨ (impl_NeedsOf_o s q = some (.inr ()) ∧ r = [] ∧ v = false)) := by
  rcases squares_both s i0 q h hr with ⟨ys, y1, y2, y3, y4, y5, y6⟩ | ⟨y5, y6⟩
  · obtain ⟨rs, o1, o2⟩ := list_make (P := fun k r => ∃ y, ys[k]? = some y ∧ Fr y ∧ Need y r ∧ impl_needOf (someO y) = some (if r ≤ 1000 then (r, true) else (0, false))) ys.length (fun k hk => by
      have e := List.getElem?_eq_getElem hk
      have hf := (y1 _ (List.mem_of_getElem? e)).1
      obtain ⟨r, r1, r2⟩ := need_impl hf
      exact ⟨r, ys[k], e, hf, r1, r2⟩)
    have hspec : iter (fun w : Int × List Int => spec_NeedsOf_L3_body (ys.map mk) ys.length w.1 w.2) (0, []) = some (if rs.all (fun r => decide (r ≤ 1000)) then .inl (rs.map id) else .inr ()) := iter_app rs (fun r => decide (r ≤ 1000)) id (fun n r row hrs hrow => by
      have hn := lt_of_get hrs
      obtain ⟨y, e1, e2, e3, e4⟩ := o2 n r hrs
      unfold spec_NeedsOf_L3_body
      rw [if_pos (by simp; omega), if_pos (by simp; omega), Int.toNat_natCast, List.getElem?_map, e1]
      simp only [Option.bind_eq_bind, Option.bind_some, Option.map_some]
      rw [need_spec e2 e3, i1 (by omega)]
      simp only [Option.bind_some]
      by_cases c : r ≤ 1000
      · rw [if_neg (by simp only [decide_eq_true_eq]; omega), if_pos (by simp; omega), if_pos (by simpa using c)]
        rfl
      · rw [if_pos (by simp only [decide_eq_true_eq]; omega), if_neg (by simpa using c)]) (fun row => by rw [o1]; simp [spec_NeedsOf_L3_body])
    have himpl : iter (fun w : Int × List Int => impl_NeedsOf_o_L1_body (ys.map someO) ys.length w.1 w.2) (0, List.replicate ys.length 0) = some (if rs.all (fun r => decide (r ≤ 1000)) then .inl (rs.map id) else .inr ()) := iter_fill rs (fun r => decide (r ≤ 1000)) id _ (by simp [o1]) (fun n r row hrs hrow => by
      have hn := lt_of_get hrs
      obtain ⟨y, e1, e2, e3, e4⟩ := o2 n r hrs
      unfold impl_NeedsOf_o_L1_body
      rw [if_pos (by simp; omega), if_pos (by simp; omega), Int.toNat_natCast, List.getElem?_map, e1]
      simp only [Option.bind_eq_bind, Option.bind_some, Option.map_some]
      rw [e4, i1 (by omega)]
      simp only [Option.bind_some]
      rw [if_pos (by omega), Nat.zero_add, if_pos (by omega)]
      by_cases c : r ≤ 1000
      · rw [if_pos c, if_pos rfl, if_pos (by simpa using c)]
        rfl
      · rw [if_neg c, if_neg (show ¬ ((0, false) : Int × Bool).2 = true by decide), if_neg (by simpa using c)]) (fun row => by rw [o1]; simp [impl_NeedsOf_o_L1_body])
    have hc : 0 ≤ (ys.length : Int) ∧ (8 : Int) * (ys.length : Int) ≤ 281474976710656 ∧ (ys.length : Int) < 9223372036854775808 := by omega
    unfold spec_NeedsOf spec_NeedsOf_L3 impl_NeedsOf_o impl_NeedsOf_o_L1
    rw [y5, y6]
    simp only [Option.bind_eq_bind, Option.bind_some, if_true, len_eq, List.length_map, Int.toNat_natCast]
    rw [hspec, himpl, if_pos hc]
    by_cases hall : rs.all (fun r => decide (r ≤ 1000)) = true
    · rw [hall]
      exact ⟨rs.map id, true, rfl, by simp; omega, .inl ⟨rfl, rfl⟩⟩
    · simp only [Bool.not_eq_true] at hall
      rw [hall]
      exact ⟨[], false, rfl, by simp, .inr ⟨rfl, rfl, rfl⟩⟩
  · unfold spec_NeedsOf impl_NeedsOf_o
    rw [y5, y6]
    exact ⟨[], false, rfl, by simp, .inr ⟨rfl, rfl, rfl⟩⟩

theorem laws_FnExactNeedsOf_true (x0 : TStructure) (x1 : (List TRat)) (i0 : ITStructure x0) (i1 : (fun l => l.length ≤ maxLen ∧ ∀ x ∈ l, ITRat x) x1) : laws_FnExactNeedsOf x0 x1 = some true := by
  unfold laws_FnExactNeedsOf
  obtain ⟨r, r1, r2⟩ := szStructure_some x0 i0 1048576 (by omega) (by omega)
  have hle := szStructure_le x0 i0 1048576 (by omega) (by omega) r r1
  rw [r1]
  simp only [Option.bind_eq_bind, Option.bind_some]
  by_cases h2 : r < 0
  · simp [h2]
  obtain ⟨a1, a2⟩ := r2 (by omega)
  rw [decide_eq_false h2]
  obtain ⟨t, t1, t2, t3⟩ := szRatS_some x1 i1.1 i1.2 r (by omega) hle
  rw [t1]
  simp only [Bool.false_eq_true, if_false, Option.bind_some]
  by_cases h3 : t < 0
  · simp [h3]
  obtain ⟨b1, b2⟩ := t3 (by omega)
  rw [decide_eq_false h3]
  simp only [Bool.false_eq_true, if_false]
  rw [toStructure_o_eq x0 a1 a2]
  obtain ⟨rw_, P, c1, c2, c3, c4⟩ := toRatS_o_eq x1 b1 b2
  simp only [Option.bind_some]
  rw [c1]
  simp only [Option.bind_some]
  rw [if_pos (List.all_eq_true.mpr fun x hx => (c4 x hx).in_), c2]
  obtain ⟨q, v, q1, q2, q3⟩ := needsOf_both x0 i0 x1 b1 b2
  obtain ⟨k1, l1, m1, d1, d2, d3, d4, d5⟩ := markStructure_o_some (k := 1) (l := x0.fJoints) (m := x0.fMembers) (by omega) (by omega)
  obtain ⟨k2, l2, P2, f1, f2, f3⟩ := markRatS_o_some (k := k1) (l := rw_) (P := P) c4 d4 (by omega)
  rw [q1]
  simp only [Option.bind_some]
  rcases q3 with ⟨g, rfl⟩ | ⟨g, rfl, rfl⟩
  · rw [g]
    simp only [Option.bind_some]
    rw [eqIntS_self q q2]
    simp only [Option.bind_some, if_true, BEq.rfl]
    rw [eqStructure_self x0 a1 a2]
    simp only [Option.bind_some, if_true]
    rw [eqRatS_self x1 b1 b2]
    simp only [Option.bind_some, if_true]
    rw [d1]
    simp only [Option.bind_some]
    rw [f1]
    simp only [Option.bind_some]
    rw [if_neg (by simp only [decide_eq_true_eq]; omega), markIntS_o'_eq (by omega) (by omega)]
    simp only [Option.bind_some, marks_len]
    rw [if_pos (by omega), List.drop_zero, List.take_of_length_le (by rw [marks_len]; omega), heldIntS_marks (by omega) (by omega)]
    simp only [Option.bind_some]
    rw [if_neg (by simp only [decide_eq_true_eq]; omega), if_neg (by simp)]
  · rw [g]
    simp only [Option.bind_some]
    rw [eqIntS_self [] q2]
    simp only [Option.bind_some, if_true, BEq.rfl]
    rw [eqStructure_self x0 a1 a2]
    simp only [Option.bind_some, if_true]
    rw [eqRatS_self x1 b1 b2]
    simp only [Option.bind_some, if_true]
    rw [d1]
    simp only [Option.bind_some]
    rw [f1]
    simp only [Option.bind_some]
    rw [if_neg (by simp only [decide_eq_true_eq]; omega), markIntS_nil]
    simp only [Option.bind_some]
    rw [heldIntS_nil (by omega) (by omega)]
    rfl

end Go.Proofs.YtiacejpdgjmdfabGreat
