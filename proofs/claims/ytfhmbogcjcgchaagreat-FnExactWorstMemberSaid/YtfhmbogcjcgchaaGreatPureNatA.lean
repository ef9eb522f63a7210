/- The program's and the reference's operations on natural numbers, in plain functions: cutting, comparing, dividing by one limb, multiplying. No condition. -/
import Derived.Test.YtfhmbogcjcgchaaGreatVmC
import Derived.Test.YtfhmbogcjcgchaaGreatVFnExactIsWithinB
namespace Go.Proofs.YtfhmbogcjcgchaaGreat
open Go Go.VL

theorem wnat {n : Nat} (h : n ≤ 10000000) : w64 (n : Int) = n := w64_eq (by omega) (by omega)
theorem wnat1 {n : Nat} (h : n ≤ 10000000) : w64 ((n : Int) + 1) = ((n + 1 : Nat) : Int) := by rw [w64_eq (by omega) (by omega)]; rfl
theorem wpred {n : Nat} (h : n ≤ 10000000) : w64 ((n : Int) - 1) = (n : Int) - 1 := w64_eq (by omega) (by omega)
theorem wsucc {n : Nat} (h : n ≤ 10000000) : w64 (((n + 1 : Nat) : Int) - 1) = n := by rw [w64_eq (by omega) (by omega)]; omega

theorem len_eI (l : List Int) : len_ eI l = l.length := len_eq _ l

theorem trim_step {l : List Int} {k : Nat} {x : Int} (hx : l[k]? = some x) (hn : l.length ≤ 5000000) : spec_l02Trim_L1_body l ((k + 1 : Nat) : Int) = some (if x = 0 then .inl (k : Int) else .inr ((k + 1 : Nat) : Int)) := by
  have hk := lt_of_get hx
  unfold spec_l02Trim_L1_body
  rw [wsucc (by omega), if_pos (by simp), if_pos (by omega), Int.toNat_natCast, hx]
  by_cases h : x = 0 <;> simp [h]

theorem l02Trim_eq {l : List Int} (hl : Lim l) (hn : l.length ≤ 5000000) : spec_l02Trim l = some (L (V l)) := by
  have : ∃ r, iter (fun w : Int => spec_l02Trim_L1_body l w) (l.length : Int) = some r ∧ ∃ k : Nat, r = k ∧ k ≤ l.length ∧ l.take k = L (V l) := by
    refine iter_inv (I := fun w : Int => ∃ k : Nat, w = k ∧ k ≤ l.length ∧ V (l.take k) = V l) (m := fun w : Int => w.toNat) _ ?_ _ ⟨l.length, rfl, by omega, by simp⟩
    rintro _ ⟨k, rfl, hk, hv⟩
    cases k with
    | zero =>
      refine .inr ⟨0, by simp [spec_l02Trim_L1_body], 0, rfl, by omega, ?_⟩
      rw [← hv]
      simp [V, L_zero]
    | succ k =>
      have hx := List.getElem?_eq_getElem (show k < l.length by omega)
      rw [trim_step hx hn]
      by_cases h : l[k] = 0
      · refine .inl ⟨_, by simp [h], ⟨k, rfl, by omega, ?_⟩, by omega⟩
        have := V_take1 hx
        rw [h] at this
        simp at this
        omega
      · refine .inr ⟨_, by simp [h], k + 1, rfl, hk, ?_⟩
        rcases Nf.of_take hl k (fun x h1 => by rw [hx] at h1; simp at h1; omega) with h1 | h1
        · exact L_eq h1 hv
        · omega
  obtain ⟨r, hr, k, rfl, h1, h2⟩ := this
  unfold spec_l02Trim spec_l02Trim_L1
  rw [len_eI, hr]
  simp [h1, h2]

theorem trim_eq {l : List Int} (hl : Lim l) (hn : l.length ≤ 5000000) : impl_trim l = some (L (V l)) := by
  have : ∃ r, iter (fun w : List Int => impl_trim_L1_body w) l = some r ∧ r = L (V l) := by
    refine iter_inv (I := fun w => ∃ k : Nat, w = l.take k ∧ k ≤ l.length ∧ V (l.take k) = V l) (m := fun w : List Int => w.length) _ ?_ _ ⟨l.length, by simp, by omega, by simp⟩
    rintro _ ⟨k, rfl, hk, hv⟩
    have hlen : (l.take k).length = k := by simp; omega
    cases k with
    | zero =>
      refine .inr ⟨[], by simp [impl_trim_L1_body, len_eI], ?_⟩
      rw [← hv]
      simp [V, L_zero]
    | succ k =>
      have hx := List.getElem?_eq_getElem (show k < l.length by omega)
      have hx' : (l.take (k + 1))[k]? = some l[k] := by rw [List.getElem?_take]; simp [hx]
      unfold impl_trim_L1_body
      simp only [len_eI, hlen]
      rw [wsucc (by omega), if_pos (by simp), if_pos (by omega), Int.toNat_natCast, hx']
      by_cases h : l[k] = 0
      · refine .inl ⟨l.take k, by simp [h, List.take_take, Nat.min_eq_left], ⟨k, rfl, by omega, ?_⟩, by simp; omega⟩
        have := V_take1 hx
        rw [h] at this
        simp at this
        omega
      · refine .inr ⟨l.take (k + 1), by simp [h], ?_⟩
        rcases Nf.of_take hl k (fun x h1 => by rw [hx] at h1; simp at h1; omega) with h1 | h1
        · exact L_eq h1 hv
        · omega
  obtain ⟨r, hr, rfl⟩ := this
  unfold impl_trim impl_trim_L1
  rw [hr]
  rfl

theorem trim_o_eq {l : List Int} (hl : Lim l) (hn : l.length ≤ 5000000) : ∃ k, impl_trim_o l = some k ∧ k ≤ l.length ∧ l.take k = L (V l) := by
  have : ∃ r, iter (fun w : Nat => impl_trim_o_L1_body l w) l.length = some r ∧ r ≤ l.length ∧ l.take r = L (V l) := by
    refine iter_inv (I := fun k => k ≤ l.length ∧ V (l.take k) = V l) (m := fun w : Nat => w) _ ?_ _ ⟨by omega, by simp⟩
    rintro k ⟨hk, hv⟩
    cases k with
    | zero =>
      refine .inr ⟨0, by simp [impl_trim_o_L1_body], by omega, ?_⟩
      rw [← hv]
      simp [V, L_zero]
    | succ k =>
      have hx := List.getElem?_eq_getElem (show k < l.length by omega)
      unfold impl_trim_o_L1_body
      rw [wsucc (by omega), if_pos (by simp), if_pos (by omega), Int.toNat_natCast, Nat.zero_add, hx]
      by_cases h : l[k] = 0
      · refine .inl ⟨k, by simp [h], ⟨by omega, ?_⟩, by omega⟩
        have := V_take1 hx
        rw [h] at this
        simp at this
        omega
      · refine .inr ⟨k + 1, by simp [h], hk, ?_⟩
        rcases Nf.of_take hl k (fun x h1 => by rw [hx] at h1; simp at h1; omega) with h1 | h1
        · exact L_eq h1 hv
        · omega
  obtain ⟨r, hr, h1, h2⟩ := this
  unfold impl_trim_o impl_trim_o_L1
  rw [hr]
  exact ⟨r, rfl, h1, h2⟩

theorem cmp_eq {a b : List Int} (ha : Nf a) (hb : Nf b) (hn : a.length ≤ 5000000) : spec_l02Cmp a b = some (cmp3 (V a) (V b)) := by
  unfold spec_l02Cmp cmp3
  simp only [len_eI]
  by_cases h1 : a.length = b.length
  · rw [if_neg (by simp [h1])]
    have : ∃ r, iter (fun w : Int => spec_l02Cmp_L1_body a b w) ((a.length : Int) - 1) = some r ∧ (r.elim (fun _ => V a = V b) (fun c => (c = -1 ∧ V a < V b) ∨ (c = 1 ∧ V b < V a))) := by
      refine iter_inv (I := fun w : Int => ∃ k : Nat, w = (k : Int) - 1 ∧ k ≤ a.length ∧ V (a.drop k) = V (b.drop k)) (m := fun w : Int => (w + 1).toNat) _ ?_ _ ⟨a.length, rfl, by omega, by rw [List.drop_length, h1, List.drop_length]⟩
      rintro _ ⟨k, rfl, hk, hv⟩
      cases k with
      | zero => exact .inr ⟨.inl (), by simp [spec_l02Cmp_L1_body], by simpa using hv⟩
      | succ k =>
        have hx := List.getElem?_eq_getElem (show k < a.length by omega)
        have hy := List.getElem?_eq_getElem (show k < b.length by omega)
        have e : ((k + 1 : Nat) : Int) - 1 = k := by omega
        unfold spec_l02Cmp_L1_body
        rw [e, wpred (by omega), if_pos (by simp), if_pos (by omega), Int.toNat_natCast, hx]
        simp only [Option.bind_eq_bind, Option.bind_some]
        rw [if_pos (by omega), hy]
        by_cases h2 : a[k] < b[k]
        · exact .inr ⟨.inr (-1), by simp [h2], .inl ⟨rfl, cmp_top ha.1 hb.1 hx hy hv h2⟩⟩
        · by_cases h3 : b[k] < a[k]
          · exact .inr ⟨.inr 1, by simp [h2, h3], .inr ⟨rfl, cmp_top hb.1 ha.1 hy hx hv.symm h3⟩⟩
          · refine .inl ⟨(k : Int) - 1, by simp [h2, h3], ⟨k, rfl, by omega, ?_⟩, by omega⟩
            rw [V_drop1 hx, V_drop1 hy, hv, show a[k] = b[k] by omega]
    obtain ⟨r, hr, h2⟩ := this
    unfold spec_l02Cmp_L1
    rw [wpred (by omega), hr]
    cases r with
    | inl u =>
      simp at h2
      simp [h2]
    | inr c =>
      rcases h2 with ⟨rfl, h2⟩ | ⟨rfl, h2⟩
      · simp [h2]
      · simp [h2]; omega
  · rw [if_pos (by simp; omega)]
    by_cases h2 : a.length < b.length
    · have := cmp_len ha hb h2
      simp [h2, this]
    · have := cmp_len hb ha (by omega)
      rw [if_neg (by simp; omega), if_neg (by omega), if_pos this]

theorem compare_spec : impl_compare = spec_l02Cmp := rfl
theorem compare_eq {a b : List Int} (ha : Nf a) (hb : Nf b) (hn : a.length ≤ 5000000) : impl_compare a b = some (cmp3 (V a) (V b)) := cmp_eq ha hb hn

end Go.Proofs.YtfhmbogcjcgchaaGreat
