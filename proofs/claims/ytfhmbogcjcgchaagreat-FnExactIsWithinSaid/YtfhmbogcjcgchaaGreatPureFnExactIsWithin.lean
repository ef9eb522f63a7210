/- The program's IsWithin and the reference's say the same, in plain functions. No condition. -/
import Derived.Test.YtfhmbogcjcgchaaGreatPureRatE
namespace Go.Proofs.YtfhmbogcjcgchaaGreat
open Go Go.VL

theorem over_body {ys : List (Int × Int)} {w : List Int} (hy : ∀ p ∈ ys, Fr p ∧ 0 ≤ p.1) (hw : w.length = ys.length) (hw1 : ∀ (n : Nat) x, w[n]? = some x → 0 ≤ x ∧ x ≤ 1000) (h8 : ys.length ≤ 8) (n : Nat) (row : List Int) (y : Int × Int) (hrow : row.length ≤ n) (hn : ys[n]? = some y) :
    ∃ b : Bool, spec_OverloadedMembers_L1_body w (ys.map mk) ys.length n row = some (.inl (((n + 1 : Nat) : Int), if b then row ++ [(n : Int)] else row)) ∧ impl_overloaded_L1_body w (ys.map someO) ys.length n row = some (.inl (((n + 1 : Nat) : Int), if b then row ++ [(n : Int)] else row)) := by
  have hlt := lt_of_get hn
  have hx := List.getElem?_eq_getElem (show n < w.length by omega)
  obtain ⟨w0, w1⟩ := hw1 n _ hx
  obtain ⟨hfr, -⟩ := hy y (List.mem_of_getElem? hn)
  have s1 := sq_nonneg w[n]
  have s2 : w[n] * w[n] ≤ 1000000 := by
    have := Int.mul_le_mul w1 w1 w0 (by omega)
    omega
  have hin : In64 (w[n] * w[n]) := in64_iff.2 (by omega)
  have hs : Fr (w[n] * w[n], 1) := fr_int hin
  have hww : w64 (w[n] * w[n]) = w[n] * w[n] := w64_eq (by omega) (by omega)
  refine ⟨decide (0 < cmp3 (y.1 * 1) (w[n] * w[n] * y.2)), ?_, ?_⟩
  · unfold spec_OverloadedMembers_L1_body
    rw [if_pos (by simp; omega), if_pos (by simp; omega), Int.toNat_natCast, List.getElem?_map, hn]
    simp only [Option.bind_eq_bind, Option.bind_some, Option.map_some]
    rw [if_pos (by omega), hx]
    simp only [Option.bind_some]
    rw [hww, ratFromInt_eq hin]
    simp only [Option.bind_some]
    rw [l04Cmp_eq hfr hs, i1 (by omega)]
    simp only [Option.bind_some]
    by_cases c : 0 < cmp3 (y.1 * 1) (w[n] * w[n] * y.2)
    · rw [if_pos (by simpa using c), if_pos (by simp; omega), if_pos (by simpa using c)]
    · rw [if_neg (by simpa using c), if_neg (by simpa using c)]
  · unfold impl_overloaded_L1_body
    rw [if_pos (by simp; omega), if_pos (by simp; omega), Int.toNat_natCast, List.getElem?_map, hn]
    simp only [Option.bind_eq_bind, Option.bind_some, Option.map_some]
    rw [if_pos (by omega), hx]
    simp only [Option.bind_some]
    rw [hww, whole_eq hin]
    simp only [Option.bind_some, someO]
    rw [ratio_Cmp_eq hfr.pos hs.pos hfr.num hfr.den hs.num hs.den (by omega) (by omega) (by omega) (by omega), i1 (by omega)]
    simp only [Option.bind_some]
    by_cases c : 0 < cmp3 (y.1 * 1) (w[n] * w[n] * y.2)
    · rw [if_pos (by simpa using c), if_pos (by simp; omega), if_pos (by simpa using c)]
    · rw [if_neg (by simpa using c), if_neg (by simpa using c)]

theorem overloaded_both {ys : List (Int × Int)} {w : List Int} (hy : ∀ p ∈ ys, Fr p ∧ 0 ≤ p.1) (hw : w.length = ys.length) (hw1 : ∀ (n : Nat) x, w[n]? = some x → 0 ≤ x ∧ x ≤ 1000) (h8 : ys.length ≤ 8) :
    ∃ r, spec_OverloadedMembers_L1 w (ys.map mk) ys.length 0 [] = some r ∧ impl_overloaded_L1 w (ys.map someO) ys.length 0 [] = some r := by
  -- the two bodies are alike where the row is no longer than the number of the step
  have key : ∃ r, spec_OverloadedMembers_L1 w (ys.map mk) ys.length 0 [] = some r ∧ (∀ a, iter (fun v : Int × List Int => impl_overloaded_L1_body w (ys.map someO) ys.length v.1 v.2) (0, []) = a → a = some r) := by
    have h := iter_inv (f := fun v : Int × List Int => (spec_OverloadedMembers_L1_body w (ys.map mk) ys.length v.1 v.2)) (I := fun v => (∃ n : Nat, v.1 = n ∧ n ≤ ys.length ∧ v.2.length ≤ n) ∧ iter (fun v : Int × List Int => impl_overloaded_L1_body w (ys.map someO) ys.length v.1 v.2) (0, []) = iter (fun v : Int × List Int => impl_overloaded_L1_body w (ys.map someO) ys.length v.1 v.2) v) (m := fun v => ys.length - v.1.toNat)
      (fun r => iter (fun v : Int × List Int => impl_overloaded_L1_body w (ys.map someO) ys.length v.1 v.2) (0, []) = some r) (by
        rintro ⟨i, row⟩ ⟨⟨n, e1, e2, e3⟩, e4⟩
        simp only at e1 e3
        subst e1
        by_cases hn : n = ys.length
        · subst hn
          refine .inr ⟨row, by simp [spec_OverloadedMembers_L1_body], ?_⟩
          rw [e4, iter]
          simp [impl_overloaded_L1_body]
        · obtain ⟨b, b1, b2⟩ := over_body hy hw hw1 h8 n row _ e3 (List.getElem?_eq_getElem (show n < ys.length by omega))
          refine .inl ⟨_, b1, ⟨⟨n + 1, rfl, by omega, ?_⟩, ?_⟩, by simp; omega⟩
          · cases b <;> simp <;> omega
          · rw [e4, iter]
            simp only
            rw [b2]
            rfl) (0, []) ⟨⟨0, rfl, by omega, by simp⟩, rfl⟩
    obtain ⟨r, r1, r2⟩ := h
    exact ⟨r, r1, fun a ha => by rw [← ha]; exact r2⟩
  obtain ⟨r, r1, r2⟩ := key
  exact ⟨r, r1, r2 _ rfl⟩

theorem isWithin_both (s : TStructure) (i0 : ITStructure s) (q : List TRat) (h : q.length ≤ 1048576) (hr : ∀ r ∈ q, RatLen r) (w : List Int) (hwl : w.length ≤ maxLen) : ∃ r, spec_IsWithin s q w = some r ∧ impl_IsWithin s q w = some r := by
  unfold spec_IsWithin impl_IsWithin impl_overloaded
  rcases squares_both s i0 q h hr with ⟨ys, y1, y2, y3, y4, y5, y6⟩ | ⟨y5, y6⟩
  · rw [y5, y6]
    simp only [Option.bind_eq_bind, Option.bind_some, if_true]
    obtain ⟨l, l1, l2, l3⟩ := limits_both s y4 w hwl
    rw [l1, l2]
    cases l with
    | false => exact ⟨false, rfl, rfl⟩
    | true =>
      obtain ⟨l4, l5⟩ := l3 rfl
      obtain ⟨r, r1, r2⟩ := overloaded_both y1 (by omega) l5 (by omega)
      unfold spec_OverloadedMembers
      rw [y5]
      simp only [Option.bind_eq_bind, Option.bind_some, if_true, l1, len_eq, List.length_map]
      rw [r1, r2]
      exact ⟨_, rfl, rfl⟩
  · rw [y5, y6]
    exact ⟨false, rfl, rfl⟩

theorem laws_FnExactIsWithin_true (x0 : TStructure) (x1 : List TRat) (x2 : List Int) (i0 : ITStructure x0) (i1 : (fun l => l.length ≤ maxLen ∧ ∀ x ∈ l, ITRat x) x1) (i2 : (fun l => l.length ≤ maxLen ∧ ∀ x ∈ l, In64 x) x2) : laws_FnExactIsWithin x0 x1 x2 = some true := by
  unfold laws_FnExactIsWithin
  rw [len_eq]
  by_cases h1 : (1048576 : Int) < (x2.length : Nat)
  · simp [h1]
  · obtain ⟨r, r1, r2⟩ := szStructure_some x0 i0 1048576 (by omega) (by omega)
    have hle := szStructure_le x0 i0 1048576 (by omega) (by omega) r r1
    rw [decide_eq_false h1, r1]
    simp only [Bool.false_eq_true, if_false, Option.bind_eq_bind, Option.bind_some]
    by_cases h2 : r < 0
    · simp [h2]
    · obtain ⟨a1, a2⟩ := r2 (by omega)
      rw [decide_eq_false h2]
      obtain ⟨t, t1, t2, t3⟩ := szRatS_some x1 i1.1 i1.2 r (by omega) hle
      rw [t1]
      simp only [Bool.false_eq_true, if_false, Option.bind_some]
      by_cases h3 : t < 0
      · simp [h3]
      · obtain ⟨b1, b2⟩ := t3 (by omega)
        obtain ⟨a, q1, q2⟩ := isWithin_both x0 i0 x1 b1 b2 x2 i2.1
        simp [h3, toStructure_eq x0 a1 a2, toRatS_eq x1 b1 b2, toIntS_eq x2 (by omega), q1, q2, eqStructure_self x0 a1 a2, eqRatS_self x1 b1 b2, eqIntS_self x2 (by omega)]

end Go.Proofs.YtfhmbogcjcgchaaGreat
