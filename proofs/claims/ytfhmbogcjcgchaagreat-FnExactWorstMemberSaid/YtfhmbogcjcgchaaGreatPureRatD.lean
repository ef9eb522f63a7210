/- Lists of fractions: copies, comparisons, sizes, rules; the squares of the forces. In plain functions. No condition. -/
import Derived.Test.YtfhmbogcjcgchaaGreatPureRatC
import Derived.Test.YtfhmbogcjcgchaaGreatPureBase
import Derived.Test.YtfhmbogcjcgchaaGreatVmD
namespace Go.Proofs.YtfhmbogcjcgchaaGreat
open Go Go.VL

def RatLen (r : TRat) : Prop := r.fNum.fMag.length ≤ 1048576 ∧ r.fDen.length ≤ 1048576

theorem toRat_eq {r : TRat} (h : RatLen r) : laws_toRat r = some r := by
  unfold laws_toRat laws_toBigInt
  rw [toIntS_eq _ h.1]
  simp only [Option.bind_eq_bind, Option.bind_some]
  rw [toIntS_eq _ h.2]
  rfl

theorem toRatS_eq (l : List TRat) (h : l.length ≤ 1048576) (hr : ∀ r ∈ l, RatLen r) : laws_toRatS l = some l := by
  have h1 := iter_copy (f := fun w : Int × List TRat => laws_toRatS_L1_body l w.1 w.2) l (List.replicate (len_ eTRat l).toNat (⟨(⟨false, ([] : List Int)⟩ : TBigInt), ([] : List Int)⟩ : TRat)) (by simp [len_eq]) (fun n x row hx hl => by
    have hn := lt_of_get hx
    unfold laws_toRatS_L1_body
    rw [len_eq, if_pos (by simp; omega), if_pos (by omega), Int.toNat_natCast, hx]
    simp only [Option.bind_eq_bind, Option.bind_some]
    rw [toRat_eq (hr x (List.mem_of_getElem? hx))]
    simp only [Option.bind_some]
    rw [if_pos (by omega), if_pos (by omega), i1 (by omega), Nat.zero_add]) (fun row => by simp [laws_toRatS_L1_body, len_eq])
  unfold laws_toRatS laws_toRatS_L1
  rw [h1, if_pos (by rw [len_eq]; omega)]
  rfl

theorem eqRat_self {r : TRat} (h : RatLen r) : laws_eqRat r r = some true := by
  unfold laws_eqRat laws_eqBigInt
  simp [eqIntS_self _ h.1, eqIntS_self _ h.2]

theorem eqRatS_self (l : List TRat) (h : l.length ≤ 1048576) (hr : ∀ r ∈ l, RatLen r) : laws_eqRatS l l = some true := by
  have h1 : iter (fun w => laws_eqRatS_L1_body l l w) 0 = some (if l.all (fun _ => true) then .inl () else .inr ()) := iter_all l (fun _ => true) (fun n x hx => by
    have hn := lt_of_get hx
    unfold laws_eqRatS_L1_body
    rw [len_eq, if_pos (by simp; omega), if_pos (by omega), Int.toNat_natCast, hx]
    simp only [Option.bind_eq_bind, Option.bind_some]
    rw [if_pos (by omega), eqRat_self (hr x (List.mem_of_getElem? hx))]
    simp only [Option.bind_some, if_true]
    rw [i1 (by omega)]) (by simp [laws_eqRatS_L1_body, len_eq])
  unfold laws_eqRatS laws_eqRatS_L1
  rw [h1]
  simp

theorem szRat_some {r : TRat} (hr : ITRat r) (left : Int) (h0 : 0 ≤ left) (h1 : left ≤ 1048576) : ∃ q, laws_szRat r left = some q ∧ q ≤ left ∧ (0 ≤ q → RatLen r) := by
  obtain ⟨⟨-, ⟨a1, -⟩⟩, ⟨a2, -⟩⟩ := hr
  unfold laws_szRat laws_szBigInt
  rw [szIntS_eq _ a1 left h0 h1]
  by_cases c1 : left < r.fNum.fMag.length
  · refine ⟨-1, by simp [c1], by omega, by omega⟩
  · have c1' : ¬ left - (r.fNum.fMag.length : Int) < 0 := by omega
    simp only [c1, if_false, Option.bind_eq_bind, Option.bind_some, c1', decide_false, Bool.false_eq_true]
    rw [szIntS_eq _ a2 _ (by omega) (by omega)]
    by_cases c2 : left - (r.fNum.fMag.length : Int) < r.fDen.length
    · refine ⟨-1, by simp [c2], by omega, by omega⟩
    · have c2' : ¬ left - (r.fNum.fMag.length : Int) - (r.fDen.length : Int) < 0 := by omega
      refine ⟨left - (r.fNum.fMag.length : Int) - (r.fDen.length : Int), by simp [c2, c2'], by omega, fun _ => ⟨by omega, by omega⟩⟩

theorem szRatS_some (l : List TRat) (hl : l.length ≤ maxLen) (hr : ∀ r ∈ l, ITRat r) (left : Int) (h0 : 0 ≤ left) (h1 : left ≤ 1048576) :
    ∃ q, laws_szRatS l left = some q ∧ q ≤ left ∧ (0 ≤ q → l.length ≤ 1048576 ∧ ∀ r ∈ l, RatLen r) := by
  have hm := maxLen_eq
  have hw : w64 (left - ((l.length : Nat) : Int)) = left - (l.length : Nat) := w64_eq (by omega) (by omega)
  unfold laws_szRatS
  rw [len_eq, hw]
  by_cases c : left - (l.length : Int) < 0
  · exact ⟨-1, by simp [c], by omega, by omega⟩
  · obtain ⟨r, r1, r2⟩ := iter_inv (f := fun w : Int × Int => laws_szRatS_L1_body l w.1 w.2) (I := fun w => ∃ n : Nat, w.2 = n ∧ n ≤ l.length ∧ 0 ≤ w.1 ∧ w.1 ≤ left ∧ ∀ i x, i < n → l[i]? = some x → RatLen x) (m := fun w => l.length - w.2.toNat)
      (fun r => r.elim (fun a => 0 ≤ a ∧ a ≤ left ∧ ∀ x ∈ l, RatLen x) (fun _ => True)) (by
        rintro ⟨a, ii⟩ ⟨n, e1, e2, e3, e4, e5⟩
        simp only at e1 e3 e4
        subst e1
        by_cases hn : n = l.length
        · subst hn
          refine .inr ⟨.inl a, by simp [laws_szRatS_L1_body, len_eq], e3, e4, fun x hx => ?_⟩
          obtain ⟨i, hi⟩ := List.mem_iff_getElem?.mp hx
          exact e5 i x (lt_of_get hi) hi
        · have hx := List.getElem?_eq_getElem (show n < l.length by omega)
          obtain ⟨q, q1, q2, q3⟩ := szRat_some (hr _ (List.mem_of_getElem? hx)) a e3 (by omega)
          by_cases hq : q < 0
          · refine .inr ⟨.inr (), ?_, trivial⟩
            unfold laws_szRatS_L1_body
            rw [len_eq, if_pos (by simp; omega), if_pos (by omega), Int.toNat_natCast, hx]
            simp only [Option.bind_eq_bind, Option.bind_some]
            rw [q1]
            simp [hq]
          · refine .inl ⟨(q, ((n + 1 : Nat) : Int)), ?_, ⟨n + 1, rfl, by omega, by simp only; omega, by simp only; omega, fun i x hi hx' => ?_⟩, by simp; omega⟩
            · unfold laws_szRatS_L1_body
              rw [len_eq, if_pos (by simp; omega), if_pos (by omega), Int.toNat_natCast, hx]
              simp only [Option.bind_eq_bind, Option.bind_some]
              rw [q1]
              simp only [Option.bind_some]
              rw [if_neg (by simp; omega), i1 (by omega)]
            · by_cases hi' : i = n
              · subst hi'
                rw [hx] at hx'
                rw [← Option.some.inj hx']
                exact q3 (by omega)
              · exact e5 i x (by omega) hx') (left - (l.length : Nat), 0) ⟨0, rfl, by omega, by simp only; omega, by simp only; omega, fun i x hi => by omega⟩
    unfold laws_szRatS_L1
    rw [if_neg (by simp; omega), r1]
    cases r with
    | inl a => exact ⟨a, rfl, r2.2.1, fun _ => ⟨by omega, r2.2.2⟩⟩
    | inr _ => exact ⟨-1, rfl, by omega, by omega⟩

/- The rule of a list. -/
def someO (p : Int × Int) : Option TRatio_ := some (mkO p)

theorem valid_both (l : List TRat) (h : l.length ≤ 1048576) (hr : ∀ r ∈ l, RatLen r) :
    (∃ xs : List (Int × Int), (∀ p ∈ xs, Fr p) ∧ l = xs.map mk ∧ spec_l09Valid l = some true ∧ impl_loads l = some (xs.map someO, true)) ∨ (spec_l09Valid l = some false ∧ impl_loads l = some ([], false)) := by
  -- each element's answer
  have hel : ∀ r ∈ l, ∃ o : Option (Int × Int), (∀ p, o = some p → Fr p ∧ r = mk p) ∧ spec_RatOk r = some o.isSome ∧ impl_load r = some (encO o) := by
    intro r hrl
    have hlen := hr r hrl
    rcases load_eq (r := r) (by have := hlen.1; omega) (by have := hlen.2; omega) with ⟨p, h1, h2, h3, h4⟩ | ⟨h3, h4⟩
    · exact ⟨some p, fun q hq => by rw [← Option.some.inj hq]; exact ⟨h1, h2⟩, h3, h4⟩
    · exact ⟨none, fun q hq => by simp at hq, h3, h4⟩
  obtain ⟨os, hos1, hos2⟩ : ∃ os : List (Option (Int × Int)), os.length = l.length ∧ ∀ (n : Nat) r o, l[n]? = some r → os[n]? = some o → (∀ p, o = some p → Fr p ∧ r = mk p) ∧ spec_RatOk r = some o.isSome ∧ impl_load r = some (encO o) := by
    clear h hr
    induction l with
    | nil => exact ⟨[], rfl, fun n r o h => by simp at h⟩
    | cons x l ih =>
      obtain ⟨os, e1, e2⟩ := ih (fun r hr => hel r (by simp [hr]))
      obtain ⟨o, ho⟩ := hel x (by simp)
      refine ⟨o :: os, by simp [e1], fun n r o' h1 h2 => ?_⟩
      cases n with
      | zero =>
        simp at h1 h2
        subst h1 h2
        exact ho
      | succ n => exact e2 n r o' (by simpa using h1) (by simpa using h2)
  have hspec : iter (fun w : Int => spec_l09Valid_L1_body l l.length w) 0 = some (if os.all Option.isSome then .inl () else .inr ()) := iter_all os Option.isSome (fun n o ho => by
    have hn := lt_of_get ho
    have hx := List.getElem?_eq_getElem (show n < l.length by omega)
    obtain ⟨-, h2, -⟩ := hos2 n _ o hx ho
    unfold spec_l09Valid_L1_body
    rw [if_pos (by simp; omega), if_pos (by omega), Int.toNat_natCast, hx]
    simp only [Option.bind_eq_bind, Option.bind_some]
    rw [h2]
    simp only [Option.bind_some]
    rw [i1 (by omega)]
    cases o.isSome <;> rfl) (by rw [hos1]; simp [spec_l09Valid_L1_body])
  have himpl : iter (fun w : Int × List (Option TRatio_) => impl_loads_L1_body l l.length w.1 w.2) (0, List.replicate l.length (none : Option TRatio_)) = some (if os.all Option.isSome then .inl (os.map encO) else .inr ()) := iter_fill os Option.isSome encO _ (by simp [hos1]) (fun n o row ho hrow => by
    have hn := lt_of_get ho
    have hx := List.getElem?_eq_getElem (show n < l.length by omega)
    obtain ⟨-, -, h3⟩ := hos2 n _ o hx ho
    unfold impl_loads_L1_body
    rw [if_pos (by simp; omega), if_pos (by omega), Int.toNat_natCast, hx]
    simp only [Option.bind_eq_bind, Option.bind_some]
    rw [h3]
    simp only [Option.bind_some]
    rw [if_pos (by omega), Nat.zero_add, if_pos (by omega), List.getElem?_set, if_pos rfl, if_pos (by omega)]
    simp only [Option.bind_some]
    rw [i1 (by omega)]
    cases o <;> rfl) (fun row => by rw [hos1]; simp [impl_loads_L1_body])
  unfold spec_l09Valid spec_l09Valid_L1 impl_loads impl_loads_L1
  simp only [len_eq, Int.toNat_natCast]
  have hc : 0 ≤ (l.length : Int) ∧ (8 : Int) * (l.length : Int) ≤ 281474976710656 ∧ (l.length : Int) < 9223372036854775808 := by omega
  rw [hspec, himpl, if_pos hc]
  by_cases hall : os.all Option.isSome = true
  · refine .inl ⟨os.filterMap id, ?_, ?_, by rw [hall]; rfl, ?_⟩
    · intro p hp
      obtain ⟨o, ho, ho2⟩ := List.mem_filterMap.mp hp
      obtain ⟨n, hn⟩ := List.mem_iff_getElem?.mp ho
      have hlt := lt_of_get hn
      exact ((hos2 n _ o (List.getElem?_eq_getElem (show n < l.length by omega)) hn).1 p ho2).1
    · clear hspec himpl hel hr h hc
      induction l generalizing os with
      | nil =>
        have : os = [] := List.eq_nil_of_length_eq_zero hos1
        subst this
        rfl
      | cons x l ih =>
        cases os with
        | nil => simp at hos1
        | cons o os =>
          simp only [List.all_cons, Bool.and_eq_true] at hall
          obtain ⟨p, rfl⟩ := Option.isSome_iff_exists.mp hall.1
          have h1 := ((hos2 0 x (some p) rfl rfl).1 p rfl).2
          have h2 := ih os (by simpa using hos1) (fun n r o h3 h4 => hos2 (n + 1) r o (by simpa using h3) (by simpa using h4)) hall.2
          simp only [List.filterMap_cons, id, List.map_cons]
          rw [← h2, ← h1]
    · rw [hall]
      simp only [if_true, Option.bind_eq_bind, Option.bind_some]
      congr 2
      clear hspec himpl hel hr h hos2 hos1
      induction os with
      | nil => rfl
      | cons o os ih =>
        simp only [List.all_cons, Bool.and_eq_true] at hall
        obtain ⟨p, rfl⟩ := Option.isSome_iff_exists.mp hall.1
        simp only [List.filterMap_cons, id, List.map_cons]
        rw [ih hall.2]
        rfl
  · simp only [Bool.not_eq_true] at hall
    refine .inr ⟨by rw [hall]; rfl, by rw [hall]; rfl⟩

/-- Densities that fit a structure. -/
theorem fits_both (s : TStructure) (i0 : ITStructure s) (q : List TRat) (h : q.length ≤ 1048576) (hr : ∀ r ∈ q, RatLen r) :
    (∃ xs : List (Int × Int), (∀ p ∈ xs, Fr p) ∧ q = xs.map mk ∧ q.length = s.fMembers.length ∧ spec_StructureOk s = some true ∧ spec_l14Fits s q = some true ∧ impl_densities s q = some (xs.map someO, true)) ∨ (spec_l14Fits s q = some false ∧ impl_densities s q = some ([], false)) := by
  obtain ⟨o, o1, o2⟩ := structureOk_both s i0
  unfold spec_l14Fits impl_densities
  simp only [len_eq]
  rw [o1, o2]
  by_cases hl : q.length = s.fMembers.length
  · cases o with
    | false =>
      refine .inr ⟨rfl, ?_⟩
      simp [hl]
    | true =>
      rcases valid_both q h hr with ⟨xs, x1, x2, x3, x4⟩ | ⟨x3, x4⟩
      · refine .inl ⟨xs, x1, x2, hl, rfl, ?_, ?_⟩
        · simp [hl, x3]
        · simp [hl, x4]
      · refine .inr ⟨?_, ?_⟩
        · simp [hl, x3]
        · simp [hl, x4]
  · refine .inr ⟨?_, ?_⟩
    · cases o <;> simp [hl] <;> omega
    · have : ((q.length : Int) != (s.fMembers.length : Int)) = true := by simp; omega
      rw [if_pos this]

end Go.Proofs.YtfhmbogcjcgchaaGreat
