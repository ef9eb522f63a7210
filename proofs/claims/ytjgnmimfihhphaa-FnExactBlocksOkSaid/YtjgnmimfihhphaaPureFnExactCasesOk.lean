/- The program's CasesOk and the reference's say the same, in plain functions. No condition. -/
import Derived.Test.YtjgnmimfihhphaaPureFnExactLimitsOk
import Derived.Test.YtjgnmimfihhphaaPureFnExactLengthOf
import Derived.Test.YtjgnmimfihhphaaVFnExactCasesOkA
import Derived.Test.YtjgnmimfihhphaaVmB
namespace Go.Proofs.Ytjgnmimfihhphaa
open Go Go.VL

def forceB (n : Int) : Bool := decide (-100 ≤ n ∧ n ≤ 100)
/-- Is it a load for so many joints? -/
def loadB (J : Nat) (l : List Int) : Bool := decide (l.length = 2 * J) && l.all forceB

theorem isForce_eq (n : Int) : impl_isForce n = some (forceB n) := by
  unfold impl_isForce forceB
  by_cases h : -100 ≤ n <;> simp [h]

theorem loadOk_eq (s : TStructure) (p : Bool) (hp : spec_StructureOk s = some p) (hJ : p = true → s.fJoints.length ≤ 6) (l : List Int) (hl : l.length ≤ maxLen) : spec_LoadOk s l = some (p && loadB s.fJoints.length l) := by
  have hm := maxLen_eq
  unfold spec_LoadOk
  simp only [hp, Option.bind_eq_bind, Option.bind_some, len_eq]
  cases p with
  | false => rfl
  | true =>
    have hJ := hJ rfl
    have hw : w64 (2 * ((s.fJoints.length : Nat) : Int)) = 2 * ((s.fJoints.length : Nat) : Int) := w64_eq (by omega) (by omega)
    rw [hw]
    unfold loadB
    by_cases e : l.length = 2 * s.fJoints.length
    · have h1 : spec_LoadOk_L1 l (l.length : Nat) 0 = some (if l.all forceB then .inl () else .inr ()) := by
        refine iter_all (f := fun w => spec_LoadOk_L1_body l (l.length : Nat) w) l forceB (fun n x hx => ?_) ?_
        · have hlt := lt_of_get hx
          unfold spec_LoadOk_L1_body
          have c : (n : Int) < (l.length : Int) := by omega
          have c' : 0 ≤ (n : Int) ∧ (n : Int) < (l.length : Int) := by omega
          simp only [decide_eq_true c, if_true, if_pos c', Int.toNat_natCast, hx, Option.bind_eq_bind, Option.bind_some, l01In_eq]
          rw [i1 (by omega)]
          unfold forceB
          by_cases q : -100 ≤ x ∧ x ≤ 100
          · simp [q]
          · rw [decide_eq_false q]; simp
        · simp [spec_LoadOk_L1_body]
      have c : ((l.length : Int) != 2 * (s.fJoints.length : Int)) = false := by simp; omega
      simp only [c, h1, Bool.false_eq_true, if_false, if_true, Option.bind_some]
      cases l.all forceB <;> simp [e]
    · have c : ((l.length : Int) != 2 * (s.fJoints.length : Int)) = true := by simp; omega
      simp only [c, if_true]
      simp [e]

theorem fitsLoad_eq (s : TStructure) (hJ : s.fJoints.length ≤ 6) (l : List Int) (hl : l.length ≤ maxLen) : impl_fitsLoad s l = some (loadB s.fJoints.length l) := by
  have hm := maxLen_eq
  have hw : w64 (2 * ((s.fJoints.length : Nat) : Int)) = 2 * ((s.fJoints.length : Nat) : Int) := w64_eq (by omega) (by omega)
  unfold impl_fitsLoad slices_ContainsFunc'' slices_IndexFunc''' loadB
  simp only [len_eq, hw, Option.bind_eq_bind]
  obtain ⟨r, h1, h2⟩ := iter_find (f := fun w => slices_IndexFunc'''_L1_body l (l.length : Nat) w) l (fun n => !forceB n) (fun n x hx => by
    have hlt := lt_of_get hx
    unfold slices_IndexFunc'''_L1_body impl_fitsLoad_1
    have c : (n : Int) < (l.length : Int) := by omega
    have c' : 0 ≤ (n : Int) ∧ (n : Int) < (l.length : Int) := by omega
    simp only [decide_eq_true c, if_true, if_pos c', Int.toNat_natCast, hx, Option.bind_eq_bind, Option.bind_some, isForce_eq]
    rw [i1 (by omega)]
    cases forceB x <;> rfl) (by simp [slices_IndexFunc'''_L1_body])
  have h1' : slices_IndexFunc'''_L1 l (l.length : Nat) 0 = some r := h1
  rw [h1']
  have hany : (l.any fun n => !forceB n) = !l.all forceB := by
    rw [List.not_all_eq_any_not]
  rw [hany] at h2
  by_cases e : l.length = 2 * s.fJoints.length
  · have c : ((l.length : Int) == 2 * (s.fJoints.length : Int)) = true := by simp; omega
    rw [c]
    rcases h2 with ⟨k, rfl, hk, ha⟩ | ⟨rfl, ha⟩
    · simp only [Bool.not_eq_true'] at ha
      simp [e, ha, hk]
    · simp only [Bool.not_eq_false'] at ha
      simp [e, ha]
  · have c : ((l.length : Int) == 2 * (s.fJoints.length : Int)) = false := by simp; omega
    rw [c]
    simp [e]

theorem casesOk_both (s : TStructure) (i0 : ITStructure s) (cs : List (List Int)) (hc : cs.length ≤ maxLen) (hl : ∀ l ∈ cs, l.length ≤ maxLen) : ∃ r, spec_CasesOk s cs = some r ∧ impl_CasesOk s cs = some r := by
  have hm := maxLen_eq
  obtain ⟨p, p1, p2⟩ := structureOk_both s i0
  unfold spec_CasesOk impl_CasesOk impl_casesOk
  simp only [l01In_eq, len_eq, Option.bind_eq_bind, Option.bind_some, p2]
  by_cases h1 : (1 : Int) ≤ (cs.length : Nat) ∧ ((cs.length : Nat) : Int) ≤ 6
  · have a1 : ¬ ((cs.length : Nat) : Int) < 1 := by omega
    have a2 : ¬ (6 : Int) < ((cs.length : Nat) : Int) := by omega
    have hs : spec_CasesOk_L1 cs (cs.length : Nat) s.fJoints s.fMembers 0 = some (if cs.all (fun l => p && loadB s.fJoints.length l) then .inl () else .inr ()) := by
      refine iter_all (f := fun w => spec_CasesOk_L1_body cs (cs.length : Nat) s.fJoints s.fMembers w) cs _ (fun n x hx => ?_) (by simp [spec_CasesOk_L1_body])
      have hlt := lt_of_get hx
      unfold spec_CasesOk_L1_body
      have c : (n : Int) < (cs.length : Int) := by omega
      have c' : 0 ≤ (n : Int) ∧ (n : Int) < (cs.length : Int) := by omega
      have hload := loadOk_eq s p p1 (fun hp => by subst hp; exact (structureOk_facts s i0 p1).2.2.1) x (hl x (List.mem_of_getElem? hx))
      simp only [decide_eq_true c, if_true, if_pos c', Int.toNat_natCast, hx, Option.bind_eq_bind, Option.bind_some]
      rw [show spec_LoadOk ⟨s.fJoints, s.fMembers⟩ x = some (p && loadB s.fJoints.length x) from hload]
      rw [i1 (by omega)]
      cases (p && loadB s.fJoints.length x) <;> rfl
    simp only [decide_eq_true h1, decide_eq_false a1, decide_eq_false a2, if_true, Bool.false_eq_true, if_false, hs, Option.bind_some]
    cases p with
    | false =>
      have : cs.all (fun l => false && loadB s.fJoints.length l) = false := by
        cases cs with
        | nil => simp at h1
        | cons l cs => simp
      rw [this]
      exact ⟨false, rfl, rfl⟩
    | true =>
      have f := structureOk_facts s i0 p1
      have hi : impl_casesOk_L1 s.fJoints s.fMembers cs (cs.length : Nat) 0 = some (if cs.all (fun l => loadB s.fJoints.length l) then .inl () else .inr ()) := by
        refine iter_all (f := fun w => impl_casesOk_L1_body s.fJoints s.fMembers cs (cs.length : Nat) w) cs _ (fun n x hx => ?_) (by simp [impl_casesOk_L1_body])
        have hlt := lt_of_get hx
        unfold impl_casesOk_L1_body
        have c : (n : Int) < (cs.length : Int) := by omega
        have c' : 0 ≤ (n : Int) ∧ (n : Int) < (cs.length : Int) := by omega
        simp only [decide_eq_true c, if_true, if_pos c', Int.toNat_natCast, hx, Option.bind_eq_bind, Option.bind_some]
        rw [show impl_fitsLoad ⟨s.fJoints, s.fMembers⟩ x = some (loadB s.fJoints.length x) from fitsLoad_eq s f.2.2.1 x (hl x (List.mem_of_getElem? hx))]
        rw [i1 (by omega)]
        cases loadB s.fJoints.length x <;> rfl
      simp only [hi, Bool.true_and, if_true, Option.bind_some]
      cases cs.all (fun l => loadB s.fJoints.length l)
      · exact ⟨false, rfl, rfl⟩
      · exact ⟨true, rfl, rfl⟩
  · refine ⟨false, by simp [h1], ?_⟩
    by_cases a1 : ((cs.length : Nat) : Int) < 1
    · simp [a1]
    · have a2 : (6 : Int) < ((cs.length : Nat) : Int) := by omega
      simp [a1, a2]

/-! ### Copies, comparisons, sizes of lists of lists -/

theorem toIntSS_eq (l : List (List Int)) (h : l.length ≤ 1048576) (hl : ∀ x ∈ l, x.length ≤ 1048576) : laws_toIntSS l = some l := by
  have hb : ∀ (n : Nat) x (row : List (List Int)), l[n]? = some x → row.length = l.length → laws_toIntSS_L1_body l (len_ (eL 1 eI) l).toNat n row = some (.inl (((n + 1 : Nat) : Int), row.set n x)) := by
    intro n x row hx hr
    have hlt := lt_of_get hx
    have e := toIntS_eq x (hl x (List.mem_of_getElem? hx))
    have hw : w64 ((n : Int) + 1) = ((n + 1 : Nat) : Int) := by rw [w64_eq (by omega) (by omega)]; rfl
    have c : (n : Int) < (l.length : Int) := by omega
    have c' : 0 ≤ (n : Int) ∧ (n : Int) < (l.length : Int) := by omega
    have c'' : 0 + n < row.length := by omega
    simp only [laws_toIntSS_L1_body, len_eq, hw, decide_eq_true c, if_true, if_pos c', Int.toNat_natCast, hx, Option.bind_eq_bind, Option.bind_some, e]
    rw [if_pos c'', Nat.zero_add]
  have he : ∀ row : List (List Int), laws_toIntSS_L1_body l (len_ (eL 1 eI) l).toNat l.length row = some (.inr row) := by
    intro row
    simp [laws_toIntSS_L1_body, len_eq]
  have h1 : laws_toIntSS_L1 l (len_ (eL 1 eI) l).toNat 0 (List.replicate (len_ (eL 1 eI) l).toNat ([] : List Int)) = some l :=
    iter_copy l _ (by simp [len_eq]) hb he
  unfold laws_toIntSS
  rw [h1, if_pos (by rw [len_eq]; omega)]
  simp [len_eq]

theorem eqIntSS_self (l : List (List Int)) (h : l.length ≤ 1048576) (hl : ∀ x ∈ l, x.length ≤ 1048576) : laws_eqIntSS l l = some true := by
  have h1 : laws_eqIntSS_L1 l l 0 = some (if l.all (fun _ => true) then .inl () else .inr ()) := by
    refine iter_all (f := fun w => laws_eqIntSS_L1_body l l w) l _ (fun n x hx => ?_) (by simp [laws_eqIntSS_L1_body, len_eq])
    have hlt := lt_of_get hx
    unfold laws_eqIntSS_L1_body
    have e := eqIntS_self x (hl x (List.mem_of_getElem? hx))
    have c : (n : Int) < (l.length : Int) := by omega
    have c' : 0 ≤ (n : Int) ∧ (n : Int) < (l.length : Int) := by omega
    simp only [len_eq, decide_eq_true c, if_true, if_pos c', Int.toNat_natCast, hx, Option.bind_eq_bind, Option.bind_some, e]
    rw [i1 (by omega)]
  unfold laws_eqIntSS
  rw [h1]
  simp

theorem szIntS_eq (l : List Int) (hl : l.length ≤ maxLen) (left : Int) (h0 : 0 ≤ left) (h1 : left ≤ 1048576) : laws_szIntS l left = some (if left < l.length then -1 else left - l.length) := by
  have hm := maxLen_eq
  have hw : w64 (left - ((l.length : Nat) : Int)) = left - (l.length : Nat) := w64_eq (by omega) (by omega)
  unfold laws_szIntS
  rw [len_eq, hw]
  by_cases e : left < (l.length : Nat)
  · have : left - (l.length : Nat) < 0 := by omega
    simp [e, this]
  · have : ¬ left - (l.length : Nat) < 0 := by omega
    simp [e, this]

theorem szIntSS_some (l : List (List Int)) (hl : l.length ≤ maxLen) (hx : ∀ x ∈ l, x.length ≤ maxLen) (left : Int) (h0 : 0 ≤ left) (h1 : left ≤ 1048576) :
    ∃ r, laws_szIntSS l left = some r ∧ (0 ≤ r → l.length ≤ 1048576 ∧ ∀ x ∈ l, x.length ≤ 1048576) := by
  have hm := maxLen_eq
  have hw : w64 (left - ((l.length : Nat) : Int)) = left - (l.length : Nat) := w64_eq (by omega) (by omega)
  unfold laws_szIntSS
  rw [len_eq, hw]
  by_cases e : left - (l.length : Nat) < 0
  · exact ⟨-1, by simp [e], by omega⟩
  · obtain ⟨r, r1, r2⟩ := iter_inv (f := fun w : Int × Int => laws_szIntSS_L1_body l w.1 w.2)
      (fun w => 0 ≤ w.1 ∧ w.1 ≤ 1048576 ∧ 0 ≤ w.2 ∧ w.2 ≤ l.length ∧ ∀ (n : Nat) x, (n : Int) < w.2 → l[n]? = some x → x.length ≤ 1048576) (fun w => (l.length - w.2).toNat)
      (fun r => match r with | .inl a => (0 ≤ a → ∀ x ∈ l, x.length ≤ 1048576) | .inr _ => True) (fun w hI => by
        obtain ⟨q1, q2, q3, q4, q5⟩ := hI
        obtain ⟨a, i⟩ := w
        simp only at q1 q2 q3 q4 q5
        by_cases c : i < (l.length : Int)
        · obtain ⟨x, hxx⟩ : ∃ x, l[i.toNat]? = some x := ⟨_, List.getElem?_eq_getElem (by omega)⟩
          have hsz := szIntS_eq x (hx x (List.mem_of_getElem? hxx)) a q1 q2
          have hwi : w64 (i + 1) = i + 1 := w64_eq (by omega) (by omega)
          unfold laws_szIntSS_L1_body
          have c' : 0 ≤ i ∧ i < (l.length : Int) := by omega
          simp only [len_eq, decide_eq_true c, if_true, if_pos c', hxx, Option.bind_eq_bind, Option.bind_some, hsz, hwi]
          by_cases g : a < (x.length : Nat)
          · exact .inr ⟨.inr (), by simp [g], trivial⟩
          · refine .inl ⟨(a - (x.length : Nat), i + 1), ?_, ⟨by simp only; omega, by simp only; omega, by simp only; omega, by simp only; omega, fun n y hn hy => ?_⟩, by simp only; omega⟩
            · have : ¬ a - (x.length : Nat) < 0 := by omega
              simp [g, this]
            · by_cases hni : (n : Int) < i
              · exact q5 n y hni hy
              · have : n = i.toNat := by simp only at hn; omega
                subst this
                rw [hxx] at hy
                obtain rfl := Option.some.inj hy
                omega
        · refine .inr ⟨.inl a, by simp [laws_szIntSS_L1_body, len_eq, c], fun _ x hxm => ?_⟩
          obtain ⟨n, hn⟩ := List.getElem?_of_mem hxm
          exact q5 n x (by have := lt_of_get hn; omega) hn) (left - (l.length : Nat), 0) ⟨by simp only; omega, by simp only; omega, by simp only; omega, by simp only; omega, fun n x hn _ => by simp only at hn; omega⟩
    have r1' : laws_szIntSS_L1 l (left - (l.length : Nat)) 0 = some r := r1
    rw [decide_eq_false e, r1']
    simp only [Bool.false_eq_true, if_false, Option.bind_eq_bind, Option.bind_some]
    cases r with
    | inl a => exact ⟨a, rfl, fun ha => ⟨by omega, r2 ha⟩⟩
    | inr a => exact ⟨-1, rfl, by omega⟩

theorem szStructure_le (s : TStructure) (i0 : ITStructure s) (left : Int) (h0 : 0 ≤ left) (h1 : left ≤ 1048576) (q : Int) (hq : laws_szStructure s left = some q) : q ≤ 1048576 := by
  obtain ⟨⟨a1, a2⟩, a3, a4⟩ := i0
  obtain ⟨r, r1, r2, r3⟩ := szJointS_some s.fJoints left a1 (fun j hj => (a2 j hj).1) h0 h1
  unfold laws_szStructure at hq
  rw [r1] at hq
  by_cases h : r < 0
  · simp [h] at hq; omega
  · obtain ⟨t, t1, t2, t3⟩ := szMemberS_some s.fMembers r a3 (by omega) (by omega)
    by_cases ht : t < 0
    · simp [h, t1, ht] at hq; omega
    · simp [h, t1, ht] at hq; omega

theorem laws_FnExactCasesOk_true (x0 : TStructure) (x1 : (List (List Int))) (i0 : ITStructure x0) (i1 : (fun l => l.length ≤ maxLen ∧ ∀ x ∈ l, (fun l => l.length ≤ maxLen ∧ ∀ x ∈ l, In64 x) x) x1) : laws_FnExactCasesOk x0 x1 = some true := by
  unfold laws_FnExactCasesOk
  obtain ⟨r, r1, r2⟩ := szStructure_some x0 i0 1048576 (by omega) (by omega)
  have hr := szStructure_le x0 i0 1048576 (by omega) (by omega) r r1
  rw [r1]
  simp only [Option.bind_eq_bind, Option.bind_some]
  by_cases h2 : r < 0
  · simp [h2]
  · obtain ⟨a1, a2⟩ := r2 (by omega)
    obtain ⟨t, t1, t2⟩ := szIntSS_some x1 i1.1 (fun x hx => (i1.2 x hx).1) r (by omega) hr
    rw [decide_eq_false h2, t1]
    simp only [Bool.false_eq_true, if_false, Option.bind_some]
    by_cases h3 : t < 0
    · simp [h3]
    · obtain ⟨b1, b2⟩ := t2 (by omega)
      obtain ⟨q, q1, q2⟩ := casesOk_both x0 i0 x1 i1.1 (fun x hx => (i1.2 x hx).1)
      simp [h3, toStructure_eq x0 a1 a2, toIntSS_eq x1 b1 b2, q1, q2, eqStructure_self x0 a1 a2, eqIntSS_self x1 b1 b2]

end Go.Proofs.Ytjgnmimfihhphaa
