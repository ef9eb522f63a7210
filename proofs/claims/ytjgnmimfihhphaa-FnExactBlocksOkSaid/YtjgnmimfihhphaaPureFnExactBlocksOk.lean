/- The program's BlocksOk and the reference's say the same, in plain functions. No condition. -/
import Derived.Test.YtjgnmimfihhphaaPureFnExactBlockOk
import Derived.Test.YtjgnmimfihhphaaPureFnExactCasesOk
import Derived.Test.YtjgnmimfihhphaaVFnExactBlocksOkA
namespace Go.Proofs.Ytjgnmimfihhphaa
open Go Go.VL

theorem blocksOk_both (s : TStructure) (i0 : ITStructure s) (bs : List TBlock) (hb : ∀ b ∈ bs, ITBlock b) : ∃ r, spec_BlocksOk s bs = some r ∧ impl_BlocksOk s bs = some r := by
  obtain ⟨p, p1, p2⟩ := structureOk_both s i0
  unfold spec_BlocksOk impl_BlocksOk
  simp only [len_eq, Option.bind_eq_bind, Option.bind_some, p1, p2]
  by_cases h1 : (3 : Int) < (bs.length : Nat)
  · refine ⟨false, ?_, by simp [h1]⟩
    cases p <;> simp [h1]
  · cases p with
    | false => exact ⟨false, rfl, by simp [h1]⟩
    | true =>
      have hex : ∀ b, ∃ q : Bool, b ∈ bs → spec_BlockOk s b = some q ∧ impl_BlockOk s b = some q := by
        intro b
        by_cases h : b ∈ bs
        · obtain ⟨q, q1, q2⟩ := blockOk_both s i0 b (hb b h)
          exact ⟨q, fun _ => ⟨q1, q2⟩⟩
        · exact ⟨false, fun h' => absurd h' h⟩
      obtain ⟨f, hf⟩ := Classical.axiomOfChoice hex
      have hs : spec_BlocksOk_L1 bs (bs.length : Nat) s.fJoints s.fMembers 0 = some (if bs.all f then .inl () else .inr ()) := by
        refine iter_all (f := fun w => spec_BlocksOk_L1_body bs (bs.length : Nat) s.fJoints s.fMembers w) bs f (fun n x hx => ?_) (by simp [spec_BlocksOk_L1_body])
        have hlt := lt_of_get hx
        unfold spec_BlocksOk_L1_body
        have c : (n : Int) < (bs.length : Int) := by omega
        have c' : 0 ≤ (n : Int) ∧ (n : Int) < (bs.length : Int) := by omega
        simp only [decide_eq_true c, if_true, if_pos c', Int.toNat_natCast, hx, Option.bind_eq_bind, Option.bind_some]
        rw [show spec_BlockOk ⟨s.fJoints, s.fMembers⟩ x = some (f x) from (hf x (List.mem_of_getElem? hx)).1]
        rw [i1 (by omega)]
        cases f x <;> rfl
      have hi : impl_BlocksOk_L1 bs (bs.length : Nat) s.fJoints s.fMembers 0 = some (if bs.all f then .inl () else .inr ()) := by
        refine iter_all (f := fun w => impl_BlocksOk_L1_body bs (bs.length : Nat) s.fJoints s.fMembers w) bs f (fun n x hx => ?_) (by simp [impl_BlocksOk_L1_body])
        have hlt := lt_of_get hx
        unfold impl_BlocksOk_L1_body
        have c : (n : Int) < (bs.length : Int) := by omega
        have c' : 0 ≤ (n : Int) ∧ (n : Int) < (bs.length : Int) := by omega
        simp only [decide_eq_true c, if_true, if_pos c', Int.toNat_natCast, hx, Option.bind_eq_bind, Option.bind_some]
        rw [show impl_BlockOk ⟨s.fJoints, s.fMembers⟩ x = some (f x) from (hf x (List.mem_of_getElem? hx)).2]
        rw [i1 (by omega)]
        cases f x <;> rfl
      simp only [decide_eq_false h1, Bool.false_eq_true, if_false, if_true, hs, hi, Option.bind_some]
      cases bs.all f
      · exact ⟨false, rfl, rfl⟩
      · exact ⟨true, rfl, rfl⟩

theorem toBlockS_eq (l : List TBlock) (h : l.length ≤ 1048576) : laws_toBlockS l = some l := by
  have hb : ∀ (n : Nat) x (row : List TBlock), l[n]? = some x → row.length = l.length → laws_toBlockS_L1_body l (len_ eTBlock l).toNat n row = some (.inl (((n + 1 : Nat) : Int), row.set n x)) := by
    intro n x row hx hr
    obtain ⟨hn, rfl⟩ := List.getElem?_eq_some_iff.1 hx
    have hw : w64 ((n : Int) + 1) = ((n + 1 : Nat) : Int) := by rw [w64_eq (by omega) (by omega)]; rfl
    simp only [laws_toBlockS_L1_body, len_eq, hw, laws_toBlock]
    simp [hn, hr]
  have he : ∀ row : List TBlock, laws_toBlockS_L1_body l (len_ eTBlock l).toNat l.length row = some (.inr row) := by
    intro row
    simp [laws_toBlockS_L1_body, len_eq]
  have h1 : laws_toBlockS_L1 l (len_ eTBlock l).toNat 0 (List.replicate (len_ eTBlock l).toNat (⟨0, 0, 0, 0⟩ : TBlock)) = some l :=
    iter_copy l _ (by simp [len_eq]) hb he
  unfold laws_toBlockS
  rw [h1, if_pos (by rw [len_eq]; omega)]
  simp [len_eq]

theorem eqBlockS_self (l : List TBlock) (h : l.length ≤ 1048576) : laws_eqBlockS l l = some true := by
  have h1 : laws_eqBlockS_L1 l l 0 = some (if l.all (fun _ => true) then .inl () else .inr ()) := by
    refine iter_all (f := fun w => laws_eqBlockS_L1_body l l w) l _ (fun n x hx => ?_) (by simp [laws_eqBlockS_L1_body, len_eq])
    have hlt := lt_of_get hx
    unfold laws_eqBlockS_L1_body laws_eqBlock
    have c : (n : Int) < (l.length : Int) := by omega
    have c' : 0 ≤ (n : Int) ∧ (n : Int) < (l.length : Int) := by omega
    simp only [len_eq, decide_eq_true c, if_true, if_pos c', Int.toNat_natCast, hx, Option.bind_eq_bind, Option.bind_some]
    rw [i1 (by omega)]
    simp
  unfold laws_eqBlockS
  rw [h1]
  simp

theorem laws_FnExactBlocksOk_true (x0 : TStructure) (x1 : (List TBlock)) (i0 : ITStructure x0) (i1 : (fun l => l.length ≤ maxLen ∧ ∀ x ∈ l, ITBlock x) x1) : laws_FnExactBlocksOk x0 x1 = some true := by
  have hm := maxLen_eq
  unfold laws_FnExactBlocksOk
  obtain ⟨r, r1, r2⟩ := szStructure_some x0 i0 1048576 (by omega) (by omega)
  have hr := szStructure_le x0 i0 1048576 (by omega) (by omega) r r1
  have hl := i1.1
  rw [r1]
  simp only [Option.bind_eq_bind, Option.bind_some]
  by_cases h2 : r < 0
  · simp [h2]
  · obtain ⟨a1, a2⟩ := r2 (by omega)
    have hw : w64 (r - ((x1.length : Nat) : Int)) = r - (x1.length : Nat) := w64_eq (by omega) (by omega)
    have hsz : laws_szBlockS x1 r = some (if r < x1.length then -1 else r - x1.length) := by
      unfold laws_szBlockS
      rw [len_eq, hw]
      by_cases e : r < (x1.length : Nat)
      · have : r - (x1.length : Nat) < 0 := by omega
        simp [e, this]
      · have : ¬ r - (x1.length : Nat) < 0 := by omega
        simp [e, this]
    rw [decide_eq_false h2, hsz]
    simp only [Bool.false_eq_true, if_false, Option.bind_some]
    by_cases h3 : r < (x1.length : Nat)
    · simp [h3]
    · have h4 : ¬ r - ((x1.length : Nat) : Int) < 0 := by omega
      obtain ⟨q, q1, q2⟩ := blocksOk_both x0 i0 x1 i1.2
      simp [h3, h4, toStructure_eq x0 a1 a2, toBlockS_eq x1 (by omega), q1, q2, eqStructure_self x0 a1 a2, eqBlockS_self x1 (by omega)]

end Go.Proofs.Ytjgnmimfihhphaa
