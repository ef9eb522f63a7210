/- The program's BlockOk and the reference's say the same, in plain functions. No condition. -/
import Derived.Test.YtjgnmimfihhphaaPureFnExactLengthOf
import Derived.Test.YtjgnmimfihhphaaVFnExactBlockOkA
import Derived.Test.YtjgnmimfihhphaaVmB
namespace Go.Proofs.Ytjgnmimfihhphaa
open Go Go.VL

theorem length_some (s : TStructure) (i0 : ITStructure s) (h : spec_StructureOk s = some true) (k : Int) (h0 : 0 ≤ k) (h1 : k < s.fMembers.length) :
    ∃ l, impl_Structure_length s k = some l ∧ 0 ≤ l ∧ l ≤ 142 := by
  obtain ⟨x, y, v1, v2, hx, hy⟩ := vector_at s i0 h k h0 h1
  obtain ⟨n, n1, n2, n3, n4, n5⟩ := root_impl x y hx hy
  unfold impl_Structure_length
  simp only [v1, n1, Option.bind_eq_bind, Option.bind_some]
  split
  · exact ⟨0, rfl, by omega, by omega⟩
  · exact ⟨n, rfl, n2, n3⟩

theorem rope_both (s : TStructure) (i0 : ITStructure s) (h : spec_StructureOk s = some true) (hi : impl_StructureOk s = some true) (k : Int) (ik : In64 k) (num : Int) (hn : 1 ≤ num ∧ num ≤ 100) :
    (impl_Structure_isRope s k = some false ∧ spec_l24Rope s k num = some false) ∨
    ∃ m l, impl_Structure_isRope s k = some true ∧ (0 ≤ k ∧ k < s.fMembers.length) ∧ s.fMembers[k.toNat]? = some m ∧ impl_Structure_length s k = some l ∧ 0 ≤ l ∧ l ≤ 142 ∧
      spec_l24Rope s k num = some (decide (0 < l) && decide (l * num ≤ 100)) := by
  have hm := maxLen_eq
  obtain ⟨-, b1, -⟩ := id i0
  have hw : w64 ((s.fMembers.length : Nat) - 1) = (s.fMembers.length : Nat) - 1 := w64_eq (by omega) (by omega)
  unfold impl_Structure_isRope spec_l24Rope
  simp only [l01In_eq, len_eq, hw, Option.bind_eq_bind, Option.bind_some]
  by_cases c : 0 ≤ k ∧ k < s.fMembers.length
  · have c' : 0 ≤ k ∧ k ≤ (s.fMembers.length : Int) - 1 := by omega
    obtain ⟨m, hmk⟩ : ∃ x, s.fMembers[k.toNat]? = some x := ⟨_, List.getElem?_eq_getElem (by omega)⟩
    by_cases hk : m.fKind = 1
    · right
      obtain ⟨l, l1, l2, l3⟩ := length_some s i0 h k c.1 c.2
      obtain ⟨r, r1, r2⟩ := lengthOf_both s i0 k ik
      have hr : r = l := by
        unfold impl_LengthOf impl_hasMember at r2
        simp only [len_eq, decide_eq_true c.1, decide_eq_true c.2, if_true, hi, Option.bind_eq_bind, Option.bind_some, l1] at r2
        exact (Option.some.inj r2).symm
      subst hr
      have hp : r * num ≤ 142 * 100 := Int.mul_le_mul l3 hn.2 (by omega) (by omega)
      have hp0 : 0 ≤ r * num := Int.mul_nonneg l2 (by omega)
      have hw2 : w64 (r * num) = r * num := w64_eq (by omega) (by omega)
      refine ⟨m, r, ?_, c, hmk, l1, l2, l3, ?_⟩
      · simp only [decide_eq_true c.1, decide_eq_true c.2, if_true, if_pos c, hmk, Option.bind_some, hk]; rfl
      · simp only [decide_eq_true c', if_true, if_pos c, hmk, Option.bind_some, hk, r1, hw2]
        by_cases a : 0 < r <;> simp [a]
    · left
      have e1 : (m.fKind == 1) = false := by simpa using hk
      have e2 : (m.fKind != 1) = true := by simpa using hk
      constructor
      · simp only [decide_eq_true c.1, decide_eq_true c.2, if_true, if_pos c, hmk, Option.bind_some, e1]
      · simp only [decide_eq_true c', if_true, if_pos c, hmk, Option.bind_some, e2]
  · left
    have c' : ¬ (0 ≤ k ∧ k ≤ (s.fMembers.length : Int) - 1) := by omega
    refine ⟨?_, by simp [c']⟩
    by_cases c1 : 0 ≤ k
    · have : ¬ k < s.fMembers.length := fun h => c ⟨c1, h⟩
      simp [c1, this]
    · simp [c1]

theorem blockOk_both (s : TStructure) (i0 : ITStructure s) (b : TBlock) (ib : ITBlock b) : ∃ p, spec_BlockOk s b = some p ∧ impl_BlockOk s b = some p := by
  obtain ⟨p, p1, p2⟩ := structureOk_both s i0
  obtain ⟨j1, j2, j3, j4⟩ := ib
  unfold spec_BlockOk impl_BlockOk
  simp only [p1, p2, Option.bind_eq_bind, Option.bind_some]
  cases p with
  | false => exact ⟨false, rfl, rfl⟩
  | true =>
    by_cases c1 : b.fA = b.fB
    · exact ⟨false, by simp [c1], by simp [c1]⟩
    by_cases c2 : b.fDen < 1 ∨ b.fNum < b.fDen ∨ 100 < b.fNum
    · refine ⟨false, ?_, ?_⟩
      · by_cases a : b.fDen < 1 <;> by_cases a' : b.fNum < b.fDen <;> by_cases a'' : 100 < b.fNum <;> simp [c1, a, a', a''] <;> omega
      · have e : ∀ k, ∃ q, impl_Structure_isRope s k = some q := by
          intro k
          unfold impl_Structure_isRope
          simp only [len_eq]
          by_cases d1 : 0 ≤ k
          · by_cases d2 : k < s.fMembers.length
            · obtain ⟨m, hmk⟩ : ∃ x, s.fMembers[k.toNat]? = some x := ⟨_, List.getElem?_eq_getElem (by omega)⟩
              exact ⟨_, by simp [d1, d2, hmk]; rfl⟩
            · exact ⟨_, by simp [d1, d2]; rfl⟩
          · exact ⟨_, by simp [d1]; rfl⟩
        obtain ⟨qa, ha⟩ := e b.fA
        obtain ⟨qb, hb⟩ := e b.fB
        simp only [ha, hb, Option.bind_some]
        by_cases a : b.fDen < 1 <;> by_cases a' : b.fNum < b.fDen <;> by_cases a'' : 100 < b.fNum <;> cases qa <;> cases qb <;> simp [c1, a, a', a''] <;> omega
    have d1 : ¬ b.fDen < 1 := by omega
    have d2 : ¬ b.fNum < b.fDen := by omega
    have d3 : ¬ 100 < b.fNum := by omega
    rcases rope_both s i0 p1 p2 b.fA j1 b.fNum (by omega) with ⟨a1, a2⟩ | ⟨ma, la, a1, a2, a3, a4, a5, a6, a7⟩
    · exact ⟨false, by simp [c1, d1, d2, d3, a2], by simp [c1, a1]⟩
    rcases rope_both s i0 p1 p2 b.fB j2 b.fNum (by omega) with ⟨e1, e2⟩ | ⟨mb, lb, e1, e2, e3, e4, e5, e6, e7⟩
    · refine ⟨false, ?_, by simp [c1, a1, e1]⟩
      simp only [a7, e2, Option.bind_some]
      by_cases q : (decide (0 < la) && decide (la * b.fNum ≤ 100)) = true <;> simp [c1, d1, d2, d3, q]
    obtain ⟨f1, f2, -⟩ := structureOk_facts s i0 p1
    have g1 := f2 _ ma a3
    have g2 := f2 _ mb e3
    unfold memberB at g1 g2
    simp only [Bool.and_eq_true, decide_eq_true_eq] at g1 g2
    obtain ⟨⟨g11, g12, g13, g14, -⟩, -⟩ := g1
    obtain ⟨⟨g21, g22, g23, g24, -⟩, -⟩ := g2
    have hp : la * b.fNum ≤ 142 * 100 := Int.mul_le_mul a6 (by omega) (by omega) (by omega)
    have hp0 : 0 ≤ la * b.fNum := Int.mul_nonneg a5 (by omega)
    have hq : lb * b.fNum ≤ 142 * 100 := Int.mul_le_mul e6 (by omega) (by omega) (by omega)
    have hq0 : 0 ≤ lb * b.fNum := Int.mul_nonneg e5 (by omega)
    have w1 : w64 (la * b.fNum) = la * b.fNum := w64_eq (by omega) (by omega)
    have w2 : w64 (lb * b.fNum) = lb * b.fNum := w64_eq (by omega) (by omega)
    simp only [a7, e7, a1, e1, a3, e3, a4, e4, w1, w2, if_pos a2, if_pos e2, Option.bind_some, impl_Member_other]
    have nb : ¬ mb.fB < 0 := by omega
    have na : ¬ mb.fA < 0 := by omega
    have e1 : (b.fA == b.fB) = false := by simpa using c1
    simp only [e1, decide_eq_false d1, decide_eq_false d2, decide_eq_false d3, Bool.false_eq_true, if_false, if_true]
    generalize hz1 : decide (0 < la) = z1
    generalize hz2 : decide (la * b.fNum ≤ 100) = z2
    generalize hz3 : decide (0 < lb) = z3
    generalize hz4 : decide (lb * b.fNum ≤ 100) = z4
    have f1 : (if (ma.fA == mb.fA) = true then some mb.fB else if (ma.fA == mb.fB) = true then some mb.fA else some (-1 : Int)) = some (if ma.fA = mb.fA then mb.fB else if ma.fA = mb.fB then mb.fA else -1) := by
      simp only [beq_iff_eq]; split
      · rfl
      · split <;> rfl
    have f2 : (if (ma.fB == mb.fA) = true then some mb.fB else if (ma.fB == mb.fB) = true then some mb.fA else some (-1 : Int)) = some (if ma.fB = mb.fA then mb.fB else if ma.fB = mb.fB then mb.fA else -1) := by
      simp only [beq_iff_eq]; split
      · rfl
      · split <;> rfl
    rw [f1, f2]
    simp only [Option.bind_some]
    have s1 : decide ((if ma.fA = mb.fA then mb.fB else if ma.fA = mb.fB then mb.fA else (-1 : Int)) < 0) = !(ma.fA == mb.fA || ma.fA == mb.fB) := by
      by_cases y1 : ma.fA = mb.fA
      · rw [if_pos y1, decide_eq_false nb, y1]; simp
      · by_cases y2 : ma.fA = mb.fB
        · rw [if_neg y1, if_pos y2, decide_eq_false na, y2]; simp
        · rw [if_neg y1, if_neg y2]; simp [y1, y2]
    have s2 : decide ((if ma.fB = mb.fA then mb.fB else if ma.fB = mb.fB then mb.fA else (-1 : Int)) < 0) = !(ma.fB == mb.fA || ma.fB == mb.fB) := by
      by_cases y1 : ma.fB = mb.fA
      · rw [if_pos y1, decide_eq_false nb, y1]; simp
      · by_cases y2 : ma.fB = mb.fB
        · rw [if_neg y1, if_pos y2, decide_eq_false na, y2]; simp
        · rw [if_neg y1, if_neg y2]; simp [y1, y2]
    rw [s1, s2]
    generalize (ma.fA == mb.fA) = y1
    generalize (ma.fA == mb.fB) = y2
    generalize (ma.fB == mb.fA) = y3
    generalize (ma.fB == mb.fB) = y4
    clear hz1 hz2 hz3 hz4 s1 s2 f1 f2
    revert z1 z2 z3 z4 y1 y2 y3 y4
    refine fun z1 z2 z3 z4 y1 y2 y3 y4 => ⟨(z1 && z2 && (z3 && z4)) && (y1 || y2 || y3 || y4), ?_, ?_⟩
    · revert z1 z2 z3 z4 y1 y2 y3 y4; decide
    · revert z1 z2 z3 z4 y1 y2 y3 y4; decide

theorem laws_FnExactBlockOk_true (x0 : TStructure) (x1 : TBlock) (i0 : ITStructure x0) (i1 : ITBlock x1) : laws_FnExactBlockOk x0 x1 = some true := by
  unfold laws_FnExactBlockOk
  obtain ⟨r, r1, r2⟩ := szStructure_some x0 i0 1048576 (by omega) (by omega)
  rw [r1]
  simp only [Option.bind_eq_bind, Option.bind_some]
  by_cases h2 : r < 0
  · simp [h2]
  · obtain ⟨a1, a2⟩ := r2 (by omega)
    obtain ⟨q, q1, q2⟩ := blockOk_both x0 i0 x1 i1
    simp [h2, toStructure_eq x0 a1 a2, laws_toBlock, q1, q2, eqStructure_self x0 a1 a2]

end Go.Proofs.Ytjgnmimfihhphaa
