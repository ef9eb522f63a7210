/- The squares of the forces. In plain functions. No condition. -/
import Derived.Test.YtfhmbogcjcgchaaGreatPureRatD
namespace Go.Proofs.YtfhmbogcjcgchaaGreat
open Go Go.VL

noncomputable def qsq (x : Int × Int) (sq : Int) : Option (Int × Int) := qmul (qmul (some x) (some x)) (some (sq, 1))

theorem okQ_some {p : Int × Int} (h : Fr p) : OkQ (some p) := fun q hq => by rw [← Option.some.inj hq]; exact h

theorem low_nonneg {n d : Int} (hn : 0 ≤ n) : ∀ p, low n d = some p → 0 ≤ p.1 := by
  intro p hp
  unfold low at hp
  split at hp
  · rw [← Option.some.inj hp]
    exact Int.ediv_nonneg hn (by omega)
  · simp at hp

theorem qsq_ok {x : Int × Int} (hx : Fr x) {sq : Int} (h0 : 0 ≤ sq) (h1 : sq ≤ 1000000) : ∀ p, qsq x sq = some p → Fr p ∧ 0 ≤ p.1 := by
  intro p hp
  have hs : Fr (sq, 1) := fr_int (in64_iff.2 (by omega))
  have hx2 := qmul_ok (okQ_some hx) (okQ_some hx)
  refine ⟨qmul_ok hx2 (okQ_some hs) p hp, ?_⟩
  unfold qsq at hp
  rw [qmul_some] at hp
  cases hl : low (x.1 * x.1) (x.2 * x.2) with
  | none => rw [hl] at hp; simp [qmul] at hp
  | some q =>
    rw [hl, qmul_some] at hp
    have h3 := low_nonneg (n := x.1 * x.1) (d := x.2 * x.2) (by rcases Int.le_total 0 x.1 with h | h
                                                                · exact Int.mul_nonneg h h
                                                                · exact Int.mul_nonneg_of_nonpos_of_nonpos h h) q hl
    exact low_nonneg (Int.mul_nonneg h3 h0) p hp

/-- What is shown of one member's square. -/
def SqAt (s : TStructure) (q : List TRat) (xs : List (Int × Int)) (k : Nat) (o : Option (Int × Int)) : Prop :=
  (∀ p, o = some p → Fr p ∧ 0 ≤ p.1) ∧ spec_ForceSquare s q k = some (enc o, o.isSome) ∧ impl_Structure_forceSquare s (xs.map someO) k = some (encO o)

theorem sq_nonneg (x : Int) : 0 ≤ x * x := by
  rcases Int.le_total 0 x with h | h
  · exact Int.mul_nonneg h h
  · exact Int.mul_nonneg_of_nonpos_of_nonpos h h

theorem sq100 {x : Int} (h0 : -100 ≤ x) (h1 : x ≤ 100) : x * x ≤ 10000 := by
  have h2 := Int.mul_nonneg (show 0 ≤ 100 + x by omega) (show 0 ≤ 100 - x by omega)
  have e : (100 + x) * (100 - x) = 10000 - x * x := by grind
  omega

theorem l01In_range {n : Nat} {k : Nat} (hk : k < n) (hn : n ≤ 1000000) : spec_l01In (k : Int) 0 (w64 ((n : Int) - 1)) = some true := by
  rw [l01In_eq, w64_eq (by omega) (by omega)]
  simp
  omega

theorem square_at (s : TStructure) (i0 : ITStructure s) (q : List TRat) (xs : List (Int × Int)) (hx : ∀ p ∈ xs, Fr p) (hq : q = xs.map mk) (hl : q.length = s.fMembers.length) (hok : spec_StructureOk s = some true) (hfit : spec_l14Fits s q = some true) (k : Nat) (hk : k < s.fMembers.length) : ∃ o, SqAt s q xs k o := by
  obtain ⟨-, -, -, hm8⟩ := structureOk_facts s i0 hok
  obtain ⟨x, y, v1, v2, v3, v4⟩ := vector_at s i0 hok k (by omega) (by omega)
  have hxl : xs.length = s.fMembers.length := by rw [← hl, hq]; simp
  have hxk := List.getElem?_eq_getElem (show k < xs.length by omega)
  have hfr := hx _ (List.mem_of_getElem? hxk)
  have s1 := sq_nonneg x
  have s2 := sq_nonneg y
  have s3 := sq100 v3.1 v3.2
  have s4 := sq100 v4.1 v4.2
  have hw : w64 (w64 (x * x) + w64 (y * y)) = x * x + y * y := by
    rw [w64_eq (x := x * x) (by omega) (by omega), w64_eq (x := y * y) (by omega) (by omega), w64_eq (by omega) (by omega)]
  have hin : In64 (x * x + y * y) := in64_iff.2 (by omega)
  have hs : Fr (x * x + y * y, 1) := fr_int hin
  have hx2 := qmul_ok (okQ_some hfr) (okQ_some hfr)
  refine ⟨qsq xs[k] (x * x + y * y), qsq_ok hfr (by omega) (by omega), ?_, ?_⟩
  · have hv : spec_VectorOf s k = some (x, y) := by
      unfold spec_VectorOf
      rw [hok]
      simp only [Option.bind_eq_bind, Option.bind_some, if_true, len_eq]
      rw [l01In_range hk (by omega)]
      simp only [Option.bind_some, if_true]
      rw [v2]
      rfl
    have hsq : spec_SquareOf s k = some (x * x + y * y) := by
      unfold spec_SquareOf
      rw [hv]
      simp only [Option.bind_eq_bind, Option.bind_some]
      rw [hw]
    have hqk : q[k]? = some (enc (some xs[k])) := by rw [hq, List.getElem?_map, hxk]; rfl
    unfold spec_ForceSquare
    rw [hfit]
    simp only [Option.bind_eq_bind, Option.bind_some, if_true, len_eq]
    rw [l01In_range hk (by omega)]
    simp only [Option.bind_some, if_true]
    rw [if_pos (by omega), Int.toNat_natCast, hqk]
    simp only [Option.bind_some]
    rw [ratMul_eq (okQ_some hfr) (okQ_some hfr)]
    simp only [Option.bind_some]
    rw [hsq]
    simp only [Option.bind_some]
    rw [ratFromInt_eq hin]
    simp only [Option.bind_some]
    have e1 : mk (x * x + y * y, 1) = enc (some (x * x + y * y, 1)) := rfl
    rw [e1, ratMul_eq hx2 (okQ_some hs)]
    simp only [Option.bind_some]
    rw [enc_ok (qmul_ok hx2 (okQ_some hs))]
    rfl
  · have hlk : (xs.map someO)[k]? = some (encO (some xs[k])) := by rw [List.getElem?_map, hxk]; rfl
    unfold impl_Structure_forceSquare
    rw [v1]
    simp only [Option.bind_eq_bind, Option.bind_some]
    rw [if_pos (by simp; omega), Int.toNat_natCast, hlk]
    simp only [Option.bind_some]
    rw [mul_eqO (okQ_some hfr) (okQ_some hfr)]
    simp only [Option.bind_some]
    rw [hw, whole_eq hin]
    simp only [Option.bind_some]
    have e1 : some (mkO (x * x + y * y, 1)) = encO (some (x * x + y * y, 1)) := rfl
    rw [e1, mul_eqO hx2 (okQ_some hs)]
    rfl

theorem somes_of {os : List (Option (Int × Int))} (h : os.all Option.isSome = true) : os = (os.filterMap id).map some := by
  induction os with
  | nil => rfl
  | cons o os ih =>
    simp only [List.all_cons, Bool.and_eq_true] at h
    obtain ⟨p, rfl⟩ := Option.isSome_iff_exists.mp h.1
    simp only [List.filterMap_cons, id, List.map_cons]
    rw [← ih h.2]

theorem squares_both (s : TStructure) (i0 : ITStructure s) (q : List TRat) (h : q.length ≤ 1048576) (hr : ∀ r ∈ q, RatLen r) :
    (∃ ys : List (Int × Int), (∀ p ∈ ys, Fr p ∧ 0 ≤ p.1) ∧ ys.length = s.fMembers.length ∧ s.fMembers.length ≤ 8 ∧ spec_StructureOk s = some true ∧ spec_l20Squares s q = some (ys.map mk, true) ∧ impl_forceSquares s q = some (ys.map someO, true)) ∨ (spec_l20Squares s q = some ([], false) ∧ impl_forceSquares s q = some ([], false)) := by
  rcases fits_both s i0 q h hr with ⟨xs, hx, hq, hl, hok, hfit, hden⟩ | ⟨hfit, hden⟩
  · obtain ⟨-, -, -, hm8⟩ := structureOk_facts s i0 hok
    obtain ⟨os, o1, o2⟩ := list_make (P := SqAt s q xs) s.fMembers.length (fun k hk => square_at s i0 q xs hx hq hl hok hfit k hk)
    have hxl : xs.length = s.fMembers.length := by rw [← hl, hq]; simp
    have hspec : iter (fun w : Int × List TRat => spec_l20Squares_L1_body q s.fMembers.length s.fJoints s.fMembers w.1 w.2) (0, []) = some (if os.all Option.isSome then .inl (os.map enc) else .inr ()) := iter_app os Option.isSome enc (fun n o row ho hrow => by
      have hn := lt_of_get ho
      obtain ⟨-, h2, -⟩ := o2 n o ho
      have h2' : spec_ForceSquare (⟨s.fJoints, s.fMembers⟩ : TStructure) q n = some (enc o, o.isSome) := h2
      unfold spec_l20Squares_L1_body
      rw [if_pos (by simp; omega), h2']
      simp only [Option.bind_eq_bind, Option.bind_some]
      rw [i1 (by omega)]
      cases o.isSome
      · rfl
      · rw [if_pos rfl, if_pos (by simp; omega), if_pos rfl]) (fun row => by rw [o1]; simp [spec_l20Squares_L1_body])
    have himpl : iter (fun w : Int × List (Option TRatio_) => impl_forceSquares_L1_body s.fJoints s.fMembers (xs.map someO) xs.length w.1 w.2) (0, List.replicate xs.length (none : Option TRatio_)) = some (if os.all Option.isSome then .inl (os.map encO) else .inr ()) := iter_fill os Option.isSome encO _ (by simp; omega) (fun n o row ho hrow => by
      have hn := lt_of_get ho
      obtain ⟨-, -, h3⟩ := o2 n o ho
      have h3' : impl_Structure_forceSquare (⟨s.fJoints, s.fMembers⟩ : TStructure) (xs.map someO) n = some (encO o) := h3
      unfold impl_forceSquares_L1_body
      rw [if_pos (by simp; omega), h3']
      simp only [Option.bind_eq_bind, Option.bind_some]
      rw [if_pos (by omega), Int.toNat_natCast, Nat.zero_add, if_pos (by omega), List.getElem?_set, if_pos rfl, if_pos (by omega)]
      simp only [Option.bind_some]
      rw [i1 (by omega)]
      cases o <;> rfl) (fun row => by rw [o1, ← hxl]; simp [impl_forceSquares_L1_body])
    unfold spec_l20Squares spec_l20Squares_L1 impl_forceSquares impl_forceSquares_L1
    rw [hfit, hden]
    simp only [Option.bind_eq_bind, Option.bind_some, if_true, len_eq, List.length_map, Int.toNat_natCast]
    have hc : 0 ≤ (xs.length : Int) ∧ (8 : Int) * (xs.length : Int) ≤ 281474976710656 ∧ (xs.length : Int) < 9223372036854775808 := by omega
    rw [hspec, himpl, if_pos hc]
    by_cases hall : os.all Option.isSome = true
    · have hos := somes_of hall
      refine .inl ⟨os.filterMap id, ?_, ?_, hm8, hok, ?_, ?_⟩
      · intro p hp
        obtain ⟨o, ho, ho2⟩ := List.mem_filterMap.mp hp
        obtain ⟨n, hn⟩ := List.mem_iff_getElem?.mp ho
        exact (o2 n _ hn).1 p ho2
      · rw [← o1]
        conv => rhs; rw [hos]
        simp
      · rw [hall, if_pos rfl]
        simp only [Option.bind_some]
        congr 2
        conv => lhs; rw [hos]
        rw [List.map_map]
        rfl
      · rw [hall, if_pos rfl]
        simp only [Option.bind_some]
        congr 2
        conv => lhs; rw [hos]
        rw [List.map_map]
        rfl
    · simp only [Bool.not_eq_true] at hall
      refine .inr ⟨by rw [hall]; rfl, by rw [hall]; rfl⟩
  · refine .inr ⟨?_, ?_⟩
    · unfold spec_l20Squares
      rw [hfit]
      rfl
    · unfold impl_forceSquares
      rw [hden]
      rfl

/-- The limits, both ways. -/
theorem limits_both (s : TStructure) (hok : spec_StructureOk s = some true) (l : List Int) (hl : l.length ≤ maxLen) : ∃ r, spec_LimitsOk s l = some r ∧ impl_fitsLimits s l = some r ∧ (r = true → l.length = s.fMembers.length ∧ ∀ (n : Nat) x, l[n]? = some x → 0 ≤ x ∧ x ≤ 1000) := by
  have hm := maxLen_eq
  unfold spec_LimitsOk impl_fitsLimits
  simp only [hok, Option.bind_eq_bind, Option.bind_some, if_true]
  obtain ⟨q, hq, hq0⟩ := index_limits_some l hl
  have hL1 : spec_LimitsOk_L1 l (len_ eI l) 0 = some (Sum.map id (fun _ => ()) q) :=
    iter_map (f := fun w => s_IndexFunc_impl_fitsLimits_1_L1_body l (len_ eI l) w) (Sum.map id fun _ => ()) (fun _ => True) (fun _ _ _ _ => trivial) (fun i _ => limits_L1_body l i) 0 q hq trivial
  simp only [s_ContainsFunc_impl_fitsLimits_1, s_IndexFunc_impl_fitsLimits_1, hq, hL1, Option.bind_eq_bind, Option.bind_some]
  by_cases e : len_ eI l = len_ eTMember s.fMembers
  · simp only [e, bne_self_eq_false, beq_self_eq_true, Bool.false_eq_true, if_false, if_true]
    cases q with
    | inl b =>
      refine ⟨true, rfl, by simp, fun _ => ⟨by rw [len_eq, len_eq] at e; omega, ?_⟩⟩
      obtain ⟨r, r1, r2⟩ := iter_inv (f := fun w => s_IndexFunc_impl_fitsLimits_1_L1_body l (len_ eI l) w) (fun i => 0 ≤ i ∧ i ≤ l.length ∧ ∀ (n : Nat) x, (n : Int) < i → l[n]? = some x → 0 ≤ x ∧ x ≤ 1000) (fun i => (l.length - i).toNat)
        (fun r => r = .inl () → ∀ (n : Nat) x, l[n]? = some x → 0 ≤ x ∧ x ≤ 1000) (fun i hi => by
        obtain ⟨h0, h1, h3⟩ := hi
        by_cases h2 : i < (l.length : Int)
        · have hw : w64 (i + 1) = i + 1 := w64_eq (by omega) (by omega)
          obtain ⟨x, hx⟩ : ∃ x, l[i.toNat]? = some x := ⟨_, List.getElem?_eq_getElem (by omega)⟩
          unfold s_IndexFunc_impl_fitsLimits_1_L1_body impl_fitsLimits_1
          simp only [len_eq, h2, h0, hw, hx, isLimit_eq, decide_true, if_true, and_self, Option.bind_eq_bind, Option.bind_some]
          by_cases c : 0 ≤ x ∧ x ≤ 1000
          · refine .inl ⟨i + 1, by simp [c], ⟨by omega, by omega, fun n y hn hy => ?_⟩, by omega⟩
            by_cases d : (n : Int) < i
            · exact h3 n y d hy
            · have : n = i.toNat := by omega
              subst this
              rw [hx] at hy
              rw [← Option.some.inj hy]
              exact c
          · exact .inr ⟨.inr i, by simp [c], by simp⟩
        · refine .inr ⟨.inl (), by simp [s_IndexFunc_impl_fitsLimits_1_L1_body, len_eq, h2], fun _ n x hx => h3 n x (by have := lt_of_get hx; omega) hx⟩) 0 ⟨by omega, by omega, fun n x hn => by omega⟩
      have r1' : s_IndexFunc_impl_fitsLimits_1_L1 l (len_ eI l) 0 = some r := r1
      rw [hq] at r1'
      exact r2 (Option.some.inj r1').symm
    | inr k =>
      have := hq0 k rfl
      exact ⟨false, rfl, by simp [this], by simp⟩
  · exact ⟨false, by simp [e], by simp [e], by simp⟩

end Go.Proofs.YtfhmbogcjcgchaaGreat
