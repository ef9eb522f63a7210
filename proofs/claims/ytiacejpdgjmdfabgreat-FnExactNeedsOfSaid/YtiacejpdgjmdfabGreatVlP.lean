/- Regions that draw their order, and regions at all. -/
import Derived.Test.YtiacejpdgjmdfabGreatVlO
namespace Go.VL
set_option linter.unusedVariables false
set_option linter.unusedSimpArgs false
open Go

theorem meets_mem {a b : List Nat} {x : Nat} (ha : x ∈ a) (hb : x ∈ b) : meets a b = true := by
  unfold meets
  rw [List.any_eq_true]
  exact ⟨x, ha, by simpa using hb⟩

/-- Records that may change places: neither lays what the other reads or lays. -/
theorem conf_writes {x y : Rec} (h : conf x y = false) {L : Nat ⊕ Nat} (hx : eff x L ≠ none) : eff y L = none := by
  simp only [conf, Bool.or_eq_false_iff] at h
  cases L with
  | inl t =>
    simp only [eff] at hx ⊢
    by_cases h1 : x.o.dst = some t
    · by_cases h2 : y.o.dst = some t
      · have := meets_mem (a := x.o.dst.toList) (b := y.ts ++ y.o.dst.toList) (x := t) (by simp [h1]) (by simp [h2])
        rw [h.1.1.1] at this; simp at this
      · simp [h2]
    · simp [h1] at hx
  | inr r =>
    simp only [eff] at hx ⊢
    cases h2 : lastUpd y.res.upd r with
    | none => rfl
    | some row =>
      have m1 : r ∈ x.res.upd.map (·.1) := lastUpd_mem _ _ (by intro e; simp [e] at hx)
      have m2 : r ∈ y.res.upd.map (·.1) := lastUpd_mem _ _ (by rw [h2]; simp)
      have := meets_mem m1 (b := y.rs ++ y.res.upd.map (·.1)) (by simp only [List.mem_append]; exact .inr m2)
      rw [h.1.2] at this; simp at this

/-- Does a place stand among what a record reads? -/
def Rec.sees (x : Rec) : Nat ⊕ Nat → Prop
  | .inl t => t ∈ x.ts
  | .inr r => r ∈ x.rs

theorem conf_reads1 {x y : Rec} (h : conf x y = false) {L : Nat ⊕ Nat} (hy : y.sees L) : eff x L = none := by
  simp only [conf, Bool.or_eq_false_iff] at h
  cases L with
  | inl t =>
    simp only [eff]
    by_cases h1 : x.o.dst = some t
    · have := meets_mem (a := x.o.dst.toList) (b := y.ts ++ y.o.dst.toList) (x := t) (by simp [h1]) (by simp only [List.mem_append]; exact .inl hy)
      rw [h.1.1.1] at this; simp at this
    · simp [h1]
  | inr r =>
    simp only [eff]
    cases h2 : lastUpd x.res.upd r with
    | none => rfl
    | some row =>
      have m1 : r ∈ x.res.upd.map (·.1) := lastUpd_mem _ _ (by rw [h2]; simp)
      have := meets_mem m1 (b := y.rs ++ y.res.upd.map (·.1)) (by simp only [List.mem_append]; exact .inl hy)
      rw [h.1.2] at this; simp at this

theorem conf_reads2 {x y : Rec} (h : conf x y = false) {L : Nat ⊕ Nat} (hx : x.sees L) : eff y L = none := by
  simp only [conf, Bool.or_eq_false_iff] at h
  cases L with
  | inl t =>
    simp only [eff]
    by_cases h1 : y.o.dst = some t
    · have := meets_mem (a := x.ts) (b := y.o.dst.toList) (x := t) hx (by simp [h1])
      rw [h.1.1.2] at this; simp at this
    · simp [h1]
  | inr r =>
    simp only [eff]
    cases h2 : lastUpd y.res.upd r with
    | none => rfl
    | some row =>
      have m1 : r ∈ y.res.upd.map (·.1) := lastUpd_mem _ _ (by rw [h2]; simp)
      have := meets_mem (a := x.rs) hx m1
      rw [h.2] at this; simp at this

theorem only_congr {s s' : S} {x : Rec} (h : ∀ L, x.sees L → s.vw L = s'.vw L) : s.only x.ts x.rs = s'.only x.ts x.rs := by
  apply S.ext_vw
  intro L
  cases L with
  | inl t =>
    simp only [S.vw, S.only]
    by_cases ht : t ∈ x.ts
    · have := h (.inl t) ht
      simp only [S.vw, Sum.inl.injEq] at this
      simp [ht, this]
    · simp [ht]
  | inr r =>
    simp only [S.vw, S.only]
    by_cases hr : r ∈ x.rs
    · have := h (.inr r) hr
      simp only [S.vw, Sum.inr.injEq] at this
      simp [hr, this]
    · simp [hr]

theorem foldF_take : ∀ (l : List Rec) (i n : Nat) (s : S), foldF (l.take i) (fun _ => true) n s = foldF l (fun k => decide (k < n + i)) n s
  | [], i, n, s => by simp [foldF]
  | x :: l, 0, n, s => by
    simp only [List.take_zero, foldF, Nat.add_zero]
    rw [if_neg (by simp)]
    have := foldF_congr l (fun k => decide (k < n)) (fun _ => false) (n + 1) s (fun i _ => by simp; omega)
    rw [this]
    have hz : ∀ (l : List Rec) (n : Nat), foldF l (fun _ => false) n s = s := by
      intro l
      induction l with
      | nil => intro n; rfl
      | cons x l ih => intro n; simp only [foldF, Bool.false_eq_true, if_false]; exact ih _
    rw [hz]
  | x :: l, i + 1, n, s => by
    simp only [List.take_succ_cons, foldF, if_true]
    rw [if_pos (by simp), foldF_take l i (n + 1)]
    exact foldF_congr l _ _ (n + 1) _ fun j _ => by congr 1; apply propext; omega

def countFalse (l : List Bool) : Nat := l.countP (fun b => !b)

section
variable {P : Program} {ops : Array Oper} {Q : Exit → Act → World → Prop} {g : G} {s0 : S} {n0 : Nat} {recs : List Rec}

theorem ready_iff {listed : Array Bool} (hsz : listed.size = ops.size) {i : Nat} : i ∈ Region.ready .any ops listed ↔ i < ops.size ∧ listed.getD i false = false ∧ ∀ o, ops[i]? = some o → ∀ e ∈ o.after, Region.binds .any e = true → listed.getD e.on false = true := by
  unfold Region.ready
  rw [List.mem_filter, List.mem_range]
  constructor
  · rintro ⟨h1, h2⟩
    simp only [Bool.and_eq_true, Bool.not_eq_true'] at h2
    have hl : i < listed.size := by omega
    refine ⟨h1, ?_, fun o ho e he hb => ?_⟩
    · have := h2.1
      rw [Array.getD_eq_getD_getElem?, Array.getElem?_eq_getElem hl] at this ⊢
      simpa using this
    · have h3 := h2.2
      rw [ho] at h3
      simp only [Option.map_some, Option.getD_some] at h3
      rw [Array.all_eq_true_iff_forall_mem] at h3
      have := h3 e he
      simpa [hb] using this
  · rintro ⟨h1, h2, h3⟩
    refine ⟨h1, ?_⟩
    have hl : i < listed.size := by omega
    have ho : ops[i]? = some ops[i] := Array.getElem?_eq_getElem h1
    simp only [Bool.and_eq_true, Bool.not_eq_true']
    refine ⟨?_, ?_⟩
    · rw [Array.getD_eq_getD_getElem?, Array.getElem?_eq_getElem hl] at h2 ⊢
      simpa using h2
    · rw [ho]
      simp only [Option.map_some, Option.getD_some]
      rw [Array.all_eq_true_iff_forall_mem]
      intro e he
      cases hb : Region.binds .any e with
      | false => rfl
      | true => simp [h3 _ ho e he hb]

theorem drawn_any (hlen : recs.length = ops.size) (hrec : ∀ (i : Nat) x, recs[i]? = some x → ops[i]? = some x.o ∧ x.ts = rdT ops x.o ∧ n0 + i ∈ x.rs ∧
      stepR P g.N ops ((foldF (recs.take i) (fun _ => true) 0 s0).only x.ts x.rs) (n0 + i) x.o x.an = some x.res ∧ (foldF (recs.take i) (fun _ => true) 0 s0).freeFrom (n0 + i))
    (hobs : ∀ x ∈ recs, ∀ p ∈ x.res.obs, p)
    (hord : ∀ (i j : Nat) x y, i < j → recs[i]? = some x → recs[j]? = some y → conf x y = true → Anc ops i j)
    (hback : ∀ (i : Nat) o, ops[i]? = some o → ∀ e ∈ o.after, Region.binds .any e = true → e.on < i)
    (hQ : ∀ φ' a' w', RelS g (foldF recs (fun _ => true) 0 s0) φ' a' w' → Q .normal a' w') :
    ∀ (fuel : Nat) (listed : Array Bool) (φ : Plc) (a : Act) (w : World), listed.size = ops.size → countFalse listed.toList ≤ fuel →
      (∀ i j, listed.getD j false = true → Anc ops i j → listed.getD i false = true) →
      RelS g (foldF recs (fun i => listed.getD i false) 0 s0) φ a w → wpAny P .any ops Q fuel listed a w := by
  -- nothing ready: all is done
  have hdone : ∀ (listed : Array Bool) (φ : Plc) (a : Act) (w : World), listed.size = ops.size → Region.ready .any ops listed = [] →
      RelS g (foldF recs (fun i => listed.getD i false) 0 s0) φ a w → Q .normal a w := by
    intro listed φ a w hsz hr h
    have hall : ∀ i, i < ops.size → listed.getD i false = true := by
      intro i
      induction i using Nat.strongRecOn with
      | _ i ih =>
        intro hi
        cases hl : listed.getD i false with
        | true => rfl
        | false =>
          exfalso
          have : i ∈ Region.ready .any ops listed := (ready_iff hsz).2 ⟨hi, hl, fun o ho e he hb => by
            have hlt := hback i o ho e he hb
            exact ih e.on hlt (by omega)⟩
          rw [hr] at this; simp at this
    have e := foldF_congr recs (fun i => listed.getD i false) (fun _ => true) 0 s0 (fun i hi => by simpa using hall i (by omega))
    rw [e] at h
    exact hQ φ a w h
  have hstep : ∀ (listed : Array Bool) (φ : Plc) (a : Act) (w : World), listed.size = ops.size → (∀ i j, listed.getD j false = true → Anc ops i j → listed.getD i false = true) →
      RelS g (foldF recs (fun i => listed.getD i false) 0 s0) φ a w → ∀ i ∈ Region.ready .any ops listed, ∀ K : Act → World → Prop,
      (∀ φ' a' w', RelS g (foldF recs (fun k => (listed.setIfInBounds i true).getD k false) 0 s0) φ' a' w' → K a' w') → wpOp P ops Q i K a w := by
    intro listed φ a w hsz hdown h i hi K hK
    obtain ⟨hi1, hi2, hi3⟩ := (ready_iff hsz).1 hi
    have hix : recs[i]? = some (recs[i]'(by omega)) := List.getElem?_eq_getElem _
    generalize recs[i]'(by omega) = x at hix
    obtain ⟨r1, r2, r0, r3, r4⟩ := hrec i x hix
    have hanc : ∀ j, Anc ops j i → listed.getD j false = true := by
      intro j hj
      cases hj with
      | one ho he hb hon =>
        rw [r1] at ho; simp at ho; subst ho
        rw [← hon]; exact hi3 _ r1 _ he hb
      | step ho he hb hon hk =>
        rw [r1] at ho; simp at ho; subst ho
        have := hi3 _ r1 _ he hb
        rw [hon] at this
        exact hdown _ _ this hk
    have hlt : ∀ j y, recs[j]? = some y → j < i → listed.getD j false = false → conf y x = false := by
      intro j y hy hji hf
      cases hc : conf y x with
      | false => rfl
      | true => have := hanc j (hord j i y x hji hy hix hc); rw [hf] at this; simp at this
    have hgt : ∀ j y, recs[j]? = some y → i < j → listed.getD j false = true → conf x y = false := by
      intro j y hy hij hf
      cases hc : conf x y with
      | false => rfl
      | true => have := hdown i j hf (hord i j x y hij hix hy hc); rw [hi2] at this; simp at this
    -- it sees what it saw in the text's order
    have hsee : ∀ L, x.sees L → (foldF (recs.take i) (fun _ => true) 0 s0).vw L = (foldF recs (fun i => listed.getD i false) 0 s0).vw L := by
      intro L hL
      rw [foldF_take]
      refine foldF_agree L recs _ _ 0 s0 s0 rfl fun j y hy he => ?_
      simp only [Nat.zero_add]
      rcases Nat.lt_trichotomy j i with hji | hji | hji
      · cases hf : listed.getD j false with
        | true => simpa using hji
        | false => exact absurd (conf_reads1 (hlt j y hy hji hf) hL) he
      · subst hji; simpa using hi2.symm
      · cases hf : listed.getD j false with
        | false => simp; omega
        | true => exact absurd (conf_reads2 (hgt j y hy hji hf) hL) he
    have hres : stepR P g.N ops (foldF recs (fun i => listed.getD i false) 0 s0) (n0 + i) x.o x.an = some x.res := by
      rw [only_congr hsee, r2] at r3
      exact stepR_mono r3
    have hnr : (foldF recs (fun i => listed.getD i false) 0 s0).R (n0 + i) = none := by
      have e1 := hsee (.inr (n0 + i)) r0
      simp only [S.vw, Sum.inr.injEq] at e1
      rw [← e1]; exact r4 _ (Nat.le_refl _)
    refine stepR_sound h hnr r1 hres (hobs x (List.mem_of_getElem? hix)) fun φ' a' w' h' => hK φ' a' w' ?_
    have hset : ∀ k, (listed.setIfInBounds i true).getD k false = if k = i then true else listed.getD k false := by
      intro k
      simp only [Array.getD_eq_getD_getElem?, Array.getElem?_setIfInBounds]
      by_cases e : i = k
      · subst e; simp [hsz, hi1]
      · rw [if_neg e, if_neg (Ne.symm e)]
    have heq : (foldF recs (fun i => listed.getD i false) 0 s0).app x.o x.res = foldF recs (fun k => (listed.setIfInBounds i true).getD k false) 0 s0 := by
      apply S.ext_vw
      intro L
      rw [app_vw]
      cases he : eff x L with
      | none =>
        refine foldF_agree L recs _ _ 0 s0 s0 rfl fun j y hy hye => ?_
        simp only [Nat.zero_add, hset]
        by_cases e : j = i
        · subst e; rw [hix] at hy; simp at hy; subst hy; exact absurd he hye
        · rw [if_neg e]
      | some c =>
        symm
        refine foldF_last L recs _ 0 i s0 x c hix (by simp [hset]) he fun j y hy hij hf => ?_
        simp only [Nat.zero_add, hset] at hf
        rw [if_neg (by omega)] at hf
        exact conf_writes (hgt j y hy hij hf) (by rw [he]; simp)
    rw [heq] at h'
    exact h'
  intro fuel
  induction fuel with
  | zero =>
    intro listed φ a w hsz hcnt hdown h
    have hr : Region.ready .any ops listed = [] := by
      cases hr : Region.ready .any ops listed with
      | nil => rfl
      | cons i l =>
        exfalso
        have hi : i ∈ Region.ready .any ops listed := by rw [hr]; simp
        obtain ⟨h1, h2, -⟩ := (ready_iff hsz).1 hi
        have h0 : countFalse listed.toList = 0 := by omega
        unfold countFalse at h0
        rw [List.countP_eq_zero] at h0
        have hil : i < listed.size := by omega
        have := h0 (listed[i]) (by simp)
        rw [Array.getD_eq_getD_getElem?, Array.getElem?_eq_getElem hil] at h2
        simp at h2 this
        rw [h2] at this; simp at this
    exact ⟨hr, hdone listed φ a w hsz hr h⟩
  | succ fuel ih =>
    intro listed φ a w hsz hcnt hdown h
    refine ⟨fun hr => hdone listed φ a w hsz hr h, fun i hi => ?_⟩
    refine hstep listed φ a w hsz hdown h i hi _ fun φ' a' w' h' => ?_
    obtain ⟨h1, h2, h3⟩ := (ready_iff hsz).1 hi
    have hil : i < listed.size := by omega
    have hset : ∀ k, (listed.setIfInBounds i true).getD k false = if k = i then true else listed.getD k false := by
      intro k
      simp only [Array.getD_eq_getD_getElem?, Array.getElem?_setIfInBounds]
      by_cases e : i = k
      · subst e; simp [hil]
      · rw [if_neg e, if_neg (Ne.symm e)]
    refine ih _ φ' a' w' (by simpa using hsz) ?_ ?_ h'
    · have hf : listed[i] = false := by
        rw [Array.getD_eq_getD_getElem?, Array.getElem?_eq_getElem hil] at h2; simpa using h2
      have hc : countFalse (listed.setIfInBounds i true).toList + 1 ≤ countFalse listed.toList := by
        unfold countFalse
        rw [Array.toList_setIfInBounds]
        have key : ∀ (l : List Bool) (i : Nat), l[i]? = some false → (l.set i true).countP (fun b => !b) + 1 = l.countP (fun b => !b) := by
          intro l
          induction l with
          | nil => intro i hi; simp at hi
          | cons b l ih =>
            intro i hi
            cases i with
            | zero => simp at hi; subst hi; simp
            | succ i =>
              simp at hi
              simp only [List.set_cons_succ, List.countP_cons]
              have := ih i hi
              omega
        rw [key listed.toList i (by rw [Array.getElem?_toList, Array.getElem?_eq_getElem hil, hf])]
        exact Nat.le_refl _
      omega
    · intro k j hj hkj
      rw [hset] at hj ⊢
      by_cases e : k = i
      · rw [if_pos e]
      · rw [if_neg e]
        by_cases e2 : j = i
        · subst e2
          cases hkj with
          | one ho he hb hon => rw [← hon]; exact h3 _ ho _ he hb
          | step ho he hb hon hk =>
            have := h3 _ ho _ he hb
            rw [hon] at this
            exact hdown _ _ this hk
        · rw [if_neg e2] at hj; exact hdown k j hj hkj
end

/-- A region. -/
def runRegion (P : Program) (N : Nat) (ops : Array Oper) (draw : Bool) (ans : List (Ans × Bool)) (s : S) (nr : Nat) : Option (S × List Prop) :=
  if draw then
    match runRec P N ops ops.toList ans s nr with
    | some (s', recs) => if ordOk recs recs (masks ops.toList []) 0 then some (s', recs.flatMap (·.res.obs)) else none
    | none => none
  else runSeq P N ops ops.toList ans s nr

theorem runRegion_sound {P : Program} (hmix : P.follows .mixedOrders = true) {g : G} {ops : Array Oper} {draw : Bool} {ans : List (Ans × Bool)} {s s' : S} {nr : Nat} {ob : List Prop}
    (h : runRegion P g.N ops draw ans s nr = some (s', ob)) (hob : ∀ p ∈ ob, p) (hf : s.freeFrom nr) {φ : Plc} {a : Act} {w : World} (hr : RelS g s φ a w) (id : Nat) {Q : Exit → Act → World → Prop}
    (hQ : ∀ φ' a' w', RelS g s' φ' a' w' → Q .normal a' w') : (Code.region id ops draw).wp P Q a w := by
  unfold runRegion at h
  cases draw with
  | false =>
    simp only [Bool.false_eq_true, if_false] at h
    refine wp_region ?_
    have := runSeq_sound (Q := Q) (i := 0) ops.toList ans s s' nr ob (fun j o ho => by simpa using ho) h hob hf hQ φ a w hr
    have e : (List.range ops.toList.length).map (0 + ·) = List.range ops.size := by simp
    rw [e] at this
    exact this
  | true =>
    simp only [if_true] at h
    split at h
    · rename_i s2 recs hrec
      split at h
      · rename_i hord
        simp only [Option.some.injEq, Prod.mk.injEq] at h
        obtain ⟨rfl, rfl⟩ := h
        obtain ⟨e1, e2, e3⟩ := runRec_fold ops.toList ans s s2 nr recs hrec hf
        have hanc := masks_anc (ops := ops) ops.toList [] (fun i o ho => by simpa using ho) (fun k i hk => by simp at hk)
        have hok := ordOk_ok recs (masks ops.toList []) 0 hord
        refine wp_region_any hmix ?_
        refine drawn_any (s0 := s) (n0 := nr) (recs := recs) (by simpa using e1) (fun i x hx => by
            obtain ⟨f1, f2, f0, f3, f4⟩ := e3 i x hx
            exact ⟨by simpa using f1, f2, f0, f3, f4⟩) (fun x hx p hp => hob p (by rw [List.mem_flatMap]; exact ⟨x, hx, hp⟩)) (fun i j x y hij hx hy hc => ?_) (fun i o ho e he hb => ?_) (fun φ' a' w' h' => hQ φ' a' w' (by rw [e2]; exact h'))
          ops.size _ φ a _ (by simp) ?_ ?_ ?_
        · obtain ⟨f1, -⟩ := hok j y hy
          have hx' : (recs.take (0 + j))[i]? = some x := by
            rw [List.getElem?_take, if_pos (by omega)]; exact hx
          have := confRow_ok _ 0 f1 i x hx' hc
          rw [Nat.zero_add] at this
          exact hanc j i this
        · have hi : i < recs.length := by
            rw [e1]
            have := (Array.getElem?_eq_some_iff.1 ho).1
            simpa using this
          have hx := List.getElem?_eq_getElem hi
          obtain ⟨f1, -⟩ := e3 i _ hx
          have f1' : ops[i]? = some (recs[i]).o := by simpa using f1
          rw [ho] at f1'; simp at f1'
          obtain ⟨-, f2⟩ := hok i _ hx
          have := f2 e (by rw [← f1']; exact he) hb
          omega
        · unfold countFalse
          have : (Array.replicate ops.size false).toList = List.replicate ops.size false := by simp
          rw [this, List.countP_replicate]; simp
        · intro i j hj
          simp [Array.getD_eq_getD_getElem?, Array.getElem?_replicate] at hj
          split at hj <;> simp at hj
        · have e : foldF recs (fun i => (Array.replicate ops.size false).getD i false) 0 s = s := by
            rw [foldF_congr recs _ (fun _ => false) 0 s (fun i _ => by
              simp [Array.getD_eq_getD_getElem?, Array.getElem?_replicate]
              split <;> simp)]
            have hz : ∀ (l : List Rec) (n : Nat), foldF l (fun _ => false) n s = s := by
              intro l
              induction l with
              | nil => intro n; rfl
              | cons x l ih => intro n; simp only [foldF, Bool.false_eq_true, if_false]; exact ih _
            exact hz _ _
          rw [e]
          exact hr.drew
      · simp at h
    · simp at h

end Go.VL
