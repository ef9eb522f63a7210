/- Appending: the runner's step, and that it is sound. -/
import Derived.Test.YtiacejpdgjmdfabGreatVlH
import Derived.Laws.Append
import Derived.Laws.AppendOwn
namespace Go.VL
set_option linter.unusedVariables false
set_option linter.unusedSimpArgs false
open Go

/-- The elements that are appended. -/
def elsOf (sz : Nat) (R : Nat → Option (List Ob)) : AV → Option (List (List AV) × List Prop)
  | .isl sz' es => if sz' = sz then some (es, []) else none
  | .osl r k lo len => match obIn (R r) k with
    | some ob => if ob.sz = sz then some ((ob.es.drop lo).take len, [lo + len ≤ ob.es.length]) else none
    | none => none
  | .nils => some ([], [])
  | .esl => some ([], [])
  | _ => none

/-- append, copy, min, max. -/
def opB (P : Program) (E : Nat → AV) (R : Nat → Option (List Ob)) (nr : Nat) (b : Builtin) (args : List AV) (ats : List TypeId) (ans : Ans) : Option Res :=
  match b, args, ats, ans with
  | .append, [x, y], [t, t'], .app m =>
    if t ≠ t' then none else
    match elemT P t with
    | none => none
    | some e => match P.info? e, zeroCellsOf P e with
      | some i, some z =>
        if z.length ≠ i.size ∨ i.size = 0 ∨ i.bytes = 0 then none else
        match elsOf i.size R y with
        | none => none
        | some (ys, o1) => match x with
          | .nils => some { val := .osl nr 0 0 m, upd := [(nr, [⟨i.size, ys, .live⟩])], obs := o1 ++ [m = ys.length, m * i.bytes ≤ 140737488355328] }
          | .osl r k 0 len => match R r with
            | none => none
            | some row => match obIn (some row) k with
              | none => none
              | some ob => if ob.kd = .live ∧ ob.sz = i.size ∧ nr ≠ r then
                  some { val := .osl nr 0 0 m, upd := [(nr, [⟨i.size, ob.es.take len ++ ys, .live⟩]), (r, row.set k { ob with kd := .gone })], obs := o1 ++ [len ≤ ob.es.length, m = len + ys.length, m * i.bytes ≤ 140737488355328] } else none
          | _ => none
      | _, _ => none
  | .min, [.n k x, .n k' y], _, _ => if k = k' then some { val := .n k (if y < x then y else x) } else none
  | _, _, _, _ => none

section
variable {g : G} {s : S} {φ : Plc} {a : Act} {w w' : World}

/-- An object given up. -/
theorem RelS.gone (h : RelS g s φ a w) {r k : Nat} {l : List Ob} {o : Ob} (hr : s.R r = some l) (ho : s.ob r k = some o) :
    RelS g (s.setRow r (l.set k { o with kd := .gone })) φ a w ∧
      ∀ x v, Rel w (s.ok g φ w) s.us (s.tb φ) x v → Rel w ((s.setRow r (l.set k { o with kd := .gone })).ok g φ w) (s.setRow r (l.set k { o with kd := .gone })).us ((s.setRow r (l.set k { o with kd := .gone })).tb φ) x v := by
  have hob : ∀ q j p, (s.setRow r (l.set k { o with kd := .gone })).ob q j = some p → s.ob q j = some p ∧ ¬ (q = r ∧ j = k) := by
    intro q j p hp
    rw [ob_setRow] at hp
    by_cases e : q = r
    · subst e
      rw [if_pos rfl] at hp
      unfold obIn at hp
      simp only [List.getElem?_set] at hp
      by_cases e2 : k = j
      · subst e2
        by_cases hk : k < l.length
        · simp [hk] at hp
        · simp [hk] at hp
      · rw [if_neg e2] at hp
        refine ⟨?_, fun hh => e2 hh.2.symm⟩
        unfold S.ob; rw [hr]; exact hp
    · rw [if_neg e] at hp
      exact ⟨hp, fun hh => e hh.1⟩
  have st : Step g s φ w (s.setRow r (l.set k { o with kd := .gone })) φ w := by
    refine ⟨us_setRow_of s hr (by simp), fun q j hq => ?_, fun b hl => ?_, fun _ _ _ => rfl, Nat.le_refl _⟩
    · cases hp : (s.setRow r (l.set k { o with kd := .gone })).ob q j with
      | none => right; simp [S.tb, hp]
      | some p => left; simp [S.tb, hp, (hob q j p hp).1]
    · obtain ⟨q, j, p, m, h1, h2, h3⟩ := hl
      exact .inl ⟨q, j, p, m, (hob q j p h1).1, h2, h3⟩
  refine ⟨{ toRelM := ⟨?_, ?_, ?_, h.keep, h.mlt, h.alt, st.stay h.stay, h.low⟩, env := fun t => st.rel (h.env t), defers := h.defers, tsz := h.tsz }, fun x v => st.rel⟩
  · intro q j p hp
    exact st.obj (fun b m _ => rfl) (h.obj q j p (hob q j p hp).1)
  · intro q j p q' j' p' b m m' h1 h2 h3 h4
    exact h.inj q j p q' j' p' b m m' (hob q j p h1).1 (hob q' j' p' h2).1 h3 h4
  · intro q j p b m h1 h2
    exact h.own q j p b m (hob q j p h1).1 h2

/-- A row without a place. -/
theorem RelS.virtual (h : RelS g s φ a w) {nr sz : Nat} (hnr : s.R nr = none) :
    ∃ φ', φ' nr 0 = none ∧ RelS g (s.setRow nr [⟨sz, [], .live⟩]) φ' a w := by
  have hob : ∀ q k, q ≠ nr → (s.setRow nr [⟨sz, [], .live⟩]).ob q k = s.ob q k := fun q k hq => by rw [ob_setRow, if_neg hq]
  let φ' : Plc := fun q k => if q = nr then none else φ q k
  have hne : ∀ q k, s.us q k → q ≠ nr := by
    rintro q k hq rfl; exact not_us_of_none hnr k hq
  have hobn : ∀ k o, (s.setRow nr [⟨sz, [], .live⟩]).ob nr k = some o → o = ⟨sz, [], .live⟩ := by
    intro k o ho
    rw [ob_setRow, if_pos rfl, obIn_one] at ho
    split at ho
    · simp at ho; exact ho.symm
    · simp at ho
  have st : Step g s φ w (s.setRow nr [⟨sz, [], .live⟩]) φ' w := by
    refine ⟨fun q k hq => (us_setRow _ _ _ _ _).2 (by rw [if_neg (hne q k hq)]; exact hq), fun q k hq => .inl ?_, fun b hl => ?_, fun _ _ _ => rfl, Nat.le_refl _⟩
    · simp [S.tb, hob q k (hne q k hq), φ', hne q k hq]
    · obtain ⟨q, k, o, m, h1, h2, h3⟩ := hl
      by_cases e : q = nr
      · subst e; simp [φ'] at h3
      · rw [hob q k e] at h1
        simp only [φ', if_neg e] at h3
        exact .inl ⟨q, k, o, m, h1, h2, h3⟩
  refine ⟨φ', by simp [φ'], { toRelM := ⟨?_, ?_, ?_, h.keep, h.mlt, h.alt, st.stay h.stay, h.low⟩, env := fun t => st.rel (h.env t), defers := h.defers, tsz := h.tsz }⟩
  · intro q k o ho
    by_cases e : q = nr
    · subst e
      rw [hobn k o ho]
      simp [φ', ObRel]
    · rw [hob q k e] at ho
      have := st.obj (fun b m _ => rfl) (h.obj q k o ho)
      simpa [φ', e] using this
  · intro q k o q' k' o' b m m' h1 h2 h3 h4
    have e : q ≠ nr := by rintro rfl; simp [φ'] at h3
    have e' : q' ≠ nr := by rintro rfl; simp [φ'] at h4
    rw [hob q k e] at h1
    rw [hob q' k' e'] at h2
    simp only [φ', if_neg e] at h3
    simp only [φ', if_neg e'] at h4
    exact h.inj q k o q' k' o' b m m' h1 h2 h3 h4
  · intro q k o b m h1 h2
    have e : q ≠ nr := by rintro rfl; simp [φ'] at h2
    rw [hob q k e] at h1
    simp only [φ', if_neg e] at h2
    exact h.own q k o b m h1 h2

/-- A live object's block under a new name, with new contents. -/
theorem RelS.turn (h : RelS g s φ a w) {r k b m nr : Nat} {l : List Ob} {o : Ob} (hr : s.R r = some l) (ho : s.ob r k = some o) (hk : o.kd = .live) (hp : φ r k = some (b, m))
    (hnr : s.R nr = none) (o' : Ob) (hk' : o'.kd = .live) (c : Array Value) (ty : TypeId)
    (hw : w'.heap[b]? = some (.cells c ty (0, 0))) (hsz : w'.heap.size = w.heap.size) (hother : ∀ q, q ≠ b → w'.heap[q]? = w.heap[q]?)
    (hos : w'.os = w.os) (htp : w'.tape = w.tape) (hout : w'.output = w.output) (hm : c.size = m) (hlen : ∀ e ∈ o'.es, e.length = o'.sz)
    (hc : ∀ (j : Nat) x, o'.es.flatten[j]? = some x → ∃ v, c[j]? = some v ∧ cellV v = true ∧ Rel w (s.ok g φ w) s.us (s.tb φ) x v) :
    ∃ φ', φ' nr 0 = some (b, m) ∧ RelS g ((s.setRow nr [o']).setRow r (l.set k { o with kd := .gone })) φ' a w' := by
  have hne : r ≠ nr := by rintro rfl; rw [hnr] at hr; simp at hr
  have hnus : ∀ k, ¬ s.us nr k := not_us_of_none hnr
  let s' := (s.setRow nr [o']).setRow r (l.set k { o with kd := .gone })
  let φ' : Plc := φ.set nr 0 (some (b, m))
  have hob : ∀ q j p, s'.ob q j = some p → (q = nr ∧ j = 0 ∧ p = o') ∨ (q ≠ nr ∧ s.ob q j = some p ∧ ¬ (q = r ∧ j = k)) := by
    intro q j p hq
    rw [ob_setRow] at hq
    by_cases e : q = r
    · subst e
      rw [if_pos rfl] at hq
      unfold obIn at hq
      simp only [List.getElem?_set] at hq
      by_cases e2 : k = j
      · subst e2
        by_cases hk : k < l.length <;> simp [hk] at hq
      · rw [if_neg e2] at hq
        refine .inr ⟨hne, ?_, fun hh => e2 hh.2.symm⟩
        unfold S.ob; rw [hr]; exact hq
    · rw [if_neg e, ob_setRow] at hq
      by_cases e2 : q = nr
      · subst e2
        rw [if_pos rfl, obIn_one] at hq
        split at hq
        · rename_i h0; simp at hq; exact .inl ⟨rfl, h0.1, hq.symm⟩
        · simp at hq
      · rw [if_neg e2] at hq
        exact .inr ⟨e2, hq, fun hh => e hh.1⟩
  have hφ : ∀ q j, q ≠ nr → φ' q j = φ q j := fun q j hq => by simp [φ', Plc.set, hq]
  have hφn : φ' nr 0 = some (b, m) := by simp [φ', Plc.set]
  have hlive : s.liveAt φ b := ⟨r, k, o, m, ho, hk, hp⟩
  have hus : ∀ q j, s.us q j → s'.us q j := fun q j hq => by
    have e : q ≠ nr := fun e => hnus j (e ▸ hq)
    rw [us_setRow, us_setRow, if_neg e]
    by_cases e2 : q = r
    · subst e2; rw [if_pos rfl]; simpa [S.us, hr] using hq
    · rw [if_neg e2]; exact hq
  have st : Step g s φ w s' φ' w' := by
    refine ⟨hus, fun q j hq => ?_, fun q hl => ?_, fun q hq hl => hother q fun e => hl (e ▸ hlive), Nat.le_of_eq hsz.symm⟩
    · have hq' : q ≠ nr := fun e => hnus j (e ▸ hq)
      cases hpp : s'.ob q j with
      | none => right; simp [S.tb, hpp]
      | some p =>
        left
        rcases hob q j p hpp with ⟨e, -⟩ | ⟨-, e2, -⟩
        · exact absurd e hq'
        · simp [S.tb, hpp, e2, hφ q j hq']
    · obtain ⟨q', j, p, m', h1, h2, h3⟩ := hl
      rcases hob q' j p h1 with ⟨rfl, rfl, rfl⟩ | ⟨e1, e2, -⟩
      · rw [hφn] at h3; simp at h3; exact .inl (h3.1 ▸ hlive)
      · rw [hφ q' j e1] at h3; exact .inl ⟨q', j, p, m', e2, h2, h3⟩
  refine ⟨φ', hφn, { toRelM := ⟨?_, ?_, ?_, ?_, h.mlt, h.alt, st.stay h.stay, h.low⟩, env := fun t => st.rel (h.env t), defers := h.defers, tsz := h.tsz }⟩
  · intro q j p hpp
    rcases hob q j p hpp with ⟨rfl, rfl, rfl⟩ | ⟨e1, e2, e3⟩
    · rw [hφn]
      exact ⟨c, ty, hw, hm, hlen, fun i x hx => let ⟨v, f1, f2, f3⟩ := hc i x hx; ⟨v, f1, f2, st.rel f3⟩⟩
    · rw [hφ q j e1]
      refine st.obj (fun b' m' hm' => hother b' ?_) (h.obj q j p e2)
      rintro rfl
      exact e3 (h.inj q j p r k o b' m' m e2 ho hm' hp)
  · intro q j p q' j' p' b' m1 m2 h1 h2 h3 h4
    rcases hob q j p h1 with ⟨rfl, rfl, rfl⟩ | ⟨e1, e2, e3⟩ <;> rcases hob q' j' p' h2 with ⟨rfl, rfl, rfl⟩ | ⟨e1', e2', e3'⟩
    · exact ⟨rfl, rfl⟩
    · rw [hφn] at h3; simp at h3
      rw [hφ q' j' e1'] at h4
      obtain ⟨rfl, rfl⟩ := h3
      exact absurd (h.inj q' j' p' r k o b m2 m e2' ho h4 hp) e3'
    · rw [hφn] at h4; simp at h4
      rw [hφ q j e1] at h3
      obtain ⟨rfl, rfl⟩ := h4
      exact absurd (h.inj q j p r k o b m1 m e2 ho h3 hp) e3
    · rw [hφ q j e1] at h3; rw [hφ q' j' e1'] at h4
      exact h.inj q j p q' j' p' b' m1 m2 e2 e2' h3 h4
  · intro q j p b' m' h1 h2
    rcases hob q j p h1 with ⟨rfl, rfl, rfl⟩ | ⟨e1, e2, -⟩
    · rw [hφn] at h2; simp at h2
      rw [← h2.1]
      exact h.own r k o b m ho hp
    · rw [hφ q j e1] at h2; exact h.own q j p b' m' e2 h2
  · refine h.keep.step hos htp hout (Nat.le_of_eq hsz.symm) fun b' hb' hm' => hother b' ?_
    rintro rfl
    rcases h.own r k o b' m ho hp with h1 | h1
    · omega
    · exact hm' h1

/-- The values of readable elements. -/
theorem Rd.vals {ok : Nat → Prop} {us : Us} {tb : Tb} {blk o sz : Nat} {es : List (List AV)} (h : Rd w ok us tb blk o sz es) :
    ∃ vs : List Value, vs.length = es.length * sz ∧ (∀ (j : Nat) u, vs[j]? = some u → w.cell? ((⟨blk, o, none⟩ : Addr).add j) = some u) ∧ (∀ u ∈ vs, u.oneCell' = true) ∧
      ∀ (j : Nat) x u, es.flatten[j]? = some x → vs[j]? = some u → Rel w ok us tb x u := by
  have hfl : es.flatten.length = es.length * sz := by
    have : ∀ (es : List (List AV)), (∀ e ∈ es, e.length = sz) → es.flatten.length = es.length * sz := by
      intro es
      induction es with
      | nil => intro _; simp
      | cons e es ih =>
        intro hh
        rw [List.flatten_cons, List.length_append, ih fun x hx => hh x (by simp [hx]), hh e (by simp), List.length_cons, Nat.add_mul]; omega
    exact this es h.1
  have hx : ∀ i, i < es.length * sz → ∃ v, ∀ x, es.flatten[i]? = some x → w.cell? ⟨blk, o + i, none⟩ = some v ∧ cellV v = true ∧ Rel w ok us tb x v := by
    intro i hi
    have hj := List.getElem?_eq_getElem (l := es.flatten) (i := i) (by omega)
    obtain ⟨v, h1⟩ := h.2 i _ hj
    exact ⟨v, fun x hx => by rw [hj] at hx; simp at hx; subst hx; exact h1⟩
  let vs : List Value := (List.range (es.length * sz)).map fun i => if hi : i < es.length * sz then (hx i hi).choose else undef
  have hvl : vs.length = es.length * sz := by simp [vs]
  have hat : ∀ (i : Nat) u x, vs[i]? = some u → es.flatten[i]? = some x → w.cell? ⟨blk, o + i, none⟩ = some u ∧ cellV u = true ∧ Rel w ok us tb x u := by
    intro i u x hu hxx
    have hi : i < es.length * sz := by
      rcases Nat.lt_or_ge i vs.length with h' | h'
      · omega
      · rw [List.getElem?_eq_none h'] at hu; simp at hu
    simp only [vs, List.getElem?_map, List.getElem?_range hi, Option.map_some, dif_pos hi, Option.some.injEq] at hu
    subst hu
    exact (hx i hi).choose_spec x hxx
  have hex : ∀ (i : Nat) u, vs[i]? = some u → ∃ x, es.flatten[i]? = some x := by
    intro i u hu
    have hi : i < es.flatten.length := by
      rcases Nat.lt_or_ge i vs.length with h' | h'
      · omega
      · rw [List.getElem?_eq_none h'] at hu; simp at hu
    exact ⟨_, List.getElem?_eq_getElem hi⟩
  refine ⟨vs, hvl, fun j u hu => ?_, fun u hu => ?_, fun j x u hx' hu => (hat j u x hu hx').2.2⟩
  · obtain ⟨x, hxx⟩ := hex j u hu
    rw [addr_add]; exact (hat j u x hu hxx).1
  · obtain ⟨j, hj⟩ := List.getElem?_of_mem hu
    obtain ⟨x, hxx⟩ := hex j u hj
    exact (hat j u x hj hxx).2.1

theorem flatten_app_at {es ys : List (List AV)} {sz : Nat} {xs news : List Value} (hx : xs.length = es.length * sz) (he : ∀ e ∈ es, e.length = sz) {j : Nat} {x : AV} (h : (es ++ ys).flatten[j]? = some x)
    {ok : Nat → Prop} {us : Us} {tb : Tb} (h1 : ∀ (j : Nat) x u, es.flatten[j]? = some x → xs[j]? = some u → Rel w ok us tb x u) (h2 : ∀ (j : Nat) x u, ys.flatten[j]? = some x → news[j]? = some u → Rel w ok us tb x u)
    {u : Value} (hu : (xs ++ news)[j]? = some u) : Rel w ok us tb x u := by
  have hfl : es.flatten.length = es.length * sz := by
    have : ∀ (es : List (List AV)), (∀ e ∈ es, e.length = sz) → es.flatten.length = es.length * sz := by
      intro es
      induction es with
      | nil => intro _; simp
      | cons e es ih =>
        intro hh
        rw [List.flatten_cons, List.length_append, ih fun x hx => hh x (by simp [hx]), hh e (by simp), List.length_cons, Nat.add_mul]; omega
    exact this es he
  rw [List.flatten_append, List.getElem?_append] at h
  rw [List.getElem?_append] at hu
  by_cases hj : j < es.flatten.length
  · rw [if_pos hj] at h
    rw [if_pos (by omega)] at hu
    exact h1 j x u h hu
  · rw [if_neg hj] at h
    rw [if_neg (by omega)] at hu
    rw [hfl] at h
    rw [hx] at hu
    exact h2 _ x u h hu

variable {P : Program}

/-- What is appended, as a value. -/
theorem elsOf_ok (h : RelS g s φ a w) {sz : Nat} {x : AV} {ys : List (List AV)} {ob : List Prop} (he : elsOf sz s.R x = some (ys, ob)) (hob : ∀ p ∈ ob, p) {v : Value} (hv : Rel w (s.ok g φ w) s.us (s.tb φ) x v) :
    ∃ A c, v = .slice A ys.length c ∧ (∀ e ∈ ys, e.length = sz) ∧ (ys.length = 0 ∨ ∃ blk off, A = some ⟨blk, off, none⟩ ∧ Rd w (s.ok g φ w) s.us (s.tb φ) blk off sz ys) := by
  cases x with
  | isl sz' es =>
    simp only [elsOf] at he
    split at he
    · rename_i hs
      subst hs
      simp only [Option.some.injEq, Prod.mk.injEq] at he
      obtain ⟨rfl, rfl⟩ := he
      rcases hv.isl_inv with ⟨rfl, A, c, rfl, -⟩ | ⟨blk, off, c, -, rfl, -, hrd⟩
      · exact ⟨A, c, rfl, by simp, .inl rfl⟩
      · exact ⟨_, c, rfl, hrd.1, .inr ⟨blk, off, rfl, hrd⟩⟩
    · simp at he
  | osl r k lo len =>
    simp only [elsOf] at he
    split at he
    · rename_i ob' hob'
      split at he
      · rename_i hs
        simp only [Option.some.injEq, Prod.mk.injEq] at he
        obtain ⟨rfl, rfl⟩ := he
        have hfit : lo + len ≤ ob'.es.length := hob _ (by simp)
        have ho : s.ob r k = some ob' := hob'
        have hrel := h.obj r k ob' ho
        have hl : ((ob'.es.drop lo).take len).length = len := by simp; omega
        rcases hv.osl_inv (tb_of ho) with ⟨-, rfl, rfl, rfl⟩ | ⟨b, m, A, c, hp, rfl, hlc, -, hm⟩
        · exact ⟨none, 0, by simp, by simp, .inl (by simp)⟩
        · rw [hp] at hrel
          have hrd := hrel.rd
          subst hs
          have hrd' := take_drop_rd hrd lo len (by omega)
          refine ⟨A, c, by rw [hl], hrd'.1, ?_⟩
          rcases hm with rfl | ⟨rfl, -⟩
          · left; rw [hl]; omega
          · right
            rw [Nat.zero_add] at hrd'
            exact ⟨b, _, rfl, hrd'⟩
      · simp at he
    · simp at he
  | nils =>
    simp only [elsOf, Option.some.injEq, Prod.mk.injEq] at he
    obtain ⟨rfl, rfl⟩ := he
    rw [hv.nils_inv]
    exact ⟨none, 0, rfl, by simp, .inl rfl⟩
  | esl =>
    simp only [elsOf, Option.some.injEq, Prod.mk.injEq] at he
    obtain ⟨rfl, rfl⟩ := he
    obtain ⟨A, c, rfl⟩ := hv.esl_inv
    exact ⟨some A, c, rfl, by simp, .inl rfl⟩
  | _ => simp [elsOf] at he

theorem run_append_zero {t ty e : TypeId} {i : TypeInfo} (ht : P.underlying t = some (.slice e)) (hi : P.info? e = some i) (B : Option Addr) (len cap : Nat) (hcap : len ≤ cap) (A : Option Addr) (c : Nat) :
    (Builtin.append_ #[t, t] ty #[.slice B len cap, .slice A 0 c]).run P w = .ok (.slice B len cap) w := by
  cases A <;> cases B <;> simp [Builtin.append_, run_underlying ht, sizeOf, typeInfo, hi, Builtin.lenOf, hcap, Builtin.firstCells, loadCells, loadCellsFrom, storeCells]

theorem run_append_room' (t ty e : TypeId) (i : TypeInfo) (ht : P.underlying t = some (.slice e)) (hi : P.info? e = some i)
    (g sLen sCap : Nat) (cur : Array Value) (e' : TypeId) (hg : w.heap[g]? = some (.cells cur e' (0, 0)))
    (a : Addr) (m c : Nat) (news : List Value) (hl : news.length = m * i.size) (hnews : ∀ j u, news[j]? = some u → w.cell? (a.add j) = some u) (h1 : ∀ u ∈ news, u.oneCell' = true)
    (hroom : sLen + m ≤ sCap) (hfit : sLen * i.size + news.length ≤ cur.size) :
    (Builtin.append_ #[t, t] ty #[.slice (some ⟨g, 0, none⟩) sLen sCap, .slice (some a) m c]).run P w =
      .ok (.slice (some ⟨g, 0, none⟩) (sLen + m) sCap) (w.setRow g (cur.toList.take (sLen * i.size) ++ news ++ cur.toList.drop (sLen * i.size + news.length)).toArray) := by
  have hf := run_firstCells_some (P := P) w i.size m a m c news hl hnews
  have hst := run_storeCells_at P g (sLen * i.size) e' news 0 cur w hg (by simpa using hfit) h1
  simp only [Nat.add_zero] at hst
  simp [Builtin.append_, run_underlying ht, sizeOf, typeInfo, hi, Builtin.lenOf, hroom, hf, Addr.add_lit, hst]

theorem fin_append_new {nr : Nat} {e : TypeId} {v : Value} {i : TypeInfo} {m : Nat} (h : RelS g s φ a w) (hnr : s.R nr = none) {es : List (List AV)} (hlen : ∀ x ∈ es, x.length = i.size) (hm : m = es.length)
    {vals : List Value} {zc : Array Value} {cap : Nat} (hvl : vals.length = es.length * i.size) (hone : ∀ u ∈ vals, u.oneCell' = true) (hzc : zc.size = (cap - m) * i.size) (hcap : m ≤ cap) (hc63 : cap < 9223372036854775808)
    (hrel : ∀ (j : Nat) x u, es.flatten[j]? = some x → vals[j]? = some u → Rel w (s.ok g φ w) s.us (s.tb φ) x u)
    (hv : v = .slice (some ⟨w.heap.size, 0, none⟩) m cap) :
    ∃ φ', RelS g (s.setRow nr [⟨i.size, es, .live⟩]) φ' a (w.drew.alloc (.cells (vals.toArray ++ zc) e)) ∧
      Rel (w.drew.alloc (.cells (vals.toArray ++ zc) e)) ((s.setRow nr [⟨i.size, es, .live⟩]).ok g φ' (w.drew.alloc (.cells (vals.toArray ++ zc) e))) (s.setRow nr [⟨i.size, es, .live⟩]).us ((s.setRow nr [⟨i.size, es, .live⟩]).tb φ') (.osl nr 0 0 m) v := by
  have hd := h.drew
  have hfl : es.flatten.length = es.length * i.size := by
    have : ∀ (es : List (List AV)), (∀ e ∈ es, e.length = i.size) → es.flatten.length = es.length * i.size := by
      intro es
      induction es with
      | nil => intro _; simp
      | cons e es ih =>
        intro hh
        rw [List.flatten_cons, List.length_append, ih fun x hx => hh x (by simp [hx]), hh e (by simp), List.length_cons, Nat.add_mul]; omega
    exact this es hlen
  obtain ⟨φ', p1, p2, -⟩ := hd.alloc hnr ⟨i.size, es, .live⟩ rfl (vals.toArray ++ zc) e hlen (fun j x hx => by
    have hj : j < vals.length := by
      rcases Nat.lt_or_ge j es.flatten.length with h' | h'
      · omega
      · rw [List.getElem?_eq_none h'] at hx; simp at hx
    refine ⟨vals[j], ?_, hone _ (List.getElem_mem hj), ?_⟩
    · rw [Array.getElem?_append_left (by simpa using hj)]
      simp [hj]
    · exact (hrel j x _ hx (List.getElem?_eq_getElem hj)).drew)
  refine ⟨φ', p2, ?_⟩
  subst hv
  have ho : (s.setRow nr [⟨i.size, es, .live⟩]).ob nr 0 = some ⟨i.size, es, .live⟩ := by rw [ob_setRow, if_pos rfl, obIn_one]; simp
  refine Rel.osl (sz := i.size) (blk := w.heap.size) (m := (vals.toArray ++ zc).size) ((us_setRow _ _ _ _ _).2 (by simp)) ?_ hcap hc63 (.inr ⟨by simp, ?_⟩)
  · rw [tb_of ho, p1]; rfl
  · simp only [Array.size_append, List.size_toArray, hzc, hvl, Nat.zero_add]
    rw [← hm, ← Nat.add_mul]
    congr 1; omega


section
variable {o : Oper} {ans : Ans} {nr : Nat} {res : Res}

theorem opB_append (h : RelS g s φ a w) (hnr : s.R nr = none) {x y : AV} {xv yv : Value} {t t' : TypeId} {m : Nat} {ty : TypeId} (hres : opB P s.E s.R nr .append [x, y] [t, t'] (.app m) = some res) (hobs : ∀ p ∈ res.obs, p)
    (hx : Rel w (s.ok g φ w) s.us (s.tb φ) x xv) (hy : Rel w (s.ok g φ w) s.us (s.tb φ) y yv) :
    ∃ v w' φ', (Builtin.append_ #[t, t'] ty #[xv, yv]).run P w = .ok v w' ∧ RelS g (s.upds res.upd) φ' a w' ∧ Rel w' ((s.upds res.upd).ok g φ' w') (s.upds res.upd).us ((s.upds res.upd).tb φ') res.val v := by
  simp only [opB] at hres
  split at hres
  · simp at hres
  · rename_i htt
    have htt : t = t' := by simpa using htt
    subst htt
    split at hres
    · simp at hres
    · rename_i e he
      have hu := elemT_eq he
      split at hres
      · rename_i i z hi hz
        obtain ⟨i', zv, hi', hzz, ez, -⟩ := zero_cells hz
        rw [hi] at hi'; simp at hi'; subst hi'
        split at hres
        · simp at hres
        · rename_i hc
          simp only [not_or, Decidable.not_not] at hc
          obtain ⟨hzl, hpos, hby⟩ := hc
          have hzs : zv.cells.size = i.size := by rw [← hzl, ez]; simp
          split at hres
          · simp at hres
          · rename_i ys o1 hels
            split at hres
            · -- from nil
              simp only [Option.some.injEq] at hres
              subst hres
              have hm : m = ys.length := hobs _ (by simp)
              have h47 : m * i.bytes ≤ 140737488355328 := hobs _ (by simp)
              obtain ⟨A, c, rfl, hlen, hyy⟩ := elsOf_ok h hels (fun p hp => hobs p (by simp [hp])) hy
              rw [hx.nils_inv]
              by_cases h0 : ys.length = 0
              · have : ys = [] := List.length_eq_zero_iff.1 h0
                subst this
                obtain ⟨φ', p1, p2⟩ := h.virtual (sz := i.size) hnr
                refine ⟨_, w, φ', run_append_zero hu hi none 0 0 (Nat.le_refl _) A c, p2, ?_⟩
                subst hm
                have ho : (s.setRow nr [⟨i.size, [], .live⟩]).ob nr 0 = some ⟨i.size, [], .live⟩ := by rw [ob_setRow, if_pos rfl, obIn_one]; simp
                exact .oslVirt (sz := i.size) ((us_setRow _ _ _ _ _).2 (by simp)) (by show (s.setRow nr [⟨i.size, [], .live⟩]).tb φ' nr 0 = _; rw [tb_of ho, p1])
              · rcases hyy with h00 | ⟨blk, off, rfl, hrd⟩
                · exact absurd h00 h0
                · obtain ⟨vs, v1, v2, v3, v4⟩ := hrd.vals
                  have hb1 : ys.length * 1 ≤ ys.length * i.bytes := Nat.mul_le_mul_left _ (by omega)
                  rw [hm] at h47
                  have hrun := run_append_nil (P := P) w t ty e i zv hu hi hzz ⟨blk, off, none⟩ ys.length c vs v1 v2 (by omega) (by omega) (by omega)
                  have hge := grownCap_ge w ys.length 0 e
                  have hle := grownCap_le_maxLen w ys.length 0 e (by simp only [maxLen]; omega)
                  simp only [maxLen] at hle
                  obtain ⟨φ', q1, q2⟩ := fin_append_new (e := e) (i := i) (m := m) (vals := vs) (zc := Builtin.zeroCells zv.cells (grownCap w ys.length 0 e - ys.length)) (cap := grownCap w ys.length 0 e) h hnr hlen hm v1 v3
                    (by rw [size_zeroCells, hzs, hm]) (by omega) (by omega) v4 rfl
                  refine ⟨.slice (some ⟨w.heap.size, 0, none⟩) m (grownCap w ys.length 0 e), _, φ', ?_, q1, q2⟩
                  rw [hm]; exact hrun
            · -- to a slice of one's own
              rename_i r k len
              split at hres
              · simp at hres
              · rename_i row hrow
                split at hres
                · simp at hres
                · rename_i ob hob
                  split at hres
                  · rename_i hcd
                    obtain ⟨hkd, hsz, hne⟩ := hcd
                    simp only [Option.some.injEq] at hres
                    subst hres
                    have ho : s.ob r k = some ob := by unfold S.ob; rw [hrow]; exact hob
                    have hfit : len ≤ ob.es.length := hobs _ (by simp)
                    have hm : m = len + ys.length := hobs _ (by simp)
                    have h47 : m * i.bytes ≤ 140737488355328 := hobs _ (by simp)
                    have hb1 : m * 1 ≤ m * i.bytes := Nat.mul_le_mul_left _ (by omega)
                    obtain ⟨A, c, rfl, hlen, hyy⟩ := elsOf_ok h hels (fun p hp => hobs p (by simp [hp])) hy
                    have hrel := h.obj r k ob ho
                    have htl : (ob.es.take len).length = len := by simp; omega
                    have hrow' : (s.setRow nr [⟨i.size, ob.es.take len ++ ys, .live⟩]).R r = some row := by simp [S.setRow, Ne.symm hne, hrow]
                    have hon : ∀ φ' : Plc, ((s.setRow nr [⟨i.size, ob.es.take len ++ ys, .live⟩]).setRow r (row.set k { ob with kd := .gone })).ob nr 0 = some ⟨i.size, ob.es.take len ++ ys, .live⟩ := by
                      intro _
                      rw [ob_setRow, if_neg hne, ob_setRow, if_pos rfl, obIn_one]; simp
                    have husn : ((s.setRow nr [⟨i.size, ob.es.take len ++ ys, .live⟩]).setRow r (row.set k { ob with kd := .gone })).us nr 0 := by rw [us_setRow, if_neg hne, us_setRow, if_pos rfl]; simp
                    show ∃ v w' φ', _ ∧ RelS g ((s.setRow nr [⟨i.size, ob.es.take len ++ ys, .live⟩]).setRow r (row.set k { ob with kd := .gone })) φ' a w' ∧ _
                    rcases hx.osl_inv (tb_of ho) with ⟨hp, -, rfl, rfl⟩ | ⟨b, M, A', cp, hp, rfl, hlc, hc9, hmm⟩
                    · -- no place yet
                      rw [hp] at hrel
                      simp only [ObRel] at hrel
                      have hes : ob.es.take 0 ++ ys = ys := by simp
                      by_cases h0 : ys.length = 0
                      · have : ys = [] := List.length_eq_zero_iff.1 h0
                        subst this
                        obtain ⟨φ', p1, p2⟩ := h.virtual (sz := i.size) hnr
                        have ho2 : (s.setRow nr [⟨i.size, [], .live⟩]).ob r k = some ob := by rw [ob_setRow, if_neg (Ne.symm hne)]; exact ho
                        have hrow2 : (s.setRow nr [⟨i.size, [], .live⟩]).R r = some row := by simp [S.setRow, Ne.symm hne, hrow]
                        obtain ⟨p3, -⟩ := p2.gone hrow2 ho2
                        have hes2 : ob.es.take 0 ++ ([] : List (List AV)) = [] := by simp
                        rw [hes2]
                        rw [hes2] at husn hon
                        refine ⟨_, w, φ', run_append_zero hu hi none 0 0 (Nat.le_refl _) A c, p3, ?_⟩
                        subst hm
                        exact .oslVirt (sz := i.size) husn ((tb_of (hon φ')).trans (by rw [p1]))
                      · rcases hyy with h00 | ⟨blk, off, rfl, hrd⟩
                        · exact absurd h00 h0
                        · obtain ⟨vs, v1, v2, v3, v4⟩ := hrd.vals
                          have hm' : m = ys.length := by omega
                          have hrun := run_append_nil (P := P) w t ty e i zv hu hi hzz ⟨blk, off, none⟩ ys.length c vs v1 v2 (by omega) (by omega) (by rw [← hm']; omega)
                          have hge := grownCap_ge w ys.length 0 e
                          have hle := grownCap_le_maxLen w ys.length 0 e (by simp only [maxLen]; omega)
                          simp only [maxLen] at hle
                          obtain ⟨φ', q1, q2⟩ := fin_append_new (e := e) (i := i) (m := m) (vals := vs) (zc := Builtin.zeroCells zv.cells (grownCap w ys.length 0 e - ys.length)) (cap := grownCap w ys.length 0 e) h hnr hlen hm' v1 v3
                            (by rw [size_zeroCells, hzs, hm']) (by omega) (by omega) v4 rfl
                          rw [hes]
                          rw [hes] at hrow'
                          have ho2 : (s.setRow nr [⟨i.size, ys, .live⟩]).ob r k = some ob := by rw [ob_setRow, if_neg (Ne.symm hne)]; exact ho
                          obtain ⟨p3, p4⟩ := q1.gone hrow' ho2
                          refine ⟨.slice (some ⟨w.heap.size, 0, none⟩) m (grownCap w ys.length 0 e), _, φ', ?_, p3, p4 _ _ q2⟩
                          rw [hm']; exact hrun
                    · -- with a place
                      rw [hp] at hrel
                      have hrel' := hrel
                      obtain ⟨ca, ty', g1, g2, g3, g4⟩ := hrel
                      have hle0 : ∀ e ∈ ob.es.take len ++ ys, e.length = i.size := by
                        intro e' he'
                        rw [List.mem_append] at he'
                        rcases he' with h' | h'
                        · rw [g3 e' (List.mem_of_mem_take h'), hsz]
                        · exact hlen e' h'
                      have hfl : ∀ (es : List (List AV)), (∀ e ∈ es, e.length = i.size) → es.flatten.length = es.length * i.size := by
                        intro es
                        induction es with
                        | nil => intro _; simp
                        | cons e es ih =>
                          intro hh
                          rw [List.flatten_cons, List.length_append, ih fun x hx => hh x (by simp [hx]), hh e (by simp), List.length_cons, Nat.add_mul]; omega
                      by_cases h0 : ys.length = 0
                      · -- nothing is added
                        have : ys = [] := List.length_eq_zero_iff.1 h0
                        subst this
                        have hes2 : ob.es.take len ++ ([] : List (List AV)) = ob.es.take len := by simp
                        rw [hes2]
                        rw [hes2] at husn hon hle0
                        obtain ⟨φ', p1, p2⟩ := h.turn hrow ho hkd hp hnr ⟨i.size, ob.es.take len, .live⟩ rfl ca ty' g1 rfl (fun _ _ => rfl) rfl rfl rfl g2 hle0 (fun j q hq => by
                          refine g4 j q ?_
                          have hj : j < (ob.es.take len).flatten.length := by
                            rcases Nat.lt_or_ge j (ob.es.take len).flatten.length with h' | h'
                            · exact h'
                            · rw [List.getElem?_eq_none h'] at hq; simp at hq
                          have hsp : ob.es.flatten = (ob.es.take len).flatten ++ (ob.es.drop len).flatten := by rw [← List.flatten_append, List.take_append_drop]
                          rw [hsp, List.getElem?_append_left hj]; exact hq)
                        refine ⟨_, w, φ', run_append_zero hu hi A' len cp hlc A c, p2, ?_⟩
                        have hm' : m = len := by simpa using hm
                        subst hm'
                        refine .osl (sz := i.size) (blk := b) (m := M) husn ((tb_of (hon φ')).trans (by rw [p1])) hlc hc9 ?_
                        rcases hmm with h' | ⟨h1, h2⟩
                        · exact .inl h'
                        · right; rw [← hsz]; exact ⟨h1, h2⟩
                      · rcases hyy with h00 | ⟨blk, off, rfl, hrd⟩
                        · exact absurd h00 h0
                        · obtain ⟨vs, v1, v2, v3, v4⟩ := hrd.vals
                          -- the old values
                          have hold : ∃ xs : List Value, xs.length = len * i.size ∧ (∀ (j : Nat) u, xs[j]? = some u → w.cell? ((⟨b, 0, none⟩ : Addr).add j) = some u) ∧ (∀ u ∈ xs, u.oneCell' = true) ∧
                              ∀ (j : Nat) x u, (ob.es.take len).flatten[j]? = some x → xs[j]? = some u → Rel w (s.ok g φ w) s.us (s.tb φ) x u := by
                            have hrd0 := take_drop_rd hrel'.rd 0 len (by omega)
                            simp only [List.drop_zero, Nat.zero_mul, Nat.add_zero] at hrd0
                            obtain ⟨xs, x1, x2, x3, x4⟩ := hrd0.vals
                            exact ⟨xs, by rw [x1, htl, hsz], x2, x3, x4⟩
                          obtain ⟨xs, x1, x2, x3, x4⟩ := hold
                          have hxl : xs.length = (ob.es.take len).length * i.size := by rw [htl]; exact x1
                          have hrelApp : ∀ (j : Nat) x u, (ob.es.take len ++ ys).flatten[j]? = some x → (xs ++ vs)[j]? = some u → Rel w (s.ok g φ w) s.us (s.tb φ) x u :=
                            fun j x u hjx hju => flatten_app_at hxl (fun e' he' => by rw [g3 e' (List.mem_of_mem_take he'), hsz]) hjx x4 v4 hju
                          have hcnt : (ob.es.take len ++ ys).length = m := by rw [List.length_append, htl]; exact hm.symm
                          by_cases hroom : len + ys.length ≤ cp
                          · -- in place
                            rcases hmm with rfl | ⟨rfl, hM⟩
                            · omega
                            · rw [Nat.zero_mul] at *
                              rw [Nat.zero_add] at hM
                              have hspace : len * i.size + vs.length ≤ ca.size := by
                                rw [v1, g2, ← hM, hsz, ← Nat.add_mul]; exact Nat.mul_le_mul_right _ hroom
                              have hrun := run_append_room' (P := P) (w := w) t ty e i hu hi b len cp ca ty' g1 ⟨blk, off, none⟩ ys.length c vs v1 v2 v3 hroom hspace
                              have hszs : (w.setRow b (ca.toList.take (len * i.size) ++ vs ++ ca.toList.drop (len * i.size + vs.length)).toArray).heap.size = w.heap.size := size_setRow _ _ _
                              have hxs : xs = ca.toList.take (len * i.size) := by
                                apply List.ext_getElem?
                                intro j
                                rw [List.getElem?_take]
                                by_cases hj : j < len * i.size
                                · rw [if_pos hj]
                                  have hj' : j < xs.length := by omega
                                  have := x2 j _ (List.getElem?_eq_getElem hj')
                                  rw [addr_add, cell_of_row w b (0 + j) ca ty' (0, 0) g1, Nat.zero_add] at this
                                  rw [List.getElem?_eq_getElem hj', ← this, Array.getElem?_toList]
                                · rw [if_neg hj, List.getElem?_eq_none (by omega)]
                              obtain ⟨φ', p1, p2⟩ := h.turn hrow ho hkd hp hnr ⟨i.size, ob.es.take len ++ ys, .live⟩ rfl _ ty' (setRow_heap w b ca _ ty' _ g1) hszs (fun q hq => setRow_other w b q _ hq) rfl rfl rfl
                                (by rw [← g2]; simp; omega) hle0 (fun j q hq => by
                                  have hj : j < (xs ++ vs).length := by
                                    have : j < (ob.es.take len ++ ys).flatten.length := by
                                      rcases Nat.lt_or_ge j (ob.es.take len ++ ys).flatten.length with h' | h'
                                      · exact h'
                                      · rw [List.getElem?_eq_none h'] at hq; simp at hq
                                    rw [hfl _ hle0, hcnt] at this
                                    rw [List.length_append, x1, v1, ← Nat.add_mul, ← hm]; exact this
                                  refine ⟨(xs ++ vs)[j], ?_, ?_, hrelApp j q _ hq (List.getElem?_eq_getElem hj)⟩
                                  · rw [List.getElem?_toArray, List.getElem?_append_left (by rw [← hxs]; exact hj), ← hxs]
                                    exact List.getElem?_eq_getElem hj
                                  · have := List.getElem_mem hj
                                    rw [List.mem_append] at this
                                    rcases this with h' | h'
                                    · exact x3 _ h'
                                    · exact v3 _ h')
                              refine ⟨_, _, φ', hrun, p2, ?_⟩
                              rw [← hm]
                              refine .osl (sz := i.size) (blk := b) (m := M) husn ((tb_of (hon φ')).trans (by rw [p1])) (by omega) hc9 (.inr ⟨by simp, ?_⟩)
                              rw [Nat.zero_add, ← hsz]; exact hM
                          · -- a new place
                            have hA : ∃ ad : Addr, (A' = some ad ∧ ∀ (j : Nat) u, xs[j]? = some u → w.cell? (ad.add j) = some u) ∨ (A' = none ∧ len = 0 ∧ cp = 0) := by
                              cases A' with
                              | none =>
                                refine ⟨⟨0, 0, none⟩, .inr ⟨rfl, ?_⟩⟩
                                rcases hmm with h' | ⟨h', -⟩
                                · omega
                                · simp at h'
                              | some ad =>
                                refine ⟨ad, .inl ⟨rfl, ?_⟩⟩
                                rcases hmm with h' | ⟨h', -⟩
                                · have : len = 0 := by omega
                                  have : xs = [] := List.length_eq_zero_iff.1 (by rw [x1, this]; simp)
                                  intro j u hj
                                  rw [this] at hj; simp at hj
                                · simp at h'; subst h'; exact x2
                            have hge := grownCap_ge w (len + ys.length) cp e
                            have hle := grownCap_le_maxLen w (len + ys.length) cp e (by simp only [maxLen]; omega)
                            simp only [maxLen] at hle
                            have hrun : (Builtin.append_ #[t, t] ty #[.slice A' len cp, .slice (some ⟨blk, off, none⟩) ys.length c]).run P w = .ok (.slice (some ⟨w.heap.size, 0, none⟩) (len + ys.length) (grownCap w (len + ys.length) cp e))
                                (w.drew.alloc (.cells ((xs ++ vs).toArray ++ Builtin.zeroCells zv.cells (grownCap w (len + ys.length) cp e - (len + ys.length))) e)) := by
                              have happ : (xs ++ vs).toArray = xs.toArray ++ vs.toArray := by apply Array.ext'; simp
                              rw [happ]
                              obtain ⟨ad, ⟨rfl, had⟩ | ⟨rfl, hl0, hc0⟩⟩ := hA
                              · exact run_append_grow (P := P) w t ty e i zv hu hi hzz ad len cp xs x1 had ⟨blk, off, none⟩ ys.length c vs v1 v2 (by omega) (by omega) (growslice_fits (by omega) (by rw [← hm]; exact h47))
                              · subst hl0; subst hc0
                                have hxn : xs = [] := List.length_eq_zero_iff.1 (by rw [x1]; simp)
                                subst hxn
                                have := run_append_nil (P := P) w t ty e i zv hu hi hzz ⟨blk, off, none⟩ ys.length c vs v1 v2 (by omega) (by omega) (by rw [Nat.zero_add] at hm; rw [← hm]; omega)
                                simpa using this
                            obtain ⟨φ', q1, q2⟩ := fin_append_new (e := e) (i := i) (m := m) (vals := xs ++ vs) (zc := Builtin.zeroCells zv.cells (grownCap w (len + ys.length) cp e - (len + ys.length))) (cap := grownCap w (len + ys.length) cp e) h hnr hle0 hcnt.symm
                              (by rw [List.length_append, x1, v1, hcnt, hm, Nat.add_mul]) (fun u hu => by
                                rw [List.mem_append] at hu
                                rcases hu with h' | h'
                                · exact x3 _ h'
                                · exact v3 _ h') (by rw [size_zeroCells, hzs, hm]) (by omega) (by omega) hrelApp rfl
                            have ho2 : (s.setRow nr [⟨i.size, ob.es.take len ++ ys, .live⟩]).ob r k = some ob := by rw [ob_setRow, if_neg (Ne.symm hne)]; exact ho
                            obtain ⟨p3, p4⟩ := q1.gone hrow' ho2
                            refine ⟨.slice (some ⟨w.heap.size, 0, none⟩) m (grownCap w (len + ys.length) cp e), _, φ', ?_, p3, p4 _ _ q2⟩
                            rw [hm]; exact hrun
                  · simp at hres
            · simp at hres
      · simp at hres

end
end
section
variable {g : G} {s : S} {φ : Plc} {a : Act} {w : World}
/-- A row frozen. -/
def frzRow (row : List Ob) : List Ob := row.map fun o => if o.kd = .live then { o with kd := .frz } else o

theorem obIn_frz (row : List Ob) (k : Nat) : obIn (some (frzRow row)) k = (obIn (some row) k).map fun o => if o.kd = .live then { o with kd := .frz } else o := by
  simp only [obIn, frzRow, List.getElem?_map]
  cases row[k]? with
  | none => rfl
  | some o =>
    obtain ⟨sz, es, kd⟩ := o
    cases kd <;> simp

theorem RelS.freeze (h : RelS g s φ a w) {r : Nat} {row : List Ob} (hr : s.R r = some row) : RelS g (s.setRow r (frzRow row)) φ a w := by
  have hob : ∀ q k o, (s.setRow r (frzRow row)).ob q k = some o → ∃ p, s.ob q k = some p ∧ o.sz = p.sz ∧ o.es = p.es ∧ (o.kd = .live → p.kd = .live ∧ q ≠ r) := by
    intro q k o ho
    by_cases e : q = r
    · subst e
      have : (s.setRow q (frzRow row)).R q = some (frzRow row) := by simp [S.setRow]
      unfold S.ob at ho
      rw [this, obIn_frz] at ho
      rw [Option.map_eq_some_iff] at ho
      obtain ⟨p, hp, rfl⟩ := ho
      refine ⟨p, by unfold S.ob; rw [hr]; exact hp, ?_⟩
      split <;> simp_all
    · have : (s.setRow r (frzRow row)).R q = s.R q := by simp [S.setRow, e]
      unfold S.ob at ho
      rw [this] at ho
      exact ⟨o, ho, rfl, rfl, fun hl => ⟨hl, e⟩⟩
  have hus : ∀ q k, s.us q k → (s.setRow r (frzRow row)).us q k := us_setRow_of s hr (by simp [frzRow])
  have htb : ∀ q k, (s.setRow r (frzRow row)).tb φ q k = s.tb φ q k := by
    intro q k
    by_cases e : q = r
    · subst e
      simp only [S.tb, S.ob]
      have : (s.setRow q (frzRow row)).R q = some (frzRow row) := by simp [S.setRow]
      rw [this, obIn_frz, hr]
      cases obIn (some row) k with
      | none => rfl
      | some o => simp only [Option.map_some, Option.some.injEq, Prod.mk.injEq, and_true]; split <;> rfl
    · have : (s.setRow r (frzRow row)).R q = s.R q := by simp [S.setRow, e]
      simp [S.tb, S.ob, this]
  have st : Step g s φ w (s.setRow r (frzRow row)) φ w := ⟨hus, fun q k _ => .inl (htb q k), fun b hl => by
      obtain ⟨q, k, o, m, h1, h2, h3⟩ := hl
      obtain ⟨p, p1, p2, p3, p4⟩ := hob q k o h1
      exact .inl ⟨q, k, p, m, p1, (p4 h2).1, h3⟩, fun _ _ _ => rfl, Nat.le_refl _⟩
  refine { toRelM := ⟨?_, ?_, ?_, h.keep, h.mlt, h.alt, ?_, h.low⟩, env := fun t => st.rel (h.env t), defers := h.defers, tsz := h.tsz }
  · intro q k o ho
    obtain ⟨p, p1, p2, p3, -⟩ := hob q k o ho
    have hp := st.obj (fun b m _ => rfl) (h.obj q k p p1)
    cases hφ : φ q k with
    | none => rw [hφ] at hp; simp only [ObRel] at hp ⊢; rw [p3]; exact hp
    | some x =>
      obtain ⟨b, m⟩ := x
      rw [hφ] at hp
      obtain ⟨c, ty, e1, e2, e3, e4⟩ := hp
      exact ⟨c, ty, e1, e2, by rw [p2, p3]; exact e3, by rw [p3]; exact e4⟩
  · intro q k o q' k' o' b m m' h1 h2 h3 h4
    obtain ⟨p, p1, -⟩ := hob q k o h1
    obtain ⟨p', p1', -⟩ := hob q' k' o' h2
    exact h.inj q k p q' k' p' b m m' p1 p1' h3 h4
  · intro q k o b m h1 h2
    obtain ⟨p, p1, -⟩ := hob q k o h1
    exact h.own q k p b m p1 h2
  · intro j k hj
    obtain ⟨e1, e2⟩ := h.stay j k hj
    exact ⟨hus j k e1, by rw [htb]; exact e2⟩

end

def isPtrT (P : Program) (t : TypeId) : Bool :=
  match P.underlying t with
  | some (.pointer _) => true
  | _ => false

/-- Every operation but a call of a function. -/
def opT (P : Program) (E : Nat → AV) (R : Nat → Option (List Ob)) (nr : Nat) (o : Oper) (ans : Ans) : Option Res :=
  match o.op with
  | .call { callee := .builtin b, args, argTypes } => match b with
    | .len => opS P E R nr o ans
    | b => opB P E R nr b (args.toList.map (evalOf E)) argTypes.toList ans
  | .binOp op t x y _ => match ans, op, evalOf E x, evalOf E y with
    | .bd, .eql, .isl _ es, .nils => if (elemT P t).isSome then some { val := .b false, obs := [es ≠ []] } else none
    | .bd, .neq, .isl _ es, .nils => if (elemT P t).isSome then some { val := .b true, obs := [es ≠ []] } else none
    | .bd, .eql, .ipo _ none, .nilp => if isPtrT P t then some { val := .b true } else none
    | .bd, .neq, .ipo _ none, .nilp => if isPtrT P t then some { val := .b false } else none
    | .bd, .eql, .ipo _ (some _), .nilp => if isPtrT P t then some { val := .b false } else none
    | .bd, .neq, .ipo _ (some _), .nilp => if isPtrT P t then some { val := .b true } else none
    | .bd, _, _, _ => none
    | _, _, _, _ => opS P E R nr o ans
  | .nilCheck x => match ans, evalOf E x with
    | .bd, .ipo sz (some c) => some { val := .ipt sz [c] 0 0 }
    | .bd, _ => none
    | _, _ => opS P E R nr o ans
  | _ => opS P E R nr o ans

section
variable {P : Program} {g : G} {s : S} {φ : Plc} {a : Act} {w : World} {o : Oper} {ans : Ans} {nr : Nat} {res : Res}

theorem map_two {args : Array Operand} {E : Nat → AV} {x y : AV} (h : args.toList.map (evalOf E) = [x, y]) : ∃ p q, args = #[p, q] ∧ evalOf E p = x ∧ evalOf E q = y := by
  obtain ⟨l⟩ := args
  match l, h with
  | [p, q], h => simp at h; exact ⟨p, q, rfl, h.1, h.2⟩

theorem isPtrT_eq {t : TypeId} (h : isPtrT P t = true) : ∃ e, P.underlying t = some (.pointer e) := by
  unfold isPtrT at h
  split at h
  · rename_i e he; exact ⟨e, he⟩
  · simp at h

theorem opT_sound (h : RelS g s φ a w) (hnr : s.R nr = none) (hres : opT P s.E s.R nr o ans = some res) (hobs : ∀ p ∈ res.obs, p) : Fin P g s a w o res := by
  unfold opT at hres
  split at hres
  · rename_i b args ats ho
    split at hres
    · exact opS_sound h hnr hres hobs
    · rename_i b hb
      unfold opB at hres
      split at hres
      · rename_i x y t t' m hargs hats
        have hres' : opB P s.E s.R nr .append [x, y] [t, t'] (.app m) = some res := hres
        obtain ⟨p, q, rfl, rfl, rfl⟩ := map_two hargs
        obtain ⟨l⟩ := ats
        simp only at hats
        subst hats
        obtain ⟨v, w', φ', h1, h2, h3⟩ := opB_append (ty := o.type) h hnr hres' hobs (h.eval p) (h.eval q)
        exact ⟨v, w', φ', .inl (by simp [execOp, ho, resolve, invoke, builtin, h1]), h2, h3⟩
      · rename_i k x k' y hargs
        split at hres
        · rename_i hk
          simp only [Option.some.injEq] at hres
          subst hres; subst hk
          obtain ⟨p, q, rfl, hp, hq⟩ := map_two hargs
          have hx := h.eval p
          have hy := h.eval q
          rw [hp] at hx; rw [hq] at hy
          refine fin_pure (v := .int k (if y < x then y else x)) h ?_ rfl (.n _ _)
          simp [execOp, ho, resolve, invoke, builtin, Builtin.min_, hx.n_inv, hy.n_inv, Builtin.min2]
        · simp at hres
      · simp at hres
  · rename_i op t x y t' ho
    split at hres
    · rename_i sz es hx hy
      split at hres
      · rename_i he
        obtain ⟨e, he⟩ := Option.isSome_iff_exists.1 he
        simp only [Option.some.injEq] at hres
        subst hres
        have h1 := h.eval x
        have h2 := h.eval y
        rw [hx] at h1; rw [hy] at h2
        have hne : es ≠ [] := hobs _ (by simp)
        refine fin_pure (v := .bool false) h ?_ rfl (.b _)
        simp only [execOp, ho]
        rw [Sem.run_bind, (eq_isl (w := w) (elemT_eq he) hne h1 h2 x y).1]; rfl
      · simp at hres
    · rename_i sz es hx hy
      split at hres
      · rename_i he
        obtain ⟨e, he⟩ := Option.isSome_iff_exists.1 he
        simp only [Option.some.injEq] at hres
        subst hres
        have h1 := h.eval x
        have h2 := h.eval y
        rw [hx] at h1; rw [hy] at h2
        have hne : es ≠ [] := hobs _ (by simp)
        refine fin_pure (v := .bool true) h ?_ rfl (.b _)
        simp only [execOp, ho]
        rw [Sem.run_bind, (eq_isl (w := w) (elemT_eq he) hne h1 h2 x y).2]; rfl
      · simp at hres
    · rename_i sz hx hy
      split at hres
      · rename_i ht
        obtain ⟨e, he⟩ := isPtrT_eq ht
        simp only [Option.some.injEq] at hres
        subst hres
        have h1 := h.eval x
        have h2 := h.eval y
        rw [hx] at h1; rw [hy] at h2
        have h1' : Rel w (s.ok g φ w) s.us (s.tb φ) .nilp (a.eval x) := by rw [h1.ipoN_inv]; exact .nilp
        refine fin_pure (v := .bool true) h ?_ rfl (.b _)
        simp only [execOp, ho]
        rw [Sem.run_bind, (eq_sound (w := w) (r := true) (by simp [eqS, he]) h1' h2 x y).1]; rfl
      · simp at hres
    · rename_i sz hx hy
      split at hres
      · rename_i ht
        obtain ⟨e, he⟩ := isPtrT_eq ht
        simp only [Option.some.injEq] at hres
        subst hres
        have h1 := h.eval x
        have h2 := h.eval y
        rw [hx] at h1; rw [hy] at h2
        have h1' : Rel w (s.ok g φ w) s.us (s.tb φ) .nilp (a.eval x) := by rw [h1.ipoN_inv]; exact .nilp
        refine fin_pure (v := .bool false) h ?_ rfl (.b _)
        simp only [execOp, ho]
        rw [Sem.run_bind, (eq_sound (w := w) (r := true) (by simp [eqS, he]) h1' h2 x y).2]; rfl
      · simp at hres
    · rename_i sz c hx hy
      split at hres
      · rename_i ht
        obtain ⟨e, he⟩ := isPtrT_eq ht
        simp only [Option.some.injEq] at hres
        subst hres
        have h1 := h.eval x
        have h2 := h.eval y
        rw [hx] at h1; rw [hy] at h2
        refine fin_pure (v := .bool false) h ?_ rfl (.b _)
        simp only [execOp, ho]
        rw [Sem.run_bind, (eq_sound (w := w) (r := false) (by simp [eqS, he]) h1.ipoS_inv h2 x y).1]; rfl
      · simp at hres
    · rename_i sz c hx hy
      split at hres
      · rename_i ht
        obtain ⟨e, he⟩ := isPtrT_eq ht
        simp only [Option.some.injEq] at hres
        subst hres
        have h1 := h.eval x
        have h2 := h.eval y
        rw [hx] at h1; rw [hy] at h2
        refine fin_pure (v := .bool true) h ?_ rfl (.b _)
        simp only [execOp, ho]
        rw [Sem.run_bind, (eq_sound (w := w) (r := false) (by simp [eqS, he]) h1.ipoS_inv h2 x y).2]; rfl
      · simp at hres
    · simp at hres
    · exact opS_sound h hnr hres hobs
  · rename_i x ho
    split at hres
    · rename_i sz c hx
      simp only [Option.some.injEq] at hres
      subst hres
      have h1 := h.eval x
      rw [hx] at h1
      have h2 := h1.ipoS_inv
      obtain ⟨blk, off, hb, hval, hrd⟩ := h2.ipt_inv
      refine fin_pure (v := a.eval x) h ?_ rfl h2
      rw [hval]
      simp only [execOp, ho, hval]
      rfl
    · simp at hres
    · exact opS_sound h hnr hres hobs
  · exact opS_sound h hnr hres hobs

end
end Go.VL
