/- One abstract state said in the words of another: rows renamed, objects read as values. -/
import Derived.Test.YtncfpfgbpjbhfabGreatVlH
namespace Go.VL
set_option linter.unusedVariables false
set_option linter.unusedSimpArgs false
open Go

theorem mem_flatten_at {es : List (List AV)} {j : Nat} {x : AV} (h : es.flatten[j]? = some x) : ∃ e ∈ es, x ∈ e := by
  have := List.mem_of_getElem? h
  rw [List.mem_flatten] at this
  obtain ⟨e, he, hx⟩ := this
  exact ⟨e, he, hx⟩

theorem Rel.pure {w : World} {ok ok' us us' : Nat → Prop} {tb tb' : Tb} {x : AV} {v : Value} (h : Rel w ok us tb x v) (hp : Pure x) (hok : ∀ b, ok b → ok' b) : Rel w ok' us' tb' x v := by
  induction h with
  | dead v => exact .dead v
  | b x => exact .b x
  | n k x => exact .n k x
  | s x => exact .s x
  | nilp => exact .nilp
  | nils => exact .nils
  | esl a c => exact .esl a c
  | refGone => cases hp
  | ref => cases hp
  | oslGone => cases hp
  | oslVirt => cases hp
  | osl => cases hp
  | isl0 sz a c h => exact .isl0 sz a c h
  | isl cs hb hp' hl hc hw hcl hr ih =>
    cases hp with
    | isl h => exact .isl cs (hok _ hb) hp' hl hc hw hcl fun j x hx => ih j x hx (by obtain ⟨e, he, hxe⟩ := mem_flatten_at hx; exact h e he x hxe)
  | ipt cs hb hp' hl hw hcl hr ih =>
    cases hp with
    | ipt h => exact .ipt cs (hok _ hb) hp' hl hw hcl fun j x hx => ih j x hx (by obtain ⟨e, he, hxe⟩ := mem_flatten_at hx; exact h e he x hxe)
  | ipoN sz => exact .ipoN sz
  | ipoS h ih =>
    cases hp with
    | ipoS hp => exact .ipoS (ih (.ipt fun e he x hx => by rw [List.mem_singleton] at he; subst he; exact hp x hx))
  | agg vs hl hcl hr ih =>
    cases hp with
    | agg h => exact .agg vs hl hcl fun j x v hx hv => ih j x v hx hv (h x (List.mem_of_getElem? hx))
  | tup vs hl hr ih =>
    cases hp with
    | tup h => exact .tup vs hl fun j x v hx hv => ih j x v hx hv (h x (List.mem_of_getElem? hx))
  | fn vs hl hr ih =>
    cases hp with
    | fn h => exact .fn vs hl fun j x v hx hv => ih j x v hx hv (h x (List.mem_of_getElem? hx))

/-- `x`, said of the state `s`, is `x'` where the rows `mv` of `s` are the rows 0, 1, .. and objects of the kinds `al` may be read as values. -/
inductive Sn (s : S) (mv : Nat → Option Nat) (al : Kd → Bool) : AV → AV → Prop
  | dead (x : AV) : Sn s mv al x .dead
  | pure {x : AV} (h : Pure x) : Sn s mv al x x
  | nils (sz : Nat) : Sn s mv al .nils (.isl sz [])
  | nilpo (sz : Nat) : Sn s mv al .nilp (.ipo sz none)
  | ipo {sz : Nat} {x : AV} {c : List AV} (h : Sn s mv al x (.ipt sz [c] 0 0)) : Sn s mv al x (.ipo sz (some c))
  | ref {r j : Nat} (k i off : Nat) (h : mv j = some r) (hu : s.us r) : Sn s mv al (.ref r k i off) (.ref j k i off)
  | osl {r j : Nat} (k lo len : Nat) (h : mv j = some r) (hu : s.us r) : Sn s mv al (.osl r k lo len) (.osl j k lo len)
  | ipt {r k : Nat} {o : Ob} {es' : List (List AV)} (i off : Nat) (ho : s.ob r k = some o) (ha : al o.kd = true) (hr : (∀ j, mv j ≠ some r)) (hne : o.es ≠ []) (hp : PureEs es') (hle : ∀ e ∈ es', e.length = o.sz) (hl : es'.length = o.es.length)
      (h : ∀ (j : Nat) x x', o.es.flatten[j]? = some x → es'.flatten[j]? = some x' → Sn s mv al x x') : Sn s mv al (.ref r k i off) (.ipt o.sz es' i off)
  | isl {r k lo len : Nat} {o : Ob} {es' : List (List AV)} (ho : s.ob r k = some o) (ha : al o.kd = true) (hr : (∀ j, mv j ≠ some r)) (hfit : lo + len ≤ o.es.length) (hp : PureEs es') (hle : ∀ e ∈ es', e.length = o.sz) (hl : es'.length = len)
      (h : ∀ (j : Nat) x x', ((o.es.drop lo).take len).flatten[j]? = some x → es'.flatten[j]? = some x' → Sn s mv al x x') : Sn s mv al (.osl r k lo len) (.isl o.sz es')
  | agg {c c' : List AV} (hl : c'.length = c.length) (h : ∀ (j : Nat) x x', c[j]? = some x → c'[j]? = some x' → Sn s mv al x x') : Sn s mv al (.agg c) (.agg c')
  | tup {c c' : List AV} (hl : c'.length = c.length) (h : ∀ (j : Nat) x x', c[j]? = some x → c'[j]? = some x' → Sn s mv al x x') : Sn s mv al (.tup c) (.tup c')
  | fn {f : Nat} {c c' : List AV} (hl : c'.length = c.length) (h : ∀ (j : Nat) x x', c[j]? = some x → c'[j]? = some x' → Sn s mv al x x') : Sn s mv al (.fn f c) (.fn f c')

theorem flatten_length {sz : Nat} : ∀ (es : List (List AV)), (∀ e ∈ es, e.length = sz) → es.flatten.length = es.length * sz
  | [], _ => by simp
  | e :: es, h => by
    rw [List.flatten_cons, List.length_append, flatten_length es fun x hx => h x (by simp [hx]), h e (by simp), List.length_cons, Nat.add_mul]; omega

theorem lt_of_get {α : Type} {l : List α} {j : Nat} {x : α} (h : l[j]? = some x) : j < l.length := by
  rcases Nat.lt_or_ge j l.length with h' | h'
  · exact h'
  · rw [List.getElem?_eq_none h'] at h; simp at h

theorem Sn.rel {g : G} {s : S} {φ : Plc} {w : World} {mv : Nat → Option Nat} {al : Kd → Bool} (hM : RelM g s φ w) {ok' us' : Nat → Prop} {tb' : Tb}
    (H1 : ∀ b, s.ok g φ w b → ok' b)
    (H2 : ∀ r k o b m, s.ob r k = some o → al o.kd = true → (∀ j, mv j ≠ some r) → φ r k = some (b, m) → ok' b)
    (H3 : ∀ j r, mv j = some r → s.us r → us' j ∧ ∀ k, tb' j k = s.tb φ r k ∨ tb' j k = none) {x x' : AV} (hs : Sn s mv al x x') :
    ∀ {v : Value}, Rel w (s.ok g φ w) s.us (s.tb φ) x v → Rel w ok' us' tb' x' v := by
  induction hs with
  | dead x => intro v _; exact .dead v
  | pure hp => intro v hr; exact hr.pure hp H1
  | nils sz => intro v hr; rw [hr.nils_inv]; exact .isl0 sz none 0 (fun _ => rfl)
  | nilpo sz => intro v hr; rw [hr.nilp_inv]; exact .ipoN sz
  | ipo h ih => intro v hr; exact .ipoS (ih hr)
  | @ref r j k i off hj hu =>
    intro v hr
    obtain ⟨h1, h2⟩ := H3 j r hj hu
    cases hr with
    | refGone a hu' hn =>
      refine .refGone a h1 fun sz p => ?_
      rcases h2 k with e | e <;> rw [e]
      · exact hn sz p
      · simp
    | ref hu' ht =>
      rcases h2 k with e | e
      · exact .ref h1 (e.trans ht)
      · exact .refGone _ h1 fun sz p => by rw [e]; simp
  | @osl r j k lo len hj hu =>
    intro v hr
    obtain ⟨h1, h2⟩ := H3 j r hj hu
    cases hr with
    | oslGone a l c hu' hn =>
      refine .oslGone a l c h1 ?_
      rcases h2 k with e | e <;> rw [e]
      exact hn
    | oslVirt hu' ht =>
      rcases h2 k with e | e
      · exact .oslVirt h1 (e.trans ht)
      · exact .oslGone _ _ _ h1 e
    | osl hu' ht hl hc hm =>
      rcases h2 k with e | e
      · exact .osl h1 (e.trans ht) hl hc hm
      · exact .oslGone _ _ _ h1 e
  | @ipt r k o es' i off ho ha hr hne hpe hle hl h ih =>
    intro v hv
    have hrel := hM.obj r k o ho
    rcases hv.ref_inv (tb_of ho) with h0 | ⟨b, m, hp, hval⟩
    · rw [h0] at hrel; exact absurd hrel hne
    · rw [hp] at hrel
      have hrd := hrel.rd
      rw [hval]
      have hfl : es'.flatten.length = o.es.flatten.length := by rw [flatten_length es' hle, flatten_length o.es hrd.1, hl]
      have hrd' : Rd w ok' us' tb' b 0 o.sz es' := by
        refine ⟨hle, fun j x' hx' => ?_⟩
        have hlt : j < o.es.flatten.length := by rw [← hfl]; exact lt_of_get hx'
        have hx : o.es.flatten[j]? = some o.es.flatten[j] := List.getElem?_eq_getElem hlt
        obtain ⟨u, e1, e2, e3⟩ := hrd.2 j _ hx
        exact ⟨u, e1, e2, ih j _ x' hx hx' e3⟩
      have := hrd'.ipt (i := i) (off := off) ⟨H2 r k o b m ho ha hr hp, hpe⟩
      rw [Nat.zero_add] at this
      exact this
  | @isl r k lo len o es' ho ha hr hfit hpe hle hl h ih =>
    intro v hv
    have hrel := hM.obj r k o ho
    rcases hv.osl_inv (tb_of ho) with ⟨hp, rfl, rfl, hval⟩ | ⟨b, m, A, c, hp, hval, hlc, hc9, hm⟩
    · have : es' = [] := List.length_eq_zero_iff.1 hl
      subst this
      rw [hval]; exact .isl0 _ none 0 (fun _ => rfl)
    · rw [hp] at hrel
      rw [hval]
      rcases Nat.eq_zero_or_pos len with h0 | hpos
      · subst h0
        have : es' = [] := List.length_eq_zero_iff.1 hl
        subst this
        exact .isl0 _ A c (fun hn => by rcases hm with h1 | ⟨h1, -⟩ <;> simp_all)
      · rcases hm with hm | ⟨hA, hm⟩
        · omega
        · subst hA
          have hrd := take_drop_rd hrel.rd lo len (by omega)
          rw [Nat.zero_add] at hrd
          have hfl : es'.flatten.length = ((o.es.drop lo).take len).flatten.length := by
            rw [flatten_length es' hle, flatten_length _ hrd.1, hl, List.length_take, List.length_drop, Nat.min_eq_left (by omega)]
          have hrd' : Rd w ok' us' tb' b (lo * o.sz) o.sz es' := by
            refine ⟨hle, fun j x' hx' => ?_⟩
            have hlt : j < ((o.es.drop lo).take len).flatten.length := by rw [← hfl]; exact lt_of_get hx'
            have hx := List.getElem?_eq_getElem hlt
            obtain ⟨u, e1, e2, e3⟩ := hrd.2 j _ hx
            exact ⟨u, e1, e2, ih j _ x' hx hx' e3⟩
          have := hrd'.isl (c := c) ⟨H2 r k o b m ho ha hr hp, hpe⟩ (by omega)
          rw [hl] at this
          exact this
  | @agg c c' hl h ih =>
    intro v hv
    obtain ⟨vs, rfl, h1, h2, h3⟩ := hv.agg_inv
    refine .agg vs (by omega) h2 fun j x' u hx' hu => ?_
    have hlt : j < c.length := by have := lt_of_get hx'; omega
    exact ih j _ x' (List.getElem?_eq_getElem hlt) hx' (h3 j _ u (List.getElem?_eq_getElem hlt) hu)
  | @tup c c' hl h ih =>
    intro v hv
    obtain ⟨vs, rfl, h1, h3⟩ := hv.tup_inv
    refine .tup vs (by omega) fun j x' u hx' hu => ?_
    have hlt : j < c.length := by have := lt_of_get hx'; omega
    exact ih j _ x' (List.getElem?_eq_getElem hlt) hx' (h3 j _ u (List.getElem?_eq_getElem hlt) hu)
  | @fn f c c' hl h ih =>
    intro v hv
    obtain ⟨vs, rfl, h1, h3⟩ := hv.fn_inv
    refine .fn vs (by omega) fun j x' u hx' hu => ?_
    have hlt : j < c.length := by have := lt_of_get hx'; omega
    exact ih j _ x' (List.getElem?_eq_getElem hlt) hx' (h3 j _ u (List.getElem?_eq_getElem hlt) hu)

/-- Objects, renamed. -/
structure SnO (s : S) (mv : Nat → Option Nat) (al : Kd → Bool) (o o' : Ob) : Prop where
  sz : o'.sz = o.sz
  kd : o'.kd = o.kd ∨ (o'.kd = .frz ∧ o.kd = .live) ∨ o'.kd = .gone
  len : o'.es.length = o.es.length
  each : ∀ e ∈ o'.es, e.length = o.sz
  at_ : ∀ (j : Nat) x x', o.es.flatten[j]? = some x → o'.es.flatten[j]? = some x' → Sn s mv al x x'

/-- Rows, renamed: row j of `s'` is row `mv[j]` of `s`. -/
structure SnR (s : S) (mv : Nat → Option Nat) (al : Kd → Bool) (R' : Nat → Option (List Ob)) : Prop where
  nodup : ∀ i j r, mv i = some r → mv j = some r → i = j
  row : ∀ j row', R' j = some row' → ∃ r row, mv j = some r ∧ s.R r = some row ∧
    ∀ (k : Nat) o', obIn (some row') k = some o' → ∃ o, obIn (some row) k = some o ∧ SnO s mv al o o'
  us : ∀ j r, mv j = some r → s.us r → (R' j).isSome = true

def reφ (φ : Plc) (mv : Nat → Option Nat) : Plc := fun j k => match mv j with
  | some r => φ r k
  | none => none

section
variable {g : G} {s : S} {φ : Plc} {w : World} {mv : Nat → Option Nat} {al : Kd → Bool} {s' : S}

theorem SnR.ob (h : SnR s mv al s'.R) {j k : Nat} {o' : Ob} (ho : s'.ob j k = some o') : ∃ r o, mv j = some r ∧ s.ob r k = some o ∧ SnO s mv al o o' := by
  unfold S.ob at ho
  cases hr : s'.R j with
  | none => rw [hr] at ho; simp [obIn] at ho
  | some row' =>
    rw [hr] at ho
    obtain ⟨r, row, h1, h2, h3⟩ := h.row j row' hr
    obtain ⟨o, h4, h5⟩ := h3 k o' ho
    exact ⟨r, o, h1, by unfold S.ob; rw [h2]; exact h4, h5⟩

theorem kd_live {o o' : Ob} (h : SnO s mv al o o') (hl : o'.kd = .live) : o.kd = .live := by
  rcases h.kd with e | ⟨e, -⟩ | e
  · exact e.symm.trans hl
  · rw [e] at hl; simp at hl
  · rw [e] at hl; simp at hl

/-- What is live in the new words was live in the old ones. -/
theorem SnR.live (h : SnR s mv al s'.R) (b : Nat) (hl : s'.liveAt (reφ φ mv) b) : ∃ r k o m, s.ob r k = some o ∧ o.kd = .live ∧ φ r k = some (b, m) ∧ ∃ j, mv j = some r := by
  obtain ⟨j, k, o', m, h1, h2, h3⟩ := hl
  obtain ⟨r, o, e1, e2, e3⟩ := h.ob h1
  refine ⟨r, k, o, m, e2, kd_live e3 h2, ?_, j, e1⟩
  simpa [reφ, e1] using h3

theorem SnR.tbs (h : SnR s mv al s'.R) {j r : Nat} (hj : mv j = some r) (k : Nat) : s'.tb (reφ φ mv) j k = s.tb φ r k ∨ s'.tb (reφ φ mv) j k = none := by
  cases ho : s'.ob j k with
  | none => right; simp [S.tb, ho]
  | some o' =>
    obtain ⟨r', o, e1, e2, e3⟩ := h.ob ho
    rw [hj] at e1; simp at e1; subst e1
    left
    rw [tb_of ho, tb_of e2, e3.sz]
    simp [reφ, hj]

/-- The memory, in the new words. `A` may be wider. -/
theorem RelM.sn (hM : RelM g s φ w) (h : SnR s mv al s'.R) {g' : G} (hk : Keep g' w) (hstay : ∀ j k, j < g'.m → s'.us j ∧ (s'.tb (reφ φ mv) j k = g'.tb0 j k ∨ s'.tb (reφ φ mv) j k = none)) (hmlt : ∀ b, g'.M0 b → b < g'.w0.heap.size) (halt : ∀ b, g'.A b → b < g'.w0.heap.size)
    (hown : ∀ r k o b m, (∃ j, mv j = some r) → s.ob r k = some o → φ r k = some (b, m) → g'.w0.heap.size ≤ b ∨ g'.M0 b)
    (H1 : ∀ b, s.ok g φ w b → s'.ok g' (reφ φ mv) w b)
    (H2 : ∀ r k o b m, s.ob r k = some o → al o.kd = true → (∀ j, mv j ≠ some r) → φ r k = some (b, m) → s'.ok g' (reφ φ mv) w b) :
    RelM g' s' (reφ φ mv) w ∧ ∀ {x x' : AV} {v : Value}, Sn s mv al x x' → Rel w (s.ok g φ w) s.us (s.tb φ) x v → Rel w (s'.ok g' (reφ φ mv) w) s'.us (s'.tb (reφ φ mv)) x' v := by
  have hrel : ∀ {x x' : AV} {v : Value}, Sn s mv al x x' → Rel w (s.ok g φ w) s.us (s.tb φ) x v → Rel w (s'.ok g' (reφ φ mv) w) s'.us (s'.tb (reφ φ mv)) x' v :=
    fun hs hr => hs.rel hM H1 H2 (fun j r hj hu => ⟨h.us j r hj hu, fun k => h.tbs hj k⟩) hr
  refine ⟨⟨?_, ?_, ?_, hk, hmlt, halt, hstay⟩, hrel⟩
  · intro j k o' ho'
    obtain ⟨r, o, e1, e2, e3⟩ := h.ob ho'
    have hob := hM.obj r k o e2
    have hφ : reφ φ mv j k = φ r k := by simp [reφ, e1]
    rw [hφ]
    cases hp : φ r k with
    | none =>
      rw [hp] at hob
      simp only [ObRel] at hob ⊢
      apply List.length_eq_zero_iff.1
      rw [e3.len, hob]; rfl
    | some q =>
      obtain ⟨b, m⟩ := q
      rw [hp] at hob
      obtain ⟨c, ty, h1, h2, h3, h4⟩ := hob
      have hfl : o'.es.flatten.length = o.es.flatten.length := by rw [flatten_length _ e3.each, flatten_length _ h3, e3.len]
      refine ⟨c, ty, h1, h2, by rw [e3.sz]; exact e3.each, fun i x' hx' => ?_⟩
      have hlt : i < o.es.flatten.length := by rw [← hfl]; exact lt_of_get hx'
      have hx := List.getElem?_eq_getElem hlt
      obtain ⟨u, f1, f2, f3⟩ := h4 i _ hx
      exact ⟨u, f1, f2, hrel (e3.at_ i _ x' hx hx') f3⟩
  · intro j k o j' k' o' b m m' h1 h2 h3 h4
    obtain ⟨r, p, e1, e2, -⟩ := h.ob h1
    obtain ⟨r', p', e1', e2', -⟩ := h.ob h2
    have h3' : φ r k = some (b, m) := by simpa [reφ, e1] using h3
    have h4' : φ r' k' = some (b, m') := by simpa [reφ, e1'] using h4
    obtain ⟨rfl, rfl⟩ := hM.inj r k p r' k' p' b m m' e2 e2' h3' h4'
    exact ⟨h.nodup _ _ _ e1 e1', rfl⟩
  · intro j k o b m h1 h2
    obtain ⟨r, p, e1, e2, -⟩ := h.ob h1
    exact hown r k p b m ⟨j, e1⟩ e2 (by simpa [reφ, e1] using h2)

/-- A state, said anew. -/
theorem RelS.restate {a : Act} (h : RelS g s φ a w) (hR : SnR s mv (fun _ => true) s'.R) (hE : ∀ t, Sn s mv (fun _ => true) (s.E t) (s'.E t)) (hfix : ∀ j, j < g.m → mv j = some j) : RelS g s' (reφ φ mv) a w := by
  have hno : ∀ b, s'.liveAt (reφ φ mv) b → s.liveAt φ b := fun b hl => by
    obtain ⟨r, k, o, m, h1, h2, h3, -⟩ := hR.live b hl
    exact ⟨r, k, o, m, h1, h2, h3⟩
  have hstay : ∀ j k, j < g.m → s'.us j ∧ (s'.tb (reφ φ mv) j k = g.tb0 j k ∨ s'.tb (reφ φ mv) j k = none) := by
    intro j k hj
    obtain ⟨e1, e2⟩ := h.stay j k hj
    refine ⟨hR.us j j (hfix j hj) e1, ?_⟩
    rcases hR.tbs (φ := φ) (hfix j hj) k with e | e
    · rw [e]; exact e2
    · exact .inr e
  obtain ⟨h1, h2⟩ := h.toRelM.sn hR h.keep hstay h.mlt h.alt (fun r k o b m _ ho hp => h.own r k o b m ho hp)
    (fun b hb => ⟨hb.1, hb.2.1, fun hl => hb.2.2 (hno b hl)⟩)
    (fun r k o b m ho _ hr hp => by
      have hob := h.obj r k o ho
      rw [hp] at hob
      obtain ⟨c, ty, e1, -⟩ := hob
      refine ⟨(Array.getElem?_eq_some_iff.1 e1).1, ?_, fun hl => ?_⟩
      · rcases h.own r k o b m ho hp with e | e
        · exact .inr (.inl e)
        · exact .inr (.inr e)
      · obtain ⟨r', k', o', m', f1, f2, f3, ⟨j4, f4⟩⟩ := hR.live b hl
        obtain ⟨rfl, rfl⟩ := h.inj r k o r' k' o' b m m' ho f1 hp f3
        exact hr j4 f4)
  exact { toRelM := h1, env := fun t => h2 (hE t) (h.env t), defers := h.defers, tsz := h.tsz }
end
end Go.VL
