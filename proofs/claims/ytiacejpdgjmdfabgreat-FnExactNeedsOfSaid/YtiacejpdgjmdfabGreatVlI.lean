/- One abstract state said in the words of another: rows renamed, objects read as values. -/
import Derived.Test.YtiacejpdgjmdfabGreatVlH
namespace Go.VL
set_option linter.unusedVariables false
set_option linter.unusedSimpArgs false
open Go

theorem mem_flatten_at {es : List (List AV)} {j : Nat} {x : AV} (h : es.flatten[j]? = some x) : ∃ e ∈ es, x ∈ e := by
  have := List.mem_of_getElem? h
  rw [List.mem_flatten] at this
  obtain ⟨e, he, hx⟩ := this
  exact ⟨e, he, hx⟩

theorem Rel.pure {w : World} {ok ok' : Nat → Prop} {us us' : Us} {tb tb' : Tb} {x : AV} {v : Value} (h : Rel w ok us tb x v) (hp : Pure x) (hok : ∀ b, ok b → ok' b) : Rel w ok' us' tb' x v := by
  induction h with
  | dead v => exact .dead v
  | b x => exact .b x
  | n k x => exact .n k x
  | s x => exact .s x
  | nilp => exact .nilp
  | nils => exact .nils
  | esl a c => exact .esl a c
  | refGone => cases hp
  | ref => cases hp
  | oslGone => cases hp
  | oslVirt => cases hp
  | osl => cases hp
  | hslN => cases hp
  | hslS => cases hp
  | isl0 sz a c h => exact .isl0 sz a c h
  | isl cs hb hp' hl hc hw hcl hr ih =>
    cases hp with
    | isl h => exact .isl cs (hok _ hb) hp' hl hc hw hcl fun j x hx => ih j x hx (by obtain ⟨e, he, hxe⟩ := mem_flatten_at hx; exact h e he x hxe)
  | ipt cs hb hp' hl hw hcl hr ih =>
    cases hp with
    | ipt h => exact .ipt cs (hok _ hb) hp' hl hw hcl fun j x hx => ih j x hx (by obtain ⟨e, he, hxe⟩ := mem_flatten_at hx; exact h e he x hxe)
  | ipoN sz => exact .ipoN sz
  | ipoS h ih =>
    cases hp with
    | ipoS hp => exact .ipoS (ih (.ipt fun e he x hx => by rw [List.mem_singleton] at he; subst he; exact hp x hx))
  | agg vs hl hcl hr ih =>
    cases hp with
    | agg h => exact .agg vs hl hcl fun j x v hx hv => ih j x v hx hv (h x (List.mem_of_getElem? hx))
  | tup vs hl hr ih =>
    cases hp with
    | tup h => exact .tup vs hl fun j x v hx hv => ih j x v hx hv (h x (List.mem_of_getElem? hx))
  | fn vs hl hr ih =>
    cases hp with
    | fn h => exact .fn vs hl fun j x v hx hv => ih j x v hx hv (h x (List.mem_of_getElem? hx))

/-- Which objects of one state the objects of another are. -/
abbrev Mv := Nat → Nat → Option (Nat × Nat)

/-- What holds of a value's parts if it holds of the value. -/
structure Down (q : AV → Prop) : Prop where
  agg : ∀ c x, q (.agg c) → x ∈ c → q x
  tup : ∀ c x, q (.tup c) → x ∈ c → q x
  fn : ∀ f c x, q (.fn f c) → x ∈ c → q x

/-- `x`, said of the state `s`, is `x'` where the objects `mv` of `s` have new names, objects of the kinds `al` may be read as values, and values with `q` stay as they are. -/
inductive Sn (s : S) (mv : Mv) (al : Kd → Bool) (q : AV → Prop) : AV → AV → Prop
  | dead (x : AV) : Sn s mv al q x .dead
  | pure {x : AV} (h : Pure x) (hq : q x) : Sn s mv al q x x
  | nils (sz : Nat) : Sn s mv al q .nils (.isl sz [])
  | esl (sz : Nat) : Sn s mv al q .esl (.isl sz [])
  | nilpo (sz : Nat) : Sn s mv al q .nilp (.ipo sz none)
  | ipo {sz : Nat} {x : AV} {c : List AV} (h : Sn s mv al q x (.ipt sz [c] 0 0)) : Sn s mv al q x (.ipo sz (some c))
  | ref {r k j i' : Nat} (i off : Nat) (h : mv j i' = some (r, k)) (hu : s.us r k) : Sn s mv al q (.ref r k i off) (.ref j i' i off)
  | osl {r k j i' : Nat} (lo len : Nat) (h : mv j i' = some (r, k)) (hu : s.us r k) : Sn s mv al q (.osl r k lo len) (.osl j i' lo len)
  | hslN (r c sz : Nat) : Sn s mv al q (.hsl r c sz none) (.isl sz [])
  | hslS {r c sz k n : Nat} {x' : AV} (h : Sn s mv al q (.osl r (k + c) 0 n) x') : Sn s mv al q (.hsl r c sz (some (k, n))) x'
  | hsl {r r' c c' sz : Nat} (h : Option (Nat × Nat)) (hm : ∀ k, mv r' (k + c') = some (r, k + c)) : Sn s mv al q (.hsl r c sz h) (.hsl r' c' sz h)
  | ipt {r k : Nat} {o : Ob} {es' : List (List AV)} (i off : Nat) (ho : s.ob r k = some o) (ha : al o.kd = true) (hr : (∀ j i, mv j i ≠ some (r, k))) (hne : o.es ≠ []) (hp : PureEs es') (hle : ∀ e ∈ es', e.length = o.sz) (hl : es'.length = o.es.length)
      (h : ∀ (j : Nat) x x', o.es.flatten[j]? = some x → es'.flatten[j]? = some x' → Sn s mv al q x x') : Sn s mv al q (.ref r k i off) (.ipt o.sz es' i off)
  | isl {r k lo len : Nat} {o : Ob} {es' : List (List AV)} (ho : s.ob r k = some o) (ha : al o.kd = true) (hr : (∀ j i, mv j i ≠ some (r, k))) (hfit : lo + len ≤ o.es.length) (hp : PureEs es') (hle : ∀ e ∈ es', e.length = o.sz) (hl : es'.length = len)
      (h : ∀ (j : Nat) x x', ((o.es.drop lo).take len).flatten[j]? = some x → es'.flatten[j]? = some x' → Sn s mv al q x x') : Sn s mv al q (.osl r k lo len) (.isl o.sz es')
  | agg {c c' : List AV} (hl : c'.length = c.length) (h : ∀ (j : Nat) x x', c[j]? = some x → c'[j]? = some x' → Sn s mv al q x x') : Sn s mv al q (.agg c) (.agg c')
  | tup {c c' : List AV} (hl : c'.length = c.length) (h : ∀ (j : Nat) x x', c[j]? = some x → c'[j]? = some x' → Sn s mv al q x x') : Sn s mv al q (.tup c) (.tup c')
  | fn {f : Nat} {c c' : List AV} (hl : c'.length = c.length) (h : ∀ (j : Nat) x x', c[j]? = some x → c'[j]? = some x' → Sn s mv al q x x') : Sn s mv al q (.fn f c) (.fn f c')

theorem flatten_length {sz : Nat} : ∀ (es : List (List AV)), (∀ e ∈ es, e.length = sz) → es.flatten.length = es.length * sz
  | [], _ => by simp
  | e :: es, h => by
    rw [List.flatten_cons, List.length_append, flatten_length es fun x hx => h x (by simp [hx]), h e (by simp), List.length_cons, Nat.add_mul]; omega

theorem lt_of_get {α : Type} {l : List α} {j : Nat} {x : α} (h : l[j]? = some x) : j < l.length := by
  rcases Nat.lt_or_ge j l.length with h' | h'
  · exact h'
  · rw [List.getElem?_eq_none h'] at h; simp at h

theorem Sn.rel {g : G} {s : S} {φ : Plc} {w : World} {mv : Mv} {al : Kd → Bool} {q : AV → Prop} (hM : RelM g s φ w) {ok' : Nat → Prop} {us' : Us} {tb' : Tb}
    (H1 : ∀ x v, q x → Pure x → Rel w (s.ok g φ w) s.us (s.tb φ) x v → Rel w ok' us' tb' x v)
    (H2 : ∀ r k o b m, s.ob r k = some o → al o.kd = true → (∀ j i, mv j i ≠ some (r, k)) → φ r k = some (b, m) → ok' b)
    (H3 : ∀ j i r k, mv j i = some (r, k) → s.us r k → us' j i ∧ (tb' j i = s.tb φ r k ∨ tb' j i = none)) {x x' : AV} (hs : Sn s mv al q x x') :
    ∀ {v : Value}, Rel w (s.ok g φ w) s.us (s.tb φ) x v → Rel w ok' us' tb' x' v := by
  induction hs with
  | dead x => intro v _; exact .dead v
  | pure hp hq => intro v hr; exact H1 _ v hq hp hr
  | nils sz => intro v hr; rw [hr.nils_inv]; exact .isl0 sz none 0 (fun _ => rfl)
  | esl sz => intro v hr; obtain ⟨a, c, rfl⟩ := hr.esl_inv; exact .isl0 sz (some a) c (fun h => by simp at h)
  | nilpo sz => intro v hr; rw [hr.nilp_inv]; exact .ipoN sz
  | ipo h ih => intro v hr; exact .ipoS (ih hr)
  | @ref r k j i' i off hj hu =>
    intro v hr
    obtain ⟨h1, h2⟩ := H3 j i' r k hj hu
    cases hr with
    | refGone a hu' hn =>
      refine .refGone a h1 fun sz p => ?_
      rcases h2 with e | e <;> rw [e]
      · exact hn sz p
      · simp
    | ref hu' ht =>
      rcases h2 with e | e
      · exact .ref h1 (e.trans ht)
      · exact .refGone _ h1 fun sz p => by rw [e]; simp
  | @osl r k j i' lo len hj hu =>
    intro v hr
    obtain ⟨h1, h2⟩ := H3 j i' r k hj hu
    cases hr with
    | oslGone a l c hu' hn =>
      refine .oslGone a l c h1 ?_
      rcases h2 with e | e <;> rw [e]
      exact hn
    | oslVirt hu' ht =>
      rcases h2 with e | e
      · exact .oslVirt h1 (e.trans ht)
      · exact .oslGone _ _ _ h1 e
    | osl hu' ht hl hc hm =>
      rcases h2 with e | e
      · exact .osl h1 (e.trans ht) hl hc hm
      · exact .oslGone _ _ _ h1 e
  | hslN r c sz =>
    intro v hr
    cases hr with
    | hslN h0 =>
      rcases h0.isl_inv with ⟨-, a, c, rfl, ha⟩ | ⟨blk, off, c, -, rfl, -⟩
      · exact .isl0 sz a c ha
      · exact .isl0 sz _ c (fun h => by simp at h)
  | hslS h ih =>
    intro v hr
    cases hr with
    | hslS h0 => exact ih h0
  | @hsl r r' c c' sz h hm =>
    intro v hr
    cases hr with
    | hslN h0 =>
      rcases h0.isl_inv with ⟨-, a, c, rfl, ha⟩ | ⟨blk, off, c, -, rfl, -⟩
      · exact .hslN (.isl0 sz a c ha)
      · exact .hslN (.isl0 sz _ c (fun h => by simp at h))
    | @hslS _ _ _ k n _ h0 =>
      refine .hslS ?_
      cases h0 with
      | oslGone a l c1 hu' hn =>
        obtain ⟨h1, h2⟩ := H3 _ _ _ _ (hm k) hu'
        refine .oslGone a l c1 h1 ?_
        rcases h2 with e | e <;> rw [e]
        exact hn
      | oslVirt hu' ht =>
        obtain ⟨h1, h2⟩ := H3 _ _ _ _ (hm k) hu'
        rcases h2 with e | e
        · exact .oslVirt h1 (e.trans ht)
        · exact .oslGone _ _ _ h1 e
      | osl hu' ht hl hc hmm =>
        obtain ⟨h1, h2⟩ := H3 _ _ _ _ (hm k) hu'
        rcases h2 with e | e
        · exact .osl h1 (e.trans ht) hl hc hmm
        · exact .oslGone _ _ _ h1 e
  | @ipt r k o es' i off ho ha hr hne hpe hle hl h ih =>
    intro v hv
    have hrel := hM.obj r k o ho
    rcases hv.ref_inv (tb_of ho) with h0 | ⟨b, m, hp, hval⟩
    · rw [h0] at hrel; exact absurd hrel hne
    · rw [hp] at hrel
      have hrd := hrel.rd
      rw [hval]
      have hfl : es'.flatten.length = o.es.flatten.length := by rw [flatten_length es' hle, flatten_length o.es hrd.1, hl]
      have hrd' : Rd w ok' us' tb' b 0 o.sz es' := by
        refine ⟨hle, fun j x' hx' => ?_⟩
        have hlt : j < o.es.flatten.length := by rw [← hfl]; exact lt_of_get hx'
        have hx : o.es.flatten[j]? = some o.es.flatten[j] := List.getElem?_eq_getElem hlt
        obtain ⟨u, e1, e2, e3⟩ := hrd.2 j _ hx
        exact ⟨u, e1, e2, ih j _ x' hx hx' e3⟩
      have := hrd'.ipt (i := i) (off := off) ⟨H2 r k o b m ho ha hr hp, hpe⟩
      rw [Nat.zero_add] at this
      exact this
  | @isl r k lo len o es' ho ha hr hfit hpe hle hl h ih =>
    intro v hv
    have hrel := hM.obj r k o ho
    rcases hv.osl_inv (tb_of ho) with ⟨hp, rfl, rfl, hval⟩ | ⟨b, m, A, c, hp, hval, hlc, hc9, hm⟩
    · have : es' = [] := List.length_eq_zero_iff.1 hl
      subst this
      rw [hval]; exact .isl0 _ none 0 (fun _ => rfl)
    · rw [hp] at hrel
      rw [hval]
      rcases Nat.eq_zero_or_pos len with h0 | hpos
      · subst h0
        have : es' = [] := List.length_eq_zero_iff.1 hl
        subst this
        exact .isl0 _ A c (fun hn => by rcases hm with h1 | ⟨h1, -⟩ <;> simp_all)
      · rcases hm with hm | ⟨hA, hm⟩
        · omega
        · subst hA
          have hrd := take_drop_rd hrel.rd lo len (by omega)
          rw [Nat.zero_add] at hrd
          have hfl : es'.flatten.length = ((o.es.drop lo).take len).flatten.length := by
            rw [flatten_length es' hle, flatten_length _ hrd.1, hl, List.length_take, List.length_drop, Nat.min_eq_left (by omega)]
          have hrd' : Rd w ok' us' tb' b (lo * o.sz) o.sz es' := by
            refine ⟨hle, fun j x' hx' => ?_⟩
            have hlt : j < ((o.es.drop lo).take len).flatten.length := by rw [← hfl]; exact lt_of_get hx'
            have hx := List.getElem?_eq_getElem hlt
            obtain ⟨u, e1, e2, e3⟩ := hrd.2 j _ hx
            exact ⟨u, e1, e2, ih j _ x' hx hx' e3⟩
          have := hrd'.isl (c := c) ⟨H2 r k o b m ho ha hr hp, hpe⟩ (by omega)
          rw [hl] at this
          exact this
  | @agg c c' hl h ih =>
    intro v hv
    obtain ⟨vs, rfl, h1, h2, h3⟩ := hv.agg_inv
    refine .agg vs (by omega) h2 fun j x' u hx' hu => ?_
    have hlt : j < c.length := by have := lt_of_get hx'; omega
    exact ih j _ x' (List.getElem?_eq_getElem hlt) hx' (h3 j _ u (List.getElem?_eq_getElem hlt) hu)
  | @tup c c' hl h ih =>
    intro v hv
    obtain ⟨vs, rfl, h1, h3⟩ := hv.tup_inv
    refine .tup vs (by omega) fun j x' u hx' hu => ?_
    have hlt : j < c.length := by have := lt_of_get hx'; omega
    exact ih j _ x' (List.getElem?_eq_getElem hlt) hx' (h3 j _ u (List.getElem?_eq_getElem hlt) hu)
  | @fn f c c' hl h ih =>
    intro v hv
    obtain ⟨vs, rfl, h1, h3⟩ := hv.fn_inv
    refine .fn vs (by omega) fun j x' u hx' hu => ?_
    have hlt : j < c.length := by have := lt_of_get hx'; omega
    exact ih j _ x' (List.getElem?_eq_getElem hlt) hx' (h3 j _ u (List.getElem?_eq_getElem hlt) hu)

/-- Objects, renamed. -/
structure SnO (s : S) (mv : Mv) (al : Kd → Bool) (q : AV → Prop) (o o' : Ob) : Prop where
  sz : o'.sz = o.sz
  kd : o'.kd = o.kd ∨ (o'.kd = .frz ∧ o.kd = .live) ∨ o'.kd = .gone
  len : o'.es.length = o.es.length
  each : ∀ e ∈ o'.es, e.length = o.sz
  at_ : ∀ (j : Nat) x x', o.es.flatten[j]? = some x → o'.es.flatten[j]? = some x' → Sn s mv al q x x'

/-- Rows, renamed: object (j, i) of `R'` is object `mv j i` of `s`. -/
structure SnR (s : S) (mv : Mv) (al : Kd → Bool) (q : AV → Prop) (R' : Nat → Option (List Ob)) : Prop where
  inj : ∀ j i j' i' p, mv j i = some p → mv j' i' = some p → j = j' ∧ i = i'
  at_ : ∀ j i o', obIn (R' j) i = some o' → ∃ r k o, mv j i = some (r, k) ∧ s.ob r k = some o ∧ SnO s mv al q o o'
  us : ∀ j i r k, mv j i = some (r, k) → s.us r k → i < ((R' j).getD []).length

def reφ (φ : Plc) (mv : Mv) : Plc := fun j i => match mv j i with
  | some (r, k) => φ r k
  | none => none

theorem reφ_of {φ : Plc} {mv : Mv} {j i r k : Nat} (h : mv j i = some (r, k)) : reφ φ mv j i = φ r k := by simp [reφ, h]

/-- Everything. -/
def isT (_ : AV) : Prop := True
theorem downT : Down isT := ⟨fun _ _ _ _ => trivial, fun _ _ _ _ => trivial, fun _ _ _ _ _ => trivial⟩

section
variable {g : G} {s : S} {φ : Plc} {w : World} {mv : Mv} {al : Kd → Bool} {q : AV → Prop} {s' : S}

theorem SnR.ob (h : SnR s mv al q s'.R) {j i : Nat} {o' : Ob} (ho : s'.ob j i = some o') : ∃ r k o, mv j i = some (r, k) ∧ s.ob r k = some o ∧ SnO s mv al q o o' := h.at_ j i o' ho

theorem kd_live {o o' : Ob} (h : SnO s mv al q o o') (hl : o'.kd = .live) : o.kd = .live := by
  rcases h.kd with e | ⟨e, -⟩ | e
  · exact e.symm.trans hl
  · rw [e] at hl; simp at hl
  · rw [e] at hl; simp at hl

/-- What is live in the new words was live in the old ones. -/
theorem SnR.live (h : SnR s mv al q s'.R) (b : Nat) (hl : s'.liveAt (reφ φ mv) b) : ∃ r k o m, s.ob r k = some o ∧ o.kd = .live ∧ φ r k = some (b, m) ∧ ∃ j i, mv j i = some (r, k) := by
  obtain ⟨j, i, o', m, h1, h2, h3⟩ := hl
  obtain ⟨r, k, o, e1, e2, e3⟩ := h.ob h1
  rw [reφ_of e1] at h3
  exact ⟨r, k, o, m, e2, kd_live e3 h2, h3, j, i, e1⟩

theorem SnR.tbs (h : SnR s mv al q s'.R) {j i r k : Nat} (hj : mv j i = some (r, k)) : s'.tb (reφ φ mv) j i = s.tb φ r k ∨ s'.tb (reφ φ mv) j i = none := by
  cases ho : s'.ob j i with
  | none => right; simp [S.tb, ho]
  | some o' =>
    obtain ⟨r', k', o, e1, e2, e3⟩ := h.ob ho
    rw [hj] at e1; simp only [Option.some.injEq, Prod.mk.injEq] at e1
    obtain ⟨rfl, rfl⟩ := e1
    left
    rw [tb_of ho, tb_of e2, e3.sz, reφ_of hj]

/-- The memory, in the new words. `A` may be wider. -/
theorem RelM.sn (hM : RelM g s φ w) (h : SnR s mv al q s'.R) {g' : G} (hk : Keep g' w) (hstay : ∀ j k, g'.us0 j k → s'.us j k ∧ (s'.tb (reφ φ mv) j k = g'.tb0 j k ∨ s'.tb (reφ φ mv) j k = none)) (hlow : ∀ j k, g'.us0 j k → j < g'.m)
    (hmlt : ∀ b, g'.M0 b → b < g'.w0.heap.size) (halt : ∀ b, g'.A b → b < g'.w0.heap.size)
    (hown : ∀ r k o b m, (∃ j i, mv j i = some (r, k)) → s.ob r k = some o → φ r k = some (b, m) → g'.w0.heap.size ≤ b ∨ g'.M0 b)
    (H1 : ∀ b, s.ok g φ w b → s'.ok g' (reφ φ mv) w b)
    (H2 : ∀ r k o b m, s.ob r k = some o → al o.kd = true → (∀ j i, mv j i ≠ some (r, k)) → φ r k = some (b, m) → s'.ok g' (reφ φ mv) w b) :
    RelM g' s' (reφ φ mv) w ∧ ∀ {x x' : AV} {v : Value}, Sn s mv al q x x' → Rel w (s.ok g φ w) s.us (s.tb φ) x v → Rel w (s'.ok g' (reφ φ mv) w) s'.us (s'.tb (reφ φ mv)) x' v := by
  have hrel : ∀ {x x' : AV} {v : Value}, Sn s mv al q x x' → Rel w (s.ok g φ w) s.us (s.tb φ) x v → Rel w (s'.ok g' (reφ φ mv) w) s'.us (s'.tb (reφ φ mv)) x' v :=
    fun hs hr => hs.rel hM (fun x v _ hp hr => hr.pure hp H1) H2 (fun j i r k hj hu => ⟨h.us j i r k hj hu, h.tbs hj⟩) hr
  refine ⟨⟨?_, ?_, ?_, hk, hmlt, halt, hstay, hlow⟩, hrel⟩
  · intro j k o' ho'
    obtain ⟨r, k', o, e1, e2, e3⟩ := h.ob ho'
    have hob := hM.obj r k' o e2
    rw [reφ_of e1]
    cases hp : φ r k' with
    | none =>
      rw [hp] at hob
      simp only [ObRel] at hob ⊢
      apply List.length_eq_zero_iff.1
      rw [e3.len, hob]; rfl
    | some q =>
      obtain ⟨b, m⟩ := q
      rw [hp] at hob
      obtain ⟨c, ty, h1, h2, h3, h4⟩ := hob
      have hfl : o'.es.flatten.length = o.es.flatten.length := by rw [flatten_length _ e3.each, flatten_length _ h3, e3.len]
      refine ⟨c, ty, h1, h2, by rw [e3.sz]; exact e3.each, fun i x' hx' => ?_⟩
      have hlt : i < o.es.flatten.length := by rw [← hfl]; exact lt_of_get hx'
      have hx := List.getElem?_eq_getElem hlt
      obtain ⟨u, f1, f2, f3⟩ := h4 i _ hx
      exact ⟨u, f1, f2, hrel (e3.at_ i _ x' hx hx') f3⟩
  · intro j k o j' k' o' b m m' h1 h2 h3 h4
    obtain ⟨r, k1, p, e1, e2, -⟩ := h.ob h1
    obtain ⟨r', k1', p', e1', e2', -⟩ := h.ob h2
    rw [reφ_of e1] at h3
    rw [reφ_of e1'] at h4
    obtain ⟨rfl, rfl⟩ := hM.inj r k1 p r' k1' p' b m m' e2 e2' h3 h4
    exact h.inj _ _ _ _ _ e1 e1'
  · intro j k o b m h1 h2
    obtain ⟨r, k1, p, e1, e2, -⟩ := h.ob h1
    rw [reφ_of e1] at h2
    exact hown r k1 p b m ⟨j, k, e1⟩ e2 h2

/-- A state, said anew. -/
theorem RelS.restate {a : Act} (h : RelS g s φ a w) (hR : SnR s mv (fun _ => true) q s'.R) (hE : ∀ t, Sn s mv (fun _ => true) q (s.E t) (s'.E t)) (hfix : ∀ j k, g.us0 j k → mv j k = some (j, k)) : RelS g s' (reφ φ mv) a w := by
  have hno : ∀ b, s'.liveAt (reφ φ mv) b → s.liveAt φ b := fun b hl => by
    obtain ⟨r, k, o, m, h1, h2, h3, -⟩ := hR.live b hl
    exact ⟨r, k, o, m, h1, h2, h3⟩
  have hstay : ∀ j k, g.us0 j k → s'.us j k ∧ (s'.tb (reφ φ mv) j k = g.tb0 j k ∨ s'.tb (reφ φ mv) j k = none) := by
    intro j k hj
    obtain ⟨e1, e2⟩ := h.stay j k hj
    refine ⟨hR.us j k j k (hfix j k hj) e1, ?_⟩
    rcases hR.tbs (φ := φ) (hfix j k hj) with e | e
    · rw [e]; exact e2
    · exact .inr e
  obtain ⟨h1, h2⟩ := h.toRelM.sn hR h.keep hstay h.low h.mlt h.alt (fun r k o b m _ ho hp => h.own r k o b m ho hp)
    (fun b hb => ⟨hb.1, hb.2.1, fun hl => hb.2.2 (hno b hl)⟩)
    (fun r k o b m ho _ hr hp => by
      have hob := h.obj r k o ho
      rw [hp] at hob
      obtain ⟨c, ty, e1, -⟩ := hob
      refine ⟨(Array.getElem?_eq_some_iff.1 e1).1, ?_, fun hl => ?_⟩
      · rcases h.own r k o b m ho hp with e | e
        · exact .inr (.inl e)
        · exact .inr (.inr e)
      · obtain ⟨r', k', o', m', f1, f2, f3, ⟨j4, i4, f4⟩⟩ := hR.live b hl
        obtain ⟨rfl, rfl⟩ := h.inj r k o r' k' o' b m m' ho f1 hp f3
        exact hr j4 i4 f4)
  exact { toRelM := h1, env := fun t => h2 (hE t) (h.env t), defers := h.defers, tsz := h.tsz }
end
end Go.VL
