/- How abstract states change with memory. -/
import Derived.Test.YtiacejpdgjmdfabGreatVlA
namespace Go.VL
set_option linter.unusedVariables false
set_option linter.unusedSimpArgs false
open Go

def S.put (s : S) (dst : Option Tmp) (v : AV) : S :=
  match dst with
  | some t => { s with E := fun u => if u = t then v else s.E u }
  | none => s

def S.setRow (s : S) (r : Nat) (row : List Ob) : S := { s with R := fun q => if q = r then some row else s.R q }

@[simp] theorem S.put_R (s : S) (dst : Option Tmp) (v : AV) : (s.put dst v).R = s.R := by cases dst <;> rfl
@[simp] theorem S.setRow_E (s : S) (r : Nat) (row : List Ob) : (s.setRow r row).E = s.E := rfl

/-- Two states with the same rows. -/
theorem ob_congr {s s' : S} (h : s'.R = s.R) : s'.ob = s.ob := by funext r k; simp [S.ob, h]
theorem us_congr {s s' : S} (h : s'.R = s.R) : s'.us = s.us := by funext r k; simp [S.us, h]
theorem tb_congr {s s' : S} (h : s'.R = s.R) (φ : Plc) : s'.tb φ = s.tb φ := by unfold S.tb; rw [ob_congr h]
theorem liveAt_congr {s s' : S} (h : s'.R = s.R) (φ : Plc) : s'.liveAt φ = s.liveAt φ := by unfold S.liveAt; rw [ob_congr h]
theorem ok_congr {s s' : S} (h : s'.R = s.R) (g : G) (φ : Plc) (w : World) : s'.ok g φ w = s.ok g φ w := by
  funext b; unfold S.ok; rw [liveAt_congr h]

theorem RelM.congr {g : G} {s s' : S} {φ : Plc} {w : World} (h : RelM g s φ w) (e : s'.R = s.R) : RelM g s' φ w where
  obj := by rw [ob_congr e, us_congr e, tb_congr e, ok_congr e]; exact h.obj
  inj := by rw [ob_congr e]; exact h.inj
  own := by rw [ob_congr e]; exact h.own
  keep := h.keep
  mlt := h.mlt
  alt := h.alt
  stay := by rw [us_congr e, tb_congr e]; exact h.stay
  low := h.low

theorem getD_put (a : Act) (dst : Option Tmp) (v : Value) (t : Nat) (hsz : ∀ d, dst = some d → d < a.tmps.size) :
    (a.put dst v).tmps.getD t undef = if dst = some t then v else a.tmps.getD t undef := by
  cases dst with
  | none => simp [Act.put]
  | some d =>
    have := hsz d rfl
    simp only [Act.put, Array.getD_eq_getD_getElem?, Array.getElem?_setIfInBounds, Option.some.injEq]
    by_cases e : d = t
    · subst e; simp [this]
    · simp [e]

theorem RelS.put {g : G} {s : S} {φ : Plc} {a : Act} {w : World} (h : RelS g s φ a w) (dst : Option Tmp) {x : AV} {v : Value}
    (hd : ∀ d, dst = some d → d < g.N) (hr : Rel w (s.ok g φ w) s.us (s.tb φ) x v) : RelS g (s.put dst x) φ (a.put dst v) w where
  toRelM := h.toRelM.congr (S.put_R s dst x)
  env := by
    have e := S.put_R s dst x
    rw [ok_congr e, us_congr e, tb_congr e]
    intro t
    rw [getD_put a dst v t fun d hd' => Nat.lt_of_lt_of_le (hd d hd') h.tsz]
    cases dst with
    | none => simpa [S.put] using h.env t
    | some d =>
      simp only [S.put, Option.some.injEq]
      by_cases e : t = d
      · subst e; simpa using hr
      · rw [if_neg e, if_neg (Ne.symm e)]; exact h.env t
  defers := by cases dst <;> exact h.defers
  tsz := by cases dst <;> simpa [Act.put] using h.tsz

/-- A change of memory and of the rows. -/
structure Step (g : G) (s : S) (φ : Plc) (w : World) (s' : S) (φ' : Plc) (w' : World) : Prop where
  us : ∀ r k, s.us r k → s'.us r k
  tb : ∀ r k, s.us r k → s'.tb φ' r k = s.tb φ r k ∨ s'.tb φ' r k = none
  live : ∀ b, s'.liveAt φ' b → s.liveAt φ b ∨ w.heap.size ≤ b
  heap : ∀ b, b < w.heap.size → ¬ s.liveAt φ b → w'.heap[b]? = w.heap[b]?
  size : w.heap.size ≤ w'.heap.size

theorem Step.ok {g : G} {s s' : S} {φ φ' : Plc} {w w' : World} (h : Step g s φ w s' φ' w') (b : Nat) (hb : s.ok g φ w b) : s'.ok g φ' w' b :=
  ⟨Nat.lt_of_lt_of_le hb.1 h.size, hb.2.1, fun hl => by
    rcases h.live b hl with h1 | h1
    · exact hb.2.2 h1
    · exact absurd hb.1 (by omega)⟩

theorem Step.rel {g : G} {s s' : S} {φ φ' : Plc} {w w' : World} (h : Step g s φ w s' φ' w') {x : AV} {v : Value}
    (hr : Rel w (s.ok g φ w) s.us (s.tb φ) x v) : Rel w' (s'.ok g φ' w') s'.us (s'.tb φ') x v :=
  hr.mono h.ok (fun b hb => h.heap b hb.1 hb.2.2) h.us h.tb

theorem Step.obj {g : G} {s s' : S} {φ φ' : Plc} {w w' : World} (h : Step g s φ w s' φ' w') {o : Ob} {p : Option (Nat × Nat)}
    (hp : ∀ b m, p = some (b, m) → w'.heap[b]? = w.heap[b]?) (ho : ObRel w (s.ok g φ w) s.us (s.tb φ) o p) :
    ObRel w' (s'.ok g φ' w') s'.us (s'.tb φ') o p := by
  cases p with
  | none => exact ho
  | some q =>
    obtain ⟨b, m⟩ := q
    obtain ⟨c, ty, h1, h2, h3, h4⟩ := ho
    refine ⟨c, ty, (hp b m rfl).trans h1, h2, h3, fun j x hx => ?_⟩
    obtain ⟨v, e1, e2, e3⟩ := h4 j x hx
    exact ⟨v, e1, e2, h.rel e3⟩

theorem Step.stay {g : G} {s s' : S} {φ φ' : Plc} {w w' : World} (h : Step g s φ w s' φ' w')
    (hs : ∀ j k, g.us0 j k → s.us j k ∧ (s.tb φ j k = g.tb0 j k ∨ s.tb φ j k = none)) : ∀ j k, g.us0 j k → s'.us j k ∧ (s'.tb φ' j k = g.tb0 j k ∨ s'.tb φ' j k = none) := by
  intro j k hj
  obtain ⟨h1, h2⟩ := hs j k hj
  refine ⟨h.us j k h1, ?_⟩
  rcases h.tb j k h1 with e | e
  · rw [e]; exact h2
  · exact .inr e

/-- The frame. -/
theorem Keep.step {g : G} {w w' : World} (h : Keep g w) (h1 : w'.os = w.os) (h2 : w'.tape = w.tape) (h3 : w'.output = w.output) (h4 : w.heap.size ≤ w'.heap.size)
    (h5 : ∀ b, b < g.w0.heap.size → ¬ g.M0 b → w'.heap[b]? = w.heap[b]?) : Keep g w' :=
  ⟨h1.trans h.os, h2.trans h.tape, h3.trans h.output, Nat.le_trans h.size h4, fun b hb hm => (h5 b hb hm).trans (h.block b hb hm)⟩

theorem ob_setRow (s : S) (r : Nat) (row : List Ob) (q k : Nat) : (s.setRow r row).ob q k = if q = r then obIn (some row) k else s.ob q k := by
  unfold S.ob S.setRow
  by_cases e : q = r <;> simp [e]

theorem us_setRow (s : S) (r : Nat) (row : List Ob) (q k : Nat) : (s.setRow r row).us q k ↔ (if q = r then k < row.length else s.us q k) := by
  unfold S.us S.setRow
  by_cases e : q = r <;> simp [e]

theorem us_of_ob {s : S} {r k : Nat} {o : Ob} (h : s.ob r k = some o) : s.us r k := by
  unfold S.ob obIn at h
  unfold S.us
  cases hr : s.R r with
  | none => rw [hr] at h; simp at h
  | some l =>
    rw [hr] at h
    simp only at h
    rcases Nat.lt_or_ge k l.length with h1 | h1
    · simpa using h1
    · rw [List.getElem?_eq_none h1] at h; simp at h

theorem not_us_of_none {s : S} {r : Nat} (h : s.R r = none) (k : Nat) : ¬ s.us r k := by simp [S.us, h]

/-- A row of other contents keeps what there is if it is as long. -/
theorem us_setRow_of (s : S) {r : Nat} {l row : List Ob} (hr : s.R r = some l) (hl : l.length ≤ row.length) (q k : Nat) (h : s.us q k) : (s.setRow r row).us q k := by
  rw [us_setRow]
  by_cases e : q = r
  · subst e; rw [if_pos rfl]; simp [S.us, hr] at h; omega
  · rw [if_neg e]; exact h

theorem ob_none_of_unused {s : S} {r : Nat} (h : s.R r = none) (k : Nat) : s.ob r k = none := by simp [S.ob, h, obIn]

def Plc.set (φ : Plc) (r k : Nat) (p : Option (Nat × Nat)) : Plc := fun q j => if q = r ∧ j = k then p else φ q j

theorem obIn_one (o : Ob) (k : Nat) : obIn (some [o]) k = if k = 0 ∧ o.kd ≠ .gone then some o else none := by
  unfold obIn
  cases k with
  | zero => by_cases h : o.kd = .gone <;> simp [h]
  | succ k => simp

theorem Rel.drew {w : World} {ok : Nat → Prop} {us : Us} {tb : Tb} {x : AV} {v : Value} (h : Rel w ok us tb x v) : Rel w.drew ok us tb x v :=
  h.mono (fun _ h => h) (fun _ _ => rfl) (fun _ _ h => h) (fun _ _ _ => .inl rfl)

theorem ObRel.drew {w : World} {ok : Nat → Prop} {us : Us} {tb : Tb} {o : Ob} {p : Option (Nat × Nat)} (h : ObRel w ok us tb o p) : ObRel w.drew ok us tb o p := by
  cases p with
  | none => exact h
  | some q =>
    obtain ⟨c, ty, h1, h2, h3, h4⟩ := h
    exact ⟨c, ty, h1, h2, h3, fun j x hx => let ⟨v, a, b, c⟩ := h4 j x hx; ⟨v, a, b, c.drew⟩⟩

theorem RelM.drew {g : G} {s : S} {φ : Plc} {w : World} (h : RelM g s φ w) : RelM g s φ w.drew :=
  { obj := fun r k o ho => (h.obj r k o ho).drew, inj := h.inj, own := h.own, keep := ⟨h.keep.os, h.keep.tape, h.keep.output, h.keep.size, h.keep.block⟩, mlt := h.mlt, alt := h.alt, stay := h.stay, low := h.low }

theorem RelS.drew {g : G} {s : S} {φ : Plc} {a : Act} {w : World} (h : RelS g s φ a w) : RelS g s φ a w.drew where
  toRelM := h.toRelM.drew
  env := fun t => (h.env t).drew
  defers := h.defers
  tsz := h.tsz

/-- A new block in a new row. -/
theorem RelS.alloc {g : G} {s : S} {φ : Plc} {a : Act} {w : World} (h : RelS g s φ a w) {r : Nat} (hr : s.R r = none) (o : Ob) (hk : o.kd = .live)
    (c : Array Value) (ty : TypeId) (hlen : ∀ e ∈ o.es, e.length = o.sz)
    (hc : ∀ (j : Nat) x, o.es.flatten[j]? = some x → ∃ v, c[j]? = some v ∧ cellV v = true ∧ Rel w (s.ok g φ w) s.us (s.tb φ) x v) :
    ∃ φ', φ' r 0 = some (w.heap.size, c.size) ∧ RelS g (s.setRow r [o]) φ' a (w.alloc (.cells c ty)) ∧
      ∀ x v, Rel w (s.ok g φ w) s.us (s.tb φ) x v → Rel (w.alloc (.cells c ty)) ((s.setRow r [o]).ok g φ' (w.alloc (.cells c ty))) (s.setRow r [o]).us ((s.setRow r [o]).tb φ') x v := by
  have hφ : ∀ q k, q ≠ r → (φ.set r 0 (some (w.heap.size, c.size))) q k = φ q k := fun q k hq => by simp [Plc.set, hq]
  have hob : ∀ q k, q ≠ r → (s.setRow r [o]).ob q k = s.ob q k := fun q k hq => by rw [ob_setRow, if_neg hq]
  have hobr : ∀ k, (s.setRow r [o]).ob r k = if k = 0 then some o else none := fun k => by
    rw [ob_setRow, if_pos rfl, obIn_one]; simp [hk]
  have hblk : ∀ q k p b m, s.ob q k = some p → φ q k = some (b, m) → b < w.heap.size := fun q k p b m hp hq => by
    have := h.obj q k p hp
    rw [hq] at this
    obtain ⟨c', ty', hh, _⟩ := this
    exact (Array.getElem?_eq_some_iff.1 hh).1
  have st : Step g s φ w (s.setRow r [o]) (φ.set r 0 (some (w.heap.size, c.size))) (w.alloc (.cells c ty)) := by
    refine ⟨fun q k hq => (us_setRow _ _ _ _ _).2 (by rw [if_neg (by rintro rfl; exact not_us_of_none hr k hq)]; exact hq), fun q k hq => ?_, fun b hb => ?_, fun b hb _ => heap_alloc_old w _ b hb, by simp⟩
    · have hne : q ≠ r := by rintro rfl; exact not_us_of_none hr k hq
      left
      simp only [S.tb, hob q k hne, hφ q k hne]
    · obtain ⟨q, k, p, m, h1, h2, h3⟩ := hb
      by_cases e : q = r
      · subst e
        rw [hobr] at h1
        by_cases e0 : k = 0
        · subst e0; simp [Plc.set] at h3; right; omega
        · simp [e0] at h1
      · rw [hob q k e] at h1; rw [hφ q k e] at h3
        exact .inl ⟨q, k, p, m, h1, h2, h3⟩
  refine ⟨φ.set r 0 (some (w.heap.size, c.size)), by simp [Plc.set], ?_, fun x v => st.rel⟩
  refine { toRelM := ⟨?_, ?_, ?_, ?_, h.mlt, h.alt, st.stay h.stay, h.low⟩, env := fun t => st.rel (h.env t), defers := h.defers, tsz := h.tsz }
  · intro q k p hp
    by_cases e : q = r
    · subst e
      rw [hobr] at hp
      by_cases e0 : k = 0
      · subst e0
        simp at hp
        subst hp
        simp only [Plc.set, and_self, if_true]
        exact ⟨c, ty, heap_alloc_new w _, rfl, hlen, fun j x hx => let ⟨v, e1, e2, e3⟩ := hc j x hx; ⟨v, e1, e2, st.rel e3⟩⟩
      · simp [e0] at hp
    · rw [hob q k e] at hp
      rw [hφ q k e]
      exact st.obj (fun b m hm => heap_alloc_old w _ b (hblk q k p b m hp hm)) (h.obj q k p hp)
  · intro q k p q' k' p' b m m' h1 h2 h3 h4
    by_cases e : q = r <;> by_cases e' : q' = r
    · subst e; subst e'
      rw [hobr] at h1 h2
      by_cases e0 : k = 0 <;> by_cases e1 : k' = 0 <;> simp [e0, e1] at h1 h2
      exact ⟨rfl, by omega⟩
    · subst e
      rw [hobr] at h1; rw [hob _ _ e'] at h2; rw [hφ _ _ e'] at h4
      by_cases e0 : k = 0 <;> simp [e0] at h1
      subst e0
      simp [Plc.set] at h3
      have := hblk q' k' p' b m' h2 h4
      omega
    · subst e'
      rw [hob _ _ e] at h1; rw [hobr] at h2; rw [hφ _ _ e] at h3
      by_cases e0 : k' = 0 <;> simp [e0] at h2
      subst e0
      simp [Plc.set] at h4
      have := hblk q k p b m h1 h3
      omega
    · rw [hob _ _ e] at h1; rw [hob _ _ e'] at h2; rw [hφ _ _ e] at h3; rw [hφ _ _ e'] at h4
      exact h.inj q k p q' k' p' b m m' h1 h2 h3 h4
  · intro q k p b m h1 h2
    by_cases e : q = r
    · subst e
      rw [hobr] at h1
      by_cases e0 : k = 0 <;> simp [e0] at h1
      subst e0
      simp [Plc.set] at h2
      left
      have := h.keep.size
      omega
    · rw [hob _ _ e] at h1; rw [hφ _ _ e] at h2
      exact h.own q k p b m h1 h2
  · exact h.keep.step rfl rfl rfl (by simp) fun b hb _ => heap_alloc_old w _ b (Nat.lt_of_lt_of_le hb h.keep.size)

theorem obIn_set (l : List Ob) (k : Nat) (o o' : Ob) (h : obIn (some l) k = some o) (hk : o'.kd ≠ .gone) (j : Nat) :
    obIn (some (l.set k o')) j = if j = k then some o' else obIn (some l) j := by
  unfold obIn at *
  have hlt : k < l.length := by
    rcases Nat.lt_or_ge k l.length with h1 | h1
    · exact h1
    · simp [List.getElem?_eq_none h1] at h
  by_cases e : j = k
  · subst e; simp [hlt, hk]
  · simp only [List.getElem?_set, if_neg (Ne.symm e), if_neg e]

/-- New contents for a live object: its block is written, nothing else. -/
theorem RelS.write {g : G} {s : S} {φ : Plc} {a : Act} {w w' : World} (h : RelS g s φ a w) {r k b m : Nat} {l : List Ob} {o : Ob} (hr : s.R r = some l) (ho : s.ob r k = some o)
    (hk : o.kd = .live) (hp : φ r k = some (b, m)) (es : List (List AV)) (c : Array Value) (ty : TypeId)
    (hw : w'.heap[b]? = some (.cells c ty (0, 0))) (hsz : w'.heap.size = w.heap.size) (hother : ∀ q, q ≠ b → w'.heap[q]? = w.heap[q]?)
    (hos : w'.os = w.os) (htp : w'.tape = w.tape) (hout : w'.output = w.output) (hm : c.size = m)
    (hlen : ∀ e ∈ es, e.length = o.sz)
    (hc : ∀ (j : Nat) x, es.flatten[j]? = some x → ∃ v, c[j]? = some v ∧ cellV v = true ∧ Rel w (s.ok g φ w) s.us (s.tb φ) x v) :
    RelS g (s.setRow r (l.set k { o with es })) φ a w' ∧
      ∀ x v, Rel w (s.ok g φ w) s.us (s.tb φ) x v → Rel w' ((s.setRow r (l.set k { o with es })).ok g φ w') (s.setRow r (l.set k { o with es })).us ((s.setRow r (l.set k { o with es })).tb φ) x v := by
  have hno : ({ o with es } : Ob).kd ≠ .gone := by rw [hk]; simp
  have hob : ∀ q j, (s.setRow r (l.set k { o with es })).ob q j = if q = r ∧ j = k then some { o with es } else s.ob q j := by
    intro q j
    rw [ob_setRow]
    by_cases e : q = r
    · subst e
      have ho' : obIn (some l) k = some o := by rw [← hr]; exact ho
      rw [if_pos rfl, obIn_set l k o _ ho' hno]
      by_cases e2 : j = k <;> simp [e2, S.ob, hr]
    · simp [e]
  have hlive : s.liveAt φ b := ⟨r, k, o, m, ho, hk, hp⟩
  have st : Step g s φ w (s.setRow r (l.set k { o with es })) φ w' := by
    refine ⟨us_setRow_of s hr (by simp), fun q j hq => .inl ?_, fun q hq => ?_, fun q hq hl => hother q fun e => hl (e ▸ hlive), Nat.le_of_eq hsz.symm⟩
    · simp only [S.tb, hob]
      by_cases e : q = r ∧ j = k
      · obtain ⟨rfl, rfl⟩ := e; simp [ho]
      · rw [if_neg e]
    · obtain ⟨q', j, p, m', h1, h2, h3⟩ := hq
      rw [hob] at h1
      by_cases e : q' = r ∧ j = k
      · obtain ⟨rfl, rfl⟩ := e
        exact .inl ⟨q', j, o, m', ho, hk, h3⟩
      · rw [if_neg e] at h1
        exact .inl ⟨q', j, p, m', h1, h2, h3⟩
  refine ⟨{ toRelM := ⟨?_, ?_, ?_, ?_, h.mlt, h.alt, st.stay h.stay, h.low⟩, env := fun t => st.rel (h.env t), defers := h.defers, tsz := h.tsz }, fun x v => st.rel⟩
  · intro q j p hpp
    rw [hob] at hpp
    by_cases e : q = r ∧ j = k
    · obtain ⟨rfl, rfl⟩ := e
      simp at hpp
      subst hpp
      rw [hp]
      exact ⟨c, ty, hw, hm, hlen, fun j x hx => let ⟨v, e1, e2, e3⟩ := hc j x hx; ⟨v, e1, e2, st.rel e3⟩⟩
    · rw [if_neg e] at hpp
      refine st.obj (fun b' m' hm' => hother b' ?_) (h.obj q j p hpp)
      rintro rfl
      exact e (h.inj q j p r k o b' m' m hpp ho hm' hp)
  · intro q j p q' j' p' b' m1 m2 h1 h2 h3 h4
    have key : ∀ q j p, (s.setRow r (l.set k { o with es })).ob q j = some p → ∃ p', s.ob q j = some p' := by
      intro q j p hq
      rw [hob] at hq
      by_cases e : q = r ∧ j = k
      · obtain ⟨rfl, rfl⟩ := e; exact ⟨o, ho⟩
      · rw [if_neg e] at hq; exact ⟨p, hq⟩
    obtain ⟨p1, hp1⟩ := key q j p h1
    obtain ⟨p2, hp2⟩ := key q' j' p' h2
    exact h.inj q j p1 q' j' p2 b' m1 m2 hp1 hp2 h3 h4
  · intro q j p b' m' h1 h2
    rw [hob] at h1
    by_cases e : q = r ∧ j = k
    · obtain ⟨rfl, rfl⟩ := e; exact h.own q j o b' m' ho h2
    · rw [if_neg e] at h1; exact h.own q j p b' m' h1 h2
  · refine h.keep.step hos htp hout (Nat.le_of_eq hsz.symm) fun b' hb' hm' => hother b' ?_
    rintro rfl
    rcases h.own r k o b' m ho hp with h1 | h1
    · omega
    · exact hm' h1

end Go.VL
