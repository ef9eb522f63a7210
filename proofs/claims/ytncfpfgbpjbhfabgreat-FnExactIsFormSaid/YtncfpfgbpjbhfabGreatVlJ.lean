/- Contracts of functions, and calls by contract. -/
import Derived.Test.YtncfpfgbpjbhfabGreatVlI
namespace Go.VL
set_option linter.unusedVariables false
set_option linter.unusedSimpArgs false
open Go

/-- A state of rows alone. -/
def rowsS (T : List (List Ob)) : S := { E := fun _ => .dead, R := fun r => T[r]? }

/-- Called with these values and the rows T, the function returns r and leaves the rows T'. -/
def VCall (P : Program) (f : FuncId) (args : List AV) (T : List (List Ob)) (r : AV) (T' : List (List Ob)) : Prop :=
  ∀ (g : G) (φ : Plc) (w : World) (vs : Array Value), g.w0 = w → g.m = T.length → g.tb0 = (rowsS T).tb φ → RelM g (rowsS T) φ w → vs.size = args.length →
    (∀ (j : Nat) x v, args[j]? = some x → vs[j]? = some v → Rel w ((rowsS T).ok g φ w) (rowsS T).us ((rowsS T).tb φ) x v) →
    Calls P f vs w fun e w' => ∃ v φ', e = .returned v ∧ RelM g (rowsS T') φ' w' ∧ Rel w' ((rowsS T').ok g φ' w') (rowsS T').us ((rowsS T').tb φ') r v

/-- A value without memory. -/
inductive Sc : AV → Prop
  | b (x : Bool) : Sc (.b x)
  | n (k : IntKind) (x : Int) : Sc (.n k x)
  | s (x : ByteArray) : Sc (.s x)
  | nilp : Sc .nilp
  | nils : Sc .nils
  | tup {c : List AV} (h : ∀ x ∈ c, Sc x) : Sc (.tup c)

theorem Rel.sc {w w' : World} {ok us ok' us' : Nat → Prop} {tb tb' : Tb} {x : AV} (hs : Sc x) : ∀ {v : Value}, Rel w ok us tb x v → Rel w' ok' us' tb' x v := by
  induction hs with
  | b x => intro v h; rw [h.b_inv]; exact .b x
  | n k x => intro v h; rw [h.n_inv]; exact .n k x
  | s x => intro v h; rw [h.s_inv]; exact .s x
  | nilp => intro v h; rw [h.nilp_inv]; exact .nilp
  | nils => intro v h; rw [h.nils_inv]; exact .nils
  | @tup c hc ih =>
    intro v h
    obtain ⟨vs, rfl, h1, h3⟩ := h.tup_inv
    exact .tup vs h1 fun j x u hx hu => ih x (List.mem_of_getElem? hx) (h3 j x u hx hu)

section
variable {P : Program} {g : G} {s : S} {φ : Plc} {a : Act} {w : World}

theorem blk_lt (h : RelM g s φ w) {r k b m : Nat} {o : Ob} (ho : s.ob r k = some o) (hp : φ r k = some (b, m)) : b < w.heap.size := by
  have := h.obj r k o ho
  rw [hp] at this
  obtain ⟨c, ty, e, -⟩ := this
  exact (Array.getElem?_eq_some_iff.1 e).1

theorem ok_frz (h : RelM g s φ w) {r k b m : Nat} {o : Ob} (ho : s.ob r k = some o) (hk : o.kd = .frz) (hp : φ r k = some (b, m)) : s.ok g φ w b := by
  refine ⟨blk_lt h ho hp, ?_, ?_⟩
  · rcases h.own r k o b m ho hp with e | e
    · exact .inr (.inl e)
    · exact .inr (.inr e)
  · rintro ⟨r', k', o', m', h1, h2, h3⟩
    obtain ⟨rfl, rfl⟩ := h.inj r k o r' k' o' b m m' ho h1 hp h3
    rw [ho] at h1; simp at h1; subst h1; rw [hk] at h2; simp at h2

/-- What a call is handed: the memory and the arguments in the callee's words. -/
theorem enter (h : RelM g s φ w) {mv : Nat → Option Nat} {al : Kd → Bool} {T : List (List Ob)} (A : Nat → Prop)
    (hA : ∀ b, A b → b < w.heap.size) (hA1 : ∀ b, s.ok g φ w b → A b)
    (hA2 : ∀ r k o b m, s.ob r k = some o → al o.kd = true → φ r k = some (b, m) → A b)
    (hR : SnR s mv al (rowsS T).R) (hlive : ∀ r k o, (∃ j, mv j = some r) → s.ob r k = some o → o.kd = .live) :
    ∃ g' : G, g'.w0 = w ∧ g'.A = A ∧ g'.m = T.length ∧ g'.tb0 = (rowsS T).tb (reφ φ mv) ∧
      (g'.M0 = fun b => ∃ r k o m, (∃ j, mv j = some r) ∧ s.ob r k = some o ∧ φ r k = some (b, m)) ∧ RelM g' (rowsS T) (reφ φ mv) w ∧
      ∀ {x x' : AV} {v : Value}, Sn s mv al x x' → Rel w (s.ok g φ w) s.us (s.tb φ) x v → Rel w ((rowsS T).ok g' (reφ φ mv) w) (rowsS T).us ((rowsS T).tb (reφ φ mv)) x' v := by
  let g' : G := { w0 := w, A := A, M0 := fun b => ∃ r k o m, (∃ j, mv j = some r) ∧ s.ob r k = some o ∧ φ r k = some (b, m), N := 0, m := T.length, tb0 := (rowsS T).tb (reφ φ mv) }
  refine ⟨g', rfl, rfl, rfl, rfl, rfl, ?_⟩
  have hno : ∀ b, (rowsS T).liveAt (reφ φ mv) b → ∃ r k o m, s.ob r k = some o ∧ o.kd = .live ∧ φ r k = some (b, m) ∧ ∃ j, mv j = some r := fun b hl => hR.live b hl
  refine RelM.sn (s' := rowsS T) (g' := g') h hR ⟨rfl, rfl, rfl, Nat.le_refl _, fun _ _ _ => rfl⟩ ?_ ?_ hA ?_ ?_ ?_
  · intro j k hj
    refine ⟨?_, .inl rfl⟩
    have hj : j < T.length := hj
    simp [S.us, rowsS, hj]
  · rintro b ⟨r, k, o, m, -, ho, hp⟩
    exact blk_lt h ho hp
  · intro r k o b m hm ho hp
    exact .inr ⟨r, k, o, m, hm, ho, hp⟩
  · intro b hb
    refine ⟨hb.1, .inl (hA1 b hb), fun hl => ?_⟩
    obtain ⟨r, k, o, m, h1, h2, h3, -⟩ := hno b hl
    exact hb.2.2 ⟨r, k, o, m, h1, h2, h3⟩
  · intro r k o b m ho ha hr hp
    refine ⟨blk_lt h ho hp, .inl (hA2 r k o b m ho ha hp), fun hl => ?_⟩
    obtain ⟨r', k', o', m', h1, h2, h3, ⟨j, hj⟩⟩ := hno b hl
    obtain ⟨rfl, rfl⟩ := h.inj r k o r' k' o' b m m' ho h1 hp h3
    exact hr j hj

/-- Behind a call that answers a value without memory and was handed no rows: nothing turns. -/
theorem leave_sc (h : RelS g s φ a w) {w' : World} {g' : G} (hg : g'.w0 = w) (hM : g'.M0 = fun _ => False) (hk : Keep g' w') : RelS g s φ a w' := by
  have hb : ∀ b, b < w.heap.size → w'.heap[b]? = w.heap[b]? := fun b hb => by
    have := hk.block b (by rw [hg]; exact hb) (by rw [hM]; exact id)
    rw [hg] at this; exact this
  have hsz : w.heap.size ≤ w'.heap.size := by have := hk.size; rw [hg] at this; exact this
  have st : Step g s φ w s φ w' := ⟨fun _ h => h, fun _ _ _ => .inl rfl, fun b hl => .inl hl, fun b hb' _ => hb b hb', hsz⟩
  refine { toRelM := ⟨?_, h.inj, h.own, ?_, h.mlt, h.alt, h.stay⟩, env := fun t => st.rel (h.env t), defers := h.defers, tsz := h.tsz }
  · intro r k o ho
    exact st.obj (fun b m hp => hb b (blk_lt h.toRelM ho hp)) (h.obj r k o ho)
  · have e1 := hk.os; have e2 := hk.tape; have e3 := hk.output
    rw [hg] at e1 e2 e3
    exact h.keep.step e1 e2 e3 hsz fun b hb' _ => hb b (Nat.lt_of_lt_of_le hb' h.keep.size)

/-- Behind a call that was handed rows: they are as it left them; its new row is a new row. -/
theorem leave (h : RelS g s φ a w) {w' : World} {mv : Nat → Option Nat} {mo : Nat → Option Nat} {g' : G} {T T1 : List (List Ob)} {φ1 : Plc}
    (hg : g'.w0 = w) (hA : g'.A = s.ok g φ w) (hm : g'.m = T.length) (htb : g'.tb0 = (rowsS T).tb (reφ φ mv))
    (hM : g'.M0 = fun b => ∃ r k o m, (∃ j, mv j = some r) ∧ s.ob r k = some o ∧ φ r k = some (b, m))
    (hlive : ∀ r k o, (∃ j, mv j = some r) → s.ob r k = some o → o.kd = .live)
    (hR : SnR s mv (fun k => k = .frz) (rowsS T).R)
    (h1 : RelM g' (rowsS T1) φ1 w') {R2 : Nat → Option (List Ob)} (hR2 : SnR (rowsS T1) mo (fun _ => false) R2)
    -- the rows handed over come back to their places; all others are new
    (hback : ∀ j r, mv j = some r → mo r = some j ∧ j < T.length) (hnew : ∀ q j, mo q = some j → (mv j = some q) ∨ (s.R q = none))
    (hdom : ∀ q j, mo q = some j → (R2 q).isSome = true) {s2 : S} (hE : s2.E = s.E) (hs2 : s2.R = fun q => if (mo q).isSome then R2 q else s.R q)
    {x x' : AV} {v : Value} (hx : Sn (rowsS T1) mo (fun _ => false) x x') (hv : Rel w' ((rowsS T1).ok g' φ1 w') (rowsS T1).us ((rowsS T1).tb φ1) x v) :
    ∃ φ2, RelS g s2 φ2 a w' ∧ Rel w' (s2.ok g φ2 w') s2.us (s2.tb φ2) x' v := by
  let φ2 : Plc := fun q k => if (mo q).isSome then reφ φ1 mo q k else φ q k
  have hk := h1.keep
  have hsz : w.heap.size ≤ w'.heap.size := by have := hk.size; rw [hg] at this; exact this
  have hblk : ∀ b, b < w.heap.size → ¬ g'.M0 b → w'.heap[b]? = w.heap[b]? := fun b hb hm' => by
    have := hk.block b (by rw [hg]; exact hb) hm'
    rw [hg] at this; exact this
  -- objects of s2
  have hob : ∀ q k o, s2.ob q k = some o → (∃ j p, mo q = some j ∧ (rowsS T1).ob j k = some p ∧ SnO (rowsS T1) mo (fun _ => false) p o ∧ φ2 q k = φ1 j k) ∨
      (mo q = none ∧ s.ob q k = some o ∧ φ2 q k = φ q k) := by
    intro q k o ho
    cases hq : mo q with
    | none =>
      right
      refine ⟨rfl, ?_, by simp [φ2, hq]⟩
      have : s2.R q = s.R q := by rw [hs2]; simp [hq]
      unfold S.ob at ho ⊢; rw [this] at ho; exact ho
    | some j =>
      left
      have hr : s2.R q = R2 q := by rw [hs2]; simp [hq]
      have ho' : ({ E := s.E, R := R2 } : S).ob q k = some o := by unfold S.ob at ho ⊢; rw [hr] at ho; exact ho
      obtain ⟨r, p, e1, e2, e3⟩ := SnR.ob (s' := { E := s.E, R := R2 }) hR2 ho'
      rw [hq] at e1; simp at e1; subst e1
      exact ⟨j, p, rfl, e2, e3, by simp [φ2, reφ, hq]⟩
  -- where the callee's blocks lie
  have hcb : ∀ j k p b m, (rowsS T1).ob j k = some p → φ1 j k = some (b, m) → w.heap.size ≤ b ∨ ∃ r k' o m', (∃ j, mv j = some r) ∧ s.ob r k' = some o ∧ φ r k' = some (b, m') := by
    intro j k p b m hp hb
    rcases h1.own j k p b m hp hb with e | e
    · rw [hg] at e; exact .inl e
    · rw [hM] at e; exact .inr e
  have hmvmo : ∀ r, (∃ j, mv j = some r) → (mo r).isSome = true := fun r ⟨j, hj⟩ => by rw [(hback j r hj).1]; rfl
  -- a block of an old object that stays
  have hold : ∀ q k o b m, mo q = none → s.ob q k = some o → φ q k = some (b, m) → b < w.heap.size ∧ ¬ g'.M0 b := by
    intro q k o b m hq ho hp
    refine ⟨blk_lt h.toRelM ho hp, fun hm' => ?_⟩
    rw [hM] at hm'
    obtain ⟨r, k', o', m', hr, ho', hp'⟩ := hm'
    obtain ⟨rfl, rfl⟩ := h.inj q k o r k' o' b m m' ho ho' hp hp'
    have := hmvmo q hr
    rw [hq] at this; simp at this
  have hlive2 : ∀ b, s2.liveAt φ2 b → (rowsS T1).liveAt φ1 b ∨ (∃ q k o m, mo q = none ∧ s.ob q k = some o ∧ o.kd = .live ∧ φ q k = some (b, m)) := by
    rintro b ⟨q, k, o, m, ho, hkd, hp⟩
    rcases hob q k o ho with ⟨j, p, e1, e2, e3, e4⟩ | ⟨e1, e2, e3⟩
    · rw [e4] at hp
      exact .inl ⟨j, k, p, m, e2, kd_live e3 hkd, hp⟩
    · rw [e3] at hp
      exact .inr ⟨q, k, o, m, e1, e2, hkd, hp⟩
  -- old values
  have hok : ∀ b, s.ok g φ w b → s2.ok g φ2 w' b := by
    intro b hb
    refine ⟨Nat.lt_of_lt_of_le hb.1 hsz, hb.2.1, fun hl => ?_⟩
    rcases hlive2 b hl with ⟨j, k, p, m, e1, e2, e3⟩ | ⟨q, k, o, m, e1, e2, e3, e4⟩
    · rcases hcb j k p b m e1 e3 with e | ⟨r, k', o, m', hr, ho, hp⟩
      · have := hb.1; omega
      · exact hb.2.2 ⟨r, k', o, m', ho, hlive r k' o hr ho, hp⟩
    · exact hb.2.2 ⟨q, k, o, m, e2, e3, e4⟩
  have hus : ∀ r, s.us r → s2.us r := by
    intro r hr
    unfold S.us at hr ⊢
    rw [hs2]
    cases hq : mo r with
    | none => simpa [hq] using hr
    | some j => simpa [hq] using hdom r j hq
  have htbs : ∀ r k, s.us r → s2.tb φ2 r k = s.tb φ r k ∨ s2.tb φ2 r k = none := by
    intro r k hr
    cases ho : s2.ob r k with
    | none => right; simp [S.tb, ho]
    | some o =>
      left
      rcases hob r k o ho with ⟨j, p, e1, e2, e3, e4⟩ | ⟨e1, e2, e3⟩
      · rcases hnew r j e1 with hj | hj
        · have hjl := (hback j r hj).2
          have hst := (h1.stay j k (by rw [hm]; exact hjl)).2
          rw [htb] at hst
          rw [tb_of e2] at hst
          have hst : some (p.sz, φ1 j k) = (rowsS T).tb (reφ φ mv) j k := by
            rcases hst with e | e
            · exact e
            · simp at e
          have := hR.tbs (φ := φ) hj k
          rw [← hst] at this
          rw [tb_of ho, e3.sz, e4]
          rcases this with e | e
          · exact e
          · simp at e
        · unfold S.us at hr; rw [hj] at hr; simp at hr
      · rw [tb_of ho, tb_of e2, e3]
  have hheap : ∀ b, s.ok g φ w b → w'.heap[b]? = w.heap[b]? := by
    intro b hb
    refine hblk b hb.1 fun hm' => ?_
    rw [hM] at hm'
    obtain ⟨r, k', o, m', hr, ho, hp⟩ := hm'
    exact hb.2.2 ⟨r, k', o, m', ho, hlive r k' o hr ho, hp⟩
  have hrel : ∀ {y : AV} {u : Value}, Rel w (s.ok g φ w) s.us (s.tb φ) y u → Rel w' (s2.ok g φ2 w') s2.us (s2.tb φ2) y u :=
    fun hr => hr.mono hok hheap hus htbs
  -- the callee's values
  have hok1 : ∀ b, (rowsS T1).ok g' φ1 w' b → s2.ok g φ2 w' b := by
    intro b hb
    have hown : g.A b ∨ g.w0.heap.size ≤ b ∨ g.M0 b := by
      rcases hb.2.1 with e | e | e
      · rw [hA] at e; exact e.2.1
      · rw [hg] at e; exact .inr (.inl (Nat.le_trans h.keep.size e))
      · rw [hM] at e
        obtain ⟨r, k, o, m, -, ho, hp⟩ := e
        rcases h.own r k o b m ho hp with e | e
        · exact .inr (.inl e)
        · exact .inr (.inr e)
    refine ⟨hb.1, hown, fun hl => ?_⟩
    rcases hlive2 b hl with e | ⟨q, k, o, m, e1, e2, e3, e4⟩
    · exact hb.2.2 e
    · have hq := hold q k o b m e1 e2 e4
      rcases hb.2.1 with e | e | e
      · rw [hA] at e; exact e.2.2 ⟨q, k, o, m, e2, e3, e4⟩
      · rw [hg] at e; omega
      · exact hq.2 e
  have hrel1 : ∀ {y y' : AV} {u : Value}, Sn (rowsS T1) mo (fun _ => false) y y' → Rel w' ((rowsS T1).ok g' φ1 w') (rowsS T1).us ((rowsS T1).tb φ1) y u → Rel w' (s2.ok g φ2 w') s2.us (s2.tb φ2) y' u := by
    intro y y' u hs hr
    refine hs.rel h1 hok1 (fun _ _ _ _ _ _ ha _ _ => by simp at ha) ?_ hr
    intro q j hq hj
    refine ⟨?_, fun k => ?_⟩
    · unfold S.us; rw [hs2]; simpa [hq] using hdom q j hq
    · cases ho : s2.ob q k with
      | none => right; simp [S.tb, ho]
      | some o =>
        left
        rcases hob q k o ho with ⟨j', p, e1, e2, e3, e4⟩ | ⟨e1, -⟩
        · rw [hq] at e1; simp at e1; subst e1
          rw [tb_of ho, tb_of e2, e3.sz, e4]
        · rw [hq] at e1; simp at e1
  refine ⟨φ2, { toRelM := ⟨?_, ?_, ?_, ?_, h.mlt, h.alt, ?_⟩, env := fun t => by rw [hE]; exact hrel (h.env t), defers := h.defers, tsz := h.tsz }, hrel1 hx hv⟩
  · intro q k o ho
    rcases hob q k o ho with ⟨j, p, e1, e2, e3, e4⟩ | ⟨e1, e2, e3⟩
    · have hp := h1.obj j k p e2
      rw [e4]
      cases hpp : φ1 j k with
      | none =>
        rw [hpp] at hp
        simp only [ObRel] at hp ⊢
        apply List.length_eq_zero_iff.1
        rw [e3.len, hp]; rfl
      | some bm =>
        obtain ⟨b, m⟩ := bm
        rw [hpp] at hp
        obtain ⟨c, ty, f1, f2, f3, f4⟩ := hp
        have hfl : o.es.flatten.length = p.es.flatten.length := by rw [flatten_length _ e3.each, flatten_length _ f3, e3.len]
        refine ⟨c, ty, f1, f2, by rw [e3.sz]; exact e3.each, fun i x' hx' => ?_⟩
        have hlt : i < p.es.flatten.length := by rw [← hfl]; exact lt_of_get hx'
        have hx0 := List.getElem?_eq_getElem hlt
        obtain ⟨u, u1, u2, u3⟩ := f4 i _ hx0
        exact ⟨u, u1, u2, hrel1 (e3.at_ i _ x' hx0 hx') u3⟩
    · have hp := h.obj q k o e2
      rw [e3]
      cases hpp : φ q k with
      | none => rw [hpp] at hp; exact hp
      | some bm =>
        obtain ⟨b, m⟩ := bm
        rw [hpp] at hp
        obtain ⟨c, ty, f1, f2, f3, f4⟩ := hp
        obtain ⟨hb1, hb2⟩ := hold q k o b m e1 e2 hpp
        refine ⟨c, ty, (hblk b hb1 hb2).trans f1, f2, f3, fun i x' hx' => ?_⟩
        obtain ⟨u, u1, u2, u3⟩ := f4 i x' hx'
        exact ⟨u, u1, u2, hrel u3⟩
  · intro q k o q' k' o' b m m' h2 h3 h4 h5
    rcases hob q k o h2 with ⟨j, p, e1, e2, e3, e4⟩ | ⟨e1, e2, e3⟩ <;> rcases hob q' k' o' h3 with ⟨j', p', e1', e2', e3', e4'⟩ | ⟨e1', e2', e3'⟩
    · rw [e4] at h4; rw [e4'] at h5
      obtain ⟨rfl, rfl⟩ := h1.inj j k p j' k' p' b m m' e2 e2' h4 h5
      exact ⟨hR2.nodup _ _ _ e1 e1', rfl⟩
    · rw [e4] at h4; rw [e3'] at h5
      obtain ⟨f1, f2⟩ := hold q' k' o' b m' e1' e2' h5
      rcases hcb j k p b m e2 h4 with e | e
      · omega
      · exact absurd (by rw [hM]; exact e) f2
    · rw [e3] at h4; rw [e4'] at h5
      obtain ⟨f1, f2⟩ := hold q k o b m e1 e2 h4
      rcases hcb j' k' p' b m' e2' h5 with e | e
      · omega
      · exact absurd (by rw [hM]; exact e) f2
    · rw [e3] at h4; rw [e3'] at h5
      exact h.inj q k o q' k' o' b m m' e2 e2' h4 h5
  · intro q k o b m h2 h4
    rcases hob q k o h2 with ⟨j, p, e1, e2, e3, e4⟩ | ⟨e1, e2, e3⟩
    · rw [e4] at h4
      rcases hcb j k p b m e2 h4 with e | ⟨r, k', o', m', hr, ho, hp⟩
      · exact .inl (Nat.le_trans h.keep.size e)
      · exact h.own r k' o' b m' ho hp
    · rw [e3] at h4; exact h.own q k o b m e2 h4
  · have e1 := hk.os; have e2 := hk.tape; have e3 := hk.output
    rw [hg] at e1 e2 e3
    refine h.keep.step e1 e2 e3 hsz fun b hb hm0 => hblk b (Nat.lt_of_lt_of_le hb h.keep.size) fun hm' => ?_
    rw [hM] at hm'
    obtain ⟨r, k, o, m, -, ho, hp⟩ := hm'
    rcases h.own r k o b m ho hp with e | e
    · omega
    · exact hm0 e
  · intro j k hj
    obtain ⟨e1, e2⟩ := h.stay j k hj
    refine ⟨hus j e1, ?_⟩
    rcases htbs j k e1 with e | e
    · rw [e]; exact e2
    · exact .inr e
end
end Go.VL
