/- Contracts of functions, and calls by contract. -/
import Derived.Test.YtiacejpdgjmdfabGreatVlI
namespace Go.VL
set_option linter.unusedVariables false
set_option linter.unusedSimpArgs false
open Go

/-- A state of rows alone. -/
def rowsS (T : List (List Ob)) : S := { E := fun _ => .dead, R := fun r => T[r]? }

/-- Called with these values and the rows T, the function returns r and leaves the rows T'. -/
def VCall (P : Program) (f : FuncId) (args : List AV) (T : List (List Ob)) (r : AV) (T' : List (List Ob)) : Prop :=
  ∀ (g : G) (φ : Plc) (w : World) (vs : Array Value), g.w0 = w → g.m = T.length → g.us0 = (rowsS T).us → g.tb0 = (rowsS T).tb φ → RelM g (rowsS T) φ w → vs.size = args.length →
    (∀ (j : Nat) x v, args[j]? = some x → vs[j]? = some v → Rel w ((rowsS T).ok g φ w) (rowsS T).us ((rowsS T).tb φ) x v) →
    Calls P f vs w fun e w' => ∃ v φ', e = .returned v ∧ RelM g (rowsS T') φ' w' ∧ Rel w' ((rowsS T').ok g φ' w') (rowsS T').us ((rowsS T').tb φ') r v

/-- A value without memory but for objects that it names. -/
inductive Sc : AV → Prop
  | dead : Sc .dead
  | b (x : Bool) : Sc (.b x)
  | n (k : IntKind) (x : Int) : Sc (.n k x)
  | s (x : ByteArray) : Sc (.s x)
  | nilp : Sc .nilp
  | nils : Sc .nils
  | esl : Sc .esl
  | isl0 (sz : Nat) : Sc (.isl sz [])
  | ref (r k i off : Nat) : Sc (.ref r k i off)
  | osl (r k lo len : Nat) : Sc (.osl r k lo len)
  | hsl (r c sz : Nat) (h : Option (Nat × Nat)) : Sc (.hsl r c sz h)
  | agg {c : List AV} (h : ∀ x ∈ c, Sc x) : Sc (.agg c)
  | tup {c : List AV} (h : ∀ x ∈ c, Sc x) : Sc (.tup c)

theorem downS : Down Sc := ⟨fun _ _ h hx => by cases h with | agg h => exact h _ hx, fun _ _ h hx => by cases h with | tup h => exact h _ hx, fun _ _ _ h => by cases h⟩

theorem Rel.sc {w w' : World} {ok ok' : Nat → Prop} {us us' : Us} {tb tb' : Tb} {x : AV} (hs : Sc x) : ∀ {v : Value}, Pure x → Rel w ok us tb x v → Rel w' ok' us' tb' x v := by
  induction hs with
  | dead => intro v _ h; exact .dead v
  | b x => intro v _ h; rw [h.b_inv]; exact .b x
  | n k x => intro v _ h; rw [h.n_inv]; exact .n k x
  | s x => intro v _ h; rw [h.s_inv]; exact .s x
  | nilp => intro v _ h; rw [h.nilp_inv]; exact .nilp
  | nils => intro v _ h; rw [h.nils_inv]; exact .nils
  | esl => intro v _ h; obtain ⟨a, c, rfl⟩ := h.esl_inv; exact .esl a c
  | isl0 sz =>
    intro v _ h
    rcases h.isl_inv with ⟨-, a, c, rfl, ha⟩ | ⟨blk, off, c, -, rfl, -⟩
    · exact .isl0 sz a c ha
    · exact .isl0 sz _ c (fun h => by simp at h)
  | ref => intro v hp; cases hp
  | osl => intro v hp; cases hp
  | hsl => intro v hp; cases hp
  | @agg c hc ih =>
    intro v hp h
    obtain ⟨vs, rfl, h1, h2, h3⟩ := h.agg_inv
    cases hp with
    | agg hp => exact .agg vs h1 h2 fun j x u hx hu => ih x (List.mem_of_getElem? hx) (hp x (List.mem_of_getElem? hx)) (h3 j x u hx hu)
  | @tup c hc ih =>
    intro v hp h
    obtain ⟨vs, rfl, h1, h3⟩ := h.tup_inv
    cases hp with
    | tup hp => exact .tup vs h1 fun j x u hx hu => ih x (List.mem_of_getElem? hx) (hp x (List.mem_of_getElem? hx)) (h3 j x u hx hu)

section
variable {P : Program} {g : G} {s : S} {φ : Plc} {a : Act} {w : World}

theorem blk_lt (h : RelM g s φ w) {r k b m : Nat} {o : Ob} (ho : s.ob r k = some o) (hp : φ r k = some (b, m)) : b < w.heap.size := by
  have := h.obj r k o ho
  rw [hp] at this
  obtain ⟨c, ty, e, -⟩ := this
  exact (Array.getElem?_eq_some_iff.1 e).1

theorem ok_frz (h : RelM g s φ w) {r k b m : Nat} {o : Ob} (ho : s.ob r k = some o) (hk : o.kd = .frz) (hp : φ r k = some (b, m)) : s.ok g φ w b := by
  refine ⟨blk_lt h ho hp, ?_, ?_⟩
  · rcases h.own r k o b m ho hp with e | e
    · exact .inr (.inl e)
    · exact .inr (.inr e)
  · rintro ⟨r', k', o', m', h1, h2, h3⟩
    obtain ⟨rfl, rfl⟩ := h.inj r k o r' k' o' b m m' ho h1 hp h3
    rw [ho] at h1; simp at h1; subst h1; rw [hk] at h2; simp at h2

/-- What a call is handed: the memory and the arguments in the callee's words. -/
theorem enter (h : RelM g s φ w) {mv : Mv} {al : Kd → Bool} {q : AV → Prop} {T : List (List Ob)} (A : Nat → Prop)
    (hA : ∀ b, A b → b < w.heap.size) (hA1 : ∀ b, s.ok g φ w b → A b)
    (hA2 : ∀ r k o b m, s.ob r k = some o → al o.kd = true → φ r k = some (b, m) → A b)
    (hR : SnR s mv al q (rowsS T).R) (hlive : ∀ r k o, (∃ j i, mv j i = some (r, k)) → s.ob r k = some o → o.kd = .live) :
    ∃ g' : G, g'.w0 = w ∧ g'.A = A ∧ g'.m = T.length ∧ g'.us0 = (rowsS T).us ∧ g'.tb0 = (rowsS T).tb (reφ φ mv) ∧
      (g'.M0 = fun b => ∃ r k o m, (∃ j i, mv j i = some (r, k)) ∧ s.ob r k = some o ∧ φ r k = some (b, m)) ∧ RelM g' (rowsS T) (reφ φ mv) w ∧
      ∀ {x x' : AV} {v : Value}, Sn s mv al q x x' → Rel w (s.ok g φ w) s.us (s.tb φ) x v → Rel w ((rowsS T).ok g' (reφ φ mv) w) (rowsS T).us ((rowsS T).tb (reφ φ mv)) x' v := by
  let g' : G := { w0 := w, A := A, M0 := fun b => ∃ r k o m, (∃ j i, mv j i = some (r, k)) ∧ s.ob r k = some o ∧ φ r k = some (b, m), N := 0, m := T.length, us0 := (rowsS T).us, tb0 := (rowsS T).tb (reφ φ mv) }
  refine ⟨g', rfl, rfl, rfl, rfl, rfl, rfl, ?_⟩
  have hno : ∀ b, (rowsS T).liveAt (reφ φ mv) b → ∃ r k o m, s.ob r k = some o ∧ o.kd = .live ∧ φ r k = some (b, m) ∧ ∃ j i, mv j i = some (r, k) := fun b hl => hR.live b hl
  refine RelM.sn (s' := rowsS T) (g' := g') h hR ⟨rfl, rfl, rfl, Nat.le_refl _, fun _ _ _ => rfl⟩ (fun j k hj => ⟨hj, .inl rfl⟩) ?_ ?_ hA ?_ ?_ ?_
  · intro j k hj
    have hj : k < ((T[j]?).getD []).length := hj
    rcases Nat.lt_or_ge j T.length with h1 | h1
    · exact h1
    · rw [List.getElem?_eq_none h1] at hj; simp at hj
  · rintro b ⟨r, k, o, m, -, ho, hp⟩
    exact blk_lt h ho hp
  · intro r k o b m hm ho hp
    exact .inr ⟨r, k, o, m, hm, ho, hp⟩
  · intro b hb
    refine ⟨hb.1, .inl (hA1 b hb), fun hl => ?_⟩
    obtain ⟨r, k, o, m, h1, h2, h3, -⟩ := hno b hl
    exact hb.2.2 ⟨r, k, o, m, h1, h2, h3⟩
  · intro r k o b m ho ha hr hp
    refine ⟨blk_lt h ho hp, .inl (hA2 r k o b m ho ha hp), fun hl => ?_⟩
    obtain ⟨r', k', o', m', h1, h2, h3, ⟨j, i, hj⟩⟩ := hno b hl
    obtain ⟨rfl, rfl⟩ := h.inj r k o r' k' o' b m m' ho h1 hp h3
    exact hr j i hj

/-- Behind a call: the objects handed over are as it left them; all others that it made are new. -/
theorem leave (h : RelS g s φ a w) {w' : World} {mv mo : Mv} {al : Kd → Bool} {q0 q : AV → Prop} {g' : G} {T T1 : List (List Ob)} {φ1 : Plc}
    (hg : g'.w0 = w) (hA : (∀ b, g'.A b → s.ok g φ w b) ∨ (∀ x, q x → Sc x)) (hu0 : g'.us0 = (rowsS T).us) (htb : g'.tb0 = (rowsS T).tb (reφ φ mv))
    (hM : g'.M0 = fun b => ∃ r k o m, (∃ j i, mv j i = some (r, k)) ∧ s.ob r k = some o ∧ φ r k = some (b, m))
    (hlive : ∀ r k o, (∃ j i, mv j i = some (r, k)) → s.ob r k = some o → o.kd = .live)
    (hR : SnR s mv al q0 (rowsS T).R) (h1 : RelM g' (rowsS T1) φ1 w')
    (hback : ∀ j i r k, mv j i = some (r, k) → mo r k = some (j, i)) (hnew : ∀ r k j i, mo r k = some (j, i) → mv j i = some (r, k) ∨ ¬ s.us r k)
    (hinj : ∀ r k r' k' p, mo r k = some p → mo r' k' = some p → r = r' ∧ k = k')
    {s2 : S} (hE : s2.E = s.E)
    (hob : ∀ r k o, s2.ob r k = some o → (∃ j i p, mo r k = some (j, i) ∧ (rowsS T1).ob j i = some p ∧ SnO (rowsS T1) mo (fun _ => false) q p o) ∨ (mo r k = none ∧ s.ob r k = some o))
    (hus : ∀ r k, s.us r k → s2.us r k) (hus1 : ∀ r k j i, mo r k = some (j, i) → (rowsS T1).us j i → s2.us r k)
    {x x' : AV} {v : Value} (hx : Sn (rowsS T1) mo (fun _ => false) q x x') (hv : Rel w' ((rowsS T1).ok g' φ1 w') (rowsS T1).us ((rowsS T1).tb φ1) x v) :
    ∃ φ2, RelS g s2 φ2 a w' ∧ Rel w' (s2.ok g φ2 w') s2.us (s2.tb φ2) x' v := by
  let φ2 : Plc := fun r k => match mo r k with | some (j, i) => φ1 j i | none => φ r k
  have p1 : ∀ r k j i, mo r k = some (j, i) → φ2 r k = φ1 j i := fun r k j i e => by simp [φ2, e]
  have p2 : ∀ r k, mo r k = none → φ2 r k = φ r k := fun r k e => by simp [φ2, e]
  have hk := h1.keep
  have hsz : w.heap.size ≤ w'.heap.size := by have := hk.size; rw [hg] at this; exact this
  have hblk : ∀ b, b < w.heap.size → ¬ g'.M0 b → w'.heap[b]? = w.heap[b]? := fun b hb hm' => by
    have := hk.block b (by rw [hg]; exact hb) hm'
    rw [hg] at this; exact this
  -- where the callee's blocks lie
  have hcb : ∀ j k p b m, (rowsS T1).ob j k = some p → φ1 j k = some (b, m) → w.heap.size ≤ b ∨ ∃ r k' o m', (∃ j i, mv j i = some (r, k')) ∧ s.ob r k' = some o ∧ φ r k' = some (b, m') := by
    intro j k p b m hp hb
    rcases h1.own j k p b m hp hb with e | e
    · rw [hg] at e; exact .inl e
    · rw [hM] at e; exact .inr e
  -- a block of an old object that stays
  have hold : ∀ q k o b m, mo q k = none → s.ob q k = some o → φ q k = some (b, m) → b < w.heap.size ∧ ¬ g'.M0 b := by
    intro q k o b m hq ho hp
    refine ⟨blk_lt h.toRelM ho hp, fun hm' => ?_⟩
    rw [hM] at hm'
    obtain ⟨r, k', o', m', ⟨j, i, hr⟩, ho', hp'⟩ := hm'
    obtain ⟨rfl, rfl⟩ := h.inj q k o r k' o' b m m' ho ho' hp hp'
    rw [hback _ _ _ _ hr] at hq; simp at hq
  have hlive2 : ∀ b, s2.liveAt φ2 b → (rowsS T1).liveAt φ1 b ∨ (∃ q k o m, mo q k = none ∧ s.ob q k = some o ∧ o.kd = .live ∧ φ q k = some (b, m)) := by
    rintro b ⟨q, k, o, m, ho, hkd, hp⟩
    rcases hob q k o ho with ⟨j, i, p, e1, e2, e3⟩ | ⟨e1, e2⟩
    · rw [p1 _ _ _ _ e1] at hp
      exact .inl ⟨j, i, p, m, e2, kd_live e3 hkd, hp⟩
    · rw [p2 _ _ e1] at hp
      exact .inr ⟨q, k, o, m, e1, e2, hkd, hp⟩
  -- old values
  have hok : ∀ b, s.ok g φ w b → s2.ok g φ2 w' b := by
    intro b hb
    refine ⟨Nat.lt_of_lt_of_le hb.1 hsz, hb.2.1, fun hl => ?_⟩
    rcases hlive2 b hl with ⟨j, k, p, m, e1, e2, e3⟩ | ⟨q, k, o, m, e1, e2, e3, e4⟩
    · rcases hcb j k p b m e1 e3 with e | ⟨r, k', o, m', hr, ho, hp⟩
      · have := hb.1; omega
      · exact hb.2.2 ⟨r, k', o, m', ho, hlive r k' o hr ho, hp⟩
    · exact hb.2.2 ⟨q, k, o, m, e2, e3, e4⟩
  have htbs : ∀ r k, s.us r k → s2.tb φ2 r k = s.tb φ r k ∨ s2.tb φ2 r k = none := by
    intro r k hr
    cases ho : s2.ob r k with
    | none => right; simp [S.tb, ho]
    | some o =>
      left
      rcases hob r k o ho with ⟨j, i, p, e1, e2, e3⟩ | ⟨e1, e2⟩
      · rcases hnew r k j i e1 with hj | hj
        · have hst := (h1.stay j i (by rw [hu0]; exact hR.us _ _ _ _ hj hr)).2
          rw [htb, tb_of e2] at hst
          have hst : some (p.sz, φ1 j i) = (rowsS T).tb (reφ φ mv) j i := by
            rcases hst with e | e
            · exact e
            · simp at e
          have := hR.tbs (s' := rowsS T) (φ := φ) hj
          rw [← hst] at this
          rw [tb_of ho, e3.sz, p1 _ _ _ _ e1]
          rcases this with e | e
          · exact e
          · simp at e
        · exact absurd hr hj
      · rw [tb_of ho, tb_of e2, p2 _ _ e1]
  have hheap : ∀ b, s.ok g φ w b → w'.heap[b]? = w.heap[b]? := by
    intro b hb
    refine hblk b hb.1 fun hm' => ?_
    rw [hM] at hm'
    obtain ⟨r, k', o, m', hr, ho, hp⟩ := hm'
    exact hb.2.2 ⟨r, k', o, m', ho, hlive r k' o hr ho, hp⟩
  have hrel : ∀ {y : AV} {u : Value}, Rel w (s.ok g φ w) s.us (s.tb φ) y u → Rel w' (s2.ok g φ2 w') s2.us (s2.tb φ2) y u :=
    fun hr => hr.mono hok hheap hus htbs
  -- the callee's values
  have hok1 : (∀ b, g'.A b → s.ok g φ w b) → ∀ b, (rowsS T1).ok g' φ1 w' b → s2.ok g φ2 w' b := by
    intro hA b hb
    have hown : g.A b ∨ g.w0.heap.size ≤ b ∨ g.M0 b := by
      rcases hb.2.1 with e | e | e
      · exact (hA b e).2.1
      · rw [hg] at e; exact .inr (.inl (Nat.le_trans h.keep.size e))
      · rw [hM] at e
        obtain ⟨r, k, o, m, -, ho, hp⟩ := e
        rcases h.own r k o b m ho hp with e | e
        · exact .inr (.inl e)
        · exact .inr (.inr e)
    refine ⟨hb.1, hown, fun hl => ?_⟩
    rcases hlive2 b hl with e | ⟨q, k, o, m, e1, e2, e3, e4⟩
    · exact hb.2.2 e
    · have hq := hold q k o b m e1 e2 e4
      rcases hb.2.1 with e | e | e
      · exact (hA b e).2.2 ⟨q, k, o, m, e2, e3, e4⟩
      · rw [hg] at e; omega
      · exact hq.2 e
  have hrel1 : ∀ {y y' : AV} {u : Value}, Sn (rowsS T1) mo (fun _ => false) q y y' → Rel w' ((rowsS T1).ok g' φ1 w') (rowsS T1).us ((rowsS T1).tb φ1) y u → Rel w' (s2.ok g φ2 w') s2.us (s2.tb φ2) y' u := by
    intro y y' u hs hr
    refine hs.rel h1 (fun x v hq hp hr => ?_) (fun _ _ _ _ _ _ ha _ _ => by simp at ha) ?_ hr
    · rcases hA with hA | hA
      · exact hr.pure hp (hok1 hA)
      · exact hr.sc (hA x hq) hp
    · intro r k j i hq hj
      refine ⟨hus1 r k j i hq hj, ?_⟩
      cases ho : s2.ob r k with
      | none => right; simp [S.tb, ho]
      | some o =>
        left
        rcases hob r k o ho with ⟨j', i', p, e1, e2, e3⟩ | ⟨e1, -⟩
        · rw [hq] at e1; simp only [Option.some.injEq, Prod.mk.injEq] at e1
          obtain ⟨rfl, rfl⟩ := e1
          rw [tb_of ho, tb_of e2, e3.sz, p1 _ _ _ _ hq]
        · rw [hq] at e1; simp at e1
  refine ⟨φ2, { toRelM := ⟨?_, ?_, ?_, ?_, h.mlt, h.alt, ?_, h.low⟩, env := fun t => by rw [hE]; exact hrel (h.env t), defers := h.defers, tsz := h.tsz }, hrel1 hx hv⟩
  · intro q k o ho
    rcases hob q k o ho with ⟨j, i, p, e1, e2, e3⟩ | ⟨e1, e2⟩
    · have hp := h1.obj j i p e2
      rw [p1 _ _ _ _ e1]
      cases hpp : φ1 j i with
      | none =>
        rw [hpp] at hp
        simp only [ObRel] at hp ⊢
        apply List.length_eq_zero_iff.1
        rw [e3.len, hp]; rfl
      | some bm =>
        obtain ⟨b, m⟩ := bm
        rw [hpp] at hp
        obtain ⟨c, ty, f1, f2, f3, f4⟩ := hp
        have hfl : o.es.flatten.length = p.es.flatten.length := by rw [flatten_length _ e3.each, flatten_length _ f3, e3.len]
        refine ⟨c, ty, f1, f2, by rw [e3.sz]; exact e3.each, fun i x' hx' => ?_⟩
        have hlt : i < p.es.flatten.length := by rw [← hfl]; exact lt_of_get hx'
        have hx0 := List.getElem?_eq_getElem hlt
        obtain ⟨u, u1, u2, u3⟩ := f4 i _ hx0
        exact ⟨u, u1, u2, hrel1 (e3.at_ i _ x' hx0 hx') u3⟩
    · have hp := h.obj q k o e2
      rw [p2 _ _ e1]
      cases hpp : φ q k with
      | none => rw [hpp] at hp; exact hp
      | some bm =>
        obtain ⟨b, m⟩ := bm
        rw [hpp] at hp
        obtain ⟨c, ty, f1, f2, f3, f4⟩ := hp
        obtain ⟨hb1, hb2⟩ := hold q k o b m e1 e2 hpp
        refine ⟨c, ty, (hblk b hb1 hb2).trans f1, f2, f3, fun i x' hx' => ?_⟩
        obtain ⟨u, u1, u2, u3⟩ := f4 i x' hx'
        exact ⟨u, u1, u2, hrel u3⟩
  · intro q k o q' k' o' b m m' h2 h3 h4 h5
    rcases hob q k o h2 with ⟨j, i, p, e1, e2, e3⟩ | ⟨e1, e2⟩ <;> rcases hob q' k' o' h3 with ⟨j', i', p', e1', e2', e3'⟩ | ⟨e1', e2'⟩
    · rw [p1 _ _ _ _ e1] at h4; rw [p1 _ _ _ _ e1'] at h5
      obtain ⟨rfl, rfl⟩ := h1.inj j i p j' i' p' b m m' e2 e2' h4 h5
      exact hinj _ _ _ _ _ e1 e1'
    · rw [p1 _ _ _ _ e1] at h4; rw [p2 _ _ e1'] at h5
      obtain ⟨f1, f2⟩ := hold q' k' o' b m' e1' e2' h5
      rcases hcb j i p b m e2 h4 with e | e
      · omega
      · exact absurd (by rw [hM]; exact e) f2
    · rw [p2 _ _ e1] at h4; rw [p1 _ _ _ _ e1'] at h5
      obtain ⟨f1, f2⟩ := hold q k o b m e1 e2 h4
      rcases hcb j' i' p' b m' e2' h5 with e | e
      · omega
      · exact absurd (by rw [hM]; exact e) f2
    · rw [p2 _ _ e1] at h4; rw [p2 _ _ e1'] at h5
      exact h.inj q k o q' k' o' b m m' e2 e2' h4 h5
  · intro q k o b m h2 h4
    rcases hob q k o h2 with ⟨j, i, p, e1, e2, e3⟩ | ⟨e1, e2⟩
    · rw [p1 _ _ _ _ e1] at h4
      rcases hcb j i p b m e2 h4 with e | ⟨r, k', o', m', hr, ho, hp⟩
      · exact .inl (Nat.le_trans h.keep.size e)
      · exact h.own r k' o' b m' ho hp
    · rw [p2 _ _ e1] at h4; exact h.own q k o b m e2 h4
  · have e1 := hk.os; have e2 := hk.tape; have e3 := hk.output
    rw [hg] at e1 e2 e3
    refine h.keep.step e1 e2 e3 hsz fun b hb hm0 => hblk b (Nat.lt_of_lt_of_le hb h.keep.size) fun hm' => ?_
    rw [hM] at hm'
    obtain ⟨r, k, o, m, -, ho, hp⟩ := hm'
    rcases h.own r k o b m ho hp with e | e
    · omega
    · exact hm0 e
  · intro j k hj
    obtain ⟨e1, e2⟩ := h.stay j k hj
    refine ⟨hus j k e1, ?_⟩
    rcases htbs j k e1 with e | e
    · rw [e]; exact e2
    · exact .inr e

/-- The names in a value, shifted from row `a` to row `b`. -/
def shV (a b n : Nat) : AV → AV
  | .ref r k i off => if r = a then .ref b (n + k) i off else .ref r k i off
  | .osl r k lo len => if r = a then .osl b (n + k) lo len else .osl r k lo len
  | .hsl r c sz h => if r = a then .hsl b (n + c) sz h else .hsl r c sz h
  | .agg c => .agg (shL c)
  | .tup c => .tup (shL c)
  | x => x
where shL : List AV → List AV
  | [] => []
  | x :: l => shV a b n x :: shL l

def shO (a b n : Nat) (o : Ob) : Ob := { o with es := o.es.map fun e => e.map (shV a b n) }
def goneO (o : Ob) : Ob := ⟨0, [], .gone⟩

theorem shL_eq (a b n : Nat) : ∀ l : List AV, shV.shL a b n l = l.map (shV a b n)
  | [] => rfl
  | x :: l => by rw [shV.shL, shL_eq a b n l]; rfl

theorem obIn_eq (l : List Ob) (k : Nat) : obIn (some l) k = (l[k]?).bind fun o => if o.kd = .gone then none else some o := by
  unfold obIn
  cases h : l[k]? <;> simp [h]

theorem map_flatten {es : List (List AV)} (f : AV → AV) : (es.map fun e => e.map f).flatten = es.flatten.map f := by
  induction es with
  | nil => rfl
  | cons e es ih => rw [List.map_cons, List.flatten_cons, List.flatten_cons, List.map_append, ih]

/-- A row of new objects goes to the end of another row. -/
theorem RelS.merge (h : RelS g s φ a w) {r r' : Nat} {l l' : List Ob} (hr : s.R r = some l) (hr' : s.R r' = some l') (hne : r' ≠ r) :
    ∃ φ', RelS g ((s.setRow r' (l'.map goneO)).setRow r (l ++ l'.map (shO r' r l.length))) φ' a w ∧
      ∀ x v, Rel w (s.ok g φ w) s.us (s.tb φ) x v → Rel w (((s.setRow r' (l'.map goneO)).setRow r (l ++ l'.map (shO r' r l.length))).ok g φ' w)
        ((s.setRow r' (l'.map goneO)).setRow r (l ++ l'.map (shO r' r l.length))).us (((s.setRow r' (l'.map goneO)).setRow r (l ++ l'.map (shO r' r l.length))).tb φ') (shV r' r l.length x) v := by
  generalize hs2 : (s.setRow r' (l'.map goneO)).setRow r (l ++ l'.map (shO r' r l.length)) = s2
  let φ' : Plc := fun q k => if q = r ∧ l.length ≤ k then φ r' (k - l.length) else φ q k
  -- objects
  have hob : ∀ q k o, s2.ob q k = some o → (q = r ∧ l.length ≤ k ∧ ∃ p, s.ob r' (k - l.length) = some p ∧ o = shO r' r l.length p ∧ φ' q k = φ r' (k - l.length)) ∨
      (q ≠ r' ∧ s.ob q k = some o ∧ φ' q k = φ q k ∧ ¬ (q = r ∧ l.length ≤ k)) := by
    intro q k o ho
    subst hs2
    rw [ob_setRow] at ho
    by_cases e : q = r
    · subst e
      rw [if_pos rfl] at ho
      by_cases hk : l.length ≤ k
      · left
        refine ⟨rfl, hk, ?_⟩
        rw [obIn_eq, List.getElem?_append_right hk, List.getElem?_map] at ho
        cases hp : l'[k - l.length]? with
        | none => rw [hp] at ho; simp at ho
        | some p =>
          rw [hp] at ho
          simp only [Option.map_some, Option.bind_some] at ho
          split at ho
          · simp at ho
          · rename_i hg
            simp only [Option.some.injEq] at ho
            refine ⟨p, ?_, ho.symm, by simp [φ', hk]⟩
            unfold S.ob
            rw [hr', obIn_eq, hp, Option.bind_some, if_neg (by simpa [shO] using hg)]
      · right
        refine ⟨Ne.symm hne, ?_, by simp [φ', hk], fun hh => hk hh.2⟩
        unfold S.ob
        rw [hr, obIn_eq]
        rw [obIn_eq, List.getElem?_append_left (by omega)] at ho
        exact ho
    · rw [if_neg e, ob_setRow] at ho
      by_cases e2 : q = r'
      · subst e2
        rw [if_pos rfl, obIn_eq, List.getElem?_map] at ho
        cases hp : l'[k]? with
        | none => rw [hp] at ho; simp at ho
        | some p => rw [hp] at ho; simp [goneO] at ho
      · rw [if_neg e2] at ho
        exact .inr ⟨e2, ho, by simp [φ', e], fun hh => e hh.1⟩
  have hus : ∀ q k, s.us q k → s2.us q k := by
    intro q k hq
    subst hs2
    rw [us_setRow]
    by_cases e : q = r
    · subst e; rw [if_pos rfl]; simp [S.us, hr] at hq; simp; omega
    · rw [if_neg e, us_setRow]
      by_cases e2 : q = r'
      · subst e2; rw [if_pos rfl]; simpa [S.us, hr'] using hq
      · rw [if_neg e2]; exact hq
  have husr : ∀ k, s.us r' k → s2.us r (l.length + k) := by
    intro k hq
    subst hs2
    rw [us_setRow, if_pos rfl]
    simp [S.us, hr'] at hq
    simp; omega
  have htb' : ∀ k, s2.tb φ' r (l.length + k) = s.tb φ r' k := by
    intro k
    subst hs2
    simp only [S.tb]
    rw [ob_setRow, if_pos rfl]
    unfold S.ob
    rw [hr', obIn_eq, obIn_eq, List.getElem?_append_right (by omega), List.getElem?_map, show l.length + k - l.length = k by omega]
    cases hp : l'[k]? with
    | none => simp
    | some p =>
      simp only [Option.map_some, Option.bind_some]
      by_cases hg : p.kd = .gone
      · rw [if_pos hg, if_pos (by simpa [shO] using hg)]; rfl
      · rw [if_neg hg, if_neg (by simpa [shO] using hg)]
        simp [φ', shO]
  have htb : ∀ q k, s.us q k → s2.tb φ' q k = s.tb φ q k ∨ s2.tb φ' q k = none := by
    intro q k hq
    cases ho : s2.ob q k with
    | none => right; simp [S.tb, ho]
    | some o =>
      left
      rcases hob q k o ho with ⟨rfl, e2, -⟩ | ⟨-, e2, e3, -⟩
      · simp [S.us, hr] at hq; omega
      · rw [tb_of ho, tb_of e2, e3]
  have hlive : ∀ b, s2.liveAt φ' b → s.liveAt φ b := by
    rintro b ⟨q, k, o, m, h1, h2, h3⟩
    rcases hob q k o h1 with ⟨-, -, p, e1, e2, e3⟩ | ⟨-, e1, e2, -⟩
    · rw [e3] at h3; subst e2; exact ⟨r', _, p, m, e1, h2, h3⟩
    · rw [e2] at h3; exact ⟨q, k, o, m, e1, h2, h3⟩
  have st : Step g s φ w s2 φ' w := ⟨hus, htb, fun b hl => .inl (hlive b hl), fun _ _ _ => rfl, Nat.le_refl _⟩
  -- values
  have hsh : ∀ x v, Rel w (s.ok g φ w) s.us (s.tb φ) x v → Rel w (s2.ok g φ' w) s2.us (s2.tb φ') (shV r' r l.length x) v := by
    intro x v hr0
    induction hr0 with
    | dead v => exact .dead v
    | b x => exact .b x
    | n k x => exact .n k x
    | s x => exact .s x
    | nilp => exact .nilp
    | nils => exact .nils
    | esl a c => exact .esl a c
    | @refGone r1 k i off a hu hh =>
      unfold shV
      split
      · rename_i e; subst e
        exact .refGone a (husr k hu) (by rw [htb']; exact hh)
      · exact st.rel (.refGone a hu hh)
    | @ref r1 k i off sz blk m hu hh =>
      unfold shV
      split
      · rename_i e; subst e
        exact .ref (husr k hu) (by rw [htb']; exact hh)
      · exact st.rel (.ref hu hh)
    | @oslGone r1 k lo len a c1 c2 hu hh =>
      unfold shV
      split
      · rename_i e; subst e
        exact .oslGone a c1 c2 (husr k hu) (by rw [htb']; exact hh)
      · exact st.rel (.oslGone a c1 c2 hu hh)
    | @oslVirt r1 k sz hu hh =>
      unfold shV
      split
      · rename_i e; subst e
        exact .oslVirt (husr k hu) (by rw [htb']; exact hh)
      · exact st.rel (.oslVirt hu hh)
    | @osl r1 k lo len sz blk m c a hu hh hl hc hmm =>
      unfold shV
      split
      · rename_i e; subst e
        exact .osl (husr k hu) (by rw [htb']; exact hh) hl hc hmm
      · exact st.rel (.osl hu hh hl hc hmm)
    | @hslN r1 c sz v h0 ih =>
      unfold shV
      split
      · exact .hslN (st.rel h0)
      · exact st.rel (.hslN h0)
    | @hslS r1 c sz k n v h0 ih =>
      unfold shV
      split
      · rename_i e; subst e
        unfold shV at ih
        rw [if_pos rfl] at ih
        exact .hslS (by rw [show k + (l.length + c) = l.length + (k + c) by omega]; exact ih)
      · exact st.rel (.hslS h0)
    | isl0 sz a c h => exact .isl0 sz a c h
    | isl cs hb hp hl hc hw hcl hr0 ih => exact st.rel (.isl cs hb hp hl hc hw hcl hr0)
    | ipt cs hb hp hl hw hcl hr0 ih => exact st.rel (.ipt cs hb hp hl hw hcl hr0)
    | ipoN sz => exact .ipoN sz
    | ipoS h0 ih => exact st.rel (.ipoS h0)
    | agg vs hl hcl hr0 ih =>
      unfold shV
      rw [shL_eq]
      refine .agg vs (by simpa using hl) hcl fun j x v hx hv => ?_
      rw [List.getElem?_map, Option.map_eq_some_iff] at hx
      obtain ⟨y, hy, rfl⟩ := hx
      exact ih j y v hy hv
    | tup vs hl hr0 ih =>
      unfold shV
      rw [shL_eq]
      refine .tup vs (by simpa using hl) fun j x v hx hv => ?_
      rw [List.getElem?_map, Option.map_eq_some_iff] at hx
      obtain ⟨y, hy, rfl⟩ := hx
      exact ih j y v hy hv
    | fn vs hl hr0 ih => exact st.rel (.fn vs hl hr0)
  refine ⟨φ', { toRelM := ⟨?_, ?_, ?_, h.keep, h.mlt, h.alt, ?_, h.low⟩, env := fun t => by rw [show s2.E = s.E by rw [← hs2]; rfl]; exact st.rel (h.env t), defers := h.defers, tsz := h.tsz }, hsh⟩
  · intro q k o ho
    rcases hob q k o ho with ⟨-, -, p, e1, e2, e3⟩ | ⟨-, e1, e2, -⟩
    · rw [e3]
      subst e2
      have hp := h.obj r' _ p e1
      cases hpp : φ r' (k - l.length) with
      | none => rw [hpp] at hp; simp only [ObRel] at hp ⊢; simp [shO, hp]
      | some bm =>
        obtain ⟨b, m⟩ := bm
        rw [hpp] at hp
        obtain ⟨c, ty, f1, f2, f3, f4⟩ := hp
        refine ⟨c, ty, f1, f2, ?_, fun j x hx => ?_⟩
        · intro e he
          simp only [shO, List.mem_map] at he
          obtain ⟨e', he', rfl⟩ := he
          simpa [shO] using f3 e' he'
        · simp only [shO] at hx
          rw [map_flatten, List.getElem?_map, Option.map_eq_some_iff] at hx
          obtain ⟨y, hy, rfl⟩ := hx
          obtain ⟨u, u1, u2, u3⟩ := f4 j y hy
          exact ⟨u, u1, u2, hsh y u u3⟩
    · rw [e2]
      exact st.obj (fun b m _ => rfl) (h.obj q k o e1)
  · intro q k o q1 k1 o1 b m m' h1 h2 h3 h4
    rcases hob q k o h1 with ⟨rfl, f1, p, e1, e2, e3⟩ | ⟨f1, e1, e2, f2⟩ <;> rcases hob q1 k1 o1 h2 with ⟨rfl, f1', p', e1', e2', e3'⟩ | ⟨f1', e1', e2', f2'⟩
    · rw [e3] at h3; rw [e3'] at h4
      obtain ⟨-, e⟩ := h.inj _ _ _ _ _ _ b m m' e1 e1' h3 h4
      exact ⟨rfl, by omega⟩
    · rw [e3] at h3; rw [e2'] at h4
      obtain ⟨e, -⟩ := h.inj _ _ _ _ _ _ b m m' e1 e1' h3 h4
      exact absurd e.symm f1'
    · rw [e2] at h3; rw [e3'] at h4
      obtain ⟨e, -⟩ := h.inj _ _ _ _ _ _ b m m' e1 e1' h3 h4
      exact absurd e f1
    · rw [e2] at h3; rw [e2'] at h4
      exact h.inj _ _ _ _ _ _ b m m' e1 e1' h3 h4
  · intro q k o b m h1 h2
    rcases hob q k o h1 with ⟨-, -, p, e1, e2, e3⟩ | ⟨-, e1, e2, -⟩
    · rw [e3] at h2; exact h.own r' _ p b m e1 h2
    · rw [e2] at h2; exact h.own q k o b m e1 h2
  · exact st.stay h.stay
end
end Go.VL
