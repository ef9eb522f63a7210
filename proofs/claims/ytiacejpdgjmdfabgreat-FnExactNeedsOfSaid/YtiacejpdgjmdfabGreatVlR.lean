/- Code: the runner over a tape. -/
import Derived.Test.YtiacejpdgjmdfabGreatVlQ
import Derived.Scope
import Derived.LoopN
namespace Go.VL
set_option linter.unusedVariables false
set_option linter.unusedSimpArgs false
open Go

/-- From the state s, the code ends so, in the state s'. -/
def VEx (P : Program) (N m : Nat) (c : Code) (e : Exit) (s s' : S) : Prop :=
  ∀ (g : G) φ a w, g.N = N → g.m = m → RelS g s φ a w → c.wp P (fun e' a' w' => e' = e ∧ ∃ φ', RelS g s' φ' a' w') a w

/-- How a piece of code ends. -/
inductive XE where
  | normal
  | exit (id : Nat)
  | ret

def XE.x : XE → Exit
  | .normal => .normal
  | .exit id => .exit id
  | .ret => .ret

/-- What the prover hands to the code's runner. -/
inductive TE where
  | reg (ans : List (Ans × Bool))
  | br (b : Bool)
  | rst (mv : List Nat) (rc : List RC) (ec : List (Nat × C2))
  | rsg (l : List Seg) (rc : List (List RC × Option RC)) (ec : List (Nat × C2))
  | frz (r : Nat)
  | virt (t sz : Nat)
  | sub (e : XE) (env : List (Nat × AV)) (rows : List (List Ob))

structure CR where
  e : Exit
  s : S
  nr : Nat
  tape : List TE
  obs : List Prop

def runPre (m : Nat) : List TE → S → Nat → Option (List TE × S × Nat × List Prop)
  | .rst mv rc ec :: tape, s, nr => match restS m s mv rc ec with
    | some (s1, n1, o1) => match runPre m tape s1 n1 with
      | some (t2, s2, n2, o2) => some (t2, s2, n2, o1 ++ o2)
      | none => none
    | none => none
  | .rsg l rc ec :: tape, s, nr => match restSG m s l rc ec with
    | some (s1, n1, o1) => match runPre m tape s1 n1 with
      | some (t2, s2, n2, o2) => some (t2, s2, n2, o1 ++ o2)
      | none => none
    | none => none
  | .frz r :: tape, s, nr => match s.R r with
    | some row => runPre m tape (s.setRow r (frzRow row)) nr
    | none => none
  | .virt t sz :: tape, s, nr => match s.E t with
    | .nils => runPre m tape { E := fun u => if u = t then .osl nr 0 0 0 else s.E u, R := (s.setRow nr [⟨sz, [], .live⟩]).R } (nr + 1)
    | _ => none
  | tape, s, nr => some (tape, s, nr, [])

def runC (P : Program) (N m : Nat) : Code → List TE → S → Nat → Option CR
  | .skip, tape, s, nr => some ⟨.normal, s, nr, tape, []⟩
  | .label _, tape, s, nr => some ⟨.normal, s, nr, tape, []⟩
  | .exit id, tape, s, nr => some ⟨.exit id, s, nr, tape, []⟩
  | .ret, tape, s, nr => some ⟨.ret, s, nr, tape, []⟩
  | .seq x y, tape, s, nr => match runC P N m x tape s nr with
    | some ⟨.normal, s1, n1, t1, o1⟩ => match runC P N m y t1 s1 n1 with
      | some ⟨e2, s2, n2, t2, o2⟩ => some ⟨e2, s2, n2, t2, o1 ++ o2⟩
      | none => none
    | some r => some r
    | none => none
  | .block id c, tape, s, nr => match runC P N m c tape s nr with
    | some ⟨.exit id', s1, n1, t1, o1⟩ => some ⟨if id' = id then .normal else .exit id', s1, n1, t1, o1⟩
    | r => r
  | .scope c, tape, s, nr => runC P N m c tape s nr
  | .region _ ops draw, tape, s, nr => match runPre m tape s nr with
    | some (.reg ans :: t1, s1, n1, o1) => match runRegion P N ops draw ans s1 n1 with
      | some (s2, o2) => some ⟨.normal, s2, n1 + ops.size, t1, o1 ++ o2⟩
      | none => none
    | _ => none
  | .cond x c d, tape, s, nr => match runPre m tape s nr with
    | some (.sub e env rows :: t1, s1, _, o1) => some ⟨e.x, mkS env rows, rows.length, t1, o1 ++ [VEx P N m (.cond x c d) e.x s1 (mkS env rows)]⟩
    | some (.br b :: t1, s1, n1, o1) => match evalOf s1.E x with
      | .b v => match b with
        | true => match runC P N m c t1 s1 n1 with
          | some ⟨e2, s2, n2, t2, o2⟩ => some ⟨e2, s2, n2, t2, o1 ++ (v = true) :: o2⟩
          | none => none
        | false => match runC P N m d t1 s1 n1 with
          | some ⟨e2, s2, n2, t2, o2⟩ => some ⟨e2, s2, n2, t2, o1 ++ (v = false) :: o2⟩
          | none => none
      | _ => none
    | _ => none
  | .loop c, tape, s, nr => match runPre m tape s nr with
    | some (.sub e env rows :: t1, s1, _, o1) => some ⟨e.x, mkS env rows, rows.length, t1, o1 ++ [VEx P N m (.loop c) e.x s1 (mkS env rows)]⟩
    | _ => none
  | _, _, _, _ => none

section
variable {P : Program} {N m : Nat}

theorem VEx.intro {c : Code} {e : Exit} {s s' : S} (h : ∀ (g : G) φ a w, g.N = N → g.m = m → RelS g s φ a w → c.wp P (fun e' a' w' => e' = e ∧ ∃ φ', RelS g s' φ' a' w') a w) : VEx P N m c e s s' := h

theorem VEx.seq {x y : Code} {e : Exit} {s s1 s2 : S} (h1 : VEx P N m x .normal s s1) (h2 : VEx P N m y e s1 s2) : VEx P N m (.seq x y) e s s2 := by
  intro g φ a w hN hm hr
  refine wp_seq (wp_mono (h1 g φ a w hN hm hr) fun e' a' w' hq => ?_)
  obtain ⟨rfl, φ', hr'⟩ := hq
  exact h2 g φ' a' w' hN hm hr'

theorem VEx.seq_out {x y : Code} {e : Exit} {s s1 : S} (h1 : VEx P N m x e s s1) (he : e ≠ .normal) : VEx P N m (.seq x y) e s s1 := by
  intro g φ a w hN hm hr
  refine wp_seq (wp_mono (h1 g φ a w hN hm hr) fun e' a' w' hq => ?_)
  obtain ⟨rfl, hr'⟩ := hq
  cases e' <;> first | exact absurd rfl he | exact ⟨rfl, hr'⟩

theorem VEx.block_exit {c : Code} {id id' : Nat} {s s1 : S} (h1 : VEx P N m c (.exit id') s s1) : VEx P N m (.block id c) (if id' = id then .normal else .exit id') s s1 := by
  intro g φ a w hN hm hr
  refine wp_block (wp_mono (h1 g φ a w hN hm hr) fun e' a' w' hq => ?_)
  obtain ⟨rfl, hr'⟩ := hq
  simp only [Exit.inBlock]
  split
  · exact ⟨rfl, hr'⟩
  · exact ⟨rfl, hr'⟩

theorem VEx.block {c : Code} {id : Nat} {e : Exit} {s s1 : S} (h1 : VEx P N m c e s s1) (he : ∀ i, e ≠ .exit i) : VEx P N m (.block id c) e s s1 := by
  intro g φ a w hN hm hr
  refine wp_block (wp_mono (h1 g φ a w hN hm hr) fun e' a' w' hq => ?_)
  obtain ⟨rfl, hr'⟩ := hq
  cases e' <;> first | exact absurd rfl (he _) | exact ⟨rfl, hr'⟩

theorem VEx.scope {c : Code} {e : Exit} {s s1 : S} (h1 : VEx P N m c e s s1) (he : ∀ l, e ≠ .goto l) : VEx P N m (.scope c) e s s1 := by
  intro g φ a w hN hm hr
  refine wp_scope_straight (wp_mono (h1 g φ a w hN hm hr) fun e' a' w' hq => ?_)
  obtain ⟨rfl, hr'⟩ := hq
  cases e' <;> first | exact absurd rfl (he _) | exact ⟨rfl, hr'⟩

theorem runSeq_free {ops : Array Oper} : ∀ (l : List Oper) (ans : List (Ans × Bool)) (s s' : S) (nr : Nat) (ob : List Prop),
    runSeq P N ops l ans s nr = some (s', ob) → s.freeFrom nr → s'.freeFrom (nr + l.length)
  | [], [], s, s', nr, ob, h, hf => by
    simp [runSeq] at h; obtain ⟨rfl, rfl⟩ := h; simpa using hf
  | o :: l, an :: ans, s, s', nr, ob, h, hf => by
    simp only [runSeq] at h
    split at h
    · rename_i res hres
      split at h
      · rename_i s2 ob2 h2
        simp only [Option.some.injEq, Prod.mk.injEq] at h
        obtain ⟨rfl, rfl⟩ := h
        have := runSeq_free l ans (s.app o res) s2 (nr + 1) ob2 h2 (stepR_free hres hf)
        rw [List.length_cons]
        rw [show nr + (l.length + 1) = nr + 1 + l.length by omega]; exact this
      · simp at h
    · simp at h
  | [], _ :: _, _, _, _, _, h, _ => by simp [runSeq] at h
  | _ :: _, [], _, _, _, _, h, _ => by simp [runSeq] at h

theorem runRec_free {ops : Array Oper} : ∀ (l : List Oper) (ans : List (Ans × Bool)) (s s' : S) (nr : Nat) (rs : List Rec),
    runRec P N ops l ans s nr = some (s', rs) → s.freeFrom nr → s'.freeFrom (nr + l.length)
  | [], [], s, s', nr, ob, h, hf => by
    simp [runRec] at h; obtain ⟨rfl, rfl⟩ := h; simpa using hf
  | o :: l, an :: ans, s, s', nr, ob, h, hf => by
    simp only [runRec] at h
    split at h
    · rename_i res hres
      split at h
      · rename_i s2 ob2 h2
        simp only [Option.some.injEq, Prod.mk.injEq] at h
        obtain ⟨rfl, rfl⟩ := h
        have := runRec_free l ans (s.app o res) s2 (nr + 1) ob2 h2 (stepR_free (stepR_mono hres) hf)
        rw [List.length_cons]
        rw [show nr + (l.length + 1) = nr + 1 + l.length by omega]; exact this
      · simp at h
    · simp at h
  | [], _ :: _, _, _, _, _, h, _ => by simp [runRec] at h
  | _ :: _, [], _, _, _, _, h, _ => by simp [runRec] at h

theorem runRegion_free {ops : Array Oper} {draw : Bool} {ans : List (Ans × Bool)} {s s' : S} {nr : Nat} {ob : List Prop}
    (h : runRegion P N ops draw ans s nr = some (s', ob)) (hf : s.freeFrom nr) : s'.freeFrom (nr + ops.size) := by
  unfold runRegion at h
  split at h
  · split at h
    · rename_i s2 recs hrec
      split at h
      · simp only [Option.some.injEq, Prod.mk.injEq] at h
        obtain ⟨rfl, rfl⟩ := h
        simpa using runRec_free _ _ _ _ _ _ hrec hf
      · simp at h
    · simp at h
  · simpa using runSeq_free _ _ _ _ _ _ h hf

theorem setRow_free {s : S} {n r : Nat} {row : List Ob} (h : s.freeFrom n) (hr : r < n) : (s.setRow r row).freeFrom n := by
  intro q hq
  have : q ≠ r := by omega
  simp [S.setRow, this, h q hq]

theorem runPre_sound : ∀ (tape : List TE) (s : S) (nr : Nat) (t' : List TE) (s' : S) (n' : Nat) (ob : List Prop), runPre m tape s nr = some (t', s', n', ob) → (∀ p ∈ ob, p) → s.freeFrom nr →
    s'.freeFrom n' ∧ ∀ (g : G) φ a w, g.m = m → RelS g s φ a w → ∃ φ', RelS g s' φ' a w := by
  intro tape
  induction tape with
  | nil =>
    intro s nr t' s' n' ob h hob hf
    simp [runPre] at h; obtain ⟨rfl, rfl, rfl, rfl⟩ := h
    exact ⟨hf, fun g φ a w _ hr => ⟨φ, hr⟩⟩
  | cons x tape ih =>
    intro s nr t' s' n' ob h hob hf
    cases x with
    | rst mv rc ec =>
      simp only [runPre] at h
      split at h
      · rename_i s1 n1 o1 h1
        split at h
        · rename_i t2 s2 n2 o2 h2
          simp only [Option.some.injEq, Prod.mk.injEq] at h
          obtain ⟨rfl, rfl, rfl, rfl⟩ := h
          have hfree : s1.freeFrom n1 := by
            unfold restS at h1
            split at h1
            · split at h1
              · simp only [Option.some.injEq, Prod.mk.injEq] at h1
                obtain ⟨rfl, rfl, rfl⟩ := h1
                exact mkS_free _ _
              · simp at h1
            · simp at h1
          obtain ⟨e1, e2⟩ := ih s1 n1 t2 s2 n2 o2 h2 (fun p hp => hob p (by simp [hp])) hfree
          refine ⟨e1, fun g φ a w hm hr => ?_⟩
          obtain ⟨-, f2⟩ := restS_ok hr (by rw [hm]; exact h1) (fun p hp => hob p (by simp [hp]))
          exact e2 g _ a w hm f2
        · simp at h
      · simp at h
    | rsg l rc ec =>
      simp only [runPre] at h
      split at h
      · rename_i s1 n1 o1 h1
        split at h
        · rename_i t2 s2 n2 o2 h2
          simp only [Option.some.injEq, Prod.mk.injEq] at h
          obtain ⟨rfl, rfl, rfl, rfl⟩ := h
          have hfree : s1.freeFrom n1 := by
            unfold restSG at h1
            split at h1
            · split at h1
              · simp only [Option.some.injEq, Prod.mk.injEq] at h1
                obtain ⟨rfl, rfl, rfl⟩ := h1
                exact mkS_free _ _
              · simp at h1
            · simp at h1
          obtain ⟨e1, e2⟩ := ih s1 n1 t2 s2 n2 o2 h2 (fun p hp => hob p (by simp [hp])) hfree
          refine ⟨e1, fun g φ a w hm hr => ?_⟩
          obtain ⟨-, f2⟩ := restSG_ok hr (by rw [hm]; exact h1) (fun p hp => hob p (by simp [hp]))
          exact e2 g _ a w hm f2
        · simp at h
      · simp at h
    | frz r =>
      simp only [runPre] at h
      split at h
      · rename_i row hrow
        have hlt : r < nr := by
          rcases Nat.lt_or_ge r nr with h' | h'
          · exact h'
          · rw [hf r h'] at hrow; simp at hrow
        obtain ⟨e1, e2⟩ := ih _ nr t' s' n' ob h hob (setRow_free hf hlt)
        exact ⟨e1, fun g φ a w hm hr => e2 g φ a w hm (hr.freeze hrow)⟩
      · simp at h
    | virt t sz =>
      simp only [runPre] at h
      split at h
      · rename_i ht
        obtain ⟨e1, e2⟩ := ih _ (nr + 1) t' s' n' ob h hob (by
          intro q hq
          have : q ≠ nr := by omega
          simp [S.setRow, this, hf q (by omega)])
        refine ⟨e1, fun g φ a w hm hr => ?_⟩
        obtain ⟨φ', hr'⟩ := hr.virt (sz := sz) (hf nr (Nat.le_refl _)) ht
        exact e2 g φ' a w hm hr'
      · simp at h
    | reg ans => simp [runPre] at h; obtain ⟨rfl, rfl, rfl, rfl⟩ := h; exact ⟨hf, fun g φ a w _ hr => ⟨φ, hr⟩⟩
    | br b => simp [runPre] at h; obtain ⟨rfl, rfl, rfl, rfl⟩ := h; exact ⟨hf, fun g φ a w _ hr => ⟨φ, hr⟩⟩
    | sub e env rows => simp [runPre] at h; obtain ⟨rfl, rfl, rfl, rfl⟩ := h; exact ⟨hf, fun g φ a w _ hr => ⟨φ, hr⟩⟩

theorem wp_here {c : Code} {e : Exit} {s s' : S} (h : ∀ {Q : Exit → Act → World → Prop} {a w}, Q e a w → c.wp P Q a w) (hs : s' = s) : VEx P N m c e s s' := by
  intro g φ a w _ _ hr
  exact h ⟨rfl, φ, by rw [hs]; exact hr⟩

theorem runC_sound (hmix : P.follows .mixedOrders = true) : ∀ (c : Code) (tape : List TE) (s : S) (nr : Nat) (r : CR), runC P N m c tape s nr = some r → (∀ p ∈ r.obs, p) → s.freeFrom nr →
    (r.s.freeFrom r.nr ∧ (∀ l, r.e ≠ .goto l)) ∧ VEx P N m c r.e s r.s := by
  intro c
  induction c with
  | skip =>
    intro tape s nr r h hob hf
    simp [runC] at h; subst h
    exact ⟨⟨hf, by simp⟩, wp_here wp_skip rfl⟩
  | label l =>
    intro tape s nr r h hob hf
    simp [runC] at h; subst h
    exact ⟨⟨hf, by simp⟩, wp_here wp_label rfl⟩
  | exit id =>
    intro tape s nr r h hob hf
    simp [runC] at h; subst h
    exact ⟨⟨hf, by simp⟩, wp_here wp_exit rfl⟩
  | ret =>
    intro tape s nr r h hob hf
    simp [runC] at h; subst h
    exact ⟨⟨hf, by simp⟩, wp_here wp_ret rfl⟩
  | seq x y ihx ihy =>
    intro tape s nr r h hob hf
    simp only [runC] at h
    split at h
    · rename_i s1 n1 t1 o1 h1
      split at h
      · rename_i e2 s2 n2 t2 o2 h2
        simp only [Option.some.injEq] at h; subst h
        obtain ⟨⟨f1, -⟩, v1⟩ := ihx _ _ _ _ h1 (fun p hp => hob p (by simp [hp])) hf
        obtain ⟨f2, v2⟩ := ihy _ _ _ _ h2 (fun p hp => hob p (by simp [hp])) f1
        exact ⟨f2, v1.seq v2⟩
      · simp at h
    · rename_i r1 hne h1
      simp only [Option.some.injEq] at h; subst h
      obtain ⟨f1, v1⟩ := ihx _ _ _ _ h1 hob hf
      refine ⟨f1, v1.seq_out fun he => ?_⟩
      obtain ⟨e1, s1, n1, t1, o1⟩ := r1
      simp only at he; subst he
      exact hne s1 n1 t1 o1 rfl
    · simp at h
  | block id c ih =>
    intro tape s nr r h hob hf
    simp only [runC] at h
    split at h
    · rename_i id' s1 n1 t1 o1 h1
      simp only [Option.some.injEq] at h; subst h
      obtain ⟨⟨f1, f2⟩, v1⟩ := ih _ _ _ _ h1 hob hf
      exact ⟨⟨f1, by intro l; simp only; split <;> simp⟩, v1.block_exit⟩
    · rename_i hne
      obtain ⟨f1, v1⟩ := ih _ _ _ _ h hob hf
      refine ⟨f1, v1.block fun i he => ?_⟩
      obtain ⟨e1, s1, n1, t1, o1⟩ := r
      simp only at he; subst he
      exact hne i s1 n1 t1 o1 h
  | scope c ih =>
    intro tape s nr r h hob hf
    simp only [runC] at h
    obtain ⟨f1, v1⟩ := ih _ _ _ _ h hob hf
    exact ⟨f1, v1.scope f1.2⟩
  | region id ops draw =>
    intro tape s nr r h hob hf
    simp only [runC] at h
    split at h
    · rename_i ans t1 s1 n1 o1 h1
      split at h
      · rename_i s2 o2 h2
        simp only [Option.some.injEq] at h; subst h
        obtain ⟨f1, v1⟩ := runPre_sound _ _ _ _ _ _ _ h1 (fun p hp => hob p (by simp [hp])) hf
        refine ⟨⟨runRegion_free h2 f1, by simp⟩, ?_⟩
        intro g φ a w hN hm hr
        obtain ⟨φ1, hr1⟩ := v1 g φ a w hm hr
        subst hN
        exact runRegion_sound hmix h2 (fun p hp => hob p (by simp [hp])) f1 hr1 id fun φ' a' w' h' => ⟨rfl, φ', h'⟩
      · simp at h
    · simp at h
  | cond x c d ihc ihd =>
    intro tape s nr r h hob hf
    simp only [runC] at h
    split at h
    · rename_i e env rows t1 s1 n1 o1 h1
      simp only [Option.some.injEq] at h; subst h
      obtain ⟨f1, v1⟩ := runPre_sound _ _ _ _ _ _ _ h1 (fun p hp => hob p (by simp [hp])) hf
      have hv : VEx P N m (.cond x c d) e.x s1 (mkS env rows) := hob _ (by simp)
      refine ⟨⟨mkS_free _ _, by intro l; cases e <;> simp [XE.x]⟩, fun g φ a w hN hm hr => ?_⟩
      obtain ⟨φ1, hr1⟩ := v1 g φ a w hm hr
      exact hv g φ1 a w hN hm hr1
    · rename_i b t1 s1 n1 o1 h1
      split at h
      · rename_i v hv
        have hc : ∀ (g : G) φ a w, RelS g s1 φ a w → a.eval x = .bool v := by
          intro g φ a w hr
          have := hr.eval x
          rw [hv] at this
          exact this.b_inv
        split at h
        · split at h
          · rename_i e2 s2 n2 t2 o2 h2
            simp only [Option.some.injEq] at h; subst h
            obtain ⟨f1, v1⟩ := runPre_sound _ _ _ _ _ _ _ h1 (fun p hp => hob p (by simp [hp])) hf
            obtain ⟨f2, v2⟩ := ihc _ _ _ _ h2 (fun p hp => hob p (by simp [hp])) f1
            have hvt : v = true := hob _ (by simp)
            refine ⟨f2, fun g φ a w hN hm hr => ?_⟩
            obtain ⟨φ1, hr1⟩ := v1 g φ a w hm hr
            exact wp_cond_true (by rw [hc g φ1 a w hr1, hvt]) (v2 g φ1 a w hN hm hr1)
          · simp at h
        · split at h
          · rename_i e2 s2 n2 t2 o2 h2
            simp only [Option.some.injEq] at h; subst h
            obtain ⟨f1, v1⟩ := runPre_sound _ _ _ _ _ _ _ h1 (fun p hp => hob p (by simp [hp])) hf
            obtain ⟨f2, v2⟩ := ihd _ _ _ _ h2 (fun p hp => hob p (by simp [hp])) f1
            have hvt : v = false := hob _ (by simp)
            refine ⟨f2, fun g φ a w hN hm hr => ?_⟩
            obtain ⟨φ1, hr1⟩ := v1 g φ a w hm hr
            exact wp_cond_false (by rw [hc g φ1 a w hr1, hvt]) (v2 g φ1 a w hN hm hr1)
          · simp at h
      · simp at h
    · simp at h
  | loop c ih =>
    intro tape s nr r h hob hf
    simp only [runC] at h
    split at h
    · rename_i e env rows t1 s1 n1 o1 h1
      simp only [Option.some.injEq] at h; subst h
      obtain ⟨f1, v1⟩ := runPre_sound _ _ _ _ _ _ _ h1 (fun p hp => hob p (by simp [hp])) hf
      have hv : VEx P N m (.loop c) e.x s1 (mkS env rows) := hob _ (by simp)
      refine ⟨⟨mkS_free _ _, by intro l; cases e <;> simp [XE.x]⟩, fun g φ a w hN hm hr => ?_⟩
      obtain ⟨φ1, hr1⟩ := v1 g φ a w hm hr
      exact hv g φ1 a w hN hm hr1
    · simp at h
  | _ => intro tape s nr r h; simp [runC] at h

/-- A loop from its head: it ends so, in the state s'. -/
def VLoop (P : Program) (N m : Nat) (c : Code) (e : Exit) (s s' : S) : Prop :=
  ∃ n, ∀ (g : G) φ a w, g.N = N → g.m = m → RelS g s φ a w → Code.rounds P c (fun e' a' w' => e' = e ∧ ∃ φ', RelS g s' φ' a' w') n a w

theorem VLoop.vex {c : Code} {e : Exit} {s s' : S} (h : VLoop P N m c e s s') : VEx P N m (.loop c) e s s' := by
  obtain ⟨n, h⟩ := h
  intro g φ a w hN hm hr
  exact wp_loop_rounds n (h g φ a w hN hm hr)

theorem VLoop.out {c : Code} {e : Exit} {s s' : S} (h : VEx P N m c e s s') (he : e ≠ .normal) : VLoop P N m c e s s' := by
  refine ⟨1, fun g φ a w hN hm hr => ?_⟩
  rw [rounds_succ]
  refine wp_mono (h g φ a w hN hm hr) fun e' a' w' hq => ?_
  obtain ⟨rfl, hr'⟩ := hq
  cases e' <;> first | exact absurd rfl he | exact ⟨rfl, hr'⟩

theorem VLoop.next {c : Code} {e : Exit} {s s1 s' : S} (h : VEx P N m c .normal s s1) (h2 : VLoop P N m c e s1 s') : VLoop P N m c e s s' := by
  obtain ⟨n, h2⟩ := h2
  refine ⟨n + 1, fun g φ a w hN hm hr => ?_⟩
  rw [rounds_succ]
  refine wp_mono (h g φ a w hN hm hr) fun e' a' w' hq => ?_
  obtain ⟨rfl, φ', hr'⟩ := hq
  exact h2 g φ' a' w' hN hm hr'

/-- All of them hold. -/
inductive AllP : List Prop → Prop
  | nil : AllP []
  | cons {p : Prop} {l : List Prop} (h : p) (t : AllP l) : AllP (p :: l)

theorem AllP.c {p : Prop} {l : List Prop} (h : p) (t : AllP l) : AllP (p :: l) := .cons h t
theorem AllP.app {l m : List Prop} (h : AllP l) (k : AllP m) : AllP (l ++ m) := by
  induction h with
  | nil => exact k
  | cons h _ ih => exact .cons h ih

theorem AllP.all {l : List Prop} (h : AllP l) : ∀ p ∈ l, p := by
  induction h with
  | nil => intro p hp; simp at hp
  | cons h t ih =>
    intro q hq
    rw [List.mem_cons] at hq
    rcases hq with rfl | hq
    · exact h
    · exact ih q hq

theorem AllP.of : ∀ {l : List Prop}, (∀ p ∈ l, p) → AllP l
  | [], _ => .nil
  | _ :: _, h => .cons (h _ (by simp)) (.of fun p hp => h p (by simp [hp]))

/-- The code runs so: checked by evaluation. -/
def okC (P : Program) (N m : Nat) (c : Code) (tape : List TE) (s : S) (nr : Nat) : Option (Exit × S × List Prop) :=
  match runC P N m c tape s nr with
  | some ⟨e, s1, n1, t1, o1⟩ => match runPre m t1 s1 n1 with
    | some ([], s2, _, o2) => some (e, s2, o1 ++ o2)
    | _ => none
  | none => none

theorem okC_sound (hmix : P.follows .mixedOrders = true) {c : Code} {tape : List TE} {s s' : S} {nr : Nat} {e : Exit} {ob : List Prop} (h : okC P N m c tape s nr = some (e, s', ob)) (hob : AllP ob) (hf : s.freeFrom nr) :
    VEx P N m c e s s' := by
  have hob := hob.all
  unfold okC at h
  split at h
  · rename_i e1 s1 n1 t1 o1 h1
    split at h
    · rename_i s2 n2 o2 h2
      simp only [Option.some.injEq, Prod.mk.injEq] at h
      obtain ⟨rfl, rfl, rfl⟩ := h
      obtain ⟨⟨f1, -⟩, v1⟩ := runC_sound hmix c tape s nr _ h1 (fun p hp => hob p (by simp [hp])) hf
      obtain ⟨-, v2⟩ := runPre_sound _ _ _ _ _ _ _ h2 (fun p hp => hob p (by simp [hp])) f1
      intro g φ a w hN hm hr
      refine wp_mono (v1 g φ a w hN hm hr) fun e' a' w' hq => ?_
      obtain ⟨rfl, φ', hr'⟩ := hq
      exact ⟨rfl, v2 g φ' a' w' hm hr'⟩
    · simp at h
  · simp at h
end
end Go.VL
