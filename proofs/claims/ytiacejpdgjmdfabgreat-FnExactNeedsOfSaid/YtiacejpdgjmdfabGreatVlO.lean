/- Regions that draw their order: whatever is drawn, the end is that of the text's order. -/
import Derived.Test.YtiacejpdgjmdfabGreatVlN
namespace Go.VL
set_option linter.unusedVariables false
set_option linter.unusedSimpArgs false
open Go

def S.vw (s : S) : Nat ⊕ Nat → AV ⊕ Option (List Ob)
  | .inl t => .inl (s.E t)
  | .inr r => .inr (s.R r)

theorem S.ext_vw {s s' : S} (h : ∀ L, s.vw L = s'.vw L) : s = s' := by
  obtain ⟨E, R⟩ := s
  obtain ⟨E', R'⟩ := s'
  have h1 : E = E' := funext fun t => by have := h (.inl t); simpa [S.vw] using this
  have h2 : R = R' := funext fun r => by have := h (.inr r); simpa [S.vw] using this
  rw [h1, h2]

def lastUpd : List (Nat × List Ob) → Nat → Option (List Ob)
  | [], _ => none
  | (r, row) :: u, q => match lastUpd u q with
    | some x => some x
    | none => if r = q then some row else none

theorem upds_last : ∀ (u : List (Nat × List Ob)) (s : S) (q : Nat), (s.upds u).R q = match lastUpd u q with | some x => some x | none => s.R q
  | [], s, q => rfl
  | (r, row) :: u, s, q => by
    show ((s.setRow r row).upds u).R q = _
    rw [upds_last u (s.setRow r row) q]
    simp only [lastUpd]
    cases lastUpd u q with
    | some x => rfl
    | none =>
      simp only [S.setRow]
      by_cases h : r = q
      · subst h; simp
      · rw [if_neg (Ne.symm h), if_neg h]

theorem lastUpd_mem : ∀ (u : List (Nat × List Ob)) (q : Nat), lastUpd u q ≠ none → q ∈ u.map (·.1)
  | [], q, h => by simp [lastUpd] at h
  | (r, row) :: u, q, h => by
    simp only [lastUpd] at h
    cases hq : lastUpd u q with
    | some x => simp [lastUpd_mem u q (by rw [hq]; simp)]
    | none =>
      rw [hq] at h
      simp only at h
      by_cases e : r = q
      · simp [e]
      · rw [if_neg e] at h; simp at h

/-- What an operation's record lays at a place. -/
def eff (x : Rec) : Nat ⊕ Nat → Option (AV ⊕ Option (List Ob))
  | .inl t => if x.o.dst = some t then some (.inl x.res.val) else none
  | .inr r => (lastUpd x.res.upd r).map fun row => .inr (some row)

theorem app_vw (s : S) (x : Rec) (L : Nat ⊕ Nat) : (s.app x.o x.res).vw L = (eff x L).getD (s.vw L) := by
  cases L with
  | inl t =>
    simp only [S.vw, eff, S.app]
    cases hd : x.o.dst with
    | none => simp [S.put, upds_E]
    | some d =>
      simp only [S.put, Option.some.injEq]
      by_cases h : t = d
      · subst h; simp
      · rw [if_neg h, if_neg (Ne.symm h), upds_E]; rfl
  | inr r =>
    simp only [S.vw, eff, S.app, S.put_R]
    rw [upds_last]
    cases lastUpd x.res.upd r <;> rfl

def foldF : List Rec → (Nat → Bool) → Nat → S → S
  | [], _, _, s => s
  | x :: l, f, n, s => foldF l f (n + 1) (if f n then s.app x.o x.res else s)

theorem foldF_agree (L : Nat ⊕ Nat) : ∀ (l : List Rec) (f f' : Nat → Bool) (n : Nat) (s s' : S), s.vw L = s'.vw L →
    (∀ (i : Nat) x, l[i]? = some x → eff x L ≠ none → f (n + i) = f' (n + i)) → (foldF l f n s).vw L = (foldF l f' n s').vw L
  | [], _, _, _, _, _, h, _ => h
  | x :: l, f, f', n, s, s', h, hf => by
    simp only [foldF]
    refine foldF_agree L l f f' (n + 1) _ _ ?_ fun i y hy he => by
      have := hf (i + 1) y (by simpa using hy) he
      rw [show n + 1 + i = n + (i + 1) by omega]; exact this
    cases he : eff x L with
    | none =>
      have e : ∀ (b : Bool) (s : S), (if b then s.app x.o x.res else s).vw L = s.vw L := by
        intro b s
        cases b
        · rfl
        · simp [app_vw, he]
      rw [e, e, h]
    | some c =>
      have := hf 0 x rfl (by rw [he]; simp)
      simp only [Nat.add_zero] at this
      rw [this]
      cases f' n
      · exact h
      · simp [app_vw, he]

theorem foldF_keep (L : Nat ⊕ Nat) : ∀ (l : List Rec) (f : Nat → Bool) (n : Nat) (s : S), (∀ (i : Nat) x, l[i]? = some x → f (n + i) = true → eff x L = none) → (foldF l f n s).vw L = s.vw L
  | [], _, _, _, _ => rfl
  | x :: l, f, n, s, h => by
    simp only [foldF]
    rw [foldF_keep L l f (n + 1) _ fun i y hy hf => h (i + 1) y (by simpa using hy) (by rw [show n + (i + 1) = n + 1 + i by omega]; exact hf)]
    cases hf : f n
    · rfl
    · have := h 0 x rfl (by simpa using hf)
      simp [app_vw, this]

theorem foldF_last (L : Nat ⊕ Nat) : ∀ (l : List Rec) (f : Nat → Bool) (n j : Nat) (s : S) (x : Rec) (c : AV ⊕ Option (List Ob)), l[j]? = some x → f (n + j) = true → eff x L = some c →
    (∀ (i : Nat) y, l[i]? = some y → j < i → f (n + i) = true → eff y L = none) → (foldF l f n s).vw L = c
  | [], _, _, _, _, _, _, h, _, _, _ => by simp at h
  | y :: l, f, n, 0, s, x, c, h, hf, he, hk => by
    simp at h; subst h
    simp only [foldF]
    rw [foldF_keep L l f (n + 1) _ fun i z hz hfz => hk (i + 1) z (by simpa using hz) (by omega) (by rw [show n + (i + 1) = n + 1 + i by omega]; exact hfz)]
    simp only [Nat.add_zero] at hf
    simp [hf, app_vw, he]
  | y :: l, f, n, j + 1, s, x, c, h, hf, he, hk => by
    simp only [foldF]
    exact foldF_last L l f (n + 1) j _ x c (by simpa using h) (by rw [show n + 1 + j = n + (j + 1) by omega]; exact hf) he fun i z hz hji hfz =>
      hk (i + 1) z (by simpa using hz) (by omega) (by rw [show n + (i + 1) = n + 1 + i by omega]; exact hfz)

theorem foldF_congr : ∀ (l : List Rec) (f f' : Nat → Bool) (n : Nat) (s : S), (∀ i, i < l.length → f (n + i) = f' (n + i)) → foldF l f n s = foldF l f' n s
  | [], _, _, _, _, _ => rfl
  | x :: l, f, f', n, s, h => by
    simp only [foldF]
    have h0 := h 0 (by simp)
    simp only [Nat.add_zero] at h0
    rw [h0]
    exact foldF_congr l f f' (n + 1) _ fun i hi => by rw [show n + 1 + i = n + (i + 1) by omega]; exact h (i + 1) (by simpa using hi)

/-- The text's order. -/
theorem runRec_fold {P : Program} {N : Nat} {ops : Array Oper} : ∀ (l : List Oper) (ans : List (Ans × Bool)) (s s' : S) (nr : Nat) (rs : List Rec), runRec P N ops l ans s nr = some (s', rs) → s.freeFrom nr →
    rs.length = l.length ∧ s' = foldF rs (fun _ => true) 0 s ∧ ∀ (i : Nat) x, rs[i]? = some x → l[i]? = some x.o ∧ x.ts = rdT ops x.o ∧
      nr + i ∈ x.rs ∧ stepR P N ops ((foldF (rs.take i) (fun _ => true) 0 s).only x.ts x.rs) (nr + i) x.o x.an = some x.res ∧ (foldF (rs.take i) (fun _ => true) 0 s).freeFrom (nr + i)
  | [], [], s, s', nr, rs, h, hf => by
    simp [runRec] at h; obtain ⟨rfl, rfl⟩ := h
    exact ⟨rfl, rfl, fun i x hx => by simp at hx⟩
  | o :: l, an :: ans, s, s', nr, rs, h, hf => by
    simp only [runRec] at h
    split at h
    · rename_i res hres
      split at h
      · rename_i s2 rs2 h2
        simp only [Option.some.injEq, Prod.mk.injEq] at h
        obtain ⟨rfl, rfl⟩ := h
        have hsh : ∀ (l : List Rec) (n : Nat) (s : S), foldF l (fun _ => true) (n + 1) s = foldF l (fun _ => true) n s := by
          intro l
          induction l with
          | nil => intro n s; rfl
          | cons x l ih => intro n s; simp only [foldF]; exact ih (n + 1) _
        obtain ⟨e1, e2, e3⟩ := runRec_fold l ans (s.app o res) s2 (nr + 1) rs2 h2 (stepR_free (stepR_mono hres) hf)
        refine ⟨by simp [e1], ?_, fun i x hx => ?_⟩
        · simp only [foldF, if_true]
          rw [hsh]; exact e2
        · cases i with
          | zero =>
            simp at hx; subst hx
            exact ⟨rfl, rfl, by simp, hres, hf⟩
          | succ i =>
            simp at hx
            obtain ⟨f1, f2, f0, f3, f4⟩ := e3 i x hx
            have e : foldF ((⟨o, an, rdT ops o, nr :: rdR s o an.1, res⟩ :: rs2).take (i + 1)) (fun _ => true) 0 s = foldF (rs2.take i) (fun _ => true) 0 (s.app o res) := by
              simp only [List.take_succ_cons, foldF, if_true]
              rw [hsh]
            rw [e, show nr + (i + 1) = nr + 1 + i by omega]
            exact ⟨by simpa using f1, f2, f0, f3, f4⟩
      · simp at h
    · simp at h
  | [], _ :: _, _, _, _, _, h, _ => by simp [runRec] at h
  | _ :: _, [], _, _, _, _, h, _ => by simp [runRec] at h

/-! ### Which operation stands ahead of which -/

/-- i must have been done before j. -/
inductive Anc (ops : Array Oper) : Nat → Nat → Prop
  | one {i j : Nat} {o : Oper} {e : Edge} (ho : ops[j]? = some o) (he : e ∈ o.after) (hb : Region.binds .any e = true) (h : e.on = i) : Anc ops i j
  | step {i j k : Nat} {o : Oper} {e : Edge} (ho : ops[j]? = some o) (he : e ∈ o.after) (hb : Region.binds .any e = true) (h : e.on = k) (hk : Anc ops i k) : Anc ops i j

def masks : List Oper → List Nat → List Nat
  | [], acc => acc
  | o :: l, acc => masks l (acc ++ [o.after.toList.foldl (fun m e => if Region.binds .any e then m ||| (1 <<< e.on) ||| (acc.getD e.on 0) else m) 0])

theorem fold_mask {ops : Array Oper} {j : Nat} {o : Oper} (ho : ops[j]? = some o) {acc : List Nat} (hacc : ∀ k i, (acc.getD k 0).testBit i = true → Anc ops i k) : ∀ (es : List Edge) (m : Nat), (∀ e ∈ es, e ∈ o.after) →
    (∀ i, m.testBit i = true → Anc ops i j) → ∀ i, (es.foldl (fun m e => if Region.binds .any e then m ||| (1 <<< e.on) ||| (acc.getD e.on 0) else m) m).testBit i = true → Anc ops i j
  | [], m, _, hm, i, h => hm i h
  | e :: es, m, hes, hm, i, h => by
    simp only [List.foldl_cons] at h
    refine fold_mask ho hacc es _ (fun e' he' => hes e' (by simp [he'])) ?_ i h
    intro i hi
    split at hi
    · rename_i hb
      rw [Nat.testBit_or, Nat.testBit_or, Bool.or_eq_true, Bool.or_eq_true] at hi
      rcases hi with (hi | hi) | hi
      · exact hm i hi
      · rw [Nat.testBit_shiftLeft] at hi
        simp only [Bool.and_eq_true, decide_eq_true_eq] at hi
        have : i - e.on = 0 := by
          have := hi.2
          rcases Nat.eq_zero_or_pos (i - e.on) with h0 | h0
          · exact h0
          · rw [Nat.testBit_one_eq_true_iff_self_eq_zero] at this; exact this
        exact .one ho (hes e (by simp)) hb (by omega)
      · exact .step ho (hes e (by simp)) hb rfl (hacc _ _ hi)
    · exact hm i hi

theorem masks_anc {ops : Array Oper} : ∀ (l : List Oper) (acc : List Nat), (∀ (i : Nat) o, l[i]? = some o → ops[acc.length + i]? = some o) → (∀ k i, (acc.getD k 0).testBit i = true → Anc ops i k) →
    ∀ k i, ((masks l acc).getD k 0).testBit i = true → Anc ops i k
  | [], acc, _, h, k, i, hk => h k i hk
  | o :: l, acc, hl, h, k, i, hk => by
    simp only [masks] at hk
    refine masks_anc l _ (fun i o' ho' => by
      have := hl (i + 1) o' (by simpa using ho')
      simp only [List.length_append, List.length_cons, List.length_nil]
      rw [show acc.length + (0 + 1) + i = acc.length + (i + 1) by omega]; exact this) ?_ k i hk
    intro k i hk
    rw [List.getD_eq_getElem?_getD, List.getElem?_append] at hk
    split at hk
    · exact h k i (by rw [List.getD_eq_getElem?_getD]; exact hk)
    · rename_i hlt
      by_cases e : k = acc.length
      · subst e
        simp only [Nat.sub_self, List.getElem?_cons_zero, Option.getD_some] at hk
        exact fold_mask (hl 0 o rfl) h _ 0 (fun e he => by simpa using he) (fun i hi => by simp at hi) i hk
      · rw [List.getElem?_eq_none (by simp; omega)] at hk
        simp at hk

/-- Each pair that matters is ordered, and the edges point back. -/
def confRow (m : Nat) (y : Rec) : List Rec → Nat → Bool
  | [], _ => true
  | x :: l, i => (!conf x y || m.testBit i) && confRow m y l (i + 1)

def ordOk (recs : List Rec) : List Rec → List Nat → Nat → Bool
  | [], _, _ => true
  | y :: l, ms, j => confRow (ms.headD 0) y (recs.take j) 0 && y.o.after.toList.all (fun e => !Region.binds .any e || decide (e.on < j)) && ordOk recs l ms.tail (j + 1)

theorem confRow_ok {m : Nat} {y : Rec} : ∀ (l : List Rec) (n : Nat), confRow m y l n = true → ∀ (i : Nat) x, l[i]? = some x → conf x y = true → m.testBit (n + i) = true
  | [], _, _, i, x, hx, _ => by simp at hx
  | z :: l, n, h, i, x, hx, hc => by
    simp only [confRow, Bool.and_eq_true, Bool.or_eq_true, Bool.not_eq_true'] at h
    cases i with
    | zero =>
      simp at hx; subst hx
      rcases h.1 with e | e
      · rw [e] at hc; simp at hc
      · simpa using e
    | succ i =>
      have := confRow_ok l (n + 1) h.2 i x (by simpa using hx) hc
      rw [show n + (i + 1) = n + 1 + i by omega]; exact this

theorem ordOk_ok {recs : List Rec} : ∀ (l : List Rec) (ms : List Nat) (j : Nat), ordOk recs l ms j = true → ∀ (i : Nat) y, l[i]? = some y →
    confRow (ms.getD i 0) y (recs.take (j + i)) 0 = true ∧ ∀ e ∈ y.o.after, Region.binds .any e = true → e.on < j + i
  | [], _, _, _, i, y, hy => by simp at hy
  | z :: l, ms, j, h, i, y, hy => by
    simp only [ordOk, Bool.and_eq_true] at h
    cases i with
    | zero =>
      simp at hy; subst hy
      refine ⟨?_, fun e he hb => ?_⟩
      · have : ms.getD 0 0 = ms.headD 0 := by cases ms <;> rfl
        rw [this]; exact h.1.1
      · have := List.all_eq_true.1 h.1.2 e (by simpa using he)
        simpa [hb] using this
    | succ i =>
      obtain ⟨e1, e2⟩ := ordOk_ok l ms.tail (j + 1) h.2 i y (by simpa using hy)
      refine ⟨?_, fun e he hb => ?_⟩
      · have : ms.getD (i + 1) 0 = ms.tail.getD i 0 := by cases ms <;> rfl
        rw [this, show j + (i + 1) = j + 1 + i by omega]; exact e1
      · have := e2 e he hb; omega

end Go.VL
