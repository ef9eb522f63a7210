/- The runner's step for a call is sound. -/
import Derived.Test.YtncfpfgbpjbhfabGreatVlK
namespace Go.VL
set_option linter.unusedVariables false
set_option linter.unusedSimpArgs false
open Go

/-- A function that can be entered. -/
def Callable (P : Program) (f : FuncId) : Prop := ∃ fn, P.funcs[f]? = some fn ∧ (fn.name == "runtime.NumGoroutine") = false ∧ fn.body.isSome = true

/-- A contract: the function can be entered, and does as told. -/
def Con (P : Program) (f : FuncId) (args : List AV) (T : List (List Ob)) (r : AV) (T' : List (List Ob)) : Prop := Callable P f ∧ VCall P f args T r T'

def isFrz (k : Kd) : Bool := k = .frz
def isAny (_ : Kd) : Bool := true
def isNo (_ : Kd) : Bool := false

/-- The rows handed over. -/
def rowsIn (R : Nat → Option (List Ob)) (tgt : Nat → Option Nat) : List Nat → List RC → Option (List (List Ob) × List Prop)
  | [], [] => some ([], [])
  | r :: mv, c :: rc => match R r with
    | some row => match convR R tgt isFrz c row, rowsIn R tgt mv rc with
      | some (row', o1), some (T, o2) => some (row' :: T, o1 ++ o2)
      | _, _ => none
    | none => none
  | _, _ => none

/-- The rows behind the call: places and rows. -/
def rowsOut (R : Nat → Option (List Ob)) (tgt : Nat → Option Nat) : List Nat → List RC → List (List Ob) → Option (List (Nat × List Ob) × List Prop)
  | [], [], [] => some ([], [])
  | q :: l, c :: rc, row :: T => match convR R tgt isNo c row, rowsOut R tgt l rc T with
    | some (row', o1), some (u, o2) => some ((q, row') :: u, o1 ++ o2)
    | _, _ => none
  | _, _, _ => none

def callS (P : Program) (R : Nat → Option (List Ob)) (nr : Nat) (f : FuncId) (args : List AV) (ca : CA) : Option Res :=
  if ca.sc then
    match ca.mv, ca.T1, convL (conv2 R (fun _ => none) isAny) ca.ac args with
    | [], [], some (args', o1) => some { val := ca.r, obs := o1 ++ [Con P f args' [] ca.r [], Sc ca.r] }
    | _, _, _ => none
  else
    if !decide (ca.mv.Nodup) || ca.mv.contains nr then none else
    let l := if ca.T1.length = ca.mv.length then ca.mv else ca.mv ++ [nr]
    match convL (conv2 R (findIx ca.mv) isFrz) ca.ac args, rowsIn R (findIx ca.mv) ca.mv ca.rc,
        conv2 (fun j => ca.T1[j]?) (fun j => l[j]?) isNo ca.rr ca.r, rowsOut (fun j => ca.T1[j]?) (fun j => l[j]?) l ca.rrc ca.T1 with
    | some (args', o1), some (T, o2), some (r', o3), some (u, o4) =>
      some { val := r', upd := u, obs := o1 ++ o2 ++ o3 ++ o4 ++ [Con P f args' T ca.r ca.T1] }
    | _, _, _, _ => none

section
variable {P : Program} {g : G} {s : S} {φ : Plc} {a : Act} {w : World}

theorem rowsIn_ok (hM : RelM g s φ w) {mv : Nat → Option Nat} {tgt : Nat → Option Nat} (hi : ∀ r j, tgt r = some j ↔ mv j = some r) : ∀ (l : List Nat) (rc : List RC) (T : List (List Ob)) (ob : List Prop),
    rowsIn s.R tgt l rc = some (T, ob) → (∀ p ∈ ob, p) → T.length = l.length ∧ ∀ (j : Nat) row' r, T[j]? = some row' → l[j]? = some r → ∃ row, s.R r = some row ∧
      (∀ k o, obIn (some row) k = some o → o.kd = .live) ∧ ∀ (k : Nat) o', obIn (some row') k = some o' → ∃ o, obIn (some row) k = some o ∧ SnO s mv isFrz o o'
  | [], [], T, ob, h, _ => by
    simp [rowsIn] at h; obtain ⟨rfl, rfl⟩ := h
    exact ⟨rfl, fun j row' r hj => by simp at hj⟩
  | r :: l, c :: rc, T, ob, h, hob => by
    simp only [rowsIn] at h
    split at h
    · rename_i row hrow
      split at h
      · rename_i row1 o1 T2 o2 h1 h2
        simp only [Option.some.injEq, Prod.mk.injEq] at h
        obtain ⟨rfl, rfl⟩ := h
        obtain ⟨e1, e2⟩ := rowsIn_ok hM hi l rc T2 o2 h2 (fun p hp => hob p (by simp [hp]))
        obtain ⟨f1, f2⟩ := convR_ok hM hi hrow h1 (fun p hp => hob p (by simp [hp]))
        refine ⟨by simp [e1], fun j row' q hj hq => ?_⟩
        cases j with
        | zero => simp at hj hq; subst hj; subst hq; exact ⟨row, hrow, f1, f2⟩
        | succ j => simp at hj hq; exact e2 j row' q hj hq
      · simp at h
    · simp at h
  | [], _ :: _, _, _, h, _ => by simp [rowsIn] at h
  | _ :: _, [], _, _, h, _ => by simp [rowsIn] at h

theorem rowsOut_ok {g' : G} {s1 : S} {φ1 : Plc} {w' : World} (hM : RelM g' s1 φ1 w') {mo : Nat → Option Nat} {tgt : Nat → Option Nat} (hi : ∀ r j, tgt r = some j ↔ mo j = some r) :
    ∀ (l : List Nat) (rc : List RC) (T : List (List Ob)) (u : List (Nat × List Ob)) (ob : List Prop) (n : Nat), (∀ j row, T[j]? = some row → s1.R (n + j) = some row) →
    rowsOut s1.R tgt l rc T = some (u, ob) → (∀ p ∈ ob, p) → u.map (·.1) = l ∧ T.length = l.length ∧ ∀ (j : Nat) q row', u[j]? = some (q, row') → ∃ row, T[j]? = some row ∧
      ∀ (k : Nat) o', obIn (some row') k = some o' → ∃ o, obIn (some row) k = some o ∧ SnO s1 mo isNo o o'
  | [], [], [], u, ob, n, _, h, _ => by
    simp [rowsOut] at h; obtain ⟨rfl, rfl⟩ := h
    exact ⟨rfl, rfl, fun j q row' hj => by simp at hj⟩
  | q :: l, c :: rc, row :: T, u, ob, n, hT, h, hob => by
    simp only [rowsOut] at h
    split at h
    · rename_i row1 o1 u2 o2 h1 h2
      simp only [Option.some.injEq, Prod.mk.injEq] at h
      obtain ⟨rfl, rfl⟩ := h
      obtain ⟨e1, e2, e3⟩ := rowsOut_ok hM hi l rc T u2 o2 (n + 1) (fun j row hj => by rw [Nat.add_assoc, Nat.add_comm 1 j]; exact hT (j + 1) row (by simpa using hj)) h2 (fun p hp => hob p (by simp [hp]))
      obtain ⟨f1, f2⟩ := convR_ok (r := n) hM hi (hT 0 row rfl) h1 (fun p hp => hob p (by simp [hp]))
      refine ⟨by simp [e1], by simp [e2], fun j q' row' hj => ?_⟩
      cases j with
      | zero => simp at hj; obtain ⟨rfl, rfl⟩ := hj; exact ⟨row, rfl, f2⟩
      | succ j => simp at hj; obtain ⟨row2, g1, g2⟩ := e3 j q' row' hj; exact ⟨row2, by simpa using g1, g2⟩
    · simp at h
  | [], [], _ :: _, _, _, _, _, h, _ => by simp [rowsOut] at h
  | [], _ :: _, _, _, _, _, _, h, _ => by simp [rowsOut] at h
  | _ :: _, [], _, _, _, _, _, h, _ => by simp [rowsOut] at h
  | _ :: _, _ :: _, [], _, _, _, _, h, _ => by simp [rowsOut] at h

/-- The rows of a list of updates. -/
theorem upds_R : ∀ (u : List (Nat × List Ob)) (s : S), (u.map (·.1)).Nodup → (s.upds u).E = s.E ∧ ∀ q, (s.upds u).R q = match findIx (u.map (·.1)) q with
    | some j => (u[j]?).map (·.2)
    | none => s.R q
  | [], s, _ => ⟨rfl, fun q => rfl⟩
  | (r, row) :: u, s, hn => by
    simp only [List.map_cons, List.nodup_cons] at hn
    obtain ⟨e1, e2⟩ := upds_R u (s.setRow r row) hn.2
    refine ⟨e1, fun q => ?_⟩
    show ((s.setRow r row).upds u).R q = _
    rw [e2 q]
    simp only [List.map_cons, findIx]
    by_cases h : r = q
    · subst h
      rw [if_pos rfl]
      have : findIx (u.map (·.1)) r = none := by
        cases hf : findIx (u.map (·.1)) r with
        | none => rfl
        | some j => exact absurd (List.mem_of_getElem? (findIx_get hf)) hn.1
      rw [this]
      simp [S.setRow]
    · rw [if_neg h]
      cases hf : findIx (u.map (·.1)) q with
      | none => simp [S.setRow, Ne.symm h]
      | some j => simp

/-- A call does as its contract says. -/
theorem callS_sound (h : RelS g s φ a w) {nr : Nat} (hnr : s.R nr = none) {f : FuncId} {args : List AV} {ca : CA} {res : Res} (hres : callS P s.R nr f args ca = some res) (hobs : ∀ p ∈ res.obs, p)
    {vs : List Value} (hl : vs.length = args.length) (hargs : ∀ (j : Nat) x v, args[j]? = some x → vs[j]? = some v → Rel w (s.ok g φ w) s.us (s.tb φ) x v) :
    Callable P f ∧ Calls P f vs.toArray w fun e w' => ∃ v φ', e = .returned v ∧ RelS g (s.upds res.upd) φ' a w' ∧ Rel w' ((s.upds res.upd).ok g φ' w') (s.upds res.upd).us ((s.upds res.upd).tb φ') res.val v := by
  unfold callS at hres
  split at hres
  · -- no memory
    split at hres
    · rename_i args' o1 _ _ hc
      simp only [Option.some.injEq] at hres
      subst hres
      have hcon : Con P f args' [] ca.r [] := hobs _ (by simp)
      have hsc : Sc ca.r := hobs _ (by simp)
      refine ⟨hcon.1, ?_⟩
      have hR : SnR s (fun _ => none) isAny (rowsS []).R := ⟨fun i j r hi => by simp at hi, fun j row' hj => by simp [rowsS] at hj, fun j r hj => by simp at hj⟩
      obtain ⟨g', q1, q2, q3, q4, q5, q6, q7⟩ := enter h.toRelM (mv := fun _ => none) (al := isAny) (T := []) (fun b => b < w.heap.size) (fun _ hb => hb) (fun b hb => hb.1)
        (fun r k o b m ho _ hp => blk_lt h.toRelM ho hp) hR (fun r k o hj => by obtain ⟨j, hj⟩ := hj; simp at hj)
      obtain ⟨e1, e2, e3⟩ := convL_at _ _ _ _ _ hc
      have := hcon.2 g' (reφ φ fun _ => none) w vs.toArray q1 q3 q4 q6 (by simp [hl, e1]) (by
        intro j x' v hx' hv
        have hj : j < args.length := by have := lt_of_get hx'; omega
        have hx := List.getElem?_eq_getElem hj
        obtain ⟨c, o', f1, f2, f3⟩ := e3 j _ x' hx hx'
        have hv' : vs[j]? = some v := by simpa using hv
        exact q7 (conv2_ok h.toRelM (fun r j => by simp) f2 (fun p hp => hobs p (by simp [f3 p hp])) (hargs j _ v hx hv')) (hargs j _ v hx hv'))
      refine this.mono fun e w' hw' => ?_
      obtain ⟨v, φ', rfl, hM', hv⟩ := hw'
      have hM0 : g'.M0 = fun _ => False := by rw [q5]; funext b; simp
      refine ⟨v, φ, rfl, leave_sc h q1 hM0 hM'.keep, hv.sc hsc⟩
    · simp at hres
  · split at hres
    · simp at hres
    · rename_i hnd
      simp only [Bool.or_eq_true, Bool.not_eq_true', decide_eq_false_iff_not, not_or, Decidable.not_not, List.contains_eq_mem, decide_eq_true_eq] at hnd
      obtain ⟨hnd, hnm⟩ := hnd
      -- the list of places behind the call
      generalize hl0 : (if ca.T1.length = ca.mv.length then ca.mv else ca.mv ++ [nr]) = l at hres
      have hlnd : l.Nodup := by
        subst hl0
        split
        · exact hnd
        · rw [List.nodup_append]
          exact ⟨hnd, by simp, fun x hx y hy => by simp at hy; subst hy; rintro rfl; exact hnm hx⟩
      have hlm : ∀ (j : Nat) r, ca.mv[j]? = some r → l[j]? = some r := by
        intro j r hj
        subst hl0
        split
        · exact hj
        · rw [List.getElem?_append_left (lt_of_get hj)]; exact hj
      have hln : ∀ (j : Nat) q, l[j]? = some q → ca.mv[j]? = some q ∨ q = nr := by
        intro j q hj
        subst hl0
        split at hj
        · exact .inl hj
        · rw [List.getElem?_append] at hj
          split at hj
          · exact .inl hj
          · right
            have := lt_of_get hj
            simp at this
            rw [show j - ca.mv.length = 0 by omega] at hj
            simpa using hj.symm
      simp only at hres
      split at hres
      · rename_i args' o1 T o2 r' o3 u o4 hc1 hc2 hc3 hc4
        simp only [Option.some.injEq] at hres
        subst hres
        have hcon : Con P f args' T ca.r ca.T1 := hobs _ (by simp)
        refine ⟨hcon.1, ?_⟩
        have hiff : ∀ (r j : Nat), findIx ca.mv r = some j ↔ ca.mv[j]? = some r := fun r j => ⟨findIx_get, get_findIx hnd⟩
        obtain ⟨t1, t2⟩ := rowsIn_ok (mv := fun j => ca.mv[j]?) h.toRelM hiff ca.mv ca.rc T o2 hc2 (fun p hp => hobs p (by simp [hp]))
        have hR : SnR s (fun j => ca.mv[j]?) isFrz (rowsS T).R := by
          refine ⟨fun i j r hi hj => (List.getElem?_inj (lt_of_get hi) hnd).1 (hi.trans hj.symm), fun j row' hj => ?_, fun j r hj _ => ?_⟩
          · have hj' : T[j]? = some row' := hj
            have hlt : j < ca.mv.length := by have := lt_of_get hj'; omega
            obtain ⟨row, e1, -, e3⟩ := t2 j row' _ hj' (List.getElem?_eq_getElem hlt)
            exact ⟨_, row, List.getElem?_eq_getElem hlt, e1, e3⟩
          · have : j < T.length := by have := lt_of_get hj; omega
            simp [rowsS, this]
        have hlive : ∀ r k o, (∃ j : Nat, ca.mv[j]? = some r) → s.ob r k = some o → o.kd = .live := by
          rintro r k o ⟨j, hj⟩ ho
          have hlt : j < T.length := by have := lt_of_get hj; omega
          obtain ⟨row, e1, e2, -⟩ := t2 j _ r (List.getElem?_eq_getElem hlt) hj
          unfold S.ob at ho
          rw [e1] at ho
          exact e2 k o ho
        obtain ⟨g', q1, q2, q3, q4, q5, q6, q7⟩ := enter h.toRelM (mv := fun j => ca.mv[j]?) (al := isFrz) (T := T) (s.ok g φ w) (fun b hb => hb.1) (fun b hb => hb)
          (fun r k o b m ho hk hp => ok_frz h.toRelM ho (by simpa [isFrz] using hk) hp) hR hlive
        obtain ⟨e1, e2, e3⟩ := convL_at _ _ _ _ _ hc1
        have := hcon.2 g' (reφ φ fun j => ca.mv[j]?) w vs.toArray q1 q3 q4 q6 (by simp [hl, e1]) (by
          intro j x' v hx' hv
          have hj : j < args.length := by have := lt_of_get hx'; omega
          have hx := List.getElem?_eq_getElem hj
          obtain ⟨c, o', f1, f2, f3⟩ := e3 j _ x' hx hx'
          have hv' : vs[j]? = some v := by simpa using hv
          exact q7 (conv2_ok h.toRelM hiff f2 (fun p hp => hobs p (by simp [f3 p hp])) (hargs j _ v hx hv')) (hargs j _ v hx hv'))
        refine this.mono fun e w' hw' => ?_
        obtain ⟨v, φ1, rfl, hM', hv⟩ := hw'
        have hiff2 : ∀ (r j : Nat), l[r]? = some j ↔ findIx l j = some r := fun r j => ⟨get_findIx hlnd, findIx_get⟩
        obtain ⟨u1, u2, u3⟩ := rowsOut_ok (mo := fun q => findIx l q) hM' hiff2 l ca.rrc ca.T1 u o4 0 (fun j row hj => by simpa [rowsS] using hj) hc4 (fun p hp => hobs p (by simp [hp]))
        obtain ⟨w1, w2⟩ := upds_R u s (by rw [u1]; exact hlnd)
        rw [u1] at w2
        have hR2 : SnR (rowsS ca.T1) (fun q => findIx l q) isNo (fun q => match findIx l q with | some j => (u[j]?).map (·.2) | none => none) := by
          refine ⟨fun i j r hi hj => ?_, fun q row' hq => ?_, fun q j hq hj => ?_⟩
          · have h1 := findIx_get hi
            have h2 := findIx_get hj
            rw [h1] at h2; simpa using h2
          · cases hf : findIx l q with
            | none => simp only [hf] at hq; simp at hq
            | some j =>
              simp only [hf] at hq
              rw [Option.map_eq_some_iff] at hq
              obtain ⟨⟨q', row2⟩, hu, rfl⟩ := hq
              obtain ⟨row, f1, f2⟩ := u3 j q' row2 hu
              exact ⟨j, row, rfl, f1, f2⟩
          · have hjl : j < u.length := by
              have := lt_of_get (findIx_get hq)
              rw [← u1] at this; simpa using this
            simp [hq, hjl]
        have hx3 : Sn (rowsS ca.T1) (fun q => findIx l q) isNo ca.r r' := conv2_ok hM' hiff2 hc3 (fun p hp => hobs p (by simp [hp])) hv
        obtain ⟨φ2, f1, f2⟩ := leave h q1 q2 q3 q4 q5 hlive hR hM' hR2 (mo := fun q => findIx l q)
          (fun j r hj => ⟨get_findIx hlnd (hlm j r hj), by have := lt_of_get hj; omega⟩)
          (fun q j hq => by
            rcases hln j q (findIx_get hq) with e | e
            · exact .inl e
            · subst e; exact .inr hnr)
          (fun q j hq => by
            have hjl : j < u.length := by
              have := lt_of_get (findIx_get hq)
              rw [← u1] at this; simpa using this
            simp [hq, hjl])
          (s2 := s.upds u) w1 (by
            funext q
            rw [w2 q]
            cases hf : findIx l q with
            | none => simp
            | some j => simp) hx3 hv
        exact ⟨v, φ2, rfl, f1, f2⟩
      · simp at hres
end
end Go.VL
