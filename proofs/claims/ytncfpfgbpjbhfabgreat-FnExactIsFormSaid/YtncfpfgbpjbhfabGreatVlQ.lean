/- Saying a state anew, by hints. -/
import Derived.Test.YtncfpfgbpjbhfabGreatVlP
namespace Go.VL
set_option linter.unusedVariables false
set_option linter.unusedSimpArgs false
open Go

def lkp : List (Nat × AV) → Nat → AV
  | [], _ => .dead
  | (u, v) :: l, t => if t = u then v else lkp l t

/-- A state given by lists. -/
def mkS (env : List (Nat × AV)) (rows : List (List Ob)) : S := { E := lkp env, R := fun r => rows[r]? }

theorem mkS_free (env : List (Nat × AV)) (rows : List (List Ob)) : (mkS env rows).freeFrom rows.length := by
  intro r hr
  simp [mkS, hr]

def PureRow (row : List Ob) : Prop := ∀ o ∈ row, PureEs o.es

/-- A row in other words. -/
def convW (R : Nat → Option (List Ob)) (tgt : Nat → Option Nat) : RC → List Ob → Option (List Ob × List Prop)
  | .pure, row => some (row, [PureRow row])
  | .as row', row => some (row', [row = row', PureRow row'])
  | .drop, _ => some ([], [])
  | .box l, [o] => match o.es with
    | [c] => match convL (conv0 R tgt isAny) l c with
        | some (c', ob) => some ([{ o with es := [c'] }], ob)
        | none => none
    | _ => none
  | _, _ => none

def restR (R : Nat → Option (List Ob)) (tgt : Nat → Option Nat) : List Nat → List RC → Option (List (List Ob) × List Prop)
  | [], [] => some ([], [])
  | r :: mv, c :: rc => match R r with
    | some row => match convW R tgt c row, restR R tgt mv rc with
      | some (row', o1), some (T, o2) => some (row' :: T, o1 ++ o2)
      | _, _ => none
    | none => none
  | _, _ => none

def restE (R : Nat → Option (List Ob)) (tgt : Nat → Option Nat) (E : Nat → AV) : List (Nat × C2) → Option (List (Nat × AV) × List Prop)
  | [] => some ([], [])
  | (t, c) :: l => match conv2 R tgt isAny c (E t), restE R tgt E l with
    | some (v, o1), some (env, o2) => some ((t, v) :: env, o1 ++ o2)
    | _, _ => none

def fixes (mv : List Nat) (m : Nat) : Bool := (List.range m).all fun j => mv[j]? == some j

def restS (m : Nat) (s : S) (mv : List Nat) (rc : List RC) (ec : List (Nat × C2)) : Option (S × Nat × List Prop) :=
  if decide mv.Nodup && fixes mv m then
    match restR s.R (findIx mv) mv rc, restE s.R (findIx mv) s.E ec with
    | some (T, o1), some (env, o2) => some (mkS env T, T.length, o1 ++ o2)
    | _, _ => none
  else none

section
variable {P : Program} {g : G} {s : S} {φ : Plc} {a : Act} {w : World}

theorem convW_ok (hM : RelM g s φ w) {mv tgt : Nat → Option Nat} (hi : ∀ r j, tgt r = some j ↔ mv j = some r) {c : RC} {r : Nat} {row row' : List Ob} {ob : List Prop} (hrow : s.R r = some row)
    (h : convW s.R tgt c row = some (row', ob)) (hob : ∀ p ∈ ob, p) :
    ∀ (k : Nat) o', obIn (some row') k = some o' → ∃ o, obIn (some row) k = some o ∧ SnO s mv isAny o o' := by
  have hlen : ∀ k o, obIn (some row) k = some o → ∀ e ∈ o.es, e.length = o.sz := by
    intro k o ho
    have ho' : s.ob r k = some o := by unfold S.ob; rw [hrow]; exact ho
    have hobj := hM.obj r k o ho'
    cases hp : φ r k with
    | none => rw [hp] at hobj; simp only [ObRel] at hobj; rw [hobj]; simp
    | some q => rw [hp] at hobj; obtain ⟨_, _, _, _, e, _⟩ := hobj; exact e
  have hpure : PureRow row → ∀ (k : Nat) o', obIn (some row) k = some o' → ∃ o, obIn (some row) k = some o ∧ SnO s mv isAny o o' := by
    intro hp
    have hmem : ∀ k o, obIn (some row) k = some o → o ∈ row := by
      intro k o ho
      unfold obIn at ho
      simp only at ho
      split at ho
      · rename_i o' ho'
        split at ho
        · simp at ho
        · simp at ho; subst ho; exact List.mem_of_getElem? ho'
      · simp at ho
    refine fun k o ho => ⟨o, ho, rfl, .inl rfl, rfl, hlen k o ho, fun j x x' hx hx' => ?_⟩
    rw [hx] at hx'; simp at hx'; subst hx'
    obtain ⟨e, he, hxe⟩ := mem_flatten_at hx
    exact .pure (hp o (hmem k o ho) e he x hxe)
  cases c with
  | pure =>
    simp only [convW, Option.some.injEq, Prod.mk.injEq] at h
    obtain ⟨rfl, rfl⟩ := h
    exact hpure (hob _ (by simp))
  | as row2 =>
    simp only [convW, Option.some.injEq, Prod.mk.injEq] at h
    obtain ⟨rfl, rfl⟩ := h
    have e : row = row2 := hob _ (by simp)
    subst e
    exact hpure (hob _ (by simp))
  | drop =>
    simp only [convW, Option.some.injEq, Prod.mk.injEq] at h
    obtain ⟨rfl, rfl⟩ := h
    intro k o ho; simp [obIn] at ho
  | box l =>
    match row, h with
    | [o], h =>
      simp only [convW] at h
      split at h
      · rename_i c hes
        split at h
        · rename_i c' ob' hc
          simp only [Option.some.injEq, Prod.mk.injEq] at h
          obtain ⟨rfl, rfl⟩ := h
          intro k p hp
          rw [obIn_one] at hp
          split at hp
          · rename_i hk0
            obtain ⟨rfl, hkd⟩ := hk0
            simp only [Option.some.injEq] at hp; subst hp
            have h0 : obIn (some [o]) 0 = some o := by rw [obIn_one]; simpa using hkd
            refine ⟨o, h0, ?_⟩
            have ho' : s.ob r 0 = some o := by unfold S.ob; rw [hrow]; exact h0
            have hobj := hM.obj r 0 o ho'
            cases hpp : φ r 0 with
            | none => rw [hpp] at hobj; simp only [ObRel] at hobj; rw [hes] at hobj; simp at hobj
            | some q =>
              obtain ⟨b, m⟩ := q
              rw [hpp] at hobj
              obtain ⟨ca, ty, g1, g2, g3, g4⟩ := hobj
              have hcl' : c.length = o.sz := g3 c (by rw [hes]; simp)
              have hfl : o.es.flatten = c := by rw [hes]; simp
              obtain ⟨e1, e2⟩ := convL0_ok (vs := (List.range c.length).map fun j => (ca[j]?).getD undef) hM hi hc hob (by simp) (by
                intro j y u hy hu
                have hj := lt_of_get hy
                rw [List.getElem?_map, List.getElem?_range hj] at hu
                simp only [Option.map_some, Option.some.injEq] at hu
                obtain ⟨u', u1, -, u3⟩ := g4 j y (by rw [hfl]; exact hy)
                rw [u1] at hu; simp at hu; subst hu
                exact u3)
              refine ⟨rfl, .inl rfl, by simp [hes], by simp; omega, fun j x x' hx hx' => ?_⟩
              rw [hfl] at hx
              simp only [List.flatten_cons, List.flatten_nil, List.append_nil] at hx'
              exact e2 j x x' hx hx'
          · simp at hp
        · simp at h
      · simp at h
    | [], h => simp [convW] at h
    | _ :: _ :: _, h => simp [convW] at h

theorem restR_ok (hM : RelM g s φ w) {mv tgt : Nat → Option Nat} (hi : ∀ r j, tgt r = some j ↔ mv j = some r) : ∀ (l : List Nat) (rc : List RC) (T : List (List Ob)) (ob : List Prop),
    restR s.R tgt l rc = some (T, ob) → (∀ p ∈ ob, p) → T.length = l.length ∧ ∀ (j : Nat) row' r, T[j]? = some row' → l[j]? = some r → ∃ row, s.R r = some row ∧
      ∀ (k : Nat) o', obIn (some row') k = some o' → ∃ o, obIn (some row) k = some o ∧ SnO s mv isAny o o'
  | [], [], T, ob, h, _ => by
    simp [restR] at h; obtain ⟨rfl, rfl⟩ := h
    exact ⟨rfl, fun j row' r hj => by simp at hj⟩
  | r :: l, c :: rc, T, ob, h, hob => by
    simp only [restR] at h
    split at h
    · rename_i row hrow
      split at h
      · rename_i row1 o1 T2 o2 h1 h2
        simp only [Option.some.injEq, Prod.mk.injEq] at h
        obtain ⟨rfl, rfl⟩ := h
        obtain ⟨e1, e2⟩ := restR_ok hM hi l rc T2 o2 h2 (fun p hp => hob p (by simp [hp]))
        have f2 := convW_ok hM hi hrow h1 (fun p hp => hob p (by simp [hp]))
        refine ⟨by simp [e1], fun j row' q hj hq => ?_⟩
        cases j with
        | zero => simp at hj hq; subst hj; subst hq; exact ⟨row, hrow, f2⟩
        | succ j => simp at hj hq; exact e2 j row' q hj hq
      · simp at h
    · simp at h
  | [], _ :: _, _, _, h, _ => by simp [restR] at h
  | _ :: _, [], _, _, h, _ => by simp [restR] at h

theorem restE_ok (h : RelS g s φ a w) {mv tgt : Nat → Option Nat} (hi : ∀ r j, tgt r = some j ↔ mv j = some r) : ∀ (l : List (Nat × C2)) (env : List (Nat × AV)) (ob : List Prop),
    restE s.R tgt s.E l = some (env, ob) → (∀ p ∈ ob, p) → ∀ t, Sn s mv isAny (s.E t) (lkp env t)
  | [], env, ob, hr, _ => by
    simp [restE] at hr; obtain ⟨rfl, rfl⟩ := hr
    intro t; exact .dead _
  | (u, c) :: l, env, ob, hr, hob => by
    simp only [restE] at hr
    split at hr
    · rename_i v o1 env2 o2 h1 h2
      simp only [Option.some.injEq, Prod.mk.injEq] at hr
      obtain ⟨rfl, rfl⟩ := hr
      have ih := restE_ok h hi l env2 o2 h2 (fun p hp => hob p (by simp [hp]))
      intro t
      unfold lkp
      split
      · rename_i e; subst e
        exact conv2_ok h.toRelM hi h1 (fun p hp => hob p (by simp [hp])) (h.env t)
      · exact ih t
    · simp at hr

theorem hi_of {mv : List Nat} (hn : mv.Nodup) : ∀ r j, findIx mv r = some j ↔ (fun j => mv[j]?) j = some r :=
  fun _ _ => ⟨findIx_get, get_findIx hn⟩

theorem restS_ok (h : RelS g s φ a w) {mv : List Nat} {rc : List RC} {ec : List (Nat × C2)} {s' : S} {n : Nat} {ob : List Prop} (hr : restS g.m s mv rc ec = some (s', n, ob)) (hob : ∀ p ∈ ob, p) :
    s'.freeFrom n ∧ RelS g s' (reφ φ fun j => mv[j]?) a w := by
  unfold restS at hr
  split at hr
  · rename_i hc
    simp only [Bool.and_eq_true, decide_eq_true_eq] at hc
    obtain ⟨hnd, hfx⟩ := hc
    split at hr
    · rename_i T o1 env o2 h1 h2
      simp only [Option.some.injEq, Prod.mk.injEq] at hr
      obtain ⟨rfl, rfl, rfl⟩ := hr
      refine ⟨mkS_free _ _, ?_⟩
      obtain ⟨e1, e2⟩ := restR_ok h.toRelM (hi_of hnd) mv rc T o1 h1 (fun p hp => hob p (by simp [hp]))
      refine h.restate (mv := fun j => mv[j]?) ⟨?_, ?_, ?_⟩ ?_ ?_
      · intro i j r hi hj
        have a1 := get_findIx hnd hi
        have a2 := get_findIx hnd hj
        rw [a1] at a2; simpa using a2
      · intro j row' hj
        have hj' : T[j]? = some row' := hj
        have hlt : j < mv.length := by have := lt_of_get hj'; omega
        have hq := List.getElem?_eq_getElem hlt
        obtain ⟨row, f1, f2⟩ := e2 j row' _ hj' hq
        exact ⟨_, row, hq, f1, f2⟩
      · intro j r hj _
        have hlt : j < T.length := by have := lt_of_get hj; omega
        simp [mkS, hlt]
      · exact restE_ok h (hi_of hnd) ec env o2 h2 (fun p hp => hob p (by simp [hp]))
      · intro j hj
        unfold fixes at hfx
        have := List.all_eq_true.1 hfx j (List.mem_range.2 hj)
        simpa using this
    · simp at hr
  · simp at hr

/-- A nil slice as an object of its own, without place. -/
theorem RelS.virt (h : RelS g s φ a w) {nr t sz : Nat} (hnr : s.R nr = none) (ht : s.E t = .nils) :
    ∃ φ', RelS g { E := fun u => if u = t then .osl nr 0 0 0 else s.E u, R := (s.setRow nr [⟨sz, [], .live⟩]).R } φ' a w := by
  let s2 := s.setRow nr [⟨sz, [], .live⟩]
  let φ' : Plc := fun q k => if q = nr then none else φ q k
  have hne : ∀ q, s.us q → q ≠ nr := by
    rintro q hq rfl; simp [S.us, hnr] at hq
  have hR : ∀ q, q ≠ nr → s2.R q = s.R q := fun q hq => by simp [s2, S.setRow, hq]
  have hRn : s2.R nr = some [⟨sz, [], .live⟩] := by simp [s2, S.setRow]
  have hobn : ∀ k o, s2.ob nr k = some o → o = ⟨sz, [], .live⟩ ∧ k = 0 := by
    intro k o ho
    unfold S.ob at ho
    rw [hRn, obIn_one] at ho
    split at ho
    · rename_i e; simp at ho; exact ⟨ho.symm, e.1⟩
    · simp at ho
  have hob : ∀ q k, q ≠ nr → s2.ob q k = s.ob q k := fun q k hq => by unfold S.ob; rw [hR q hq]
  have hou : ∀ q k o, s.ob q k = some o → s.us q := by
    intro q k o ho
    unfold S.ob at ho
    unfold S.us
    cases hq : s.R q with
    | none => rw [hq] at ho; simp [obIn] at ho
    | some _ => rfl
  have htb : ∀ q k, q ≠ nr → s2.tb φ' q k = s.tb φ q k := fun q k hq => by simp [S.tb, hob q k hq, φ', hq]
  have st : Step g s φ w s2 φ' w := ⟨fun q hq => by unfold S.us; rw [hR q (hne q hq)]; exact hq, fun q k hq => .inl (htb q k (hne q hq)), fun b hl => by
      obtain ⟨q, k, o, m, h1, h2, h3⟩ := hl
      by_cases e : q = nr
      · subst e; simp [φ'] at h3
      · rw [hob q k e] at h1
        simp only [φ', if_neg e] at h3
        exact .inl ⟨q, k, o, m, h1, h2, h3⟩, fun _ _ _ => rfl, Nat.le_refl _⟩
  have hM : RelM g s2 φ' w := by
    refine ⟨?_, ?_, ?_, h.keep, h.mlt, h.alt, ?_⟩
    · intro q k o ho
      by_cases e : q = nr
      · subst e
        obtain ⟨rfl, -⟩ := hobn k o ho
        simp [φ', ObRel]
      · rw [hob q k e] at ho
        have := st.obj (fun b m _ => rfl) (h.obj q k o ho)
        simpa [φ', e] using this
    · intro q k o q' k' o' b m m' h1 h2 h3 h4
      have e : q ≠ nr := by rintro rfl; simp [φ'] at h3
      have e' : q' ≠ nr := by rintro rfl; simp [φ'] at h4
      rw [hob q k e] at h1
      rw [hob q' k' e'] at h2
      simp only [φ', if_neg e] at h3
      simp only [φ', if_neg e'] at h4
      exact h.inj q k o q' k' o' b m m' h1 h2 h3 h4
    · intro q k o b m h1 h2
      have e : q ≠ nr := by rintro rfl; simp [φ'] at h2
      rw [hob q k e] at h1
      simp only [φ', if_neg e] at h2
      exact h.own q k o b m h1 h2
    · intro j k hj
      obtain ⟨e1, e2⟩ := h.stay j k hj
      refine ⟨by unfold S.us; rw [hR j (hne j e1)]; exact e1, ?_⟩
      rw [htb j k (hne j e1)]; exact e2
  refine ⟨φ', ?_⟩
  have hM' : RelM g { E := fun u => if u = t then .osl nr 0 0 0 else s.E u, R := s2.R } φ' w := hM.congr rfl
  refine { toRelM := hM', env := fun u => ?_, defers := h.defers, tsz := h.tsz }
  have hst := st.rel (h.env u)
  have e1 : ∀ s3 : S, s3.R = s2.R → Rel w (s2.ok g φ' w) s2.us (s2.tb φ') = Rel w (s3.ok g φ' w) s3.us (s3.tb φ') := fun s3 e => by
    rw [ok_congr e, us_congr e, tb_congr e]
  refine Eq.mp (congrFun (congrFun (e1 { E := fun u => if u = t then .osl nr 0 0 0 else s.E u, R := s2.R } rfl) _) _) ?_
  show Rel _ _ _ _ (if u = t then .osl nr 0 0 0 else s.E u) _
  split
  · rename_i e; subst e
    have h0 := h.env u
    rw [ht] at h0
    rw [h0.nils_inv]
    have hn : s2.tb φ' nr 0 = some (sz, none) := by
      unfold S.tb S.ob
      rw [hRn, obIn_one]; simp [φ']
    exact .oslVirt (by simp [S.us, hRn]) hn
  · exact hst
end
end Go.VL
