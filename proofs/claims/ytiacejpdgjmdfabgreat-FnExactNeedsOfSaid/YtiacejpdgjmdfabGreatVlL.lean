/- The runner's step for a call is sound. -/
import Derived.Test.YtiacejpdgjmdfabGreatVlK
namespace Go.VL
set_option linter.unusedVariables false
set_option linter.unusedSimpArgs false
open Go

/-- A function that can be entered. -/
def Callable (P : Program) (f : FuncId) : Prop := ∃ fn, P.funcs[f]? = some fn ∧ (fn.name == "runtime.NumGoroutine") = false ∧ fn.body.isSome = true

/-- A contract: the function can be entered, and does as told. -/
def Con (P : Program) (f : FuncId) (args : List AV) (T : List (List Ob)) (r : AV) (T' : List (List Ob)) : Prop := Callable P f ∧ VCall P f args T r T'

def isFrz (k : Kd) : Bool := k = .frz
def isAny (_ : Kd) : Bool := true
def isNo (_ : Kd) : Bool := false

/-! ### What is handed over -/

def Src.r : Src → Nat
  | .row r => r
  | .ob r _ _ => r
def Src.has : Src → Nat → Nat → Prop
  | .row r, q, _ => q = r
  | .ob r k _, q, k' => q = r ∧ k' = k
def Src.ix : Src → Nat → Nat
  | .row _, k => k
  | .ob .., _ => 0

def mvL (l : List Src) : Mv := fun j i => match l[j]? with
  | some (.row r) => some (r, i)
  | some (.ob r k _) => if i = 0 then some (r, k) else none
  | none => none

def tgtL (n : Nat) : List Src → Nat → Option Nat
  | [], _ => none
  | .row r :: l, q => if r = q then some n else tgtL (n + 1) l q
  | .ob .. :: l, q => tgtL (n + 1) l q

def moL (n : Nat) : List Src → Mv
  | [], _, _ => none
  | .row r :: l, q, k => if q = r then some (n, k) else moL (n + 1) l q k
  | .ob r k' _ :: l, q, k => if q = r ∧ k = k' then some (n, 0) else moL (n + 1) l q k

def backL (l : List Src) : Nat → Option Nat := fun j => match l[j]? with
  | some (.row r) => some r
  | _ => none

def apart : Src → Src → Option (List Prop)
  | .ob r k _, .ob r' k' _ => if r = r' then some [k ≠ k'] else some []
  | a, b => if a.r = b.r then none else some []
def apartL (a : Src) : List Src → Option (List Prop)
  | [] => some []
  | b :: l => match apart a b, apartL a l with
    | some x, some y => some (x ++ y)
    | _, _ => none
def distL : List Src → Option (List Prop)
  | [] => some []
  | a :: l => match apartL a l, distL l with
    | some x, some y => some (x ++ y)
    | _, _ => none

def DisL (l : List Src) : Prop := l.Pairwise fun a b => ∀ r k, ¬ (a.has r k ∧ b.has r k)

theorem apart_ok {a b : Src} {ob : List Prop} (h : apart a b = some ob) (hob : ∀ p ∈ ob, p) : ∀ r k, ¬ (a.has r k ∧ b.has r k) := by
  rintro r k ⟨h1, h2⟩
  have hr : ∀ c : Src, c.has r k → c.r = r := fun c hc => by
    cases c with
    | row r0 => exact Eq.symm hc
    | ob r0 k0 o0 => exact Eq.symm hc.1
  have e := (hr a h1).trans (hr b h2).symm
  cases a with
  | row r0 => simp only [apart] at h; rw [if_pos e] at h; simp at h
  | ob r0 k0 o0 =>
    cases b with
    | row r1 => simp only [apart] at h; rw [if_pos e] at h; simp at h
    | ob r1 k1 o1 =>
      simp only [apart] at h
      rw [if_pos (show r0 = r1 from e)] at h
      simp only [Option.some.injEq] at h
      subst h
      exact hob _ (List.mem_singleton.2 rfl) (h1.2.symm.trans h2.2)

theorem apartL_ok {a : Src} : ∀ {l : List Src} {ob : List Prop}, apartL a l = some ob → (∀ p ∈ ob, p) → ∀ b ∈ l, ∀ r k, ¬ (a.has r k ∧ b.has r k)
  | [], _, _, _, _, hb => by simp at hb
  | b :: l, ob, h, hob, c, hc => by
    simp only [apartL] at h
    split at h
    · rename_i x y h1 h2
      simp only [Option.some.injEq] at h; subst h
      rcases List.mem_cons.1 hc with rfl | hc
      · exact apart_ok h1 fun p hp => hob p (by simp [hp])
      · exact apartL_ok h2 (fun p hp => hob p (by simp [hp])) c hc
    · simp at h

theorem distL_ok : ∀ {l : List Src} {ob : List Prop}, distL l = some ob → (∀ p ∈ ob, p) → DisL l
  | [], _, _, _ => List.Pairwise.nil
  | a :: l, ob, h, hob => by
    simp only [distL] at h
    split at h
    · rename_i x y h1 h2
      simp only [Option.some.injEq] at h; subst h
      exact List.pairwise_cons.2 ⟨apartL_ok h1 fun p hp => hob p (by simp [hp]), distL_ok h2 fun p hp => hob p (by simp [hp])⟩
    · simp at h

theorem mvL_iff {l : List Src} {j i r k : Nat} : mvL l j i = some (r, k) ↔ ∃ a, l[j]? = some a ∧ a.has r k ∧ i = a.ix k := by
  unfold mvL
  cases h : l[j]? with
  | none => simp
  | some a =>
    cases a with
    | row r0 =>
      simp only [Option.some.injEq, Prod.mk.injEq, exists_eq_left', Src.has, Src.ix]
      constructor <;> rintro ⟨a, b⟩ <;> exact ⟨a.symm, b⟩
    | ob r0 k0 o =>
      simp only [Option.some.injEq, exists_eq_left', Src.has, Src.ix]
      by_cases e : i = 0
      · rw [if_pos e]; simp only [Option.some.injEq, Prod.mk.injEq, e, and_true]; constructor <;> rintro ⟨a, b⟩ <;> exact ⟨a.symm, b.symm⟩
      · rw [if_neg e]; simp [e]

theorem moL_some : ∀ {l : List Src} {n r k j i : Nat}, moL n l r k = some (j, i) → ∃ a, n ≤ j ∧ l[j - n]? = some a ∧ a.has r k ∧ i = a.ix k
  | [], _, _, _, _, _, h => by simp [moL] at h
  | .row r0 :: l, n, r, k, j, i, h => by
    simp only [moL] at h
    split at h
    · rename_i e
      simp only [Option.some.injEq, Prod.mk.injEq] at h
      obtain ⟨rfl, rfl⟩ := h
      exact ⟨.row r0, Nat.le_refl _, by simp, e, rfl⟩
    · obtain ⟨a, h1, h2, h3, h4⟩ := moL_some h
      exact ⟨a, by omega, by rw [show j - n = (j - (n + 1)) + 1 by omega, List.getElem?_cons_succ]; exact h2, h3, h4⟩
  | .ob r0 k0 o :: l, n, r, k, j, i, h => by
    simp only [moL] at h
    split at h
    · rename_i e
      simp only [Option.some.injEq, Prod.mk.injEq] at h
      obtain ⟨rfl, rfl⟩ := h
      exact ⟨.ob r0 k0 o, Nat.le_refl _, by simp, e, rfl⟩
    · obtain ⟨a, h1, h2, h3, h4⟩ := moL_some h
      exact ⟨a, by omega, by rw [show j - n = (j - (n + 1)) + 1 by omega, List.getElem?_cons_succ]; exact h2, h3, h4⟩

theorem moL_cons (n : Nat) (a : Src) (l : List Src) (r k : Nat) (h : ¬ a.has r k) : moL n (a :: l) r k = moL (n + 1) l r k := by
  cases a <;> simp only [moL, Src.has] at h ⊢ <;> rw [if_neg h]
theorem moL_head (n : Nat) (a : Src) (l : List Src) (r k : Nat) (h : a.has r k) : moL n (a :: l) r k = some (n, a.ix k) := by
  cases a <;> simp only [moL, Src.has, Src.ix] at h ⊢ <;> rw [if_pos h]

theorem moL_of : ∀ {l : List Src} {n r k j : Nat} {a : Src}, DisL l → l[j]? = some a → a.has r k → moL n l r k = some (n + j, a.ix k)
  | b :: l, n, r, k, 0, a, _, h, ha => by
    simp at h; subst h
    exact moL_head n b l r k ha
  | b :: l, n, r, k, j + 1, a, hd, h, ha => by
    simp at h
    have hd := List.pairwise_cons.1 hd
    rw [moL_cons n b l r k fun hb => hd.1 a (List.mem_of_getElem? h) r k ⟨hb, ha⟩, moL_of (j := j) hd.2 h ha]
    congr 2; omega

theorem has_ix {a : Src} {r k r' k' : Nat} (h : a.has r k) (h' : a.has r' k') (e : a.ix k = a.ix k') : r = r' ∧ k = k' := by
  cases a <;> simp only [Src.has, Src.ix] at h h' e <;> omega

theorem moL_inj {l : List Src} {n r k r' k' : Nat} {p : Nat × Nat} (h : moL n l r k = some p) (h' : moL n l r' k' = some p) : r = r' ∧ k = k' := by
  obtain ⟨j, i⟩ := p
  obtain ⟨a, h1, h2, h3, h4⟩ := moL_some h
  obtain ⟨a', h1', h2', h3', h4'⟩ := moL_some h'
  rw [h2] at h2'; simp at h2'; subst h2'
  exact has_ix h3 h3' (by omega)

theorem tgtL_some : ∀ {l : List Src} {n r j : Nat}, tgtL n l r = some j → n ≤ j ∧ l[j - n]? = some (.row r)
  | [], _, _, _, h => by simp [tgtL] at h
  | .row r0 :: l, n, r, j, h => by
    simp only [tgtL] at h
    split at h
    · rename_i e; simp at h; subst h; subst e; exact ⟨Nat.le_refl _, by simp⟩
    · obtain ⟨h1, h2⟩ := tgtL_some h
      exact ⟨by omega, by rw [show j - n = (j - (n + 1)) + 1 by omega, List.getElem?_cons_succ]; exact h2⟩
  | .ob r0 k0 o :: l, n, r, j, h => by
    simp only [tgtL] at h
    obtain ⟨h1, h2⟩ := tgtL_some h
    exact ⟨by omega, by rw [show j - n = (j - (n + 1)) + 1 by omega, List.getElem?_cons_succ]; exact h2⟩
theorem tgtL_none : ∀ {l : List Src} {n r : Nat}, tgtL n l r = none → Src.row r ∉ l
  | [], _, _, _ => by simp
  | .row r0 :: l, n, r, h => by
    simp only [tgtL] at h
    split at h
    · simp at h
    · rename_i e
      simp only [List.mem_cons, Src.row.injEq, not_or]
      exact ⟨fun h => e h.symm, tgtL_none h⟩
  | .ob r0 k0 o :: l, n, r, h => by
    simp only [tgtL] at h
    simp only [List.mem_cons, reduceCtorEq, false_or]
    exact tgtL_none h

/-- The rows handed over. -/
def rowsIn (R : Nat → Option (List Ob)) (tgt : Nat → Option Nat) (mv : Mv) : List Src → List RC → Option (List (List Ob) × List Prop)
  | [], [] => some ([], [])
  | .row r :: l, c :: rc => match R r with
    | some row => match convR R tgt mv isFrz c row, rowsIn R tgt mv l rc with
      | some (row', o1), some (T, o2) => some (row' :: T, o1 ++ o2)
      | _, _ => none
    | none => none
  | .ob r k o :: l, c :: rc => match R r with
    | some row => match convR R tgt mv isFrz c [o], rowsIn R tgt mv l rc with
      | some (row', o1), some (T, o2) => some (row' :: T, (obIn (some row) k = some o) :: (o1 ++ o2))
      | _, _ => none
    | none => none
  | _, _ => none

/-- The rows behind the call: places and rows. -/
def rowsOut (R1 : Nat → Option (List Ob)) (tgt : Nat → Option Nat) (mo : Mv) : (Nat → Option (List Ob)) → List Src → List RC → List (List Ob) → Option (List (Nat × List Ob) × List Prop)
  | _, [], [], [] => some ([], [])
  | R, .row q :: l, c :: rc, row :: T => match convR R1 tgt mo isNo c row with
    | some (row', o1) => match rowsOut R1 tgt mo (fun x => if x = q then some row' else R x) l rc T with
      | some (u, o2) => some ((q, row') :: u, o1 ++ o2)
      | none => none
    | none => none
  | R, .ob q k _ :: l, c :: rc, row :: T => match R q with
    | some cur => match convR R1 tgt mo isNo c row with
      | some ([o'], o1) => match rowsOut R1 tgt mo (fun x => if x = q then some (cur.set k o') else R x) l rc T with
        | some (u, o2) => some ((q, cur.set k o') :: u, o1 ++ o2)
        | none => none
      | _ => none
    | none => none
  | _, _, _, _ => none

/-- Values without memory but for what they name. -/
def ScT (T : List (List Ob)) : Prop := ∀ row ∈ T, ∀ o ∈ row, ∀ e ∈ o.es, ∀ x ∈ e, Sc x

def callS (P : Program) (R : Nat → Option (List Ob)) (nr : Nat) (f : FuncId) (args : List AV) (ca : CA) : Option Res :=
  let l := if ca.T1.length = ca.mv.length then ca.mv else ca.mv ++ [.row nr]
  match distL ca.mv with
  | none => none
  | some o0 =>
    if ca.mv.any (fun a => decide (a.r = nr)) then none else
    if ca.sc then
      match ca.mv with
      | [] =>
        match convL (conv2 R (fun _ => none) (mvL []) isAny) ca.ac args, conv2 (fun j => ca.T1[j]?) (backL l) (moL 0 l) isNo ca.rr ca.r,
            rowsOut (fun j => ca.T1[j]?) (backL l) (moL 0 l) R l ca.rrc ca.T1 with
        | some (args', o1), some (r', o3), some (u, o4) => some { val := r', upd := u, obs := o1 ++ o3 ++ o4 ++ [Con P f args' [] ca.r ca.T1, Sc ca.r] ++ (if ca.T1.isEmpty then [] else [ScT ca.T1]) }
        | _, _, _ => none
      | _ => none
    else
      match convL (conv2 R (tgtL 0 ca.mv) (mvL ca.mv) isFrz) ca.ac args, rowsIn R (tgtL 0 ca.mv) (mvL ca.mv) ca.mv ca.rc,
          conv2 (fun j => ca.T1[j]?) (backL l) (moL 0 l) isNo ca.rr ca.r, rowsOut (fun j => ca.T1[j]?) (backL l) (moL 0 l) R l ca.rrc ca.T1 with
      | some (args', o1), some (T, o2), some (r', o3), some (u, o4) =>
        some { val := r', upd := u, obs := o0 ++ o1 ++ o2 ++ o3 ++ o4 ++ [Con P f args' T ca.r ca.T1] }
      | _, _, _, _ => none

theorem convR_live {R : Nat → Option (List Ob)} {tgt : Nat → Option Nat} {mv : Mv} {al : Kd → Bool} {c : RC} {row row' : List Ob} {ob : List Prop} (h : convR R tgt mv al c row = some (row', ob)) (hob : ∀ p ∈ ob, p) :
    ∀ k o, obIn (some row) k = some o → o.kd = .live := by
  have hmem : ∀ k o, obIn (some row) k = some o → o ∈ row ∧ o.kd ≠ .gone := by
    intro k o ho
    rw [obIn_eq] at ho
    cases hk : row[k]? with
    | none => rw [hk] at ho; simp at ho
    | some p =>
      rw [hk, Option.bind_some] at ho
      split at ho
      · simp at ho
      · rename_i e; simp at ho; subst ho; exact ⟨List.mem_of_getElem? hk, e⟩
  intro k o ho
  obtain ⟨h1, h2⟩ := hmem k o ho
  cases c with
  | pure =>
    simp only [convR, Option.some.injEq, Prod.mk.injEq] at h
    obtain ⟨rfl, rfl⟩ := h
    exact ((hob _ (List.mem_singleton.2 rfl) : PureLive row) o h1).2
  | as row2 =>
    simp only [convR, Option.some.injEq, Prod.mk.injEq] at h
    obtain ⟨rfl, rfl⟩ := h
    have e : row = row2 := hob _ (by simp)
    have hp : PureLive row2 := hob _ (by simp)
    exact (hp o (e ▸ h1)).2
  | rn row2 =>
    simp only [convR, Option.some.injEq, Prod.mk.injEq] at h
    obtain ⟨rfl, rfl⟩ := h
    have hp : LiveR row := hob _ (by simp)
    exact (hp o h1).resolve_right h2
  | rx row2 => cases row with
    | nil => simp [convR] at h
    | cons o l => cases l <;> simp [convR] at h
  | drop => cases row with
    | nil => simp [convR] at h
    | cons o l => cases l <;> simp [convR] at h
  | box l =>
    match row, h, h1 with
    | [p], h, h1 =>
      simp only [convR] at h
      rw [List.mem_singleton] at h1; subst h1
      split at h
      · split at h
        · rename_i e; exact e
        · simp at h
      · simp at h
    | [], h, _ => simp [convR] at h
    | _ :: _ :: _, h, _ => simp [convR] at h

section
variable {P : Program} {g : G} {s : S} {φ : Plc} {a : Act} {w : World}

theorem rowsIn_ok (hM : RelM g s φ w) {mv : Mv} {tgt : Nat → Option Nat} (H : Tg s mv tgt isFrz) : ∀ (l : List Src) (rc : List RC) (T : List (List Ob)) (ob : List Prop),
    rowsIn s.R tgt mv l rc = some (T, ob) → (∀ p ∈ ob, p) → T.length = l.length ∧ ∀ (j : Nat) row' b, T[j]? = some row' → l[j]? = some b →
      (∀ r k o, b.has r k → s.ob r k = some o → o.kd = .live) ∧ (∀ r k, b.has r k → s.us r k → b.ix k < row'.length) ∧
      (∀ r k o, b = .ob r k o → s.ob r k = some o) ∧
      ∀ (i : Nat) o', obIn (some row') i = some o' → ∃ r k o, b.has r k ∧ i = b.ix k ∧ s.ob r k = some o ∧ SnO s mv isFrz isT o o'
  | [], [], T, ob, h, _ => by
    simp [rowsIn] at h; obtain ⟨rfl, rfl⟩ := h
    exact ⟨rfl, fun j row' r hj => by simp at hj⟩
  | .row r :: l, c :: rc, T, ob, h, hob => by
    simp only [rowsIn] at h
    split at h
    · rename_i row hrow
      split at h
      · rename_i row1 o1 T2 o2 h1 h2
        simp only [Option.some.injEq, Prod.mk.injEq] at h
        obtain ⟨rfl, rfl⟩ := h
        obtain ⟨e1, e2⟩ := rowsIn_ok hM H l rc T2 o2 h2 (fun p hp => hob p (by simp [hp]))
        have hob' : ∀ k, s.ob r k = obIn (some row) k := fun k => by unfold S.ob; rw [hrow]
        obtain ⟨f0, f1, f2⟩ := convR_ok (q := isT) (κ := id) hM H (dnT _) (fun k o ho => (hob' k).trans ho) h1 (fun p hp => hob p (by simp [hp])) (fun _ _ _ _ _ _ _ => trivial)
        refine ⟨by simp [e1], fun j row' b hj hb => ?_⟩
        cases j with
        | zero =>
          simp at hj hb; subst hj; subst hb
          refine ⟨fun q k o hq ho => ?_, fun q k hq hu => ?_, fun _ _ _ e => by simp at e, fun i o' ho' => ?_⟩
          · have hq : q = r := hq
            subst hq; rw [hob'] at ho; exact f1 k o ho
          · have hq : q = r := hq
            subst hq; rw [f0]; simpa [S.us, hrow, Src.ix] using hu
          · obtain ⟨o, g1, g2⟩ := f2 i o' ho'
            exact ⟨r, i, o, rfl, rfl, (hob' i).trans g1, g2⟩
        | succ j => simp at hj hb; exact e2 j row' b hj hb
      · simp at h
    · simp at h
  | .ob r k0 o0 :: l, c :: rc, T, ob, h, hob => by
    simp only [rowsIn] at h
    split at h
    · rename_i row hrow
      split at h
      · rename_i row1 o1 T2 o2 h1 h2
        simp only [Option.some.injEq, Prod.mk.injEq] at h
        obtain ⟨rfl, rfl⟩ := h
        obtain ⟨e1, e2⟩ := rowsIn_ok hM H l rc T2 o2 h2 (fun p hp => hob p (by simp [hp]))
        have ho : s.ob r k0 = some o0 := by unfold S.ob; rw [hrow]; exact hob _ (by simp)
        have hone : ∀ k o, obIn (some [o0]) k = some o → k = 0 ∧ o = o0 := fun k o hk => by
          rw [obIn_one] at hk; split at hk
          · rename_i e; simp at hk; exact ⟨e.1, hk.symm⟩
          · simp at hk
        have hng : o0.kd ≠ .gone := by
          unfold S.ob at ho; rw [hrow, obIn_eq] at ho
          cases hk : row[k0]? with
          | none => rw [hk] at ho; simp at ho
          | some p =>
            rw [hk, Option.bind_some] at ho; split at ho
            · simp at ho
            · rename_i e; simp at ho; subst ho; exact e
        obtain ⟨f0, f1, f2⟩ := convR_ok (q := isT) (κ := fun _ => k0) (r := r) hM H (dnT _) (fun k o hk => by rw [(hone k o hk).2]; exact ho) h1 (fun p hp => hob p (by simp [hp])) (fun _ _ _ _ _ _ _ => trivial)
        refine ⟨by simp [e1], fun j row' b hj hb => ?_⟩
        cases j with
        | zero =>
          simp at hj hb; subst hj; subst hb
          refine ⟨fun q k o hq ho2 => ?_, fun q k hq hu => ?_, fun r' k' o' e => ?_, fun i o' ho' => ?_⟩
          · obtain ⟨rfl, rfl⟩ : q = r ∧ k = k0 := hq
            rw [ho] at ho2; simp at ho2; subst ho2
            exact f1 0 o0 (by rw [obIn_one]; simp [hng])
          · rw [f0]; simp [Src.ix]
          · cases e; exact ho
          · obtain ⟨o, g1, g2⟩ := f2 i o' ho'
            obtain ⟨rfl, rfl⟩ := hone i o g1
            exact ⟨r, k0, o, ⟨rfl, rfl⟩, rfl, ho, g2⟩
        | succ j => simp at hj hb; exact e2 j row' b hj hb
      · simp at h
    · simp at h
  | [], _ :: _, _, _, h, _ => by simp [rowsIn] at h
  | .row _ :: _, [], _, _, h, _ => by simp [rowsIn] at h
  | .ob .. :: _, [], _, _, h, _ => by simp [rowsIn] at h

theorem rowsOut_ok {g' : G} {s1 : S} {φ1 : Plc} {w' : World} (hM : RelM g' s1 φ1 w') {mo : Mv} {q : AV → Prop} {tgt : Nat → Option Nat} (H : Tg s1 mo tgt isNo) (hd : Dn q isNo)
    (hq : ∀ j i o, s1.ob j i = some o → ∀ e ∈ o.es, ∀ x ∈ e, q x) :
    ∀ (l : List Src) (rc : List RC) (T : List (List Ob)) (u : List (Nat × List Ob)) (ob : List Prop) (n : Nat) (s : S), DisL l → (∀ j row, T[j]? = some row → s1.R (n + j) = some row) →
    (∀ r k j i, moL n l r k = some (j, i) → s.us r k → s1.us j i) → (∀ r k o, Src.ob r k o ∈ l → s.us r k) →
    rowsOut s1.R tgt mo s.R l rc T = some (u, ob) → (∀ p ∈ ob, p) → T.length = l.length ∧ (s.upds u).E = s.E ∧
      (∀ r k o, (s.upds u).ob r k = some o → (∃ j i p, moL n l r k = some (j, i) ∧ s1.ob j i = some p ∧ SnO s1 mo isNo q p o) ∨ (moL n l r k = none ∧ s.ob r k = some o)) ∧
      (∀ r k, s.us r k → (s.upds u).us r k) ∧ (∀ r k j i, moL n l r k = some (j, i) → s1.us j i → (s.upds u).us r k)
  | [], [], [], u, ob, n, s, _, _, _, _, h, _ => by
    simp [rowsOut] at h; obtain ⟨rfl, rfl⟩ := h
    exact ⟨rfl, rfl, fun r k o ho => .inr ⟨rfl, ho⟩, fun r k h => h, fun r k j i h => by simp [moL] at h⟩
  | .row q0 :: l, c :: rc, row :: T, u, ob, n, s, hD, hT, hu, hu2, h, hob => by
    simp only [rowsOut] at h
    split at h
    · rename_i row' o1 h1
      split at h
      · rename_i u2 o2 h2
        simp only [Option.some.injEq, Prod.mk.injEq] at h
        obtain ⟨rfl, rfl⟩ := h
        have hD' := List.pairwise_cons.1 hD
        have hr1 : s1.R n = some row := hT 0 row rfl
        have hob1 : ∀ k, s1.ob n k = obIn (some row) k := fun k => by unfold S.ob; rw [hr1]
        obtain ⟨f0, f1, f2⟩ := convR_ok (q := q) (κ := id) (r := n) hM H hd (fun k o ho => (hob1 k).trans ho) h1 (fun p hp => hob p (by simp [hp])) (fun k o ho => hq n k o ((hob1 k).trans ho))
        have hno : ∀ k j i, moL (n + 1) l q0 k ≠ some (j, i) := fun k j i hm => by
          obtain ⟨b, m1, m2, m3, m4⟩ := moL_some hm
          exact hD'.1 b (List.mem_of_getElem? m2) q0 k ⟨rfl, m3⟩
        have hus' : ∀ r k, s.us r k → (s.setRow q0 row').us r k := fun r k hk => by
          rw [us_setRow]
          by_cases e : r = q0
          · subst e; rw [if_pos rfl, f0]
            have := hu r k n k (by simp [moL]) hk
            simpa [S.us, hr1] using this
          · rw [if_neg e]; exact hk
        obtain ⟨e1, e2, e3, e4, e5⟩ := rowsOut_ok hM H hd hq l rc T u2 o2 (n + 1) (s.setRow q0 row') hD'.2 (fun j row hj => by rw [Nat.add_assoc, Nat.add_comm 1 j]; exact hT (j + 1) row (by simpa using hj))
          (fun r k j i hm hk => by
            have hne : r ≠ q0 := by rintro rfl; exact hno _ _ _ hm
            refine hu r k j i ?_ (by rw [us_setRow, if_neg hne] at hk; exact hk)
            rw [moL_cons n (.row q0) l r k hne]; exact hm)
          (fun r k o hm => hus' r k (hu2 r k o (by simp [hm]))) h2 (fun p hp => hob p (by simp [hp]))
        refine ⟨by simp [e1], e2, fun r k o ho => ?_, fun r k hk => e4 r k (hus' r k hk), fun r k j i hm hk => ?_⟩
        · rcases e3 r k o ho with ⟨j, i, p, m1, m2, m3⟩ | ⟨m1, m2⟩
          · have hne : r ≠ q0 := by rintro rfl; exact hno _ _ _ m1
            exact .inl ⟨j, i, p, by rw [moL_cons n (.row q0) l r k hne]; exact m1, m2, m3⟩
          · rw [ob_setRow] at m2
            by_cases e : r = q0
            · subst e
              rw [if_pos rfl] at m2
              obtain ⟨p, g1, g2⟩ := f2 k o m2
              exact .inl ⟨n, k, p, by simp [moL], (hob1 k).trans g1, g2⟩
            · rw [if_neg e] at m2
              exact .inr ⟨by rw [moL_cons n (.row q0) l r k e]; exact m1, m2⟩
        · by_cases e : r = q0
          · subst e
            simp only [moL, if_true] at hm
            simp only [Option.some.injEq, Prod.mk.injEq] at hm
            obtain ⟨rfl, rfl⟩ := hm
            refine e4 r k ?_
            rw [us_setRow, if_pos rfl, f0]
            simpa [S.us, hr1] using hk
          · rw [moL_cons n (.row q0) l r k e] at hm
            exact e5 r k j i hm hk
      · simp at h
    · simp at h
  | .ob q0 k0 o0 :: l, c :: rc, row :: T, u, ob, n, s, hD, hT, hu, hu2, h, hob => by
    simp only [rowsOut] at h
    split at h
    · rename_i cur hcur
      split at h
      · rename_i o' o1 h1
        split at h
        · rename_i u2 o2 h2
          simp only [Option.some.injEq, Prod.mk.injEq] at h
          obtain ⟨rfl, rfl⟩ := h
          have hD' := List.pairwise_cons.1 hD
          have hr1 : s1.R n = some row := hT 0 row rfl
          have hob1 : ∀ k, s1.ob n k = obIn (some row) k := fun k => by unfold S.ob; rw [hr1]
          obtain ⟨f0, f1, f2⟩ := convR_ok (q := q) (κ := id) (r := n) hM H hd (fun k o ho => (hob1 k).trans ho) h1 (fun p hp => hob p (by simp [hp])) (fun k o ho => hq n k o ((hob1 k).trans ho))
          have hno : ∀ j i, moL (n + 1) l q0 k0 ≠ some (j, i) := fun j i hm => by
            obtain ⟨b, m1, m2, m3, m4⟩ := moL_some hm
            exact hD'.1 b (List.mem_of_getElem? m2) q0 k0 ⟨⟨rfl, rfl⟩, m3⟩
          have hus' : ∀ r k, s.us r k → (s.setRow q0 (cur.set k0 o')).us r k := us_setRow_of s hcur (by simp)
          have hk0 : k0 < cur.length := by have := hu2 q0 k0 o0 (by simp); simpa [S.us, hcur] using this
          obtain ⟨e1, e2, e3, e4, e5⟩ := rowsOut_ok hM H hd hq l rc T u2 o2 (n + 1) (s.setRow q0 (cur.set k0 o')) hD'.2 (fun j row hj => by rw [Nat.add_assoc, Nat.add_comm 1 j]; exact hT (j + 1) row (by simpa using hj))
            (fun r k j i hm hk => by
              have hne : ¬ (Src.ob q0 k0 o0).has r k := by rintro ⟨rfl, rfl⟩; exact hno _ _ hm
              refine hu r k j i (by rw [moL_cons n _ l r k hne]; exact hm) ?_
              rw [us_setRow] at hk
              split at hk
              · rename_i e; subst e; simpa [S.us, hcur] using hk
              · exact hk)
            (fun r k o hm => hus' r k (hu2 r k o (by simp [hm]))) h2 (fun p hp => hob p (by simp [hp]))
          refine ⟨by simp [e1], e2, fun r k o ho => ?_, fun r k hk => e4 r k (hus' r k hk), fun r k j i hm hk => ?_⟩
          · rcases e3 r k o ho with ⟨j, i, p, m1, m2, m3⟩ | ⟨m1, m2⟩
            · have hne : ¬ (Src.ob q0 k0 o0).has r k := by rintro ⟨rfl, rfl⟩; exact hno _ _ m1
              exact .inl ⟨j, i, p, by rw [moL_cons n _ l r k hne]; exact m1, m2, m3⟩
            · rw [ob_setRow] at m2
              by_cases e : r = q0
              · subst e
                rw [if_pos rfl, obIn_eq, List.getElem?_set] at m2
                by_cases e2 : k0 = k
                · subst e2
                  rw [if_pos rfl, if_pos hk0, Option.bind_some] at m2
                  have m3 : obIn (some [o']) 0 = some o := by rw [obIn_eq]; exact m2
                  obtain ⟨p, g1, g2⟩ := f2 0 o m3
                  exact .inl ⟨n, 0, p, by simp [moL], (hob1 0).trans g1, g2⟩
                · rw [if_neg e2] at m2
                  have hne : ¬ (Src.ob r k0 o0).has r k := by rintro ⟨-, rfl⟩; exact e2 rfl
                  exact .inr ⟨by rw [moL_cons n _ l r k hne]; exact m1, by unfold S.ob; rw [hcur, obIn_eq]; exact m2⟩
              · rw [if_neg e] at m2
                have hne : ¬ (Src.ob q0 k0 o0).has r k := by rintro ⟨rfl, -⟩; exact e rfl
                exact .inr ⟨by rw [moL_cons n _ l r k hne]; exact m1, m2⟩
          · by_cases e : (Src.ob q0 k0 o0).has r k
            · obtain ⟨rfl, rfl⟩ := e
              exact e4 r k (hus' r k (hu2 r k o0 (by simp)))
            · rw [moL_cons n _ l r k e] at hm
              exact e5 r k j i hm hk
        · simp at h
      · simp at h
    · simp at h
  | [], [], _ :: _, _, _, _, _, _, _, _, _, h, _ => by simp [rowsOut] at h
  | [], _ :: _, _, _, _, _, _, _, _, _, _, h, _ => by simp [rowsOut] at h
  | .row _ :: _, [], _, _, _, _, _, _, _, _, _, h, _ => by simp [rowsOut] at h
  | .ob .. :: _, [], _, _, _, _, _, _, _, _, _, h, _ => by simp [rowsOut] at h
  | .row _ :: _, _ :: _, [], _, _, _, _, _, _, _, _, h, _ => by simp [rowsOut] at h
  | .ob .. :: _, _ :: _, [], _, _, _, _, _, _, _, _, h, _ => by simp [rowsOut] at h

/-- A call: what is handed over is apart; the rest as the contract says. -/
theorem call_aux (h : RelS g s φ a w) {nr : Nat} (hnr : s.R nr = none) {f : FuncId} {args : List AV} {ca : CA} {l : List Src} (hl0 : l = if ca.T1.length = ca.mv.length then ca.mv else ca.mv ++ [.row nr])
    (hD : DisL ca.mv) (hnm : ∀ a ∈ ca.mv, a.r ≠ nr) {al : Kd → Bool} {A : Nat → Prop} {q : AV → Prop} {T : List (List Ob)} {tgt : Nat → Option Nat}
    (hA : ∀ b, A b → b < w.heap.size) (hA1 : ∀ b, s.ok g φ w b → A b) (hA2 : ∀ r k o b m, s.ob r k = some o → al o.kd = true → φ r k = some (b, m) → A b)
    (hAq : (∀ b, A b → s.ok g φ w b) ∨ (∀ x, q x → Sc x)) (hd : Dn q isNo) (Ht : Tg s (mvL ca.mv) tgt al)
    (hR : SnR s (mvL ca.mv) al isT (rowsS T).R) (hlive : ∀ r k o, (∃ j i, mvL ca.mv j i = some (r, k)) → s.ob r k = some o → o.kd = .live) (hex : ∀ r k o, Src.ob r k o ∈ ca.mv → s.us r k)
    {args' : List AV} {o1 : List Prop} (hc1 : convL (conv2 s.R tgt (mvL ca.mv) al) ca.ac args = some (args', o1)) (ho1 : ∀ p ∈ o1, p)
    {r' : AV} {o3 : List Prop} (hc3 : conv2 (fun j => ca.T1[j]?) (backL l) (moL 0 l) isNo ca.rr ca.r = some (r', o3)) (ho3 : ∀ p ∈ o3, p)
    {u : List (Nat × List Ob)} {o4 : List Prop} (hc4 : rowsOut (fun j => ca.T1[j]?) (backL l) (moL 0 l) s.R l ca.rrc ca.T1 = some (u, o4)) (ho4 : ∀ p ∈ o4, p)
    (hcon : Con P f args' T ca.r ca.T1) (hqr : q ca.r) (hqT : ∀ j i o, (rowsS ca.T1).ob j i = some o → ∀ e ∈ o.es, ∀ x ∈ e, q x)
    {vs : List Value} (hl : vs.length = args.length) (hargs : ∀ (j : Nat) x v, args[j]? = some x → vs[j]? = some v → Rel w (s.ok g φ w) s.us (s.tb φ) x v) :
    Callable P f ∧ Calls P f vs.toArray w fun e w' => ∃ v φ', e = .returned v ∧ RelS g (s.upds u) φ' a w' ∧ Rel w' ((s.upds u).ok g φ' w') (s.upds u).us ((s.upds u).tb φ') r' v := by
  have hDl : DisL l := by
    subst hl0
    split
    · exact hD
    · refine List.pairwise_append.2 ⟨hD, List.pairwise_singleton _ _, fun b hb c hc r k hh => ?_⟩
      rw [List.mem_singleton] at hc; subst hc
      have h1 : r = nr := hh.2
      subst h1
      cases b with
      | row r0 => exact hnm _ hb (Eq.symm hh.1)
      | ob r0 k0 o0 => exact hnm _ hb (Eq.symm hh.1.1)
  have hlm : ∀ (j : Nat) b, ca.mv[j]? = some b → l[j]? = some b := by
    intro j b hj
    subst hl0
    split
    · exact hj
    · rw [List.getElem?_append_left (lt_of_get hj)]; exact hj
  have hln : ∀ (j : Nat) b, l[j]? = some b → ca.mv[j]? = some b ∨ b = .row nr := by
    intro j b hj
    subst hl0
    split at hj
    · exact .inl hj
    · rw [List.getElem?_append] at hj
      split at hj
      · exact .inl hj
      · right
        have := lt_of_get hj
        simp at this
        rw [show j - ca.mv.length = 0 by omega] at hj
        simpa using hj.symm
  refine ⟨hcon.1, ?_⟩
  obtain ⟨g', q1, q2, q3, qu, q4, q5, q6, q7⟩ := enter h.toRelM A hA hA1 hA2 hR hlive
  obtain ⟨e1, e2, e3⟩ := convL_at _ _ _ _ _ hc1
  have := hcon.2 g' (reφ φ (mvL ca.mv)) w vs.toArray q1 q3 qu q4 q6 (by simp [hl, e1]) (by
    intro j x' v hx' hv
    have hj : j < args.length := by have := lt_of_get hx'; omega
    have hx := List.getElem?_eq_getElem hj
    obtain ⟨c, o', f1, f2, f3⟩ := e3 j _ x' hx hx'
    have hv' : vs[j]? = some v := by simpa using hv
    exact q7 (conv2_ok h.toRelM Ht (dnT _) f2 (fun p hp => ho1 p (f3 p hp)) trivial (hargs j _ v hx hv')) (hargs j _ v hx hv'))
  refine this.mono fun e w' hw' => ?_
  obtain ⟨v, φ1, rfl, hM', hv⟩ := hw'
  have Ho : Tg (rowsS ca.T1) (moL 0 l) (backL l) isNo := by
    refine ⟨fun j r hj k => ?_, fun _ _ _ _ _ ha => by simp [isNo] at ha⟩
    unfold backL at hj
    split at hj
    · rename_i r0 hr0
      simp at hj; subst hj
      have := moL_of (n := 0) (r := r0) (k := k) hDl hr0 rfl
      simpa [Src.ix] using this
    · simp at hj
  have hback : ∀ j i r k, mvL ca.mv j i = some (r, k) → moL 0 l r k = some (j, i) := fun j i r k hm => by
    obtain ⟨b, m1, m2, rfl⟩ := mvL_iff.1 hm
    have := moL_of (n := 0) hDl (hlm j b m1) m2
    simpa using this
  have hnew : ∀ r k j i, moL 0 l r k = some (j, i) → mvL ca.mv j i = some (r, k) ∨ ¬ s.us r k := fun r k j i hm => by
    obtain ⟨b, -, m2, m3, m4⟩ := moL_some hm
    rcases hln j b (by simpa using m2) with e | e
    · exact .inl (mvL_iff.2 ⟨b, e, m3, m4⟩)
    · subst e
      have : r = nr := m3
      subst this
      exact .inr (not_us_of_none hnr k)
  obtain ⟨u1, u2, u3, u4, u5⟩ := rowsOut_ok (s1 := rowsS ca.T1) hM' Ho hd hqT l ca.rrc ca.T1 u o4 0 s hDl (fun j row hj => by simpa [rowsS] using hj)
    (fun r k j i hm hk => by
      rcases hnew r k j i hm with e | e
      · exact (hM'.stay j i (by rw [qu]; exact hR.us _ _ _ _ e hk)).1
      · exact absurd hk e)
    (fun r k o hm => by
      obtain ⟨j, hj⟩ := List.getElem?_of_mem hm
      rcases hln j _ hj with e | e
      · exact hex r k o (List.mem_of_getElem? e)
      · cases e) hc4 ho4
  obtain ⟨φ2, f1, f2⟩ := leave (q0 := isT) (q := q) h q1 (by rw [q2]; exact hAq) qu q4 q5 hlive hR hM' hback hnew (fun r k r' k' p => moL_inj) (s2 := s.upds u) u2 u3 u4 u5
    (conv2_ok hM' Ho hd hc3 ho3 hqr hv) hv
  exact ⟨v, φ2, rfl, f1, f2⟩

/-- A call does as its contract says. -/
theorem callS_sound (h : RelS g s φ a w) {nr : Nat} (hnr : s.R nr = none) {f : FuncId} {args : List AV} {ca : CA} {res : Res} (hres : callS P s.R nr f args ca = some res) (hobs : ∀ p ∈ res.obs, p)
    {vs : List Value} (hl : vs.length = args.length) (hargs : ∀ (j : Nat) x v, args[j]? = some x → vs[j]? = some v → Rel w (s.ok g φ w) s.us (s.tb φ) x v) :
    Callable P f ∧ Calls P f vs.toArray w fun e w' => ∃ v φ', e = .returned v ∧ RelS g (s.upds res.upd) φ' a w' ∧ Rel w' ((s.upds res.upd).ok g φ' w') (s.upds res.upd).us ((s.upds res.upd).tb φ') res.val v := by
  unfold callS at hres
  simp only at hres
  generalize hl0 : (if ca.T1.length = ca.mv.length then ca.mv else ca.mv ++ [.row nr]) = l at hres
  split at hres
  · simp at hres
  · rename_i o0 hd0
    split at hres
    · simp at hres
    · rename_i hnm0
      have hnm : ∀ a ∈ ca.mv, a.r ≠ nr := fun b hb e => hnm0 (List.any_eq_true.2 ⟨b, hb, by simpa using e⟩)
      split at hres
      · -- a value without memory
        split at hres
        · rename_i hmv
          split at hres
          · rename_i args' o1 r' o3 u o4 hc1 hc3 hc4
            simp only [Option.some.injEq] at hres
            subst hres
            have hcon : Con P f args' [] ca.r ca.T1 := hobs _ (by simp)
            have hsc : Sc ca.r := hobs _ (by simp)
            have hscT : ScT ca.T1 := by
              by_cases e : ca.T1 = []
              · rw [e]; intro row hrow; simp at hrow
              · exact hobs _ (by
                  have : ca.T1.isEmpty = false := by simpa [List.isEmpty_iff] using e
                  simp [this])
            refine call_aux (al := isAny) (A := fun b => b < w.heap.size) (q := Sc) (T := []) (tgt := fun _ => none) h hnr hl0.symm (by rw [hmv]; exact List.Pairwise.nil) hnm (fun _ hb => hb) (fun b hb => hb.1)
              (fun r k o b m ho _ hp => blk_lt h.toRelM ho hp) (.inr fun _ hx => hx) dnS ?_ ?_ ?_ ?_ (by rw [hmv]; exact hc1) (fun p hp => hobs p (by simp [hp])) hc3 (fun p hp => hobs p (by simp [hp])) hc4 (fun p hp => hobs p (by simp [hp])) hcon hsc ?_ hl hargs
            · refine ⟨fun _ _ e => by simp at e, fun r _ k o _ _ j i e => ?_⟩
              rw [hmv] at e; simp [mvL] at e
            · refine ⟨fun j i j' i' p e => ?_, fun j i o' e => ?_, fun j i r k e => ?_⟩
              · rw [hmv] at e; simp [mvL] at e
              · simp [rowsS, obIn] at e
              · rw [hmv] at e; simp [mvL] at e
            · rintro r k o ⟨j, i, e⟩
              rw [hmv] at e; simp [mvL] at e
            · rintro r k o e
              rw [hmv] at e; simp at e
            · intro j i o ho e he x hx
              have ho : obIn (ca.T1[j]?) i = some o := ho
              cases hr : ca.T1[j]? with
              | none => rw [hr] at ho; simp [obIn] at ho
              | some row =>
                rw [hr, obIn_eq] at ho
                cases hk : row[i]? with
                | none => rw [hk] at ho; simp at ho
                | some p =>
                  rw [hk, Option.bind_some] at ho
                  split at ho
                  · simp at ho
                  · simp at ho; subst ho
                    exact hscT row (List.mem_of_getElem? hr) p (List.mem_of_getElem? hk) e he x hx
          · simp at hres
        · simp at hres
      · split at hres
        · rename_i args' o1 T o2 r' o3 u o4 hc1 hc2 hc3 hc4
          simp only [Option.some.injEq] at hres
          subst hres
          have hD := distL_ok hd0 fun p hp => hobs p (by simp [hp])
          have hcon : Con P f args' T ca.r ca.T1 := hobs _ (by simp)
          have hi : ∀ r j, tgtL 0 ca.mv r = some j → ∀ k, mvL ca.mv j k = some (r, k) := fun r j hj k => by
            obtain ⟨-, h2⟩ := tgtL_some hj
            simp only [mvL, show ca.mv[j]? = some (.row r) by simpa using h2]
          -- first what is live
          have hlv : ∀ (l : List Src) (rc : List RC) (T : List (List Ob)) (ob : List Prop), rowsIn s.R (tgtL 0 ca.mv) (mvL ca.mv) l rc = some (T, ob) → (∀ p ∈ ob, p) →
              ∀ b ∈ l, ∀ r k o, b.has r k → s.ob r k = some o → o.kd ≠ .frz := by
            intro l
            induction l with
            | nil => intro _ _ _ _ _ b hb; simp at hb
            | cons b l ih =>
              intro rc T ob h0 hob c hc r k o hh ho
              cases rc with
              | nil => cases b <;> simp [rowsIn] at h0
              | cons c0 rc =>
                cases b with
                | row r0 =>
                  simp only [rowsIn] at h0
                  split at h0
                  · rename_i row hrow
                    split at h0
                    · rename_i row1 p1 T2 p2 h1 h2
                      simp only [Option.some.injEq, Prod.mk.injEq] at h0
                      obtain ⟨rfl, rfl⟩ := h0
                      rcases List.mem_cons.1 hc with rfl | hc
                      · have e : r = r0 := hh
                        subst e
                        have ho' : obIn (some row) k = some o := by unfold S.ob at ho; rw [hrow] at ho; exact ho
                        have := convR_live h1 (fun p hp => hob p (by simp [hp])) k o ho'
                        rw [this]; simp
                      · exact ih rc T2 p2 h2 (fun p hp => hob p (by simp [hp])) c hc r k o hh ho
                    · simp at h0
                  · simp at h0
                | ob r0 k0 o0 =>
                  simp only [rowsIn] at h0
                  split at h0
                  · rename_i row hrow
                    split at h0
                    · rename_i row1 p1 T2 p2 h1 h2
                      simp only [Option.some.injEq, Prod.mk.injEq] at h0
                      obtain ⟨rfl, rfl⟩ := h0
                      rcases List.mem_cons.1 hc with rfl | hc
                      · obtain ⟨rfl, rfl⟩ := hh
                        have ho1 : obIn (some row) k = some o0 := hob _ (by simp)
                        have ho' : obIn (some row) k = some o := by unfold S.ob at ho; rw [hrow] at ho; exact ho
                        rw [ho1] at ho'; simp at ho'; subst ho'
                        have hng : o0.kd ≠ .gone := by
                          rw [obIn_eq] at ho1
                          cases hk : row[k]? with
                          | none => rw [hk] at ho1; simp at ho1
                          | some p =>
                            rw [hk, Option.bind_some] at ho1; split at ho1
                            · simp at ho1
                            · rename_i e; simp at ho1; subst ho1; exact e
                        have := convR_live h1 (fun p hp => hob p (by simp [hp])) 0 o0 (by rw [obIn_one]; simp [hng])
                        rw [this]; simp
                      · exact ih rc T2 p2 h2 (fun p hp => hob p (by simp [hp])) c hc r k o hh ho
                    · simp at h0
                  · simp at h0
          have Ht : Tg s (mvL ca.mv) (tgtL 0 ca.mv) isFrz := by
            refine ⟨hi, fun r hr k o ho ha j i hm => ?_⟩
            obtain ⟨b, m1, m2, -⟩ := mvL_iff.1 hm
            exact hlv ca.mv ca.rc T o2 hc2 (fun p hp => hobs p (by simp [hp])) b (List.mem_of_getElem? m1) r k o m2 ho (by simpa [isFrz] using ha)
          obtain ⟨t1, t2⟩ := rowsIn_ok h.toRelM Ht ca.mv ca.rc T o2 hc2 (fun p hp => hobs p (by simp [hp]))
          have hat : ∀ j b, ca.mv[j]? = some b → ∃ row', T[j]? = some row' := fun j b hj => by
            have : j < T.length := by have := lt_of_get hj; omega
            exact ⟨_, List.getElem?_eq_getElem this⟩
          refine call_aux (al := isFrz) (A := s.ok g φ w) (q := isT) (T := T) h hnr hl0.symm hD hnm (fun b hb => hb.1) (fun b hb => hb)
            (fun r k o b m ho hk hp => ok_frz h.toRelM ho (by simpa [isFrz] using hk) hp) (.inl fun _ hb => hb) (dnT _) Ht ?_ ?_ ?_ hc1 (fun p hp => hobs p (by simp [hp])) hc3 (fun p hp => hobs p (by simp [hp])) hc4
            (fun p hp => hobs p (by simp [hp])) hcon trivial (fun _ _ _ _ _ _ _ _ => trivial) hl hargs
          · refine ⟨fun j i j' i' p e e' => ?_, fun j i o' ho' => ?_, fun j i r k e hu => ?_⟩
            · obtain ⟨r, k⟩ := p
              obtain ⟨b, m1, m2, rfl⟩ := mvL_iff.1 e
              obtain ⟨b', m1', m2', rfl⟩ := mvL_iff.1 e'
              have e1 := moL_of (n := 0) hD m1 m2
              have e2 := moL_of (n := 0) hD m1' m2'
              rw [e1] at e2
              simpa using e2
            · have hj : j < T.length := by
                rcases Nat.lt_or_ge j T.length with e | e
                · exact e
                · have : (rowsS T).R j = none := List.getElem?_eq_none e
                  rw [this] at ho'; simp [obIn] at ho'
              have hTj : T[j]? = some T[j] := List.getElem?_eq_getElem hj
              have hmj : ca.mv[j]? = some (ca.mv[j]'(by omega)) := List.getElem?_eq_getElem (by omega)
              have ho2 : obIn (some T[j]) i = some o' := by have : (rowsS T).R j = some T[j] := hTj; rw [this] at ho'; exact ho'
              obtain ⟨r, k, o, n1, n2, n3, n4⟩ := (t2 j _ _ hTj hmj).2.2.2 i o' ho2
              exact ⟨r, k, o, mvL_iff.2 ⟨_, hmj, n1, n2⟩, n3, n4⟩
            · obtain ⟨b, m1, m2, rfl⟩ := mvL_iff.1 e
              obtain ⟨row', hrow'⟩ := hat j b m1
              have := (t2 j row' b hrow' m1).2.1 r k m2 hu
              show b.ix k < ((T[j]?).getD []).length
              rw [hrow']; exact this
          · rintro r k o ⟨j, i, e⟩ ho
            obtain ⟨b, m1, m2, -⟩ := mvL_iff.1 e
            obtain ⟨row', hrow'⟩ := hat j b m1
            exact (t2 j row' b hrow' m1).1 r k o m2 ho
          · intro r k o hm
            obtain ⟨j, hj⟩ := List.getElem?_of_mem hm
            obtain ⟨row', hrow'⟩ := hat j _ hj
            exact us_of_ob ((t2 j row' _ hrow' hj).2.2.1 r k o rfl)
        · simp at hres
end
end Go.VL
