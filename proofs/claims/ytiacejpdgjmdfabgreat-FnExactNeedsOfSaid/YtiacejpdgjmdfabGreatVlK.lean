/- The runner's step for a call. -/
import Derived.Test.YtiacejpdgjmdfabGreatVlJ
namespace Go.VL
set_option linter.unusedVariables false
set_option linter.unusedSimpArgs false
open Go

def AV.noref0 : AV → Bool
  | .dead | .b _ | .n .. | .s _ | .nilp | .nils | .esl | .isl .. | .ipt .. | .ipo .. => true
  | _ => false

def AV.noref1 : AV → Bool
  | .agg c => c.all AV.noref0
  | .fn _ c => c.all AV.noref0
  | x => x.noref0

def AV.noref : AV → Bool
  | .tup c => c.all AV.noref1
  | x => x.noref1

section
variable {w : World} {ok : Nat → Prop} {us : Us} {tb : Tb}
theorem Rel.pure0 {x : AV} {v : Value} (h : Rel w ok us tb x v) (hn : x.noref0 = true) : Pure x := by
  cases h with
  | dead => exact .dead
  | b => exact .b _
  | n => exact .n _ _
  | s => exact .s _
  | nilp => exact .nilp
  | nils => exact .nils
  | esl => exact .esl
  | isl0 => exact .isl (by simp)
  | isl cs hb hp => exact .isl hp
  | ipt cs hb hp => exact .ipt hp
  | ipoN sz => exact .ipoN sz
  | ipoS h => cases h with | ipt cs hb hp => exact .ipoS fun x hx => hp _ (List.mem_singleton.2 rfl) x hx
  | _ => simp [AV.noref0] at hn

theorem pure0_list {c : List AV} {vs : List Value} (hl : vs.length = c.length) (hr : ∀ (j : Nat) x u, c[j]? = some x → vs[j]? = some u → Rel w ok us tb x u)
    (hn : c.all AV.noref0 = true) : ∀ x ∈ c, Pure x := by
  intro x hx
  obtain ⟨j, hj⟩ := List.getElem?_of_mem hx
  have hlt : j < vs.length := by have := lt_of_get hj; omega
  exact (hr j x _ hj (List.getElem?_eq_getElem hlt)).pure0 (List.all_eq_true.1 hn x hx)

theorem Rel.pure1 {x : AV} {v : Value} (h : Rel w ok us tb x v) (hn : x.noref1 = true) : Pure x := by
  cases h with
  | agg vs hl hc hr => exact .agg (pure0_list hl hr hn)
  | fn vs hl hr => exact .fn (pure0_list hl hr hn)
  | dead => exact .dead
  | b => exact .b _
  | n => exact .n _ _
  | s => exact .s _
  | nilp => exact .nilp
  | nils => exact .nils
  | esl => exact .esl
  | isl0 => exact .isl (by simp)
  | isl cs hb hp => exact .isl hp
  | ipt cs hb hp => exact .ipt hp
  | ipoN sz => exact .ipoN sz
  | ipoS h => cases h with | ipt cs hb hp => exact .ipoS fun x hx => hp _ (List.mem_singleton.2 rfl) x hx
  | _ => simp [AV.noref1, AV.noref0] at hn

theorem Rel.pureN {x : AV} {v : Value} (h : Rel w ok us tb x v) (hn : x.noref = true) : Pure x := by
  by_cases ht : ∃ c, x = .tup c
  · obtain ⟨c, rfl⟩ := ht
    obtain ⟨vs, rfl, hl, hr⟩ := h.tup_inv
    refine .tup fun x hx => ?_
    obtain ⟨j, hj⟩ := List.getElem?_of_mem hx
    have hlt : j < vs.length := by have := lt_of_get hj; omega
    exact (hr j x _ hj (List.getElem?_eq_getElem hlt)).pure1 (List.all_eq_true.1 hn x hx)
  · refine h.pure1 ?_
    cases x <;> first | exact hn | exact absurd ⟨_, rfl⟩ ht
end

def findIx : List Nat → Nat → Option Nat
  | [], _ => none
  | x :: l, r => if x = r then some 0 else (findIx l r).map (· + 1)

theorem findIx_get : ∀ {l : List Nat} {r j : Nat}, findIx l r = some j → l[j]? = some r
  | x :: l, r, j, h => by
    unfold findIx at h
    split at h
    · simp at h; subst h; simp [*]
    · rw [Option.map_eq_some_iff] at h
      obtain ⟨i, hi, rfl⟩ := h
      simpa using findIx_get hi

theorem get_findIx : ∀ {l : List Nat} {r j : Nat}, l.Nodup → l[j]? = some r → findIx l r = some j
  | x :: l, r, j, hn, h => by
    rw [List.nodup_cons] at hn
    unfold findIx
    cases j with
    | zero => simp at h; simp [h]
    | succ j =>
      simp at h
      have : x ≠ r := by rintro rfl; exact hn.1 (List.mem_of_getElem? h)
      rw [if_neg this, get_findIx hn.2 h]; rfl

/-- A cell read as a value: it stays, or is a slice of an object of row `rp`. -/
def DVx (rp : Nat) (prow : List Ob) (al : Kd → Bool) (x x' : AV) : Prop :=
  (x' = x ∧ x.noref0 = true) ∨ (∃ c sz, x = .hsl rp c sz none ∧ x' = .isl sz []) ∨ ∃ k lo len o, (x = .osl rp k lo len ∨ ∃ c sz k0, k = k0 + c ∧ lo = 0 ∧ x = .hsl rp c sz (some (k0, len))) ∧ obIn (some prow) k = some o ∧ al o.kd = true ∧ lo + len ≤ o.es.length ∧
    PureEs ((o.es.drop lo).take len) ∧ x' = .isl o.sz ((o.es.drop lo).take len)

/-- Elements read as values. -/
def DV (rp : Nat) (prow : List Ob) (al : Kd → Bool) (sz : Nat) (es es' : List (List AV)) : Prop :=
  es'.length = es.length ∧ (∀ e ∈ es', e.length = sz) ∧ ∀ (j : Nat) x x', es.flatten[j]? = some x → es'.flatten[j]? = some x' → DVx rp prow al x x'

/-- A value in other words. -/
def conv0 (R : Nat → Option (List Ob)) (tgt : Nat → Option Nat) (mv : Mv) (al : Kd → Bool) : C0 → AV → Option (AV × List Prop)
  | .id, x => if x.noref0 then some (x, []) else
    match x with
    | .ref r k i off => match tgt r with
      | some j => some (.ref j k i off, [])
      | none => none
    | .osl r k lo len => match tgt r with
      | some j => some (.osl j k lo len, [])
      | none => none
    | .hsl r c sz h => match tgt r with
      | some j => some (.hsl j c sz h, [])
      | none => none
    | _ => none
  | .nl sz, .nils => some (.isl sz [], [])
  | .nl sz, .esl => some (.isl sz [], [])
  | .sl es', .osl r k lo len => match obIn (R r) k with
    | some o => if al o.kd && (tgt r).isNone then some (.isl o.sz es', [es' = (o.es.drop lo).take len, lo + len ≤ o.es.length, PureEs es']) else none
    | none => none
  | .ps, _ => some (.dead, [])
  | .as y, x => if x.noref0 then some (y, [x = y]) else none
  | .len n, .osl r k lo len => match tgt r with
    | some j => some (.osl j k lo n, [len = n])
    | none => none
  | .po sz, x => match x with
    | .nilp => some (.ipo sz none, [])
    | .ipt sz' [c] 0 0 => if sz' = sz then some (.ipo sz (some c), []) else none
    | _ => none
  | .at_ j i n, .osl r k lo len => some (.osl j i lo n, [mv j i = some (r, k), len = n])
  | .at_ j i _, .ref r k x y => some (.ref j i x y, [mv j i = some (r, k)])
  | .view rp o es', .osl r k lo len => match R r, R rp with
    | some row, some prow => if (tgt r).isNone && (tgt rp).isNone then
        some (.isl o.sz es', [obIn (some row) k = some o, al o.kd = true, lo + len ≤ o.es.length, PureEs es', DV rp prow al o.sz ((o.es.drop lo).take len) es']) else none
    | _, _ => none
  | _, _ => none

def convL {α β : Type} (f : α → β → Option (β × List Prop)) : List α → List β → Option (List β × List Prop)
  | [], [] => some ([], [])
  | a :: l, b :: m => match f a b, convL f l m with
    | some (b', o1), some (m', o2) => some (b' :: m', o1 ++ o2)
    | _, _ => none
  | _, _ => none

def conv1 (R : Nat → Option (List Ob)) (tgt : Nat → Option Nat) (mv : Mv) (al : Kd → Bool) : C1 → AV → Option (AV × List Prop)
  | .c0 c, x => if x.noref1 then (match c with | .id => some (x, []) | .ps => some (.dead, []) | .as y => some (y, [x = y]) | c => conv0 R tgt mv al c x) else conv0 R tgt mv al c x
  | .agg l, .agg c => match convL (conv0 R tgt mv al) l c with
    | some (c', ob) => some (.agg c', ob)
    | none => none
  | .ptr l, .ref r k i off => match obIn (R r) k with
    | some o => match o.es with
      | [c] => if al o.kd && (tgt r).isNone then
          match convL (conv0 R tgt mv al) l c with
          | some (c', ob) => some (.ipt o.sz [c'] i off, ob ++ [PureEs [c']])
          | none => none
        else none
      | _ => none
    | none => none
  | .ptro l, x => match x with
    | .ref r k 0 0 => match obIn (R r) k with
      | some o => match o.es with
        | [c] => if al o.kd && (tgt r).isNone then
            match convL (conv0 R tgt mv al) l c with
            | some (c', ob) => some (.ipo o.sz (some c'), ob ++ [PureEs [c']])
            | none => none
          else none
        | _ => none
      | none => none
    | _ => none
  | _, _ => none

def conv2 (R : Nat → Option (List Ob)) (tgt : Nat → Option Nat) (mv : Mv) (al : Kd → Bool) : C2 → AV → Option (AV × List Prop)
  | .c1 c, x => if x.noref then (match c with | .c0 .id => some (x, []) | c => conv1 R tgt mv al c x) else conv1 R tgt mv al c x
  | .comp l, .tup c => match convL (conv1 R tgt mv al) l c with
    | some (c', ob) => some (.tup c', ob)
    | none => none
  | .comp l, .fn f c => match convL (conv1 R tgt mv al) l c with
    | some (c', ob) => some (.fn f c', ob)
    | none => none
  | _, _ => none

def PureLive (row : List Ob) : Prop := ∀ o ∈ row, PureEs o.es ∧ o.kd = .live
/-- Live or gone. -/
def LiveR (row : List Ob) : Prop := ∀ o ∈ row, o.kd = .live ∨ o.kd = .gone

/-- A cell with its names turned. -/
def rnV (tgt : Nat → Option Nat) : AV → AV
  | .ref r k i off => match tgt r with | some j => .ref j k i off | none => .dead
  | .osl r k lo len => match tgt r with | some j => .osl j k lo len | none => .dead
  | .hsl r c sz h => match tgt r with | some j => .hsl j c sz h | none => .dead
  | x => if x.noref0 then x else .dead

def rnO (tgt : Nat → Option Nat) (o : Ob) : Ob := { o with es := o.es.map fun e => e.map (rnV tgt) }

def convR (R : Nat → Option (List Ob)) (tgt : Nat → Option Nat) (mv : Mv) (al : Kd → Bool) : RC → List Ob → Option (List Ob × List Prop)
  | .pure, row => some (row, [PureLive row])
  | .as row', row => some (row', [row = row', PureLive row'])
  | .rn row', row => some (row', [row' = row.map (rnO tgt), LiveR row])
  | .box l, [o] => match o.es with
    | [c] => if o.kd = .live then match convL (conv0 R tgt mv al) l c with
        | some (c', ob) => some ([{ o with es := [c'] }], ob)
        | none => none
      else none
    | _ => none
  | _, _ => none

/-- What stays as it is: parts too; everything where objects are read as values. -/
structure Dn (q : AV → Prop) (al : Kd → Bool) : Prop extends Down q where
  all : ∀ k, al k = true → ∀ x, q x

theorem dnT (al : Kd → Bool) : Dn isT al := { toDown := downT, all := fun _ _ _ => trivial }
theorem dnS : Dn Sc (fun _ => false) := { toDown := downS, all := fun _ h => by simp at h }

/-- What names mean: rows as wholes, objects one by one. -/
structure Tg (s : S) (mv : Mv) (tgt : Nat → Option Nat) (al : Kd → Bool) : Prop where
  hi : ∀ r j, tgt r = some j → ∀ k, mv j k = some (r, k)
  hn : ∀ r, tgt r = none → ∀ k o, s.ob r k = some o → al o.kd = true → ∀ j i, mv j i ≠ some (r, k)

section
variable {g : G} {s : S} {φ : Plc} {w : World} {mv : Mv} {tgt : Nat → Option Nat} {al : Kd → Bool} {q : AV → Prop}

theorem convL_at {α β : Type} (f : α → β → Option (β × List Prop)) : ∀ (l : List α) (m m' : List β) (ob : List Prop), convL f l m = some (m', ob) →
    m'.length = m.length ∧ l.length = m.length ∧ ∀ (j : Nat) b b', m[j]? = some b → m'[j]? = some b' → ∃ x o', l[j]? = some x ∧ f x b = some (b', o') ∧ ∀ p ∈ o', p ∈ ob
  | [], [], m', ob, h => by
    simp [convL] at h; obtain ⟨rfl, rfl⟩ := h
    exact ⟨rfl, rfl, fun j b b' hb => by simp at hb⟩
  | [], _ :: _, _, _, h => by simp [convL] at h
  | _ :: _, [], _, _, h => by simp [convL] at h
  | x :: l, b :: m, m', ob, h => by
    simp only [convL] at h
    split at h
    · rename_i b' o1 m2 o2 h1 h2
      simp only [Option.some.injEq, Prod.mk.injEq] at h
      obtain ⟨rfl, rfl⟩ := h
      obtain ⟨e1, e2, e3⟩ := convL_at f l m m2 o2 h2
      refine ⟨by simp [e1], by simp [e2], fun j c c' hc hc' => ?_⟩
      cases j with
      | zero =>
        simp at hc hc'; subst hc; subst hc'
        exact ⟨x, o1, rfl, h1, fun p hp => by simp [hp]⟩
      | succ j =>
        simp at hc hc'
        obtain ⟨y, o', f1, f2, f3⟩ := e3 j c c' hc hc'
        exact ⟨y, o', by simpa using f1, f2, fun p hp => by simp [f3 p hp]⟩
    · simp at h

theorem conv0_ok (hM : RelM g s φ w) (H : Tg s mv tgt al) (hd : Dn q al) {c : C0} {x x' : AV} {ob : List Prop} (h : conv0 s.R tgt mv al c x = some (x', ob)) (hob : ∀ p ∈ ob, p)
    (hq : q x) {v : Value} (hr : Rel w (s.ok g φ w) s.us (s.tb φ) x v) : Sn s mv al q x x' := by
  have hus : ∀ {r k lo len : Nat}, x = .osl r k lo len → s.us r k := by
    intro r k lo len e; subst e; cases hr <;> assumption
  cases c with
  | id =>
    simp only [conv0] at h
    split at h
    · rename_i hn
      simp only [Option.some.injEq, Prod.mk.injEq] at h
      obtain ⟨rfl, rfl⟩ := h
      exact .pure (hr.pure0 hn) hq
    · split at h
      · rename_i r k i off _
        split at h
        · rename_i j hj
          simp only [Option.some.injEq, Prod.mk.injEq] at h
          obtain ⟨rfl, rfl⟩ := h
          exact .ref i off (H.hi r j hj k) (by cases hr <;> assumption)
        · simp at h
      · rename_i r k lo len _
        split at h
        · rename_i j hj
          simp only [Option.some.injEq, Prod.mk.injEq] at h
          obtain ⟨rfl, rfl⟩ := h
          exact .osl lo len (H.hi r j hj k) (hus rfl)
        · simp at h
      · rename_i r c sz hh _
        split at h
        · rename_i j hj
          simp only [Option.some.injEq, Prod.mk.injEq] at h
          obtain ⟨rfl, rfl⟩ := h
          exact .hsl hh (fun k => H.hi r j hj _)
        · simp at h
      · simp at h
  | nl sz =>
    cases x <;> simp [conv0] at h
    · obtain ⟨rfl, rfl⟩ := h
      exact .nils sz
    · obtain ⟨rfl, rfl⟩ := h
      exact .esl sz
  | sl es' =>
    cases x <;> simp only [conv0, reduceCtorEq] at h
    rename_i r k lo len
    split at h
    · rename_i o ho
      split at h
      · rename_i hc
        simp only [Bool.and_eq_true, Option.isNone_iff_eq_none] at hc
        simp only [Option.some.injEq, Prod.mk.injEq] at h
        obtain ⟨rfl, rfl⟩ := h
        have h1 : es' = (o.es.drop lo).take len := hob _ (by simp)
        have h2 : lo + len ≤ o.es.length := hob _ (by simp)
        have h3 : PureEs es' := hob _ (by simp)
        have ho' : s.ob r k = some o := ho
        have hlen : ∀ e ∈ o.es, e.length = o.sz := by
          have hobj := hM.obj r k o ho'
          cases hp : φ r k with
          | none => rw [hp] at hobj; simp only [ObRel] at hobj; rw [hobj]; simp
          | some q => rw [hp] at hobj; obtain ⟨_, _, _, _, e, _⟩ := hobj; exact e
        refine .isl ho' hc.1 (H.hn r hc.2 k o ho' hc.1) h2 h3 ?_ ?_ ?_
        · rw [h1]; exact fun e he => hlen e (List.mem_of_mem_drop (List.mem_of_mem_take he))
        · rw [h1]; simp; omega
        · intro j y y' hy hy'
          rw [h1] at hy'
          rw [hy] at hy'; simp at hy'; subst hy'
          rw [h1] at h3
          obtain ⟨e, he, hye⟩ := mem_flatten_at hy
          exact .pure (h3 e he y hye) (hd.all _ hc.1 y)
      · simp at h
    · simp at h
  | ps =>
    simp only [conv0, Option.some.injEq, Prod.mk.injEq] at h
    obtain ⟨rfl, rfl⟩ := h
    exact .dead x
  | as y =>
    simp only [conv0] at h
    split at h
    · rename_i hn
      simp only [Option.some.injEq, Prod.mk.injEq] at h
      obtain ⟨rfl, rfl⟩ := h
      have e : x = y := hob _ (by simp)
      subst e
      exact .pure (hr.pure0 hn) hq
    · simp at h
  | len n =>
    cases x <;> simp only [conv0, reduceCtorEq] at h
    rename_i r k lo len
    split at h
    · rename_i j hj
      simp only [Option.some.injEq, Prod.mk.injEq] at h
      obtain ⟨rfl, rfl⟩ := h
      have e : len = n := hob _ (by simp)
      subst e
      exact .osl lo len (H.hi r j hj k) (hus rfl)
    · simp at h
  | at_ j i n =>
    cases x <;> simp only [conv0, reduceCtorEq] at h
    · rename_i r k x y
      simp only [Option.some.injEq, Prod.mk.injEq] at h
      obtain ⟨rfl, rfl⟩ := h
      exact .ref x y (hob _ (List.mem_cons_self)) (by cases hr <;> assumption)
    · rename_i r k lo len
      simp only [Option.some.injEq, Prod.mk.injEq] at h
      obtain ⟨rfl, rfl⟩ := h
      have e : len = n := hob _ (by simp)
      subst e
      exact .osl lo len (hob _ (List.mem_cons_self)) (hus rfl)
  | view rp o es' =>
    cases x <;> simp only [conv0, reduceCtorEq] at h
    rename_i r k lo len
    split at h
    · rename_i row prow hrow hprow
      split at h
      · rename_i hc
        simp only [Bool.and_eq_true, Option.isNone_iff_eq_none] at hc
        simp only [Option.some.injEq, Prod.mk.injEq] at h
        obtain ⟨rfl, rfl⟩ := h
        have h1 : obIn (some row) k = some o := hob _ (by simp)
        have h2 : al o.kd = true := hob _ (by simp)
        have h3 : lo + len ≤ o.es.length := hob _ (by simp)
        have h4 : PureEs es' := hob _ (by simp)
        have h5 : DV rp prow al o.sz ((o.es.drop lo).take len) es' := hob _ (by simp)
        have ho' : s.ob r k = some o := by unfold S.ob; rw [hrow]; exact h1
        obtain ⟨d1, d2, d3⟩ := h5
        refine .isl ho' h2 (H.hn r hc.1 k o ho' h2) h3 h4 d2 (by rw [d1]; simp; omega) fun j y y' hy hy' => ?_
        rcases d3 j y y' hy hy' with ⟨rfl, hn⟩ | ⟨c2, sz2, rfl, rfl⟩ | ⟨k2, lo2, len2, p, hx2, e1, e2, e3, e4, rfl⟩
        · obtain ⟨e, he, hye⟩ := mem_flatten_at hy'
          exact .pure (h4 e he y' hye) (hd.all _ h2 _)
        · exact .hslN _ _ _
        · have hp' : s.ob rp k2 = some p := by unfold S.ob; rw [hprow]; exact e1
          have hlen : ∀ e ∈ p.es, e.length = p.sz := by
            have hobj := hM.obj rp k2 p hp'
            cases hp : φ rp k2 with
            | none => rw [hp] at hobj; simp only [ObRel] at hobj; rw [hobj]; simp
            | some q => rw [hp] at hobj; obtain ⟨_, _, _, _, e, _⟩ := hobj; exact e
          have hmain : Sn s mv al q (.osl rp k2 lo2 len2) (.isl p.sz ((p.es.drop lo2).take len2)) := by
           refine .isl hp' e2 (H.hn rp hc.2 k2 p hp' e2) e3 e4 (fun e he => hlen e (List.mem_of_mem_drop (List.mem_of_mem_take he))) (by simp; omega) fun j z z' hz hz' => ?_
           rw [hz] at hz'; simp at hz'; subst hz'
           obtain ⟨e, he, hze⟩ := mem_flatten_at hz
           exact .pure (e4 e he z hze) (hd.all _ e2 _)
          rcases hx2 with rfl | ⟨c0, sz0, k0, rfl, rfl, rfl⟩
          · exact hmain
          · exact .hslS hmain
      · simp at h
    · simp at h
  | po sz =>
    simp only [conv0] at h
    split at h
    · simp only [Option.some.injEq, Prod.mk.injEq] at h
      obtain ⟨rfl, rfl⟩ := h
      exact .nilpo _
    · split at h
      · rename_i e; subst e
        simp only [Option.some.injEq, Prod.mk.injEq] at h
        obtain ⟨rfl, rfl⟩ := h
        exact .ipo (.pure (hr.pure0 rfl) hq)
      · simp at h
    · simp at h

theorem convL0_ok (hM : RelM g s φ w) (H : Tg s mv tgt al) (hd : Dn q al) {l : List C0} {c c' : List AV} {ob : List Prop} (h : convL (conv0 s.R tgt mv al) l c = some (c', ob)) (hob : ∀ p ∈ ob, p)
    (hq : ∀ x ∈ c, q x) {vs : List Value} (hl : vs.length = c.length) (hr : ∀ (j : Nat) x u, c[j]? = some x → vs[j]? = some u → Rel w (s.ok g φ w) s.us (s.tb φ) x u) :
    c'.length = c.length ∧ ∀ (j : Nat) x x', c[j]? = some x → c'[j]? = some x' → Sn s mv al q x x' := by
  obtain ⟨e1, e2, e3⟩ := convL_at _ l c c' ob h
  refine ⟨e1, fun j x x' hx hx' => ?_⟩
  obtain ⟨y, o', f1, f2, f3⟩ := e3 j x x' hx hx'
  have hlt : j < vs.length := by have := lt_of_get hx; omega
  exact conv0_ok hM H hd f2 (fun p hp => hob p (f3 p hp)) (hq x (List.mem_of_getElem? hx)) (hr j x _ hx (List.getElem?_eq_getElem hlt))

theorem conv1_ok (hM : RelM g s φ w) (H : Tg s mv tgt al) (hd : Dn q al) {c : C1} {x x' : AV} {ob : List Prop} (h : conv1 s.R tgt mv al c x = some (x', ob)) (hob : ∀ p ∈ ob, p)
    (hq : q x) {v : Value} (hr : Rel w (s.ok g φ w) s.us (s.tb φ) x v) : Sn s mv al q x x' := by
  cases c with
  | c0 c =>
    simp only [conv1] at h
    split at h
    · rename_i hn
      split at h
      · simp only [Option.some.injEq, Prod.mk.injEq] at h
        obtain ⟨rfl, rfl⟩ := h
        exact .pure (hr.pure1 hn) hq
      · simp only [Option.some.injEq, Prod.mk.injEq] at h
        obtain ⟨rfl, rfl⟩ := h
        exact .dead _
      · simp only [Option.some.injEq, Prod.mk.injEq] at h
        obtain ⟨rfl, rfl⟩ := h
        have e := hob _ (List.mem_singleton.2 rfl)
        subst e
        exact .pure (hr.pure1 hn) hq
      · exact conv0_ok hM H hd h hob hq hr
    · exact conv0_ok hM H hd h hob hq hr
  | agg l =>
    cases x <;> simp only [conv1, reduceCtorEq] at h
    rename_i c
    split at h
    · rename_i c' ob' hc
      simp only [Option.some.injEq, Prod.mk.injEq] at h
      obtain ⟨rfl, rfl⟩ := h
      obtain ⟨vs, rfl, hl, -, hrr⟩ := hr.agg_inv
      obtain ⟨e1, e2⟩ := convL0_ok hM H hd hc hob (fun y hy => hd.agg _ _ hq hy) hl hrr
      exact .agg e1 e2
    · simp at h
  | ptr l =>
    cases x <;> simp only [conv1, reduceCtorEq] at h
    rename_i r k i off
    split at h
    · rename_i o ho
      split at h
      · rename_i c hes
        split at h
        · rename_i hc
          simp only [Bool.and_eq_true, Option.isNone_iff_eq_none] at hc
          split at h
          · rename_i c' ob' hcl
            simp only [Option.some.injEq, Prod.mk.injEq] at h
            obtain ⟨rfl, rfl⟩ := h
            have ho' : s.ob r k = some o := ho
            have hobj := hM.obj r k o ho'
            cases hp : φ r k with
            | none => rw [hp] at hobj; simp only [ObRel] at hobj; rw [hes] at hobj; simp at hobj
            | some q =>
              obtain ⟨b, m⟩ := q
              rw [hp] at hobj
              obtain ⟨ca, ty, g1, g2, g3, g4⟩ := hobj
              have hcl' : c.length = o.sz := g3 c (by rw [hes]; simp)
              have hfl : o.es.flatten = c := by rw [hes]; simp
              have hcs : ∀ j : Nat, j < c.length → ∃ u, ca[j]? = some u ∧ Rel w (s.ok g φ w) s.us (s.tb φ) c[j]! u := by
                intro j hj
                obtain ⟨u, u1, -, u3⟩ := g4 j c[j] (by rw [hfl]; exact List.getElem?_eq_getElem hj)
                exact ⟨u, u1, by rw [getElem!_pos c j hj]; exact u3⟩
              obtain ⟨e1, e2⟩ := convL0_ok (vs := (List.range c.length).map fun j => (ca[j]?).getD undef) hM H hd hcl (fun p hp => hob p (by simp [hp])) (fun y _ => hd.all _ hc.1 y) (by simp) (by
                intro j y u hy hu
                have hj := lt_of_get hy
                rw [List.getElem?_map, List.getElem?_range hj] at hu
                simp only [Option.map_some, Option.some.injEq] at hu
                obtain ⟨u', u1, u3⟩ := hcs j hj
                rw [u1] at hu; simp at hu; subst hu
                rw [List.getElem?_eq_getElem hj] at hy; simp at hy; subst hy
                rw [getElem!_pos c j hj] at u3; exact u3)
              have hpure : PureEs [c'] := hob _ (by simp)
              refine .ipt i off ho' hc.1 (H.hn r hc.2 k o ho' hc.1) (by rw [hes]; simp) hpure (by simp; omega) (by rw [hes]; rfl) ?_
              · intro j y y' hy hy'
                rw [hfl] at hy
                simp only [List.flatten_cons, List.flatten_nil, List.append_nil] at hy'
                exact e2 j y y' hy hy'
          · simp at h
        · simp at h
      · simp at h
    · simp at h
  | ptro l =>
    simp only [conv1] at h
    split at h
    · rename_i r k
      split at h
      · rename_i o ho
        split at h
        · rename_i c hes
          split at h
          · rename_i hc
            simp only [Bool.and_eq_true, Option.isNone_iff_eq_none] at hc
            split at h
            · rename_i c' ob' hcl
              simp only [Option.some.injEq, Prod.mk.injEq] at h
              obtain ⟨rfl, rfl⟩ := h
              have ho' : s.ob r k = some o := ho
              have hobj := hM.obj r k o ho'
              cases hp : φ r k with
              | none => rw [hp] at hobj; simp only [ObRel] at hobj; rw [hes] at hobj; simp at hobj
              | some q =>
                obtain ⟨b, m⟩ := q
                rw [hp] at hobj
                obtain ⟨ca, ty, g1, g2, g3, g4⟩ := hobj
                have hcl' : c.length = o.sz := g3 c (by rw [hes]; simp)
                have hfl : o.es.flatten = c := by rw [hes]; simp
                have hcs : ∀ j : Nat, j < c.length → ∃ u, ca[j]? = some u ∧ Rel w (s.ok g φ w) s.us (s.tb φ) c[j]! u := by
                  intro j hj
                  obtain ⟨u, u1, -, u3⟩ := g4 j c[j] (by rw [hfl]; exact List.getElem?_eq_getElem hj)
                  exact ⟨u, u1, by rw [getElem!_pos c j hj]; exact u3⟩
                obtain ⟨e1, e2⟩ := convL0_ok (vs := (List.range c.length).map fun j => (ca[j]?).getD undef) hM H hd hcl (fun p hp => hob p (by simp [hp])) (fun y _ => hd.all _ hc.1 y) (by simp) (by
                  intro j y u hy hu
                  have hj := lt_of_get hy
                  rw [List.getElem?_map, List.getElem?_range hj] at hu
                  simp only [Option.map_some, Option.some.injEq] at hu
                  obtain ⟨u', u1, u3⟩ := hcs j hj
                  rw [u1] at hu; simp at hu; subst hu
                  rw [List.getElem?_eq_getElem hj] at hy; simp at hy; subst hy
                  rw [getElem!_pos c j hj] at u3; exact u3)
                have hpure : PureEs [c'] := hob _ (by simp)
                refine .ipo (.ipt 0 0 ho' hc.1 (H.hn r hc.2 k o ho' hc.1) (by rw [hes]; simp) hpure (by simp; omega) (by rw [hes]; rfl) ?_)
                · intro j y y' hy hy'
                  rw [hfl] at hy
                  simp only [List.flatten_cons, List.flatten_nil, List.append_nil] at hy'
                  exact e2 j y y' hy hy'
            · simp at h
          · simp at h
        · simp at h
      · simp at h
    · simp at h

theorem conv2_ok (hM : RelM g s φ w) (H : Tg s mv tgt al) (hd : Dn q al) {c : C2} {x x' : AV} {ob : List Prop} (h : conv2 s.R tgt mv al c x = some (x', ob)) (hob : ∀ p ∈ ob, p)
    (hq : q x) {v : Value} (hr : Rel w (s.ok g φ w) s.us (s.tb φ) x v) : Sn s mv al q x x' := by
  have key : ∀ (l : List C1) (c c' : List AV) (ob' : List Prop) (vs : List Value), convL (conv1 s.R tgt mv al) l c = some (c', ob') → (∀ p ∈ ob', p) → (∀ x ∈ c, q x) → vs.length = c.length →
      (∀ (j : Nat) x u, c[j]? = some x → vs[j]? = some u → Rel w (s.ok g φ w) s.us (s.tb φ) x u) → c'.length = c.length ∧ ∀ (j : Nat) x x', c[j]? = some x → c'[j]? = some x' → Sn s mv al q x x' := by
    intro l c c' ob' vs h hob hq hl hr
    obtain ⟨e1, e2, e3⟩ := convL_at _ l c c' ob' h
    refine ⟨e1, fun j x x' hx hx' => ?_⟩
    obtain ⟨y, o', f1, f2, f3⟩ := e3 j x x' hx hx'
    have hlt : j < vs.length := by have := lt_of_get hx; omega
    exact conv1_ok hM H hd f2 (fun p hp => hob p (f3 p hp)) (hq x (List.mem_of_getElem? hx)) (hr j x _ hx (List.getElem?_eq_getElem hlt))
  cases c with
  | c1 c =>
    simp only [conv2] at h
    split at h
    · rename_i hn
      split at h
      · simp only [Option.some.injEq, Prod.mk.injEq] at h
        obtain ⟨rfl, rfl⟩ := h
        exact .pure (hr.pureN hn) hq
      · exact conv1_ok hM H hd h hob hq hr
    · exact conv1_ok hM H hd h hob hq hr
  | comp l =>
    cases x <;> simp only [conv2, reduceCtorEq] at h
    · rename_i c
      split at h
      · rename_i c' ob' hc
        simp only [Option.some.injEq, Prod.mk.injEq] at h
        obtain ⟨rfl, rfl⟩ := h
        obtain ⟨vs, rfl, hl, hrr⟩ := hr.tup_inv
        obtain ⟨e1, e2⟩ := key l c c' ob' vs hc hob (fun y hy => hd.tup _ _ hq hy) hl hrr
        exact .tup e1 e2
      · simp at h
    · rename_i f c
      split at h
      · rename_i c' ob' hc
        simp only [Option.some.injEq, Prod.mk.injEq] at h
        obtain ⟨rfl, rfl⟩ := h
        obtain ⟨vs, rfl, hl, hrr⟩ := hr.fn_inv
        obtain ⟨e1, e2⟩ := key l c c' ob' vs hc hob (fun y hy => hd.fn _ _ _ hq hy) hl hrr
        exact .fn e1 e2
      · simp at h

/-- A row with its names turned. -/
theorem rn_ok (hM : RelM g s φ w) (H : Tg s mv tgt al) {r : Nat} {κ : Nat → Nat} {row : List Ob} (hrow : ∀ k o, obIn (some row) k = some o → s.ob r (κ k) = some o)
    (hq : ∀ k o, obIn (some row) k = some o → ∀ e ∈ o.es, ∀ x ∈ e, q x) :
    ∀ (k : Nat) o', obIn (some (row.map (rnO tgt))) k = some o' → ∃ o, obIn (some row) k = some o ∧ SnO s mv al q o o' := by
  intro k o' ho'
  rw [obIn_eq, List.getElem?_map] at ho'
  cases hk : row[k]? with
  | none => rw [hk] at ho'; simp at ho'
  | some o =>
    rw [hk] at ho'
    simp only [Option.map_some, Option.bind_some] at ho'
    split at ho'
    · simp at ho'
    · rename_i hg
      simp only [Option.some.injEq] at ho'
      subst ho'
      have ho : obIn (some row) k = some o := by rw [obIn_eq, hk, Option.bind_some, if_neg (by simpa [rnO] using hg)]
      have hs : s.ob r (κ k) = some o := hrow k o ho
      refine ⟨o, ho, ?_⟩
      have hobj := hM.obj r (κ k) o hs
      have hlen : ∀ e ∈ o.es, e.length = o.sz := by
        cases hp : φ r (κ k) with
        | none => rw [hp] at hobj; simp only [ObRel] at hobj; rw [hobj]; simp
        | some q => rw [hp] at hobj; obtain ⟨_, _, _, _, e, _⟩ := hobj; exact e
      refine ⟨rfl, .inl rfl, by simp [rnO], ?_, fun j x x' hx hx' => ?_⟩
      · intro e he
        simp only [rnO, List.mem_map] at he
        obtain ⟨e', he', rfl⟩ := he
        simpa using hlen e' he'
      · simp only [rnO] at hx'
        rw [map_flatten, List.getElem?_map, hx] at hx'
        simp only [Option.map_some, Option.some.injEq] at hx'
        subst hx'
        obtain ⟨e, he, hxe⟩ := mem_flatten_at hx
        have hqx := hq k o ho e he x hxe
        cases hp : φ r (κ k) with
        | none => rw [hp] at hobj; simp only [ObRel] at hobj; rw [hobj] at hx; simp at hx
        | some bm =>
          obtain ⟨b, m⟩ := bm
          rw [hp] at hobj
          obtain ⟨c, ty, f1, f2, f3, f4⟩ := hobj
          obtain ⟨u, u1, u2, u3⟩ := f4 j x hx
          cases x with
          | ref r2 k2 i2 off2 =>
            cases ht : tgt r2 with
            | none => simp only [rnV, ht]; exact .dead _
            | some j2 => simp only [rnV, ht]; exact .ref i2 off2 (H.hi _ _ ht _) (by cases u3 <;> assumption)
          | osl r2 k2 lo2 len2 =>
            cases ht : tgt r2 with
            | none => simp only [rnV, ht]; exact .dead _
            | some j2 => simp only [rnV, ht]; exact .osl lo2 len2 (H.hi _ _ ht _) (by cases u3 <;> assumption)
          | hsl r2 c2 sz2 h2 =>
            cases ht : tgt r2 with
            | none => simp only [rnV, ht]; exact .dead _
            | some j2 => simp only [rnV, ht]; exact .hsl h2 (fun k => H.hi _ _ ht _)
          | _ =>
            simp only [rnV]
            split
            · rename_i hn; exact .pure (u3.pure0 hn) hqx
            · exact .dead _

theorem convR_ok (hM : RelM g s φ w) (H : Tg s mv tgt al) (hd : Dn q al) {c : RC} {r : Nat} {κ : Nat → Nat} {row row' : List Ob} {ob : List Prop} (hrow : ∀ k o, obIn (some row) k = some o → s.ob r (κ k) = some o)
    (h : convR s.R tgt mv al c row = some (row', ob)) (hob : ∀ p ∈ ob, p) (hq : ∀ k o, obIn (some row) k = some o → ∀ e ∈ o.es, ∀ x ∈ e, q x) :
    row'.length = row.length ∧ (∀ k o, obIn (some row) k = some o → o.kd = .live) ∧
    ∀ (k : Nat) o', obIn (some row') k = some o' → ∃ o, obIn (some row) k = some o ∧ SnO s mv al q o o' := by
  have hlen : ∀ k o, obIn (some row) k = some o → ∀ e ∈ o.es, e.length = o.sz := by
    intro k o ho
    have ho' : s.ob r (κ k) = some o := hrow k o ho
    have hobj := hM.obj r (κ k) o ho'
    cases hp : φ r (κ k) with
    | none => rw [hp] at hobj; simp only [ObRel] at hobj; rw [hobj]; simp
    | some q => rw [hp] at hobj; obtain ⟨_, _, _, _, e, _⟩ := hobj; exact e
  have hpure : PureLive row → (∀ k o, obIn (some row) k = some o → o.kd = .live) ∧
    ∀ (k : Nat) o', obIn (some row) k = some o' → ∃ o, obIn (some row) k = some o ∧ SnO s mv al q o o' := by
    intro hp
    have hmem : ∀ k o, obIn (some row) k = some o → o ∈ row := by
      intro k o ho
      unfold obIn at ho
      simp only at ho
      split at ho
      · rename_i o' ho'
        split at ho
        · simp at ho
        · simp at ho; subst ho; exact List.mem_of_getElem? ho'
      · simp at ho
    refine ⟨fun k o ho => (hp o (hmem k o ho)).2, fun k o ho => ⟨o, ho, rfl, .inl rfl, rfl, hlen k o ho, fun j x x' hx hx' => ?_⟩⟩
    rw [hx] at hx'; simp at hx'; subst hx'
    obtain ⟨e, he, hxe⟩ := mem_flatten_at hx
    exact .pure ((hp o (hmem k o ho)).1 e he x hxe) (hq k o ho e he x hxe)
  cases c with
  | pure =>
    simp only [convR, Option.some.injEq, Prod.mk.injEq] at h
    obtain ⟨rfl, rfl⟩ := h
    exact ⟨rfl, hpure (hob _ (by simp))⟩
  | as row2 =>
    simp only [convR, Option.some.injEq, Prod.mk.injEq] at h
    obtain ⟨rfl, rfl⟩ := h
    have e : row = row2 := hob _ (by simp)
    subst e
    exact ⟨rfl, hpure (hob _ (by simp))⟩
  | rn row2 =>
    simp only [convR, Option.some.injEq, Prod.mk.injEq] at h
    obtain ⟨rfl, rfl⟩ := h
    have e : row2 = row.map (rnO tgt) := hob _ (by simp)
    have hlv : LiveR row := hob _ (by simp)
    subst e
    refine ⟨by simp, fun k o ho => by
      unfold obIn at ho
      simp only at ho
      split at ho
      · rename_i o' ho'
        split at ho
        · simp at ho
        · rename_i hg
          simp at ho; subst ho
          exact (hlv _ (List.mem_of_getElem? ho')).resolve_right hg
      · simp at ho, rn_ok hM H hrow hq⟩
  | rx row2 => cases row with
    | nil => simp [convR] at h
    | cons o l => cases l <;> simp [convR] at h
  | drop => cases row with
    | nil => simp [convR] at h
    | cons o l => cases l <;> simp [convR] at h
  | box l =>
    match row, h with
    | [o], h =>
      simp only [convR] at h
      split at h
      · rename_i c hes
        split at h
        · rename_i hkd
          split at h
          · rename_i c' ob' hc
            simp only [Option.some.injEq, Prod.mk.injEq] at h
            obtain ⟨rfl, rfl⟩ := h
            have h0 : obIn (some [o]) 0 = some o := by rw [obIn_one]; simp [hkd]
            refine ⟨rfl, fun k p hp => ?_, fun k p hp => ?_⟩
            · rw [obIn_one] at hp
              split at hp
              · simp at hp; subst hp; exact hkd
              · simp at hp
            · rw [obIn_one] at hp
              split at hp
              · rename_i hk0
                obtain ⟨rfl, -⟩ := hk0
                simp only [Option.some.injEq] at hp; subst hp
                refine ⟨o, h0, ?_⟩
                have ho' : s.ob r (κ 0) = some o := hrow 0 o h0
                have hobj := hM.obj r (κ 0) o ho'
                cases hpp : φ r (κ 0) with
                | none => rw [hpp] at hobj; simp only [ObRel] at hobj; rw [hes] at hobj; simp at hobj
                | some q =>
                  obtain ⟨b, m⟩ := q
                  rw [hpp] at hobj
                  obtain ⟨ca, ty, g1, g2, g3, g4⟩ := hobj
                  have hcl' : c.length = o.sz := g3 c (by rw [hes]; simp)
                  have hfl : o.es.flatten = c := by rw [hes]; simp
                  obtain ⟨e1, e2⟩ := convL0_ok (vs := (List.range c.length).map fun j => (ca[j]?).getD undef) hM H hd hc hob (fun y hy => hq 0 o h0 c (by rw [hes]; simp) y hy) (by simp) (by
                    intro j y u hy hu
                    have hj := lt_of_get hy
                    rw [List.getElem?_map, List.getElem?_range hj] at hu
                    simp only [Option.map_some, Option.some.injEq] at hu
                    obtain ⟨u', u1, -, u3⟩ := g4 j y (by rw [hfl]; exact hy)
                    rw [u1] at hu; simp at hu; subst hu
                    exact u3)
                  refine ⟨rfl, .inl rfl, by simp [hes], by simp; omega, fun j x x' hx hx' => ?_⟩
                  rw [hfl] at hx
                  simp only [List.flatten_cons, List.flatten_nil, List.append_nil] at hx'
                  exact e2 j x x' hx hx'
              · simp at hp
          · simp at h
        · simp at h
      · simp at h
    | [], h => simp [convR] at h
    | _ :: _ :: _, h => simp [convR] at h
end
end Go.VL
