/- Saying a state anew, by hints. -/
import Derived.Test.YtiacejpdgjmdfabGreatVlP
namespace Go.VL
set_option linter.unusedVariables false
set_option linter.unusedSimpArgs false
open Go

def lkp : List (Nat × AV) → Nat → AV
  | [], _ => .dead
  | (u, v) :: l, t => if t = u then v else lkp l t

/-- A state given by lists. -/
def mkS (env : List (Nat × AV)) (rows : List (List Ob)) : S := { E := lkp env, R := fun r => rows[r]? }

theorem mkS_free (env : List (Nat × AV)) (rows : List (List Ob)) : (mkS env rows).freeFrom rows.length := by
  intro r hr
  simp [mkS, hr]

def PureRow (row : List Ob) : Prop := ∀ o ∈ row, PureEs o.es

/-- Rows, renamed as wholes. -/
def mvR (l : List Nat) : Mv := fun j i => match l[j]? with
  | some r => some (r, i)
  | none => none

/-- A cell under new names. -/
def RxV (mv : Mv) (x x' : AV) : Prop :=
  (x' = x ∧ x.noref0 = true) ∨ (∃ r k lo len j i, x = .osl r k lo len ∧ mv j i = some (r, k) ∧ x' = .osl j i lo len) ∨ x' = .dead ∨
    ∃ r c sz h j c', x = .hsl r c sz h ∧ (∀ k, mv j (k + c') = some (r, k + c)) ∧ x' = .hsl j c' sz h

/-- Rows, object by object, under new names. -/
def RxR (mv : Mv) (row row' : List Ob) : Prop :=
  row'.length = row.length ∧ ∀ (k : Nat) o o', row[k]? = some o → row'[k]? = some o' → o'.sz = o.sz ∧ o'.kd = o.kd ∧ o'.es.length = o.es.length ∧ (∀ e ∈ o'.es, e.length = o.sz) ∧
    ∀ (j : Nat) x x', o.es.flatten[j]? = some x → o'.es.flatten[j]? = some x' → RxV mv x x'

/-- A row in other words. -/
def convW (R : Nat → Option (List Ob)) (tgt : Nat → Option Nat) (mv : Mv) (al : Kd → Bool) : RC → List Ob → Option (List Ob × List Prop)
  | .pure, row => some (row, [PureRow row])
  | .as row', row => some (row', [row = row', PureRow row'])
  | .rn row', row => some (row', [row' = row.map (rnO tgt)])
  | .rx row', row => some (row', [RxR mv row row'])
  | .drop, row => some (row.map goneO, [])
  | .box l, [o] => match o.es with
    | [c] => match convL (conv0 R tgt mv al) l c with
        | some (c', ob) => some ([{ o with es := [c'] }], ob)
        | none => none
    | _ => none
  | _, _ => none

def restR (R : Nat → Option (List Ob)) (tgt : Nat → Option Nat) (mv : Mv) : List Nat → List RC → Option (List (List Ob) × List Prop)
  | [], [] => some ([], [])
  | r :: l, c :: rc => match R r with
    | some row => match convW R tgt mv isAny c row, restR R tgt mv l rc with
      | some (row', o1), some (T, o2) => some (row' :: T, o1 ++ o2)
      | _, _ => none
    | none => none
  | _, _ => none

def restE (R : Nat → Option (List Ob)) (tgt : Nat → Option Nat) (mv : Mv) (E : Nat → AV) : List (Nat × C2) → Option (List (Nat × AV) × List Prop)
  | [] => some ([], [])
  | (t, c) :: l => match conv2 R tgt mv isAny c (E t), restE R tgt mv E l with
    | some (v, o1), some (env, o2) => some ((t, v) :: env, o1 ++ o2)
    | _, _ => none

def fixes (mv : List Nat) (m : Nat) : Bool := (List.range m).all fun j => mv[j]? == some j

def restS (m : Nat) (s : S) (mv : List Nat) (rc : List RC) (ec : List (Nat × C2)) : Option (S × Nat × List Prop) :=
  if decide mv.Nodup && fixes mv m then
    match restR s.R (findIx mv) (mvR mv) mv rc, restE s.R (findIx mv) (mvR mv) s.E ec with
    | some (T, o1), some (env, o2) => some (mkS env T, T.length, o1 ++ o2)
    | _, _ => none
  else none

section
variable {P : Program} {g : G} {s : S} {φ : Plc} {a : Act} {w : World}

theorem convW_ok (hM : RelM g s φ w) {mv : Mv} {tgt : Nat → Option Nat} {al : Kd → Bool} (H : Tg s mv tgt al) {c : RC} {r : Nat} {κ : Nat → Nat} {row row' : List Ob} {ob : List Prop} (hrow : ∀ k o, obIn (some row) k = some o → s.ob r (κ k) = some o)
    (h : convW s.R tgt mv al c row = some (row', ob)) (hob : ∀ p ∈ ob, p) :
    row'.length = row.length ∧ ∀ (k : Nat) o', obIn (some row') k = some o' → ∃ o, obIn (some row) k = some o ∧ SnO s mv al isT o o' := by
  have hlen : ∀ k o, obIn (some row) k = some o → ∀ e ∈ o.es, e.length = o.sz := by
    intro k o ho
    have ho' : s.ob r (κ k) = some o := hrow k o ho
    have hobj := hM.obj r (κ k) o ho'
    cases hp : φ r (κ k) with
    | none => rw [hp] at hobj; simp only [ObRel] at hobj; rw [hobj]; simp
    | some q => rw [hp] at hobj; obtain ⟨_, _, _, _, e, _⟩ := hobj; exact e
  have hpure : PureRow row → ∀ (k : Nat) o', obIn (some row) k = some o' → ∃ o, obIn (some row) k = some o ∧ SnO s mv al isT o o' := by
    intro hp
    have hmem : ∀ k o, obIn (some row) k = some o → o ∈ row := by
      intro k o ho
      unfold obIn at ho
      simp only at ho
      split at ho
      · rename_i o' ho'
        split at ho
        · simp at ho
        · simp at ho; subst ho; exact List.mem_of_getElem? ho'
      · simp at ho
    refine fun k o ho => ⟨o, ho, rfl, .inl rfl, rfl, hlen k o ho, fun j x x' hx hx' => ?_⟩
    rw [hx] at hx'; simp at hx'; subst hx'
    obtain ⟨e, he, hxe⟩ := mem_flatten_at hx
    exact .pure (hp o (hmem k o ho) e he x hxe) trivial
  cases c with
  | pure =>
    simp only [convW, Option.some.injEq, Prod.mk.injEq] at h
    obtain ⟨rfl, rfl⟩ := h
    exact ⟨rfl, hpure (hob _ (by simp))⟩
  | as row2 =>
    simp only [convW, Option.some.injEq, Prod.mk.injEq] at h
    obtain ⟨rfl, rfl⟩ := h
    have e : row = row2 := hob _ (by simp)
    subst e
    exact ⟨rfl, hpure (hob _ (by simp))⟩
  | rn row2 =>
    simp only [convW, Option.some.injEq, Prod.mk.injEq] at h
    obtain ⟨rfl, rfl⟩ := h
    have e : row2 = row.map (rnO tgt) := hob _ (by simp)
    subst e
    exact ⟨by simp, rn_ok hM H hrow (fun _ _ _ _ _ _ _ => trivial)⟩
  | rx row2 =>
    simp only [convW, Option.some.injEq, Prod.mk.injEq] at h
    obtain ⟨rfl, rfl⟩ := h
    obtain ⟨h1, h2⟩ : RxR mv row row2 := hob _ (by simp)
    refine ⟨h1, fun k o' ho' => ?_⟩
    rw [obIn_eq] at ho'
    cases hk' : row2[k]? with
    | none => rw [hk'] at ho'; simp at ho'
    | some p' =>
      rw [hk', Option.bind_some] at ho'
      split at ho'
      · simp at ho'
      · rename_i hg
        simp only [Option.some.injEq] at ho'; subst ho'
        have hlt : k < row.length := by have := lt_of_get hk'; omega
        have hk := List.getElem?_eq_getElem hlt
        obtain ⟨q1, q2, q3, q4, q5⟩ := h2 k _ _ hk hk'
        have ho : obIn (some row) k = some row[k] := by rw [obIn_eq, hk, Option.bind_some, if_neg (by rw [← q2]; exact hg)]
        refine ⟨_, ho, q1, .inl q2, q3, q4, fun j x x' hx hx' => ?_⟩
        have hobj := hM.obj r (κ k) _ (hrow k _ ho)
        cases hp : φ r (κ k) with
        | none => rw [hp] at hobj; simp only [ObRel] at hobj; rw [hobj] at hx; simp at hx
        | some bm =>
          obtain ⟨b, m⟩ := bm
          rw [hp] at hobj
          obtain ⟨c, ty, f1, f2, f3, f4⟩ := hobj
          obtain ⟨u, u1, u2, u3⟩ := f4 j x hx
          rcases q5 j x x' hx hx' with ⟨rfl, hn⟩ | ⟨r2, k2, lo, len, j2, i2, rfl, hm, rfl⟩ | rfl | ⟨r2, c2, sz2, h2, j2, c3, rfl, hm, rfl⟩
          · exact .pure (u3.pure0 hn) trivial
          · exact .osl lo len hm (by cases u3 <;> assumption)
          · exact .dead _
          · exact .hsl h2 hm
  | drop =>
    simp only [convW, Option.some.injEq, Prod.mk.injEq] at h
    obtain ⟨rfl, rfl⟩ := h
    refine ⟨by simp, fun k o ho => ?_⟩
    rw [obIn_eq, List.getElem?_map] at ho
    cases hk : row[k]? <;> simp [hk, goneO] at ho
  | box l =>
    match row, h with
    | [o], h =>
      simp only [convW] at h
      split at h
      · rename_i c hes
        split at h
        · rename_i c' ob' hc
          simp only [Option.some.injEq, Prod.mk.injEq] at h
          obtain ⟨rfl, rfl⟩ := h
          refine ⟨rfl, fun k p hp => ?_⟩
          rw [obIn_one] at hp
          split at hp
          · rename_i hk0
            obtain ⟨rfl, hkd⟩ := hk0
            simp only [Option.some.injEq] at hp; subst hp
            have h0 : obIn (some [o]) 0 = some o := by rw [obIn_one]; simpa using hkd
            refine ⟨o, h0, ?_⟩
            have ho' : s.ob r (κ 0) = some o := hrow 0 o h0
            have hobj := hM.obj r (κ 0) o ho'
            cases hpp : φ r (κ 0) with
            | none => rw [hpp] at hobj; simp only [ObRel] at hobj; rw [hes] at hobj; simp at hobj
            | some q =>
              obtain ⟨b, m⟩ := q
              rw [hpp] at hobj
              obtain ⟨ca, ty, g1, g2, g3, g4⟩ := hobj
              have hcl' : c.length = o.sz := g3 c (by rw [hes]; simp)
              have hfl : o.es.flatten = c := by rw [hes]; simp
              obtain ⟨e1, e2⟩ := convL0_ok (vs := (List.range c.length).map fun j => (ca[j]?).getD undef) hM H (dnT _) hc hob (fun _ _ => trivial) (by simp) (by
                intro j y u hy hu
                have hj := lt_of_get hy
                rw [List.getElem?_map, List.getElem?_range hj] at hu
                simp only [Option.map_some, Option.some.injEq] at hu
                obtain ⟨u', u1, -, u3⟩ := g4 j y (by rw [hfl]; exact hy)
                rw [u1] at hu; simp at hu; subst hu
                exact u3)
              refine ⟨rfl, .inl rfl, by simp [hes], by simp; omega, fun j x x' hx hx' => ?_⟩
              rw [hfl] at hx
              simp only [List.flatten_cons, List.flatten_nil, List.append_nil] at hx'
              exact e2 j x x' hx hx'
          · simp at hp
        · simp at h
      · simp at h
    | [], h => simp [convW] at h
    | _ :: _ :: _, h => simp [convW] at h

theorem restR_ok (hM : RelM g s φ w) {mv : Mv} {tgt : Nat → Option Nat} (H : Tg s mv tgt isAny) : ∀ (l : List Nat) (rc : List RC) (T : List (List Ob)) (ob : List Prop),
    restR s.R tgt mv l rc = some (T, ob) → (∀ p ∈ ob, p) → T.length = l.length ∧ ∀ (j : Nat) row' r, T[j]? = some row' → l[j]? = some r → ∃ row, s.R r = some row ∧ row'.length = row.length ∧
      ∀ (k : Nat) o', obIn (some row') k = some o' → ∃ o, obIn (some row) k = some o ∧ SnO s mv isAny isT o o'
  | [], [], T, ob, h, _ => by
    simp [restR] at h; obtain ⟨rfl, rfl⟩ := h
    exact ⟨rfl, fun j row' r hj => by simp at hj⟩
  | r :: l, c :: rc, T, ob, h, hob => by
    simp only [restR] at h
    split at h
    · rename_i row hrow
      split at h
      · rename_i row1 o1 T2 o2 h1 h2
        simp only [Option.some.injEq, Prod.mk.injEq] at h
        obtain ⟨rfl, rfl⟩ := h
        obtain ⟨e1, e2⟩ := restR_ok hM H l rc T2 o2 h2 (fun p hp => hob p (by simp [hp]))
        have f2 := convW_ok (κ := id) hM H (fun k o ho => by unfold S.ob; rw [hrow]; exact ho) h1 (fun p hp => hob p (by simp [hp]))
        refine ⟨by simp [e1], fun j row' q hj hq => ?_⟩
        cases j with
        | zero => simp at hj hq; subst hj; subst hq; exact ⟨row, hrow, f2.1, f2.2⟩
        | succ j => simp at hj hq; exact e2 j row' q hj hq
      · simp at h
    · simp at h
  | [], _ :: _, _, _, h, _ => by simp [restR] at h
  | _ :: _, [], _, _, h, _ => by simp [restR] at h

theorem restE_ok (h : RelS g s φ a w) {mv : Mv} {tgt : Nat → Option Nat} (H : Tg s mv tgt isAny) : ∀ (l : List (Nat × C2)) (env : List (Nat × AV)) (ob : List Prop),
    restE s.R tgt mv s.E l = some (env, ob) → (∀ p ∈ ob, p) → ∀ t, Sn s mv isAny isT (s.E t) (lkp env t)
  | [], env, ob, hr, _ => by
    simp [restE] at hr; obtain ⟨rfl, rfl⟩ := hr
    intro t; exact .dead _
  | (u, c) :: l, env, ob, hr, hob => by
    simp only [restE] at hr
    split at hr
    · rename_i v o1 env2 o2 h1 h2
      simp only [Option.some.injEq, Prod.mk.injEq] at hr
      obtain ⟨rfl, rfl⟩ := hr
      have ih := restE_ok h H l env2 o2 h2 (fun p hp => hob p (by simp [hp]))
      intro t
      unfold lkp
      split
      · rename_i e; subst e
        exact conv2_ok h.toRelM H (dnT _) h1 (fun p hp => hob p (by simp [hp])) trivial (h.env t)
      · exact ih t
    · simp at hr

theorem mvR_iff {l : List Nat} {j i r k : Nat} : mvR l j i = some (r, k) ↔ l[j]? = some r ∧ i = k := by
  unfold mvR
  cases l[j]? <;> simp

theorem hi_of {mv : List Nat} (hn : mv.Nodup) : Tg s (mvR mv) (findIx mv) isAny :=
  ⟨fun _ _ h _ => mvR_iff.2 ⟨findIx_get h, rfl⟩, fun _ hr _ _ _ _ _ _ hm => by rw [get_findIx hn (mvR_iff.1 hm).1] at hr; simp at hr⟩

theorem snR_of {mv : List Nat} (hnd : mv.Nodup) {T : List (List Ob)} (e1 : T.length = mv.length) (e2 : ∀ (j : Nat) row' r, T[j]? = some row' → mv[j]? = some r → ∃ row, s.R r = some row ∧ row'.length = row.length ∧
      ∀ (k : Nat) o', obIn (some row') k = some o' → ∃ o, obIn (some row) k = some o ∧ SnO s (mvR mv) isAny isT o o') : SnR s (mvR mv) isAny isT (fun j => T[j]?) := by
  refine ⟨?_, ?_, ?_⟩
  · intro j i j' i' p e e'
    obtain ⟨r, k⟩ := p
    obtain ⟨a1, rfl⟩ := mvR_iff.1 e
    obtain ⟨a2, rfl⟩ := mvR_iff.1 e'
    exact ⟨(List.getElem?_inj (lt_of_get a1) hnd).1 (a1.trans a2.symm), rfl⟩
  · intro j i o' ho'
    have ho' : obIn (T[j]?) i = some o' := ho'
    cases hj : T[j]? with
    | none => rw [hj] at ho'; simp [obIn] at ho'
    | some row' =>
      rw [hj] at ho'
      have hlt : j < mv.length := by have := lt_of_get hj; omega
      have hq := List.getElem?_eq_getElem hlt
      obtain ⟨row, f1, -, f2⟩ := e2 j row' _ hj hq
      obtain ⟨o, g1, g2⟩ := f2 i o' ho'
      exact ⟨_, i, o, mvR_iff.2 ⟨hq, rfl⟩, by unfold S.ob; rw [f1]; exact g1, g2⟩
  · intro j i r k e hu
    obtain ⟨a1, rfl⟩ := mvR_iff.1 e
    have hlt : j < T.length := by have := lt_of_get a1; omega
    obtain ⟨row, f1, f2, -⟩ := e2 j _ r (List.getElem?_eq_getElem hlt) a1
    show i < ((T[j]?).getD []).length
    rw [List.getElem?_eq_getElem hlt]
    show i < T[j].length
    rw [f2]
    simpa [S.us, f1] using hu

theorem fixes_of {mv : List Nat} {g : G} (hM : RelM g s φ w) (hfx : fixes mv g.m = true) : ∀ j k, g.us0 j k → mvR mv j k = some (j, k) := by
  intro j k hj
  unfold fixes at hfx
  have := List.all_eq_true.1 hfx j (List.mem_range.2 (hM.low j k hj))
  exact mvR_iff.2 ⟨by simpa using this, rfl⟩

theorem restS_ok (h : RelS g s φ a w) {mv : List Nat} {rc : List RC} {ec : List (Nat × C2)} {s' : S} {n : Nat} {ob : List Prop} (hr : restS g.m s mv rc ec = some (s', n, ob)) (hob : ∀ p ∈ ob, p) :
    s'.freeFrom n ∧ RelS g s' (reφ φ (mvR mv)) a w := by
  unfold restS at hr
  split at hr
  · rename_i hc
    simp only [Bool.and_eq_true, decide_eq_true_eq] at hc
    obtain ⟨hnd, hfx⟩ := hc
    split at hr
    · rename_i T o1 env o2 h1 h2
      simp only [Option.some.injEq, Prod.mk.injEq] at hr
      obtain ⟨rfl, rfl, rfl⟩ := hr
      refine ⟨mkS_free _ _, ?_⟩
      obtain ⟨e1, e2⟩ := restR_ok h.toRelM (hi_of hnd) mv rc T o1 h1 (fun p hp => hob p (by simp [hp]))
      refine h.restate (mv := mvR mv) (q := isT) (snR_of hnd e1 e2) (restE_ok h (hi_of hnd) ec env o2 h2 (fun p hp => hob p (by simp [hp]))) (fixes_of h.toRelM hfx)
    · simp at hr
  · simp at hr

/-! ### Rows made of parts of rows -/

def mvG (l : List Seg) : Mv := fun j i => match l[j]? with
  | some sg => if i < sg.hd.length then sg.hd[i]? else (match sg.tl with
    | some (r, n) => some (r, i - sg.hd.length + n)
    | none => none)
  | none => none

/-- A row that goes over as a whole. -/
def tgtG (n : Nat) : List Seg → Nat → Option Nat
  | [], _ => none
  | sg :: l, r => if sg = { hd := [], tl := some (r, 0) } then some n else tgtG (n + 1) l r

/-- Nothing twice. -/
def segIn (r k : Nat) (sg : Seg) : Bool := sg.hd.contains (r, k) || (match sg.tl with | some (q, n) => q == r && decide (n ≤ k) | none => false)
def segOk1 (sg : Seg) : Bool := decide sg.hd.Nodup && sg.hd.all fun p => match sg.tl with | some (q, n) => !(q == p.1 && decide (n ≤ p.2)) | none => true
def segApart (a b : Seg) : Bool := (a.hd.all fun p => !segIn p.1 p.2 b) && (b.hd.all fun p => !segIn p.1 p.2 a) && (match a.tl, b.tl with | some (q, _), some (q', _) => !(q == q') | _, _ => true)
def segsOk : List Seg → Bool
  | [] => true
  | a :: l => segOk1 a && l.all (segApart a) && segsOk l
def fixesG (l : List Seg) (m : Nat) : Bool := (List.range m).all fun j => l[j]? == some { hd := [], tl := some (j, 0) }

def restH (R : Nat → Option (List Ob)) (tgt : Nat → Option Nat) (mv : Mv) : List (Nat × Nat) → List RC → Option (List Ob × List Prop)
  | [], [] => some ([], [])
  | (r, k) :: l, c :: rc => match obIn (R r) k with
    | some o => match convW R tgt mv isNo c [o], restH R tgt mv l rc with
      | some ([o'], o1), some (T, o2) => some (o' :: T, o1 ++ o2)
      | _, _ => none
    | none => none
  | _, _ => none

def restT (R : Nat → Option (List Ob)) (tgt : Nat → Option Nat) (mv : Mv) : Option (Nat × Nat) → Option RC → Option (List Ob × List Prop)
  | none, none => some ([], [])
  | some (r, n), some c => match R r with
    | some row => convW R tgt mv isNo c (row.drop n)
    | none => none
  | _, _ => none

def restG (R : Nat → Option (List Ob)) (tgt : Nat → Option Nat) (mv : Mv) : List Seg → List (List RC × Option RC) → Option (List (List Ob) × List Prop)
  | [], [] => some ([], [])
  | sg :: l, (ch, ct) :: rc => match restH R tgt mv sg.hd ch, restT R tgt mv sg.tl ct, restG R tgt mv l rc with
    | some (a, o1), some (b, o2), some (T, o3) => some ((a ++ b) :: T, o1 ++ o2 ++ o3)
    | _, _, _ => none
  | _, _ => none

def restEG (R : Nat → Option (List Ob)) (tgt : Nat → Option Nat) (mv : Mv) (E : Nat → AV) : List (Nat × C2) → Option (List (Nat × AV) × List Prop)
  | [] => some ([], [])
  | (t, c) :: l => match conv2 R tgt mv isNo c (E t), restEG R tgt mv E l with
    | some (v, o1), some (env, o2) => some ((t, v) :: env, o1 ++ o2)
    | _, _ => none

def restSG (m : Nat) (s : S) (l : List Seg) (rc : List (List RC × Option RC)) (ec : List (Nat × C2)) : Option (S × Nat × List Prop) :=
  if segsOk l && fixesG l m then
    match restG s.R (tgtG 0 l) (mvG l) l rc, restEG s.R (tgtG 0 l) (mvG l) s.E ec with
    | some (T, o1), some (env, o2) => some (mkS env T, T.length, o1 ++ o2)
    | _, _ => none
  else none

theorem mvG_in {l : List Seg} {j i r k : Nat} (h : mvG l j i = some (r, k)) : ∃ sg, l[j]? = some sg ∧ segIn r k sg = true ∧ (if i < sg.hd.length then sg.hd[i]? = some (r, k) else ∃ n, sg.tl = some (r, n) ∧ k = i - sg.hd.length + n) := by
  unfold mvG at h
  cases hj : l[j]? with
  | none => rw [hj] at h; simp at h
  | some sg =>
    rw [hj] at h
    simp only at h
    refine ⟨sg, rfl, ?_⟩
    split at h
    · rename_i hlt
      rw [if_pos hlt]
      exact ⟨by unfold segIn; simp [List.mem_of_getElem? h], h⟩
    · rename_i hlt
      rw [if_neg hlt]
      split at h
      · rename_i r' n ht
        simp only [Option.some.injEq, Prod.mk.injEq] at h
        obtain ⟨rfl, rfl⟩ := h
        exact ⟨by unfold segIn; simp [ht], n, ht, rfl⟩
      · simp at h

theorem segsOk_at : ∀ {l : List Seg}, segsOk l = true → (∀ (j : Nat) a, l[j]? = some a → segOk1 a = true) ∧ ∀ (i j : Nat) a b, i < j → l[i]? = some a → l[j]? = some b → segApart a b = true
  | [], _ => ⟨fun j a h => by simp at h, fun i j a b _ h => by simp at h⟩
  | c :: l, h => by
    simp only [segsOk, Bool.and_eq_true] at h
    obtain ⟨⟨h1, h2⟩, h3⟩ := h
    obtain ⟨e1, e2⟩ := segsOk_at h3
    refine ⟨fun j a hj => ?_, fun i j a b hij ha hb => ?_⟩
    · cases j with
      | zero => simp at hj; subst hj; exact h1
      | succ j => exact e1 j a (by simpa using hj)
    · cases j with
      | zero => omega
      | succ j =>
        simp at hb
        cases i with
        | zero => simp at ha; subst ha; exact List.all_eq_true.1 h2 b (List.mem_of_getElem? hb)
        | succ i => exact e2 i j a b (by omega) (by simpa using ha) hb

theorem segApart_no {a b : Seg} {r k : Nat} (h : segApart a b = true) (ha : segIn r k a = true) (hb : segIn r k b = true) : False := by
  simp only [segApart, Bool.and_eq_true, List.all_eq_true] at h
  obtain ⟨⟨h1, h2⟩, h3⟩ := h
  have ha' := ha
  have hb' := hb
  simp only [segIn, Bool.or_eq_true, List.contains_iff_mem] at ha hb
  rcases ha with ha | ha
  · have := h1 _ ha; simp [hb'] at this
  · rcases hb with hb | hb
    · have := h2 _ hb; simp [ha'] at this
    · cases e1 : a.tl with
      | none => rw [e1] at ha; simp at ha
      | some p =>
        obtain ⟨q, n⟩ := p
        cases e2 : b.tl with
        | none => rw [e2] at hb; simp at hb
        | some p' =>
          obtain ⟨q', n'⟩ := p'
          rw [e1] at ha; rw [e2] at hb; rw [e1, e2] at h3
          simp at ha hb h3
          exact h3 (ha.1.trans hb.1.symm)

theorem mvG_inj {l : List Seg} (hl : segsOk l = true) : ∀ j i j' i' p, mvG l j i = some p → mvG l j' i' = some p → j = j' ∧ i = i' := by
  intro j i j' i' p h h'
  obtain ⟨r, k⟩ := p
  obtain ⟨sg, a1, a2, a3⟩ := mvG_in h
  obtain ⟨sg', b1, b2, b3⟩ := mvG_in h'
  obtain ⟨e1, e2⟩ := segsOk_at hl
  have hj : j = j' := by
    rcases Nat.lt_trichotomy j j' with e | e | e
    · exact (segApart_no (e2 j j' sg sg' e a1 b1) a2 b2).elim
    · exact e
    · exact (segApart_no (e2 j' j sg' sg e b1 a1) b2 a2).elim
  subst hj
  rw [a1] at b1; simp at b1; subst b1
  refine ⟨rfl, ?_⟩
  have h1 := e1 j sg a1
  simp only [segOk1, Bool.and_eq_true, decide_eq_true_eq, List.all_eq_true] at h1
  obtain ⟨n1, n2⟩ := h1
  split at a3 <;> split at b3
  · exact (List.getElem?_inj (by assumption) n1).1 (a3.trans b3.symm)
  · obtain ⟨n, t1, t2⟩ := b3
    have := n2 _ (List.mem_of_getElem? a3)
    rw [t1] at this; simp at this; omega
  · obtain ⟨n, t1, t2⟩ := a3
    have := n2 _ (List.mem_of_getElem? b3)
    rw [t1] at this; simp at this; omega
  · obtain ⟨n, t1, t2⟩ := a3
    obtain ⟨n', t1', t2'⟩ := b3
    rw [t1] at t1'; simp at t1'; omega

theorem tgtG_some : ∀ {l : List Seg} {n r j : Nat}, tgtG n l r = some j → n ≤ j ∧ l[j - n]? = some { hd := [], tl := some (r, 0) }
  | [], _, _, _, h => by simp [tgtG] at h
  | sg :: l, n, r, j, h => by
    simp only [tgtG] at h
    split at h
    · rename_i e; simp at h; subst h; exact ⟨Nat.le_refl _, by simp [e]⟩
    · obtain ⟨h1, h2⟩ := tgtG_some h
      exact ⟨by omega, by rw [show j - n = (j - (n + 1)) + 1 by omega, List.getElem?_cons_succ]; exact h2⟩

theorem tg_G (l : List Seg) : Tg s (mvG l) (tgtG 0 l) isNo := by
  refine ⟨fun r j hj k => ?_, fun _ _ _ _ _ ha => by simp [isNo] at ha⟩
  obtain ⟨-, h2⟩ := tgtG_some hj
  simp only [mvG, show l[j]? = some { hd := [], tl := some (r, 0) } by simpa using h2]
  simp

theorem restH_ok (hM : RelM g s φ w) {mv : Mv} {tgt : Nat → Option Nat} (H : Tg s mv tgt isNo) : ∀ (l : List (Nat × Nat)) (rc : List RC) (T : List Ob) (ob : List Prop),
    restH s.R tgt mv l rc = some (T, ob) → (∀ p ∈ ob, p) → T.length = l.length ∧ ∀ (i : Nat) o', obIn (some T) i = some o' → ∃ r k o, l[i]? = some (r, k) ∧ s.ob r k = some o ∧ SnO s mv isNo isT o o'
  | [], [], T, ob, h, _ => by
    simp [restH] at h; obtain ⟨rfl, rfl⟩ := h
    exact ⟨rfl, fun i o' ho => by simp [obIn] at ho⟩
  | (r, k) :: l, c :: rc, T, ob, h, hob => by
    simp only [restH] at h
    split at h
    · rename_i o ho
      split at h
      · rename_i p o1 T2 o2 h1 h2
        simp only [Option.some.injEq, Prod.mk.injEq] at h
        obtain ⟨rfl, rfl⟩ := h
        obtain ⟨e1, e2⟩ := restH_ok hM H l rc T2 o2 h2 (fun p hp => hob p (by simp [hp]))
        have hone : ∀ k' o', obIn (some [o]) k' = some o' → o' = o := fun k' o' hk => by
          rw [obIn_one] at hk; split at hk
          · simp at hk; exact hk.symm
          · simp at hk
        have ho' : s.ob r k = some o := ho
        obtain ⟨f0, f1⟩ := convW_ok (r := r) (κ := fun _ => k) hM H (fun k' o' hk => by rw [hone k' o' hk]; exact ho') h1 (fun p hp => hob p (by simp [hp]))
        refine ⟨by simp [e1], fun i o' hi => ?_⟩
        cases i with
        | zero =>
          have hi : obIn (some [p]) 0 = some o' := by rw [obIn_eq] at hi ⊢; simpa using hi
          obtain ⟨o2, g1, g2⟩ := f1 0 o' hi
          rw [hone 0 o2 g1] at g2
          exact ⟨r, k, o, rfl, ho', g2⟩
        | succ i =>
          have hi : obIn (some T2) i = some o' := by rw [obIn_eq] at hi ⊢; simpa using hi
          obtain ⟨r', k', o2, g1, g2, g3⟩ := e2 i o' hi
          exact ⟨r', k', o2, by simpa using g1, g2, g3⟩
      · simp at h
    · simp at h
  | [], _ :: _, _, _, h, _ => by simp [restH] at h
  | _ :: _, [], _, _, h, _ => by simp [restH] at h

theorem restT_ok (hM : RelM g s φ w) {mv : Mv} {tgt : Nat → Option Nat} (H : Tg s mv tgt isNo) {tl : Option (Nat × Nat)} {rc : Option RC} {T : List Ob} {ob : List Prop}
    (h : restT s.R tgt mv tl rc = some (T, ob)) (hob : ∀ p ∈ ob, p) : (∀ r n k, tl = some (r, n) → s.us r (k + n) → k < T.length) ∧
      ∀ (i : Nat) o', obIn (some T) i = some o' → ∃ r n o, tl = some (r, n) ∧ s.ob r (i + n) = some o ∧ SnO s mv isNo isT o o' := by
  cases tl with
  | none =>
    cases rc with
    | none =>
      simp [restT] at h; obtain ⟨rfl, rfl⟩ := h
      exact ⟨fun r n k e => by simp at e, fun i o' ho => by simp [obIn] at ho⟩
    | some c => simp [restT] at h
  | some p =>
    obtain ⟨r, n⟩ := p
    cases rc with
    | none => simp [restT] at h
    | some c =>
      simp only [restT] at h
      split at h
      · rename_i row hrow
        have hd : ∀ k o, obIn (some (row.drop n)) k = some o → s.ob r (k + n) = some o := fun k o ho => by
          unfold S.ob; rw [hrow, obIn_eq]; rw [obIn_eq, List.getElem?_drop] at ho; rw [Nat.add_comm]; exact ho
        obtain ⟨f0, f1⟩ := convW_ok (r := r) (κ := fun k => k + n) hM H hd h hob
        refine ⟨fun r' n' k e hk => ?_, fun i o' ho => ?_⟩
        · simp only [Option.some.injEq, Prod.mk.injEq] at e
          obtain ⟨rfl, rfl⟩ := e
          rw [f0, List.length_drop]
          simp [S.us, hrow] at hk
          omega
        · obtain ⟨o, g1, g2⟩ := f1 i o' ho
          exact ⟨r, n, o, rfl, hd i o g1, g2⟩
      · simp at h

theorem obIn_append {a b : List Ob} {i : Nat} : obIn (some (a ++ b)) i = if i < a.length then obIn (some a) i else obIn (some b) (i - a.length) := by
  rw [obIn_eq, obIn_eq, obIn_eq, List.getElem?_append]
  split <;> rfl

theorem restG_ok (hM : RelM g s φ w) {mv : Mv} {tgt : Nat → Option Nat} (H : Tg s mv tgt isNo) : ∀ (l : List Seg) (rc : List (List RC × Option RC)) (T : List (List Ob)) (ob : List Prop),
    restG s.R tgt mv l rc = some (T, ob) → (∀ p ∈ ob, p) → T.length = l.length ∧ ∀ (j : Nat) row' sg, T[j]? = some row' → l[j]? = some sg →
      (sg.hd.length ≤ row'.length) ∧ (∀ r n k, sg.tl = some (r, n) → s.us r (k + n) → k + sg.hd.length < row'.length) ∧
      ∀ (i : Nat) o', obIn (some row') i = some o' → ∃ r k o, (if i < sg.hd.length then sg.hd[i]? = some (r, k) else ∃ n, sg.tl = some (r, n) ∧ k = i - sg.hd.length + n) ∧ s.ob r k = some o ∧ SnO s mv isNo isT o o'
  | [], [], T, ob, h, _ => by
    simp [restG] at h; obtain ⟨rfl, rfl⟩ := h
    exact ⟨rfl, fun j row' sg hj => by simp at hj⟩
  | sg :: l, (ch, ct) :: rc, T, ob, h, hob => by
    simp only [restG] at h
    split at h
    · rename_i a o1 b o2 T2 o3 h1 h2 h3
      simp only [Option.some.injEq, Prod.mk.injEq] at h
      obtain ⟨rfl, rfl⟩ := h
      obtain ⟨e1, e2⟩ := restG_ok hM H l rc T2 o3 h3 (fun p hp => hob p (by simp [hp]))
      obtain ⟨f1, f2⟩ := restH_ok hM H sg.hd ch a o1 h1 (fun p hp => hob p (by simp [hp]))
      obtain ⟨g1, g2⟩ := restT_ok hM H h2 (fun p hp => hob p (by simp [hp]))
      refine ⟨by simp [e1], fun j row' sg' hj hsg => ?_⟩
      cases j with
      | zero =>
        simp at hj hsg; subst hj; subst hsg
        refine ⟨by simp [f1], fun r n k e hk => ?_, fun i o' ho => ?_⟩
        · have := g1 r n k e hk
          simp [f1]; omega
        · rw [obIn_append, f1] at ho
          split at ho
          · rename_i hlt
            obtain ⟨r, k, o, q1, q2, q3⟩ := f2 i o' ho
            exact ⟨r, k, o, by rw [if_pos hlt]; exact q1, q2, q3⟩
          · rename_i hlt
            obtain ⟨r, n, o, q1, q2, q3⟩ := g2 _ o' ho
            exact ⟨r, _, o, by rw [if_neg hlt]; exact ⟨n, q1, rfl⟩, q2, q3⟩
      | succ j => simp at hj hsg; exact e2 j row' sg' hj hsg
    · simp at h
  | [], _ :: _, _, _, h, _ => by simp [restG] at h
  | _ :: _, [], _, _, h, _ => by simp [restG] at h

theorem restEG_ok (h : RelS g s φ a w) {mv : Mv} {tgt : Nat → Option Nat} (H : Tg s mv tgt isNo) : ∀ (l : List (Nat × C2)) (env : List (Nat × AV)) (ob : List Prop),
    restEG s.R tgt mv s.E l = some (env, ob) → (∀ p ∈ ob, p) → ∀ t, Sn s mv isNo isT (s.E t) (lkp env t)
  | [], env, ob, hr, _ => by
    simp [restEG] at hr; obtain ⟨rfl, rfl⟩ := hr
    intro t; exact .dead _
  | (u, c) :: l, env, ob, hr, hob => by
    simp only [restEG] at hr
    split at hr
    · rename_i v o1 env2 o2 h1 h2
      simp only [Option.some.injEq, Prod.mk.injEq] at hr
      obtain ⟨rfl, rfl⟩ := hr
      have ih := restEG_ok h H l env2 o2 h2 (fun p hp => hob p (by simp [hp]))
      intro t
      unfold lkp
      split
      · rename_i e; subst e
        exact conv2_ok h.toRelM H (dnT _) h1 (fun p hp => hob p (by simp [hp])) trivial (h.env t)
      · exact ih t
    · simp at hr

theorem Sn.wide {mv : Mv} {al al' : Kd → Bool} {q : AV → Prop} (h : ∀ k, al k = true → al' k = true) {x x' : AV} (hs : Sn s mv al q x x') : Sn s mv al' q x x' := by
  induction hs with
  | dead x => exact .dead x
  | pure hp hq => exact .pure hp hq
  | nils sz => exact .nils sz
  | esl sz => exact .esl sz
  | nilpo sz => exact .nilpo sz
  | ipo h ih => exact .ipo ih
  | ref i off hm hu => exact .ref i off hm hu
  | osl lo len hm hu => exact .osl lo len hm hu
  | hslN r c sz => exact .hslN r c sz
  | hslS h ih => exact .hslS ih
  | hsl h hm => exact .hsl h hm
  | ipt i off ho ha hr hne hp hle hl hh ih => exact .ipt i off ho (h _ ha) hr hne hp hle hl ih
  | isl ho ha hr hfit hp hle hl hh ih => exact .isl ho (h _ ha) hr hfit hp hle hl ih
  | agg hl hh ih => exact .agg hl ih
  | tup hl hh ih => exact .tup hl ih
  | fn hl hh ih => exact .fn hl ih

theorem restSG_ok (h : RelS g s φ a w) {l : List Seg} {rc : List (List RC × Option RC)} {ec : List (Nat × C2)} {s' : S} {n : Nat} {ob : List Prop} (hr : restSG g.m s l rc ec = some (s', n, ob)) (hob : ∀ p ∈ ob, p) :
    s'.freeFrom n ∧ RelS g s' (reφ φ (mvG l)) a w := by
  unfold restSG at hr
  split at hr
  · rename_i hc
    simp only [Bool.and_eq_true] at hc
    obtain ⟨hok, hfx⟩ := hc
    split at hr
    · rename_i T o1 env o2 h1 h2
      simp only [Option.some.injEq, Prod.mk.injEq] at hr
      obtain ⟨rfl, rfl, rfl⟩ := hr
      refine ⟨mkS_free _ _, ?_⟩
      obtain ⟨e1, e2⟩ := restG_ok h.toRelM (tg_G l) l rc T o1 h1 (fun p hp => hob p (by simp [hp]))
      have hE := restEG_ok h (tg_G l) ec env o2 h2 (fun p hp => hob p (by simp [hp]))
      refine h.restate (mv := mvG l) (q := isT) ⟨mvG_inj hok, ?_, ?_⟩ (fun t => (hE t).wide fun _ ha => by simp [isNo] at ha) ?_
      · intro j i o' ho'
        have ho' : obIn (T[j]?) i = some o' := ho'
        cases hj : T[j]? with
        | none => rw [hj] at ho'; simp [obIn] at ho'
        | some row' =>
          rw [hj] at ho'
          have hlt : j < l.length := by have := lt_of_get hj; omega
          have hq := List.getElem?_eq_getElem hlt
          obtain ⟨r, k, o, g1, g2, g3⟩ := (e2 j row' _ hj hq).2.2 i o' ho'
          refine ⟨r, k, o, ?_, g2, ⟨g3.sz, g3.kd, g3.len, g3.each, fun j x x' hx hx' => (g3.at_ j x x' hx hx').wide fun _ ha => by simp [isNo] at ha⟩⟩
          simp only [mvG, hq]
          split at g1
          · rename_i hl; rw [if_pos hl]; exact g1
          · rename_i hl; rw [if_neg hl]; obtain ⟨n, t1, t2⟩ := g1; rw [t1, t2]
      · intro j i r k e hu
        obtain ⟨sg, a1, a2, a3⟩ := mvG_in e
        have hlt : j < T.length := by have := lt_of_get a1; omega
        obtain ⟨b1, b2, -⟩ := e2 j _ sg (List.getElem?_eq_getElem hlt) a1
        show i < ((T[j]?).getD []).length
        rw [List.getElem?_eq_getElem hlt]
        show i < T[j].length
        split at a3
        · omega
        · rename_i hl
          obtain ⟨n, t1, t2⟩ := a3
          have := b2 r n (i - sg.hd.length) t1 (by rw [← t2]; exact hu)
          omega
      · intro j k hj
        unfold fixesG at hfx
        have := List.all_eq_true.1 hfx j (List.mem_range.2 (h.low j k hj))
        simp only [beq_iff_eq] at this
        simp only [mvG, this]
        simp
    · simp at hr
  · simp at hr

/-- A nil slice as an object of its own, without place. -/
theorem RelS.virt (h : RelS g s φ a w) {nr t sz : Nat} (hnr : s.R nr = none) (ht : s.E t = .nils) :
    ∃ φ', RelS g { E := fun u => if u = t then .osl nr 0 0 0 else s.E u, R := (s.setRow nr [⟨sz, [], .live⟩]).R } φ' a w := by
  let s2 := s.setRow nr [⟨sz, [], .live⟩]
  let φ' : Plc := fun q k => if q = nr then none else φ q k
  have hne : ∀ q k, s.us q k → q ≠ nr := by
    rintro q k hq rfl; exact not_us_of_none hnr k hq
  have hR : ∀ q, q ≠ nr → s2.R q = s.R q := fun q hq => by simp [s2, S.setRow, hq]
  have hRn : s2.R nr = some [⟨sz, [], .live⟩] := by simp [s2, S.setRow]
  have hobn : ∀ k o, s2.ob nr k = some o → o = ⟨sz, [], .live⟩ ∧ k = 0 := by
    intro k o ho
    unfold S.ob at ho
    rw [hRn, obIn_one] at ho
    split at ho
    · rename_i e; simp at ho; exact ⟨ho.symm, e.1⟩
    · simp at ho
  have hob : ∀ q k, q ≠ nr → s2.ob q k = s.ob q k := fun q k hq => by unfold S.ob; rw [hR q hq]
  have htb : ∀ q k, q ≠ nr → s2.tb φ' q k = s.tb φ q k := fun q k hq => by simp [S.tb, hob q k hq, φ', hq]
  have st : Step g s φ w s2 φ' w := ⟨fun q k hq => by unfold S.us; rw [hR q (hne q k hq)]; exact hq, fun q k hq => .inl (htb q k (hne q k hq)), fun b hl => by
      obtain ⟨q, k, o, m, h1, h2, h3⟩ := hl
      by_cases e : q = nr
      · subst e; simp [φ'] at h3
      · rw [hob q k e] at h1
        simp only [φ', if_neg e] at h3
        exact .inl ⟨q, k, o, m, h1, h2, h3⟩, fun _ _ _ => rfl, Nat.le_refl _⟩
  have hM : RelM g s2 φ' w := by
    refine ⟨?_, ?_, ?_, h.keep, h.mlt, h.alt, ?_, h.low⟩
    · intro q k o ho
      by_cases e : q = nr
      · subst e
        obtain ⟨rfl, -⟩ := hobn k o ho
        simp [φ', ObRel]
      · rw [hob q k e] at ho
        have := st.obj (fun b m _ => rfl) (h.obj q k o ho)
        simpa [φ', e] using this
    · intro q k o q' k' o' b m m' h1 h2 h3 h4
      have e : q ≠ nr := by rintro rfl; simp [φ'] at h3
      have e' : q' ≠ nr := by rintro rfl; simp [φ'] at h4
      rw [hob q k e] at h1
      rw [hob q' k' e'] at h2
      simp only [φ', if_neg e] at h3
      simp only [φ', if_neg e'] at h4
      exact h.inj q k o q' k' o' b m m' h1 h2 h3 h4
    · intro q k o b m h1 h2
      have e : q ≠ nr := by rintro rfl; simp [φ'] at h2
      rw [hob q k e] at h1
      simp only [φ', if_neg e] at h2
      exact h.own q k o b m h1 h2
    · intro j k hj
      obtain ⟨e1, e2⟩ := h.stay j k hj
      refine ⟨by unfold S.us; rw [hR j (hne j k e1)]; exact e1, ?_⟩
      rw [htb j k (hne j k e1)]; exact e2
  refine ⟨φ', ?_⟩
  have hM' : RelM g { E := fun u => if u = t then .osl nr 0 0 0 else s.E u, R := s2.R } φ' w := hM.congr rfl
  refine { toRelM := hM', env := fun u => ?_, defers := h.defers, tsz := h.tsz }
  have hst := st.rel (h.env u)
  have e1 : ∀ s3 : S, s3.R = s2.R → Rel w (s2.ok g φ' w) s2.us (s2.tb φ') = Rel w (s3.ok g φ' w) s3.us (s3.tb φ') := fun s3 e => by
    rw [ok_congr e, us_congr e, tb_congr e]
  refine Eq.mp (congrFun (congrFun (e1 { E := fun u => if u = t then .osl nr 0 0 0 else s.E u, R := s2.R } rfl) _) _) ?_
  show Rel _ _ _ _ (if u = t then .osl nr 0 0 0 else s.E u) _
  split
  · rename_i e; subst e
    have h0 := h.env u
    rw [ht] at h0
    rw [h0.nils_inv]
    have hn : s2.tb φ' nr 0 = some (sz, none) := by
      unfold S.tb S.ob
      rw [hRn, obIn_one]; simp [φ']
    exact .oslVirt (by simp [S.us, hRn]) hn
  · exact hst
end
end Go.VL
