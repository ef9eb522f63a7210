/- The runner's steps are sound: every operation but calls. -/
import Derived.Test.YtiacejpdgjmdfabGreatVlD
namespace Go.VL
set_option linter.unusedVariables false
set_option linter.unusedSimpArgs false
open Go

def S.upds (s : S) (u : List (Nat × List Ob)) : S := u.foldl (fun s p => s.setRow p.1 p.2) s

@[simp] theorem S.upds_nil (s : S) : s.upds [] = s := rfl
@[simp] theorem S.upds_one (s : S) (p : Nat × List Ob) : s.upds [p] = s.setRow p.1 p.2 := rfl

section
variable {w : World} {ok : Nat → Prop} {us : Us} {tb : Tb} {v : Value}
theorem Rel.b_inv {x : Bool} (h : Rel w ok us tb (.b x) v) : v = .bool x := by cases h; rfl
theorem Rel.n_inv {k : IntKind} {x : Int} (h : Rel w ok us tb (.n k x) v) : v = .int k x := by cases h; rfl
theorem Rel.s_inv {x : ByteArray} (h : Rel w ok us tb (.s x) v) : v = .string x := by cases h; rfl
theorem Rel.nilp_inv (h : Rel w ok us tb .nilp v) : v = .pointer none := by cases h; rfl
theorem Rel.nils_inv (h : Rel w ok us tb .nils v) : v = .slice none 0 0 := by cases h; rfl
theorem Rel.esl_inv (h : Rel w ok us tb .esl v) : ∃ a c, v = .slice (some a) 0 c := by cases h; exact ⟨_, _, rfl⟩
theorem Rel.ipoN_inv {sz : Nat} (h : Rel w ok us tb (.ipo sz none) v) : v = .pointer none := by cases h; rfl
theorem Rel.ipoS_inv {sz : Nat} {c : List AV} (h : Rel w ok us tb (.ipo sz (some c)) v) : Rel w ok us tb (.ipt sz [c] 0 0) v := by cases h; assumption
theorem Rel.fn_inv {f : Nat} {c : List AV} (h : Rel w ok us tb (.fn f c) v) : ∃ vs : List Value, v = .func (.func f) #[] vs.toArray ∧ vs.length = c.length ∧
    ∀ (j : Nat) x u, c[j]? = some x → vs[j]? = some u → Rel w ok us tb x u := by
  cases h with | fn vs hl hr => exact ⟨vs, rfl, hl, hr⟩
theorem Rel.agg_inv {c : List AV} (h : Rel w ok us tb (.agg c) v) : ∃ vs : List Value, v = .agg vs.toArray ∧ vs.length = c.length ∧ (∀ (j : Nat) u, vs[j]? = some u → VL.cellV u = true) ∧
    ∀ (j : Nat) x u, c[j]? = some x → vs[j]? = some u → Rel w ok us tb x u := by
  cases h with | agg vs hl hc hr => exact ⟨vs, rfl, hl, hc, hr⟩
theorem Rel.tup_inv {c : List AV} (h : Rel w ok us tb (.tup c) v) : ∃ vs : List Value, v = .tuple vs.toArray ∧ vs.length = c.length ∧
    ∀ (j : Nat) x u, c[j]? = some x → vs[j]? = some u → Rel w ok us tb x u := by
  cases h with | tup vs hl hr => exact ⟨vs, rfl, hl, hr⟩
/-- A pointer to an object that is there. -/
theorem Rel.ref_inv {r k i off sz : Nat} {p : Option (Nat × Nat)} (h : Rel w ok us tb (.ref r k i off) v) (ht : tb r k = some (sz, p)) :
    p = none ∨ ∃ b m, p = some (b, m) ∧ v = .pointer (some ⟨b, i * sz + off, none⟩) := by
  cases h with
  | refGone a hu hn =>
    cases p with
    | none => exact .inl rfl
    | some q => exact absurd ht (hn _ _)
  | ref hu h =>
    rw [ht] at h
    simp only [Option.some.injEq, Prod.mk.injEq] at h
    obtain ⟨rfl, rfl⟩ := h
    exact .inr ⟨_, _, rfl, rfl⟩
theorem Rel.ref_ptr {r k i off : Nat} (h : Rel w ok us tb (.ref r k i off) v) : ∃ a, v = .pointer a := by
  cases h with
  | refGone a => exact ⟨a, rfl⟩
  | ref => exact ⟨_, rfl⟩
/-- Another cell of the same element. -/
theorem Rel.ref_shift {r k i off sz b m : Nat} (h : Rel w ok us tb (.ref r k i off) v) (ht : tb r k = some (sz, some (b, m))) (off' : Nat) :
    Rel w ok us tb (.ref r k i off') (.pointer (some ⟨b, i * sz + off', none⟩)) := by
  cases h with
  | refGone a hu hn => exact absurd ht (hn _ _)
  | ref hu h => exact .ref hu ht
theorem Rel.ipt_inv {sz i off : Nat} {es : List (List AV)} (h : Rel w ok us tb (.ipt sz es i off) v) : ∃ blk o, (ok blk ∧ PureEs es) ∧ v = .pointer (some ⟨blk, o + (i * sz + off), none⟩) ∧ Rd w ok us tb blk o sz es := by
  cases h with
  | ipt cs hb hp hl hw hc hr => exact ⟨_, _, ⟨hb, hp⟩, rfl, hl, fun j x hx => ⟨cs j, hw j x hx, hc j x hx, hr j x hx⟩⟩
theorem Rel.osl_inv {r k lo len sz : Nat} {p : Option (Nat × Nat)} (h : Rel w ok us tb (.osl r k lo len) v) (ht : tb r k = some (sz, p)) :
    (p = none ∧ lo = 0 ∧ len = 0 ∧ v = .slice none 0 0) ∨ ∃ b m a c, p = some (b, m) ∧ v = .slice a len c ∧ len ≤ c ∧ c < 9223372036854775808 ∧ (c = 0 ∨ (a = some ⟨b, lo * sz, none⟩ ∧ (lo + c) * sz = m)) := by
  cases h with
  | oslGone a l c hu hn => rw [ht] at hn; simp at hn
  | oslVirt hu h =>
    rw [ht] at h
    simp only [Option.some.injEq, Prod.mk.injEq] at h
    exact .inl ⟨h.2, rfl, rfl, rfl⟩
  | osl hu h hl hc hm =>
    rw [ht] at h
    simp only [Option.some.injEq, Prod.mk.injEq] at h
    obtain ⟨rfl, rfl⟩ := h
    exact .inr ⟨_, _, _, _, rfl, rfl, hl, hc, hm⟩
theorem Rel.osl_slice {r k lo len : Nat} (h : Rel w ok us tb (.osl r k lo len) v) : ∃ a l c, v = .slice a l c := by
  cases h <;> exact ⟨_, _, _, rfl⟩
theorem Rel.isl_inv {sz : Nat} {es : List (List AV)} (h : Rel w ok us tb (.isl sz es) v) :
    (es = [] ∧ ∃ a c, v = .slice a 0 c ∧ (a = none → c = 0)) ∨ ∃ blk off c, (ok blk ∧ PureEs es) ∧ v = .slice (some ⟨blk, off, none⟩) es.length c ∧ es.length ≤ c ∧ Rd w ok us tb blk off sz es := by
  cases h with
  | isl0 sz a c h => exact .inl ⟨rfl, a, c, rfl, h⟩
  | isl cs hb hp hl hc hw hcl hr => exact .inr ⟨_, _, _, ⟨hb, hp⟩, rfl, hc, hl, fun j x hx => ⟨cs j, hw j x hx, hcl j x hx, hr j x hx⟩⟩
/-- Back from readable elements. -/
theorem Rd.isl {blk off c sz : Nat} {es : List (List AV)} (h : Rd w ok us tb blk off sz es) (hb : ok blk ∧ PureEs es) (hc : es.length ≤ c) : Rel w ok us tb (.isl sz es) (.slice (some ⟨blk, off, none⟩) es.length c) := by
  have hx : ∀ j : Nat, ∃ v, ∀ x, es.flatten[j]? = some x → w.cell? ⟨blk, off + j, none⟩ = some v ∧ VL.cellV v = true ∧ Rel w ok us tb x v := by
    intro j
    cases hj : es.flatten[j]? with
    | none => exact ⟨undef, fun x hx => by simp at hx⟩
    | some y =>
      obtain ⟨v, h1⟩ := h.2 j y hj
      exact ⟨v, fun x hx => by simp at hx; subst hx; exact h1⟩
  exact .isl (fun j => (hx j).choose) hb.1 hb.2 h.1 hc (fun j x hj => ((hx j).choose_spec x hj).1) (fun j x hj => ((hx j).choose_spec x hj).2.1) (fun j x hj => ((hx j).choose_spec x hj).2.2)
theorem Rd.ipt {blk o i off sz : Nat} {es : List (List AV)} (h : Rd w ok us tb blk o sz es) (hb : ok blk ∧ PureEs es) : Rel w ok us tb (.ipt sz es i off) (.pointer (some ⟨blk, o + (i * sz + off), none⟩)) := by
  have hx : ∀ j : Nat, ∃ v, ∀ x, es.flatten[j]? = some x → w.cell? ⟨blk, o + j, none⟩ = some v ∧ VL.cellV v = true ∧ Rel w ok us tb x v := by
    intro j
    cases hj : es.flatten[j]? with
    | none => exact ⟨undef, fun x hx => by simp at hx⟩
    | some y =>
      obtain ⟨v, h1⟩ := h.2 j y hj
      exact ⟨v, fun x hx => by simp at hx; subst hx; exact h1⟩
  exact .ipt (fun j => (hx j).choose) hb.1 hb.2 h.1 (fun j x hj => ((hx j).choose_spec x hj).1) (fun j x hj => ((hx j).choose_spec x hj).2.1) (fun j x hj => ((hx j).choose_spec x hj).2.2)
end

/-- An operation ends as its record says. -/
def Fin (P : Program) (g : G) (s : S) (a : Act) (w : World) (o : Oper) (res : Res) : Prop :=
  ∃ v w' φ', ((execOp a.eval o).run P w = .ok (.value v) w' ∨ ((execOp a.eval o).run P w = .ok .skip w' ∧ v = undef)) ∧
    RelS g (s.upds res.upd) φ' a w' ∧ Rel w' ((s.upds res.upd).ok g φ' w') (s.upds res.upd).us ((s.upds res.upd).tb φ') res.val v

section
variable {P : Program} {g : G} {s : S} {φ : Plc} {a : Act} {w : World} {o : Oper} {ans : Ans} {nr : Nat} {res : Res}

theorem fin_pure (h : RelS g s φ a w) {v : Value} (hrun : (execOp a.eval o).run P w = .ok (.value v) w) (hu : res.upd = [])
    (hr : Rel w (s.ok g φ w) s.us (s.tb φ) res.val v) : Fin P g s a w o res :=
  ⟨v, w, φ, .inl hrun, by rw [hu]; exact h, by rw [hu]; exact hr⟩

theorem op_move {x : Operand} (h : RelS g s φ a w) (ho : o.op = .move x ∨ o.op = .assign x) (hres : opS P s.E s.R nr o ans = some res) : Fin P g s a w o res := by
  have : res = { val := evalOf s.E x } := by rcases ho with ho | ho <;> simp [opS, ho] at hres <;> exact hres.symm
  subst this
  refine fin_pure (v := a.eval x) h ?_ rfl (h.eval x)
  rcases ho with ho | ho <;> simp [execOp, ho]

theorem op_pick {c x y : Operand} (h : RelS g s φ a w) (ho : o.op = .pick c x y) (hres : opS P s.E s.R nr o ans = some res) (hobs : ∀ p ∈ res.obs, p) : Fin P g s a w o res := by
  have hc := h.eval c
  simp only [opS, ho] at hres
  have key : ∀ t : Bool, evalOf s.E c = .b t → res.upd = [] → res.val = (if t then evalOf s.E x else evalOf s.E y) → Fin P g s a w o res := by
    intro t ht hu hv
    rw [ht] at hc
    have e : a.eval c = .bool t := hc.b_inv
    refine fin_pure (v := if t then a.eval x else a.eval y) h (by simp [execOp, ho, e, asBool]) hu ?_
    rw [hv]; cases t
    · exact h.eval y
    · exact h.eval x
  split at hres
  · rename_i z t hz
    simp at hres; subst hres
    have e : z = t := hobs _ (by simp)
    subst e
    exact key z hz rfl rfl
  · rename_i hz _; simp at hres; subst hres; exact key true hz rfl rfl
  · rename_i hz _; simp at hres; subst hres; exact key false hz rfl rfl
  · simp at hres

/-- A new object. -/
theorem fin_new (h : RelS g s φ a w) (hnr : s.R nr = none) {v : Value} {ob : Ob} {c : Array Value} {ty : TypeId} (hk : ob.kd = .live)
    (hrun : (execOp a.eval o).run P w = .ok (.value v) (w.alloc (.cells c ty))) (hu : res.upd = [(nr, [ob])]) (hlen : ∀ e ∈ ob.es, e.length = ob.sz)
    (hc : ∀ (j : Nat) x, ob.es.flatten[j]? = some x → ∃ v, c[j]? = some v ∧ cellV v = true ∧ Rel w (s.ok g φ w) s.us (s.tb φ) x v)
    (hval : ∀ (w' : World) (ok' : Nat → Prop) (us' : Us) (tb' : Tb), us' nr 0 → tb' nr 0 = some (ob.sz, some (w.heap.size, c.size)) → Rel w' ok' us' tb' res.val v) : Fin P g s a w o res := by
  obtain ⟨φ', hp, hs, -⟩ := h.alloc hnr ob hk c ty hlen hc
  have h1 : (s.setRow nr [ob]).us nr 0 := by rw [us_setRow]; simp
  have h2 : (s.setRow nr [ob]).tb φ' nr 0 = some (ob.sz, some (w.heap.size, c.size)) := by simp [S.tb, ob_setRow, obIn_one, hk, hp]
  exact ⟨v, _, φ', .inl hrun, by rw [hu]; exact hs, by rw [hu]; exact hval _ _ _ _ h1 h2⟩

theorem zero_cells {t : TypeId} {z : List AV} (hz : zeroCellsOf P t = some z) : ∃ i zv, P.info? t = some i ∧ i.zero = some zv ∧ z = zv.cells.toList.map ofValue ∧
    ∀ (j : Nat) x, z[j]? = some x → ∃ v, zv.cells[j]? = some v ∧ cellV v = true ∧ ∀ (w : World) (ok : Nat → Prop) (us : Us) (tb : Tb), Rel w ok us tb x v := by
  unfold zeroCellsOf at hz
  cases hi : P.info? t with
  | none => simp [hi] at hz
  | some i =>
    cases hzz : i.zero with
    | none => simp [hi, hzz] at hz
    | some zv =>
      simp only [hi, hzz] at hz
      split at hz
      · rename_i hall
        simp only [Option.some.injEq] at hz
        refine ⟨i, zv, rfl, hzz, hz.symm, fun j x hx => ?_⟩
        subst hz
        rw [List.getElem?_map, Option.map_eq_some_iff] at hx
        obtain ⟨v, hv, rfl⟩ := hx
        refine ⟨v, by rw [← Array.getElem?_toList]; exact hv, ?_, fun w ok us tb => rel_ofValue v⟩
        exact List.all_eq_true.1 hall v (List.mem_of_getElem? hv)
      · simp at hz

theorem op_alloc {t : TypeId} (h : RelS g s φ a w) (hnr : s.R nr = none) (ho : o.op = .alloc t) (hres : opS P s.E s.R nr o ans = some res) : Fin P g s a w o res := by
  simp only [opS, ho] at hres
  split at hres
  · rename_i z hz
    obtain ⟨i, zv, hi, hzz, e, hcell⟩ := zero_cells hz
    simp only [Option.some.injEq] at hres
    subst hres
    refine fin_new (v := .pointer (some ⟨w.heap.size, 0, none⟩)) (c := zv.cells) (ty := t) (ob := ⟨z.length, [z], .live⟩) h hnr rfl ?_ rfl (by simp) ?_ ?_
    · simp [execOp, ho, Instr.alloc, zeroValue, typeInfo, hi, hzz, newVar, newRow]
    · intro j x hx
      simp only [List.flatten_cons, List.flatten_nil, List.append_nil] at hx
      obtain ⟨v, h1, h2, h3⟩ := hcell j x hx
      exact ⟨v, h1, h2, h3 _ _ _ _⟩
    · intro w' ok' us' tb' hu ht
      have := Rel.ref (w := w') (ok := ok') (i := 0) (off := 0) hu ht
      simpa using this
  · simp at hres

theorem op_box {t : TypeId} {x : Operand} (h : RelS g s φ a w) (hnr : s.R nr = none) (ho : o.op = .box t x) (hres : opS P s.E s.R nr o ans = some res) : Fin P g s a w o res := by
  simp only [opS, ho] at hres
  have hx := h.eval x
  have key : ∀ ob : Ob, ob.kd = .live → ob.es = [(evalOf s.E x).cells] → ob.sz = (evalOf s.E x).cells.length → ((evalOf s.E x).one = true ∨ ∃ c, evalOf s.E x = .agg c) →
      res.upd = [(nr, [ob])] → res.val = .ref nr 0 0 0 → Fin P g s a w o res := by
    intro ob hk hes hsz hone hu hv
    obtain ⟨vs, e1, e2, e3, e4⟩ := hx.cellsOf hone
    refine fin_new (v := .pointer (some ⟨w.heap.size, 0, none⟩)) (c := (a.eval x).cells) (ty := t) h hnr hk ?_ hu ?_ ?_ ?_
    · simp [execOp, ho, Instr.box, newVar, newRow]
    · intro e he; rw [hes] at he; simp at he; rw [he, hsz]
    · intro j y hy
      rw [hes] at hy
      simp only [List.flatten_cons, List.flatten_nil, List.append_nil] at hy
      have hj : j < vs.length := by
        rcases Nat.lt_or_ge j (evalOf s.E x).cells.length with h' | h'
        · omega
        · rw [List.getElem?_eq_none h'] at hy; simp at hy
      refine ⟨vs[j], by rw [e1]; simp [hj], e3 j _ (List.getElem?_eq_getElem hj), e4 j y _ hy (List.getElem?_eq_getElem hj)⟩
    · intro w' ok' us' tb' hu' ht
      have := Rel.ref (w := w') (ok := ok') (i := 0) (off := 0) hu' ht
      rw [hv]; simpa using this
  split at hres
  · rename_i c hc
    simp only [Option.some.injEq] at hres
    subst hres
    exact key _ rfl (by rw [hc]; rfl) (by rw [hc]; rfl) (.inr ⟨c, hc⟩) rfl rfl
  · split at hres
    · rename_i hone
      simp only [Option.some.injEq] at hres
      subst hres
      have e : (evalOf s.E x).cells = [evalOf s.E x] := by
        generalize evalOf s.E x = y at hone
        cases y <;> first | rfl | simp [AV.one] at hone
      exact key _ rfl (by rw [e]) (by rw [e]; rfl) (.inl hone) rfl rfl
    · simp at hres

theorem tb_of {s : S} {φ : Plc} {r k : Nat} {ob : Ob} (h : s.ob r k = some ob) : s.tb φ r k = some (ob.sz, φ r k) := by simp [S.tb, h]

theorem obAt_ok {row : Option (List Ob)} {k : Nat} {ob : Ob} {o1 : List Prop} (h : obAt row k ans = some (ob, o1)) (hobs : ∀ p ∈ o1, p) : obIn row k = some ob := by
  unfold obAt at h
  split at h
  · split at h
    · simp at h; obtain ⟨rfl, rfl⟩ := h; exact hobs _ (by simp)
    · simp at h
  · split at h
    · rename_i h'; simp at h; obtain ⟨rfl, rfl⟩ := h; exact h'
    · simp at h

theorem elemAt_ok {es : List (List AV)} {i : Nat} {c : List AV} {o1 : List Prop} (h : elemAt es i ans = some (c, o1)) (hobs : ∀ p ∈ o1, p) : es[i]? = some c := by
  unfold elemAt at h
  split at h
  · simp at h; obtain ⟨rfl, rfl⟩ := h; exact hobs _ (by simp)
  · simp at h; obtain ⟨rfl, rfl⟩ := h; exact hobs _ (by simp)
  · split at h
    · rename_i h'; simp at h; obtain ⟨rfl, rfl⟩ := h; exact h'
    · simp at h

theorem op_load {t : TypeId} {x : Operand} (h : RelS g s φ a w) (ho : o.op = .load t x) (hres : opS P s.E s.R nr o ans = some res) (hobs : ∀ p ∈ res.obs, p) : Fin P g s a w o res := by
  simp only [opS, ho] at hres
  have hx := h.eval x
  split at hres
  · rename_i r k i off hev
    rw [hev] at hx
    split at hres
    · rename_i ob o1 hob
      split at hres
      · rename_i c o2 hel
        split at hres
        · rename_i v hv
          simp only [Option.some.injEq] at hres
          subst hres
          have hob' : s.ob r k = some ob := obAt_ok hob fun p hp => hobs p (by simp [hp])
          have hel' := elemAt_ok hel fun p hp => hobs p (by simp [hp])
          have hrel := h.obj r k ob hob'
          rcases hx.ref_inv (tb_of hob') with h0 | ⟨b, m, hp, hval⟩
          · rw [h0] at hrel
            simp only [ObRel] at hrel
            rw [hrel] at hel'; simp at hel'
          · rw [hp] at hrel
            obtain ⟨u, h1, h2⟩ := load_sound (P := P) hrel.rd hel' hv
            refine fin_pure (v := u) h ?_ rfl h2
            rw [Nat.zero_add] at h1
            simp [execOp, ho, hval, h1]
        · simp at hres
      · simp at hres
    · simp at hres
  · rename_i sz es i off hev
    rw [hev] at hx
    split at hres
    · rename_i c o2 hel
      split at hres
      · rename_i v hv
        simp only [Option.some.injEq] at hres
        subst hres
        have hel' := elemAt_ok hel fun p hp => hobs p (by simp [hp])
        obtain ⟨blk, o', hb, hval, hrd⟩ := hx.ipt_inv
        obtain ⟨u, h1, h2⟩ := load_sound (P := P) hrd hel' hv
        refine fin_pure (v := u) h ?_ rfl h2
        simp [execOp, ho, hval, h1]
      · simp at hres
    · simp at hres
  · simp at hres

end
end Go.VL
