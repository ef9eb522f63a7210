/- The runner's steps are sound: addresses, slices, makes. -/
import Derived.Test.YtiacejpdgjmdfabGreatVlF
import Derived.Laws.MakeOwn
namespace Go.VL
set_option linter.unusedVariables false
set_option linter.unusedSimpArgs false
open Go
section
variable {P : Program} {g : G} {s : S} {φ : Plc} {a : Act} {w : World} {o : Oper} {ans : Ans} {nr : Nat} {res : Res}

theorem elemT_eq {t e : TypeId} (h : elemT P t = some e) : P.underlying t = some (.slice e) := by
  unfold elemT at h
  split at h
  · rename_i e' he; simp at h; subst h; exact he
  · simp at h

theorem fieldsOf_eq {t : TypeId} {fs : Array Field} (h : fieldsOf P t = some fs) : P.underlying t = some (.struct fs) := by
  unfold fieldsOf at h
  split at h
  · rename_i e' he; simp at h; subst h; exact he
  · simp at h

theorem elemZl_length : ∀ (z c : List AV), (elemZl z c).length = z.length
  | x :: z, y :: c => by simp [elemZl, elemZl_length z c]
  | [], _ => by simp [elemZl]
  | _ :: _, [] => by simp [elemZl]

theorem elemZ_length (z : List AV) (ans : Ans) : (elemZ z ans).length = z.length := by
  unfold elemZ
  split
  · exact elemZl_length z _
  · rfl

theorem elemZ1_rel (x y : AV) {w : World} {ok : Nat → Prop} {us : Us} {tb : Tb} {v : Value} (h : Rel w ok us tb x v) : Rel w ok us tb (elemZ1 x y) v := by
  unfold elemZ1
  split
  · rw [h.nils_inv]; exact .isl0 _ _ _ (fun _ => rfl)
  · rw [h.nilp_inv]; exact .ipoN _
  · rw [h.nils_inv]; exact .hslN (.isl0 _ _ _ (fun _ => rfl))
  · exact h

theorem elemZl_at : ∀ (z c : List AV) (j : Nat) q, (elemZl z c)[j]? = some q → ∃ x, z[j]? = some x ∧ (q = x ∨ ∃ y, q = elemZ1 x y)
  | x :: z, y :: c, 0, q, h => by simp [elemZl] at h; exact ⟨x, rfl, .inr ⟨y, h.symm⟩⟩
  | x :: z, y :: c, j + 1, q, h => by
    simp only [elemZl, List.getElem?_cons_succ] at h
    simpa using elemZl_at z c j q h
  | [], c, j, q, h => by simp [elemZl] at h
  | x :: z, [], j, q, h => ⟨q, by simpa [elemZl] using h, .inl rfl⟩

theorem elemZ_at (z : List AV) (ans : Ans) (j : Nat) (q : AV) (h : (elemZ z ans)[j]? = some q) : ∃ x, z[j]? = some x ∧ (q = x ∨ ∃ y, q = elemZ1 x y) := by
  unfold elemZ at h
  split at h
  · exact elemZl_at z _ j q h
  · exact ⟨q, h, .inl rfl⟩

theorem op_makeSlice {t : TypeId} {x y : Operand} (h : RelS g s φ a w) (hnr : s.R nr = none) (ho : o.op = .makeSlice t x y) (hres : opS P s.E s.R nr o ans = some res) (hobs : ∀ p ∈ res.obs, p) : Fin P g s a w o res := by
  simp only [opS, ho] at hres
  have hx := h.eval x
  have hy := h.eval y
  split at hres
  · rename_i e k1 l k2 c he hev1 hev2
    rw [hev1] at hx; rw [hev2] at hy
    split at hres
    · rename_i i z hi hz
      obtain ⟨i', zv, hi', hzz, ez, hcell0⟩ := zero_cells hz
      rw [hi] at hi'; simp at hi'; subst hi'
      simp only [Option.ite_none_right_eq_some, Option.some.injEq] at hres
      obtain ⟨hsz, hres⟩ := hres
      subst hres
      have hel := elemZ_length z ans
      have hcell : ∀ (j : Nat) q, (elemZ z ans)[j]? = some q → ∃ v, zv.cells[j]? = some v ∧ VL.cellV v = true ∧ ∀ w ok us tb, Rel w ok us tb q v := by
        intro j q hq
        obtain ⟨x, hx', hq'⟩ := elemZ_at z ans j q hq
        obtain ⟨v, v1, v2, v3⟩ := hcell0 j x hx'
        refine ⟨v, v1, v2, fun w ok us tb => ?_⟩
        rcases hq' with rfl | ⟨y, rfl⟩
        · exact v3 w ok us tb
        · exact elemZ1_rel x y (v3 w ok us tb)
      clear hcell0
      have h0 : 0 ≤ l := hobs _ (by simp)
      have h1 : l ≤ c := hobs _ (by simp)
      have h2 : (i.bytes : Int) * c ≤ 281474976710656 := hobs _ (by simp)
      have h3 : c < 9223372036854775808 := hobs _ (by simp)
      have hzl : z.length = zv.cells.size := by rw [ez]; simp
      have hrun := run_make (P := P) w t e i zv (elemT_eq he) hi hzz k1 k2 l c h0 h1 h2 (by omega)
      refine fin_new (v := .slice (some ⟨w.heap.size, 0, none⟩) l.toNat c.toNat) (ob := ⟨z.length, List.replicate l.toNat (elemZ z ans), .live⟩) (c := madeCells zv.cells (c.toNat * i.size)) (ty := e) h hnr rfl ?_ rfl ?_ ?_ ?_
      · simp [execOp, ho, hx.n_inv, hy.n_inv, hrun]
      · intro e' he'; rw [List.eq_of_mem_replicate he']; exact hel
      · intro j q hq
        have hl : ∀ e' ∈ List.replicate l.toNat (elemZ z ans), e'.length = z.length := fun e' he' => by rw [List.eq_of_mem_replicate he']; exact hel
        rcases Nat.eq_zero_or_pos z.length with hz0 | hzp
        · have : elemZ z ans = [] := List.length_eq_zero_iff.1 (by omega)
          rw [this] at hq
          simp at hq
        · rw [flatten_idx hzp _ hl, List.getElem?_replicate] at hq
          by_cases hj : j / z.length < l.toNat
          · rw [if_pos hj] at hq
            simp only [Option.bind_some] at hq
            obtain ⟨v, e1, e2, e3⟩ := hcell _ _ hq
            refine ⟨v, ?_, e2, e3 _ _ _ _⟩
            have hlt : j < c.toNat * i.size := by
              rw [← hsz]
              have : j < l.toNat * z.length := (Nat.div_lt_iff_lt_mul hzp).1 hj
              exact Nat.lt_of_lt_of_le this (Nat.mul_le_mul_right _ (by omega))
            simp only [madeCells]
            rw [Array.getElem?_map, Array.getElem?_range]
            simp only [hlt, if_true, Option.map_some]
            rw [hzl] at e1
            have hm : j % zv.cells.size < zv.cells.size := Nat.mod_lt _ (by omega)
            rw [Array.getElem?_eq_getElem hm] at e1
            rw [getElem!_pos zv.cells _ hm]; exact e1
          · rw [if_neg hj] at hq; simp at hq
      · intro w' ok' us' tb' hu ht
        refine Rel.osl hu ht (by omega) (by omega) (.inr ⟨by simp, ?_⟩)
        rw [size_madeCells]
        simp only [Nat.zero_add, hsz]
    · simp at hres
  · simp at hres

theorem op_fieldAddr {t : TypeId} {x : Operand} {f : Nat} (h : RelS g s φ a w) (ho : o.op = .fieldAddr t x f) (hres : opS P s.E s.R nr o ans = some res) (hobs : ∀ p ∈ res.obs, p) : Fin P g s a w o res := by
  simp only [opS, ho] at hres
  have hx := h.eval x
  split at hres
  · rename_i fs hfs
    split at hres
    · rename_i fd hfd
      split at hres
      · simp at hres
      · rename_i hnz
        have hi : (P.info? fd.type).isSome = true := by
          cases hi : P.info? fd.type with
          | none => simp [Program.cellsOf, hi] at hnz
          | some i => rfl
        have hrun : ∀ A : Addr, A.spot = none → (Instr.fieldAt t (.pointer (some A)) f).run P w = .ok (.pointer (some ⟨A.block, A.off + fd.offset, none⟩)) w := by
          intro A hA
          have e : A.add fd.offset = ⟨A.block, A.off + fd.offset, none⟩ := by
            obtain ⟨b, o, sp⟩ := A
            simp only at hA; subst hA
            exact addr_add b o _
          simp [Instr.fieldAt, run_underlying (fieldsOf_eq hfs), hfd, Instr.sureAddr, fieldPlace, run_sizeOf' hi, hnz, e]
        split at hres
        · rename_i r k i off hev
          rw [hev] at hx
          split at hres
          · rename_i ob o1 hob
            split at hres
            · rename_i c o2 hel
              simp only [Option.some.injEq] at hres; subst hres
              have hob' : s.ob r k = some ob := obAt_ok hob fun p hp => hobs p (by simp [hp])
              have hel' := elemAt_ok hel fun p hp => hobs p (by simp [hp])
              have hrel := h.obj r k ob hob'
              rcases hx.ref_inv (tb_of hob') with h0 | ⟨b, m, hp, hval⟩
              · rw [h0] at hrel; simp only [ObRel] at hrel; rw [hrel] at hel'; simp at hel'
              · refine fin_pure (v := .pointer (some ⟨b, i * ob.sz + (off + fd.offset), none⟩)) h ?_ rfl ?_
                · simp [execOp, ho, hval, hrun, Nat.add_assoc]
                · exact hx.ref_shift ((tb_of hob').trans (by rw [hp])) _
            · simp at hres
          · simp at hres
        · rename_i sz es i off hev
          rw [hev] at hx
          simp only [Option.some.injEq] at hres; subst hres
          obtain ⟨blk, o', hb, hval, hrd⟩ := hx.ipt_inv
          refine fin_pure (v := .pointer (some ⟨blk, o' + (i * sz + (off + fd.offset)), none⟩)) h ?_ rfl (hrd.ipt hb)
          simp [execOp, ho, hval, hrun, Nat.add_assoc]
        · simp at hres
    · simp at hres
  · simp at hres

theorem op_indexAddr {t : TypeId} {x y : Operand} (h : RelS g s φ a w) (ho : o.op = .indexAddr t x y) (hres : opS P s.E s.R nr o ans = some res) (hobs : ∀ p ∈ res.obs, p) : Fin P g s a w o res := by
  simp only [opS, ho] at hres
  have hx := h.eval x
  have hy := h.eval y
  split at hres
  · rename_i e k j he hev
    rw [hev] at hy
    have hu := elemT_eq he
    have hrun : ∀ (b o len cap : Nat), 0 ≤ j → j < len → (P.info? e).isSome = true →
        (Instr.indexAt t (.slice (some ⟨b, o, none⟩) len cap) (.int k j)).run P w = .ok (.pointer (some ⟨b, o + j.toNat * P.cellsOf e, none⟩)) w := by
      intro b o len cap h0 h1 hi
      have e' := addr_add b o (j.toNat * P.cellsOf e)
      simp [Instr.indexAt, asIntOf, run_underlying hu, h0, h1, run_sizeOf' hi, e']
    have hinfo : ∀ sz, sz = P.cellsOf e → sz ≠ 0 → (P.info? e).isSome = true := by
      intro sz hs hz
      cases hi : P.info? e with
      | none => simp [Program.cellsOf, hi] at hs; exact absurd hs hz
      | some i => rfl
    split at hres
    · rename_i sz es hevx
      rw [hevx] at hx
      simp only [Option.ite_none_right_eq_some, Option.some.injEq] at hres
      obtain ⟨⟨hs, hz⟩, hres⟩ := hres
      subst hres
      have h0 : 0 ≤ j := hobs _ (by simp)
      have h1 : j < es.length := hobs _ (by simp)
      rcases hx.isl_inv with ⟨he0, -⟩ | ⟨blk, off, c, hb, hval, hc, hrd⟩
      · subst he0; simp at h1; omega
      · refine fin_pure (v := .pointer (some ⟨blk, off + (j.toNat * sz + 0), none⟩)) h ?_ rfl (hrd.ipt hb)
        simp [execOp, ho, hval, hy.n_inv, hrun _ _ _ _ h0 h1 (hinfo sz hs hz), hs]
    · rename_i r q lo len hevx
      rw [hevx] at hx
      split at hres
      · rename_i row hrow
        split at hres
        · rename_i ob o1 hob
          simp only [Option.ite_none_right_eq_some, Option.some.injEq] at hres
          obtain ⟨⟨hs, hz⟩, hres⟩ := hres
          subst hres
          have hob' : s.ob r q = some ob := by
            unfold S.ob; rw [hrow]; exact obAt_ok hob fun p hp => hobs p (by simp [hp])
          have h0 : 0 ≤ j := hobs _ (by simp)
          have h1 : j < len := hobs _ (by simp)
          rcases hx.osl_inv (tb_of hob') with ⟨-, -, h2, -⟩ | ⟨b, m, A, c, hp, hval, hl, -, hm⟩
          · subst h2; simp at h1; omega
          · rcases hm with hm | ⟨hA, hm⟩
            · omega
            · subst hA
              have hus := us_of_ob hob'
              refine fin_pure (v := .pointer (some ⟨b, (lo + j.toNat) * ob.sz + 0, none⟩)) h ?_ rfl (.ref hus ((tb_of hob').trans (by rw [hp])))
              simp [execOp, ho, hval, hy.n_inv, hrun _ _ _ _ h0 h1 (hinfo _ hs hz), hs, Nat.add_mul]
        · simp at hres
      · simp at hres
    · simp at hres
  · simp at hres

theorem op_index {t : TypeId} {x y : Operand} (h : RelS g s φ a w) (ho : o.op = .index t x y) (hres : opS P s.E s.R nr o ans = some res) (hobs : ∀ p ∈ res.obs, p) : Fin P g s a w o res := by
  simp only [opS, ho] at hres
  have hx := h.eval x
  have hy := h.eval y
  split at hres
  · rename_i b k j hu hevx hevy
    rw [hevx] at hx; rw [hevy] at hy
    simp only [Option.some.injEq] at hres; subst hres
    have h0 : 0 ≤ j := hobs _ (by simp)
    have h1 : j < b.size := hobs _ (by simp)
    have h2 : j.toNat < b.size := by omega
    refine fin_pure (v := .int .u8 (b[j.toNat]).toNat) h ?_ rfl ?_
    · simp [execOp, ho, hx.s_inv, hy.n_inv, Instr.index, asIntOf, run_underlying hu, h0, h2]
    · have e : b.data.toList.getD j.toNat 0 = b[j.toNat] := by
        rw [List.getD_eq_getElem?_getD, Array.getElem?_toList, Array.getElem?_eq_getElem (by simpa using h2)]; rfl
      show Rel _ _ _ _ (.n .u8 _) _
      rw [e]; exact .n _ _
  · simp at hres

theorem op_len {c : Call} (h : RelS g s φ a w) (ho : o.op = .call c) (hc : c.callee = .builtin .len) (hres : opS P s.E s.R nr o ans = some res) (hobs : ∀ p ∈ res.obs, p) : Fin P g s a w o res := by
  obtain ⟨cal, args, ats⟩ := c
  simp only at hc; subst hc
  simp only [opS, ho] at hres
  have key : ∀ (x : Operand) (n : Nat) (t : TypeId) (v : Value), args.toList = [x] → ats = #[t] → res.val = .n .i64 n → res.upd = [] → a.eval x = v →
      (Builtin.len_ #[t] o.type #[v]).run P w = .ok (goInt n) w → Fin P g s a w o res := by
    intro x n t v hargs hat hr hr' hv hrun
    subst hat
    refine fin_pure (v := goInt n) h ?_ hr' (by rw [hr]; exact .n _ _)
    have ha : args = #[x] := by apply Array.ext'; simpa using hargs
    subst ha
    simp [execOp, ho, resolve, invoke, builtin, hv, hrun]
  have hargs : ∀ y, args.toList.map (evalOf s.E) = [y] → ∃ x, args.toList = [x] ∧ evalOf s.E x = y := by
    intro y hy
    match hl : args.toList, hy with
    | [x], hy => simp at hy; exact ⟨x, rfl, hy⟩
  have hats : decide (ats.size = 1) = true → ∃ t, ats = #[t] ∧ ats.getD 0 0 = t := by
    intro hsz
    have hsz : ats.size = 1 := by simpa using hsz
    obtain ⟨l⟩ := ats
    match l, hsz with
    | [t], _ => exact ⟨t, rfl, rfl⟩
  split at hres
  · rename_i sz es e hm hu hsz
    obtain ⟨x, hx, hev⟩ := hargs _ hm
    obtain ⟨t, ht, ht'⟩ := hats hsz
    rw [ht'] at hu
    simp only [Option.some.injEq] at hres
    have hr := h.eval x
    rw [hev] at hr
    rcases hr.isl_inv with ⟨he0, A, c, hval, hA⟩ | ⟨blk, off, c, hb, hval, -⟩
    · exact key x es.length t _ hx ht (by rw [← hres]) (by rw [← hres]) hval (by subst he0; simp [Builtin.len_, run_underlying hu])
    · exact key x es.length t _ hx ht (by rw [← hres]) (by rw [← hres]) hval (by simp [Builtin.len_, run_underlying hu])
  · rename_i r k lo len e hm hu hsz
    obtain ⟨x, hx, hev⟩ := hargs _ hm
    obtain ⟨t, ht, ht'⟩ := hats hsz
    rw [ht'] at hu
    split at hres
    · rename_i row hrow
      split at hres
      · rename_i ob o1 hob
        simp only [Option.some.injEq] at hres
        have hr := h.eval x
        rw [hev] at hr
        have hob' : s.ob r k = some ob := by
          unfold S.ob; rw [hrow]; exact obAt_ok hob fun p hp => hobs p (by rw [← hres]; exact hp)
        rcases hr.osl_inv (tb_of hob') with ⟨-, -, h2, hval⟩ | ⟨b, m, A, c, hp, hval, -⟩
        · exact key x len t _ hx ht (by rw [← hres]) (by rw [← hres]) hval (by subst h2; simp [Builtin.len_, run_underlying hu])
        · exact key x len t _ hx ht (by rw [← hres]) (by rw [← hres]) hval (by simp [Builtin.len_, run_underlying hu])
      · simp at hres
    · simp at hres
  · rename_i e hm hu hsz
    obtain ⟨x, hx, hev⟩ := hargs _ hm
    obtain ⟨t, ht, ht'⟩ := hats hsz
    rw [ht'] at hu
    simp only [Option.some.injEq] at hres
    have hr := h.eval x
    rw [hev] at hr
    exact key x 0 t _ hx ht (by rw [← hres]; rfl) (by rw [← hres]) hr.nils_inv (by simp [Builtin.len_, run_underlying hu])
  · rename_i b hm hu hsz
    obtain ⟨x, hx, hev⟩ := hargs _ hm
    obtain ⟨t, ht, ht'⟩ := hats hsz
    rw [ht'] at hu
    simp only [Option.some.injEq] at hres
    have hr := h.eval x
    rw [hev] at hr
    exact key x b.size t _ hx ht (by rw [← hres]) (by rw [← hres]) hr.s_inv (by simp [Builtin.len_, run_underlying hu])
  · simp at hres

/-! ### Slices of slices and strings -/

theorem take_drop_rd {ok : Nat → Prop} {us : Us} {tb : Tb} {blk off sz : Nat} {es : List (List AV)} (h : Rd w ok us tb blk off sz es) (l n : Nat) (hl : l ≤ es.length) :
    Rd w ok us tb blk (off + l * sz) sz ((es.drop l).take n) := by
  have hmem : ∀ e ∈ (es.drop l).take n, e.length = sz := fun e he => h.1 e (List.mem_of_mem_drop (List.mem_of_mem_take he))
  refine ⟨hmem, fun j x hx => ?_⟩
  rcases Nat.eq_zero_or_pos sz with h0 | hs
  · have e1 : ∀ (l : List (List AV)), (∀ e ∈ l, e.length = 0) → l.flatten = [] := by
      intro l hl; induction l with
      | nil => rfl
      | cons a l ih => rw [List.flatten_cons, ih fun e he => hl e (by simp [he])]; have := hl a (by simp); simp_all
    rw [e1 _ (fun e he => (hmem e he).trans h0)] at hx; simp at hx
  · rw [flatten_idx hs _ hmem] at hx
    have hj : j / sz < n := by
      rcases Nat.lt_or_ge (j / sz) n with h' | h'
      · exact h'
      · rw [List.getElem?_eq_none (by simp; omega)] at hx; simp at hx
    rw [List.getElem?_take, if_pos hj, List.getElem?_drop] at hx
    obtain ⟨v, e1, e2, e3⟩ := h.2 (l * sz + j) x (by
      rw [flatten_idx hs es h.1]
      have a1 : (l * sz + j) / sz = l + j / sz := by rw [Nat.mul_comm, Nat.mul_add_div hs]
      have a2 : (l * sz + j) % sz = j % sz := by rw [Nat.mul_comm, Nat.mul_add_mod]
      rw [a1, a2]; exact hx)
    exact ⟨v, by rw [Nat.add_assoc]; exact e1, e2, e3⟩

/-- The value of a slice expression. -/
theorem run_slice_opt {t e : TypeId} (hu : P.underlying t = some (.slice e)) (hi : (P.info? e).isSome = true) (A : Option Addr) (len cap : Nat) (lo hi' : Option Value) (l h : Nat)
    (hlo : (lo = none ∧ l = 0) ∨ ∃ k, lo = some (.int k l)) (hhi : (hi' = none ∧ h = len) ∨ ∃ k, hi' = some (.int k h)) (h1 : l ≤ h) (h2 : h ≤ len) (h3 : len ≤ cap) :
    (Instr.sliceAt t (.slice A len cap) lo hi' none).run P w = .ok (.slice (if cap = l then A else A.map (·.add (l * P.cellsOf e))) (h - l) (cap - l)) w := by
  have hb : ∀ (k : IntKind) (n y : Nat) (code : BoundsCode), n ≤ y → (Instr.sliceBound (.int k n) y code).run P w = .ok n w := by
    intro k n y code hn
    simp [Instr.sliceBound, asIntOf, hn]
  rcases hlo with ⟨rfl, rfl⟩ | ⟨k1, rfl⟩ <;> rcases hhi with ⟨rfl, rfl⟩ | ⟨k2, rfl⟩ <;>
    simp [Instr.sliceAt, Instr.slice, run_underlying hu, Instr.sliceBounds, run_sizeOf' hi, hb, h1, h2, h3, Nat.le_trans h2 h3]

theorem bnd_ok {x : Option Operand} (h : RelS g s φ a w) {d n : Nat} {ob : List Prop} (hb : bnd (x.map (evalOf s.E)) d = some (n, ob)) (hobs : ∀ p ∈ ob, p) :
    (x.map a.eval = none ∧ n = d) ∨ ∃ k, x.map a.eval = some (.int k n) := by
  cases x with
  | none => simp [bnd] at hb; exact .inl ⟨rfl, hb.1.symm⟩
  | some x =>
    have hx := h.eval x
    simp only [Option.map_some] at hb ⊢
    unfold bnd at hb
    split at hb
    · rename_i he; simp at he
    · rename_i _ k y he
      simp only [Option.some.injEq] at he
      rw [he] at hx
      simp only [Option.some.injEq, Prod.mk.injEq] at hb
      obtain ⟨rfl, rfl⟩ := hb
      have h0 : 0 ≤ y := hobs _ (by simp)
      refine .inr ⟨k, ?_⟩
      rw [hx.n_inv, Int.toNat_of_nonneg h0]
    · simp at hb

theorem op_slice {t : TypeId} {x : Operand} {lo hi : Option Operand} (h : RelS g s φ a w) (ho : o.op = .slice t x lo hi none) (hres : opS P s.E s.R nr o ans = some res) (hobs : ∀ p ∈ res.obs, p) : Fin P g s a w o res := by
  simp only [opS, ho] at hres
  have hx := h.eval x
  have hinfo : ∀ sz e, sz = P.cellsOf e → sz ≠ 0 → (P.info? e).isSome = true := by
    intro sz e hs hz
    cases hi : P.info? e with
    | none => simp [Program.cellsOf, hi] at hs; exact absurd hs hz
    | some i => rfl
  split at hres
  · rename_i e sz es hu hev
    rw [hev] at hx
    split at hres
    · rename_i l o1 n o2 hl hn
      simp only [Option.ite_none_right_eq_some, Option.some.injEq] at hres
      obtain ⟨⟨hs, hz⟩, hres⟩ := hres
      subst hres
      have b1 := bnd_ok h hl fun p hp => hobs p (by simp [hp])
      have b2 := bnd_ok h hn fun p hp => hobs p (by simp [hp])
      have h1 : l ≤ n := hobs _ (by simp)
      have h2 : n ≤ es.length := hobs _ (by simp)
      rcases hx.isl_inv with ⟨he0, A, c, hval, hA⟩ | ⟨blk, off, c, hb, hval, hc, hrd⟩
      · subst he0
        have hn0 : n = 0 := by simpa using h2
        subst hn0
        have hl0 : l = 0 := by omega
        subst hl0
        refine fin_pure (v := .slice (if c = 0 then A else A.map (·.add (0 * P.cellsOf e))) (0 - 0) (c - 0)) h ?_ rfl ?_
        · have := run_slice_opt (w := w) hu (hinfo sz e hs hz) A 0 c (lo.map a.eval) (hi.map a.eval) 0 0 b1 b2 (Nat.le_refl _) (Nat.le_refl _) (Nat.zero_le _)
          simp only [execOp, ho, hval]
          simp only [Option.map_none, Sem.run_bind, this]; rfl
        · refine .isl0 sz _ _ fun hn => ?_
          split at hn
          · rename_i hc0; omega
          · have := hA (by simpa using hn)
            omega
      · have hlen : ((es.drop l).take (n - l)).length = n - l := by simp; omega
        refine fin_pure (v := .slice (if c = l then some ⟨blk, off, none⟩ else (some (⟨blk, off, none⟩ : Addr)).map (·.add (l * P.cellsOf e))) (n - l) (c - l)) h ?_ rfl ?_
        · have := run_slice_opt (w := w) hu (hinfo sz e hs hz) (some ⟨blk, off, none⟩) es.length c (lo.map a.eval) (hi.map a.eval) l n b1 b2 h1 h2 hc
          simp only [execOp, ho, hval]
          simp only [Option.map_none, Sem.run_bind, this]; rfl
        · by_cases hcl : c = l
          · have : n - l = 0 := by omega
            rw [this]
            show Rel _ _ _ _ (.isl sz ((es.drop l).take 0)) _
            rw [List.take_zero]
            exact .isl0 sz _ _ (fun _ => by omega)
          · rw [if_neg hcl]
            simp only [Option.map_some, addr_add, ← hs]
            have hr := (take_drop_rd hrd l (n - l) (by omega)).isl (c := c - l) ⟨hb.1, fun e he => hb.2 e (List.mem_of_mem_drop (List.mem_of_mem_take he))⟩ (by rw [hlen]; omega)
            rw [hlen] at hr
            exact hr
    · simp at hres
  · rename_i e r k l0 len hu hev
    rw [hev] at hx
    split at hres
    · simp at hres
    · rename_i row hrow
      split at hres
      · simp at hres
      · rename_i ob oo hob
        split at hres
        · rename_i l o1 n o2 hl hn
          simp only [Option.ite_none_right_eq_some, Option.some.injEq] at hres
          obtain ⟨⟨hs, hz⟩, hres⟩ := hres
          subst hres
          have hob' : s.ob r k = some ob := by
            unfold S.ob; rw [hrow]; exact obAt_ok hob fun p hp => hobs p (by simp [hp])
          have b1 := bnd_ok h hl fun p hp => hobs p (by simp [hp])
          have b2 := bnd_ok h hn fun p hp => hobs p (by simp [hp])
          have h1 : l ≤ n := hobs _ (by simp)
          have h2 : n ≤ len := hobs _ (by simp)
          have hus := us_of_ob hob'
          rcases hx.osl_inv (tb_of hob') with ⟨hp, rfl, rfl, hval⟩ | ⟨b, m, A, c, hp, hval, hlc, hc9, hm⟩
          · have hn0 : n = 0 := by omega
            subst hn0
            have hl0 : l = 0 := by omega
            subst hl0
            refine fin_pure (v := .slice none 0 0) h ?_ rfl (.oslVirt hus ((tb_of hob').trans (by rw [hp])))
            have := run_slice_opt (w := w) hu (hinfo _ e hs hz) none 0 0 (lo.map a.eval) (hi.map a.eval) 0 0 b1 b2 (Nat.le_refl _) (Nat.le_refl _) (Nat.le_refl _)
            simp only [execOp, ho, hval]
            simp only [Option.map_none, Sem.run_bind, this]; rfl
          · refine fin_pure (v := .slice (if c = l then A else A.map (·.add (l * P.cellsOf e))) (n - l) (c - l)) h ?_ rfl ?_
            · have := run_slice_opt (w := w) hu (hinfo _ e hs hz) A len c (lo.map a.eval) (hi.map a.eval) l n b1 b2 h1 h2 hlc
              simp only [execOp, ho, hval]
              simp only [Option.map_none, Sem.run_bind, this]; rfl
            · refine Rel.osl hus ((tb_of hob').trans (by rw [hp])) (by omega) (by omega) ?_
              by_cases hcl : c = l
              · exact .inl (by omega)
              · rcases hm with hm | ⟨hA, hm⟩
                · exact .inl (by omega)
                · refine .inr ⟨?_, ?_⟩
                  · rw [if_neg hcl, hA]
                    simp only [Option.map_some, addr_add, ← hs, Nat.add_mul]
                  · rw [← hm]; congr 1; omega
        · simp at hres
  · rename_i b hu hev
    rw [hev] at hx
    split at hres
    · rename_i l o1 n o2 hl hn
      simp only [Option.some.injEq] at hres
      subst hres
      have b1 := bnd_ok h hl fun p hp => hobs p (by simp [hp])
      have b2 := bnd_ok h hn fun p hp => hobs p (by simp [hp])
      have h1 : l ≤ n := hobs _ (by simp)
      have h2 : n ≤ b.size := hobs _ (by simp)
      refine fin_pure (v := .string (b.extract l n)) h ?_ rfl (.s _)
      have hb : ∀ (k : IntKind) (n y : Nat) (code : BoundsCode), n ≤ y → (Instr.sliceBound (.int k n) y code).run P w = .ok n w := by
        intro k n y code hn
        simp [Instr.sliceBound, asIntOf, hn]
      simp only [execOp, ho, hx.s_inv, Option.map_none]
      rcases b1 with ⟨e1, rfl⟩ | ⟨k1, e1⟩ <;> rcases b2 with ⟨e2, rfl⟩ | ⟨k2, e2⟩ <;> rw [e1, e2] <;>
        simp [Instr.sliceAt, Instr.slice, run_underlying hu, Instr.sliceBounds, hb, h1, h2]
    · simp at hres
  · simp at hres

end
end Go.VL
