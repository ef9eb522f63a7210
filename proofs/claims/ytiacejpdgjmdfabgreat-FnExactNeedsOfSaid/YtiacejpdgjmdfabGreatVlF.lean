/- The runner's steps are sound: stores, arithmetic, addresses, slices. -/
import Derived.Test.YtiacejpdgjmdfabGreatVlE
import Derived.Laws.BytesString
namespace Go.VL
set_option linter.unusedVariables false
set_option linter.unusedSimpArgs false
open Go
section
variable {P : Program} {g : G} {s : S} {φ : Plc} {a : Act} {w : World} {o : Oper} {ans : Ans} {nr : Nat} {res : Res}

theorem fin_store (h : RelS g s φ a w) {r k i off : Nat} {row : List Ob} {ob : Ob} {c : List AV} {t : TypeId} {x y : Operand} (ho : o.op = .store t x y)
    (hev : evalOf s.E x = .ref r k i off) (hrow : s.R r = some row) (hob : s.ob r k = some ob) (hk : ob.kd = .live) (hel : ob.es[i]? = some c)
    (hone : (evalOf s.E y).one = true ∨ ∃ c, evalOf s.E y = .agg c) (hsz : (evalOf s.E y).cells.length = P.cellsOf t) (hti : (P.info? t).isSome = true)
    (hfit : off + (evalOf s.E y).cells.length ≤ c.length) (hres : res.val = .dead) (hu : res.upd = [(r, row.set k { ob with es := ob.es.set i (setCells c off (evalOf s.E y).cells) })]) : Fin P g s a w o res := by
  have hx := h.eval x
  rw [hev] at hx
  have hrel := h.obj r k ob hob
  rcases hx.ref_inv (tb_of hob) with h0 | ⟨b, m, hp, hval⟩
  · rw [h0] at hrel; simp only [ObRel] at hrel; rw [hrel] at hel; simp at hel
  · obtain ⟨w', h1, h2⟩ := store_sound (P := P) h hrow hob hk hp hel hti (h.eval y) hone hsz hfit
    refine ⟨undef, w', φ, .inr ⟨?_, rfl⟩, by rw [hu]; exact h2, by rw [hres]; exact .dead _⟩
    simp [execOp, ho, hval, h1]

theorem op_store {t : TypeId} {x y : Operand} (h : RelS g s φ a w) (ho : o.op = .store t x y) (hres : opS P s.E s.R nr o ans = some res) (hobs : ∀ p ∈ res.obs, p) : Fin P g s a w o res := by
  simp only [opS, ho] at hres
  split at hres
  · rename_i r k i off hev
    split at hres
    · simp at hres
    · rename_i row hrow
      split at hres
      · rename_i ob o1 hoba
        split at hres
        · simp at hres
        · rename_i hk
          have hk : ob.kd = .live := by simpa using hk
          split at hres
          · simp at hres
          · rename_i hone
            have hone := AV.cellable_or (by simpa using hone)
            split at hres
            · simp at hres
            · rename_i hsz
              simp only [not_or, Decidable.not_not, Bool.not_eq_false] at hsz
              have hob' : (∀ p ∈ o1, p) → s.ob r k = some ob := fun ha => by
                have := obAt_ok hoba ha
                unfold S.ob; rw [hrow]; exact this
              split at hres
              · split at hres
                · rename_i hoff
                  simp only [Option.some.injEq] at hres
                  subst hres; subst hoff
                  have hlt : i < ob.es.length := hobs _ (by simp)
                  have hcl : (evalOf s.E y).cells.length = ob.sz := hobs _ (by simp)
                  have hob2 := hob' fun p hp => hobs p (by simp [hp])
                  have hlen : (ob.es[i]).length = ob.sz := by
                    have hrel := h.obj r k ob hob2
                    cases hp : φ r k with
                    | none => rw [hp] at hrel; simp only [ObRel] at hrel; rw [hrel] at hlt; simp at hlt
                    | some q =>
                      rw [hp] at hrel
                      obtain ⟨_, _, _, _, h3, _⟩ := hrel
                      exact h3 _ (List.getElem_mem hlt)
                  refine fin_store h ho hev hrow hob2 hk (c := ob.es[i]) (List.getElem?_eq_getElem hlt) hone hsz.1 hsz.2 (by omega) rfl ?_
                  have e : setCells ob.es[i] 0 (evalOf s.E y).cells = (evalOf s.E y).cells := by
                    simp [setCells, hlen, hcl]
                  rw [e]
                · simp at hres
              · split at hres
                · rename_i c o2 hel
                  split at hres
                  · rename_i hfit
                    simp only [Option.some.injEq] at hres
                    subst hres
                    exact fin_store h ho hev hrow (hob' fun p hp => hobs p (by simp [hp])) hk (elemAt_ok hel fun p hp => hobs p (by simp [hp])) hone hsz.1 hsz.2 hfit rfl rfl
                  · simp at hres
                · simp at hres
      · simp at hres
  · simp at hres

theorem op_nilCheck {x : Operand} (h : RelS g s φ a w) (ho : o.op = .nilCheck x) (hres : opS P s.E s.R nr o ans = some res) (hobs : ∀ p ∈ res.obs, p) : Fin P g s a w o res := by
  simp only [opS, ho] at hres
  have hx := h.eval x
  split at hres
  · rename_i r k i off hev
    rw [hev] at hx
    split at hres
    · rename_i ob o1 hob
      split at hres
      · rename_i c o2 hel
        simp only [Option.some.injEq] at hres
        subst hres
        have hob' : s.ob r k = some ob := obAt_ok hob fun p hp => hobs p (by simp [hp])
        have hel' := elemAt_ok hel fun p hp => hobs p (by simp [hp])
        have hrel := h.obj r k ob hob'
        rcases hx.ref_inv (tb_of hob') with h0 | ⟨b, m, hp, hval⟩
        · rw [h0] at hrel; simp only [ObRel] at hrel; rw [hrel] at hel'; simp at hel'
        · refine fin_pure (v := a.eval x) h ?_ rfl hx
          simp [execOp, ho, hval]
      · simp at hres
    · simp at hres
  · rename_i sz es i off hev
    rw [hev] at hx
    simp only [Option.some.injEq] at hres
    subst hres
    obtain ⟨blk, o', hb, hval, hrd⟩ := hx.ipt_inv
    refine fin_pure (v := a.eval x) h ?_ rfl hx
    simp [execOp, ho, hval]
  · rename_i f c hev
    rw [hev] at hx
    simp only [Option.some.injEq] at hres
    subst hres
    obtain ⟨vs, hval, -⟩ := hx.fn_inv
    refine fin_pure (v := a.eval x) h ?_ rfl hx
    simp [execOp, ho, hval]
  · simp at hres

theorem bin_sound {op : BinOp} {t : TypeId} {x y : AV} {z : AV} {ob : List Prop} (hres : binS op x y = some (z, ob)) (hobs : ∀ p ∈ ob, p)
    {ok : Nat → Prop} {us : Us} {tb : Tb} {vx vy : Value} (hx : Rel w ok us tb x vx) (hy : Rel w ok us tb y vy) (p q : Operand) :
    ∃ v, ((do eqGuard op t p q vx vy; binOp op t vx vy) : Sem Value).run P w = .ok v w ∧ Rel w ok us tb z v := by
  unfold binS at hres
  split at hres
  · rename_i k n k' n'
    have ex := hx.n_inv; have ey := hy.n_inv
    subst ex; subst ey
    have hg : ∀ op, eqGuard op t p q (.int k n) (.int k' n') = pure () := fun op => eqGuard_at_int ..
    simp only [Sem.run_bind, hg, Sem.run_pure, Result.andThen_ok]
    split at hres
    · simp only [Option.some.injEq, Prod.mk.injEq] at hres
      obtain ⟨rfl, rfl⟩ := hres
      have h0 : 0 ≤ n' := hobs _ (by simp)
      exact ⟨_, by simp [binOp, Op.shift, show ¬ n' < 0 by omega], .n _ _⟩
    · simp only [Option.some.injEq, Prod.mk.injEq] at hres
      obtain ⟨rfl, rfl⟩ := hres
      have h0 : 0 ≤ n' := hobs _ (by simp)
      exact ⟨_, by simp [binOp, Op.shift, show ¬ n' < 0 by omega], .n _ _⟩
    · split at hres
      · simp at hres
      · rename_i hk
        have hk : k = k' := by simpa using hk
        subst hk
        split at hres <;> simp only [Option.some.injEq, Prod.mk.injEq, reduceCtorEq] at hres
        all_goals (obtain ⟨rfl, rfl⟩ := hres)
        case h_4 | h_5 =>
          have h0 : n' ≠ 0 := hobs _ (by simp)
          exact ⟨_, by simp [binOp, Op.intDiv, h0], .n _ _⟩
        all_goals first
          | (refine ⟨_, ?_, .n _ _⟩; rw [binOp_add]; rfl)
          | (refine ⟨_, ?_, .n _ _⟩; rw [binOp_sub]; rfl)
          | (refine ⟨_, ?_, .n _ _⟩; rw [binOp_mul]; rfl)
          | (refine ⟨_, ?_, .n _ _⟩; rw [binOp_and]; rfl)
          | (refine ⟨_, ?_, .n _ _⟩; rw [binOp_or]; rfl)
          | (refine ⟨_, ?_, .n _ _⟩; rw [binOp_xor]; rfl)
          | (refine ⟨_, ?_, .b _⟩; simp [binOp, Op.intCmp]; done)
  · rename_i x' y'
    have ex := hx.s_inv; have ey := hy.s_inv
    subst ex; subst ey
    have hg : ∀ op, eqGuard op t p q (.string x') (.string y') = pure () := fun op => eqGuard_at_string ..
    simp only [Sem.run_bind, hg, Sem.run_pure, Result.andThen_ok]
    split at hres <;> simp only [Option.some.injEq, Prod.mk.injEq, reduceCtorEq] at hres
    all_goals (obtain ⟨rfl, rfl⟩ := hres)
    · have h0 : x'.size + y'.size < 9223372036854775808 := hobs _ (by simp)
      refine ⟨_, ?_, .s _⟩
      have h1 : ¬ ((x'.size + y'.size : Nat) : Int) > IntKind.i64.max := by rw [IntKind.max_i64]; omega
      rw [IntKind.max_i64] at h1
      simp [binOp, Op.stringOp]
      omega
    · exact ⟨_, by simp [binOp, Op.stringOp], .b _⟩
    · exact ⟨_, by simp [binOp, Op.stringOp], .b _⟩
  · simp at hres

theorem equal_succ (t : TypeId) (x y : Value) : Op.equal t x y = Op.equalIn (9999 + 1) t x y := rfl

theorem equalIn_bool {t : TypeId} {a b : Bool} (d : Nat) (hd : P.underlying t = some .bool) : (Op.equalIn (d + 1) t (.bool a) (.bool b)).run P w = .ok (a == b) w := by
  unfold Op.equalIn; simp [run_underlying hd]
theorem equalIn_nn {t e : TypeId} (d : Nat) (hd : P.underlying t = some (.pointer e)) : (Op.equalIn (d + 1) t (.pointer none) (.pointer none)).run P w = .ok true w := by
  unfold Op.equalIn; simp [run_underlying hd]
theorem equalIn_pn {t e : TypeId} {a : Addr} (d : Nat) (hd : P.underlying t = some (.pointer e)) : (Op.equalIn (d + 1) t (.pointer (some a)) (.pointer none)).run P w = .ok false w := by
  unfold Op.equalIn; simp [run_underlying hd]
theorem equalIn_np {t e : TypeId} {a : Addr} (d : Nat) (hd : P.underlying t = some (.pointer e)) : (Op.equalIn (d + 1) t (.pointer none) (.pointer (some a))).run P w = .ok false w := by
  unfold Op.equalIn; simp [run_underlying hd]
theorem equalIn_ss {t e : TypeId} (d : Nat) (hd : P.underlying t = some (.slice e)) : (Op.equalIn (d + 1) t (.slice none 0 0) (.slice none 0 0)).run P w = .ok true w := by
  unfold Op.equalIn; simp [run_underlying hd]

theorem equalIn_as {t e : TypeId} {a : Addr} {c : Nat} (d : Nat) (hd : P.underlying t = some (.slice e)) (n : Nat) : (Op.equalIn (d + 1) t (.slice (some a) n c) (.slice none 0 0)).run P w = .ok false w := by
  unfold Op.equalIn; simp [run_underlying hd]

theorem eq_sound {t : TypeId} {x y : AV} {r : Bool} (hres : eqS P t x y = some r)
    {ok : Nat → Prop} {us : Us} {tb : Tb} {vx vy : Value} (hx : Rel w ok us tb x vx) (hy : Rel w ok us tb y vy) (p q : Operand) :
    ((do eqGuard .eql t p q vx vy; binOp .eql t vx vy) : Sem Value).run P w = .ok (.bool r) w ∧
    ((do eqGuard .neq t p q vx vy; binOp .neq t vx vy) : Sem Value).run P w = .ok (.bool !r) w := by
  have key : ∀ b : Bool, (∀ op, eqGuard op t p q vx vy = pure ()) → binOp .eql t vx vy = (do pure (.bool (← Op.equal t vx vy))) → binOp .neq t vx vy = (do pure (.bool (!(← Op.equal t vx vy)))) →
      (Op.equal t vx vy).run P w = .ok b w → ((do eqGuard .eql t p q vx vy; binOp .eql t vx vy) : Sem Value).run P w = .ok (.bool b) w ∧
      ((do eqGuard .neq t p q vx vy; binOp .neq t vx vy) : Sem Value).run P w = .ok (.bool !b) w := by
    intro b hg h1 h2 h3
    constructor
    · rw [hg, h1]; simp [h3]
    · rw [hg, h2]; simp [h3]
  unfold eqS at hres
  split at hres
  · rename_i x' y' hd
    simp only [Option.some.injEq] at hres; subst hres
    have ex := hx.b_inv; have ey := hy.b_inv
    subst ex; subst ey
    exact key _ (fun op => eqGuard_at_bool ..) rfl rfl (by rw [equal_succ]; first | exact equalIn_bool _ hd | exact equalIn_nn _ hd | exact equalIn_pn _ hd | exact equalIn_np _ hd | exact equalIn_ss _ hd)
  · rename_i e hd
    simp only [Option.some.injEq] at hres; subst hres
    have ex := hx.nilp_inv; have ey := hy.nilp_inv
    subst ex; subst ey
    exact key _ (fun op => eqGuard_at_pointer ..) rfl rfl (by rw [equal_succ]; first | exact equalIn_bool _ hd | exact equalIn_nn _ hd | exact equalIn_pn _ hd | exact equalIn_np _ hd | exact equalIn_ss _ hd)
  · rename_i e sz es i off hd
    simp only [Option.some.injEq] at hres; subst hres
    obtain ⟨blk, o', -, ex, -⟩ := hx.ipt_inv
    have ey := hy.nilp_inv
    subst ex; subst ey
    exact key _ (fun op => eqGuard_at_pointer ..) rfl rfl (by rw [equal_succ]; first | exact equalIn_bool _ hd | exact equalIn_nn _ hd | exact equalIn_pn _ hd | exact equalIn_np _ hd | exact equalIn_ss _ hd)
  · rename_i e sz es i off hd
    simp only [Option.some.injEq] at hres; subst hres
    obtain ⟨blk, o', -, ey, -⟩ := hy.ipt_inv
    have ex := hx.nilp_inv
    subst ex; subst ey
    exact key _ (fun op => eqGuard_at_pointer ..) rfl rfl (by rw [equal_succ]; first | exact equalIn_bool _ hd | exact equalIn_nn _ hd | exact equalIn_pn _ hd | exact equalIn_np _ hd | exact equalIn_ss _ hd)
  · rename_i e hd
    simp only [Option.some.injEq] at hres; subst hres
    have ex := hx.nils_inv; have ey := hy.nils_inv
    subst ex; subst ey
    exact key _ (fun op => eqGuard_at_slice ..) rfl rfl (by rw [equal_succ]; first | exact equalIn_bool _ hd | exact equalIn_nn _ hd | exact equalIn_pn _ hd | exact equalIn_np _ hd | exact equalIn_ss _ hd)
  · rename_i e hd
    simp only [Option.some.injEq] at hres; subst hres
    obtain ⟨ad, c, ex⟩ := hx.esl_inv
    have ey := hy.nils_inv
    subst ex; subst ey
    exact key _ (fun op => eqGuard_at_slice ..) rfl rfl (by rw [equal_succ]; exact equalIn_as _ hd 0)
  · simp at hres

theorem eq_isl {t e : TypeId} (hd : P.underlying t = some (.slice e)) {sz : Nat} {es : List (List AV)} (hne : es ≠ [])
    {ok : Nat → Prop} {us : Us} {tb : Tb} {vx vy : Value} (hx : Rel w ok us tb (.isl sz es) vx) (hy : Rel w ok us tb .nils vy) (p q : Operand) :
    ((do eqGuard .eql t p q vx vy; binOp .eql t vx vy) : Sem Value).run P w = .ok (.bool false) w ∧
    ((do eqGuard .neq t p q vx vy; binOp .neq t vx vy) : Sem Value).run P w = .ok (.bool true) w := by
  rcases hx.isl_inv with ⟨h0, -⟩ | ⟨blk, off, c, -, ex, -⟩
  · exact absurd h0 hne
  · have ey := hy.nils_inv
    subst ex; subst ey
    have h3 : (Op.equal t (.slice (some ⟨blk, off, none⟩) es.length c) (.slice none 0 0)).run P w = .ok false w := by rw [equal_succ]; exact equalIn_as _ hd _
    have hg : ∀ op, eqGuard op t p q (.slice (some ⟨blk, off, none⟩) es.length c) (.slice none 0 0) = pure () := fun op => eqGuard_at_slice ..
    have h1 : binOp .eql t (.slice (some ⟨blk, off, none⟩) es.length c) (.slice none 0 0) = (do pure (.bool (← Op.equal t (.slice (some ⟨blk, off, none⟩) es.length c) (.slice none 0 0)))) := rfl
    have h2 : binOp .neq t (.slice (some ⟨blk, off, none⟩) es.length c) (.slice none 0 0) = (do pure (.bool (!(← Op.equal t (.slice (some ⟨blk, off, none⟩) es.length c) (.slice none 0 0))))) := rfl
    constructor
    · rw [hg, h1]; simp [h3]
    · rw [hg, h2]; simp [h3]

theorem op_binOp {op : BinOp} {t t' : TypeId} {x y : Operand} (h : RelS g s φ a w) (ho : o.op = .binOp op t x y t') (hres : opS P s.E s.R nr o ans = some res) (hobs : ∀ p ∈ res.obs, p) : Fin P g s a w o res := by
  simp only [opS, ho] at hres
  have hx := h.eval x
  have hy := h.eval y
  split at hres
  · rename_i v ob hb
    simp only [Option.some.injEq] at hres
    subst hres
    obtain ⟨u, h1, h2⟩ := bin_sound (P := P) (t := t) hb hobs hx hy x y
    refine fin_pure (v := u) h ?_ rfl h2
    simp only [execOp, ho]
    rw [Sem.run_bind, h1]; rfl
  · split at hres
    · cases he : eqS P t (evalOf s.E x) (evalOf s.E y) with
      | none => simp [he] at hres
      | some r =>
        simp [he] at hres; subst hres
        refine fin_pure (v := .bool r) h ?_ rfl (.b r)
        simp only [execOp, ho]
        rw [Sem.run_bind, (eq_sound (w := w) he hx hy x y).1]; rfl
    · cases he : eqS P t (evalOf s.E x) (evalOf s.E y) with
      | none => simp [he] at hres
      | some r =>
        simp [he] at hres; subst hres
        refine fin_pure (v := .bool !r) h ?_ rfl (.b _)
        simp only [execOp, ho]
        rw [Sem.run_bind, (eq_sound (w := w) he hx hy x y).2]; rfl
    · simp at hres

theorem op_unOp {op : UnOp} {t : TypeId} {x : Operand} (h : RelS g s φ a w) (ho : o.op = .unOp op t x) (hres : opS P s.E s.R nr o ans = some res) : Fin P g s a w o res := by
  simp only [opS, ho] at hres
  have hx := h.eval x
  cases he : unS op (evalOf s.E x) with
  | none => simp [he] at hres
  | some v =>
    simp [he] at hres; subst hres
    unfold unS at he
    split at he
    · rename_i k n hev
      rw [hev] at hx
      simp only [Option.some.injEq] at he; subst he
      refine fin_pure (v := .int k (k.wrap (0 - n))) h ?_ rfl (.n _ _)
      simp [execOp, ho, hx.n_inv, Op.unary, Op.intArith]
    · rename_i b hev
      rw [hev] at hx
      simp only [Option.some.injEq] at he; subst he
      refine fin_pure (v := .bool !b) h ?_ rfl (.b _)
      simp [execOp, ho, hx.b_inv, Op.unary]
    · simp at he

theorem op_convert {t t' : TypeId} {x : Operand} (h : RelS g s φ a w) (ho : o.op = .convert t t' x) (hres : opS P s.E s.R nr o ans = some res) : Fin P g s a w o res := by
  simp only [opS, ho] at hres
  have hx := h.eval x
  split at hres
  · rename_i k k' n hd hev
    rw [hev] at hx
    split at hres
    case isFalse => simp at hres
    rename_i hs
    simp only [Option.some.injEq] at hres
    subst hres
    refine fin_pure (v := .int k (k.wrap n)) h ?_ rfl (.n _ _)
    cases hds : P.underlying t with
    | none => simp [hds] at hs
    | some d => simp [execOp, ho, hx.n_inv, convert, run_underlying hd, run_underlying hds, Conv.intToInt]
  · rename_i r k lo len hd hev
    rw [hev] at hx
    split at hres
    · rename_i ob hsrc hob
      split at hres
      · rename_i ns hns
        split at hres
        · rename_i hc
          simp only [Option.some.injEq] at hres
          subst hres
          obtain ⟨e, hs, he⟩ : ∃ e, P.underlying t = some (.slice e) ∧ P.underlying e = some (.int .u8) := by
            unfold elemT at hsrc
            split at hsrc
            · rename_i e hs; exact ⟨e, hs, hsrc⟩
            · simp at hsrc
          have ho' : s.ob r k = some ob := hob
          have hrel := h.obj r k ob ho'
          have hzero : ∀ (a0 : Option Addr) (c : Nat), len = 0 → (convert t t' (.slice a0 0 c)).run P w = .ok (.string (bstr ns)) w := by
            intro a0 c h0
            subst h0
            have : ns = [] := by simpa [bytesOf] using hns
            subst this
            cases a0 with
            | none => rw [run_convert_bytes_string w t t' e none 0 c hs he hd]; simp [Conv.bytesToString, bstr]
            | some a0 =>
              rw [run_convert_bytes_string w t t' e (some a0) 0 c hs he hd, run_bytesToString w a0 0 c [] (by
                have := run_loadCells_list (P := P) w a0 [] (fun j v hj => by simp at hj)
                simpa using this)]
              rfl
          rcases hx.osl_inv (tb_of ho') with ⟨hp, rfl, rfl, hval⟩ | ⟨b, m, A, c, hp, hval, hlc, hc9, hm⟩
          · refine fin_pure (v := .string (bstr ns)) h ?_ rfl (.s _)
            simp [execOp, ho, hval, hzero none 0 rfl]
          · refine fin_pure (v := .string (bstr ns)) h ?_ rfl (.s _)
            by_cases h0 : len = 0
            · subst h0; simp [execOp, ho, hval, hzero A c rfl]
            · rcases hm with hm | ⟨hA, hm⟩
              · omega
              · subst hA
                rw [hp] at hrel
                have hrd := hrel.rd
                have hby : ∀ (es : List (List AV)) (ns : List Int), bytesOf es = some ns → es.length = ns.length ∧ ∀ (i : Nat) n, ns[i]? = some n → es[i]? = some [.n .u8 n] := by
                  intro es
                  induction es with
                  | nil => intro ns h; simp [bytesOf] at h; subst h; exact ⟨rfl, fun i n hi => by simp at hi⟩
                  | cons x es ih =>
                    intro ns h
                    unfold bytesOf at h
                    split at h
                    · simp at *
                    · rename_i n0 es0 heq
                      simp only [List.cons.injEq] at heq
                      obtain ⟨rfl, rfl⟩ := heq
                      rw [Option.map_eq_some_iff] at h
                      obtain ⟨ms, hms, rfl⟩ := h
                      obtain ⟨e1, e2⟩ := ih ms hms
                      refine ⟨by simp [e1], fun i n hi => ?_⟩
                      cases i with
                      | zero => simp at hi; subst hi; rfl
                      | succ i => simpa using e2 i n (by simpa using hi)
                    · simp at h
                obtain ⟨e1, e2⟩ := hby _ _ hns
                have hlen : ns.length = len := by rw [← e1]; simp; omega
                have hload : (loadCells ⟨b, lo * ob.sz, none⟩ len).run P w = .ok (ns.map (Value.int .u8)).toArray w := by
                  have := run_loadCells_list (P := P) w ⟨b, lo * ob.sz, none⟩ (ns.map (Value.int .u8)) (fun j v hj => by
                    rw [List.getElem?_map, Option.map_eq_some_iff] at hj
                    obtain ⟨n, hn, rfl⟩ := hj
                    have hin := e2 j n hn
                    have hil : j < len := by rw [← hlen]; exact (List.getElem?_eq_some_iff.1 hn).1
                    rw [List.getElem?_take_of_lt hil, List.getElem?_drop] at hin
                    obtain ⟨v, v1, v2, v3⟩ := hrd.2 ((lo + j) * ob.sz + 0) (.n .u8 n) (by rw [flatten_at hrd.1 hin (by omega)]; rfl)
                    have hv := v3.n_inv
                    subst hv
                    rw [addr_add, ← v1, hc.2]
                    congr 2
                    omega)
                  rw [List.length_map, hlen] at this
                  exact this
                have h2 := run_bytesToString w ⟨b, lo * ob.sz, none⟩ len c ns hload
                rw [← run_convert_bytes_string w t t' e _ len c hs he hd] at h2
                simp [execOp, ho, hval, h2, bstr]
        · simp at hres
      · simp at hres
    · simp at hres
  · simp at hres

theorem op_makeFunc {f : Fn} {fi ca : Array Operand} (h : RelS g s φ a w) (ho : o.op = .makeFunc f fi ca) (hres : opS P s.E s.R nr o ans = some res) : Fin P g s a w o res := by
  cases f with
  | func n =>
    simp only [opS, ho] at hres
    split at hres
    · rename_i hfi
      simp only [Option.some.injEq] at hres; subst hres
      refine fin_pure (v := .func (.func n) #[] (ca.map a.eval)) h ?_ rfl ?_
      · have : fi = #[] := by simpa using hfi
        subst this
        simp [execOp, ho, Instr.makeFunc]
      · have := Rel.fn (f := n) (c := ca.toList.map (evalOf s.E)) (w := w) (ok := s.ok g φ w) (us := s.us) (tb := s.tb φ) (ca.toList.map a.eval) (by simp) (by
          intro j x v hx hv
          rw [List.getElem?_map, Option.map_eq_some_iff] at hx hv
          obtain ⟨p, hp, rfl⟩ := hx
          obtain ⟨q, hq, rfl⟩ := hv
          rw [hp] at hq; simp at hq; subst hq
          exact h.eval p)
        have e : (ca.toList.map a.eval).toArray = ca.map a.eval := by apply Array.ext'; rw [Array.toList_map]
        rw [e] at this
        exact this
    · simp at hres
  | _ => simp [opS, ho] at hres

theorem op_extract {i : Nat} {x : Operand} (h : RelS g s φ a w) (ho : o.op = .extract x i) (hres : opS P s.E s.R nr o ans = some res) : Fin P g s a w o res := by
  simp only [opS, ho] at hres
  have hx := h.eval x
  split at hres
  · rename_i vs hev
    rw [hev] at hx
    cases hi : vs[i]? with
    | none => simp [hi] at hres
    | some v =>
      simp [hi] at hres; subst hres
      obtain ⟨us, hval, hl, hr⟩ := hx.tup_inv
      have hlt : i < us.length := by
        rcases Nat.lt_or_ge i vs.length with h' | h'
        · omega
        · rw [List.getElem?_eq_none h'] at hi; simp at hi
      have hu : us[i]? = some us[i] := List.getElem?_eq_getElem hlt
      refine fin_pure (v := us[i]) h ?_ rfl (hr i v _ hi hu)
      simp [execOp, ho, hval, Instr.extract, hu]
  · simp at hres

end
end Go.VL
