/- Functions: a contract from the code's run. -/
import Derived.Test.YtiacejpdgjmdfabGreatVlR
import Derived.OwnWalk
namespace Go.VL
set_option linter.unusedVariables false
set_option linter.unusedSimpArgs false
open Go

/-- One of the results. -/
def resOne (P : Program) (s : S) : ResultVar → Option AV
  | .tmp t => some (s.E t)
  | .cell t ty => match s.E t with
    | .ref r k i off => match obIn (s.R r) k with
      | some o => match o.es[i]? with
        | some c => takeT P ty c off
        | none => none
      | none => none
    | _ => none

def resS (P : Program) (s : S) : List ResultVar → Option AV
  | [] => some (.tup [])
  | [x] => resOne P s x
  | [x, y] => match resOne P s x, resOne P s y with
    | some a, some b => some (.tup [a, b])
    | _, _ => none
  | [x, y, z] => match resOne P s x, resOne P s y, resOne P s z with
    | some a, some b, some c => some (.tup [a, b, c])
    | _, _, _ => none
  | _ => none

def resGet (tmps : Array Value) : ResultVar → Sem Value
  | .tmp t => pure (tmps.getD t undef)
  | .cell a t => do loadVar t (← asAddr (tmps.getD a undef))

theorem results_get (fn : Func) (tmps : Array Value) : results fn tmps = (do
    let vs ← fn.results.mapM (resGet tmps)
    pure (if h : vs.size = 1 then vs[0] else .tuple vs)) := rfl

def startS (args : List AV) (T : List (List Ob)) : S := { E := fun t => (args[t]?).getD (.tup []), R := fun r => T[r]? }

def endsF : Exit → Bool
  | .normal => true
  | .ret => true
  | _ => false

/-- A function's run, checked by evaluation. -/
def runF (P : Program) (f : FuncId) (args : List AV) (T : List (List Ob)) (tape : List TE) (mv : List Nat) (rc : List RC) (rr : C2) : Option (AV × List (List Ob) × List Prop) :=
  match P.funcs[f]? with
  | none => none
  | some fn => match fn.body with
    | none => none
    | some c => if fn.name == "runtime.NumGoroutine" then none else
      match okC P fn.ntmps T.length c tape (startS args T) T.length with
      | none => none
      | some (e, s, o1) => if endsF e && decide mv.Nodup && fixes mv T.length then
          match resS P s fn.results.toList with
          | none => none
          | some r0 => match restR s.R (findIx mv) (mvR mv) mv rc, conv2 s.R (findIx mv) (mvR mv) isAny rr r0 with
            | some (T', o2), some (r, o3) => some (r, T', o1 ++ o2 ++ o3)
            | _, _ => none
        else none

section
variable {P : Program}

theorem resOne_sound {g : G} {s : S} {φ : Plc} {a : Act} {w : World} (h : RelS g s φ a w) {x : ResultVar} {r0 : AV} (hr : resOne P s x = some r0) :
    ∃ v, (resGet a.tmps x).run P w = .ok v w ∧ Rel w (s.ok g φ w) s.us (s.tb φ) r0 v := by
  cases x with
  | tmp t =>
    simp only [resOne, Option.some.injEq] at hr; subst hr
    exact ⟨_, rfl, h.env t⟩
  | cell t ty =>
    simp only [resOne] at hr
    have hx := h.env t
    split at hr
    · rename_i r k i off hev
      rw [hev] at hx
      split at hr
      · rename_i o ho
        split at hr
        · rename_i c hc
          have ho' : s.ob r k = some o := ho
          have hrel := h.obj r k o ho'
          rcases hx.ref_inv (tb_of ho') with h0 | ⟨b, m, hp, hval⟩
          · rw [h0] at hrel
            simp only [ObRel] at hrel
            rw [hrel] at hc; simp at hc
          · rw [hp] at hrel
            obtain ⟨u, h1, h2⟩ := load_sound (P := P) hrel.rd hc hr
            refine ⟨u, ?_, h2⟩
            rw [Nat.zero_add] at h1
            simp only [resGet, hval, asAddr]
            simpa [Instr.loadAt, Instr.sureAddr] using h1
        · simp at hr
      · simp at hr
    · simp at hr

theorem resS_sound {g : G} {s : S} {φ : Plc} {a : Act} {w : World} (h : RelS g s φ a w) {fn : Func} {r0 : AV} (hr : resS P s fn.results.toList = some r0) :
    ∃ v, (results fn a.tmps).run P w = .ok v w ∧ Rel w (s.ok g φ w) s.us (s.tb φ) r0 v := by
  have harr : ∀ l, fn.results.toList = l → fn.results = l.toArray := fun l hl => by rw [← hl]
  unfold resS at hr
  rw [results_get]
  split at hr
  · rename_i hl
    simp only [Option.some.injEq] at hr; subst hr
    rw [harr _ hl]
    exact ⟨.tuple #[], by simp, .tup [] rfl (by simp)⟩
  · rename_i x hl
    rw [harr _ hl]
    obtain ⟨v, h1, h2⟩ := resOne_sound h hr
    exact ⟨v, by simp [h1, Sem.run_bind, Result.andThen], h2⟩
  · rename_i x y hl
    rw [harr _ hl]
    split at hr
    · rename_i p q hp hq
      simp only [Option.some.injEq] at hr; subst hr
      obtain ⟨v1, h1, h2⟩ := resOne_sound h hp
      obtain ⟨v2, h3, h4⟩ := resOne_sound h hq
      refine ⟨.tuple #[v1, v2], by simp [h1, h3, Sem.run_bind, Result.andThen], .tup [v1, v2] rfl ?_⟩
      intro j x v hx hv
      match j, hx, hv with
      | 0, hx, hv => obtain rfl := Option.some.inj hx; obtain rfl := Option.some.inj hv; exact h2
      | 1, hx, hv => obtain rfl := Option.some.inj hx; obtain rfl := Option.some.inj hv; exact h4
      | j + 2, hx, hv => simp at hx
    · simp at hr
  · rename_i x y z hl
    rw [harr _ hl]
    split at hr
    · rename_i p q t hp hq ht
      simp only [Option.some.injEq] at hr; subst hr
      obtain ⟨v1, h1, h2⟩ := resOne_sound h hp
      obtain ⟨v2, h3, h4⟩ := resOne_sound h hq
      obtain ⟨v3, h5, h6⟩ := resOne_sound h ht
      refine ⟨.tuple #[v1, v2, v3], by simp [h1, h3, h5, Sem.run_bind, Result.andThen], .tup [v1, v2, v3] rfl ?_⟩
      intro j x v hx hv
      match j, hx, hv with
      | 0, hx, hv => obtain rfl := Option.some.inj hx; obtain rfl := Option.some.inj hv; exact h2
      | 1, hx, hv => obtain rfl := Option.some.inj hx; obtain rfl := Option.some.inj hv; exact h4
      | 2, hx, hv => obtain rfl := Option.some.inj hx; obtain rfl := Option.some.inj hv; exact h6
      | j + 3, hx, hv => simp at hx
    · simp at hr
  · simp at hr

/-- The end of a call: its rows and its answer in the caller's words. -/
theorem finish {g : G} {s : S} {φ : Plc} {a : Act} {w : World} (h : RelS g s φ a w) {mv : List Nat} {rc : List RC} {rr : C2} {r0 r : AV} {T' : List (List Ob)} {o2 o3 : List Prop}
    (hnd : mv.Nodup) (hfx : fixes mv g.m = true) (h1 : restR s.R (findIx mv) (mvR mv) mv rc = some (T', o2)) (h2 : conv2 s.R (findIx mv) (mvR mv) isAny rr r0 = some (r, o3)) (ho2 : ∀ p ∈ o2, p) (ho3 : ∀ p ∈ o3, p)
    {v : Value} (hv : Rel w (s.ok g φ w) s.us (s.tb φ) r0 v) :
    ∃ φ', RelM g (rowsS T') φ' w ∧ Rel w ((rowsS T').ok g φ' w) (rowsS T').us ((rowsS T').tb φ') r v := by
  -- the answer put into a temporary beyond all
  obtain ⟨e1, e2⟩ := restR_ok h.toRelM (hi_of hnd) mv rc T' o2 h1 ho2
  have hsn : Sn s (mvR mv) isAny isT r0 r := conv2_ok h.toRelM (hi_of hnd) (dnT _) h2 ho3 trivial hv
  have hR : SnR s (mvR mv) isAny isT (rowsS T').R := snR_of hnd e1 e2
  have hfix := fixes_of h.toRelM hfx
  have hno : ∀ b, (rowsS T').liveAt (reφ φ (mvR mv)) b → s.liveAt φ b := fun b hl => by
    obtain ⟨q, k, o, m, h1, h2, h3, -⟩ := hR.live (s' := rowsS T') b hl
    exact ⟨q, k, o, m, h1, h2, h3⟩
  have hstay : ∀ j k, g.us0 j k → (rowsS T').us j k ∧ ((rowsS T').tb (reφ φ (mvR mv)) j k = g.tb0 j k ∨ (rowsS T').tb (reφ φ (mvR mv)) j k = none) := by
    intro j k hj
    obtain ⟨e1, e2⟩ := h.stay j k hj
    refine ⟨hR.us j k j k (hfix j k hj) e1, ?_⟩
    rcases hR.tbs (s' := rowsS T') (φ := φ) (hfix j k hj) with e | e
    · rw [e]; exact e2
    · exact .inr e
  obtain ⟨f1, f2⟩ := h.toRelM.sn (s' := rowsS T') hR h.keep hstay h.low h.mlt h.alt (fun r k o b m _ ho hp => h.own r k o b m ho hp)
    (fun b hb => ⟨hb.1, hb.2.1, fun hl => hb.2.2 (hno b hl)⟩)
    (fun q k o b m ho _ hr hp => by
      have hob := h.obj q k o ho
      rw [hp] at hob
      obtain ⟨c, ty, e1, -⟩ := hob
      refine ⟨(Array.getElem?_eq_some_iff.1 e1).1, ?_, fun hl => ?_⟩
      · rcases h.own q k o b m ho hp with e | e
        · exact .inr (.inl e)
        · exact .inr (.inr e)
      · obtain ⟨r', k', o', m', f1, f2, f3, ⟨j4, i4, f4⟩⟩ := hR.live (s' := rowsS T') b hl
        obtain ⟨rfl, rfl⟩ := h.inj q k o r' k' o' b m m' ho f1 hp f3
        exact hr j4 i4 f4)
  exact ⟨_, f1, f2 hsn hv⟩

/-- A contract from the code's run. -/
theorem runF_con (hmix : P.follows .mixedOrders = true) {f : FuncId} {args : List AV} {T : List (List Ob)} {tape : List TE} {mv : List Nat} {rc : List RC} {rr : C2} {r : AV} {T' : List (List Ob)} {ob : List Prop}
    (h : runF P f args T tape mv rc rr = some (r, T', ob)) (hob : AllP ob) : Con P f args T r T' := by
  have hob := hob.all
  unfold runF at h
  split at h
  · simp at h
  · rename_i fn hfn
    split at h
    · simp at h
    · rename_i c hc
      split at h
      · simp at h
      · rename_i hname
        split at h
        · simp at h
        · rename_i e s o1 hok
          split at h
          · rename_i hcond
            simp only [Bool.and_eq_true, decide_eq_true_eq] at hcond
            obtain ⟨⟨hend, hnd⟩, hfx⟩ := hcond
            split at h
            · simp at h
            · rename_i r0 hr0
              split at h
              · rename_i T2 o2 r2 o3 h1 h2
                simp only [Option.some.injEq, Prod.mk.injEq] at h
                obtain ⟨rfl, rfl, rfl⟩ := h
                refine ⟨⟨fn, hfn, by simpa using hname, by simp [hc]⟩, ?_⟩
                intro g φ w vs hw hm hu0 htb hM hsz hargs
                have hfree : (startS args T).freeFrom T.length := by intro q hq; simp [startS, hq]
                have hM0 := hM
                let g' : G := { g with N := fn.ntmps }
                have hrel : RelS g' (startS args T) φ { tmps := vs ++ Array.replicate (fn.ntmps - vs.size) undef, defers := [] } w := by
                  have hRe : (startS args T).R = (rowsS T).R := rfl
                  have hM1 : RelM g (startS args T) φ w := hM.congr hRe
                  have hM2 : RelM g' (startS args T) φ w := ⟨hM1.obj, hM1.inj, hM1.own, ⟨hM1.keep.os, hM1.keep.tape, hM1.keep.output, hM1.keep.size, hM1.keep.block⟩, hM1.mlt, hM1.alt, hM1.stay, hM1.low⟩
                  refine { toRelM := hM2, env := fun t => ?_, defers := rfl, tsz := by simp [g']; omega }
                  have e1 : (vs ++ Array.replicate (fn.ntmps - vs.size) undef).getD t undef = (vs[t]?).getD undef := by
                    rw [Array.getD_eq_getD_getElem?, Array.getElem?_append]
                    split
                    · rfl
                    · rename_i hlt
                      rw [Array.getElem?_replicate]
                      have : vs[t]? = none := by simp; omega
                      rw [this]
                      split <;> rfl
                  show Rel _ _ _ _ ((args[t]?).getD (.tup [])) _
                  rw [e1]
                  cases hx : args[t]? with
                  | none =>
                    have : vs[t]? = none := by
                      rw [List.getElem?_eq_none_iff] at hx
                      simp; omega
                    rw [this]
                    exact rel_undef
                  | some x =>
                    have hlt := lt_of_get hx
                    have hv : vs[t]? = some vs[t] := Array.getElem?_eq_getElem (by omega)
                    rw [hv]
                    have := hargs t x _ hx hv
                    rw [← ok_congr hRe, ← us_congr hRe, ← tb_congr hRe] at this
                    exact this
                have hv := okC_sound hmix hok (by
                  exact AllP.of fun p hp => hob p (by simp [hp])) hfree g' φ _ w rfl hm hrel
                refine calls_of_wp hfn hc (wp_mono hv fun e' a' w' hq => ?_)
                obtain ⟨rfl, φ', hr'⟩ := hq
                obtain ⟨v, v1, v2⟩ := resS_sound (P := P) hr' hr0
                obtain ⟨φ2, f1, f2⟩ := finish hr' hnd (by rw [show g'.m = T.length from hm]; exact hfx) h1 h2 (fun p hp => hob p (by simp [hp])) (fun p hp => hob p (by simp [hp])) v2
                have hfin : a'.defers = [] ∧ ∃ v, (results fn a'.tmps).run P w' = .ok v w' ∧ ∃ v_1 φ', Ending.returned v = Ending.returned v_1 ∧ RelM g (rowsS T2) φ' w' ∧ Rel w' ((rowsS T2).ok g φ' w') (rowsS T2).us ((rowsS T2).tb φ') r2 v_1 := by
                  refine ⟨hr'.defers, v, v1, v, φ2, rfl, ?_, f2⟩
                  exact ⟨f1.obj, f1.inj, f1.own, ⟨f1.keep.os, f1.keep.tape, f1.keep.output, f1.keep.size, f1.keep.block⟩, f1.mlt, f1.alt, f1.stay, f1.low⟩
                cases e' <;> simp only [endsF, Bool.false_eq_true] at hend
                · exact hfin
                · exact hfin
              · simp at h
          · simp at h
/-- The same, where no rows are handed. -/
theorem runF_con0 (hmix : P.follows .mixedOrders = true) {f : FuncId} {args : List AV} {tape : List TE} {rr : C2} {r : AV} {ob : List Prop}
    (h : runF P f args [] tape [] [] rr = some (r, [], ob)) (hob : AllP ob) : Con P f args [] r [] := runF_con hmix h hob
end
end Go.VL
