/- Regions that draw their order. -/
import Derived.Test.YtiacejpdgjmdfabGreatVlM
namespace Go.VL
set_option linter.unusedVariables false
set_option linter.unusedSimpArgs false
open Go

theorem convL_mono {α β : Type} {f f' : α → β → Option (β × List Prop)} (hf : ∀ a b z, f' a b = some z → f a b = some z) : ∀ {l : List α} {m : List β} {z : List β × List Prop}, convL f' l m = some z → convL f l m = some z
  | [], [], z, h => h
  | [], _ :: _, z, h => by simp [convL] at h
  | _ :: _, [], z, h => by simp [convL] at h
  | a :: l, b :: m, z, h => by
    simp only [convL] at h ⊢
    split at h
    · rename_i b' o1 m' o2 h1 h2
      rw [hf _ _ _ h1, convL_mono hf h2]; exact h
    · simp at h

section
variable {R R' : Nat → Option (List Ob)} (hR : ∀ r row, R' r = some row → R r = some row)
include hR

theorem obIn_mono {r k : Nat} {o : Ob} (h : obIn (R' r) k = some o) : obIn (R r) k = some o := by
  cases hr : R' r with
  | none => rw [hr] at h; simp [obIn] at h
  | some row => rw [hR r row hr]; rw [hr] at h; exact h

theorem obAt_mono {r k : Nat} {ans : Ans} {z : Ob × List Prop} (h : obAt (R' r) k ans = some z) : obAt (R r) k ans = some z := by
  cases hr : R' r with
  | none => rw [hr] at h; unfold obAt at h; split at h <;> simp [obIn] at h
  | some row => rw [hR r row hr]; rw [hr] at h; exact h

theorem conv0_mono {tgt : Nat → Option Nat} {mv : Mv} {al : Kd → Bool} {c : C0} {x : AV} {z : AV × List Prop} (h : conv0 R' tgt mv al c x = some z) : conv0 R tgt mv al c x = some z := by
  cases c with
  | id =>
    simp only [conv0] at h ⊢
    exact h
  | nl sz => cases x <;> exact h
  | ps => exact h
  | as y => exact h
  | po sz => exact h
  | len n => cases x <;> exact h
  | at_ j i n => cases x <;> exact h
  | view rp o es =>
    cases x <;> simp only [conv0, reduceCtorEq] at h ⊢
    split at h
    · rename_i row prow h1 h2
      rw [hR _ _ h1, hR _ _ h2]; exact h
    · simp at h
  | sl es =>
    cases x <;> simp only [conv0, reduceCtorEq] at h ⊢
    split at h
    · rename_i o ho
      rw [obIn_mono hR ho]; exact h
    · simp at h

theorem conv1_mono {tgt : Nat → Option Nat} {mv : Mv} {al : Kd → Bool} {c : C1} {x : AV} {z : AV × List Prop} (h : conv1 R' tgt mv al c x = some z) : conv1 R tgt mv al c x = some z := by
  cases c with
  | c0 c =>
    simp only [conv1] at h ⊢
    split at h
    · rename_i hn
      rw [if_pos hn]
      split at h
      · exact h
      · exact h
      · exact h
      · exact conv0_mono hR h
    · rename_i hn; rw [if_neg hn]; exact conv0_mono hR h
  | agg l =>
    cases x <;> simp only [conv1, reduceCtorEq] at h ⊢
    split at h
    · rename_i c' ob hc
      rw [convL_mono (fun a b z h => conv0_mono hR h) hc]; exact h
    · simp at h
  | ptr l =>
    cases x <;> simp only [conv1, reduceCtorEq] at h ⊢
    split at h
    · rename_i o ho
      rw [obIn_mono hR ho]
      simp only
      split at h
      · rename_i c hes
        split at h
        · rename_i hc
          rw [if_pos hc]
          split at h
          · rename_i c' ob hcl
            rw [convL_mono (fun a b z h => conv0_mono hR h) hcl]; exact h
          · simp at h
        · simp at h
      · simp at h
    · simp at h
  | ptro l =>
    simp only [conv1] at h ⊢
    split at h
    · split at h
      · rename_i o ho
        rw [obIn_mono hR ho]
        simp only
        split at h
        · rename_i c hes
          split at h
          · rename_i hc
            rw [if_pos hc]
            split at h
            · rename_i c' ob hcl
              rw [convL_mono (fun a b z h => conv0_mono hR h) hcl]; exact h
            · simp at h
          · simp at h
        · simp at h
      · simp at h
    · simp at h

theorem conv2_mono {tgt : Nat → Option Nat} {mv : Mv} {al : Kd → Bool} {c : C2} {x : AV} {z : AV × List Prop} (h : conv2 R' tgt mv al c x = some z) : conv2 R tgt mv al c x = some z := by
  cases c with
  | c1 c =>
    simp only [conv2] at h ⊢
    split at h
    · rename_i hn
      rw [if_pos hn]
      split at h
      · exact h
      · exact conv1_mono hR h
    · rename_i hn; rw [if_neg hn]; exact conv1_mono hR h
  | comp l =>
    cases x <;> simp only [conv2, reduceCtorEq] at h ⊢
    all_goals
      split at h
      · rename_i c' ob hc
        rw [convL_mono (fun a b z h => conv1_mono hR h) hc]; exact h
      · simp at h

theorem convR_mono {tgt : Nat → Option Nat} {mv : Mv} {al : Kd → Bool} {c : RC} {row : List Ob} {z : List Ob × List Prop} (h : convR R' tgt mv al c row = some z) : convR R tgt mv al c row = some z := by
  cases c with
  | pure => exact h
  | as row' => exact h
  | rn row2 => exact h
  | rx row2 => cases row with
    | nil => simp [convR] at h
    | cons o l => cases l <;> simp [convR] at h
  | drop => cases row with
    | nil => simp [convR] at h
    | cons o l => cases l <;> simp [convR] at h
  | box l =>
    match row, h with
    | [o], h =>
      simp only [convR] at h ⊢
      split at h
      · rename_i c hes
        split at h
        · rename_i hk
          rw [if_pos hk]
          split at h
          · rename_i c' ob hc
            rw [convL_mono (fun a b z h => conv0_mono hR h) hc]; exact h
          · simp at h
        · simp at h
      · simp at h
    | [], h => simp [convR] at h
    | _ :: _ :: _, h => simp [convR] at h

theorem rowsIn_mono {tgt : Nat → Option Nat} {mv : Mv} : ∀ {l : List Src} {rc : List RC} {z : List (List Ob) × List Prop}, rowsIn R' tgt mv l rc = some z → rowsIn R tgt mv l rc = some z
  | [], [], z, h => h
  | .row r :: l, c :: rc, z, h => by
    simp only [rowsIn] at h ⊢
    split at h
    · rename_i row hrow
      rw [hR r row hrow]
      simp only
      split at h
      · rename_i row' o1 T o2 h1 h2
        rw [convR_mono hR h1, rowsIn_mono h2]; exact h
      · simp at h
    · simp at h
  | .ob r k o :: l, c :: rc, z, h => by
    simp only [rowsIn] at h ⊢
    split at h
    · rename_i row hrow
      rw [hR r row hrow]
      simp only
      split at h
      · rename_i row' o1 T o2 h1 h2
        rw [convR_mono hR h1, rowsIn_mono h2]; exact h
      · simp at h
    · simp at h
  | [], _ :: _, z, h => by simp [rowsIn] at h
  | .row _ :: _, [], z, h => by simp [rowsIn] at h
  | .ob .. :: _, [], z, h => by simp [rowsIn] at h

omit hR in
theorem rowsOut_mono {R1 : Nat → Option (List Ob)} {tgt : Nat → Option Nat} {mo : Mv} : ∀ {l : List Src} {rc : List RC} {T : List (List Ob)} {R R' : Nat → Option (List Ob)} {z : List (Nat × List Ob) × List Prop},
    (∀ r row, R' r = some row → R r = some row) → rowsOut R1 tgt mo R' l rc T = some z → rowsOut R1 tgt mo R l rc T = some z
  | [], [], [], R, R', z, _, h => h
  | .row q :: l, c :: rc, row :: T, R, R', z, hR, h => by
    simp only [rowsOut] at h ⊢
    split at h
    · rename_i row' o1 h1
      split at h
      · rename_i u o2 h2
        rw [rowsOut_mono (fun r row hr => by split at hr <;> rename_i e <;> simp only [e, if_true, if_false] <;> first | exact hr | exact hR _ _ hr) h2]; exact h
      · simp at h
    · simp at h
  | .ob q k o :: l, c :: rc, row :: T, R, R', z, hR, h => by
    simp only [rowsOut] at h ⊢
    split at h
    · rename_i cur hc
      rw [hR _ _ hc]
      simp only
      split at h
      · rename_i o' o1 h1
        split at h
        · rename_i u o2 h2
          rw [rowsOut_mono (fun r row hr => by split at hr <;> rename_i e <;> simp only [e, if_true, if_false] <;> first | exact hr | exact hR _ _ hr) h2]; exact h
        · simp at h
      · simp at h
    · simp at h
  | [], [], _ :: _, _, _, _, _, h => by simp [rowsOut] at h
  | [], _ :: _, _, _, _, _, _, h => by simp [rowsOut] at h
  | .row _ :: _, [], _, _, _, _, _, h => by simp [rowsOut] at h
  | .ob .. :: _, [], _, _, _, _, _, h => by simp [rowsOut] at h
  | .row _ :: _, _ :: _, [], _, _, _, _, h => by simp [rowsOut] at h
  | .ob .. :: _, _ :: _, [], _, _, _, _, h => by simp [rowsOut] at h

omit hR in
theorem lkR_mono : ∀ {u : List (Nat × List Ob)} {R R' : Nat → Option (List Ob)} {q : Nat} {row : List Ob}, (∀ r row, R' r = some row → R r = some row) → lkR u R' q = some row → lkR u R q = some row
  | [], _, _, _, _, hR, h => hR _ _ h
  | (r, row0) :: u, R, R', q, row, hR, h => lkR_mono (u := u) (fun r row hr => by split at hr <;> rename_i e <;> simp only [e, if_true, if_false] <;> first | exact hr | exact hR _ _ hr) h

theorem mergeRes_mono {nr r n : Nat} {res res' : Res} (h : mergeRes R' nr r n res = some res') : mergeRes R nr r n res = some res' := by
  unfold mergeRes at h ⊢
  split at h
  · rename_i l' l h1 h2
    rw [lkR_mono hR h1, lkR_mono hR h2]; exact h
  · simp at h

theorem callS_mono {P : Program} {nr : Nat} {f : FuncId} {args : List AV} {ca : CA} {res : Res} (h : callS P R' nr f args ca = some res) : callS P R nr f args ca = some res := by
  unfold callS at h ⊢
  simp only at h ⊢
  split at h
  · simp at h
  · rename_i o0 h0
    split at h
    · simp at h
    · rename_i hnm
      rw [if_neg hnm]
      split at h
      · rename_i hsc
        rw [if_pos hsc]
        split at h
        · rename_i hmv
          split at h
          · rename_i args' o1 r' o3 u o4 h1 h3 h4
            rw [convL_mono (fun a b z h => conv2_mono hR h) h1, h3, rowsOut_mono hR h4]; exact h
          · simp at h
        · simp at h
      · rename_i hsc
        rw [if_neg hsc]
        split at h
        · rename_i args' o1 T o2 r' o3 u o4 h1 h2 h3 h4
          rw [convL_mono (fun a b z h => conv2_mono hR h) h1, rowsIn_mono hR h2, h3, rowsOut_mono hR h4]; exact h
        · simp at h
end

theorem mapM_congr {α β : Type} {f f' : α → Option β} : ∀ {l : List α}, (∀ x ∈ l, f' x = f x) → l.mapM f' = l.mapM f
  | [], _ => rfl
  | x :: l, h => by
    rw [List.mapM_cons, List.mapM_cons, h x (by simp), mapM_congr fun y hy => h y (by simp [hy])]

theorem opS_mono {P : Program} {E E' : Nat → AV} {R R' : Nat → Option (List Ob)} {nr : Nat} {o : Oper} {ans : Ans} {res : Res}
    (hE : ∀ x ∈ o.op.operands, evalOf E' x = evalOf E x) (hR : ∀ r row, R' r = some row → R r = some row) (h : opS P E' R' nr o ans = some res) : opS P E R nr o ans = some res := by
  have hob : ∀ {r k : Nat} {z : Ob × List Prop}, obAt (R' r) k ans = some z → obAt (R r) k ans = some z := fun h => obAt_mono hR h
  cases ho : o.op with
  | move x => simp only [opS, ho] at h ⊢; rw [← hE x (by simp [ho, Op.operands])]; exact h
  | assign x => simp only [opS, ho] at h ⊢; rw [← hE x (by simp [ho, Op.operands])]; exact h
  | pick c x y =>
    simp only [opS, ho] at h ⊢
    rw [← hE c (by simp [ho, Op.operands]), ← hE x (by simp [ho, Op.operands]), ← hE y (by simp [ho, Op.operands])]; exact h
  | alloc t => simp only [opS, ho] at h ⊢; exact h
  | box t x => simp only [opS, ho] at h ⊢; rw [← hE x (by simp [ho, Op.operands])]; exact h
  | load t x =>
    simp only [opS, ho] at h ⊢
    rw [← hE x (by simp [ho, Op.operands])]
    split at h
    · split at h
      · rename_i hq; rw [hob hq]; exact h
      · simp at h
    · exact h
    · simp at h
  | store t x y =>
    simp only [opS, ho] at h ⊢
    rw [← hE x (by simp [ho, Op.operands]), ← hE y (by simp [ho, Op.operands])]
    split at h
    · split at h
      · simp at h
      · rename_i row hrow
        rw [hR _ row hrow]; exact h
    · simp at h
  | nilCheck x =>
    simp only [opS, ho] at h ⊢
    rw [← hE x (by simp [ho, Op.operands])]
    split at h
    · split at h
      · rename_i hq; rw [hob hq]; exact h
      · simp at h
    · exact h
    · exact h
    · simp at h
  | binOp op t x y t' =>
    simp only [opS, ho] at h ⊢
    rw [← hE x (by simp [ho, Op.operands]), ← hE y (by simp [ho, Op.operands])]; exact h
  | unOp op t x => simp only [opS, ho] at h ⊢; rw [← hE x (by simp [ho, Op.operands])]; exact h
  | convert t t' x =>
    simp only [opS, ho] at h ⊢
    rw [← hE x (by simp [ho, Op.operands])]
    split at h
    · exact h
    · rename_i r k lo len h1 h2
      split at h
      · rename_i ob h3 h4
        rw [obIn_mono hR h4, h3]; exact h
      · simp at h
    · simp at h
  | makeFunc f fi ca =>
    cases f with
    | func n =>
      simp only [opS, ho] at h ⊢
      have : ca.toList.map (evalOf E') = ca.toList.map (evalOf E) := List.map_congr_left fun x hx => hE x (by simp [ho, Op.operands]; right; simpa using hx)
      rw [← this]; exact h
    | _ => simp [opS, ho] at h
  | makeSlice t x y =>
    simp only [opS, ho] at h ⊢
    rw [← hE x (by simp [ho, Op.operands]), ← hE y (by simp [ho, Op.operands])]; exact h
  | fieldAddr t x f =>
    simp only [opS, ho] at h ⊢
    rw [← hE x (by simp [ho, Op.operands])]
    split at h
    · split at h
      · split at h
        · simp at h
        · rename_i hz
          rw [if_neg hz]
          split at h
          · split at h
            · rename_i hq; rw [hob hq]; exact h
            · simp at h
          · exact h
          · simp at h
      · simp at h
    · simp at h
  | field t x f => simp only [opS, ho] at h ⊢; rw [← hE x (by simp [ho, Op.operands])]; exact h
  | indexAddr t x y =>
    simp only [opS, ho] at h ⊢
    rw [← hE x (by simp [ho, Op.operands]), ← hE y (by simp [ho, Op.operands])]
    split at h
    · split at h
      · exact h
      · split at h
        · rename_i row hrow
          rw [hR _ row hrow]; exact h
        · simp at h
      · simp at h
    · simp at h
  | index t x y =>
    simp only [opS, ho] at h ⊢
    rw [← hE x (by simp [ho, Op.operands]), ← hE y (by simp [ho, Op.operands])]; exact h
  | extract x i => simp only [opS, ho] at h ⊢; rw [← hE x (by simp [ho, Op.operands])]; exact h
  | slice t x lo hi mx =>
    cases mx with
    | none =>
      simp only [opS, ho] at h ⊢
      have e1 : lo.map (evalOf E') = lo.map (evalOf E) := by
        cases lo with
        | none => rfl
        | some y => simp only [Option.map_some]; rw [hE y (by simp [ho, Op.operands])]
      have e2 : hi.map (evalOf E') = hi.map (evalOf E) := by
        cases hi with
        | none => rfl
        | some y => simp only [Option.map_some]; rw [hE y (by simp [ho, Op.operands])]
      rw [← hE x (by simp [ho, Op.operands]), ← e1, ← e2]
      split at h
      · exact h
      · split at h
        · simp at h
        · rename_i row hrow
          rw [hR _ row hrow]; exact h
      · exact h
      · simp at h
    | some m => simp [opS, ho] at h
  | build t ps =>
    simp only [opS, ho] at h ⊢
    have hp : ∀ p ∈ ps.toList, evalOf E' p.2 = evalOf E p.2 := fun p hp => hE p.2 (by
      simp only [ho, Op.operands]
      rw [← Array.mem_toList_iff]
      simp only [List.mem_map]
      exact ⟨p, hp, rfl⟩)
    split at h
    · rename_i fs z _ _
      split at h
      · simp at h
      · rename_i hq
        rw [if_neg hq]
        have e : (ps.toList.mapM fun (p : Nat × Operand) => (fs[p.1]?).map fun fd => (fd.offset, P.cellsOf fd.type, evalOf E' p.2)) =
            ps.toList.mapM fun (p : Nat × Operand) => (fs[p.1]?).map fun fd => (fd.offset, P.cellsOf fd.type, evalOf E p.2) := mapM_congr fun p hp' => by rw [hp p hp']
        rw [← e]; exact h
    · simp at h
  | buildSlice t n ps =>
    simp only [opS, ho] at h ⊢
    have hp : ∀ p ∈ ps.toList, evalOf E' p.2 = evalOf E p.2 := fun p hp => hE p.2 (by
      simp only [ho, Op.operands]
      rw [← Array.mem_toList_iff]
      simp only [List.mem_map]
      exact ⟨p, hp, rfl⟩)
    have e : (ps.toList.map fun p => (p.1, evalOf E' p.2)) = ps.toList.map fun p => (p.1, evalOf E p.2) := List.map_congr_left fun p hp' => by rw [hp p hp']
    rw [← e]; exact h
  | call c =>
    obtain ⟨cal, args, ats⟩ := c
    cases cal with
    | builtin b =>
      cases b <;> first
        | (simp only [opS, ho] at h ⊢
           have e : args.toList.map (evalOf E') = args.toList.map (evalOf E) := List.map_congr_left fun x hx => hE x (by
             simp only [ho, Op.operands, Call.operands]
             simpa using hx)
           rw [← e]
           split at h
           · exact h
           · split at h
             · rename_i row hrow
               rw [hR _ row hrow]; exact h
             · simp at h
           · exact h
           · exact h
           · simp at h)
        | simp [opS, ho] at h
    | value f => simp [opS, ho] at h
    | invoke r m => simp [opS, ho] at h
  | _ => simp [opS, ho] at h

theorem elsOf_mono {R R' : Nat → Option (List Ob)} (hR : ∀ r row, R' r = some row → R r = some row) {sz : Nat} {x : AV} {z : List (List AV) × List Prop} (h : elsOf sz R' x = some z) : elsOf sz R x = some z := by
  cases x with
  | osl r k lo len =>
    simp only [elsOf] at h ⊢
    split at h
    · rename_i ob hob
      rw [obIn_mono hR hob]; exact h
    · simp at h
  | _ => exact h

theorem opB_mono {P : Program} {E E' : Nat → AV} {R R' : Nat → Option (List Ob)} {nr : Nat} {b : Builtin} {args : List AV} {ats : List TypeId} {ans : Ans} {res : Res}
    (hR : ∀ r row, R' r = some row → R r = some row) (h : opB P E' R' nr b args ats ans = some res) : opB P E R nr b args ats ans = some res := by
  unfold opB at h ⊢
  split at h
  · split at h
    · simp at h
    · rename_i htt
      rw [if_neg htt]
      split at h
      · simp at h
      · split at h
        · split at h
          · simp at h
          · rename_i hc
            rw [if_neg hc]
            split at h
            · simp at h
            · rename_i ys o1 hels
              rw [elsOf_mono hR hels]
              simp only
              split at h
              · exact h
              · split at h
                · simp at h
                · rename_i row hrow
                  rw [hR _ row hrow]; exact h
              · simp at h
        · simp at h
  · exact h
  · simp at h

theorem opT_mono {P : Program} {E E' : Nat → AV} {R R' : Nat → Option (List Ob)} {nr : Nat} {o : Oper} {ans : Ans} {res : Res}
    (hE : ∀ x ∈ o.op.operands, evalOf E' x = evalOf E x) (hR : ∀ r row, R' r = some row → R r = some row) (h : opT P E' R' nr o ans = some res) : opT P E R nr o ans = some res := by
  unfold opT at h ⊢
  split at h
  · rename_i b args ats ho
    split at h
    · exact opS_mono hE hR h
    · have e : args.toList.map (evalOf E') = args.toList.map (evalOf E) := List.map_congr_left fun x hx => hE x (by
        simp only [ho, Op.operands, Call.operands]
        simpa using hx)
      rw [← e]
      exact opB_mono hR h
  · rename_i op t x y t' ho
    have ex := hE x (by simp [ho, Op.operands])
    have ey := hE y (by simp [ho, Op.operands])
    rw [← ex, ← ey]
    split at h
    · exact h
    · exact h
    · exact h
    · exact h
    · exact h
    · exact h
    · simp at h
    · exact opS_mono hE hR h
  · rename_i x ho
    have ex := hE x (by simp [ho, Op.operands])
    rw [← ex]
    split at h
    · exact h
    · simp at h
    · exact opS_mono hE hR h
  · exact opS_mono hE hR h

theorem runOp1_mono {P : Program} {s s' : S} {nr : Nat} {o : Oper} {ans : Ans} {res : Res}
    (hE : ∀ x ∈ o.op.operands, evalOf s'.E x = evalOf s.E x) (hR : ∀ r row, s'.R r = some row → s.R r = some row) (hr : runOp1 P s' nr o ans = some res) : runOp1 P s nr o ans = some res := by
  unfold runOp1 at hr ⊢
  split at hr
  · rename_i ca
    split at hr
    · rename_i f args ts ho
      simp only [ho] at hr hE ⊢
      have hf := hE f (by simp [Op.operands, Call.operands])
      have ha : args.toList.map (evalOf s'.E) = args.toList.map (evalOf s.E) := List.map_congr_left fun x hx => hE x (by
        simp only [Op.operands, Call.operands]
        simp only [Array.mem_append]; right; simpa using hx)
      rw [hf, ha] at hr
      split at hr
      · exact callS_mono hR hr
      · simp at hr
    · simp at hr
  · exact opT_mono hE hR hr

theorem runRe_mono {P : Program} {nr : Nat} {o : Oper} : ∀ (ans : Ans) (s s' : S) (res : Res), (∀ x ∈ o.op.operands, evalOf s'.E x = evalOf s.E x) → (∀ r row, s'.R r = some row → s.R r = some row) →
    runRe P nr o ans s' = some res → runRe P nr o ans s = some res
  | .re t v an, s, s', res, hE, hR, h => by
    unfold runRe at h ⊢
    split at h
    · rename_i hrd
      rw [if_pos hrd]
      have hin : Operand.tmp t ∈ o.op.operands := by
        unfold readsT at hrd
        rw [List.any_eq_true] at hrd
        obtain ⟨x, hx, hq⟩ := hrd
        cases x with
        | tmp u =>
          have : u = t := by simpa using hq
          subst this
          simpa using hx
        | _ => simp at hq
      have het : s'.E t = s.E t := hE _ hin
      split at h
      · rename_i r hr
        have := runRe_mono an { E := fun u => if u = t then v else s.E u, R := s.R } { E := fun u => if u = t then v else s'.E u, R := s'.R } r (fun x hx => by
          cases x with
          | tmp u =>
            show (if u = t then v else s'.E u) = (if u = t then v else s.E u)
            split
            · rfl
            · exact hE (.tmp u) hx
          | _ => rfl) hR hr
        rw [this]
        simp only
        rw [← het]; exact h
      · simp at h
    · simp at h
  | .fz r an, s, s', res, hE, hR, h => by
    unfold runRe at h ⊢
    split at h
    · rename_i row hrow
      rw [hR r row hrow]
      simp only
      split at h
      · rename_i res' hr
        have := runRe_mono an (s.setRow r (frzRow row)) (s'.setRow r (frzRow row)) res' hE (fun q row' hq => by
          simp only [S.setRow] at hq ⊢
          split at hq
          · rename_i e; rw [if_pos e]; exact hq
          · rename_i e; rw [if_neg e]; exact hR q row' hq) hr
        rw [this]
        exact h
      · simp at h
    · simp at h
  | .mg r n an, s, s', res, hE, hR, h => by
    unfold runRe at h ⊢
    split at h
    · rename_i res' hr
      rw [runRe_mono an s s' res' hE hR hr]
      exact mergeRes_mono hR h
    · simp at h
  | .none, s, s', res, hE, hR, h => by unfold runRe at h ⊢; exact runOp1_mono hE hR h
  | .br b, s, s', res, hE, hR, h => by unfold runRe at h ⊢; exact runOp1_mono hE hR h
  | .el c, s, s', res, hE, hR, h => by unfold runRe at h ⊢; exact runOp1_mono hE hR h
  | .obel ob c, s, s', res, hE, hR, h => by unfold runRe at h ⊢; exact runOp1_mono hE hR h
  | .bd, s, s', res, hE, hR, h => by unfold runRe at h ⊢; exact runOp1_mono hE hR h
  | .call c, s, s', res, hE, hR, h => by unfold runRe at h ⊢; exact runOp1_mono hE hR h
  | .app m, s, s', res, hE, hR, h => by unfold runRe at h ⊢; exact runOp1_mono hE hR h

/-! ### What an operation looks at -/

def tmpsOf (o : Oper) : List Nat := o.op.operands.toList.filterMap fun | .tmp t => some t | _ => none

def rowOf0 : AV → List Nat
  | .ref r _ _ _ => [r]
  | .osl r _ _ _ => [r]
  | .hsl r _ _ _ => [r]
  | _ => []

/-- The temporaries that an operation reads. -/
def rdT (ops : Array Oper) (o : Oper) : List Nat :=
  tmpsOf o ++ (match o.guard with
    | some (j, _) => ((ops[j]?).bind (·.dst)).toList
    | none => [])

/-- The rows that an operation reads. -/
def rdR (s : S) (o : Oper) : Ans → List Nat
  | .call ca => ca.rds
  | .re t v an => rdR { E := fun u => if u = t then v else s.E u, R := s.R } o an
  | .fz r an => r :: rdR s o an
  | .mg r _ an => r :: rdR s o an
  | _ => (tmpsOf o).flatMap fun t => rowOf0 (s.E t)

/-- What is there to be seen: the rest is dark. -/
def S.only (s : S) (ts rs : List Nat) : S := { E := fun t => if ts.contains t then s.E t else .dead, R := fun r => if rs.contains r then s.R r else none }

theorem stepR_mono {P : Program} {N : Nat} {ops : Array Oper} {s : S} {nr : Nat} {o : Oper} {an : Ans × Bool} {res : Res} {rs : List Nat}
    (h : stepR P N ops (s.only (rdT ops o) rs) nr o an = some res) : stepR P N ops s nr o an = some res := by
  have hE : ∀ x ∈ o.op.operands, evalOf (s.only (rdT ops o) rs).E x = evalOf s.E x := by
    intro x hx
    cases x with
    | tmp t =>
      have : t ∈ rdT ops o := by
        unfold rdT
        rw [List.mem_append]; left
        unfold tmpsOf
        rw [List.mem_filterMap]
        exact ⟨.tmp t, by simpa using hx, rfl⟩
      simp [evalOf, S.only, this]
    | _ => rfl
  have hR : ∀ r row, (s.only (rdT ops o) rs).R r = some row → s.R r = some row := by
    intro r row hr
    simp only [S.only] at hr
    split at hr
    · exact hr
    · simp at hr
  have h0 : ∀ r, runOp0 P (s.only (rdT ops o) rs) nr o an.1 = some r → runOp0 P s nr o an.1 = some r := fun r hr => runRe_mono an.1 s _ r hE hR hr
  have h1 : ∀ r, runOp P (s.only (rdT ops o) rs) nr o an.1 = some r → runOp P s nr o an.1 = some r := by
    intro r hr
    unfold runOp at hr ⊢
    split at hr
    · rename_i r' hr'
      rw [h0 r' hr']
      simp only
      split at hr
      · rename_i hc
        rw [if_pos]
        · exact hr
        · rw [List.all_eq_true] at hc ⊢
          intro p hp
          have := hc p hp
          simp only [Bool.or_eq_true, decide_eq_true_eq] at this ⊢
          rcases this with e | e
          · exact .inl e
          · right
            cases hq : (s.only (rdT ops o) rs).R p.1 with
            | none => rw [hq] at e; simp at e
            | some row => rw [hR _ row hq]; rfl
      · simp at hr
    · simp at hr
  unfold stepR at h ⊢
  split at h
  · simp at h
  · rename_i hdst
    rw [if_neg hdst]
    split at h
    · exact h1 _ h
    · rename_i j want hg
      split at h
      · simp at h
      · rename_i d hd
        have hin : d ∈ rdT ops o := by
          unfold rdT
          rw [List.mem_append]; right
          simp [hg, hd]
        have he : (s.only (rdT ops o) rs).E d = s.E d := by simp [S.only, hin]
        rw [he] at h
        split at h
        · split at h
          · rename_i hb
            rw [if_pos hb]
            split at h
            · rename_i r hr
              rw [h1 r hr]; exact h
            · simp at h
          · rename_i hb
            rw [if_neg hb]; exact h
        · exact h
        · simp at h

/-- The record of one operation. -/
structure Rec where
  o : Oper
  an : Ans × Bool
  ts : List Nat
  rs : List Nat
  res : Res

/-- The operations in the order of the text, each seeing what it looks at alone; a record each. -/
def runRec (P : Program) (N : Nat) (ops : Array Oper) : List Oper → List (Ans × Bool) → S → Nat → Option (S × List Rec)
  | [], [], s, _ => some (s, [])
  | o :: l, an :: ans, s, nr =>
    match stepR P N ops (s.only (rdT ops o) (nr :: rdR s o an.1)) nr o an with
    | some res => match runRec P N ops l ans (s.app o res) (nr + 1) with
      | some (s', rec) => some (s', ⟨o, an, rdT ops o, nr :: rdR s o an.1, res⟩ :: rec)
      | none => none
    | none => none
  | _, _, _, _ => none

def meets (a b : List Nat) : Bool := a.any fun x => b.contains x

/-- Does it matter which of the two comes first? -/
def conf (x y : Rec) : Bool :=
  meets x.o.dst.toList (y.ts ++ y.o.dst.toList) || meets x.ts y.o.dst.toList ||
  meets (x.res.upd.map (·.1)) (y.rs ++ y.res.upd.map (·.1)) || meets x.rs (y.res.upd.map (·.1))

end Go.VL
