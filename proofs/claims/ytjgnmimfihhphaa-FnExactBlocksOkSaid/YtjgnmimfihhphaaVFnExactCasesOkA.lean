/- Plain functions for the program's functions, and that calls come to them: printed by a program. No condition. -/
import Derived.Test.YtjgnmimfihhphaaV0
import Derived.Test.YtjgnmimfihhphaaVFnExactIsSteepA
import Derived.Test.YtjgnmimfihhphaaVFnExactLimitsOkA
namespace Go.Proofs.Ytjgnmimfihhphaa
open Go Go.VL

def laws_szIntS (v_a : (List Int)) (v_left : Int) : Option Int :=
  if (decide ((w64 (v_left - (len_ eI v_a))) < (0 : Int))) = true then
    some (-1)
  else
    some (w64 (v_left - (len_ eI v_a)))

theorem laws_szIntS_ok (v_a : (List Int)) (v_left : Int) : Wp (laws_szIntS v_a v_left) (fun r => Con PP 77 [.isl 1 (v_a.map eI), .n .i64 v_left] [] (.n .i64 r) []) := by
  unfold laws_szIntS
  exact .ite (fun h1 =>
    .ret (runF_con0 hmix (tape := [.reg [nt], .reg [nt, nt, nt, nt, nt], .reg [nt, nt], .br true, .reg [nt]]) (rr := ii) (by kernel_rfl) (.cons h1 .nil)))
    (fun h1 =>
    .ret (runF_con0 hmix (tape := [.reg [nt], .reg [nt, nt, nt, nt, nt], .reg [nt, nt], .br false, .reg [nt, nt]]) (rr := ii) (by kernel_rfl) (.cons h1 .nil)))

def laws_szIntSS_L1_head (v_a : (List (List Int))) (v_left : Int) (v_i : Int) : S := mkS [(0, .isl 1 (v_a.map (eL 1 eI))), (1, .n .i64 v_left), (5, .n .i64 v_i)] []

def laws_szIntSS_L1_ex : ((Int) ⊕ (Unit)) → Exit
  | .inl _ => .exit 0
  | .inr _ => .ret

def laws_szIntSS_L1_out (v_a : (List (List Int))) : ((Int) ⊕ (Unit)) → S
  | .inl a => mkS [(1, .n .i64 a)] []
  | .inr a => mkS [(4, .n .i64 (-1 : Int))] []

def laws_szIntSS_L1_body (v_a : (List (List Int))) (v_left : Int) (v_i : Int) : Option ((Int × Int) ⊕ ((Int) ⊕ (Unit))) :=
  if (decide (v_i < (len_ (eL 1 eI) v_a))) = true then
    if 0 ≤ v_i ∧ v_i < v_a.length then
    v_a[v_i.toNat]? >>= fun x3 =>
    laws_szIntS x3 v_left >>= fun r5 =>
    if (decide (r5 < (0 : Int))) = true then
      some (.inr (.inr ()))
    else
      some (.inl (r5, w64 (v_i + (1 : Int))))
    else none
  else
    some (.inr (.inl v_left))

def laws_szIntSS_L1 (v_a : (List (List Int))) (v_left : Int) (v_i : Int) : Option ((Int) ⊕ (Unit)) := iter (fun w : Int × Int => laws_szIntSS_L1_body v_a w.1 w.2) (v_left, v_i)

theorem laws_szIntSS_L1_body_ok (v_a : (List (List Int))) (v_left : Int) (v_i : Int) : Wp (laws_szIntSS_L1_body v_a v_left v_i) (Sum.elim
    (fun w => VEx PP 27 0 (nodeAt (bodyOf PP 30) [1, 1, 1, 0, 1, 0, 0]) .normal (laws_szIntSS_L1_head v_a v_left v_i) (laws_szIntSS_L1_head v_a w.1 w.2))
    (fun r => VEx PP 27 0 (nodeAt (bodyOf PP 30) [1, 1, 1, 0, 1, 0, 0]) (laws_szIntSS_L1_ex r) (laws_szIntSS_L1_head v_a v_left v_i) (laws_szIntSS_L1_out v_a r))) := by
  unfold laws_szIntSS_L1_body
  exact .ite (fun h1 =>
      .grd fun h2 =>
       .bnd fun x3 h4 =>
       .bnd fun r5 h6 =>
       .ite (fun h7 =>
       .ret ((okC_sound hmix (tape := [.reg [nt, nt, nt, nt], .br true, .reg [nt, nt, nt, (.el ((eL 1 eI) x3), true), nt, (.call { ac := [ii, ii], r := .n .i64 r5, sc := true }, true), nt], .reg [nt, nt], .br true, .reg [nt], .rst [] [] [(4, ii)]]) (nr := 0) (by kernel_rfl) (.cons h1 (.cons ((h2).1) (.cons (lt_mapI (h2).2 : v_i < ((v_a.map (eL 1 eI)).length : Nat)) (.cons (map_get h4 : (v_a.map (eL 1 eI))[v_i.toNat]? = some ((eL 1 eI) x3)) (.cons (laws_szIntS_ok x3 v_left r5 h6) (.cons (Sc.n _ _ : Sc (.n .i64 r5)) (.cons h7 .nil))))))) (mkS_free _ _) : VEx PP 27 0 (nodeAt (bodyOf PP 30) [1, 1, 1, 0, 1, 0, 0]) (.ret) (laws_szIntSS_L1_head v_a v_left v_i) (laws_szIntSS_L1_out v_a (.inr ())))))
       (fun h7 =>
       .ret ((okC_sound hmix (tape := [.reg [nt, nt, nt, nt], .br true, .reg [nt, nt, nt, (.el ((eL 1 eI) x3), true), nt, (.call { ac := [ii, ii], r := .n .i64 r5, sc := true }, true), nt], .reg [nt, nt], .br false, .reg [nt, nt, nt], .rst [] [] [(0, ii), (1, ii), (5, ii)]]) (nr := 0) (by kernel_rfl) (.cons h1 (.cons ((h2).1) (.cons (lt_mapI (h2).2 : v_i < ((v_a.map (eL 1 eI)).length : Nat)) (.cons (map_get h4 : (v_a.map (eL 1 eI))[v_i.toNat]? = some ((eL 1 eI) x3)) (.cons (laws_szIntS_ok x3 v_left r5 h6) (.cons (Sc.n _ _ : Sc (.n .i64 r5)) (.cons h7 .nil))))))) (mkS_free _ _) : VEx PP 27 0 (nodeAt (bodyOf PP 30) [1, 1, 1, 0, 1, 0, 0]) .normal (laws_szIntSS_L1_head v_a v_left v_i) (laws_szIntSS_L1_head v_a r5 (w64 (v_i + (1 : Int))))))))
      (fun h1 =>
      .ret ((okC_sound hmix (tape := [.reg [nt, nt, nt, nt], .br false, .rst [] [] [(1, ii)]]) (nr := 0) (by kernel_rfl) (.cons h1 .nil) (mkS_free _ _) : VEx PP 27 0 (nodeAt (bodyOf PP 30) [1, 1, 1, 0, 1, 0, 0]) (.exit 0) (laws_szIntSS_L1_head v_a v_left v_i) (laws_szIntSS_L1_out v_a (.inl v_left)))))

theorem laws_szIntSS_L1_ok (v_a : (List (List Int))) (v_left : Int) (v_i : Int) : ∀ r, laws_szIntSS_L1 v_a v_left v_i = some r → VLoop PP 27 0 (nodeAt (bodyOf PP 30) [1, 1, 1, 0, 1, 0, 0]) (laws_szIntSS_L1_ex r) (laws_szIntSS_L1_head v_a v_left v_i) (laws_szIntSS_L1_out v_a r) := fun r h =>
  iter_ok (head := fun w : Int × Int => laws_szIntSS_L1_head v_a w.1 w.2) (ex := laws_szIntSS_L1_ex) (out := laws_szIntSS_L1_out v_a) (by intro r; unfold laws_szIntSS_L1_ex; split <;> simp) (fun w => laws_szIntSS_L1_body_ok v_a w.1 w.2) (v_left, v_i) r h

def laws_szIntSS (v_a : (List (List Int))) (v_left : Int) : Option Int :=
  if (decide ((w64 (v_left - (len_ (eL 1 eI) v_a))) < (0 : Int))) = true then
    some (-1)
  else
    laws_szIntSS_L1 v_a (w64 (v_left - (len_ (eL 1 eI) v_a))) 0 >>= fun r2 =>
    match r2 with
    | .inl a4 => (some a4)
    | .inr a4 => (some (-1))

theorem laws_szIntSS_ok (v_a : (List (List Int))) (v_left : Int) : Wp (laws_szIntSS v_a v_left) (fun r => Con PP 30 [.isl 1 (v_a.map (eL 1 eI)), .n .i64 v_left] [] (.n .i64 r) []) := by
  unfold laws_szIntSS
  exact .ite (fun h1 =>
    .ret (runF_con0 hmix (tape := [.reg [nt], .reg [nt, nt, nt, nt, nt], .reg [nt, nt], .br true, .reg [nt]]) (rr := ii) (by kernel_rfl) (.cons h1 .nil)))
    (fun h1 =>
    .bnd fun r2 h3 =>
     match r2, h3 with
     | .inl a4, h3 => (.ret (runF_con0 hmix (tape := [.reg [nt], .reg [nt, nt, nt, nt, nt], .reg [nt, nt], .br false, .reg [nt], .rst [] [] [(0, ii), (1, ii), (5, ii)], .sub (.exit 0) [(1, .n .i64 a4)] [], .reg [nt, nt]]) (rr := ii) (by kernel_rfl) (.cons h1 (.cons ((laws_szIntSS_L1_ok v_a (w64 (v_left - (len_ (eL 1 eI) v_a))) 0 (.inl a4) h3).vex) .nil))))
     | .inr a4, h3 => (.ret (runF_con0 hmix (tape := [.reg [nt], .reg [nt, nt, nt, nt, nt], .reg [nt, nt], .br false, .reg [nt], .rst [] [] [(0, ii), (1, ii), (5, ii)], .sub (.ret) [(4, .n .i64 (-1 : Int))] []]) (rr := ii) (by kernel_rfl) (.cons h1 (.cons ((laws_szIntSS_L1_ok v_a (w64 (v_left - (len_ (eL 1 eI) v_a))) 0 (.inr a4) h3).vex) .nil)))))

def laws_toIntSS_L1_head (v_a : (List (List Int))) (v_out_len : Nat) (v_i : Int) (row0 : (List (List Int))) : S := mkS [(0, .isl 1 (v_a.map (eL 1 eI))), (3, .osl 0 0 0 v_out_len), (4, .n .i64 v_i)] [[Ob.mk 1 (row0.map (eL 1 eI)) .live]]

def laws_toIntSS_L1_ex : (List (List Int)) → Exit
  | _ => .exit 0

def laws_toIntSS_L1_out (v_a : (List (List Int))) (v_out_len : Nat) : (List (List Int)) → S
  | a => mkS [(3, .osl 0 0 0 v_out_len)] [[Ob.mk 1 (a.map (eL 1 eI)) .live]]

def laws_toIntSS_L1_body (v_a : (List (List Int))) (v_out_len : Nat) (v_i : Int) (row0 : (List (List Int))) : Option ((Int × (List (List Int))) ⊕ ((List (List Int)))) :=
  if (decide (v_i < (len_ (eL 1 eI) v_a))) = true then
    if 0 ≤ v_i ∧ v_i < v_a.length then
    v_a[v_i.toNat]? >>= fun x3 =>
    laws_toIntS x3 >>= fun r5 =>
    if 0 ≤ v_i ∧ v_i < (v_out_len : Nat) then
    if (0 + v_i.toNat) < row0.length then
    some (.inl (w64 (v_i + (1 : Int)), row0.set (0 + v_i.toNat) r5))
    else none
    else none
    else none
  else
    some (.inr row0)

def laws_toIntSS_L1 (v_a : (List (List Int))) (v_out_len : Nat) (v_i : Int) (row0 : (List (List Int))) : Option ((List (List Int))) := iter (fun w : Int × (List (List Int)) => laws_toIntSS_L1_body v_a v_out_len w.1 w.2) (v_i, row0)

theorem laws_toIntSS_L1_body_ok (v_a : (List (List Int))) (v_out_len : Nat) (v_i : Int) (row0 : (List (List Int))) : Wp (laws_toIntSS_L1_body v_a v_out_len v_i row0) (Sum.elim
    (fun w => VEx PP 23 0 (nodeAt (bodyOf PP 32) [1, 1, 0, 1, 0, 0]) .normal (laws_toIntSS_L1_head v_a v_out_len v_i row0) (laws_toIntSS_L1_head v_a v_out_len w.1 w.2))
    (fun r => VEx PP 23 0 (nodeAt (bodyOf PP 32) [1, 1, 0, 1, 0, 0]) (laws_toIntSS_L1_ex r) (laws_toIntSS_L1_head v_a v_out_len v_i row0) (laws_toIntSS_L1_out v_a v_out_len r))) := by
  unfold laws_toIntSS_L1_body
  exact .ite (fun h1 =>
      .grd fun h2 =>
       .bnd fun x3 h4 =>
       .bnd fun r5 h6 =>
       .grd fun h7 =>
       .grd fun h8 =>
       .ret ((okC_sound hmix (tape := [.reg [nt, nt, nt, nt], .br true, .reg [nt, nt, nt, nt, nt, (.el ((eL 1 eI) x3), true), (.call { ac := [ii], r := .isl 1 (r5.map eI), sc := false }, true), nt, (.bd, true)], .reg [nt, nt, nt], .rst [0] [.as [Ob.mk 1 ((row0.set (0 + v_i.toNat) r5).map (eL 1 eI)) .live]] [(0, ii), (3, ii), (4, ii)]]) (nr := 1) (by kernel_rfl) (.cons h1 (.cons ((h2).1) (.cons (lt_mapI (h2).2 : v_i < ((v_a.map (eL 1 eI)).length : Nat)) (.cons (map_get h4 : (v_a.map (eL 1 eI))[v_i.toNat]? = some ((eL 1 eI) x3)) (.cons (laws_toIntS_ok x3 r5 h6) (.cons ((h7).1) (.cons ((h7).2) (.cons (lt_map h8 : (0 + v_i.toNat) < (row0.map (eL 1 eI)).length) (.cons (rfl : 1 = 1) (.cons (row_prf (set_prf (rfl : (row0.map (eL 1 eI)) = (row0.map (eL 1 eI))) (0 + v_i.toNat) r5) : [Ob.mk 1 ((row0.map (eL 1 eI)).set (0 + v_i.toNat) [.isl 1 (r5.map eI)]) .live] = [Ob.mk 1 ((row0.set (0 + v_i.toNat) r5).map (eL 1 eI)) .live]) (.cons (pure_row (eL_pure (sz := 1) eI_pure) (row0.set (0 + v_i.toNat) r5) : PureRow [Ob.mk 1 ((row0.set (0 + v_i.toNat) r5).map (eL 1 eI)) .live]) .nil))))))))))) (mkS_free _ _) : VEx PP 23 0 (nodeAt (bodyOf PP 32) [1, 1, 0, 1, 0, 0]) .normal (laws_toIntSS_L1_head v_a v_out_len v_i row0) (laws_toIntSS_L1_head v_a v_out_len (w64 (v_i + (1 : Int))) (row0.set (0 + v_i.toNat) r5)))))
      (fun h1 =>
      .ret ((okC_sound hmix (tape := [.reg [nt, nt, nt, nt], .br false, .rst [0] [.pure] [(3, ii)]]) (nr := 1) (by kernel_rfl) (.cons h1 (.cons (pure_row (eL_pure (sz := 1) eI_pure) row0 : PureRow [Ob.mk 1 (row0.map (eL 1 eI)) .live]) .nil)) (mkS_free _ _) : VEx PP 23 0 (nodeAt (bodyOf PP 32) [1, 1, 0, 1, 0, 0]) (.exit 0) (laws_toIntSS_L1_head v_a v_out_len v_i row0) (laws_toIntSS_L1_out v_a v_out_len row0))))

theorem laws_toIntSS_L1_ok (v_a : (List (List Int))) (v_out_len : Nat) (v_i : Int) (row0 : (List (List Int))) : ∀ r, laws_toIntSS_L1 v_a v_out_len v_i row0 = some r → VLoop PP 23 0 (nodeAt (bodyOf PP 32) [1, 1, 0, 1, 0, 0]) (laws_toIntSS_L1_ex r) (laws_toIntSS_L1_head v_a v_out_len v_i row0) (laws_toIntSS_L1_out v_a v_out_len r) := fun r h =>
  iter_ok (head := fun w : Int × (List (List Int)) => laws_toIntSS_L1_head v_a v_out_len w.1 w.2) (ex := laws_toIntSS_L1_ex) (out := laws_toIntSS_L1_out v_a v_out_len) (by intro r; unfold laws_toIntSS_L1_ex; split <;> simp) (fun w => laws_toIntSS_L1_body_ok v_a v_out_len w.1 w.2) (v_i, row0) r h

def laws_toIntSS (v_a : (List (List Int))) : Option (List (List Int)) :=
  if 0 ≤ (len_ (eL 1 eI) v_a) ∧ (24 : Int) * (len_ (eL 1 eI) v_a) ≤ 281474976710656 ∧ (len_ (eL 1 eI) v_a) < 9223372036854775808 then
  laws_toIntSS_L1 v_a ((len_ (eL 1 eI) v_a).toNat) 0 (List.replicate (len_ (eL 1 eI) v_a).toNat ([] : List Int)) >>= fun r2 =>
  if 0 + (len_ (eL 1 eI) v_a).toNat ≤ r2.length then
  some ((r2.drop 0).take ((len_ (eL 1 eI) v_a).toNat))
  else none
  else none

theorem laws_toIntSS_ok (v_a : (List (List Int))) : Wp (laws_toIntSS v_a) (fun r => Con PP 32 [.isl 1 (v_a.map (eL 1 eI))] [] (.isl 1 (r.map (eL 1 eI))) []) := by
  unfold laws_toIntSS
  exact .grd fun h1 =>
    .bnd fun r2 h3 =>
    .grd fun h4 =>
    .ret (runF_con0 hmix (tape := [.reg [nt], .reg [nt, nt, (.el [.isl 1 (([] : List Int).map eI)], true), nt], .reg [nt], .rst [3] [.as [Ob.mk 1 ((List.replicate (len_ (eL 1 eI) v_a).toNat ([] : List Int)).map (eL 1 eI)) .live]] [(0, ii), (3, ii), (4, ii)], .sub (.exit 0) [(3, .osl 0 0 0 ((len_ (eL 1 eI) v_a).toNat))] [[Ob.mk 1 (r2.map (eL 1 eI)) .live]], .reg [nt, nt]]) (rr := .c1 (.c0 (.sl (((r2.drop 0).take ((len_ (eL 1 eI) v_a).toNat)).map (eL 1 eI))))) (by kernel_rfl) (.cons ((h1).1) (.cons (Int.le_refl (len_ (eL 1 eI) v_a)) (.cons ((h1).2.1) (.cons ((h1).2.2) (.cons (row_prf (rep_prf (eL 1 eI) (len_ (eL 1 eI) v_a).toNat ([] : List Int)) : [Ob.mk 1 (List.replicate (len_ (eL 1 eI) v_a).toNat [.isl 1 (([] : List Int).map eI)]) .live] = [Ob.mk 1 ((List.replicate (len_ (eL 1 eI) v_a).toNat ([] : List Int)).map (eL 1 eI)) .live]) (.cons (pure_row (eL_pure (sz := 1) eI_pure) (List.replicate (len_ (eL 1 eI) v_a).toNat ([] : List Int)) : PureRow [Ob.mk 1 ((List.replicate (len_ (eL 1 eI) v_a).toNat ([] : List Int)).map (eL 1 eI)) .live]) (.cons ((laws_toIntSS_L1_ok v_a ((len_ (eL 1 eI) v_a).toNat) 0 (List.replicate (len_ (eL 1 eI) v_a).toNat ([] : List Int)) r2 h3).vex) (.cons (snap_prf (rfl : (r2.map (eL 1 eI)) = (r2.map (eL 1 eI))) 0 ((len_ (eL 1 eI) v_a).toNat)) (.cons (fit_prf (rfl : (r2.map (eL 1 eI)) = (r2.map (eL 1 eI))) h4) (.cons (pure_map (eL_pure (sz := 1) eI_pure) ((r2.drop 0).take ((len_ (eL 1 eI) v_a).toNat))) .nil)))))))))))

def spec_LoadOk_L1_head (v_t19 : (List Int)) (v_t20 : Int) (v_t21 : Int) : S := mkS [(19, .isl 1 (v_t19.map eI)), (20, .n .i64 v_t20), (21, .n .i64 v_t21)] []

def spec_LoadOk_L1_ex : ((Unit) ⊕ (Unit)) → Exit
  | .inl _ => .exit 0
  | .inr _ => .ret

def spec_LoadOk_L1_out (v_t19 : (List Int)) (v_t20 : Int) : ((Unit) ⊕ (Unit)) → S
  | .inl a => mkS [] []
  | .inr a => mkS [(4, .b false)] []

def spec_LoadOk_L1_body (v_t19 : (List Int)) (v_t20 : Int) (v_t21 : Int) : Option ((Int) ⊕ ((Unit) ⊕ (Unit))) :=
  if (decide (v_t21 < v_t20)) = true then
    if 0 ≤ v_t21 ∧ v_t21 < v_t19.length then
    v_t19[v_t21.toNat]? >>= fun x3 =>
    spec_l01In x3 (-100) 100 >>= fun r5 =>
    if r5 = true then
      some (.inl (w64 (v_t21 + (1 : Int))))
    else
      some (.inr (.inr ()))
    else none
  else
    some (.inr (.inl ()))

def spec_LoadOk_L1 (v_t19 : (List Int)) (v_t20 : Int) (v_t21 : Int) : Option ((Unit) ⊕ (Unit)) := iter (fun w : Int => spec_LoadOk_L1_body v_t19 v_t20 w) v_t21

theorem spec_LoadOk_L1_body_ok (v_t19 : (List Int)) (v_t20 : Int) (v_t21 : Int) : Wp (spec_LoadOk_L1_body v_t19 v_t20 v_t21) (Sum.elim
    (fun w => VEx PP 29 0 (nodeAt (bodyOf PP 78) [1, 1, 0, 1, 0, 0]) .normal (spec_LoadOk_L1_head v_t19 v_t20 v_t21) (spec_LoadOk_L1_head v_t19 v_t20 w))
    (fun r => VEx PP 29 0 (nodeAt (bodyOf PP 78) [1, 1, 0, 1, 0, 0]) (spec_LoadOk_L1_ex r) (spec_LoadOk_L1_head v_t19 v_t20 v_t21) (spec_LoadOk_L1_out v_t19 v_t20 r))) := by
  unfold spec_LoadOk_L1_body
  exact .ite (fun h1 =>
      .grd fun h2 =>
       .bnd fun x3 h4 =>
       .bnd fun r5 h6 =>
       .ite (fun h7 =>
       .ret ((okC_sound hmix (tape := [.reg [nt], .br true, .reg [nt, (.el (eI x3), true), nt], .reg [nt, (.call { ac := [ii, ii, ii], r := .b r5, sc := true }, true), nt], .br false, .reg [nt, nt], .rst [] [] [(19, ii), (20, ii), (21, ii)]]) (nr := 0) (by kernel_rfl) (.cons h1 (.cons ((h2).1) (.cons (lt_mapI (h2).2 : v_t21 < ((v_t19.map eI).length : Nat)) (.cons (map_get h4 : (v_t19.map eI)[v_t21.toNat]? = some (eI x3)) (.cons (spec_l01In_ok x3 (-100) 100 r5 h6) (.cons (Sc.b _ : Sc (.b r5)) (.cons (not_t h7) .nil))))))) (mkS_free _ _) : VEx PP 29 0 (nodeAt (bodyOf PP 78) [1, 1, 0, 1, 0, 0]) .normal (spec_LoadOk_L1_head v_t19 v_t20 v_t21) (spec_LoadOk_L1_head v_t19 v_t20 (w64 (v_t21 + (1 : Int)))))))
       (fun h7 =>
       .ret ((okC_sound hmix (tape := [.reg [nt], .br true, .reg [nt, (.el (eI x3), true), nt], .reg [nt, (.call { ac := [ii, ii, ii], r := .b r5, sc := true }, true), nt], .br true, .reg [nt], .rst [] [] [(4, ii)]]) (nr := 0) (by kernel_rfl) (.cons h1 (.cons ((h2).1) (.cons (lt_mapI (h2).2 : v_t21 < ((v_t19.map eI).length : Nat)) (.cons (map_get h4 : (v_t19.map eI)[v_t21.toNat]? = some (eI x3)) (.cons (spec_l01In_ok x3 (-100) 100 r5 h6) (.cons (Sc.b _ : Sc (.b r5)) (.cons (not_f h7) .nil))))))) (mkS_free _ _) : VEx PP 29 0 (nodeAt (bodyOf PP 78) [1, 1, 0, 1, 0, 0]) (.ret) (spec_LoadOk_L1_head v_t19 v_t20 v_t21) (spec_LoadOk_L1_out v_t19 v_t20 (.inr ()))))))
      (fun h1 =>
      .ret ((okC_sound hmix (tape := [.reg [nt], .br false, .rst [] [] []]) (nr := 0) (by kernel_rfl) (.cons h1 .nil) (mkS_free _ _) : VEx PP 29 0 (nodeAt (bodyOf PP 78) [1, 1, 0, 1, 0, 0]) (.exit 0) (spec_LoadOk_L1_head v_t19 v_t20 v_t21) (spec_LoadOk_L1_out v_t19 v_t20 (.inl ())))))

theorem spec_LoadOk_L1_ok (v_t19 : (List Int)) (v_t20 : Int) (v_t21 : Int) : ∀ r, spec_LoadOk_L1 v_t19 v_t20 v_t21 = some r → VLoop PP 29 0 (nodeAt (bodyOf PP 78) [1, 1, 0, 1, 0, 0]) (spec_LoadOk_L1_ex r) (spec_LoadOk_L1_head v_t19 v_t20 v_t21) (spec_LoadOk_L1_out v_t19 v_t20 r) := fun r h =>
  iter_ok (head := fun w : Int => spec_LoadOk_L1_head v_t19 v_t20 w) (ex := spec_LoadOk_L1_ex) (out := spec_LoadOk_L1_out v_t19 v_t20) (by intro r; unfold spec_LoadOk_L1_ex; split <;> simp) (fun w => spec_LoadOk_L1_body_ok v_t19 v_t20 w) v_t21 r h

def spec_LoadOk (v_s : TStructure) (v_l : (List Int)) : Option Bool :=
  spec_StructureOk v_s >>= fun r1 =>
  if r1 = true then
    if ((len_ eI v_l) != (w64 ((2 : Int) * (len_ eTJoint v_s.fJoints)))) = true then
      some false
    else
      spec_LoadOk_L1 v_l (len_ eI v_l) 0 >>= fun r5 =>
      match r5 with
      | .inl a7 => (some true)
      | .inr a7 => (some false)
  else
    some false

theorem spec_LoadOk_ok (v_s : TStructure) (v_l : (List Int)) : Wp (spec_LoadOk v_s v_l) (fun r => Con PP 78 [.agg [.isl 4 (v_s.fJoints.map eTJoint), .isl 3 (v_s.fMembers.map eTMember)], .isl 1 (v_l.map eI)] [] (.b r) []) := by
  unfold spec_LoadOk
  exact .bnd fun r1 h2 =>
    .ite (fun h3 =>
    .ite (fun h4 =>
     .ret (runF_con0 hmix (tape := [.reg [nt, nt], .reg [nt, (.call { ac := [ii], r := .b r1, sc := true }, true), nt, nt, nt, nt, nt, nt, nt, nt, nt, (.br false, true)], .br true, .reg [nt]]) (rr := ii) (by kernel_rfl) (.cons (spec_StructureOk_ok v_s r1 h2) (.cons (Sc.b _ : Sc (.b r1)) (.cons (not_t h3) (.cons (not_t h3) (.cons (not_t h3) (.cons (not_t h3) (.cons (not_t h3) (.cons (not_t h3) (.cons (not_t h3) (.cons (not_t h3) (.cons h4 .nil)))))))))))))
     (fun h4 =>
     .bnd fun r5 h6 =>
      match r5, h6 with
      | .inl a7, h6 => (.ret (runF_con0 hmix (tape := [.reg [nt, nt], .reg [nt, (.call { ac := [ii], r := .b r1, sc := true }, true), nt, nt, nt, nt, nt, nt, nt, nt, nt, (.br false, true)], .br false, .reg [nt, nt, nt], .rst [] [] [(19, ii), (20, ii), (21, ii)], .sub (.exit 0) [] [], .reg [nt]]) (rr := ii) (by kernel_rfl) (.cons (spec_StructureOk_ok v_s r1 h2) (.cons (Sc.b _ : Sc (.b r1)) (.cons (not_t h3) (.cons (not_t h3) (.cons (not_t h3) (.cons (not_t h3) (.cons (not_t h3) (.cons (not_t h3) (.cons (not_t h3) (.cons (not_t h3) (.cons h4 (.cons ((spec_LoadOk_L1_ok v_l (len_ eI v_l) 0 (.inl a7) h6).vex) .nil))))))))))))))
      | .inr a7, h6 => (.ret (runF_con0 hmix (tape := [.reg [nt, nt], .reg [nt, (.call { ac := [ii], r := .b r1, sc := true }, true), nt, nt, nt, nt, nt, nt, nt, nt, nt, (.br false, true)], .br false, .reg [nt, nt, nt], .rst [] [] [(19, ii), (20, ii), (21, ii)], .sub (.ret) [(4, .b false)] []]) (rr := ii) (by kernel_rfl) (.cons (spec_StructureOk_ok v_s r1 h2) (.cons (Sc.b _ : Sc (.b r1)) (.cons (not_t h3) (.cons (not_t h3) (.cons (not_t h3) (.cons (not_t h3) (.cons (not_t h3) (.cons (not_t h3) (.cons (not_t h3) (.cons (not_t h3) (.cons h4 (.cons ((spec_LoadOk_L1_ok v_l (len_ eI v_l) 0 (.inr a7) h6).vex) .nil))))))))))))))))
    (fun h3 =>
    .ret (runF_con0 hmix (tape := [.reg [nt, nt], .reg [nt, (.call { ac := [ii], r := .b r1, sc := true }, true), nt, nt, nf, nf, nf, nf, nf, nf, nf, (.br true, true)], .br true, .reg [nt]]) (rr := ii) (by kernel_rfl) (.cons (spec_StructureOk_ok v_s r1 h2) (.cons (Sc.b _ : Sc (.b r1)) (.cons (not_f h3) (.cons (not_f h3) (.cons (not_f h3) (.cons (not_f h3) (.cons (not_f h3) (.cons (not_f h3) (.cons (not_f h3) (.cons (not_f h3) (.cons (rfl : true = true) .nil)))))))))))))

def spec_CasesOk_L1_head (v_t11 : (List (List Int))) (v_t12 : Int) (box0_ : (List TJoint)) (box0_' : (List TMember)) (v_t13 : Int) : S := mkS [(2, .ref 0 0 0 0), (11, .isl 1 (v_t11.map (eL 1 eI))), (12, .n .i64 v_t12), (13, .n .i64 v_t13)] [[Ob.mk 2 [[.isl 4 (box0_.map eTJoint), .isl 3 (box0_'.map eTMember)]] .live]]

def spec_CasesOk_L1_ex : ((Unit) ⊕ (Unit)) → Exit
  | .inl _ => .exit 0
  | .inr _ => .ret

def spec_CasesOk_L1_out (v_t11 : (List (List Int))) (v_t12 : Int) (box0_ : (List TJoint)) (box0_' : (List TMember)) : ((Unit) ⊕ (Unit)) → S
  | .inl a => mkS [] []
  | .inr a => mkS [(4, .b false)] []

def spec_CasesOk_L1_body (v_t11 : (List (List Int))) (v_t12 : Int) (box0_ : (List TJoint)) (box0_' : (List TMember)) (v_t13 : Int) : Option ((Int) ⊕ ((Unit) ⊕ (Unit))) :=
  if (decide (v_t13 < v_t12)) = true then
    if 0 ≤ v_t13 ∧ v_t13 < v_t11.length then
    v_t11[v_t13.toNat]? >>= fun x3 =>
    spec_LoadOk (⟨box0_, box0_'⟩ : TStructure) x3 >>= fun r5 =>
    if r5 = true then
      some (.inl (w64 (v_t13 + (1 : Int))))
    else
      some (.inr (.inr ()))
    else none
  else
    some (.inr (.inl ()))

def spec_CasesOk_L1 (v_t11 : (List (List Int))) (v_t12 : Int) (box0_ : (List TJoint)) (box0_' : (List TMember)) (v_t13 : Int) : Option ((Unit) ⊕ (Unit)) := iter (fun w : Int => spec_CasesOk_L1_body v_t11 v_t12 box0_ box0_' w) v_t13

theorem spec_CasesOk_L1_body_ok (v_t11 : (List (List Int))) (v_t12 : Int) (box0_ : (List TJoint)) (box0_' : (List TMember)) (v_t13 : Int) : Wp (spec_CasesOk_L1_body v_t11 v_t12 box0_ box0_' v_t13) (Sum.elim
    (fun w => VEx PP 22 0 (nodeAt (bodyOf PP 31) [1, 1, 0, 1, 0, 0]) .normal (spec_CasesOk_L1_head v_t11 v_t12 box0_ box0_' v_t13) (spec_CasesOk_L1_head v_t11 v_t12 box0_ box0_' w))
    (fun r => VEx PP 22 0 (nodeAt (bodyOf PP 31) [1, 1, 0, 1, 0, 0]) (spec_CasesOk_L1_ex r) (spec_CasesOk_L1_head v_t11 v_t12 box0_ box0_' v_t13) (spec_CasesOk_L1_out v_t11 v_t12 box0_ box0_' r))) := by
  unfold spec_CasesOk_L1_body
  exact .ite (fun h1 =>
      .grd fun h2 =>
       .bnd fun x3 h4 =>
       .bnd fun r5 h6 =>
       .ite (fun h7 =>
       .ret ((okC_sound hmix (tape := [.reg [nt], .br true, .reg [nt, (.el ((eL 1 eI) x3), true), nt], .reg [nt, nt, (.call { ac := [ii, ii], r := .b r5, sc := true }, true), nt], .br false, .reg [nt, nt], .rst [0] [.box [.id, .id]] [(2, ii), (11, ii), (12, ii), (13, ii)]]) (nr := 1) (by kernel_rfl) (.cons h1 (.cons ((h2).1) (.cons (lt_mapI (h2).2 : v_t13 < ((v_t11.map (eL 1 eI)).length : Nat)) (.cons (map_get h4 : (v_t11.map (eL 1 eI))[v_t13.toNat]? = some ((eL 1 eI) x3)) (.cons (spec_LoadOk_ok (⟨box0_, box0_'⟩ : TStructure) x3 r5 h6) (.cons (Sc.b _ : Sc (.b r5)) (.cons (not_t h7) .nil))))))) (mkS_free _ _) : VEx PP 22 0 (nodeAt (bodyOf PP 31) [1, 1, 0, 1, 0, 0]) .normal (spec_CasesOk_L1_head v_t11 v_t12 box0_ box0_' v_t13) (spec_CasesOk_L1_head v_t11 v_t12 box0_ box0_' (w64 (v_t13 + (1 : Int)))))))
       (fun h7 =>
       .ret ((okC_sound hmix (tape := [.reg [nt], .br true, .reg [nt, (.el ((eL 1 eI) x3), true), nt], .reg [nt, nt, (.call { ac := [ii, ii], r := .b r5, sc := true }, true), nt], .br true, .reg [nt], .rst [] [] [(4, ii)]]) (nr := 1) (by kernel_rfl) (.cons h1 (.cons ((h2).1) (.cons (lt_mapI (h2).2 : v_t13 < ((v_t11.map (eL 1 eI)).length : Nat)) (.cons (map_get h4 : (v_t11.map (eL 1 eI))[v_t13.toNat]? = some ((eL 1 eI) x3)) (.cons (spec_LoadOk_ok (⟨box0_, box0_'⟩ : TStructure) x3 r5 h6) (.cons (Sc.b _ : Sc (.b r5)) (.cons (not_f h7) .nil))))))) (mkS_free _ _) : VEx PP 22 0 (nodeAt (bodyOf PP 31) [1, 1, 0, 1, 0, 0]) (.ret) (spec_CasesOk_L1_head v_t11 v_t12 box0_ box0_' v_t13) (spec_CasesOk_L1_out v_t11 v_t12 box0_ box0_' (.inr ()))))))
      (fun h1 =>
      .ret ((okC_sound hmix (tape := [.reg [nt], .br false, .rst [] [] []]) (nr := 1) (by kernel_rfl) (.cons h1 .nil) (mkS_free _ _) : VEx PP 22 0 (nodeAt (bodyOf PP 31) [1, 1, 0, 1, 0, 0]) (.exit 0) (spec_CasesOk_L1_head v_t11 v_t12 box0_ box0_' v_t13) (spec_CasesOk_L1_out v_t11 v_t12 box0_ box0_' (.inl ())))))

theorem spec_CasesOk_L1_ok (v_t11 : (List (List Int))) (v_t12 : Int) (box0_ : (List TJoint)) (box0_' : (List TMember)) (v_t13 : Int) : ∀ r, spec_CasesOk_L1 v_t11 v_t12 box0_ box0_' v_t13 = some r → VLoop PP 22 0 (nodeAt (bodyOf PP 31) [1, 1, 0, 1, 0, 0]) (spec_CasesOk_L1_ex r) (spec_CasesOk_L1_head v_t11 v_t12 box0_ box0_' v_t13) (spec_CasesOk_L1_out v_t11 v_t12 box0_ box0_' r) := fun r h =>
  iter_ok (head := fun w : Int => spec_CasesOk_L1_head v_t11 v_t12 box0_ box0_' w) (ex := spec_CasesOk_L1_ex) (out := spec_CasesOk_L1_out v_t11 v_t12 box0_ box0_') (by intro r; unfold spec_CasesOk_L1_ex; split <;> simp) (fun w => spec_CasesOk_L1_body_ok v_t11 v_t12 box0_ box0_' w) v_t13 r h

def spec_CasesOk (v_s : TStructure) (v_cases : (List (List Int))) : Option Bool :=
  spec_l01In (len_ (eL 1 eI) v_cases) 1 6 >>= fun r1 =>
  if r1 = true then
    spec_CasesOk_L1 v_cases (len_ (eL 1 eI) v_cases) v_s.fJoints v_s.fMembers 0 >>= fun r4 =>
    match r4 with
    | .inl a6 => (some true)
    | .inr a6 => (some false)
  else
    some false

theorem spec_CasesOk_ok (v_s : TStructure) (v_cases : (List (List Int))) : Wp (spec_CasesOk v_s v_cases) (fun r => Con PP 31 [.agg [.isl 4 (v_s.fJoints.map eTJoint), .isl 3 (v_s.fMembers.map eTMember)], .isl 1 (v_cases.map (eL 1 eI))] [] (.b r) []) := by
  unfold spec_CasesOk
  exact .bnd fun r1 h2 =>
    .ite (fun h3 =>
    .bnd fun r4 h5 =>
     match r4, h5 with
     | .inl a6, h5 => (.ret (runF_con0 hmix (tape := [.reg [nt, nt], .reg [nt, nt, (.call { ac := [ii, ii, ii], r := .b r1, sc := true }, true), nt], .br false, .reg [nt, nt, nt], .rst [0] [.box [.id, .id]] [(2, ii), (11, ii), (12, ii), (13, ii)], .sub (.exit 0) [] [], .reg [nt]]) (rr := ii) (by kernel_rfl) (.cons (spec_l01In_ok (len_ (eL 1 eI) v_cases) 1 6 r1 h2) (.cons (Sc.b _ : Sc (.b r1)) (.cons (not_t h3) (.cons ((spec_CasesOk_L1_ok v_cases (len_ (eL 1 eI) v_cases) v_s.fJoints v_s.fMembers 0 (.inl a6) h5).vex) .nil))))))
     | .inr a6, h5 => (.ret (runF_con0 hmix (tape := [.reg [nt, nt], .reg [nt, nt, (.call { ac := [ii, ii, ii], r := .b r1, sc := true }, true), nt], .br false, .reg [nt, nt, nt], .rst [0] [.box [.id, .id]] [(2, ii), (11, ii), (12, ii), (13, ii)], .sub (.ret) [(4, .b false)] []]) (rr := ii) (by kernel_rfl) (.cons (spec_l01In_ok (len_ (eL 1 eI) v_cases) 1 6 r1 h2) (.cons (Sc.b _ : Sc (.b r1)) (.cons (not_t h3) (.cons ((spec_CasesOk_L1_ok v_cases (len_ (eL 1 eI) v_cases) v_s.fJoints v_s.fMembers 0 (.inr a6) h5).vex) .nil)))))))
    (fun h3 =>
    .ret (runF_con0 hmix (tape := [.reg [nt, nt], .reg [nt, nt, (.call { ac := [ii, ii, ii], r := .b r1, sc := true }, true), nt], .br true, .reg [nt]]) (rr := ii) (by kernel_rfl) (.cons (spec_l01In_ok (len_ (eL 1 eI) v_cases) 1 6 r1 h2) (.cons (Sc.b _ : Sc (.b r1)) (.cons (not_f h3) .nil)))))

def impl_isForce (v_n : Int) : Option Bool :=
  if (decide ((-100 : Int) ≤ v_n)) = true then
    some (decide (v_n ≤ (100 : Int)))
  else
    some false

theorem impl_isForce_ok (v_n : Int) : Wp (impl_isForce v_n) (fun r => Con PP 130 [.n .i64 v_n] [] (.b r) []) := by
  unfold impl_isForce
  exact .ite (fun h1 =>
    .ret (runF_con0 hmix (tape := [.reg [nt], .reg [nt, nt, nt, nt, nt, (.br true, true), nt]]) (rr := ii) (by kernel_rfl) (.cons h1 (.cons h1 (.cons h1 .nil)))))
    (fun h1 =>
    .ret (runF_con0 hmix (tape := [.reg [nt], .reg [nt, nt, nt, nf, nf, (.br false, true), nt]]) (rr := ii) (by kernel_rfl) (.cons h1 (.cons h1 (.cons h1 .nil)))))

def impl_fitsLoad_1 (v_n : Int) : Option Bool :=
  impl_isForce v_n >>= fun r1 =>
  some (!r1)

theorem impl_fitsLoad_1_ok (v_n : Int) : Wp (impl_fitsLoad_1 v_n) (fun r => Con PP 129 [.n .i64 v_n] [] (.b r) []) := by
  unfold impl_fitsLoad_1
  exact .bnd fun r1 h2 =>
    .ret (runF_con0 hmix (tape := [.reg [nt], .reg [nt, (.call { ac := [ii], r := .b r1, sc := true }, true), nt, nt]]) (rr := ii) (by kernel_rfl) (.cons (impl_isForce_ok v_n r1 h2) (.cons (Sc.b _ : Sc (.b r1)) .nil)))

def slices_IndexFunc'''_L1_head (v_s : (List Int)) (v_t7 : Int) (v_t8 : Int) : S := mkS [(0, .isl 1 (v_s.map eI)), (1, .fn 129 []), (7, .n .i64 v_t7), (8, .n .i64 v_t8)] []

def slices_IndexFunc'''_L1_ex : ((Unit) ⊕ (Int)) → Exit
  | .inl _ => .exit 0
  | .inr _ => .ret

def slices_IndexFunc'''_L1_out (v_s : (List Int)) (v_t7 : Int) : ((Unit) ⊕ (Int)) → S
  | .inl a => mkS [] []
  | .inr a => mkS [(4, .n .i64 a)] []

def slices_IndexFunc'''_L1_body (v_s : (List Int)) (v_t7 : Int) (v_t8 : Int) : Option ((Int) ⊕ ((Unit) ⊕ (Int))) :=
  if (decide (v_t8 < v_t7)) = true then
    if 0 ≤ v_t8 ∧ v_t8 < v_s.length then
    v_s[v_t8.toNat]? >>= fun x3 =>
    impl_fitsLoad_1 x3 >>= fun r5 =>
    if r5 = true then
      some (.inr (.inr v_t8))
    else
      some (.inl (w64 (v_t8 + (1 : Int))))
    else none
  else
    some (.inr (.inl ()))

def slices_IndexFunc'''_L1 (v_s : (List Int)) (v_t7 : Int) (v_t8 : Int) : Option ((Unit) ⊕ (Int)) := iter (fun w : Int => slices_IndexFunc'''_L1_body v_s v_t7 w) v_t8

theorem slices_IndexFunc'''_L1_body_ok (v_s : (List Int)) (v_t7 : Int) (v_t8 : Int) : Wp (slices_IndexFunc'''_L1_body v_s v_t7 v_t8) (Sum.elim
    (fun w => VEx PP 19 0 (nodeAt (bodyOf PP 127) [1, 0, 1, 0, 0]) .normal (slices_IndexFunc'''_L1_head v_s v_t7 v_t8) (slices_IndexFunc'''_L1_head v_s v_t7 w))
    (fun r => VEx PP 19 0 (nodeAt (bodyOf PP 127) [1, 0, 1, 0, 0]) (slices_IndexFunc'''_L1_ex r) (slices_IndexFunc'''_L1_head v_s v_t7 v_t8) (slices_IndexFunc'''_L1_out v_s v_t7 r))) := by
  unfold slices_IndexFunc'''_L1_body
  exact .ite (fun h1 =>
      .grd fun h2 =>
       .bnd fun x3 h4 =>
       .bnd fun r5 h6 =>
       .ite (fun h7 =>
       .ret ((okC_sound hmix (tape := [.reg [nt], .br true, .reg [nt, nt], .reg [nt, nt, nt, nt, (.el (eI x3), true), (.call { ac := [ii], r := .b r5, sc := true }, true)], .br true, .reg [nt, nt], .rst [] [] [(4, ii)]]) (nr := 0) (by kernel_rfl) (.cons h1 (.cons ((h2).1) (.cons (lt_mapI (h2).2 : v_t8 < ((v_s.map eI).length : Nat)) (.cons (map_get h4 : (v_s.map eI)[v_t8.toNat]? = some (eI x3)) (.cons (impl_fitsLoad_1_ok x3 r5 h6) (.cons (Sc.b _ : Sc (.b r5)) (.cons h7 .nil))))))) (mkS_free _ _) : VEx PP 19 0 (nodeAt (bodyOf PP 127) [1, 0, 1, 0, 0]) (.ret) (slices_IndexFunc'''_L1_head v_s v_t7 v_t8) (slices_IndexFunc'''_L1_out v_s v_t7 (.inr v_t8)))))
       (fun h7 =>
       .ret ((okC_sound hmix (tape := [.reg [nt], .br true, .reg [nt, nt], .reg [nt, nt, nt, nt, (.el (eI x3), true), (.call { ac := [ii], r := .b r5, sc := true }, true)], .br false, .reg [nt, nt], .rst [] [] [(0, ii), (1, ii), (7, ii), (8, ii)]]) (nr := 0) (by kernel_rfl) (.cons h1 (.cons ((h2).1) (.cons (lt_mapI (h2).2 : v_t8 < ((v_s.map eI).length : Nat)) (.cons (map_get h4 : (v_s.map eI)[v_t8.toNat]? = some (eI x3)) (.cons (impl_fitsLoad_1_ok x3 r5 h6) (.cons (Sc.b _ : Sc (.b r5)) (.cons h7 .nil))))))) (mkS_free _ _) : VEx PP 19 0 (nodeAt (bodyOf PP 127) [1, 0, 1, 0, 0]) .normal (slices_IndexFunc'''_L1_head v_s v_t7 v_t8) (slices_IndexFunc'''_L1_head v_s v_t7 (w64 (v_t8 + (1 : Int))))))))
      (fun h1 =>
      .ret ((okC_sound hmix (tape := [.reg [nt], .br false, .rst [] [] []]) (nr := 0) (by kernel_rfl) (.cons h1 .nil) (mkS_free _ _) : VEx PP 19 0 (nodeAt (bodyOf PP 127) [1, 0, 1, 0, 0]) (.exit 0) (slices_IndexFunc'''_L1_head v_s v_t7 v_t8) (slices_IndexFunc'''_L1_out v_s v_t7 (.inl ())))))

theorem slices_IndexFunc'''_L1_ok (v_s : (List Int)) (v_t7 : Int) (v_t8 : Int) : ∀ r, slices_IndexFunc'''_L1 v_s v_t7 v_t8 = some r → VLoop PP 19 0 (nodeAt (bodyOf PP 127) [1, 0, 1, 0, 0]) (slices_IndexFunc'''_L1_ex r) (slices_IndexFunc'''_L1_head v_s v_t7 v_t8) (slices_IndexFunc'''_L1_out v_s v_t7 r) := fun r h =>
  iter_ok (head := fun w : Int => slices_IndexFunc'''_L1_head v_s v_t7 w) (ex := slices_IndexFunc'''_L1_ex) (out := slices_IndexFunc'''_L1_out v_s v_t7) (by intro r; unfold slices_IndexFunc'''_L1_ex; split <;> simp) (fun w => slices_IndexFunc'''_L1_body_ok v_s v_t7 w) v_t8 r h

def slices_IndexFunc''' (v_s : (List Int)) : Option Int :=
  slices_IndexFunc'''_L1 v_s (len_ eI v_s) 0 >>= fun r1 =>
  match r1 with
  | .inl a3 => (some (-1))
  | .inr a3 => (some a3)

theorem slices_IndexFunc'''_ok (v_s : (List Int)) : Wp (slices_IndexFunc''' v_s) (fun r => Con PP 127 [.isl 1 (v_s.map eI), .fn 129 []] [] (.n .i64 r) []) := by
  unfold slices_IndexFunc'''
  exact .bnd fun r1 h2 =>
    match r1, h2 with
    | .inl a3, h2 => (.ret (runF_con0 hmix (tape := [.reg [nt], .reg [nt, nt, nt], .rst [] [] [(0, ii), (1, ii), (7, ii), (8, ii)], .sub (.exit 0) [] [], .reg [nt]]) (rr := ii) (by kernel_rfl) (.cons ((slices_IndexFunc'''_L1_ok v_s (len_ eI v_s) 0 (.inl a3) h2).vex) .nil)))
    | .inr a3, h2 => (.ret (runF_con0 hmix (tape := [.reg [nt], .reg [nt, nt, nt], .rst [] [] [(0, ii), (1, ii), (7, ii), (8, ii)], .sub (.ret) [(4, .n .i64 a3)] []]) (rr := ii) (by kernel_rfl) (.cons ((slices_IndexFunc'''_L1_ok v_s (len_ eI v_s) 0 (.inr a3) h2).vex) .nil)))

def slices_ContainsFunc'' (v_s : (List Int)) : Option Bool :=
  slices_IndexFunc''' v_s >>= fun r1 =>
  some (decide ((0 : Int) ≤ r1))

theorem slices_ContainsFunc''_ok (v_s : (List Int)) : Wp (slices_ContainsFunc'' v_s) (fun r => Con PP 102 [.isl 1 (v_s.map eI), .fn 129 []] [] (.b r) []) := by
  unfold slices_ContainsFunc''
  exact .bnd fun r1 h2 =>
    .ret (runF_con0 hmix (tape := [.reg [nt], .reg [nt, nt, (.call { ac := [ii, ii], r := .n .i64 r1, sc := true }, true), nt, nt]]) (rr := ii) (by kernel_rfl) (.cons (slices_IndexFunc'''_ok v_s r1 h2) (.cons (Sc.n _ _ : Sc (.n .i64 r1)) .nil)))

def impl_fitsLoad (v_s : TStructure) (v_l : (List Int)) : Option Bool :=
  if ((len_ eI v_l) == (w64 ((2 : Int) * (len_ eTJoint v_s.fJoints)))) = true then
    slices_ContainsFunc'' v_l >>= fun r2 =>
    some (!r2)
  else
    some false

theorem impl_fitsLoad_ok (v_s : TStructure) (v_l : (List Int)) : Wp (impl_fitsLoad v_s v_l) (fun r => Con PP 108 [.ipt 2 [[.isl 4 (v_s.fJoints.map eTJoint), .isl 3 (v_s.fMembers.map eTMember)]] 0 0, .isl 1 (v_l.map eI)] [] (.b r) []) := by
  unfold impl_fitsLoad
  exact .ite (fun h1 =>
    .bnd fun r2 h3 =>
     .ret (runF_con0 hmix (tape := [.reg [nt], .reg [nt, nt, nt, nt, nt, nt, nt, nt, nt, nt, nt, (.call { ac := [ii, ii], r := .b r2, sc := true }, true), nt, (.br true, true), nt]]) (rr := ii) (by kernel_rfl) (.cons h1 (.cons h1 (.cons (slices_ContainsFunc''_ok v_l r2 h3) (.cons (Sc.b _ : Sc (.b r2)) (.cons h1 (.cons h1 .nil))))))))
    (fun h1 =>
    .ret (runF_con0 hmix (tape := [.reg [nt], .reg [nt, nt, nt, nt, nt, nt, nt, nt, nt, nt, nf, nf, nf, (.br false, true), nt]]) (rr := ii) (by kernel_rfl) (.cons h1 (.cons h1 (.cons h1 (.cons h1 .nil))))))

def impl_casesOk_L1_head (v_s_ : (List TJoint)) (v_s_' : (List TMember)) (v_t22 : (List (List Int))) (v_t23 : Int) (v_t24 : Int) : S := mkS [(0, .ipt 2 [[.isl 4 (v_s_.map eTJoint), .isl 3 (v_s_'.map eTMember)]] 0 0), (22, .isl 1 (v_t22.map (eL 1 eI))), (23, .n .i64 v_t23), (24, .n .i64 v_t24)] []

def impl_casesOk_L1_ex : ((Unit) ⊕ (Unit)) → Exit
  | .inl _ => .exit 0
  | .inr _ => .ret

def impl_casesOk_L1_out (v_s_ : (List TJoint)) (v_s_' : (List TMember)) (v_t22 : (List (List Int))) (v_t23 : Int) : ((Unit) ⊕ (Unit)) → S
  | .inl a => mkS [] []
  | .inr a => mkS [(4, .b false)] []

def impl_casesOk_L1_body (v_s_ : (List TJoint)) (v_s_' : (List TMember)) (v_t22 : (List (List Int))) (v_t23 : Int) (v_t24 : Int) : Option ((Int) ⊕ ((Unit) ⊕ (Unit))) :=
  if (decide (v_t24 < v_t23)) = true then
    if 0 ≤ v_t24 ∧ v_t24 < v_t22.length then
    v_t22[v_t24.toNat]? >>= fun x3 =>
    impl_fitsLoad (⟨v_s_, v_s_'⟩ : TStructure) x3 >>= fun r5 =>
    if r5 = true then
      some (.inl (w64 (v_t24 + (1 : Int))))
    else
      some (.inr (.inr ()))
    else none
  else
    some (.inr (.inl ()))

def impl_casesOk_L1 (v_s_ : (List TJoint)) (v_s_' : (List TMember)) (v_t22 : (List (List Int))) (v_t23 : Int) (v_t24 : Int) : Option ((Unit) ⊕ (Unit)) := iter (fun w : Int => impl_casesOk_L1_body v_s_ v_s_' v_t22 v_t23 w) v_t24

theorem impl_casesOk_L1_body_ok (v_s_ : (List TJoint)) (v_s_' : (List TMember)) (v_t22 : (List (List Int))) (v_t23 : Int) (v_t24 : Int) : Wp (impl_casesOk_L1_body v_s_ v_s_' v_t22 v_t23 v_t24) (Sum.elim
    (fun w => VEx PP 33 0 (nodeAt (bodyOf PP 79) [1, 1, 0, 1, 0, 0]) .normal (impl_casesOk_L1_head v_s_ v_s_' v_t22 v_t23 v_t24) (impl_casesOk_L1_head v_s_ v_s_' v_t22 v_t23 w))
    (fun r => VEx PP 33 0 (nodeAt (bodyOf PP 79) [1, 1, 0, 1, 0, 0]) (impl_casesOk_L1_ex r) (impl_casesOk_L1_head v_s_ v_s_' v_t22 v_t23 v_t24) (impl_casesOk_L1_out v_s_ v_s_' v_t22 v_t23 r))) := by
  unfold impl_casesOk_L1_body
  exact .ite (fun h1 =>
      .grd fun h2 =>
       .bnd fun x3 h4 =>
       .bnd fun r5 h6 =>
       .ite (fun h7 =>
       .ret ((okC_sound hmix (tape := [.reg [nt], .br true, .reg [nt, (.el ((eL 1 eI) x3), true), nt], .reg [nt, nt, (.call { ac := [ii, ii], r := .b r5, sc := true }, true), nt], .br false, .reg [nt, nt], .rst [] [] [(0, ii), (22, ii), (23, ii), (24, ii)]]) (nr := 0) (by kernel_rfl) (.cons h1 (.cons ((h2).1) (.cons (lt_mapI (h2).2 : v_t24 < ((v_t22.map (eL 1 eI)).length : Nat)) (.cons (map_get h4 : (v_t22.map (eL 1 eI))[v_t24.toNat]? = some ((eL 1 eI) x3)) (.cons (impl_fitsLoad_ok (⟨v_s_, v_s_'⟩ : TStructure) x3 r5 h6) (.cons (Sc.b _ : Sc (.b r5)) (.cons (not_t h7) .nil))))))) (mkS_free _ _) : VEx PP 33 0 (nodeAt (bodyOf PP 79) [1, 1, 0, 1, 0, 0]) .normal (impl_casesOk_L1_head v_s_ v_s_' v_t22 v_t23 v_t24) (impl_casesOk_L1_head v_s_ v_s_' v_t22 v_t23 (w64 (v_t24 + (1 : Int)))))))
       (fun h7 =>
       .ret ((okC_sound hmix (tape := [.reg [nt], .br true, .reg [nt, (.el ((eL 1 eI) x3), true), nt], .reg [nt, nt, (.call { ac := [ii, ii], r := .b r5, sc := true }, true), nt], .br true, .reg [nt], .rst [] [] [(4, ii)]]) (nr := 0) (by kernel_rfl) (.cons h1 (.cons ((h2).1) (.cons (lt_mapI (h2).2 : v_t24 < ((v_t22.map (eL 1 eI)).length : Nat)) (.cons (map_get h4 : (v_t22.map (eL 1 eI))[v_t24.toNat]? = some ((eL 1 eI) x3)) (.cons (impl_fitsLoad_ok (⟨v_s_, v_s_'⟩ : TStructure) x3 r5 h6) (.cons (Sc.b _ : Sc (.b r5)) (.cons (not_f h7) .nil))))))) (mkS_free _ _) : VEx PP 33 0 (nodeAt (bodyOf PP 79) [1, 1, 0, 1, 0, 0]) (.ret) (impl_casesOk_L1_head v_s_ v_s_' v_t22 v_t23 v_t24) (impl_casesOk_L1_out v_s_ v_s_' v_t22 v_t23 (.inr ()))))))
      (fun h1 =>
      .ret ((okC_sound hmix (tape := [.reg [nt], .br false, .rst [] [] []]) (nr := 0) (by kernel_rfl) (.cons h1 .nil) (mkS_free _ _) : VEx PP 33 0 (nodeAt (bodyOf PP 79) [1, 1, 0, 1, 0, 0]) (.exit 0) (impl_casesOk_L1_head v_s_ v_s_' v_t22 v_t23 v_t24) (impl_casesOk_L1_out v_s_ v_s_' v_t22 v_t23 (.inl ())))))

theorem impl_casesOk_L1_ok (v_s_ : (List TJoint)) (v_s_' : (List TMember)) (v_t22 : (List (List Int))) (v_t23 : Int) (v_t24 : Int) : ∀ r, impl_casesOk_L1 v_s_ v_s_' v_t22 v_t23 v_t24 = some r → VLoop PP 33 0 (nodeAt (bodyOf PP 79) [1, 1, 0, 1, 0, 0]) (impl_casesOk_L1_ex r) (impl_casesOk_L1_head v_s_ v_s_' v_t22 v_t23 v_t24) (impl_casesOk_L1_out v_s_ v_s_' v_t22 v_t23 r) := fun r h =>
  iter_ok (head := fun w : Int => impl_casesOk_L1_head v_s_ v_s_' v_t22 v_t23 w) (ex := impl_casesOk_L1_ex) (out := impl_casesOk_L1_out v_s_ v_s_' v_t22 v_t23) (by intro r; unfold impl_casesOk_L1_ex; split <;> simp) (fun w => impl_casesOk_L1_body_ok v_s_ v_s_' v_t22 v_t23 w) v_t24 r h

def impl_casesOk (v_s : TStructure) (v_cases : (List (List Int))) : Option Bool :=
  if (decide ((len_ (eL 1 eI) v_cases) < (1 : Int))) = true then
    some false
  else
    if (decide ((6 : Int) < (len_ (eL 1 eI) v_cases))) = true then
      some false
    else
      impl_StructureOk v_s >>= fun r3 =>
      if r3 = true then
        impl_casesOk_L1 v_s.fJoints v_s.fMembers v_cases (len_ (eL 1 eI) v_cases) 0 >>= fun r6 =>
        match r6 with
        | .inl a8 => (some true)
        | .inr a8 => (some false)
      else
        some false

theorem impl_casesOk_ok (v_s : TStructure) (v_cases : (List (List Int))) : Wp (impl_casesOk v_s v_cases) (fun r => Con PP 79 [.ipt 2 [[.isl 4 (v_s.fJoints.map eTJoint), .isl 3 (v_s.fMembers.map eTMember)]] 0 0, .isl 1 (v_cases.map (eL 1 eI))] [] (.b r) []) := by
  unfold impl_casesOk
  exact .ite (fun h1 =>
    .ret (runF_con0 hmix (tape := [.reg [nt], .reg [nt, nt, nt, nt, nf, nf, nf, (.br true, true), nt, nf, nf, nf, nf, nf, nt], .br true, .reg [nt]]) (rr := ii) (by kernel_rfl) (.cons h1 (.cons h1 (.cons h1 (.cons h1 (.cons (rfl : true = true) (.cons (rfl : true = true) (.cons (rfl : true = true) (.cons (rfl : true = true) (.cons (rfl : true = true) (.cons (rfl : true = true) .nil))))))))))))
    (fun h1 =>
    .ite (fun h2 =>
     .ret (runF_con0 hmix (tape := [.reg [nt], .reg [nt, nt, nt, nt, nt, nt, nt, (.br false, true), nt, nf, nf, nf, nf, nf, (.br true, true)], .br true, .reg [nt]]) (rr := ii) (by kernel_rfl) (.cons h1 (.cons h1 (.cons h1 (.cons h1 (.cons h2 (.cons h2 (.cons h2 (.cons h2 (.cons h2 (.cons h2 (.cons (rfl : true = true) .nil)))))))))))))
     (fun h2 =>
     .bnd fun r3 h4 =>
      .ite (fun h5 =>
      .bnd fun r6 h7 =>
       match r6, h7 with
       | .inl a8, h7 => (.ret (runF_con0 hmix (tape := [.reg [nt], .reg [nt, nt, nt, nt, nt, nt, nt, (.br false, true), nt, nt, nt, nt, (.call { ac := [ii], r := .b r3, sc := true }, true), nt, (.br false, true)], .br false, .reg [nt, nt, nt], .rst [] [] [(0, ii), (22, ii), (23, ii), (24, ii)], .sub (.exit 0) [] [], .reg [nt]]) (rr := ii) (by kernel_rfl) (.cons h1 (.cons h1 (.cons h1 (.cons h1 (.cons h2 (.cons h2 (.cons h2 (.cons h2 (.cons (impl_StructureOk_ok v_s r3 h4) (.cons (Sc.b _ : Sc (.b r3)) (.cons h2 (.cons h2 (.cons (not_t h5) (.cons ((impl_casesOk_L1_ok v_s.fJoints v_s.fMembers v_cases (len_ (eL 1 eI) v_cases) 0 (.inl a8) h7).vex) .nil))))))))))))))))
       | .inr a8, h7 => (.ret (runF_con0 hmix (tape := [.reg [nt], .reg [nt, nt, nt, nt, nt, nt, nt, (.br false, true), nt, nt, nt, nt, (.call { ac := [ii], r := .b r3, sc := true }, true), nt, (.br false, true)], .br false, .reg [nt, nt, nt], .rst [] [] [(0, ii), (22, ii), (23, ii), (24, ii)], .sub (.ret) [(4, .b false)] []]) (rr := ii) (by kernel_rfl) (.cons h1 (.cons h1 (.cons h1 (.cons h1 (.cons h2 (.cons h2 (.cons h2 (.cons h2 (.cons (impl_StructureOk_ok v_s r3 h4) (.cons (Sc.b _ : Sc (.b r3)) (.cons h2 (.cons h2 (.cons (not_t h5) (.cons ((impl_casesOk_L1_ok v_s.fJoints v_s.fMembers v_cases (len_ (eL 1 eI) v_cases) 0 (.inr a8) h7).vex) .nil)))))))))))))))))
      (fun h5 =>
      .ret (runF_con0 hmix (tape := [.reg [nt], .reg [nt, nt, nt, nt, nt, nt, nt, (.br false, true), nt, nt, nt, nt, (.call { ac := [ii], r := .b r3, sc := true }, true), nt, (.br false, true)], .br true, .reg [nt]]) (rr := ii) (by kernel_rfl) (.cons h1 (.cons h1 (.cons h1 (.cons h1 (.cons h2 (.cons h2 (.cons h2 (.cons h2 (.cons (impl_StructureOk_ok v_s r3 h4) (.cons (Sc.b _ : Sc (.b r3)) (.cons h2 (.cons h2 (.cons (not_f h5) .nil)))))))))))))))))

def impl_CasesOk (v_s : TStructure) (v_cases : (List (List Int))) : Option Bool :=
  impl_casesOk v_s v_cases >>= fun r1 =>
  some r1

theorem impl_CasesOk_ok (v_s : TStructure) (v_cases : (List (List Int))) : Wp (impl_CasesOk v_s v_cases) (fun r => Con PP 33 [.agg [.isl 4 (v_s.fJoints.map eTJoint), .isl 3 (v_s.fMembers.map eTMember)], .isl 1 (v_cases.map (eL 1 eI))] [] (.b r) []) := by
  unfold impl_CasesOk
  exact .bnd fun r1 h2 =>
    .ret (runF_con0 hmix (tape := [.reg [nt, nt], .reg [nt, (.call { ac := [.c1 (.ptr [.id, .id]), ii], rds := [0], r := .b r1, sc := true }, true), nt]]) (rr := ii) (by kernel_rfl) (.cons (pure_es1 (eTStructure_pure v_s) : PureEs [[.isl 4 (v_s.fJoints.map eTJoint), .isl 3 (v_s.fMembers.map eTMember)]]) (.cons (impl_casesOk_ok v_s v_cases r1 h2) (.cons (Sc.b _ : Sc (.b r1)) .nil))))

def laws_eqIntSS_L1_head (v_a : (List (List Int))) (v_b : (List (List Int))) (v_i : Int) : S := mkS [(0, .isl 1 (v_a.map (eL 1 eI))), (1, .isl 1 (v_b.map (eL 1 eI))), (5, .n .i64 v_i)] []

def laws_eqIntSS_L1_ex : ((Unit) ⊕ (Unit)) → Exit
  | .inl _ => .exit 0
  | .inr _ => .ret

def laws_eqIntSS_L1_out (v_a : (List (List Int))) (v_b : (List (List Int))) : ((Unit) ⊕ (Unit)) → S
  | .inl a => mkS [] []
  | .inr a => mkS [(4, .b false)] []

def laws_eqIntSS_L1_body (v_a : (List (List Int))) (v_b : (List (List Int))) (v_i : Int) : Option ((Int) ⊕ ((Unit) ⊕ (Unit))) :=
  if (decide (v_i < (len_ (eL 1 eI) v_a))) = true then
    if 0 ≤ v_i ∧ v_i < v_a.length then
    v_a[v_i.toNat]? >>= fun x3 =>
    if 0 ≤ v_i ∧ v_i < v_b.length then
    v_b[v_i.toNat]? >>= fun x6 =>
    laws_eqIntS x3 x6 >>= fun r8 =>
    if r8 = true then
      some (.inl (w64 (v_i + (1 : Int))))
    else
      some (.inr (.inr ()))
    else none
    else none
  else
    some (.inr (.inl ()))

def laws_eqIntSS_L1 (v_a : (List (List Int))) (v_b : (List (List Int))) (v_i : Int) : Option ((Unit) ⊕ (Unit)) := iter (fun w : Int => laws_eqIntSS_L1_body v_a v_b w) v_i

theorem laws_eqIntSS_L1_body_ok (v_a : (List (List Int))) (v_b : (List (List Int))) (v_i : Int) : Wp (laws_eqIntSS_L1_body v_a v_b v_i) (Sum.elim
    (fun w => VEx PP 27 0 (nodeAt (bodyOf PP 34) [1, 1, 0, 1, 0, 0]) .normal (laws_eqIntSS_L1_head v_a v_b v_i) (laws_eqIntSS_L1_head v_a v_b w))
    (fun r => VEx PP 27 0 (nodeAt (bodyOf PP 34) [1, 1, 0, 1, 0, 0]) (laws_eqIntSS_L1_ex r) (laws_eqIntSS_L1_head v_a v_b v_i) (laws_eqIntSS_L1_out v_a v_b r))) := by
  unfold laws_eqIntSS_L1_body
  exact .ite (fun h1 =>
      .grd fun h2 =>
       .bnd fun x3 h4 =>
       .grd fun h5 =>
       .bnd fun x6 h7 =>
       .bnd fun r8 h9 =>
       .ite (fun h10 =>
       .ret ((okC_sound hmix (tape := [.reg [nt, nt, nt, nt], .br true, .reg [nt, nt, nt, (.el ((eL 1 eI) x3), true), nt, nt, nt, (.el ((eL 1 eI) x6), true), (.call { ac := [ii, ii], r := .b r8, sc := true }, true), nt], .br false, .reg [nt, nt, nt], .rst [] [] [(0, ii), (1, ii), (5, ii)]]) (nr := 0) (by kernel_rfl) (.cons h1 (.cons ((h2).1) (.cons (lt_mapI (h2).2 : v_i < ((v_a.map (eL 1 eI)).length : Nat)) (.cons (map_get h4 : (v_a.map (eL 1 eI))[v_i.toNat]? = some ((eL 1 eI) x3)) (.cons ((h5).1) (.cons (lt_mapI (h5).2 : v_i < ((v_b.map (eL 1 eI)).length : Nat)) (.cons (map_get h7 : (v_b.map (eL 1 eI))[v_i.toNat]? = some ((eL 1 eI) x6)) (.cons (laws_eqIntS_ok x3 x6 r8 h9) (.cons (Sc.b _ : Sc (.b r8)) (.cons (not_t h10) .nil)))))))))) (mkS_free _ _) : VEx PP 27 0 (nodeAt (bodyOf PP 34) [1, 1, 0, 1, 0, 0]) .normal (laws_eqIntSS_L1_head v_a v_b v_i) (laws_eqIntSS_L1_head v_a v_b (w64 (v_i + (1 : Int)))))))
       (fun h10 =>
       .ret ((okC_sound hmix (tape := [.reg [nt, nt, nt, nt], .br true, .reg [nt, nt, nt, (.el ((eL 1 eI) x3), true), nt, nt, nt, (.el ((eL 1 eI) x6), true), (.call { ac := [ii, ii], r := .b r8, sc := true }, true), nt], .br true, .reg [nt], .rst [] [] [(4, ii)]]) (nr := 0) (by kernel_rfl) (.cons h1 (.cons ((h2).1) (.cons (lt_mapI (h2).2 : v_i < ((v_a.map (eL 1 eI)).length : Nat)) (.cons (map_get h4 : (v_a.map (eL 1 eI))[v_i.toNat]? = some ((eL 1 eI) x3)) (.cons ((h5).1) (.cons (lt_mapI (h5).2 : v_i < ((v_b.map (eL 1 eI)).length : Nat)) (.cons (map_get h7 : (v_b.map (eL 1 eI))[v_i.toNat]? = some ((eL 1 eI) x6)) (.cons (laws_eqIntS_ok x3 x6 r8 h9) (.cons (Sc.b _ : Sc (.b r8)) (.cons (not_f h10) .nil)))))))))) (mkS_free _ _) : VEx PP 27 0 (nodeAt (bodyOf PP 34) [1, 1, 0, 1, 0, 0]) (.ret) (laws_eqIntSS_L1_head v_a v_b v_i) (laws_eqIntSS_L1_out v_a v_b (.inr ()))))))
      (fun h1 =>
      .ret ((okC_sound hmix (tape := [.reg [nt, nt, nt, nt], .br false, .rst [] [] []]) (nr := 0) (by kernel_rfl) (.cons h1 .nil) (mkS_free _ _) : VEx PP 27 0 (nodeAt (bodyOf PP 34) [1, 1, 0, 1, 0, 0]) (.exit 0) (laws_eqIntSS_L1_head v_a v_b v_i) (laws_eqIntSS_L1_out v_a v_b (.inl ())))))

theorem laws_eqIntSS_L1_ok (v_a : (List (List Int))) (v_b : (List (List Int))) (v_i : Int) : ∀ r, laws_eqIntSS_L1 v_a v_b v_i = some r → VLoop PP 27 0 (nodeAt (bodyOf PP 34) [1, 1, 0, 1, 0, 0]) (laws_eqIntSS_L1_ex r) (laws_eqIntSS_L1_head v_a v_b v_i) (laws_eqIntSS_L1_out v_a v_b r) := fun r h =>
  iter_ok (head := fun w : Int => laws_eqIntSS_L1_head v_a v_b w) (ex := laws_eqIntSS_L1_ex) (out := laws_eqIntSS_L1_out v_a v_b) (by intro r; unfold laws_eqIntSS_L1_ex; split <;> simp) (fun w => laws_eqIntSS_L1_body_ok v_a v_b w) v_i r h

def laws_eqIntSS (v_a : (List (List Int))) (v_b : (List (List Int))) : Option Bool :=
  if ((len_ (eL 1 eI) v_a) != (len_ (eL 1 eI) v_b)) = true then
    some false
  else
    laws_eqIntSS_L1 v_a v_b 0 >>= fun r2 =>
    match r2 with
    | .inl a4 => (some true)
    | .inr a4 => (some false)

theorem laws_eqIntSS_ok (v_a : (List (List Int))) (v_b : (List (List Int))) : Wp (laws_eqIntSS v_a v_b) (fun r => Con PP 34 [.isl 1 (v_a.map (eL 1 eI)), .isl 1 (v_b.map (eL 1 eI))] [] (.b r) []) := by
  unfold laws_eqIntSS
  exact .ite (fun h1 =>
    .ret (runF_con0 hmix (tape := [.reg [nt], .reg [nt, nt, nt, nt, nt], .br true, .reg [nt]]) (rr := ii) (by kernel_rfl) (.cons h1 .nil)))
    (fun h1 =>
    .bnd fun r2 h3 =>
     match r2, h3 with
     | .inl a4, h3 => (.ret (runF_con0 hmix (tape := [.reg [nt], .reg [nt, nt, nt, nt, nt], .br false, .reg [nt], .rst [] [] [(0, ii), (1, ii), (5, ii)], .sub (.exit 0) [] [], .reg [nt]]) (rr := ii) (by kernel_rfl) (.cons h1 (.cons ((laws_eqIntSS_L1_ok v_a v_b 0 (.inl a4) h3).vex) .nil))))
     | .inr a4, h3 => (.ret (runF_con0 hmix (tape := [.reg [nt], .reg [nt, nt, nt, nt, nt], .br false, .reg [nt], .rst [] [] [(0, ii), (1, ii), (5, ii)], .sub (.ret) [(4, .b false)] []]) (rr := ii) (by kernel_rfl) (.cons h1 (.cons ((laws_eqIntSS_L1_ok v_a v_b 0 (.inr a4) h3).vex) .nil)))))

def laws_FnExactCasesOk (v_aS : TStructure) (v_aCases : (List (List Int))) : Option Bool :=
  laws_szStructure v_aS 1048576 >>= fun r1 =>
  if (decide (r1 < (0 : Int))) = true then
    some true
  else
    laws_szIntSS v_aCases r1 >>= fun r4 =>
    if (decide (r4 < (0 : Int))) = true then
      some true
    else
      laws_toStructure v_aS >>= fun r7 =>
      laws_toIntSS v_aCases >>= fun r9 =>
      spec_CasesOk r7 r9 >>= fun r11 =>
      impl_CasesOk r7 r9 >>= fun r13 =>
      if (r13 == r11) = true then
        laws_eqStructure r7 r7 >>= fun r16 =>
        if r16 = true then
          laws_eqIntSS r9 r9 >>= fun r19 =>
          if r19 = true then
            some true
          else
            some false
        else
          some false
      else
        some false

theorem laws_FnExactCasesOk_ok (v_aS : TStructure) (v_aCases : (List (List Int))) : Wp (laws_FnExactCasesOk v_aS v_aCases) (fun r => Con PP 8 [.agg [.isl 4 (v_aS.fJoints.map eTJoint), .isl 3 (v_aS.fMembers.map eTMember)], .isl 1 (v_aCases.map (eL 1 eI))] [] (.b r) []) := by
  unfold laws_FnExactCasesOk
  exact .bnd fun r1 h2 =>
    .ite (fun h3 =>
    .ret (runF_con0 hmix (tape := [.reg [nt, nt], .reg [nt], .reg [nt, nt, (.call { ac := [ii, ii], r := .n .i64 r1, sc := true }, true), nt], .reg [nt, nt], .br true, .reg [nt]]) (rr := ii) (by kernel_rfl) (.cons (laws_szStructure_ok v_aS 1048576 r1 h2) (.cons (Sc.n _ _ : Sc (.n .i64 r1)) (.cons h3 .nil)))))
    (fun h3 =>
    .bnd fun r4 h5 =>
     .ite (fun h6 =>
     .ret (runF_con0 hmix (tape := [.reg [nt, nt], .reg [nt], .reg [nt, nt, (.call { ac := [ii, ii], r := .n .i64 r1, sc := true }, true), nt], .reg [nt, nt], .br false, .reg [nt, nt, (.call { ac := [ii, ii], r := .n .i64 r4, sc := true }, true), nt], .reg [nt, nt], .br true, .reg [nt]]) (rr := ii) (by kernel_rfl) (.cons (laws_szStructure_ok v_aS 1048576 r1 h2) (.cons (Sc.n _ _ : Sc (.n .i64 r1)) (.cons h3 (.cons (laws_szIntSS_ok v_aCases r1 r4 h5) (.cons (Sc.n _ _ : Sc (.n .i64 r4)) (.cons h6 .nil))))))))
     (fun h6 =>
     .bnd fun r7 h8 =>
      .bnd fun r9 h10 =>
      .bnd fun r11 h12 =>
      .bnd fun r13 h14 =>
      .ite (fun h15 =>
      .bnd fun r16 h17 =>
       .ite (fun h18 =>
       .bnd fun r19 h20 =>
        .ite (fun h21 =>
        .ret (runF_con0 hmix (tape := [.reg [nt, nt], .reg [nt], .reg [nt, nt, (.call { ac := [ii, ii], r := .n .i64 r1, sc := true }, true), nt], .reg [nt, nt], .br false, .reg [nt, nt, (.call { ac := [ii, ii], r := .n .i64 r4, sc := true }, true), nt], .reg [nt, nt], .br false, .reg [nt, (.call { ac := [ii], r := .agg [.isl 4 (r7.fJoints.map eTJoint), .isl 3 (r7.fMembers.map eTMember)], sc := false }, true), nt, (.call { ac := [ii], r := .isl 1 (r9.map (eL 1 eI)), sc := false }, true), (.call { ac := [ii, ii], r := .b r11, sc := true }, true), nt], .reg [nt, (.call { ac := [ii], r := .agg [.isl 4 (r7.fJoints.map eTJoint), .isl 3 (r7.fMembers.map eTMember)], sc := false }, true), nt, nt], .reg [nt, (.call { ac := [ii], r := .isl 1 (r9.map (eL 1 eI)), sc := false }, true), nt], .reg [nt, nt, (.call { ac := [ii, ii], r := .b r13, sc := true }, true), nt], .reg [nt, nt, nt], .br false, .reg [nt, nt, (.call { ac := [ii], r := .agg [.isl 4 (r7.fJoints.map eTJoint), .isl 3 (r7.fMembers.map eTMember)], sc := false }, true), (.call { ac := [ii, ii], r := .b r16, sc := true }, true), nt], .br false, .reg [nt, nt, (.call { ac := [ii], r := .isl 1 (r9.map (eL 1 eI)), sc := false }, true), (.call { ac := [ii, ii], r := .b r19, sc := true }, true), nt], .br false, .reg [nt]]) (rr := ii) (by kernel_rfl) (.cons (laws_szStructure_ok v_aS 1048576 r1 h2) (.cons (Sc.n _ _ : Sc (.n .i64 r1)) (.cons h3 (.cons (laws_szIntSS_ok v_aCases r1 r4 h5) (.cons (Sc.n _ _ : Sc (.n .i64 r4)) (.cons h6 (.cons (laws_toStructure_ok v_aS r7 h8) (.cons (laws_toIntSS_ok v_aCases r9 h10) (.cons (spec_CasesOk_ok r7 r9 r11 h12) (.cons (Sc.b _ : Sc (.b r11)) (.cons (laws_toStructure_ok v_aS r7 h8) (.cons (laws_toIntSS_ok v_aCases r9 h10) (.cons (impl_CasesOk_ok r7 r9 r13 h14) (.cons (Sc.b _ : Sc (.b r13)) (.cons (not_t h15) (.cons (laws_toStructure_ok v_aS r7 h8) (.cons (laws_eqStructure_ok r7 r7 r16 h17) (.cons (Sc.b _ : Sc (.b r16)) (.cons (not_t h18) (.cons (laws_toIntSS_ok v_aCases r9 h10) (.cons (laws_eqIntSS_ok r9 r9 r19 h20) (.cons (Sc.b _ : Sc (.b r19)) (.cons (not_t h21) .nil)))))))))))))))))))))))))
        (fun h21 =>
        .ret (runF_con0 hmix (tape := [.reg [nt, nt], .reg [nt], .reg [nt, nt, (.call { ac := [ii, ii], r := .n .i64 r1, sc := true }, true), nt], .reg [nt, nt], .br false, .reg [nt, nt, (.call { ac := [ii, ii], r := .n .i64 r4, sc := true }, true), nt], .reg [nt, nt], .br false, .reg [nt, (.call { ac := [ii], r := .agg [.isl 4 (r7.fJoints.map eTJoint), .isl 3 (r7.fMembers.map eTMember)], sc := false }, true), nt, (.call { ac := [ii], r := .isl 1 (r9.map (eL 1 eI)), sc := false }, true), (.call { ac := [ii, ii], r := .b r11, sc := true }, true), nt], .reg [nt, (.call { ac := [ii], r := .agg [.isl 4 (r7.fJoints.map eTJoint), .isl 3 (r7.fMembers.map eTMember)], sc := false }, true), nt, nt], .reg [nt, (.call { ac := [ii], r := .isl 1 (r9.map (eL 1 eI)), sc := false }, true), nt], .reg [nt, nt, (.call { ac := [ii, ii], r := .b r13, sc := true }, true), nt], .reg [nt, nt, nt], .br false, .reg [nt, nt, (.call { ac := [ii], r := .agg [.isl 4 (r7.fJoints.map eTJoint), .isl 3 (r7.fMembers.map eTMember)], sc := false }, true), (.call { ac := [ii, ii], r := .b r16, sc := true }, true), nt], .br false, .reg [nt, nt, (.call { ac := [ii], r := .isl 1 (r9.map (eL 1 eI)), sc := false }, true), (.call { ac := [ii, ii], r := .b r19, sc := true }, true), nt], .br true, .reg [nt]]) (rr := ii) (by kernel_rfl) (.cons (laws_szStructure_ok v_aS 1048576 r1 h2) (.cons (Sc.n _ _ : Sc (.n .i64 r1)) (.cons h3 (.cons (laws_szIntSS_ok v_aCases r1 r4 h5) (.cons (Sc.n _ _ : Sc (.n .i64 r4)) (.cons h6 (.cons (laws_toStructure_ok v_aS r7 h8) (.cons (laws_toIntSS_ok v_aCases r9 h10) (.cons (spec_CasesOk_ok r7 r9 r11 h12) (.cons (Sc.b _ : Sc (.b r11)) (.cons (laws_toStructure_ok v_aS r7 h8) (.cons (laws_toIntSS_ok v_aCases r9 h10) (.cons (impl_CasesOk_ok r7 r9 r13 h14) (.cons (Sc.b _ : Sc (.b r13)) (.cons (not_t h15) (.cons (laws_toStructure_ok v_aS r7 h8) (.cons (laws_eqStructure_ok r7 r7 r16 h17) (.cons (Sc.b _ : Sc (.b r16)) (.cons (not_t h18) (.cons (laws_toIntSS_ok v_aCases r9 h10) (.cons (laws_eqIntSS_ok r9 r9 r19 h20) (.cons (Sc.b _ : Sc (.b r19)) (.cons (not_f h21) .nil))))))))))))))))))))))))))
       (fun h18 =>
       .ret (runF_con0 hmix (tape := [.reg [nt, nt], .reg [nt], .reg [nt, nt, (.call { ac := [ii, ii], r := .n .i64 r1, sc := true }, true), nt], .reg [nt, nt], .br false, .reg [nt, nt, (.call { ac := [ii, ii], r := .n .i64 r4, sc := true }, true), nt], .reg [nt, nt], .br false, .reg [nt, (.call { ac := [ii], r := .agg [.isl 4 (r7.fJoints.map eTJoint), .isl 3 (r7.fMembers.map eTMember)], sc := false }, true), nt, (.call { ac := [ii], r := .isl 1 (r9.map (eL 1 eI)), sc := false }, true), (.call { ac := [ii, ii], r := .b r11, sc := true }, true), nt], .reg [nt, (.call { ac := [ii], r := .agg [.isl 4 (r7.fJoints.map eTJoint), .isl 3 (r7.fMembers.map eTMember)], sc := false }, true), nt, nt], .reg [nt, (.call { ac := [ii], r := .isl 1 (r9.map (eL 1 eI)), sc := false }, true), nt], .reg [nt, nt, (.call { ac := [ii, ii], r := .b r13, sc := true }, true), nt], .reg [nt, nt, nt], .br false, .reg [nt, nt, (.call { ac := [ii], r := .agg [.isl 4 (r7.fJoints.map eTJoint), .isl 3 (r7.fMembers.map eTMember)], sc := false }, true), (.call { ac := [ii, ii], r := .b r16, sc := true }, true), nt], .br true, .reg [nt]]) (rr := ii) (by kernel_rfl) (.cons (laws_szStructure_ok v_aS 1048576 r1 h2) (.cons (Sc.n _ _ : Sc (.n .i64 r1)) (.cons h3 (.cons (laws_szIntSS_ok v_aCases r1 r4 h5) (.cons (Sc.n _ _ : Sc (.n .i64 r4)) (.cons h6 (.cons (laws_toStructure_ok v_aS r7 h8) (.cons (laws_toIntSS_ok v_aCases r9 h10) (.cons (spec_CasesOk_ok r7 r9 r11 h12) (.cons (Sc.b _ : Sc (.b r11)) (.cons (laws_toStructure_ok v_aS r7 h8) (.cons (laws_toIntSS_ok v_aCases r9 h10) (.cons (impl_CasesOk_ok r7 r9 r13 h14) (.cons (Sc.b _ : Sc (.b r13)) (.cons (not_t h15) (.cons (laws_toStructure_ok v_aS r7 h8) (.cons (laws_eqStructure_ok r7 r7 r16 h17) (.cons (Sc.b _ : Sc (.b r16)) (.cons (not_f h18) .nil))))))))))))))))))))))
      (fun h15 =>
      .ret (runF_con0 hmix (tape := [.reg [nt, nt], .reg [nt], .reg [nt, nt, (.call { ac := [ii, ii], r := .n .i64 r1, sc := true }, true), nt], .reg [nt, nt], .br false, .reg [nt, nt, (.call { ac := [ii, ii], r := .n .i64 r4, sc := true }, true), nt], .reg [nt, nt], .br false, .reg [nt, (.call { ac := [ii], r := .agg [.isl 4 (r7.fJoints.map eTJoint), .isl 3 (r7.fMembers.map eTMember)], sc := false }, true), nt, (.call { ac := [ii], r := .isl 1 (r9.map (eL 1 eI)), sc := false }, true), (.call { ac := [ii, ii], r := .b r11, sc := true }, true), nt], .reg [nt, (.call { ac := [ii], r := .agg [.isl 4 (r7.fJoints.map eTJoint), .isl 3 (r7.fMembers.map eTMember)], sc := false }, true), nt, nt], .reg [nt, (.call { ac := [ii], r := .isl 1 (r9.map (eL 1 eI)), sc := false }, true), nt], .reg [nt, nt, (.call { ac := [ii, ii], r := .b r13, sc := true }, true), nt], .reg [nt, nt, nt], .br true, .reg [nt]]) (rr := ii) (by kernel_rfl) (.cons (laws_szStructure_ok v_aS 1048576 r1 h2) (.cons (Sc.n _ _ : Sc (.n .i64 r1)) (.cons h3 (.cons (laws_szIntSS_ok v_aCases r1 r4 h5) (.cons (Sc.n _ _ : Sc (.n .i64 r4)) (.cons h6 (.cons (laws_toStructure_ok v_aS r7 h8) (.cons (laws_toIntSS_ok v_aCases r9 h10) (.cons (spec_CasesOk_ok r7 r9 r11 h12) (.cons (Sc.b _ : Sc (.b r11)) (.cons (laws_toStructure_ok v_aS r7 h8) (.cons (laws_toIntSS_ok v_aCases r9 h10) (.cons (impl_CasesOk_ok r7 r9 r13 h14) (.cons (Sc.b _ : Sc (.b r13)) (.cons (not_f h15) .nil)))))))))))))))))))

end Go.Proofs.Ytjgnmimfihhphaa
