/- Plain functions for the program's functions, and that calls come to them: printed by a program. No condition. -/
import Derived.Test.YtfhmbogcjcgchaaGreatVFnExactIsWithinB
namespace Go.Proofs.YtfhmbogcjcgchaaGreat
open Go Go.VL

def impl_overloaded_L1_head (v_w : (List Int)) (v_t27 : (List (Option TRatio_))) (v_t28 : Int) (v_t29 : Int) (row0 : (List Int)) : S := mkS [(2, .isl 1 (v_w.map eI)), (10, .osl 0 0 0 row0.length), (27, .isl 1 (v_t27.map (eO 3 eTRatio_))), (28, .n .i64 v_t28), (29, .n .i64 v_t29)] [[Ob.mk 1 (row0.map eI) .live]]

def impl_overloaded_L1_ex : (List Int) → Exit
  | _ => .exit 0

def impl_overloaded_L1_out (v_w : (List Int)) (v_t27 : (List (Option TRatio_))) (v_t28 : Int) : (List Int) → S
  | a => mkS [(10, .osl 0 0 0 a.length)] [[Ob.mk 1 (a.map eI) .live]]

def impl_overloaded_L1_body (v_w : (List Int)) (v_t27 : (List (Option TRatio_))) (v_t28 : Int) (v_t29 : Int) (row0 : (List Int)) : Option ((Int × (List Int)) ⊕ ((List Int))) :=
  if (decide (v_t29 < v_t28)) = true then
    if 0 ≤ v_t29 ∧ v_t29 < v_t27.length then
    v_t27[v_t29.toNat]? >>= fun x3 =>
    if 0 ≤ v_t29 ∧ v_t29 < v_w.length then
    v_w[v_t29.toNat]? >>= fun x6 =>
    impl_whole (w64 (x6 * x6)) >>= fun r8 =>
    impl_ratio_Cmp x3 r8 >>= fun r10 =>
    if (decide ((0 : Int) < r10)) = true then
      if (row0 ++ ([v_t29] : List Int)).length * 8 ≤ 140737488355328 then
      some (.inl (w64 (v_t29 + (1 : Int)), row0 ++ ([v_t29] : List Int)))
      else none
    else
      some (.inl (w64 (v_t29 + (1 : Int)), row0))
    else none
    else none
  else
    some (.inr row0)

def impl_overloaded_L1 (v_w : (List Int)) (v_t27 : (List (Option TRatio_))) (v_t28 : Int) (v_t29 : Int) (row0 : (List Int)) : Option ((List Int)) := iter (fun w : Int × (List Int) => impl_overloaded_L1_body v_w v_t27 v_t28 w.1 w.2) (v_t29, row0)

theorem impl_overloaded_L1_body_ok (v_w : (List Int)) (v_t27 : (List (Option TRatio_))) (v_t28 : Int) (v_t29 : Int) (row0 : (List Int)) : Wp (impl_overloaded_L1_body v_w v_t27 v_t28 v_t29 row0) (Sum.elim
    (fun w => VEx PP 53 0 (nodeAt (bodyOf PP 81) [1, 1, 1, 1, 0, 1, 0, 0]) .normal (impl_overloaded_L1_head v_w v_t27 v_t28 v_t29 row0) (impl_overloaded_L1_head v_w v_t27 v_t28 w.1 w.2))
    (fun r => VEx PP 53 0 (nodeAt (bodyOf PP 81) [1, 1, 1, 1, 0, 1, 0, 0]) (impl_overloaded_L1_ex r) (impl_overloaded_L1_head v_w v_t27 v_t28 v_t29 row0) (impl_overloaded_L1_out v_w v_t27 v_t28 r))) := by
  unfold impl_overloaded_L1_body
  exact .ite (fun h1 =>
      .grd fun h2 =>
       .bnd fun x3 h4 =>
       .grd fun h5 =>
       .bnd fun x6 h7 =>
       .bnd fun r8 h9 =>
       .bnd fun r10 h11 =>
       .ite (fun h12 =>
       .grd fun h13 =>
        .ret ((okC_sound hmix (tape := [.reg [nt], .br true, .reg [nt, nt, (.el ((eO 3 eTRatio_) x3), true), nt, nt], .reg [nt, nt, nt, nt, (.el (eI x6), true), nt, nt, nt, (.el (eI x6), true), nt, (.call { ac := [ii], r := aO 3 eTRatio_ r8, sc := false }, true), (.call { ac := [ii, ii], r := .n .i64 r10, sc := true }, true), nt], .br true, .reg [nt, nt, nt, (.app ((row0 ++ ([v_t29] : List Int)).length), true), nt], .reg [nt, nt], .rst [23] [.as [Ob.mk 1 ((row0 ++ ([v_t29] : List Int)).map eI) .live]] [(2, ii), (10, ii), (27, ii), (28, ii), (29, ii)]]) (nr := 1) (by kernel_rfl) (.cons h1 (.cons ((h2).1) (.cons (lt_mapI (h2).2 : v_t29 < ((v_t27.map (eO 3 eTRatio_)).length : Nat)) (.cons (map_get h4 : (v_t27.map (eO 3 eTRatio_))[v_t29.toNat]? = some ((eO 3 eTRatio_) x3)) (.cons ((h5).1) (.cons (lt_mapI (h5).2 : v_t29 < ((v_w.map eI).length : Nat)) (.cons (map_get h7 : (v_w.map eI)[v_t29.toNat]? = some (eI x6)) (.cons ((h5).1) (.cons (lt_mapI (h5).2 : v_t29 < ((v_w.map eI).length : Nat)) (.cons (map_get h7 : (v_w.map eI)[v_t29.toNat]? = some (eI x6)) (.cons (impl_whole_ok (w64 (x6 * x6)) r8 h9) (.cons (impl_ratio_Cmp_ok x3 r8 r10 h11) (.cons (Sc.n _ _ : Sc (.n .i64 r10)) (.cons h12 (.cons (fit_full (show [[.n .i64 v_t29]] = (([v_t29] : List Int)).map eI from rfl) (show 1 = ([v_t29] : List Int).length from rfl)) (.cons (le_full (show (row0.map eI) = (row0.map eI) from rfl) (show row0.length = row0.length from rfl)) (.cons (len_app (show row0.length = row0.length from rfl) (tk_prf (show [[.n .i64 v_t29]] = (([v_t29] : List Int)).map eI from rfl) (show 1 = ([v_t29] : List Int).length from rfl)) : (row0 ++ ([v_t29] : List Int)).length = row0.length + (([[.n .i64 v_t29]].drop 0).take 1).length) (.cons h13 (.cons (row_prf (app_full (show (row0.map eI) = (row0.map eI) from rfl) (show row0.length = row0.length from rfl) (tk_prf (show [[.n .i64 v_t29]] = (([v_t29] : List Int)).map eI from rfl) (show 1 = ([v_t29] : List Int).length from rfl))) : [Ob.mk 1 ((row0.map eI).take row0.length ++ (([[.n .i64 v_t29]].drop 0).take 1)) .live] = [Ob.mk 1 ((row0 ++ ([v_t29] : List Int)).map eI) .live]) (.cons (pure_row eI_pure (row0 ++ ([v_t29] : List Int)) : PureRow [Ob.mk 1 ((row0 ++ ([v_t29] : List Int)).map eI) .live]) .nil)))))))))))))))))))) (mkS_free _ _) : VEx PP 53 0 (nodeAt (bodyOf PP 81) [1, 1, 1, 1, 0, 1, 0, 0]) .normal (impl_overloaded_L1_head v_w v_t27 v_t28 v_t29 row0) (impl_overloaded_L1_head v_w v_t27 v_t28 (w64 (v_t29 + (1 : Int))) (row0 ++ ([v_t29] : List Int))))))
       (fun h12 =>
       .ret ((okC_sound hmix (tape := [.reg [nt], .br true, .reg [nt, nt, (.el ((eO 3 eTRatio_) x3), true), nt, nt], .reg [nt, nt, nt, nt, (.el (eI x6), true), nt, nt, nt, (.el (eI x6), true), nt, (.call { ac := [ii], r := aO 3 eTRatio_ r8, sc := false }, true), (.call { ac := [ii, ii], r := .n .i64 r10, sc := true }, true), nt], .br false, .reg [nt, nt], .rst [0] [.pure] [(2, ii), (10, ii), (27, ii), (28, ii), (29, ii)]]) (nr := 1) (by kernel_rfl) (.cons h1 (.cons ((h2).1) (.cons (lt_mapI (h2).2 : v_t29 < ((v_t27.map (eO 3 eTRatio_)).length : Nat)) (.cons (map_get h4 : (v_t27.map (eO 3 eTRatio_))[v_t29.toNat]? = some ((eO 3 eTRatio_) x3)) (.cons ((h5).1) (.cons (lt_mapI (h5).2 : v_t29 < ((v_w.map eI).length : Nat)) (.cons (map_get h7 : (v_w.map eI)[v_t29.toNat]? = some (eI x6)) (.cons ((h5).1) (.cons (lt_mapI (h5).2 : v_t29 < ((v_w.map eI).length : Nat)) (.cons (map_get h7 : (v_w.map eI)[v_t29.toNat]? = some (eI x6)) (.cons (impl_whole_ok (w64 (x6 * x6)) r8 h9) (.cons (impl_ratio_Cmp_ok x3 r8 r10 h11) (.cons (Sc.n _ _ : Sc (.n .i64 r10)) (.cons h12 (.cons (pure_row eI_pure row0 : PureRow [Ob.mk 1 (row0.map eI) .live]) .nil))))))))))))))) (mkS_free _ _) : VEx PP 53 0 (nodeAt (bodyOf PP 81) [1, 1, 1, 1, 0, 1, 0, 0]) .normal (impl_overloaded_L1_head v_w v_t27 v_t28 v_t29 row0) (impl_overloaded_L1_head v_w v_t27 v_t28 (w64 (v_t29 + (1 : Int))) row0)))))
      (fun h1 =>
      .ret ((okC_sound hmix (tape := [.reg [nt], .br false, .rst [0] [.pure] [(10, ii)]]) (nr := 1) (by kernel_rfl) (.cons h1 (.cons (pure_row eI_pure row0 : PureRow [Ob.mk 1 (row0.map eI) .live]) .nil)) (mkS_free _ _) : VEx PP 53 0 (nodeAt (bodyOf PP 81) [1, 1, 1, 1, 0, 1, 0, 0]) (.exit 0) (impl_overloaded_L1_head v_w v_t27 v_t28 v_t29 row0) (impl_overloaded_L1_out v_w v_t27 v_t28 row0))))

theorem impl_overloaded_L1_ok (v_w : (List Int)) (v_t27 : (List (Option TRatio_))) (v_t28 : Int) (v_t29 : Int) (row0 : (List Int)) : ∀ r, impl_overloaded_L1 v_w v_t27 v_t28 v_t29 row0 = some r → VLoop PP 53 0 (nodeAt (bodyOf PP 81) [1, 1, 1, 1, 0, 1, 0, 0]) (impl_overloaded_L1_ex r) (impl_overloaded_L1_head v_w v_t27 v_t28 v_t29 row0) (impl_overloaded_L1_out v_w v_t27 v_t28 r) := fun r h =>
  iter_ok (head := fun w : Int × (List Int) => impl_overloaded_L1_head v_w v_t27 v_t28 w.1 w.2) (ex := impl_overloaded_L1_ex) (out := impl_overloaded_L1_out v_w v_t27 v_t28) (by intro r; unfold impl_overloaded_L1_ex; split <;> simp) (fun w => impl_overloaded_L1_body_ok v_w v_t27 v_t28 w.1 w.2) (v_t29, row0) r h

def impl_overloaded (v_s : TStructure) (v_q : (List TRat)) (v_w : (List Int)) : Option ((List Int) × Bool) :=
  impl_forceSquares v_s v_q >>= fun r1 =>
  if r1.2 = true then
    impl_fitsLimits v_s v_w >>= fun r4 =>
    if r4 = true then
      impl_overloaded_L1 v_w r1.1 (len_ (eO 3 eTRatio_) r1.1) 0 ([] : List Int) >>= fun r7 =>
      some (r7, true)
    else
      some (([] : List Int), false)
  else
    some (([] : List Int), false)

theorem impl_overloaded_ok (v_s : TStructure) (v_q : (List TRat)) (v_w : (List Int)) : Wp (impl_overloaded v_s v_q v_w) (fun r => Con PP 81 [.ipt 2 [[.isl 4 (v_s.fJoints.map eTJoint), .isl 3 (v_s.fMembers.map eTMember)]] 0 0, .isl 3 (v_q.map eTRat), .isl 1 (v_w.map eI)] [] (.tup [.isl 1 (r.1.map eI), .b r.2]) []) := by
  unfold impl_overloaded
  exact .bnd fun r1 h2 =>
    .ite (fun h3 =>
    .bnd fun r4 h5 =>
     .ite (fun h6 =>
     .bnd fun r7 h8 =>
      .ret (runF_con0 hmix (tape := [.reg [nt, nt], .reg [nt, nt, (.call { ac := [ii, ii], r := .tup [.isl 1 (r1.1.map (eO 3 eTRatio_)), .b r1.2], sc := false }, true), nt, nt, nt, nt, nt], .reg [nt, nt, nt, nt, nt, (.call { ac := [ii, ii], r := .b r4, sc := true }, true), nt, (.br false, true)], .br false, .reg [nt], .reg [nt, nt, nt], .virt 10 1, .rst [22] [.as [Ob.mk 1 (([] : List Int).map eI) .live]] [(2, ii), (10, .c1 (.c0 (.len (([] : List Int).length)))), (27, ii), (28, ii), (29, ii)], .sub (.exit 0) [(10, .osl 0 0 0 r7.length)] [[Ob.mk 1 (r7.map eI) .live]], .reg [nt, nt, nt]]) (rr := .comp [.c0 (.sl (r7.map eI)), .c0 .id]) (by kernel_rfl) (.cons (impl_forceSquares_ok v_s v_q r1 h2) (.cons (not_t h3) (.cons (not_t h3) (.cons (not_t h3) (.cons (impl_fitsLimits_ok v_s v_w r4 h5) (.cons (Sc.b _ : Sc (.b r4)) (.cons (not_t h3) (.cons (not_t h3) (.cons (not_t h6) (.cons (row_prf (show ([] : List (List AV)) = ([] : List Int).map eI from rfl) : [Ob.mk 1 ([] : List (List AV)) .live] = [Ob.mk 1 (([] : List Int).map eI) .live]) (.cons (pure_row eI_pure ([] : List Int) : PureRow [Ob.mk 1 (([] : List Int).map eI) .live]) (.cons (show 0 = ([] : List Int).length from rfl) (.cons ((impl_overloaded_L1_ok v_w r1.1 (len_ (eO 3 eTRatio_) r1.1) 0 ([] : List Int) r7 h8).vex) (.cons (snap_full (show (r7.map eI) = (r7.map eI) from rfl) (show r7.length = r7.length from rfl)) (.cons (fit_full (show (r7.map eI) = (r7.map eI) from rfl) (show r7.length = r7.length from rfl)) (.cons (pure_map eI_pure r7) .nil))))))))))))))))))
     (fun h6 =>
     .ret (runF_con0 hmix (tape := [.reg [nt, nt], .reg [nt, nt, (.call { ac := [ii, ii], r := .tup [.isl 1 (r1.1.map (eO 3 eTRatio_)), .b r1.2], sc := false }, true), nt, nt, nt, nt, nt], .reg [nt, nt, nt, nt, nt, (.call { ac := [ii, ii], r := .b r4, sc := true }, true), nt, (.br false, true)], .br true, .reg [nt, nt]]) (rr := .comp [.c0 (.nl 1), .c0 .id]) (by kernel_rfl) (.cons (impl_forceSquares_ok v_s v_q r1 h2) (.cons (not_t h3) (.cons (not_t h3) (.cons (not_t h3) (.cons (impl_fitsLimits_ok v_s v_w r4 h5) (.cons (Sc.b _ : Sc (.b r4)) (.cons (not_t h3) (.cons (not_t h3) (.cons (not_f h6) .nil))))))))))))
    (fun h3 =>
    .ret (runF_con0 hmix (tape := [.reg [nt, nt], .reg [nt, nt, (.call { ac := [ii, ii], r := .tup [.isl 1 (r1.1.map (eO 3 eTRatio_)), .b r1.2], sc := false }, true), nt, nt, nt, nt, nt], .reg [nt, nt, nt, nf, nf, nf, nf, (.br true, true)], .br true, .reg [nt, nt]]) (rr := .comp [.c0 (.nl 1), .c0 .id]) (by kernel_rfl) (.cons (impl_forceSquares_ok v_s v_q r1 h2) (.cons (not_f h3) (.cons (not_f h3) (.cons (not_f h3) (.cons (not_f h3) (.cons (not_f h3) (.cons (rfl : true = true) .nil)))))))))

def impl_IsWithin (v_s : TStructure) (v_q : (List TRat)) (v_w : (List Int)) : Option Bool :=
  impl_overloaded v_s v_q v_w >>= fun r1 =>
  if r1.2 = true then
    some ((len_ eI r1.1) == (0 : Int))
  else
    some false

theorem impl_IsWithin_ok (v_s : TStructure) (v_q : (List TRat)) (v_w : (List Int)) : Wp (impl_IsWithin v_s v_q v_w) (fun r => Con PP 24 [.agg [.isl 4 (v_s.fJoints.map eTJoint), .isl 3 (v_s.fMembers.map eTMember)], .isl 3 (v_q.map eTRat), .isl 1 (v_w.map eI)] [] (.b r) []) := by
  unfold impl_IsWithin
  exact .bnd fun r1 h2 =>
    .ite (fun h3 =>
    .ret (runF_con0 hmix (tape := [.reg [nt, nt], .frz 0, .reg [nt, nt, (.call { ac := [.c1 (.ptr [.id, .id]), ii, ii], rds := [0], r := .tup [.isl 1 (r1.1.map eI), .b r1.2], sc := false }, true), nt, nt, nt, nt, nt], .reg [nt, nt, nt, nt, nt, (.br true, true), nt]]) (rr := ii) (by kernel_rfl) (.cons (pure_es1 (eTStructure_pure v_s) : PureEs [[.isl 4 (v_s.fJoints.map eTJoint), .isl 3 (v_s.fMembers.map eTMember)]]) (.cons (impl_overloaded_ok v_s v_q v_w r1 h2) (.cons h3 (.cons h3 (.cons h3 (.cons h3 .nil))))))))
    (fun h3 =>
    .ret (runF_con0 hmix (tape := [.reg [nt, nt], .frz 0, .reg [nt, nt, (.call { ac := [.c1 (.ptr [.id, .id]), ii, ii], rds := [0], r := .tup [.isl 1 (r1.1.map eI), .b r1.2], sc := false }, true), nt, nt, nt, nt, nt], .reg [nt, nt, nf, nf, nf, (.br false, true), nt]]) (rr := ii) (by kernel_rfl) (.cons (pure_es1 (eTStructure_pure v_s) : PureEs [[.isl 4 (v_s.fJoints.map eTJoint), .isl 3 (v_s.fMembers.map eTMember)]]) (.cons (impl_overloaded_ok v_s v_q v_w r1 h2) (.cons h3 (.cons h3 (.cons h3 (.cons h3 .nil))))))))

def laws_eqJoint (v_a : TJoint) (v_b : TJoint) : Option Bool :=
  if (!(v_a.fName.toList == v_b.fName.toList)) = true then
    some false
  else
    if (v_a.fX != v_b.fX) = true then
      some false
    else
      if (v_a.fY != v_b.fY) = true then
        some false
      else
        if (v_a.fFixed == v_b.fFixed) = true then
          some true
        else
          some false

theorem laws_eqJoint_ok (v_a : TJoint) (v_b : TJoint) : Wp (laws_eqJoint v_a v_b) (fun r => Con PP 181 [.agg [.s v_a.fName, .n .i64 v_a.fX, .n .i64 v_a.fY, .b v_a.fFixed], .agg [.s v_b.fName, .n .i64 v_b.fX, .n .i64 v_b.fY, .b v_b.fFixed]] [] (.b r) []) := by
  unfold laws_eqJoint
  exact .ite (fun h1 =>
    .ret (runF_con0 hmix (tape := [.reg [nt, nt, nt], .reg [nt, nt, nt, nt, nt], .br true, .reg [nt]]) (rr := ii) (by kernel_rfl) (.cons h1 .nil)))
    (fun h1 =>
    .ite (fun h2 =>
     .ret (runF_con0 hmix (tape := [.reg [nt, nt, nt], .reg [nt, nt, nt, nt, nt], .br false, .reg [nt, nt, nt, nt, nt], .br true, .reg [nt]]) (rr := ii) (by kernel_rfl) (.cons h1 (.cons h2 .nil))))
     (fun h2 =>
     .ite (fun h3 =>
      .ret (runF_con0 hmix (tape := [.reg [nt, nt, nt], .reg [nt, nt, nt, nt, nt], .br false, .reg [nt, nt, nt, nt, nt], .br false, .reg [nt, nt, nt, nt, nt], .br true, .reg [nt]]) (rr := ii) (by kernel_rfl) (.cons h1 (.cons h2 (.cons h3 .nil)))))
      (fun h3 =>
      .ite (fun h4 =>
       .ret (runF_con0 hmix (tape := [.reg [nt, nt, nt], .reg [nt, nt, nt, nt, nt], .br false, .reg [nt, nt, nt, nt, nt], .br false, .reg [nt, nt, nt, nt, nt], .br false, .reg [nt, nt, nt, nt, nt], .br false, .reg [nt]]) (rr := ii) (by kernel_rfl) (.cons h1 (.cons h2 (.cons h3 (.cons (not_t h4) .nil))))))
       (fun h4 =>
       .ret (runF_con0 hmix (tape := [.reg [nt, nt, nt], .reg [nt, nt, nt, nt, nt], .br false, .reg [nt, nt, nt, nt, nt], .br false, .reg [nt, nt, nt, nt, nt], .br false, .reg [nt, nt, nt, nt, nt], .br true, .reg [nt]]) (rr := ii) (by kernel_rfl) (.cons h1 (.cons h2 (.cons h3 (.cons (not_f h4) .nil)))))))))

def laws_eqJointS_L1_head (v_a : (List TJoint)) (v_b : (List TJoint)) (v_i : Int) : S := mkS [(0, .isl 4 (v_a.map eTJoint)), (1, .isl 4 (v_b.map eTJoint)), (5, .n .i64 v_i)] []

def laws_eqJointS_L1_ex : ((Unit) ⊕ (Unit)) → Exit
  | .inl _ => .exit 0
  | .inr _ => .ret

def laws_eqJointS_L1_out (v_a : (List TJoint)) (v_b : (List TJoint)) : ((Unit) ⊕ (Unit)) → S
  | .inl a => mkS [] []
  | .inr a => mkS [(4, .b false)] []

def laws_eqJointS_L1_body (v_a : (List TJoint)) (v_b : (List TJoint)) (v_i : Int) : Option ((Int) ⊕ ((Unit) ⊕ (Unit))) :=
  if (decide (v_i < (len_ eTJoint v_a))) = true then
    if 0 ≤ v_i ∧ v_i < v_a.length then
    v_a[v_i.toNat]? >>= fun x3 =>
    if 0 ≤ v_i ∧ v_i < v_b.length then
    v_b[v_i.toNat]? >>= fun x6 =>
    laws_eqJoint x3 x6 >>= fun r8 =>
    if r8 = true then
      some (.inl (w64 (v_i + (1 : Int))))
    else
      some (.inr (.inr ()))
    else none
    else none
  else
    some (.inr (.inl ()))

def laws_eqJointS_L1 (v_a : (List TJoint)) (v_b : (List TJoint)) (v_i : Int) : Option ((Unit) ⊕ (Unit)) := iter (fun w : Int => laws_eqJointS_L1_body v_a v_b w) v_i

theorem laws_eqJointS_L1_body_ok (v_a : (List TJoint)) (v_b : (List TJoint)) (v_i : Int) : Wp (laws_eqJointS_L1_body v_a v_b v_i) (Sum.elim
    (fun w => VEx PP 27 0 (nodeAt (bodyOf PP 82) [1, 1, 0, 1, 0, 0]) .normal (laws_eqJointS_L1_head v_a v_b v_i) (laws_eqJointS_L1_head v_a v_b w))
    (fun r => VEx PP 27 0 (nodeAt (bodyOf PP 82) [1, 1, 0, 1, 0, 0]) (laws_eqJointS_L1_ex r) (laws_eqJointS_L1_head v_a v_b v_i) (laws_eqJointS_L1_out v_a v_b r))) := by
  unfold laws_eqJointS_L1_body
  exact .ite (fun h1 =>
      .grd fun h2 =>
       .bnd fun x3 h4 =>
       .grd fun h5 =>
       .bnd fun x6 h7 =>
       .bnd fun r8 h9 =>
       .ite (fun h10 =>
       .ret ((okC_sound hmix (tape := [.reg [nt, nt, nt, nt], .br true, .reg [nt, nt, nt, (.el (eTJoint x3), true), nt, nt, nt, (.el (eTJoint x6), true), (.call { ac := [ii, ii], r := .b r8, sc := true }, true), nt], .br false, .reg [nt, nt, nt], .rst [] [] [(0, ii), (1, ii), (5, ii)]]) (nr := 0) (by kernel_rfl) (.cons h1 (.cons ((h2).1) (.cons (lt_mapI (h2).2 : v_i < ((v_a.map eTJoint).length : Nat)) (.cons (map_get h4 : (v_a.map eTJoint)[v_i.toNat]? = some (eTJoint x3)) (.cons ((h5).1) (.cons (lt_mapI (h5).2 : v_i < ((v_b.map eTJoint).length : Nat)) (.cons (map_get h7 : (v_b.map eTJoint)[v_i.toNat]? = some (eTJoint x6)) (.cons (laws_eqJoint_ok x3 x6 r8 h9) (.cons (Sc.b _ : Sc (.b r8)) (.cons (not_t h10) .nil)))))))))) (mkS_free _ _) : VEx PP 27 0 (nodeAt (bodyOf PP 82) [1, 1, 0, 1, 0, 0]) .normal (laws_eqJointS_L1_head v_a v_b v_i) (laws_eqJointS_L1_head v_a v_b (w64 (v_i + (1 : Int)))))))
       (fun h10 =>
       .ret ((okC_sound hmix (tape := [.reg [nt, nt, nt, nt], .br true, .reg [nt, nt, nt, (.el (eTJoint x3), true), nt, nt, nt, (.el (eTJoint x6), true), (.call { ac := [ii, ii], r := .b r8, sc := true }, true), nt], .br true, .reg [nt], .rst [] [] [(4, ii)]]) (nr := 0) (by kernel_rfl) (.cons h1 (.cons ((h2).1) (.cons (lt_mapI (h2).2 : v_i < ((v_a.map eTJoint).length : Nat)) (.cons (map_get h4 : (v_a.map eTJoint)[v_i.toNat]? = some (eTJoint x3)) (.cons ((h5).1) (.cons (lt_mapI (h5).2 : v_i < ((v_b.map eTJoint).length : Nat)) (.cons (map_get h7 : (v_b.map eTJoint)[v_i.toNat]? = some (eTJoint x6)) (.cons (laws_eqJoint_ok x3 x6 r8 h9) (.cons (Sc.b _ : Sc (.b r8)) (.cons (not_f h10) .nil)))))))))) (mkS_free _ _) : VEx PP 27 0 (nodeAt (bodyOf PP 82) [1, 1, 0, 1, 0, 0]) (.ret) (laws_eqJointS_L1_head v_a v_b v_i) (laws_eqJointS_L1_out v_a v_b (.inr ()))))))
      (fun h1 =>
      .ret ((okC_sound hmix (tape := [.reg [nt, nt, nt, nt], .br false, .rst [] [] []]) (nr := 0) (by kernel_rfl) (.cons h1 .nil) (mkS_free _ _) : VEx PP 27 0 (nodeAt (bodyOf PP 82) [1, 1, 0, 1, 0, 0]) (.exit 0) (laws_eqJointS_L1_head v_a v_b v_i) (laws_eqJointS_L1_out v_a v_b (.inl ())))))

theorem laws_eqJointS_L1_ok (v_a : (List TJoint)) (v_b : (List TJoint)) (v_i : Int) : ∀ r, laws_eqJointS_L1 v_a v_b v_i = some r → VLoop PP 27 0 (nodeAt (bodyOf PP 82) [1, 1, 0, 1, 0, 0]) (laws_eqJointS_L1_ex r) (laws_eqJointS_L1_head v_a v_b v_i) (laws_eqJointS_L1_out v_a v_b r) := fun r h =>
  iter_ok (head := fun w : Int => laws_eqJointS_L1_head v_a v_b w) (ex := laws_eqJointS_L1_ex) (out := laws_eqJointS_L1_out v_a v_b) (by intro r; unfold laws_eqJointS_L1_ex; split <;> simp) (fun w => laws_eqJointS_L1_body_ok v_a v_b w) v_i r h

def laws_eqJointS (v_a : (List TJoint)) (v_b : (List TJoint)) : Option Bool :=
  if ((len_ eTJoint v_a) != (len_ eTJoint v_b)) = true then
    some false
  else
    laws_eqJointS_L1 v_a v_b 0 >>= fun r2 =>
    match r2 with
    | .inl a4 => (some true)
    | .inr a4 => (some false)

theorem laws_eqJointS_ok (v_a : (List TJoint)) (v_b : (List TJoint)) : Wp (laws_eqJointS v_a v_b) (fun r => Con PP 82 [.isl 4 (v_a.map eTJoint), .isl 4 (v_b.map eTJoint)] [] (.b r) []) := by
  unfold laws_eqJointS
  exact .ite (fun h1 =>
    .ret (runF_con0 hmix (tape := [.reg [nt], .reg [nt, nt, nt, nt, nt], .br true, .reg [nt]]) (rr := ii) (by kernel_rfl) (.cons h1 .nil)))
    (fun h1 =>
    .bnd fun r2 h3 =>
     match r2, h3 with
     | .inl a4, h3 => (.ret (runF_con0 hmix (tape := [.reg [nt], .reg [nt, nt, nt, nt, nt], .br false, .reg [nt], .rst [] [] [(0, ii), (1, ii), (5, ii)], .sub (.exit 0) [] [], .reg [nt]]) (rr := ii) (by kernel_rfl) (.cons h1 (.cons ((laws_eqJointS_L1_ok v_a v_b 0 (.inl a4) h3).vex) .nil))))
     | .inr a4, h3 => (.ret (runF_con0 hmix (tape := [.reg [nt], .reg [nt, nt, nt, nt, nt], .br false, .reg [nt], .rst [] [] [(0, ii), (1, ii), (5, ii)], .sub (.ret) [(4, .b false)] []]) (rr := ii) (by kernel_rfl) (.cons h1 (.cons ((laws_eqJointS_L1_ok v_a v_b 0 (.inr a4) h3).vex) .nil)))))

def laws_eqMember (v_a : TMember) (v_b : TMember) : Option Bool :=
  if (v_a.fA != v_b.fA) = true then
    some false
  else
    if (v_a.fB != v_b.fB) = true then
      some false
    else
      if (v_a.fKind != v_b.fKind) = true then
        some false
      else
        some true

theorem laws_eqMember_ok (v_a : TMember) (v_b : TMember) : Wp (laws_eqMember v_a v_b) (fun r => Con PP 182 [.agg [.n .i64 v_a.fA, .n .i64 v_a.fB, .n .i64 v_a.fKind], .agg [.n .i64 v_b.fA, .n .i64 v_b.fB, .n .i64 v_b.fKind]] [] (.b r) []) := by
  unfold laws_eqMember
  exact .ite (fun h1 =>
    .ret (runF_con0 hmix (tape := [.reg [nt, nt, nt], .reg [nt, nt, nt, nt, nt], .br true, .reg [nt]]) (rr := ii) (by kernel_rfl) (.cons h1 .nil)))
    (fun h1 =>
    .ite (fun h2 =>
     .ret (runF_con0 hmix (tape := [.reg [nt, nt, nt], .reg [nt, nt, nt, nt, nt], .br false, .reg [nt, nt, nt, nt, nt], .br true, .reg [nt]]) (rr := ii) (by kernel_rfl) (.cons h1 (.cons h2 .nil))))
     (fun h2 =>
     .ite (fun h3 =>
      .ret (runF_con0 hmix (tape := [.reg [nt, nt, nt], .reg [nt, nt, nt, nt, nt], .br false, .reg [nt, nt, nt, nt, nt], .br false, .reg [nt, nt, nt, nt, nt], .br true, .reg [nt]]) (rr := ii) (by kernel_rfl) (.cons h1 (.cons h2 (.cons h3 .nil)))))
      (fun h3 =>
      .ret (runF_con0 hmix (tape := [.reg [nt, nt, nt], .reg [nt, nt, nt, nt, nt], .br false, .reg [nt, nt, nt, nt, nt], .br false, .reg [nt, nt, nt, nt, nt], .br false, .reg [nt]]) (rr := ii) (by kernel_rfl) (.cons h1 (.cons h2 (.cons h3 .nil)))))))

def laws_eqMemberS_L1_head (v_a : (List TMember)) (v_b : (List TMember)) (v_i : Int) : S := mkS [(0, .isl 3 (v_a.map eTMember)), (1, .isl 3 (v_b.map eTMember)), (5, .n .i64 v_i)] []

def laws_eqMemberS_L1_ex : ((Unit) ⊕ (Unit)) → Exit
  | .inl _ => .exit 0
  | .inr _ => .ret

def laws_eqMemberS_L1_out (v_a : (List TMember)) (v_b : (List TMember)) : ((Unit) ⊕ (Unit)) → S
  | .inl a => mkS [] []
  | .inr a => mkS [(4, .b false)] []

def laws_eqMemberS_L1_body (v_a : (List TMember)) (v_b : (List TMember)) (v_i : Int) : Option ((Int) ⊕ ((Unit) ⊕ (Unit))) :=
  if (decide (v_i < (len_ eTMember v_a))) = true then
    if 0 ≤ v_i ∧ v_i < v_a.length then
    v_a[v_i.toNat]? >>= fun x3 =>
    if 0 ≤ v_i ∧ v_i < v_b.length then
    v_b[v_i.toNat]? >>= fun x6 =>
    laws_eqMember x3 x6 >>= fun r8 =>
    if r8 = true then
      some (.inl (w64 (v_i + (1 : Int))))
    else
      some (.inr (.inr ()))
    else none
    else none
  else
    some (.inr (.inl ()))

def laws_eqMemberS_L1 (v_a : (List TMember)) (v_b : (List TMember)) (v_i : Int) : Option ((Unit) ⊕ (Unit)) := iter (fun w : Int => laws_eqMemberS_L1_body v_a v_b w) v_i

theorem laws_eqMemberS_L1_body_ok (v_a : (List TMember)) (v_b : (List TMember)) (v_i : Int) : Wp (laws_eqMemberS_L1_body v_a v_b v_i) (Sum.elim
    (fun w => VEx PP 27 0 (nodeAt (bodyOf PP 83) [1, 1, 0, 1, 0, 0]) .normal (laws_eqMemberS_L1_head v_a v_b v_i) (laws_eqMemberS_L1_head v_a v_b w))
    (fun r => VEx PP 27 0 (nodeAt (bodyOf PP 83) [1, 1, 0, 1, 0, 0]) (laws_eqMemberS_L1_ex r) (laws_eqMemberS_L1_head v_a v_b v_i) (laws_eqMemberS_L1_out v_a v_b r))) := by
  unfold laws_eqMemberS_L1_body
  exact .ite (fun h1 =>
      .grd fun h2 =>
       .bnd fun x3 h4 =>
       .grd fun h5 =>
       .bnd fun x6 h7 =>
       .bnd fun r8 h9 =>
       .ite (fun h10 =>
       .ret ((okC_sound hmix (tape := [.reg [nt, nt, nt, nt], .br true, .reg [nt, nt, nt, (.el (eTMember x3), true), nt, nt, nt, (.el (eTMember x6), true), (.call { ac := [ii, ii], r := .b r8, sc := true }, true), nt], .br false, .reg [nt, nt, nt], .rst [] [] [(0, ii), (1, ii), (5, ii)]]) (nr := 0) (by kernel_rfl) (.cons h1 (.cons ((h2).1) (.cons (lt_mapI (h2).2 : v_i < ((v_a.map eTMember).length : Nat)) (.cons (map_get h4 : (v_a.map eTMember)[v_i.toNat]? = some (eTMember x3)) (.cons ((h5).1) (.cons (lt_mapI (h5).2 : v_i < ((v_b.map eTMember).length : Nat)) (.cons (map_get h7 : (v_b.map eTMember)[v_i.toNat]? = some (eTMember x6)) (.cons (laws_eqMember_ok x3 x6 r8 h9) (.cons (Sc.b _ : Sc (.b r8)) (.cons (not_t h10) .nil)))))))))) (mkS_free _ _) : VEx PP 27 0 (nodeAt (bodyOf PP 83) [1, 1, 0, 1, 0, 0]) .normal (laws_eqMemberS_L1_head v_a v_b v_i) (laws_eqMemberS_L1_head v_a v_b (w64 (v_i + (1 : Int)))))))
       (fun h10 =>
       .ret ((okC_sound hmix (tape := [.reg [nt, nt, nt, nt], .br true, .reg [nt, nt, nt, (.el (eTMember x3), true), nt, nt, nt, (.el (eTMember x6), true), (.call { ac := [ii, ii], r := .b r8, sc := true }, true), nt], .br true, .reg [nt], .rst [] [] [(4, ii)]]) (nr := 0) (by kernel_rfl) (.cons h1 (.cons ((h2).1) (.cons (lt_mapI (h2).2 : v_i < ((v_a.map eTMember).length : Nat)) (.cons (map_get h4 : (v_a.map eTMember)[v_i.toNat]? = some (eTMember x3)) (.cons ((h5).1) (.cons (lt_mapI (h5).2 : v_i < ((v_b.map eTMember).length : Nat)) (.cons (map_get h7 : (v_b.map eTMember)[v_i.toNat]? = some (eTMember x6)) (.cons (laws_eqMember_ok x3 x6 r8 h9) (.cons (Sc.b _ : Sc (.b r8)) (.cons (not_f h10) .nil)))))))))) (mkS_free _ _) : VEx PP 27 0 (nodeAt (bodyOf PP 83) [1, 1, 0, 1, 0, 0]) (.ret) (laws_eqMemberS_L1_head v_a v_b v_i) (laws_eqMemberS_L1_out v_a v_b (.inr ()))))))
      (fun h1 =>
      .ret ((okC_sound hmix (tape := [.reg [nt, nt, nt, nt], .br false, .rst [] [] []]) (nr := 0) (by kernel_rfl) (.cons h1 .nil) (mkS_free _ _) : VEx PP 27 0 (nodeAt (bodyOf PP 83) [1, 1, 0, 1, 0, 0]) (.exit 0) (laws_eqMemberS_L1_head v_a v_b v_i) (laws_eqMemberS_L1_out v_a v_b (.inl ())))))

theorem laws_eqMemberS_L1_ok (v_a : (List TMember)) (v_b : (List TMember)) (v_i : Int) : ∀ r, laws_eqMemberS_L1 v_a v_b v_i = some r → VLoop PP 27 0 (nodeAt (bodyOf PP 83) [1, 1, 0, 1, 0, 0]) (laws_eqMemberS_L1_ex r) (laws_eqMemberS_L1_head v_a v_b v_i) (laws_eqMemberS_L1_out v_a v_b r) := fun r h =>
  iter_ok (head := fun w : Int => laws_eqMemberS_L1_head v_a v_b w) (ex := laws_eqMemberS_L1_ex) (out := laws_eqMemberS_L1_out v_a v_b) (by intro r; unfold laws_eqMemberS_L1_ex; split <;> simp) (fun w => laws_eqMemberS_L1_body_ok v_a v_b w) v_i r h

def laws_eqMemberS (v_a : (List TMember)) (v_b : (List TMember)) : Option Bool :=
  if ((len_ eTMember v_a) != (len_ eTMember v_b)) = true then
    some false
  else
    laws_eqMemberS_L1 v_a v_b 0 >>= fun r2 =>
    match r2 with
    | .inl a4 => (some true)
    | .inr a4 => (some false)

theorem laws_eqMemberS_ok (v_a : (List TMember)) (v_b : (List TMember)) : Wp (laws_eqMemberS v_a v_b) (fun r => Con PP 83 [.isl 3 (v_a.map eTMember), .isl 3 (v_b.map eTMember)] [] (.b r) []) := by
  unfold laws_eqMemberS
  exact .ite (fun h1 =>
    .ret (runF_con0 hmix (tape := [.reg [nt], .reg [nt, nt, nt, nt, nt], .br true, .reg [nt]]) (rr := ii) (by kernel_rfl) (.cons h1 .nil)))
    (fun h1 =>
    .bnd fun r2 h3 =>
     match r2, h3 with
     | .inl a4, h3 => (.ret (runF_con0 hmix (tape := [.reg [nt], .reg [nt, nt, nt, nt, nt], .br false, .reg [nt], .rst [] [] [(0, ii), (1, ii), (5, ii)], .sub (.exit 0) [] [], .reg [nt]]) (rr := ii) (by kernel_rfl) (.cons h1 (.cons ((laws_eqMemberS_L1_ok v_a v_b 0 (.inl a4) h3).vex) .nil))))
     | .inr a4, h3 => (.ret (runF_con0 hmix (tape := [.reg [nt], .reg [nt, nt, nt, nt, nt], .br false, .reg [nt], .rst [] [] [(0, ii), (1, ii), (5, ii)], .sub (.ret) [(4, .b false)] []]) (rr := ii) (by kernel_rfl) (.cons h1 (.cons ((laws_eqMemberS_L1_ok v_a v_b 0 (.inr a4) h3).vex) .nil)))))

def laws_eqStructure (v_a : TStructure) (v_b : TStructure) : Option Bool :=
  laws_eqJointS v_a.fJoints v_b.fJoints >>= fun r1 =>
  if r1 = true then
    laws_eqMemberS v_a.fMembers v_b.fMembers >>= fun r4 =>
    if r4 = true then
      some true
    else
      some false
  else
    some false

theorem laws_eqStructure_ok (v_a : TStructure) (v_b : TStructure) : Wp (laws_eqStructure v_a v_b) (fun r => Con PP 25 [.agg [.isl 4 (v_a.fJoints.map eTJoint), .isl 3 (v_a.fMembers.map eTMember)], .agg [.isl 4 (v_b.fJoints.map eTJoint), .isl 3 (v_b.fMembers.map eTMember)]] [] (.b r) []) := by
  unfold laws_eqStructure
  exact .bnd fun r1 h2 =>
    .ite (fun h3 =>
    .bnd fun r4 h5 =>
     .ite (fun h6 =>
     .ret (runF_con0 hmix (tape := [.reg [nt, nt, nt], .reg [nt, nt, nt, nt, (.call { ac := [ii, ii], r := .b r1, sc := true }, true), nt], .br false, .reg [nt, nt, nt, nt, (.call { ac := [ii, ii], r := .b r4, sc := true }, true), nt], .br false, .reg [nt]]) (rr := ii) (by kernel_rfl) (.cons (laws_eqJointS_ok v_a.fJoints v_b.fJoints r1 h2) (.cons (Sc.b _ : Sc (.b r1)) (.cons (not_t h3) (.cons (laws_eqMemberS_ok v_a.fMembers v_b.fMembers r4 h5) (.cons (Sc.b _ : Sc (.b r4)) (.cons (not_t h6) .nil))))))))
     (fun h6 =>
     .ret (runF_con0 hmix (tape := [.reg [nt, nt, nt], .reg [nt, nt, nt, nt, (.call { ac := [ii, ii], r := .b r1, sc := true }, true), nt], .br false, .reg [nt, nt, nt, nt, (.call { ac := [ii, ii], r := .b r4, sc := true }, true), nt], .br true, .reg [nt]]) (rr := ii) (by kernel_rfl) (.cons (laws_eqJointS_ok v_a.fJoints v_b.fJoints r1 h2) (.cons (Sc.b _ : Sc (.b r1)) (.cons (not_t h3) (.cons (laws_eqMemberS_ok v_a.fMembers v_b.fMembers r4 h5) (.cons (Sc.b _ : Sc (.b r4)) (.cons (not_f h6) .nil)))))))))
    (fun h3 =>
    .ret (runF_con0 hmix (tape := [.reg [nt, nt, nt], .reg [nt, nt, nt, nt, (.call { ac := [ii, ii], r := .b r1, sc := true }, true), nt], .br true, .reg [nt]]) (rr := ii) (by kernel_rfl) (.cons (laws_eqJointS_ok v_a.fJoints v_b.fJoints r1 h2) (.cons (Sc.b _ : Sc (.b r1)) (.cons (not_f h3) .nil)))))

def laws_eqIntS_L1_head (v_a : (List Int)) (v_b : (List Int)) (v_i : Int) : S := mkS [(0, .isl 1 (v_a.map eI)), (1, .isl 1 (v_b.map eI)), (5, .n .i64 v_i)] []

def laws_eqIntS_L1_ex : ((Unit) ⊕ (Unit)) → Exit
  | .inl _ => .exit 0
  | .inr _ => .ret

def laws_eqIntS_L1_out (v_a : (List Int)) (v_b : (List Int)) : ((Unit) ⊕ (Unit)) → S
  | .inl a => mkS [] []
  | .inr a => mkS [(4, .b false)] []

def laws_eqIntS_L1_body (v_a : (List Int)) (v_b : (List Int)) (v_i : Int) : Option ((Int) ⊕ ((Unit) ⊕ (Unit))) :=
  if (decide (v_i < (len_ eI v_a))) = true then
    if 0 ≤ v_i ∧ v_i < v_a.length then
    v_a[v_i.toNat]? >>= fun x3 =>
    if 0 ≤ v_i ∧ v_i < v_b.length then
    v_b[v_i.toNat]? >>= fun x6 =>
    if (x3 != x6) = true then
      some (.inr (.inr ()))
    else
      some (.inl (w64 (v_i + (1 : Int))))
    else none
    else none
  else
    some (.inr (.inl ()))

def laws_eqIntS_L1 (v_a : (List Int)) (v_b : (List Int)) (v_i : Int) : Option ((Unit) ⊕ (Unit)) := iter (fun w : Int => laws_eqIntS_L1_body v_a v_b w) v_i

theorem laws_eqIntS_L1_body_ok (v_a : (List Int)) (v_b : (List Int)) (v_i : Int) : Wp (laws_eqIntS_L1_body v_a v_b v_i) (Sum.elim
    (fun w => VEx PP 26 0 (nodeAt (bodyOf PP 27) [1, 1, 0, 1, 0, 0]) .normal (laws_eqIntS_L1_head v_a v_b v_i) (laws_eqIntS_L1_head v_a v_b w))
    (fun r => VEx PP 26 0 (nodeAt (bodyOf PP 27) [1, 1, 0, 1, 0, 0]) (laws_eqIntS_L1_ex r) (laws_eqIntS_L1_head v_a v_b v_i) (laws_eqIntS_L1_out v_a v_b r))) := by
  unfold laws_eqIntS_L1_body
  exact .ite (fun h1 =>
      .grd fun h2 =>
       .bnd fun x3 h4 =>
       .grd fun h5 =>
       .bnd fun x6 h7 =>
       .ite (fun h8 =>
       .ret ((okC_sound hmix (tape := [.reg [nt, nt, nt, nt], .br true, .reg [nt, nt, nt, (.el (eI x3), true), nt, nt, nt, (.el (eI x6), true), nt], .br true, .reg [nt], .rst [] [] [(4, ii)]]) (nr := 0) (by kernel_rfl) (.cons h1 (.cons ((h2).1) (.cons (lt_mapI (h2).2 : v_i < ((v_a.map eI).length : Nat)) (.cons (map_get h4 : (v_a.map eI)[v_i.toNat]? = some (eI x3)) (.cons ((h5).1) (.cons (lt_mapI (h5).2 : v_i < ((v_b.map eI).length : Nat)) (.cons (map_get h7 : (v_b.map eI)[v_i.toNat]? = some (eI x6)) (.cons h8 .nil)))))))) (mkS_free _ _) : VEx PP 26 0 (nodeAt (bodyOf PP 27) [1, 1, 0, 1, 0, 0]) (.ret) (laws_eqIntS_L1_head v_a v_b v_i) (laws_eqIntS_L1_out v_a v_b (.inr ())))))
       (fun h8 =>
       .ret ((okC_sound hmix (tape := [.reg [nt, nt, nt, nt], .br true, .reg [nt, nt, nt, (.el (eI x3), true), nt, nt, nt, (.el (eI x6), true), nt], .br false, .reg [nt, nt, nt], .rst [] [] [(0, ii), (1, ii), (5, ii)]]) (nr := 0) (by kernel_rfl) (.cons h1 (.cons ((h2).1) (.cons (lt_mapI (h2).2 : v_i < ((v_a.map eI).length : Nat)) (.cons (map_get h4 : (v_a.map eI)[v_i.toNat]? = some (eI x3)) (.cons ((h5).1) (.cons (lt_mapI (h5).2 : v_i < ((v_b.map eI).length : Nat)) (.cons (map_get h7 : (v_b.map eI)[v_i.toNat]? = some (eI x6)) (.cons h8 .nil)))))))) (mkS_free _ _) : VEx PP 26 0 (nodeAt (bodyOf PP 27) [1, 1, 0, 1, 0, 0]) .normal (laws_eqIntS_L1_head v_a v_b v_i) (laws_eqIntS_L1_head v_a v_b (w64 (v_i + (1 : Int))))))))
      (fun h1 =>
      .ret ((okC_sound hmix (tape := [.reg [nt, nt, nt, nt], .br false, .rst [] [] []]) (nr := 0) (by kernel_rfl) (.cons h1 .nil) (mkS_free _ _) : VEx PP 26 0 (nodeAt (bodyOf PP 27) [1, 1, 0, 1, 0, 0]) (.exit 0) (laws_eqIntS_L1_head v_a v_b v_i) (laws_eqIntS_L1_out v_a v_b (.inl ())))))

theorem laws_eqIntS_L1_ok (v_a : (List Int)) (v_b : (List Int)) (v_i : Int) : ∀ r, laws_eqIntS_L1 v_a v_b v_i = some r → VLoop PP 26 0 (nodeAt (bodyOf PP 27) [1, 1, 0, 1, 0, 0]) (laws_eqIntS_L1_ex r) (laws_eqIntS_L1_head v_a v_b v_i) (laws_eqIntS_L1_out v_a v_b r) := fun r h =>
  iter_ok (head := fun w : Int => laws_eqIntS_L1_head v_a v_b w) (ex := laws_eqIntS_L1_ex) (out := laws_eqIntS_L1_out v_a v_b) (by intro r; unfold laws_eqIntS_L1_ex; split <;> simp) (fun w => laws_eqIntS_L1_body_ok v_a v_b w) v_i r h

def laws_eqIntS (v_a : (List Int)) (v_b : (List Int)) : Option Bool :=
  if ((len_ eI v_a) != (len_ eI v_b)) = true then
    some false
  else
    laws_eqIntS_L1 v_a v_b 0 >>= fun r2 =>
    match r2 with
    | .inl a4 => (some true)
    | .inr a4 => (some false)

theorem laws_eqIntS_ok (v_a : (List Int)) (v_b : (List Int)) : Wp (laws_eqIntS v_a v_b) (fun r => Con PP 27 [.isl 1 (v_a.map eI), .isl 1 (v_b.map eI)] [] (.b r) []) := by
  unfold laws_eqIntS
  exact .ite (fun h1 =>
    .ret (runF_con0 hmix (tape := [.reg [nt], .reg [nt, nt, nt, nt, nt], .br true, .reg [nt]]) (rr := ii) (by kernel_rfl) (.cons h1 .nil)))
    (fun h1 =>
    .bnd fun r2 h3 =>
     match r2, h3 with
     | .inl a4, h3 => (.ret (runF_con0 hmix (tape := [.reg [nt], .reg [nt, nt, nt, nt, nt], .br false, .reg [nt], .rst [] [] [(0, ii), (1, ii), (5, ii)], .sub (.exit 0) [] [], .reg [nt]]) (rr := ii) (by kernel_rfl) (.cons h1 (.cons ((laws_eqIntS_L1_ok v_a v_b 0 (.inl a4) h3).vex) .nil))))
     | .inr a4, h3 => (.ret (runF_con0 hmix (tape := [.reg [nt], .reg [nt, nt, nt, nt, nt], .br false, .reg [nt], .rst [] [] [(0, ii), (1, ii), (5, ii)], .sub (.ret) [(4, .b false)] []]) (rr := ii) (by kernel_rfl) (.cons h1 (.cons ((laws_eqIntS_L1_ok v_a v_b 0 (.inr a4) h3).vex) .nil)))))

def laws_eqBigInt (v_a : TBigInt) (v_b : TBigInt) : Option Bool :=
  if (v_a.fNeg == v_b.fNeg) = true then
    laws_eqIntS v_a.fMag v_b.fMag >>= fun r2 =>
    if r2 = true then
      some true
    else
      some false
  else
    some false

theorem laws_eqBigInt_ok (v_a : TBigInt) (v_b : TBigInt) : Wp (laws_eqBigInt v_a v_b) (fun r => Con PP 124 [.agg [.b v_a.fNeg, .isl 1 (v_a.fMag.map eI)], .agg [.b v_b.fNeg, .isl 1 (v_b.fMag.map eI)]] [] (.b r) []) := by
  unfold laws_eqBigInt
  exact .ite (fun h1 =>
    .bnd fun r2 h3 =>
     .ite (fun h4 =>
     .ret (runF_con0 hmix (tape := [.reg [nt, nt, nt], .reg [nt, nt, nt, nt, nt], .br false, .reg [nt, nt, nt, nt, (.call { ac := [ii, ii], r := .b r2, sc := true }, true), nt], .br false, .reg [nt]]) (rr := ii) (by kernel_rfl) (.cons (not_t h1) (.cons (laws_eqIntS_ok v_a.fMag v_b.fMag r2 h3) (.cons (Sc.b _ : Sc (.b r2)) (.cons (not_t h4) .nil))))))
     (fun h4 =>
     .ret (runF_con0 hmix (tape := [.reg [nt, nt, nt], .reg [nt, nt, nt, nt, nt], .br false, .reg [nt, nt, nt, nt, (.call { ac := [ii, ii], r := .b r2, sc := true }, true), nt], .br true, .reg [nt]]) (rr := ii) (by kernel_rfl) (.cons (not_t h1) (.cons (laws_eqIntS_ok v_a.fMag v_b.fMag r2 h3) (.cons (Sc.b _ : Sc (.b r2)) (.cons (not_f h4) .nil)))))))
    (fun h1 =>
    .ret (runF_con0 hmix (tape := [.reg [nt, nt, nt], .reg [nt, nt, nt, nt, nt], .br true, .reg [nt]]) (rr := ii) (by kernel_rfl) (.cons (not_f h1) .nil)))

def laws_eqRat (v_a : TRat) (v_b : TRat) : Option Bool :=
  laws_eqBigInt v_a.fNum v_b.fNum >>= fun r1 =>
  if r1 = true then
    laws_eqIntS v_a.fDen v_b.fDen >>= fun r4 =>
    if r4 = true then
      some true
    else
      some false
  else
    some false

theorem laws_eqRat_ok (v_a : TRat) (v_b : TRat) : Wp (laws_eqRat v_a v_b) (fun r => Con PP 45 [.agg [.b v_a.fNum.fNeg, .isl 1 (v_a.fNum.fMag.map eI), .isl 1 (v_a.fDen.map eI)], .agg [.b v_b.fNum.fNeg, .isl 1 (v_b.fNum.fMag.map eI), .isl 1 (v_b.fDen.map eI)]] [] (.b r) []) := by
  unfold laws_eqRat
  exact .bnd fun r1 h2 =>
    .ite (fun h3 =>
    .bnd fun r4 h5 =>
     .ite (fun h6 =>
     .ret (runF_con0 hmix (tape := [.reg [nt, nt, nt], .reg [nt, nt, nt, nt, (.call { ac := [ii, ii], r := .b r1, sc := true }, true), nt], .br false, .reg [nt, nt, nt, nt, (.call { ac := [ii, ii], r := .b r4, sc := true }, true), nt], .br false, .reg [nt]]) (rr := ii) (by kernel_rfl) (.cons (laws_eqBigInt_ok v_a.fNum v_b.fNum r1 h2) (.cons (Sc.b _ : Sc (.b r1)) (.cons (not_t h3) (.cons (laws_eqIntS_ok v_a.fDen v_b.fDen r4 h5) (.cons (Sc.b _ : Sc (.b r4)) (.cons (not_t h6) .nil))))))))
     (fun h6 =>
     .ret (runF_con0 hmix (tape := [.reg [nt, nt, nt], .reg [nt, nt, nt, nt, (.call { ac := [ii, ii], r := .b r1, sc := true }, true), nt], .br false, .reg [nt, nt, nt, nt, (.call { ac := [ii, ii], r := .b r4, sc := true }, true), nt], .br true, .reg [nt]]) (rr := ii) (by kernel_rfl) (.cons (laws_eqBigInt_ok v_a.fNum v_b.fNum r1 h2) (.cons (Sc.b _ : Sc (.b r1)) (.cons (not_t h3) (.cons (laws_eqIntS_ok v_a.fDen v_b.fDen r4 h5) (.cons (Sc.b _ : Sc (.b r4)) (.cons (not_f h6) .nil)))))))))
    (fun h3 =>
    .ret (runF_con0 hmix (tape := [.reg [nt, nt, nt], .reg [nt, nt, nt, nt, (.call { ac := [ii, ii], r := .b r1, sc := true }, true), nt], .br true, .reg [nt]]) (rr := ii) (by kernel_rfl) (.cons (laws_eqBigInt_ok v_a.fNum v_b.fNum r1 h2) (.cons (Sc.b _ : Sc (.b r1)) (.cons (not_f h3) .nil)))))

def laws_eqRatS_L1_head (v_a : (List TRat)) (v_b : (List TRat)) (v_i : Int) : S := mkS [(0, .isl 3 (v_a.map eTRat)), (1, .isl 3 (v_b.map eTRat)), (5, .n .i64 v_i)] []

def laws_eqRatS_L1_ex : ((Unit) ⊕ (Unit)) → Exit
  | .inl _ => .exit 0
  | .inr _ => .ret

def laws_eqRatS_L1_out (v_a : (List TRat)) (v_b : (List TRat)) : ((Unit) ⊕ (Unit)) → S
  | .inl a => mkS [] []
  | .inr a => mkS [(4, .b false)] []

def laws_eqRatS_L1_body (v_a : (List TRat)) (v_b : (List TRat)) (v_i : Int) : Option ((Int) ⊕ ((Unit) ⊕ (Unit))) :=
  if (decide (v_i < (len_ eTRat v_a))) = true then
    if 0 ≤ v_i ∧ v_i < v_a.length then
    v_a[v_i.toNat]? >>= fun x3 =>
    if 0 ≤ v_i ∧ v_i < v_b.length then
    v_b[v_i.toNat]? >>= fun x6 =>
    laws_eqRat x3 x6 >>= fun r8 =>
    if r8 = true then
      some (.inl (w64 (v_i + (1 : Int))))
    else
      some (.inr (.inr ()))
    else none
    else none
  else
    some (.inr (.inl ()))

def laws_eqRatS_L1 (v_a : (List TRat)) (v_b : (List TRat)) (v_i : Int) : Option ((Unit) ⊕ (Unit)) := iter (fun w : Int => laws_eqRatS_L1_body v_a v_b w) v_i

theorem laws_eqRatS_L1_body_ok (v_a : (List TRat)) (v_b : (List TRat)) (v_i : Int) : Wp (laws_eqRatS_L1_body v_a v_b v_i) (Sum.elim
    (fun w => VEx PP 27 0 (nodeAt (bodyOf PP 26) [1, 1, 0, 1, 0, 0]) .normal (laws_eqRatS_L1_head v_a v_b v_i) (laws_eqRatS_L1_head v_a v_b w))
    (fun r => VEx PP 27 0 (nodeAt (bodyOf PP 26) [1, 1, 0, 1, 0, 0]) (laws_eqRatS_L1_ex r) (laws_eqRatS_L1_head v_a v_b v_i) (laws_eqRatS_L1_out v_a v_b r))) := by
  unfold laws_eqRatS_L1_body
  exact .ite (fun h1 =>
      .grd fun h2 =>
       .bnd fun x3 h4 =>
       .grd fun h5 =>
       .bnd fun x6 h7 =>
       .bnd fun r8 h9 =>
       .ite (fun h10 =>
       .ret ((okC_sound hmix (tape := [.reg [nt, nt, nt, nt], .br true, .reg [nt, nt, nt, (.el (eTRat x3), true), nt, nt, nt, (.el (eTRat x6), true), (.call { ac := [ii, ii], r := .b r8, sc := true }, true), nt], .br false, .reg [nt, nt, nt], .rst [] [] [(0, ii), (1, ii), (5, ii)]]) (nr := 0) (by kernel_rfl) (.cons h1 (.cons ((h2).1) (.cons (lt_mapI (h2).2 : v_i < ((v_a.map eTRat).length : Nat)) (.cons (map_get h4 : (v_a.map eTRat)[v_i.toNat]? = some (eTRat x3)) (.cons ((h5).1) (.cons (lt_mapI (h5).2 : v_i < ((v_b.map eTRat).length : Nat)) (.cons (map_get h7 : (v_b.map eTRat)[v_i.toNat]? = some (eTRat x6)) (.cons (laws_eqRat_ok x3 x6 r8 h9) (.cons (Sc.b _ : Sc (.b r8)) (.cons (not_t h10) .nil)))))))))) (mkS_free _ _) : VEx PP 27 0 (nodeAt (bodyOf PP 26) [1, 1, 0, 1, 0, 0]) .normal (laws_eqRatS_L1_head v_a v_b v_i) (laws_eqRatS_L1_head v_a v_b (w64 (v_i + (1 : Int)))))))
       (fun h10 =>
       .ret ((okC_sound hmix (tape := [.reg [nt, nt, nt, nt], .br true, .reg [nt, nt, nt, (.el (eTRat x3), true), nt, nt, nt, (.el (eTRat x6), true), (.call { ac := [ii, ii], r := .b r8, sc := true }, true), nt], .br true, .reg [nt], .rst [] [] [(4, ii)]]) (nr := 0) (by kernel_rfl) (.cons h1 (.cons ((h2).1) (.cons (lt_mapI (h2).2 : v_i < ((v_a.map eTRat).length : Nat)) (.cons (map_get h4 : (v_a.map eTRat)[v_i.toNat]? = some (eTRat x3)) (.cons ((h5).1) (.cons (lt_mapI (h5).2 : v_i < ((v_b.map eTRat).length : Nat)) (.cons (map_get h7 : (v_b.map eTRat)[v_i.toNat]? = some (eTRat x6)) (.cons (laws_eqRat_ok x3 x6 r8 h9) (.cons (Sc.b _ : Sc (.b r8)) (.cons (not_f h10) .nil)))))))))) (mkS_free _ _) : VEx PP 27 0 (nodeAt (bodyOf PP 26) [1, 1, 0, 1, 0, 0]) (.ret) (laws_eqRatS_L1_head v_a v_b v_i) (laws_eqRatS_L1_out v_a v_b (.inr ()))))))
      (fun h1 =>
      .ret ((okC_sound hmix (tape := [.reg [nt, nt, nt, nt], .br false, .rst [] [] []]) (nr := 0) (by kernel_rfl) (.cons h1 .nil) (mkS_free _ _) : VEx PP 27 0 (nodeAt (bodyOf PP 26) [1, 1, 0, 1, 0, 0]) (.exit 0) (laws_eqRatS_L1_head v_a v_b v_i) (laws_eqRatS_L1_out v_a v_b (.inl ())))))

theorem laws_eqRatS_L1_ok (v_a : (List TRat)) (v_b : (List TRat)) (v_i : Int) : ∀ r, laws_eqRatS_L1 v_a v_b v_i = some r → VLoop PP 27 0 (nodeAt (bodyOf PP 26) [1, 1, 0, 1, 0, 0]) (laws_eqRatS_L1_ex r) (laws_eqRatS_L1_head v_a v_b v_i) (laws_eqRatS_L1_out v_a v_b r) := fun r h =>
  iter_ok (head := fun w : Int => laws_eqRatS_L1_head v_a v_b w) (ex := laws_eqRatS_L1_ex) (out := laws_eqRatS_L1_out v_a v_b) (by intro r; unfold laws_eqRatS_L1_ex; split <;> simp) (fun w => laws_eqRatS_L1_body_ok v_a v_b w) v_i r h

def laws_eqRatS (v_a : (List TRat)) (v_b : (List TRat)) : Option Bool :=
  if ((len_ eTRat v_a) != (len_ eTRat v_b)) = true then
    some false
  else
    laws_eqRatS_L1 v_a v_b 0 >>= fun r2 =>
    match r2 with
    | .inl a4 => (some true)
    | .inr a4 => (some false)

theorem laws_eqRatS_ok (v_a : (List TRat)) (v_b : (List TRat)) : Wp (laws_eqRatS v_a v_b) (fun r => Con PP 26 [.isl 3 (v_a.map eTRat), .isl 3 (v_b.map eTRat)] [] (.b r) []) := by
  unfold laws_eqRatS
  exact .ite (fun h1 =>
    .ret (runF_con0 hmix (tape := [.reg [nt], .reg [nt, nt, nt, nt, nt], .br true, .reg [nt]]) (rr := ii) (by kernel_rfl) (.cons h1 .nil)))
    (fun h1 =>
    .bnd fun r2 h3 =>
     match r2, h3 with
     | .inl a4, h3 => (.ret (runF_con0 hmix (tape := [.reg [nt], .reg [nt, nt, nt, nt, nt], .br false, .reg [nt], .rst [] [] [(0, ii), (1, ii), (5, ii)], .sub (.exit 0) [] [], .reg [nt]]) (rr := ii) (by kernel_rfl) (.cons h1 (.cons ((laws_eqRatS_L1_ok v_a v_b 0 (.inl a4) h3).vex) .nil))))
     | .inr a4, h3 => (.ret (runF_con0 hmix (tape := [.reg [nt], .reg [nt, nt, nt, nt, nt], .br false, .reg [nt], .rst [] [] [(0, ii), (1, ii), (5, ii)], .sub (.ret) [(4, .b false)] []]) (rr := ii) (by kernel_rfl) (.cons h1 (.cons ((laws_eqRatS_L1_ok v_a v_b 0 (.inr a4) h3).vex) .nil)))))

def laws_FnExactIsWithin (v_aS : TStructure) (v_aQ : (List TRat)) (v_aW : (List Int)) : Option Bool :=
  if (decide ((1048576 : Int) < (len_ eI v_aW))) = true then
    some true
  else
    laws_szStructure v_aS 1048576 >>= fun r2 =>
    if (decide (r2 < (0 : Int))) = true then
      some true
    else
      laws_szRatS v_aQ r2 >>= fun r5 =>
      if (decide (r5 < (0 : Int))) = true then
        some true
      else
        laws_toStructure v_aS >>= fun r8 =>
        laws_toRatS v_aQ >>= fun r10 =>
        laws_toIntS v_aW >>= fun r12 =>
        spec_IsWithin r8 r10 r12 >>= fun r14 =>
        impl_IsWithin r8 r10 r12 >>= fun r16 =>
        if (r16 == r14) = true then
          laws_eqStructure r8 r8 >>= fun r19 =>
          if r19 = true then
            laws_eqRatS r10 r10 >>= fun r22 =>
            if r22 = true then
              laws_eqIntS r12 r12 >>= fun r25 =>
              if r25 = true then
                some true
              else
                some false
            else
              some false
          else
            some false
        else
          some false

theorem laws_FnExactIsWithin_ok (v_aS : TStructure) (v_aQ : (List TRat)) (v_aW : (List Int)) : Wp (laws_FnExactIsWithin v_aS v_aQ v_aW) (fun r => Con PP 3 [.agg [.isl 4 (v_aS.fJoints.map eTJoint), .isl 3 (v_aS.fMembers.map eTMember)], .isl 3 (v_aQ.map eTRat), .isl 1 (v_aW.map eI)] [] (.b r) []) := by
  unfold laws_FnExactIsWithin
  exact .ite (fun h1 =>
    .ret (runF_con0 hmix (tape := [.reg [nt, nt], .reg [nt, nt, nt], .br true, .reg [nt]]) (rr := ii) (by kernel_rfl) (.cons h1 .nil)))
    (fun h1 =>
    .bnd fun r2 h3 =>
     .ite (fun h4 =>
     .ret (runF_con0 hmix (tape := [.reg [nt, nt], .reg [nt, nt, nt], .br false, .reg [nt], .reg [nt, nt, (.call { ac := [ii, ii], r := .n .i64 r2, sc := true }, true), nt], .reg [nt, nt], .br true, .reg [nt]]) (rr := ii) (by kernel_rfl) (.cons h1 (.cons (laws_szStructure_ok v_aS 1048576 r2 h3) (.cons (Sc.n _ _ : Sc (.n .i64 r2)) (.cons h4 .nil))))))
     (fun h4 =>
     .bnd fun r5 h6 =>
      .ite (fun h7 =>
      .ret (runF_con0 hmix (tape := [.reg [nt, nt], .reg [nt, nt, nt], .br false, .reg [nt], .reg [nt, nt, (.call { ac := [ii, ii], r := .n .i64 r2, sc := true }, true), nt], .reg [nt, nt], .br false, .reg [nt, nt, (.call { ac := [ii, ii], r := .n .i64 r5, sc := true }, true), nt], .reg [nt, nt], .br true, .reg [nt]]) (rr := ii) (by kernel_rfl) (.cons h1 (.cons (laws_szStructure_ok v_aS 1048576 r2 h3) (.cons (Sc.n _ _ : Sc (.n .i64 r2)) (.cons h4 (.cons (laws_szRatS_ok v_aQ r2 r5 h6) (.cons (Sc.n _ _ : Sc (.n .i64 r5)) (.cons h7 .nil)))))))))
      (fun h7 =>
      .bnd fun r8 h9 =>
       .bnd fun r10 h11 =>
       .bnd fun r12 h13 =>
       .bnd fun r14 h15 =>
       .bnd fun r16 h17 =>
       .ite (fun h18 =>
       .bnd fun r19 h20 =>
        .ite (fun h21 =>
        .bnd fun r22 h23 =>
         .ite (fun h24 =>
         .bnd fun r25 h26 =>
          .ite (fun h27 =>
          .ret (runF_con0 hmix (tape := [.reg [nt, nt], .reg [nt, nt, nt], .br false, .reg [nt], .reg [nt, nt, (.call { ac := [ii, ii], r := .n .i64 r2, sc := true }, true), nt], .reg [nt, nt], .br false, .reg [nt, nt, (.call { ac := [ii, ii], r := .n .i64 r5, sc := true }, true), nt], .reg [nt, nt], .br false, .reg [nt, (.call { ac := [ii], r := .agg [.isl 4 (r8.fJoints.map eTJoint), .isl 3 (r8.fMembers.map eTMember)], sc := false }, true), nt, (.call { ac := [ii], r := .isl 3 (r10.map eTRat), sc := false }, true), nt, (.call { ac := [ii], r := .isl 1 (r12.map eI), sc := false }, true), (.call { ac := [ii, ii, ii], r := .b r14, sc := true }, true), nt], .reg [nt, (.call { ac := [ii], r := .agg [.isl 4 (r8.fJoints.map eTJoint), .isl 3 (r8.fMembers.map eTMember)], sc := false }, true), nt, nt], .reg [nt, (.call { ac := [ii], r := .isl 3 (r10.map eTRat), sc := false }, true), nt], .reg [nt, (.call { ac := [ii], r := .isl 1 (r12.map eI), sc := false }, true), nt], .reg [nt, nt, nt, (.call { ac := [ii, ii, ii], r := .b r16, sc := true }, true), nt], .reg [nt, nt, nt], .br false, .reg [nt, nt, (.call { ac := [ii], r := .agg [.isl 4 (r8.fJoints.map eTJoint), .isl 3 (r8.fMembers.map eTMember)], sc := false }, true), (.call { ac := [ii, ii], r := .b r19, sc := true }, true), nt], .br false, .reg [nt, nt, (.call { ac := [ii], r := .isl 3 (r10.map eTRat), sc := false }, true), (.call { ac := [ii, ii], r := .b r22, sc := true }, true), nt], .br false, .reg [nt, nt, (.call { ac := [ii], r := .isl 1 (r12.map eI), sc := false }, true), (.call { ac := [ii, ii], r := .b r25, sc := true }, true), nt], .br false, .reg [nt]]) (rr := ii) (by kernel_rfl) (.cons h1 (.cons (laws_szStructure_ok v_aS 1048576 r2 h3) (.cons (Sc.n _ _ : Sc (.n .i64 r2)) (.cons h4 (.cons (laws_szRatS_ok v_aQ r2 r5 h6) (.cons (Sc.n _ _ : Sc (.n .i64 r5)) (.cons h7 (.cons (laws_toStructure_ok v_aS r8 h9) (.cons (laws_toRatS_ok v_aQ r10 h11) (.cons (laws_toIntS_ok v_aW r12 h13) (.cons (spec_IsWithin_ok r8 r10 r12 r14 h15) (.cons (Sc.b _ : Sc (.b r14)) (.cons (laws_toStructure_ok v_aS r8 h9) (.cons (laws_toRatS_ok v_aQ r10 h11) (.cons (laws_toIntS_ok v_aW r12 h13) (.cons (impl_IsWithin_ok r8 r10 r12 r16 h17) (.cons (Sc.b _ : Sc (.b r16)) (.cons (not_t h18) (.cons (laws_toStructure_ok v_aS r8 h9) (.cons (laws_eqStructure_ok r8 r8 r19 h20) (.cons (Sc.b _ : Sc (.b r19)) (.cons (not_t h21) (.cons (laws_toRatS_ok v_aQ r10 h11) (.cons (laws_eqRatS_ok r10 r10 r22 h23) (.cons (Sc.b _ : Sc (.b r22)) (.cons (not_t h24) (.cons (laws_toIntS_ok v_aW r12 h13) (.cons (laws_eqIntS_ok r12 r12 r25 h26) (.cons (Sc.b _ : Sc (.b r25)) (.cons (not_t h27) .nil))))))))))))))))))))))))))))))))
          (fun h27 =>
          .ret (runF_con0 hmix (tape := [.reg [nt, nt], .reg [nt, nt, nt], .br false, .reg [nt], .reg [nt, nt, (.call { ac := [ii, ii], r := .n .i64 r2, sc := true }, true), nt], .reg [nt, nt], .br false, .reg [nt, nt, (.call { ac := [ii, ii], r := .n .i64 r5, sc := true }, true), nt], .reg [nt, nt], .br false, .reg [nt, (.call { ac := [ii], r := .agg [.isl 4 (r8.fJoints.map eTJoint), .isl 3 (r8.fMembers.map eTMember)], sc := false }, true), nt, (.call { ac := [ii], r := .isl 3 (r10.map eTRat), sc := false }, true), nt, (.call { ac := [ii], r := .isl 1 (r12.map eI), sc := false }, true), (.call { ac := [ii, ii, ii], r := .b r14, sc := true }, true), nt], .reg [nt, (.call { ac := [ii], r := .agg [.isl 4 (r8.fJoints.map eTJoint), .isl 3 (r8.fMembers.map eTMember)], sc := false }, true), nt, nt], .reg [nt, (.call { ac := [ii], r := .isl 3 (r10.map eTRat), sc := false }, true), nt], .reg [nt, (.call { ac := [ii], r := .isl 1 (r12.map eI), sc := false }, true), nt], .reg [nt, nt, nt, (.call { ac := [ii, ii, ii], r := .b r16, sc := true }, true), nt], .reg [nt, nt, nt], .br false, .reg [nt, nt, (.call { ac := [ii], r := .agg [.isl 4 (r8.fJoints.map eTJoint), .isl 3 (r8.fMembers.map eTMember)], sc := false }, true), (.call { ac := [ii, ii], r := .b r19, sc := true }, true), nt], .br false, .reg [nt, nt, (.call { ac := [ii], r := .isl 3 (r10.map eTRat), sc := false }, true), (.call { ac := [ii, ii], r := .b r22, sc := true }, true), nt], .br false, .reg [nt, nt, (.call { ac := [ii], r := .isl 1 (r12.map eI), sc := false }, true), (.call { ac := [ii, ii], r := .b r25, sc := true }, true), nt], .br true, .reg [nt]]) (rr := ii) (by kernel_rfl) (.cons h1 (.cons (laws_szStructure_ok v_aS 1048576 r2 h3) (.cons (Sc.n _ _ : Sc (.n .i64 r2)) (.cons h4 (.cons (laws_szRatS_ok v_aQ r2 r5 h6) (.cons (Sc.n _ _ : Sc (.n .i64 r5)) (.cons h7 (.cons (laws_toStructure_ok v_aS r8 h9) (.cons (laws_toRatS_ok v_aQ r10 h11) (.cons (laws_toIntS_ok v_aW r12 h13) (.cons (spec_IsWithin_ok r8 r10 r12 r14 h15) (.cons (Sc.b _ : Sc (.b r14)) (.cons (laws_toStructure_ok v_aS r8 h9) (.cons (laws_toRatS_ok v_aQ r10 h11) (.cons (laws_toIntS_ok v_aW r12 h13) (.cons (impl_IsWithin_ok r8 r10 r12 r16 h17) (.cons (Sc.b _ : Sc (.b r16)) (.cons (not_t h18) (.cons (laws_toStructure_ok v_aS r8 h9) (.cons (laws_eqStructure_ok r8 r8 r19 h20) (.cons (Sc.b _ : Sc (.b r19)) (.cons (not_t h21) (.cons (laws_toRatS_ok v_aQ r10 h11) (.cons (laws_eqRatS_ok r10 r10 r22 h23) (.cons (Sc.b _ : Sc (.b r22)) (.cons (not_t h24) (.cons (laws_toIntS_ok v_aW r12 h13) (.cons (laws_eqIntS_ok r12 r12 r25 h26) (.cons (Sc.b _ : Sc (.b r25)) (.cons (not_f h27) .nil)))))))))))))))))))))))))))))))))
         (fun h24 =>
         .ret (runF_con0 hmix (tape := [.reg [nt, nt], .reg [nt, nt, nt], .br false, .reg [nt], .reg [nt, nt, (.call { ac := [ii, ii], r := .n .i64 r2, sc := true }, true), nt], .reg [nt, nt], .br false, .reg [nt, nt, (.call { ac := [ii, ii], r := .n .i64 r5, sc := true }, true), nt], .reg [nt, nt], .br false, .reg [nt, (.call { ac := [ii], r := .agg [.isl 4 (r8.fJoints.map eTJoint), .isl 3 (r8.fMembers.map eTMember)], sc := false }, true), nt, (.call { ac := [ii], r := .isl 3 (r10.map eTRat), sc := false }, true), nt, (.call { ac := [ii], r := .isl 1 (r12.map eI), sc := false }, true), (.call { ac := [ii, ii, ii], r := .b r14, sc := true }, true), nt], .reg [nt, (.call { ac := [ii], r := .agg [.isl 4 (r8.fJoints.map eTJoint), .isl 3 (r8.fMembers.map eTMember)], sc := false }, true), nt, nt], .reg [nt, (.call { ac := [ii], r := .isl 3 (r10.map eTRat), sc := false }, true), nt], .reg [nt, (.call { ac := [ii], r := .isl 1 (r12.map eI), sc := false }, true), nt], .reg [nt, nt, nt, (.call { ac := [ii, ii, ii], r := .b r16, sc := true }, true), nt], .reg [nt, nt, nt], .br false, .reg [nt, nt, (.call { ac := [ii], r := .agg [.isl 4 (r8.fJoints.map eTJoint), .isl 3 (r8.fMembers.map eTMember)], sc := false }, true), (.call { ac := [ii, ii], r := .b r19, sc := true }, true), nt], .br false, .reg [nt, nt, (.call { ac := [ii], r := .isl 3 (r10.map eTRat), sc := false }, true), (.call { ac := [ii, ii], r := .b r22, sc := true }, true), nt], .br true, .reg [nt]]) (rr := ii) (by kernel_rfl) (.cons h1 (.cons (laws_szStructure_ok v_aS 1048576 r2 h3) (.cons (Sc.n _ _ : Sc (.n .i64 r2)) (.cons h4 (.cons (laws_szRatS_ok v_aQ r2 r5 h6) (.cons (Sc.n _ _ : Sc (.n .i64 r5)) (.cons h7 (.cons (laws_toStructure_ok v_aS r8 h9) (.cons (laws_toRatS_ok v_aQ r10 h11) (.cons (laws_toIntS_ok v_aW r12 h13) (.cons (spec_IsWithin_ok r8 r10 r12 r14 h15) (.cons (Sc.b _ : Sc (.b r14)) (.cons (laws_toStructure_ok v_aS r8 h9) (.cons (laws_toRatS_ok v_aQ r10 h11) (.cons (laws_toIntS_ok v_aW r12 h13) (.cons (impl_IsWithin_ok r8 r10 r12 r16 h17) (.cons (Sc.b _ : Sc (.b r16)) (.cons (not_t h18) (.cons (laws_toStructure_ok v_aS r8 h9) (.cons (laws_eqStructure_ok r8 r8 r19 h20) (.cons (Sc.b _ : Sc (.b r19)) (.cons (not_t h21) (.cons (laws_toRatS_ok v_aQ r10 h11) (.cons (laws_eqRatS_ok r10 r10 r22 h23) (.cons (Sc.b _ : Sc (.b r22)) (.cons (not_f h24) .nil)))))))))))))))))))))))))))))
        (fun h21 =>
        .ret (runF_con0 hmix (tape := [.reg [nt, nt], .reg [nt, nt, nt], .br false, .reg [nt], .reg [nt, nt, (.call { ac := [ii, ii], r := .n .i64 r2, sc := true }, true), nt], .reg [nt, nt], .br false, .reg [nt, nt, (.call { ac := [ii, ii], r := .n .i64 r5, sc := true }, true), nt], .reg [nt, nt], .br false, .reg [nt, (.call { ac := [ii], r := .agg [.isl 4 (r8.fJoints.map eTJoint), .isl 3 (r8.fMembers.map eTMember)], sc := false }, true), nt, (.call { ac := [ii], r := .isl 3 (r10.map eTRat), sc := false }, true), nt, (.call { ac := [ii], r := .isl 1 (r12.map eI), sc := false }, true), (.call { ac := [ii, ii, ii], r := .b r14, sc := true }, true), nt], .reg [nt, (.call { ac := [ii], r := .agg [.isl 4 (r8.fJoints.map eTJoint), .isl 3 (r8.fMembers.map eTMember)], sc := false }, true), nt, nt], .reg [nt, (.call { ac := [ii], r := .isl 3 (r10.map eTRat), sc := false }, true), nt], .reg [nt, (.call { ac := [ii], r := .isl 1 (r12.map eI), sc := false }, true), nt], .reg [nt, nt, nt, (.call { ac := [ii, ii, ii], r := .b r16, sc := true }, true), nt], .reg [nt, nt, nt], .br false, .reg [nt, nt, (.call { ac := [ii], r := .agg [.isl 4 (r8.fJoints.map eTJoint), .isl 3 (r8.fMembers.map eTMember)], sc := false }, true), (.call { ac := [ii, ii], r := .b r19, sc := true }, true), nt], .br true, .reg [nt]]) (rr := ii) (by kernel_rfl) (.cons h1 (.cons (laws_szStructure_ok v_aS 1048576 r2 h3) (.cons (Sc.n _ _ : Sc (.n .i64 r2)) (.cons h4 (.cons (laws_szRatS_ok v_aQ r2 r5 h6) (.cons (Sc.n _ _ : Sc (.n .i64 r5)) (.cons h7 (.cons (laws_toStructure_ok v_aS r8 h9) (.cons (laws_toRatS_ok v_aQ r10 h11) (.cons (laws_toIntS_ok v_aW r12 h13) (.cons (spec_IsWithin_ok r8 r10 r12 r14 h15) (.cons (Sc.b _ : Sc (.b r14)) (.cons (laws_toStructure_ok v_aS r8 h9) (.cons (laws_toRatS_ok v_aQ r10 h11) (.cons (laws_toIntS_ok v_aW r12 h13) (.cons (impl_IsWithin_ok r8 r10 r12 r16 h17) (.cons (Sc.b _ : Sc (.b r16)) (.cons (not_t h18) (.cons (laws_toStructure_ok v_aS r8 h9) (.cons (laws_eqStructure_ok r8 r8 r19 h20) (.cons (Sc.b _ : Sc (.b r19)) (.cons (not_f h21) .nil)))))))))))))))))))))))))
       (fun h18 =>
       .ret (runF_con0 hmix (tape := [.reg [nt, nt], .reg [nt, nt, nt], .br false, .reg [nt], .reg [nt, nt, (.call { ac := [ii, ii], r := .n .i64 r2, sc := true }, true), nt], .reg [nt, nt], .br false, .reg [nt, nt, (.call { ac := [ii, ii], r := .n .i64 r5, sc := true }, true), nt], .reg [nt, nt], .br false, .reg [nt, (.call { ac := [ii], r := .agg [.isl 4 (r8.fJoints.map eTJoint), .isl 3 (r8.fMembers.map eTMember)], sc := false }, true), nt, (.call { ac := [ii], r := .isl 3 (r10.map eTRat), sc := false }, true), nt, (.call { ac := [ii], r := .isl 1 (r12.map eI), sc := false }, true), (.call { ac := [ii, ii, ii], r := .b r14, sc := true }, true), nt], .reg [nt, (.call { ac := [ii], r := .agg [.isl 4 (r8.fJoints.map eTJoint), .isl 3 (r8.fMembers.map eTMember)], sc := false }, true), nt, nt], .reg [nt, (.call { ac := [ii], r := .isl 3 (r10.map eTRat), sc := false }, true), nt], .reg [nt, (.call { ac := [ii], r := .isl 1 (r12.map eI), sc := false }, true), nt], .reg [nt, nt, nt, (.call { ac := [ii, ii, ii], r := .b r16, sc := true }, true), nt], .reg [nt, nt, nt], .br true, .reg [nt]]) (rr := ii) (by kernel_rfl) (.cons h1 (.cons (laws_szStructure_ok v_aS 1048576 r2 h3) (.cons (Sc.n _ _ : Sc (.n .i64 r2)) (.cons h4 (.cons (laws_szRatS_ok v_aQ r2 r5 h6) (.cons (Sc.n _ _ : Sc (.n .i64 r5)) (.cons h7 (.cons (laws_toStructure_ok v_aS r8 h9) (.cons (laws_toRatS_ok v_aQ r10 h11) (.cons (laws_toIntS_ok v_aW r12 h13) (.cons (spec_IsWithin_ok r8 r10 r12 r14 h15) (.cons (Sc.b _ : Sc (.b r14)) (.cons (laws_toStructure_ok v_aS r8 h9) (.cons (laws_toRatS_ok v_aQ r10 h11) (.cons (laws_toIntS_ok v_aW r12 h13) (.cons (impl_IsWithin_ok r8 r10 r12 r16 h17) (.cons (Sc.b _ : Sc (.b r16)) (.cons (not_f h18) .nil)))))))))))))))))))))))

end Go.Proofs.YtfhmbogcjcgchaaGreat
