/- Plain functions for the program's functions, and that calls come to them: printed by a program. No condition. -/
import Derived.Test.YtiacejpdgjmdfabGreatV0
namespace Go.Proofs.YtiacejpdgjmdfabGreat
set_option linter.unusedVariables false
set_option linter.unusedSimpArgs false
open Go Go.VL

def laws_szJoint (v_a : TJoint) (v_left : Int) : Option Int :=
  if (decide ((w64 (v_left - (v_a.fName.size : Int))) < (0 : Int))) = true then
    some (-1)
  else
    some (w64 (v_left - (v_a.fName.size : Int)))

theorem laws_szJoint_ok (v_a : TJoint) (v_left : Int) : Wp (laws_szJoint v_a v_left) (fun r => Con PP 33 [.agg [.s v_a.fName, .n .i64 v_a.fX, .n .i64 v_a.fY, .b v_a.fFixed], .n .i64 v_left] [] (.n .i64 r) []) := by
  unfold laws_szJoint
  exact (let t1 : List TE := [.reg [nt, nt], .reg [nt, nt, nt, nt, nt, nt], .reg [nt, nt]];
    .ite (fun h1 =>
    .ret (runF_con0 hmix (tape := t1 ++ ([.br true, .reg [nt]] : List TE)) (rr := ii) (by kernel_rfl) (.c h1 .nil)))
    (fun h1 =>
    .ret (runF_con0 hmix (tape := t1 ++ ([.br false, .reg [nt, nt]] : List TE)) (rr := ii) (by kernel_rfl) (.c h1 .nil))))

def laws_szJointS_L1_head (v_a : (List TJoint)) (v_left : Int) (v_i : Int) : S := mkS [(0, .isl 4 (v_a.map eTJoint)), (1, .n .i64 v_left), (5, .n .i64 v_i)] []

def laws_szJointS_L1_ex : ((Int) ⊕ (Unit)) → Exit
  | .inl _ => .exit 0
  | .inr _ => .ret

def laws_szJointS_L1_out (v_a : (List TJoint)) : ((Int) ⊕ (Unit)) → S
  | .inl a => mkS [(1, .n .i64 a)] []
  | .inr a => mkS [(4, .n .i64 (-1 : Int))] []

abbrev laws_szJointS_L1_V := VEx PP 27 0 (nodeAt (bodyOf PP 17) [1, 1, 1, 0, 1, 0, 0])

def laws_szJointS_L1_body (v_a : (List TJoint)) (v_left : Int) (v_i : Int) : Option ((Int × Int) ⊕ ((Int) ⊕ (Unit))) :=
  if (decide (v_i < (len_ eTJoint v_a))) = true then
    if 0 ≤ v_i ∧ v_i < v_a.length then
    v_a[v_i.toNat]? >>= fun x3 =>
    laws_szJoint x3 v_left >>= fun r5 =>
    if (decide (r5 < (0 : Int))) = true then
      some (.inr (.inr ()))
    else
      some (.inl (r5, w64 (v_i + (1 : Int))))
    else none
  else
    some (.inr (.inl v_left))

def laws_szJointS_L1 (v_a : (List TJoint)) (v_left : Int) (v_i : Int) : Option ((Int) ⊕ (Unit)) := iter (fun w : Int × Int => laws_szJointS_L1_body v_a w.1 w.2) (v_left, v_i)

theorem laws_szJointS_L1_body_ok (v_a : (List TJoint)) (v_left : Int) (v_i : Int) : Wp (laws_szJointS_L1_body v_a v_left v_i) (Sum.elim
    (fun w => laws_szJointS_L1_V .normal (laws_szJointS_L1_head v_a v_left v_i) (laws_szJointS_L1_head v_a w.1 w.2))
    (fun r => laws_szJointS_L1_V (laws_szJointS_L1_ex r) (laws_szJointS_L1_head v_a v_left v_i) (laws_szJointS_L1_out v_a r))) := by
  unfold laws_szJointS_L1_body
  exact (let t1 : List TE := [.reg [nt, nt, nt, nt]];
    .ite (fun h1 =>
    .grd fun h2 =>
    .bnd fun x3 h4 =>
    .bnd fun r5 h6 =>
    (let t2 : List TE := t1 ++ ([.br true, .reg [nt, nt, nt, (.el (eTJoint x3), true), nt, (.call { ac := [ii, ii], r := .n .i64 r5, sc := true }, true), nt], .reg [nt, nt]] : List TE);
    have o3 := ((.c h1 (.c ((h2).1) (.c (lt_mapI (h2).2 : v_i < ((v_a.map eTJoint).length : Nat)) (.c (map_get h4 : (v_a.map eTJoint)[v_i.toNat]? = some (eTJoint x3)) (.c (laws_szJoint_ok x3 v_left r5 h6) (.c (Sc.n _ _ : Sc (.n .i64 r5)) .nil)))))) : AllP _);
    .ite (fun h7 =>
    .ret ((okC_sound hmix (tape := t2 ++ ([.br true, .reg [nt], .rst [] [] [(4, ii)]] : List TE)) (nr := 0) (by kernel_rfl) (o3.app (.c h7 .nil)) (mkS_free _ _) : laws_szJointS_L1_V (.ret) (laws_szJointS_L1_head v_a v_left v_i) (laws_szJointS_L1_out v_a (.inr ())))))
    (fun h7 =>
    .ret ((okC_sound hmix (tape := t2 ++ ([.br false, .reg [nt, nt, nt], .rst [] [] [(0, ii), (1, ii), (5, ii)]] : List TE)) (nr := 0) (by kernel_rfl) (o3.app (.c h7 .nil)) (mkS_free _ _) : laws_szJointS_L1_V .normal (laws_szJointS_L1_head v_a v_left v_i) (laws_szJointS_L1_head v_a r5 (w64 (v_i + (1 : Int)))))))))
    (fun h1 =>
    .ret ((okC_sound hmix (tape := t1 ++ ([.br false, .rst [] [] [(1, ii)]] : List TE)) (nr := 0) (by kernel_rfl) (.c h1 .nil) (mkS_free _ _) : laws_szJointS_L1_V (.exit 0) (laws_szJointS_L1_head v_a v_left v_i) (laws_szJointS_L1_out v_a (.inl v_left))))))

theorem laws_szJointS_L1_ok (v_a : (List TJoint)) (v_left : Int) (v_i : Int) : ∀ r, laws_szJointS_L1 v_a v_left v_i = some r → VLoop PP 27 0 (nodeAt (bodyOf PP 17) [1, 1, 1, 0, 1, 0, 0]) (laws_szJointS_L1_ex r) (laws_szJointS_L1_head v_a v_left v_i) (laws_szJointS_L1_out v_a r) := fun r h =>
  iter_ok (head := fun w : Int × Int => laws_szJointS_L1_head v_a w.1 w.2) (ex := laws_szJointS_L1_ex) (out := laws_szJointS_L1_out v_a) (by intro r; unfold laws_szJointS_L1_ex; split <;> simp) (fun w => laws_szJointS_L1_body_ok v_a w.1 w.2) (v_left, v_i) r h

def laws_szJointS (v_a : (List TJoint)) (v_left : Int) : Option Int :=
  if (decide ((w64 (v_left - (len_ eTJoint v_a))) < (0 : Int))) = true then
    some (-1)
  else
    laws_szJointS_L1 v_a (w64 (v_left - (len_ eTJoint v_a))) 0 >>= fun r2 =>
    match r2 with
    | .inl a4 => (some a4)
    | .inr a4 => (some (-1))

theorem laws_szJointS_ok (v_a : (List TJoint)) (v_left : Int) : Wp (laws_szJointS v_a v_left) (fun r => Con PP 17 [.isl 4 (v_a.map eTJoint), .n .i64 v_left] [] (.n .i64 r) []) := by
  unfold laws_szJointS
  exact (let t1 : List TE := [.reg [nt], .reg [nt, nt, nt, nt, nt], .reg [nt, nt]];
    .ite (fun h1 =>
    .ret (runF_con0 hmix (tape := t1 ++ ([.br true, .reg [nt]] : List TE)) (rr := ii) (by kernel_rfl) (.c h1 .nil)))
    (fun h1 =>
    .bnd fun r2 h3 =>
    (let t2 : List TE := t1 ++ ([.br false, .reg [nt]] : List TE);
    (by
    rcases r2 with a4 | a4
    · exact (.ret (runF_con0 hmix (tape := t2 ++ ([.rst [] [] [(0, ii), (1, ii), (5, ii)], .sub (.exit 0) [(1, .n .i64 a4)] [], .reg [nt, nt]] : List TE)) (rr := ii) (by kernel_rfl) (.c h1 (.c ((laws_szJointS_L1_ok v_a (w64 (v_left - (len_ eTJoint v_a))) 0 (.inl a4) h3).vex) .nil))))
    · exact (.ret (runF_con0 hmix (tape := t2 ++ ([.rst [] [] [(0, ii), (1, ii), (5, ii)], .sub (.ret) [(4, .n .i64 (-1 : Int))] []] : List TE)) (rr := ii) (by kernel_rfl) (.c h1 (.c ((laws_szJointS_L1_ok v_a (w64 (v_left - (len_ eTJoint v_a))) 0 (.inr a4) h3).vex) .nil))))))))

def laws_szMemberS (v_a : (List TMember)) (v_left : Int) : Option Int :=
  if (decide ((w64 (v_left - (len_ eTMember v_a))) < (0 : Int))) = true then
    some (-1)
  else
    some (w64 (v_left - (len_ eTMember v_a)))

theorem laws_szMemberS_ok (v_a : (List TMember)) (v_left : Int) : Wp (laws_szMemberS v_a v_left) (fun r => Con PP 18 [.isl 3 (v_a.map eTMember), .n .i64 v_left] [] (.n .i64 r) []) := by
  unfold laws_szMemberS
  exact (let t1 : List TE := [.reg [nt], .reg [nt, nt, nt, nt, nt], .reg [nt, nt]];
    .ite (fun h1 =>
    .ret (runF_con0 hmix (tape := t1 ++ ([.br true, .reg [nt]] : List TE)) (rr := ii) (by kernel_rfl) (.c h1 .nil)))
    (fun h1 =>
    .ret (runF_con0 hmix (tape := t1 ++ ([.br false, .reg [nt, nt]] : List TE)) (rr := ii) (by kernel_rfl) (.c h1 .nil))))

def laws_szStructure (v_a : TStructure) (v_left : Int) : Option Int :=
  laws_szJointS v_a.fJoints v_left >>= fun r1 =>
  if (decide (r1 < (0 : Int))) = true then
    some (-1)
  else
    laws_szMemberS v_a.fMembers r1 >>= fun r4 =>
    if (decide (r4 < (0 : Int))) = true then
      some (-1)
    else
      some r4

theorem laws_szStructure_ok (v_a : TStructure) (v_left : Int) : Wp (laws_szStructure v_a v_left) (fun r => Con PP 4 [.agg [.isl 4 (v_a.fJoints.map eTJoint), .isl 3 (v_a.fMembers.map eTMember)], .n .i64 v_left] [] (.n .i64 r) []) := by
  unfold laws_szStructure
  exact .bnd fun r1 h2 =>
    (let t1 : List TE := [.reg [nt, nt], .reg [nt, nt, nt, (.call { ac := [ii, ii], r := .n .i64 r1, sc := true }, true), nt], .reg [nt, nt]];
    have o2 := ((.c (laws_szJointS_ok v_a.fJoints v_left r1 h2) (.c (Sc.n _ _ : Sc (.n .i64 r1)) .nil)) : AllP _);
    .ite (fun h3 =>
    .ret (runF_con0 hmix (tape := t1 ++ ([.br true, .reg [nt]] : List TE)) (rr := ii) (by kernel_rfl) (o2.app (.c h3 .nil))))
    (fun h3 =>
    .bnd fun r4 h5 =>
    (let t3 : List TE := t1 ++ ([.br false, .reg [nt, nt, nt, (.call { ac := [ii, ii], r := .n .i64 r4, sc := true }, true), nt], .reg [nt, nt]] : List TE);
    have o4 := o2.app (.c h3 (.c (laws_szMemberS_ok v_a.fMembers r1 r4 h5) (.c (Sc.n _ _ : Sc (.n .i64 r4)) .nil)));
    .ite (fun h6 =>
    .ret (runF_con0 hmix (tape := t3 ++ ([.br true, .reg [nt]] : List TE)) (rr := ii) (by kernel_rfl) (o4.app (.c h6 .nil))))
    (fun h6 =>
    .ret (runF_con0 hmix (tape := t3 ++ ([.br false, .reg [nt, nt]] : List TE)) (rr := ii) (by kernel_rfl) (o4.app (.c h6 .nil)))))))

def laws_szIntS (v_a : (List Int)) (v_left : Int) : Option Int :=
  if (decide ((w64 (v_left - (len_ eI v_a))) < (0 : Int))) = true then
    some (-1)
  else
    some (w64 (v_left - (len_ eI v_a)))

theorem laws_szIntS_ok (v_a : (List Int)) (v_left : Int) : Wp (laws_szIntS v_a v_left) (fun r => Con PP 35 [.isl 1 (v_a.map eI), .n .i64 v_left] [] (.n .i64 r) []) := by
  unfold laws_szIntS
  exact (let t1 : List TE := [.reg [nt], .reg [nt, nt, nt, nt, nt], .reg [nt, nt]];
    .ite (fun h1 =>
    .ret (runF_con0 hmix (tape := t1 ++ ([.br true, .reg [nt]] : List TE)) (rr := ii) (by kernel_rfl) (.c h1 .nil)))
    (fun h1 =>
    .ret (runF_con0 hmix (tape := t1 ++ ([.br false, .reg [nt, nt]] : List TE)) (rr := ii) (by kernel_rfl) (.c h1 .nil))))

def laws_szBigInt (v_a : TBigInt) (v_left : Int) : Option Int :=
  laws_szIntS v_a.fMag v_left >>= fun r1 =>
  if (decide (r1 < (0 : Int))) = true then
    some (-1)
  else
    some r1

theorem laws_szBigInt_ok (v_a : TBigInt) (v_left : Int) : Wp (laws_szBigInt v_a v_left) (fun r => Con PP 34 [.agg [.b v_a.fNeg, .isl 1 (v_a.fMag.map eI)], .n .i64 v_left] [] (.n .i64 r) []) := by
  unfold laws_szBigInt
  exact .bnd fun r1 h2 =>
    (let t1 : List TE := [.reg [nt, nt], .reg [nt, nt, nt, (.call { ac := [ii, ii], r := .n .i64 r1, sc := true }, true), nt], .reg [nt, nt]];
    have o2 := ((.c (laws_szIntS_ok v_a.fMag v_left r1 h2) (.c (Sc.n _ _ : Sc (.n .i64 r1)) .nil)) : AllP _);
    .ite (fun h3 =>
    .ret (runF_con0 hmix (tape := t1 ++ ([.br true, .reg [nt]] : List TE)) (rr := ii) (by kernel_rfl) (o2.app (.c h3 .nil))))
    (fun h3 =>
    .ret (runF_con0 hmix (tape := t1 ++ ([.br false, .reg [nt, nt]] : List TE)) (rr := ii) (by kernel_rfl) (o2.app (.c h3 .nil)))))

def laws_szRat (v_a : TRat) (v_left : Int) : Option Int :=
  laws_szBigInt v_a.fNum v_left >>= fun r1 =>
  if (decide (r1 < (0 : Int))) = true then
    some (-1)
  else
    laws_szIntS v_a.fDen r1 >>= fun r4 =>
    if (decide (r4 < (0 : Int))) = true then
      some (-1)
    else
      some r4

theorem laws_szRat_ok (v_a : TRat) (v_left : Int) : Wp (laws_szRat v_a v_left) (fun r => Con PP 19 [.agg [.b v_a.fNum.fNeg, .isl 1 (v_a.fNum.fMag.map eI), .isl 1 (v_a.fDen.map eI)], .n .i64 v_left] [] (.n .i64 r) []) := by
  unfold laws_szRat
  exact .bnd fun r1 h2 =>
    (let t1 : List TE := [.reg [nt, nt], .reg [nt, nt, nt, (.call { ac := [ii, ii], r := .n .i64 r1, sc := true }, true), nt], .reg [nt, nt]];
    have o2 := ((.c (laws_szBigInt_ok v_a.fNum v_left r1 h2) (.c (Sc.n _ _ : Sc (.n .i64 r1)) .nil)) : AllP _);
    .ite (fun h3 =>
    .ret (runF_con0 hmix (tape := t1 ++ ([.br true, .reg [nt]] : List TE)) (rr := ii) (by kernel_rfl) (o2.app (.c h3 .nil))))
    (fun h3 =>
    .bnd fun r4 h5 =>
    (let t3 : List TE := t1 ++ ([.br false, .reg [nt, nt, nt, (.call { ac := [ii, ii], r := .n .i64 r4, sc := true }, true), nt], .reg [nt, nt]] : List TE);
    have o4 := o2.app (.c h3 (.c (laws_szIntS_ok v_a.fDen r1 r4 h5) (.c (Sc.n _ _ : Sc (.n .i64 r4)) .nil)));
    .ite (fun h6 =>
    .ret (runF_con0 hmix (tape := t3 ++ ([.br true, .reg [nt]] : List TE)) (rr := ii) (by kernel_rfl) (o4.app (.c h6 .nil))))
    (fun h6 =>
    .ret (runF_con0 hmix (tape := t3 ++ ([.br false, .reg [nt, nt]] : List TE)) (rr := ii) (by kernel_rfl) (o4.app (.c h6 .nil)))))))

def laws_szRatS_L1_head (v_a : (List TRat)) (v_left : Int) (v_i : Int) : S := mkS [(0, .isl 3 (v_a.map eTRat)), (1, .n .i64 v_left), (5, .n .i64 v_i)] []

def laws_szRatS_L1_ex : ((Int) ⊕ (Unit)) → Exit
  | .inl _ => .exit 0
  | .inr _ => .ret

def laws_szRatS_L1_out (v_a : (List TRat)) : ((Int) ⊕ (Unit)) → S
  | .inl a => mkS [(1, .n .i64 a)] []
  | .inr a => mkS [(4, .n .i64 (-1 : Int))] []

abbrev laws_szRatS_L1_V := VEx PP 27 0 (nodeAt (bodyOf PP 5) [1, 1, 1, 0, 1, 0, 0])

def laws_szRatS_L1_body (v_a : (List TRat)) (v_left : Int) (v_i : Int) : Option ((Int × Int) ⊕ ((Int) ⊕ (Unit))) :=
  if (decide (v_i < (len_ eTRat v_a))) = true then
    if 0 ≤ v_i ∧ v_i < v_a.length then
    v_a[v_i.toNat]? >>= fun x3 =>
    laws_szRat x3 v_left >>= fun r5 =>
    if (decide (r5 < (0 : Int))) = true then
      some (.inr (.inr ()))
    else
      some (.inl (r5, w64 (v_i + (1 : Int))))
    else none
  else
    some (.inr (.inl v_left))

def laws_szRatS_L1 (v_a : (List TRat)) (v_left : Int) (v_i : Int) : Option ((Int) ⊕ (Unit)) := iter (fun w : Int × Int => laws_szRatS_L1_body v_a w.1 w.2) (v_left, v_i)

theorem laws_szRatS_L1_body_ok (v_a : (List TRat)) (v_left : Int) (v_i : Int) : Wp (laws_szRatS_L1_body v_a v_left v_i) (Sum.elim
    (fun w => laws_szRatS_L1_V .normal (laws_szRatS_L1_head v_a v_left v_i) (laws_szRatS_L1_head v_a w.1 w.2))
    (fun r => laws_szRatS_L1_V (laws_szRatS_L1_ex r) (laws_szRatS_L1_head v_a v_left v_i) (laws_szRatS_L1_out v_a r))) := by
  unfold laws_szRatS_L1_body
  exact (let t1 : List TE := [.reg [nt, nt, nt, nt]];
    .ite (fun h1 =>
    .grd fun h2 =>
    .bnd fun x3 h4 =>
    .bnd fun r5 h6 =>
    (let t2 : List TE := t1 ++ ([.br true, .reg [nt, nt, nt, (.el (eTRat x3), true), nt, (.call { ac := [ii, ii], r := .n .i64 r5, sc := true }, true), nt], .reg [nt, nt]] : List TE);
    have o3 := ((.c h1 (.c ((h2).1) (.c (lt_mapI (h2).2 : v_i < ((v_a.map eTRat).length : Nat)) (.c (map_get h4 : (v_a.map eTRat)[v_i.toNat]? = some (eTRat x3)) (.c (laws_szRat_ok x3 v_left r5 h6) (.c (Sc.n _ _ : Sc (.n .i64 r5)) .nil)))))) : AllP _);
    .ite (fun h7 =>
    .ret ((okC_sound hmix (tape := t2 ++ ([.br true, .reg [nt], .rst [] [] [(4, ii)]] : List TE)) (nr := 0) (by kernel_rfl) (o3.app (.c h7 .nil)) (mkS_free _ _) : laws_szRatS_L1_V (.ret) (laws_szRatS_L1_head v_a v_left v_i) (laws_szRatS_L1_out v_a (.inr ())))))
    (fun h7 =>
    .ret ((okC_sound hmix (tape := t2 ++ ([.br false, .reg [nt, nt, nt], .rst [] [] [(0, ii), (1, ii), (5, ii)]] : List TE)) (nr := 0) (by kernel_rfl) (o3.app (.c h7 .nil)) (mkS_free _ _) : laws_szRatS_L1_V .normal (laws_szRatS_L1_head v_a v_left v_i) (laws_szRatS_L1_head v_a r5 (w64 (v_i + (1 : Int)))))))))
    (fun h1 =>
    .ret ((okC_sound hmix (tape := t1 ++ ([.br false, .rst [] [] [(1, ii)]] : List TE)) (nr := 0) (by kernel_rfl) (.c h1 .nil) (mkS_free _ _) : laws_szRatS_L1_V (.exit 0) (laws_szRatS_L1_head v_a v_left v_i) (laws_szRatS_L1_out v_a (.inl v_left))))))

theorem laws_szRatS_L1_ok (v_a : (List TRat)) (v_left : Int) (v_i : Int) : ∀ r, laws_szRatS_L1 v_a v_left v_i = some r → VLoop PP 27 0 (nodeAt (bodyOf PP 5) [1, 1, 1, 0, 1, 0, 0]) (laws_szRatS_L1_ex r) (laws_szRatS_L1_head v_a v_left v_i) (laws_szRatS_L1_out v_a r) := fun r h =>
  iter_ok (head := fun w : Int × Int => laws_szRatS_L1_head v_a w.1 w.2) (ex := laws_szRatS_L1_ex) (out := laws_szRatS_L1_out v_a) (by intro r; unfold laws_szRatS_L1_ex; split <;> simp) (fun w => laws_szRatS_L1_body_ok v_a w.1 w.2) (v_left, v_i) r h

def laws_szRatS (v_a : (List TRat)) (v_left : Int) : Option Int :=
  if (decide ((w64 (v_left - (len_ eTRat v_a))) < (0 : Int))) = true then
    some (-1)
  else
    laws_szRatS_L1 v_a (w64 (v_left - (len_ eTRat v_a))) 0 >>= fun r2 =>
    match r2 with
    | .inl a4 => (some a4)
    | .inr a4 => (some (-1))

theorem laws_szRatS_ok (v_a : (List TRat)) (v_left : Int) : Wp (laws_szRatS v_a v_left) (fun r => Con PP 5 [.isl 3 (v_a.map eTRat), .n .i64 v_left] [] (.n .i64 r) []) := by
  unfold laws_szRatS
  exact (let t1 : List TE := [.reg [nt], .reg [nt, nt, nt, nt, nt], .reg [nt, nt]];
    .ite (fun h1 =>
    .ret (runF_con0 hmix (tape := t1 ++ ([.br true, .reg [nt]] : List TE)) (rr := ii) (by kernel_rfl) (.c h1 .nil)))
    (fun h1 =>
    .bnd fun r2 h3 =>
    (let t2 : List TE := t1 ++ ([.br false, .reg [nt]] : List TE);
    (by
    rcases r2 with a4 | a4
    · exact (.ret (runF_con0 hmix (tape := t2 ++ ([.rst [] [] [(0, ii), (1, ii), (5, ii)], .sub (.exit 0) [(1, .n .i64 a4)] [], .reg [nt, nt]] : List TE)) (rr := ii) (by kernel_rfl) (.c h1 (.c ((laws_szRatS_L1_ok v_a (w64 (v_left - (len_ eTRat v_a))) 0 (.inl a4) h3).vex) .nil))))
    · exact (.ret (runF_con0 hmix (tape := t2 ++ ([.rst [] [] [(0, ii), (1, ii), (5, ii)], .sub (.ret) [(4, .n .i64 (-1 : Int))] []] : List TE)) (rr := ii) (by kernel_rfl) (.c h1 (.c ((laws_szRatS_L1_ok v_a (w64 (v_left - (len_ eTRat v_a))) 0 (.inr a4) h3).vex) .nil))))))))

def laws_toJoint (v_a : TJoint) : Option TJoint :=
  some v_a

theorem laws_toJoint_ok (v_a : TJoint) : Wp (laws_toJoint v_a) (fun r => Con PP 42 [.agg [.s v_a.fName, .n .i64 v_a.fX, .n .i64 v_a.fY, .b v_a.fFixed]] [] (.agg [.s r.fName, .n .i64 r.fX, .n .i64 r.fY, .b r.fFixed]) []) := by
  unfold laws_toJoint
  exact .ret (runF_con0 hmix (tape := [.reg [nt, nt], .reg [nt], .reg [nt, nt, nt, nt], .reg [nt, nt, nt, nt], .reg [nt, nt, nt, nt], .reg [nt, nt, nt, nt], .reg [nt, nt]]) (rr := ii) (by kernel_rfl) .nil)

def laws_toJointS_o_L1_head (v_a : (List TJoint)) (v_i : Int) (row0 : (List TJoint)) : S := mkS [(0, .isl 4 (v_a.map eTJoint)), (3, .osl 0 0 0 row0.length), (4, .n .i64 v_i)] [[Ob.mk 4 (row0.map eTJoint) .live]]

def laws_toJointS_o_L1_ex : (List TJoint) → Exit
  | _ => .exit 0

def laws_toJointS_o_L1_out (v_a : (List TJoint)) : (List TJoint) → S
  | a => mkS [(3, .osl 0 0 0 a.length)] [[Ob.mk 4 (a.map eTJoint) .live]]

abbrev laws_toJointS_o_L1_V := VEx PP 23 0 (nodeAt (bodyOf PP 23) [1, 1, 0, 1, 0, 0])

def laws_toJointS_o_L1_body (v_a : (List TJoint)) (v_i : Int) (row0 : (List TJoint)) : Option ((Int × (List TJoint)) ⊕ ((List TJoint))) :=
  if (decide (v_i < (len_ eTJoint v_a))) = true then
    if 0 ≤ v_i ∧ v_i < v_a.length then
    v_a[v_i.toNat]? >>= fun x3 =>
    laws_toJoint x3 >>= fun r5 =>
    if 0 ≤ v_i ∧ v_i < (row0.length : Nat) then
    if (0 + v_i.toNat) < row0.length then
    some (.inl (w64 (v_i + (1 : Int)), row0.set (0 + v_i.toNat) r5))
    else none
    else none
    else none
  else
    some (.inr row0)

def laws_toJointS_o_L1 (v_a : (List TJoint)) (v_i : Int) (row0 : (List TJoint)) : Option ((List TJoint)) := iter (fun w : Int × (List TJoint) => laws_toJointS_o_L1_body v_a w.1 w.2) (v_i, row0)

theorem laws_toJointS_o_L1_body_ok (v_a : (List TJoint)) (v_i : Int) (row0 : (List TJoint)) : Wp (laws_toJointS_o_L1_body v_a v_i row0) (Sum.elim
    (fun w => laws_toJointS_o_L1_V .normal (laws_toJointS_o_L1_head v_a v_i row0) (laws_toJointS_o_L1_head v_a w.1 w.2))
    (fun r => laws_toJointS_o_L1_V (laws_toJointS_o_L1_ex r) (laws_toJointS_o_L1_head v_a v_i row0) (laws_toJointS_o_L1_out v_a r))) := by
  unfold laws_toJointS_o_L1_body
  exact (let t1 : List TE := [.reg [nt, nt, nt, nt]];
    .ite (fun h1 =>
    .grd fun h2 =>
    .bnd fun x3 h4 =>
    .bnd fun r5 h6 =>
    .grd fun h7 =>
    .grd fun h8 =>
    .ret ((okC_sound hmix (tape := t1 ++ ([.br true, .reg [nt, nt, nt, nt, nt, (.el (eTJoint x3), true), (.call { ac := [ii], r := .agg [.s r5.fName, .n .i64 r5.fX, .n .i64 r5.fY, .b r5.fFixed], sc := false }, true), nt, (.bd, true)], .reg [nt, nt, nt], .rst [0] [.as [Ob.mk 4 ((row0.set (0 + v_i.toNat) r5).map eTJoint) .live]] [(0, ii), (3, .c1 (.c0 (.len ((row0.set (0 + v_i.toNat) r5).length)))), (4, ii)]] : List TE)) (nr := 1) (by kernel_rfl) (.c h1 (.c ((h2).1) (.c (lt_mapI (h2).2 : v_i < ((v_a.map eTJoint).length : Nat)) (.c (map_get h4 : (v_a.map eTJoint)[v_i.toNat]? = some (eTJoint x3)) (.c (laws_toJoint_ok x3 r5 h6) (.c ((h7).1) (.c ((h7).2) (.c (lt_map h8 : (0 + v_i.toNat) < (row0.map eTJoint).length) (.c (rfl : 4 = 4) (.c (row_prf (set_prf (show (row0.map eTJoint) = (row0.map eTJoint) from rfl) (0 + v_i.toNat) r5) : [Ob.mk 4 ((row0.map eTJoint).set (0 + v_i.toNat) [.s r5.fName, .n .i64 r5.fX, .n .i64 r5.fY, .b r5.fFixed]) .live] = [Ob.mk 4 ((row0.set (0 + v_i.toNat) r5).map eTJoint) .live]) (.c (pure_row eTJoint_pure (row0.set (0 + v_i.toNat) r5) : PureRow [Ob.mk 4 ((row0.set (0 + v_i.toNat) r5).map eTJoint) .live]) (.c (len_set (show row0.length = row0.length from rfl) (0 + v_i.toNat) r5) .nil)))))))))))) (mkS_free _ _) : laws_toJointS_o_L1_V .normal (laws_toJointS_o_L1_head v_a v_i row0) (laws_toJointS_o_L1_head v_a (w64 (v_i + (1 : Int))) (row0.set (0 + v_i.toNat) r5)))))
    (fun h1 =>
    .ret ((okC_sound hmix (tape := t1 ++ ([.br false, .rst [0] [.pure] [(3, ii)]] : List TE)) (nr := 1) (by kernel_rfl) (.c h1 (.c (pure_row eTJoint_pure row0 : PureRow [Ob.mk 4 (row0.map eTJoint) .live]) .nil)) (mkS_free _ _) : laws_toJointS_o_L1_V (.exit 0) (laws_toJointS_o_L1_head v_a v_i row0) (laws_toJointS_o_L1_out v_a row0)))))

theorem laws_toJointS_o_L1_ok (v_a : (List TJoint)) (v_i : Int) (row0 : (List TJoint)) : ∀ r, laws_toJointS_o_L1 v_a v_i row0 = some r → VLoop PP 23 0 (nodeAt (bodyOf PP 23) [1, 1, 0, 1, 0, 0]) (laws_toJointS_o_L1_ex r) (laws_toJointS_o_L1_head v_a v_i row0) (laws_toJointS_o_L1_out v_a r) := fun r h =>
  iter_ok (head := fun w : Int × (List TJoint) => laws_toJointS_o_L1_head v_a w.1 w.2) (ex := laws_toJointS_o_L1_ex) (out := laws_toJointS_o_L1_out v_a) (by intro r; unfold laws_toJointS_o_L1_ex; split <;> simp) (fun w => laws_toJointS_o_L1_body_ok v_a w.1 w.2) (v_i, row0) r h

def laws_toJointS_o (v_a : (List TJoint)) : Option (List TJoint) :=
  if 0 ≤ (len_ eTJoint v_a) ∧ (40 : Int) * (len_ eTJoint v_a) ≤ 281474976710656 ∧ (len_ eTJoint v_a) < 9223372036854775808 then
  laws_toJointS_o_L1 v_a 0 (List.replicate (len_ eTJoint v_a).toNat (⟨ByteArray.empty, 0, 0, false⟩ : TJoint) : List TJoint) >>= fun r2 =>
  some r2
  else none

theorem laws_toJointS_o_ok (v_a : (List TJoint)) : Wp (laws_toJointS_o v_a) (fun a => Con PP 23 [.isl 4 (v_a.map eTJoint)] [] (.osl 0 0 0 a.length) [[Ob.mk 4 (a.map eTJoint) .live]]) := by
  unfold laws_toJointS_o
  exact .grd fun h1 =>
    .bnd fun r2 h3 =>
    .ret (runF_con hmix (tape := [.reg [nt], .reg [nt, nt, nt, nt], .reg [nt], .rst [3] [.as [Ob.mk 4 ((List.replicate (len_ eTJoint v_a).toNat (⟨ByteArray.empty, 0, 0, false⟩ : TJoint) : List TJoint).map eTJoint) .live]] [(0, ii), (3, .c1 (.c0 (.len ((List.replicate (len_ eTJoint v_a).toNat (⟨ByteArray.empty, 0, 0, false⟩ : TJoint) : List TJoint).length)))), (4, ii)], .sub (.exit 0) [(3, .osl 0 0 0 r2.length)] [[Ob.mk 4 (r2.map eTJoint) .live]], .reg [nt, nt]]) (mv := [0]) (rc := [.pure]) (rr := ii) (by kernel_rfl) (.c ((h1).1) (.c (Int.le_refl (len_ eTJoint v_a)) (.c ((h1).2.1) (.c ((h1).2.2) (.c (row_prf (rep_prf eTJoint (len_ eTJoint v_a).toNat (⟨ByteArray.empty, 0, 0, false⟩ : TJoint)) : [Ob.mk 4 (List.replicate (len_ eTJoint v_a).toNat [.s ByteArray.empty, .n .i64 (0 : Int), .n .i64 (0 : Int), .b false]) .live] = [Ob.mk 4 ((List.replicate (len_ eTJoint v_a).toNat (⟨ByteArray.empty, 0, 0, false⟩ : TJoint) : List TJoint).map eTJoint) .live]) (.c (pure_row eTJoint_pure (List.replicate (len_ eTJoint v_a).toNat (⟨ByteArray.empty, 0, 0, false⟩ : TJoint) : List TJoint) : PureRow [Ob.mk 4 ((List.replicate (len_ eTJoint v_a).toNat (⟨ByteArray.empty, 0, 0, false⟩ : TJoint) : List TJoint).map eTJoint) .live]) (.c (len_rep (len_ eTJoint v_a).toNat ((⟨ByteArray.empty, 0, 0, false⟩ : TJoint) : TJoint)) (.c ((laws_toJointS_o_L1_ok v_a 0 (List.replicate (len_ eTJoint v_a).toNat (⟨ByteArray.empty, 0, 0, false⟩ : TJoint) : List TJoint) r2 h3).vex) (.c (pure_row eTJoint_pure r2 : PureRow [Ob.mk 4 (r2.map eTJoint) .live]) .nil))))))))))

def laws_toMember (v_a : TMember) : Option TMember :=
  some v_a

theorem laws_toMember_ok (v_a : TMember) : Wp (laws_toMember v_a) (fun r => Con PP 43 [.agg [.n .i64 v_a.fA, .n .i64 v_a.fB, .n .i64 v_a.fKind]] [] (.agg [.n .i64 r.fA, .n .i64 r.fB, .n .i64 r.fKind]) []) := by
  unfold laws_toMember
  exact .ret (runF_con0 hmix (tape := [.reg [nt, nt], .reg [nt], .reg [nt, nt, nt, nt], .reg [nt, nt, nt, nt], .reg [nt, nt, nt, nt], .reg [nt, nt]]) (rr := ii) (by kernel_rfl) .nil)

def laws_toMemberS_o_L1_head (v_a : (List TMember)) (v_i : Int) (row0 : (List TMember)) : S := mkS [(0, .isl 3 (v_a.map eTMember)), (3, .osl 0 0 0 row0.length), (4, .n .i64 v_i)] [[Ob.mk 3 (row0.map eTMember) .live]]

def laws_toMemberS_o_L1_ex : (List TMember) → Exit
  | _ => .exit 0

def laws_toMemberS_o_L1_out (v_a : (List TMember)) : (List TMember) → S
  | a => mkS [(3, .osl 0 0 0 a.length)] [[Ob.mk 3 (a.map eTMember) .live]]

abbrev laws_toMemberS_o_L1_V := VEx PP 23 0 (nodeAt (bodyOf PP 24) [1, 1, 0, 1, 0, 0])

def laws_toMemberS_o_L1_body (v_a : (List TMember)) (v_i : Int) (row0 : (List TMember)) : Option ((Int × (List TMember)) ⊕ ((List TMember))) :=
  if (decide (v_i < (len_ eTMember v_a))) = true then
    if 0 ≤ v_i ∧ v_i < v_a.length then
    v_a[v_i.toNat]? >>= fun x3 =>
    laws_toMember x3 >>= fun r5 =>
    if 0 ≤ v_i ∧ v_i < (row0.length : Nat) then
    if (0 + v_i.toNat) < row0.length then
    some (.inl (w64 (v_i + (1 : Int)), row0.set (0 + v_i.toNat) r5))
    else none
    else none
    else none
  else
    some (.inr row0)

def laws_toMemberS_o_L1 (v_a : (List TMember)) (v_i : Int) (row0 : (List TMember)) : Option ((List TMember)) := iter (fun w : Int × (List TMember) => laws_toMemberS_o_L1_body v_a w.1 w.2) (v_i, row0)

theorem laws_toMemberS_o_L1_body_ok (v_a : (List TMember)) (v_i : Int) (row0 : (List TMember)) : Wp (laws_toMemberS_o_L1_body v_a v_i row0) (Sum.elim
    (fun w => laws_toMemberS_o_L1_V .normal (laws_toMemberS_o_L1_head v_a v_i row0) (laws_toMemberS_o_L1_head v_a w.1 w.2))
    (fun r => laws_toMemberS_o_L1_V (laws_toMemberS_o_L1_ex r) (laws_toMemberS_o_L1_head v_a v_i row0) (laws_toMemberS_o_L1_out v_a r))) := by
  unfold laws_toMemberS_o_L1_body
  exact (let t1 : List TE := [.reg [nt, nt, nt, nt]];
    .ite (fun h1 =>
    .grd fun h2 =>
    .bnd fun x3 h4 =>
    .bnd fun r5 h6 =>
    .grd fun h7 =>
    .grd fun h8 =>
    .ret ((okC_sound hmix (tape := t1 ++ ([.br true, .reg [nt, nt, nt, nt, nt, (.el (eTMember x3), true), (.call { ac := [ii], r := .agg [.n .i64 r5.fA, .n .i64 r5.fB, .n .i64 r5.fKind], sc := false }, true), nt, (.bd, true)], .reg [nt, nt, nt], .rst [0] [.as [Ob.mk 3 ((row0.set (0 + v_i.toNat) r5).map eTMember) .live]] [(0, ii), (3, .c1 (.c0 (.len ((row0.set (0 + v_i.toNat) r5).length)))), (4, ii)]] : List TE)) (nr := 1) (by kernel_rfl) (.c h1 (.c ((h2).1) (.c (lt_mapI (h2).2 : v_i < ((v_a.map eTMember).length : Nat)) (.c (map_get h4 : (v_a.map eTMember)[v_i.toNat]? = some (eTMember x3)) (.c (laws_toMember_ok x3 r5 h6) (.c ((h7).1) (.c ((h7).2) (.c (lt_map h8 : (0 + v_i.toNat) < (row0.map eTMember).length) (.c (rfl : 3 = 3) (.c (row_prf (set_prf (show (row0.map eTMember) = (row0.map eTMember) from rfl) (0 + v_i.toNat) r5) : [Ob.mk 3 ((row0.map eTMember).set (0 + v_i.toNat) [.n .i64 r5.fA, .n .i64 r5.fB, .n .i64 r5.fKind]) .live] = [Ob.mk 3 ((row0.set (0 + v_i.toNat) r5).map eTMember) .live]) (.c (pure_row eTMember_pure (row0.set (0 + v_i.toNat) r5) : PureRow [Ob.mk 3 ((row0.set (0 + v_i.toNat) r5).map eTMember) .live]) (.c (len_set (show row0.length = row0.length from rfl) (0 + v_i.toNat) r5) .nil)))))))))))) (mkS_free _ _) : laws_toMemberS_o_L1_V .normal (laws_toMemberS_o_L1_head v_a v_i row0) (laws_toMemberS_o_L1_head v_a (w64 (v_i + (1 : Int))) (row0.set (0 + v_i.toNat) r5)))))
    (fun h1 =>
    .ret ((okC_sound hmix (tape := t1 ++ ([.br false, .rst [0] [.pure] [(3, ii)]] : List TE)) (nr := 1) (by kernel_rfl) (.c h1 (.c (pure_row eTMember_pure row0 : PureRow [Ob.mk 3 (row0.map eTMember) .live]) .nil)) (mkS_free _ _) : laws_toMemberS_o_L1_V (.exit 0) (laws_toMemberS_o_L1_head v_a v_i row0) (laws_toMemberS_o_L1_out v_a row0)))))

theorem laws_toMemberS_o_L1_ok (v_a : (List TMember)) (v_i : Int) (row0 : (List TMember)) : ∀ r, laws_toMemberS_o_L1 v_a v_i row0 = some r → VLoop PP 23 0 (nodeAt (bodyOf PP 24) [1, 1, 0, 1, 0, 0]) (laws_toMemberS_o_L1_ex r) (laws_toMemberS_o_L1_head v_a v_i row0) (laws_toMemberS_o_L1_out v_a r) := fun r h =>
  iter_ok (head := fun w : Int × (List TMember) => laws_toMemberS_o_L1_head v_a w.1 w.2) (ex := laws_toMemberS_o_L1_ex) (out := laws_toMemberS_o_L1_out v_a) (by intro r; unfold laws_toMemberS_o_L1_ex; split <;> simp) (fun w => laws_toMemberS_o_L1_body_ok v_a w.1 w.2) (v_i, row0) r h

def laws_toMemberS_o (v_a : (List TMember)) : Option (List TMember) :=
  if 0 ≤ (len_ eTMember v_a) ∧ (24 : Int) * (len_ eTMember v_a) ≤ 281474976710656 ∧ (len_ eTMember v_a) < 9223372036854775808 then
  laws_toMemberS_o_L1 v_a 0 (List.replicate (len_ eTMember v_a).toNat (⟨0, 0, 0⟩ : TMember) : List TMember) >>= fun r2 =>
  some r2
  else none

theorem laws_toMemberS_o_ok (v_a : (List TMember)) : Wp (laws_toMemberS_o v_a) (fun a => Con PP 24 [.isl 3 (v_a.map eTMember)] [] (.osl 0 0 0 a.length) [[Ob.mk 3 (a.map eTMember) .live]]) := by
  unfold laws_toMemberS_o
  exact .grd fun h1 =>
    .bnd fun r2 h3 =>
    .ret (runF_con hmix (tape := [.reg [nt], .reg [nt, nt, nt, nt], .reg [nt], .rst [3] [.as [Ob.mk 3 ((List.replicate (len_ eTMember v_a).toNat (⟨0, 0, 0⟩ : TMember) : List TMember).map eTMember) .live]] [(0, ii), (3, .c1 (.c0 (.len ((List.replicate (len_ eTMember v_a).toNat (⟨0, 0, 0⟩ : TMember) : List TMember).length)))), (4, ii)], .sub (.exit 0) [(3, .osl 0 0 0 r2.length)] [[Ob.mk 3 (r2.map eTMember) .live]], .reg [nt, nt]]) (mv := [0]) (rc := [.pure]) (rr := ii) (by kernel_rfl) (.c ((h1).1) (.c (Int.le_refl (len_ eTMember v_a)) (.c ((h1).2.1) (.c ((h1).2.2) (.c (row_prf (rep_prf eTMember (len_ eTMember v_a).toNat (⟨0, 0, 0⟩ : TMember)) : [Ob.mk 3 (List.replicate (len_ eTMember v_a).toNat [.n .i64 (0 : Int), .n .i64 (0 : Int), .n .i64 (0 : Int)]) .live] = [Ob.mk 3 ((List.replicate (len_ eTMember v_a).toNat (⟨0, 0, 0⟩ : TMember) : List TMember).map eTMember) .live]) (.c (pure_row eTMember_pure (List.replicate (len_ eTMember v_a).toNat (⟨0, 0, 0⟩ : TMember) : List TMember) : PureRow [Ob.mk 3 ((List.replicate (len_ eTMember v_a).toNat (⟨0, 0, 0⟩ : TMember) : List TMember).map eTMember) .live]) (.c (len_rep (len_ eTMember v_a).toNat ((⟨0, 0, 0⟩ : TMember) : TMember)) (.c ((laws_toMemberS_o_L1_ok v_a 0 (List.replicate (len_ eTMember v_a).toNat (⟨0, 0, 0⟩ : TMember) : List TMember) r2 h3).vex) (.c (pure_row eTMember_pure r2 : PureRow [Ob.mk 3 (r2.map eTMember) .live]) .nil))))))))))

def laws_toStructure_o (v_a : TStructure) : Option ((List TJoint) × (List TMember)) :=
  laws_toJointS_o v_a.fJoints >>= fun r1 =>
  laws_toMemberS_o v_a.fMembers >>= fun r3 =>
  some (r1, r3)

theorem laws_toStructure_o_ok (v_a : TStructure) : Wp (laws_toStructure_o v_a) (fun a => Con PP 7 [.agg [.isl 4 (v_a.fJoints.map eTJoint), .isl 3 (v_a.fMembers.map eTMember)]] [] (.agg [.osl 0 0 0 a.1.length, .osl 0 1 0 a.2.length]) [[Ob.mk 4 (a.1.map eTJoint) .live, Ob.mk 3 (a.2.map eTMember) .live]]) := by
  unfold laws_toStructure_o
  exact .bnd fun r1 h2 =>
    .bnd fun r3 h4 =>
    .ret (runF_con hmix (tape := [.reg [nt, nt], .reg [nt], .reg [nt, nt, (.call { mv := [], rc := [], ac := [ii], r := .osl 0 0 0 r1.length, T1 := [[Ob.mk 4 (r1.map eTJoint) .live]], rr := ii, rrc := [.pure], rds := [], sc := true }, true), nt, nt], .reg [nt, nt, (.call { mv := [], rc := [], ac := [ii], r := .osl 0 0 0 r3.length, T1 := [[Ob.mk 3 (r3.map eTMember) .live]], rr := ii, rrc := [.pure], rds := [], sc := true }, true), nt, nt], .reg [nt, nt], .rsg [{ hd := [(5, 0), (10, 0)], tl := none }, { hd := [(1, 0)] }] [([.pure, .pure], none), ([.box [.at_ 0 0 r1.length, .at_ 0 1 r3.length]], none)] [(2, .c1 (.c0 (.at_ 1 0 0)))]]) (mv := [0]) (rc := [.rn [Ob.mk 4 (r1.map eTJoint) .live, Ob.mk 3 (r3.map eTMember) .live]]) (rr := .c1 (.agg [.id, .id])) (by kernel_rfl) (.c (pure_live eTJoint_pure r1 : PureLive [Ob.mk 4 (r1.map eTJoint) .live]) (.c (laws_toJointS_o_ok v_a.fJoints r1 h2) (.c (Sc.osl _ _ _ _ : Sc (.osl 0 0 0 r1.length)) (.c ((scT_cons (scR_cons (scO_es eTJoint_sc) scR_nil) scT_nil) : ScT [[Ob.mk 4 (r1.map eTJoint) .live]]) (.c (pure_live eTMember_pure r3 : PureLive [Ob.mk 3 (r3.map eTMember) .live]) (.c (laws_toMemberS_o_ok v_a.fMembers r3 h4) (.c (Sc.osl _ _ _ _ : Sc (.osl 0 0 0 r3.length)) (.c ((scT_cons (scR_cons (scO_es eTMember_sc) scR_nil) scT_nil) : ScT [[Ob.mk 3 (r3.map eTMember) .live]]) (.c (pure_row eTJoint_pure r1 : PureRow [Ob.mk 4 (r1.map eTJoint) .live]) (.c (pure_row eTMember_pure r3 : PureRow [Ob.mk 3 (r3.map eTMember) .live]) (.c (rfl : (mvG [{ hd := [(5, 0), (10, 0)], tl := none }, { hd := [(1, 0)] }]) 0 0 = some (5, 0)) (.c (rfl : r1.length = r1.length) (.c (rfl : (mvG [{ hd := [(5, 0), (10, 0)], tl := none }, { hd := [(1, 0)] }]) 0 1 = some (10, 0)) (.c (rfl : r3.length = r3.length) (.c (rfl : (mvG [{ hd := [(5, 0), (10, 0)], tl := none }, { hd := [(1, 0)] }]) 1 0 = some (1, 0)) (.c ((rn_cons (rn_es (tgt := (findIx [0])) (f' := eTJoint) (show (r1.map eTJoint) = (r1.map eTJoint) from rfl) (fun x => (nr_rn eTJoint_nr) x)) (rn_cons (rn_es (tgt := (findIx [0])) (f' := eTMember) (show (r3.map eTMember) = (r3.map eTMember) from rfl) (fun x => (nr_rn eTMember_nr) x)) rn_nil)) : [Ob.mk 4 (r1.map eTJoint) .live, Ob.mk 3 (r3.map eTMember) .live] = List.map (rnO (findIx [0])) [Ob.mk 4 (r1.map eTJoint) .live, Ob.mk 3 (r3.map eTMember) .live]) .nil)))))))))))))))))

def laws_toIntS_o_L1_head (v_a : (List Int)) (v_i : Int) (row0 : (List Int)) : S := mkS [(0, .isl 1 (v_a.map eI)), (3, .osl 0 0 0 row0.length), (4, .n .i64 v_i)] [[Ob.mk 1 (row0.map eI) .live]]

def laws_toIntS_o_L1_ex : (List Int) → Exit
  | _ => .exit 0

def laws_toIntS_o_L1_out (v_a : (List Int)) : (List Int) → S
  | a => mkS [(3, .osl 0 0 0 a.length)] [[Ob.mk 1 (a.map eI) .live]]

abbrev laws_toIntS_o_L1_V := VEx PP 22 0 (nodeAt (bodyOf PP 45) [1, 1, 0, 1, 0, 0])

def laws_toIntS_o_L1_body (v_a : (List Int)) (v_i : Int) (row0 : (List Int)) : Option ((Int × (List Int)) ⊕ ((List Int))) :=
  if (decide (v_i < (len_ eI v_a))) = true then
    if 0 ≤ v_i ∧ v_i < v_a.length then
    v_a[v_i.toNat]? >>= fun x3 =>
    if 0 ≤ v_i ∧ v_i < (row0.length : Nat) then
    if (0 + v_i.toNat) < row0.length then
    some (.inl (w64 (v_i + (1 : Int)), row0.set (0 + v_i.toNat) x3))
    else none
    else none
    else none
  else
    some (.inr row0)

def laws_toIntS_o_L1 (v_a : (List Int)) (v_i : Int) (row0 : (List Int)) : Option ((List Int)) := iter (fun w : Int × (List Int) => laws_toIntS_o_L1_body v_a w.1 w.2) (v_i, row0)

theorem laws_toIntS_o_L1_body_ok (v_a : (List Int)) (v_i : Int) (row0 : (List Int)) : Wp (laws_toIntS_o_L1_body v_a v_i row0) (Sum.elim
    (fun w => laws_toIntS_o_L1_V .normal (laws_toIntS_o_L1_head v_a v_i row0) (laws_toIntS_o_L1_head v_a w.1 w.2))
    (fun r => laws_toIntS_o_L1_V (laws_toIntS_o_L1_ex r) (laws_toIntS_o_L1_head v_a v_i row0) (laws_toIntS_o_L1_out v_a r))) := by
  unfold laws_toIntS_o_L1_body
  exact (let t1 : List TE := [.reg [nt, nt, nt, nt]];
    .ite (fun h1 =>
    .grd fun h2 =>
    .bnd fun x3 h4 =>
    .grd fun h5 =>
    .grd fun h6 =>
    .ret ((okC_sound hmix (tape := t1 ++ ([.br true, .reg [nt, nt, nt, nt, nt, (.el (eI x3), true), nt, (.bd, true)], .reg [nt, nt, nt], .rst [0] [.as [Ob.mk 1 ((row0.set (0 + v_i.toNat) x3).map eI) .live]] [(0, ii), (3, .c1 (.c0 (.len ((row0.set (0 + v_i.toNat) x3).length)))), (4, ii)]] : List TE)) (nr := 1) (by kernel_rfl) (.c h1 (.c ((h2).1) (.c (lt_mapI (h2).2 : v_i < ((v_a.map eI).length : Nat)) (.c (map_get h4 : (v_a.map eI)[v_i.toNat]? = some (eI x3)) (.c ((h5).1) (.c ((h5).2) (.c (lt_map h6 : (0 + v_i.toNat) < (row0.map eI).length) (.c (rfl : 1 = 1) (.c (row_prf (set_prf (show (row0.map eI) = (row0.map eI) from rfl) (0 + v_i.toNat) x3) : [Ob.mk 1 ((row0.map eI).set (0 + v_i.toNat) [.n .i64 x3]) .live] = [Ob.mk 1 ((row0.set (0 + v_i.toNat) x3).map eI) .live]) (.c (pure_row eI_pure (row0.set (0 + v_i.toNat) x3) : PureRow [Ob.mk 1 ((row0.set (0 + v_i.toNat) x3).map eI) .live]) (.c (len_set (show row0.length = row0.length from rfl) (0 + v_i.toNat) x3) .nil))))))))))) (mkS_free _ _) : laws_toIntS_o_L1_V .normal (laws_toIntS_o_L1_head v_a v_i row0) (laws_toIntS_o_L1_head v_a (w64 (v_i + (1 : Int))) (row0.set (0 + v_i.toNat) x3)))))
    (fun h1 =>
    .ret ((okC_sound hmix (tape := t1 ++ ([.br false, .rst [0] [.pure] [(3, ii)]] : List TE)) (nr := 1) (by kernel_rfl) (.c h1 (.c (pure_row eI_pure row0 : PureRow [Ob.mk 1 (row0.map eI) .live]) .nil)) (mkS_free _ _) : laws_toIntS_o_L1_V (.exit 0) (laws_toIntS_o_L1_head v_a v_i row0) (laws_toIntS_o_L1_out v_a row0)))))

theorem laws_toIntS_o_L1_ok (v_a : (List Int)) (v_i : Int) (row0 : (List Int)) : ∀ r, laws_toIntS_o_L1 v_a v_i row0 = some r → VLoop PP 22 0 (nodeAt (bodyOf PP 45) [1, 1, 0, 1, 0, 0]) (laws_toIntS_o_L1_ex r) (laws_toIntS_o_L1_head v_a v_i row0) (laws_toIntS_o_L1_out v_a r) := fun r h =>
  iter_ok (head := fun w : Int × (List Int) => laws_toIntS_o_L1_head v_a w.1 w.2) (ex := laws_toIntS_o_L1_ex) (out := laws_toIntS_o_L1_out v_a) (by intro r; unfold laws_toIntS_o_L1_ex; split <;> simp) (fun w => laws_toIntS_o_L1_body_ok v_a w.1 w.2) (v_i, row0) r h

def laws_toIntS_o (v_a : (List Int)) : Option (List Int) :=
  if 0 ≤ (len_ eI v_a) ∧ (8 : Int) * (len_ eI v_a) ≤ 281474976710656 ∧ (len_ eI v_a) < 9223372036854775808 then
  laws_toIntS_o_L1 v_a 0 (List.replicate (len_ eI v_a).toNat 0 : List Int) >>= fun r2 =>
  some r2
  else none

theorem laws_toIntS_o_ok (v_a : (List Int)) : Wp (laws_toIntS_o v_a) (fun a => Con PP 45 [.isl 1 (v_a.map eI)] [] (.osl 0 0 0 a.length) [[Ob.mk 1 (a.map eI) .live]]) := by
  unfold laws_toIntS_o
  exact .grd fun h1 =>
    .bnd fun r2 h3 =>
    .ret (runF_con hmix (tape := [.reg [nt], .reg [nt, nt, nt, nt], .reg [nt], .rst [3] [.as [Ob.mk 1 ((List.replicate (len_ eI v_a).toNat 0 : List Int).map eI) .live]] [(0, ii), (3, .c1 (.c0 (.len ((List.replicate (len_ eI v_a).toNat 0 : List Int).length)))), (4, ii)], .sub (.exit 0) [(3, .osl 0 0 0 r2.length)] [[Ob.mk 1 (r2.map eI) .live]], .reg [nt, nt]]) (mv := [0]) (rc := [.pure]) (rr := ii) (by kernel_rfl) (.c ((h1).1) (.c (Int.le_refl (len_ eI v_a)) (.c ((h1).2.1) (.c ((h1).2.2) (.c (row_prf (rep_prf eI (len_ eI v_a).toNat 0) : [Ob.mk 1 (List.replicate (len_ eI v_a).toNat [.n .i64 (0 : Int)]) .live] = [Ob.mk 1 ((List.replicate (len_ eI v_a).toNat 0 : List Int).map eI) .live]) (.c (pure_row eI_pure (List.replicate (len_ eI v_a).toNat 0 : List Int) : PureRow [Ob.mk 1 ((List.replicate (len_ eI v_a).toNat 0 : List Int).map eI) .live]) (.c (len_rep (len_ eI v_a).toNat (0 : Int)) (.c ((laws_toIntS_o_L1_ok v_a 0 (List.replicate (len_ eI v_a).toNat 0 : List Int) r2 h3).vex) (.c (pure_row eI_pure r2 : PureRow [Ob.mk 1 (r2.map eI) .live]) .nil))))))))))

def laws_toBigInt_o (v_a : TBigInt) : Option (Bool × (List Int)) :=
  laws_toIntS_o v_a.fMag >>= fun r1 =>
  some (v_a.fNeg, r1)

theorem laws_toBigInt_o_ok (v_a : TBigInt) : Wp (laws_toBigInt_o v_a) (fun a => Con PP 44 [.agg [.b v_a.fNeg, .isl 1 (v_a.fMag.map eI)]] [] (.agg [.b a.1, .osl 0 0 0 a.2.length]) [[Ob.mk 1 (a.2.map eI) .live]]) := by
  unfold laws_toBigInt_o
  exact .bnd fun r1 h2 =>
    .ret (runF_con hmix (tape := [.reg [nt, nt], .reg [nt], .reg [nt, nt, nt, nt], .reg [nt, nt, (.call { mv := [], rc := [], ac := [ii], r := .osl 0 0 0 r1.length, T1 := [[Ob.mk 1 (r1.map eI) .live]], rr := ii, rrc := [.pure], rds := [], sc := true }, true), nt, nt], .reg [nt, nt]]) (mv := [9]) (rc := [.pure]) (rr := .c1 (.agg [.id, .id])) (by kernel_rfl) (.c (pure_live eI_pure r1 : PureLive [Ob.mk 1 (r1.map eI) .live]) (.c (laws_toIntS_o_ok v_a.fMag r1 h2) (.c (Sc.osl _ _ _ _ : Sc (.osl 0 0 0 r1.length)) (.c ((scT_cons (scR_cons (scO_es eI_sc) scR_nil) scT_nil) : ScT [[Ob.mk 1 (r1.map eI) .live]]) (.c (pure_row eI_pure r1 : PureRow [Ob.mk 1 (r1.map eI) .live]) .nil))))))

def laws_toRat_o (v_a : TRat) : Option (Bool × (List Int) × (List Int)) :=
  laws_toBigInt_o v_a.fNum >>= fun r1 =>
  laws_toIntS_o v_a.fDen >>= fun r3 =>
  some (r1.1, r1.2, r3)

theorem laws_toRat_o_ok (v_a : TRat) : Wp (laws_toRat_o v_a) (fun a => Con PP 25 [.agg [.b v_a.fNum.fNeg, .isl 1 (v_a.fNum.fMag.map eI), .isl 1 (v_a.fDen.map eI)]] [] (.agg [.b a.1, .osl 0 0 0 a.2.1.length, .osl 0 1 0 a.2.2.length]) [[Ob.mk 1 (a.2.1.map eI) .live, Ob.mk 1 (a.2.2.map eI) .live]]) := by
  unfold laws_toRat_o
  exact .bnd fun r1 h2 =>
    .bnd fun r3 h4 =>
    .ret (runF_con hmix (tape := [.reg [nt, nt], .reg [nt], .reg [nt, nt, (.call { mv := [], rc := [], ac := [ii], r := .agg [.b r1.1, .osl 0 0 0 r1.2.length], T1 := [[Ob.mk 1 (r1.2.map eI) .live]], rr := .c1 (.agg [.id, .id]), rrc := [.pure], rds := [], sc := true }, true), nt, nt], .reg [nt, nt, (.call { mv := [], rc := [], ac := [ii], r := .osl 0 0 0 r3.length, T1 := [[Ob.mk 1 (r3.map eI) .live]], rr := ii, rrc := [.pure], rds := [], sc := true }, true), nt, nt], .reg [nt, nt], .rsg [{ hd := [(5, 0), (10, 0)], tl := none }, { hd := [(1, 0)] }] [([.pure, .pure], none), ([.box [.id, .at_ 0 0 r1.2.length, .at_ 0 1 r3.length]], none)] [(2, .c1 (.c0 (.at_ 1 0 0)))]]) (mv := [0]) (rc := [.rn [Ob.mk 1 (r1.2.map eI) .live, Ob.mk 1 (r3.map eI) .live]]) (rr := .c1 (.agg [.id, .id, .id])) (by kernel_rfl) (.c (pure_live eI_pure r1.2 : PureLive [Ob.mk 1 (r1.2.map eI) .live]) (.c (laws_toBigInt_o_ok v_a.fNum r1 h2) (.c (Sc.agg (sc_cons (Sc.b _ : Sc (.b r1.1)) (sc_cons (Sc.osl _ _ _ _ : Sc (.osl 0 0 0 r1.2.length)) sc_nil)) : Sc (.agg [.b r1.1, .osl 0 0 0 r1.2.length])) (.c ((scT_cons (scR_cons (scO_es eI_sc) scR_nil) scT_nil) : ScT [[Ob.mk 1 (r1.2.map eI) .live]]) (.c (pure_live eI_pure r3 : PureLive [Ob.mk 1 (r3.map eI) .live]) (.c (laws_toIntS_o_ok v_a.fDen r3 h4) (.c (Sc.osl _ _ _ _ : Sc (.osl 0 0 0 r3.length)) (.c ((scT_cons (scR_cons (scO_es eI_sc) scR_nil) scT_nil) : ScT [[Ob.mk 1 (r3.map eI) .live]]) (.c (pure_row eI_pure r1.2 : PureRow [Ob.mk 1 (r1.2.map eI) .live]) (.c (pure_row eI_pure r3 : PureRow [Ob.mk 1 (r3.map eI) .live]) (.c (rfl : (mvG [{ hd := [(5, 0), (10, 0)], tl := none }, { hd := [(1, 0)] }]) 0 0 = some (5, 0)) (.c (rfl : r1.2.length = r1.2.length) (.c (rfl : (mvG [{ hd := [(5, 0), (10, 0)], tl := none }, { hd := [(1, 0)] }]) 0 1 = some (10, 0)) (.c (rfl : r3.length = r3.length) (.c (rfl : (mvG [{ hd := [(5, 0), (10, 0)], tl := none }, { hd := [(1, 0)] }]) 1 0 = some (1, 0)) (.c ((rn_cons (rn_es (tgt := (findIx [0])) (f' := eI) (show (r1.2.map eI) = (r1.2.map eI) from rfl) (fun x => (nr_rn eI_nr) x)) (rn_cons (rn_es (tgt := (findIx [0])) (f' := eI) (show (r3.map eI) = (r3.map eI) from rfl) (fun x => (nr_rn eI_nr) x)) rn_nil)) : [Ob.mk 1 (r1.2.map eI) .live, Ob.mk 1 (r3.map eI) .live] = List.map (rnO (findIx [0])) [Ob.mk 1 (r1.2.map eI) .live, Ob.mk 1 (r3.map eI) .live]) .nil)))))))))))))))))

def laws_toRatS_o_L1_head (v_a : (List TRat)) (v_i : Int) (row0_0 : (List OTRat)) (pool0 : (List (List Int))) : S := mkS [(0, .isl 3 (v_a.map eTRat)), (3, .osl 0 0 0 row0_0.length), (4, .n .i64 v_i)] [(Ob.mk 3 (row0_0.map (eOTRat 0 1)) .live :: (pool0.map (poolO .live 1 eI)))]

def laws_toRatS_o_L1_ex : ((List OTRat) × (List (List Int))) → Exit
  | _ => .exit 0

def laws_toRatS_o_L1_out (v_a : (List TRat)) : ((List OTRat) × (List (List Int))) → S
  | a => mkS [(3, .osl 0 0 0 a.1.length)] [(Ob.mk 3 (a.1.map (eOTRat 0 1)) .live :: (a.2.map (poolO .live 1 eI)))]

abbrev laws_toRatS_o_L1_V := VEx PP 23 0 (nodeAt (bodyOf PP 8) [1, 1, 0, 1, 0, 0])

def laws_toRatS_o_L1_body (v_a : (List TRat)) (v_i : Int) (row0_0 : (List OTRat)) (pool0 : (List (List Int))) : Option ((Int × (List OTRat) × (List (List Int))) ⊕ ((List OTRat) × (List (List Int)))) :=
  if (decide (v_i < (len_ eTRat v_a))) = true then
    if 0 ≤ v_i ∧ v_i < v_a.length then
    v_a[v_i.toNat]? >>= fun x3 =>
    laws_toRat_o x3 >>= fun r5 =>
    if 0 ≤ v_i ∧ v_i < (row0_0.length : Nat) then
    if (0 + v_i.toNat) < row0_0.length then
    some (.inl (w64 (v_i + (1 : Int)), row0_0.set (0 + v_i.toNat) (⟨(⟨r5.1, (some (pool0.length, r5.2.1.length))⟩ : OTBigInt), (some ((pool0.length + 1), r5.2.2.length))⟩ : OTRat), pool0 ++ [r5.2.1, r5.2.2]))
    else none
    else none
    else none
  else
    some (.inr (row0_0, pool0))

def laws_toRatS_o_L1 (v_a : (List TRat)) (v_i : Int) (row0_0 : (List OTRat)) (pool0 : (List (List Int))) : Option ((List OTRat) × (List (List Int))) := iter (fun w : Int × (List OTRat) × (List (List Int)) => laws_toRatS_o_L1_body v_a w.1 w.2.1 w.2.2) (v_i, row0_0, pool0)

theorem laws_toRatS_o_L1_body_ok (v_a : (List TRat)) (v_i : Int) (row0_0 : (List OTRat)) (pool0 : (List (List Int))) : Wp (laws_toRatS_o_L1_body v_a v_i row0_0 pool0) (Sum.elim
    (fun w => laws_toRatS_o_L1_V .normal (laws_toRatS_o_L1_head v_a v_i row0_0 pool0) (laws_toRatS_o_L1_head v_a w.1 w.2.1 w.2.2))
    (fun r => laws_toRatS_o_L1_V (laws_toRatS_o_L1_ex r) (laws_toRatS_o_L1_head v_a v_i row0_0 pool0) (laws_toRatS_o_L1_out v_a r))) := by
  unfold laws_toRatS_o_L1_body
  exact (let t1 : List TE := [.reg [nt, nt, nt, nt]];
    .ite (fun h1 =>
    .grd fun h2 =>
    .bnd fun x3 h4 =>
    .bnd fun r5 h6 =>
    .grd fun h7 =>
    .grd fun h8 =>
    .ret ((okC_sound hmix (tape := t1 ++ ([.br true, .reg [nt, nt, nt, nt, nt, (.el (eTRat x3), true), (.mg 0 (pool0.length + 1) (.call { mv := [], rc := [], ac := [ii], r := .agg [.b r5.1, .osl 0 0 0 r5.2.1.length, .osl 0 1 0 r5.2.2.length], T1 := [[Ob.mk 1 (r5.2.1.map eI) .live, Ob.mk 1 (r5.2.2.map eI) .live]], rr := .c1 (.agg [.id, .id, .id]), rrc := [.rn [Ob.mk 1 (r5.2.1.map eI) .live, Ob.mk 1 (r5.2.2.map eI) .live]], rds := [], sc := true }), true), nt, (.re 20 (.agg [.b r5.1, aH 0 1 1 (some (pool0.length, r5.2.1.length)), aH 0 1 1 (some ((pool0.length + 1), r5.2.2.length))]) .bd, true)], .reg [nt, nt, nt], .rst [0] [.rn (Ob.mk 3 ((row0_0.set (0 + v_i.toNat) (⟨(⟨r5.1, (some (pool0.length, r5.2.1.length))⟩ : OTBigInt), (some ((pool0.length + 1), r5.2.2.length))⟩ : OTRat)).map (eOTRat 0 1)) .live :: ((pool0 ++ [r5.2.1, r5.2.2]).map (poolO .live 1 eI)))] [(0, ii), (3, .c1 (.c0 (.len ((row0_0.set (0 + v_i.toNat) (⟨(⟨r5.1, (some (pool0.length, r5.2.1.length))⟩ : OTBigInt), (some ((pool0.length + 1), r5.2.2.length))⟩ : OTRat)).length)))), (4, ii)]] : List TE)) (nr := 1) (by kernel_rfl) (.c h1 (.c ((h2).1) (.c (lt_mapI (h2).2 : v_i < ((v_a.map eTRat).length : Nat)) (.c (map_get h4 : (v_a.map eTRat)[v_i.toNat]? = some (eTRat x3)) (.c ((rn_cons (rn_es (tgt := (backL [.row 11])) (f' := eI) (show (r5.2.1.map eI) = (r5.2.1.map eI) from rfl) (fun x => (nr_rn eI_nr) x)) (rn_cons (rn_es (tgt := (backL [.row 11])) (f' := eI) (show (r5.2.2.map eI) = (r5.2.2.map eI) from rfl) (fun x => (nr_rn eI_nr) x)) rn_nil)) : [Ob.mk 1 (r5.2.1.map eI) .live, Ob.mk 1 (r5.2.2.map eI) .live] = List.map (rnO (backL [.row 11])) [Ob.mk 1 (r5.2.1.map eI) .live, Ob.mk 1 (r5.2.2.map eI) .live]) (.c ((live_cons rfl (live_cons rfl live_nil)) : LiveR [Ob.mk 1 (r5.2.1.map eI) .live, Ob.mk 1 (r5.2.2.map eI) .live]) (.c (laws_toRat_o_ok x3 r5 h6) (.c (Sc.agg (sc_cons (Sc.b _ : Sc (.b r5.1)) (sc_cons (Sc.osl _ _ _ _ : Sc (.osl 0 0 0 r5.2.1.length)) (sc_cons (Sc.osl _ _ _ _ : Sc (.osl 0 1 0 r5.2.2.length)) sc_nil))) : Sc (.agg [.b r5.1, .osl 0 0 0 r5.2.1.length, .osl 0 1 0 r5.2.2.length])) (.c ((scT_cons (scR_cons (scO_es eI_sc) (scR_cons (scO_es eI_sc) scR_nil)) scT_nil) : ScT [[Ob.mk 1 (r5.2.1.map eI) .live, Ob.mk 1 (r5.2.2.map eI) .live]]) (.c (congrArg (· + 1) (pl_len (show (pool0.map (poolO .live 1 eI)) = (pool0.map (poolO .live 1 eI)) from rfl) rfl)) (.c ((h7).1) (.c ((h7).2) (.c (re_agg ⟨.refl _, .s2 0 1 1 pool0.length r5.2.1.length, .s2 0 1 1 (pool0.length + 1) r5.2.2.length, trivial⟩ : ReOk (.agg [.b r5.1, .osl 0 (pool0.length + 1) 0 r5.2.1.length, .osl 0 ((pool0.length + 1) + 1) 0 r5.2.2.length]) (.agg [.b r5.1, aH 0 1 1 (some (pool0.length, r5.2.1.length)), aH 0 1 1 (some ((pool0.length + 1), r5.2.2.length))])) (.c (lt_map h8 : (0 + v_i.toNat) < (row0_0.map (eOTRat 0 1)).length) (.c (rfl : 3 = 3) (.c ((rn_cons (rn_es (tgt := (findIx [0])) (f' := (eOTRat 0 1)) (set_prf (show (row0_0.map (eOTRat 0 1)) = (row0_0.map (eOTRat 0 1)) from rfl) (0 + v_i.toNat) (⟨(⟨r5.1, (some (pool0.length, r5.2.1.length))⟩ : OTBigInt), (some ((pool0.length + 1), r5.2.2.length))⟩ : OTRat)) (fun x => (eOTRat_rn (rfl : (findIx [0]) 0 = some 0)) x)) (rn_pool (tgt := (findIx [0])) (pl_app (show (pool0.map (poolO .live 1 eI)) = (pool0.map (poolO .live 1 eI)) from rfl) (pl_c1 eI_pure 11 0 (pool0.length + 1) (show (r5.2.1.map eI) = (r5.2.1.map eI) from rfl) (pl_c1 eI_pure 11 0 (pool0.length + 1) (show (r5.2.2.map eI) = (r5.2.2.map eI) from rfl) (pl_c0 11 0 (pool0.length + 1))))) (fun x => (nr_rn eI_nr) x))) : (Ob.mk 3 ((row0_0.set (0 + v_i.toNat) (⟨(⟨r5.1, (some (pool0.length, r5.2.1.length))⟩ : OTBigInt), (some ((pool0.length + 1), r5.2.2.length))⟩ : OTRat)).map (eOTRat 0 1)) .live :: ((pool0 ++ [r5.2.1, r5.2.2]).map (poolO .live 1 eI))) = List.map (rnO (findIx [0])) (Ob.mk 3 ((row0_0.map (eOTRat 0 1)).set (0 + v_i.toNat) [.b r5.1, aH 0 1 1 (some (pool0.length, r5.2.1.length)), aH 0 1 1 (some ((pool0.length + 1), r5.2.2.length))]) .live :: ((pool0.map (poolO .live 1 eI)) ++ List.map (shO 11 0 (pool0.length + 1)) [Ob.mk 1 (r5.2.1.map eI) .live, Ob.mk 1 (r5.2.2.map eI) .live]))) (.c (len_set (show row0_0.length = row0_0.length from rfl) (0 + v_i.toNat) (⟨(⟨r5.1, (some (pool0.length, r5.2.1.length))⟩ : OTBigInt), (some ((pool0.length + 1), r5.2.2.length))⟩ : OTRat)) .nil))))))))))))))))) (mkS_free _ _) : laws_toRatS_o_L1_V .normal (laws_toRatS_o_L1_head v_a v_i row0_0 pool0) (laws_toRatS_o_L1_head v_a (w64 (v_i + (1 : Int))) (row0_0.set (0 + v_i.toNat) (⟨(⟨r5.1, (some (pool0.length, r5.2.1.length))⟩ : OTBigInt), (some ((pool0.length + 1), r5.2.2.length))⟩ : OTRat)) (pool0 ++ [r5.2.1, r5.2.2])))))
    (fun h1 =>
    .ret ((okC_sound hmix (tape := t1 ++ ([.br false, .rst [0] [.rn (Ob.mk 3 (row0_0.map (eOTRat 0 1)) .live :: (pool0.map (poolO .live 1 eI)))] [(3, ii)]] : List TE)) (nr := 1) (by kernel_rfl) (.c h1 (.c ((rn_cons (rn_es (tgt := (findIx [0])) (f' := (eOTRat 0 1)) (show (row0_0.map (eOTRat 0 1)) = (row0_0.map (eOTRat 0 1)) from rfl) (fun x => (eOTRat_rn (rfl : (findIx [0]) 0 = some 0)) x)) (rn_pool (tgt := (findIx [0])) (show (pool0.map (poolO .live 1 eI)) = (pool0.map (poolO .live 1 eI)) from rfl) (fun x => (nr_rn eI_nr) x))) : (Ob.mk 3 (row0_0.map (eOTRat 0 1)) .live :: (pool0.map (poolO .live 1 eI))) = List.map (rnO (findIx [0])) (Ob.mk 3 (row0_0.map (eOTRat 0 1)) .live :: (pool0.map (poolO .live 1 eI)))) .nil)) (mkS_free _ _) : laws_toRatS_o_L1_V (.exit 0) (laws_toRatS_o_L1_head v_a v_i row0_0 pool0) (laws_toRatS_o_L1_out v_a (row0_0, pool0))))))

theorem laws_toRatS_o_L1_ok (v_a : (List TRat)) (v_i : Int) (row0_0 : (List OTRat)) (pool0 : (List (List Int))) : ∀ r, laws_toRatS_o_L1 v_a v_i row0_0 pool0 = some r → VLoop PP 23 0 (nodeAt (bodyOf PP 8) [1, 1, 0, 1, 0, 0]) (laws_toRatS_o_L1_ex r) (laws_toRatS_o_L1_head v_a v_i row0_0 pool0) (laws_toRatS_o_L1_out v_a r) := fun r h =>
  iter_ok (head := fun w : Int × (List OTRat) × (List (List Int)) => laws_toRatS_o_L1_head v_a w.1 w.2.1 w.2.2) (ex := laws_toRatS_o_L1_ex) (out := laws_toRatS_o_L1_out v_a) (by intro r; unfold laws_toRatS_o_L1_ex; split <;> simp) (fun w => laws_toRatS_o_L1_body_ok v_a w.1 w.2.1 w.2.2) (v_i, row0_0, pool0) r h

def laws_toRatS_o (v_a : (List TRat)) : Option ((List OTRat) × (List (List Int))) :=
  if 0 ≤ (len_ eTRat v_a) ∧ (56 : Int) * (len_ eTRat v_a) ≤ 281474976710656 ∧ (len_ eTRat v_a) < 9223372036854775808 then
  laws_toRatS_o_L1 v_a 0 (List.replicate (len_ eTRat v_a).toNat (⟨(⟨false, (none : HO)⟩ : OTBigInt), (none : HO)⟩ : OTRat) : List OTRat) ([] : List (List Int)) >>= fun r2 =>
  some (r2.1, r2.2)
  else none

theorem laws_toRatS_o_ok (v_a : (List TRat)) : Wp (laws_toRatS_o v_a) (fun a => Con PP 8 [.isl 3 (v_a.map eTRat)] [] (.osl 0 0 0 a.1.length) [(Ob.mk 3 (a.1.map (eOTRat 0 1)) .live :: (a.2.map (poolO .live 1 eI)))]) := by
  unfold laws_toRatS_o
  exact .grd fun h1 =>
    .bnd fun r2 h3 =>
    .ret (runF_con hmix (tape := [.reg [nt], .reg [nt, nt, (.el [.b false, aH 3 1 1 (none : HO), aH 3 1 1 (none : HO)], true), nt], .reg [nt], .rst [3] [.rn (Ob.mk 3 ((List.replicate (len_ eTRat v_a).toNat (⟨(⟨false, (none : HO)⟩ : OTBigInt), (none : HO)⟩ : OTRat) : List OTRat).map (eOTRat 0 1)) .live :: (([] : List (List Int)).map (poolO .live 1 eI)))] [(0, ii), (3, .c1 (.c0 (.len ((List.replicate (len_ eTRat v_a).toNat (⟨(⟨false, (none : HO)⟩ : OTBigInt), (none : HO)⟩ : OTRat) : List OTRat).length)))), (4, ii)], .sub (.exit 0) [(3, .osl 0 0 0 r2.1.length)] [(Ob.mk 3 (r2.1.map (eOTRat 0 1)) .live :: (r2.2.map (poolO .live 1 eI)))], .reg [nt, nt]]) (mv := [0]) (rc := [.rn (Ob.mk 3 (r2.1.map (eOTRat 0 1)) .live :: (r2.2.map (poolO .live 1 eI)))]) (rr := ii) (by kernel_rfl) (.c ((h1).1) (.c (Int.le_refl (len_ eTRat v_a)) (.c ((h1).2.1) (.c ((h1).2.2) (.c ((rn_cons (rn_es (tgt := (findIx [3])) (f' := (eOTRat 0 1)) (rep_prf (eOTRat 3 1) (len_ eTRat v_a).toNat (⟨(⟨false, (none : HO)⟩ : OTBigInt), (none : HO)⟩ : OTRat)) (fun x => (eOTRat_rn (rfl : (findIx [3]) 3 = some 0)) x)) (rn_pool (tgt := (findIx [3])) (pl_nil .live 1 eI) (fun x => (nr_rn eI_nr) x))) : (Ob.mk 3 ((List.replicate (len_ eTRat v_a).toNat (⟨(⟨false, (none : HO)⟩ : OTBigInt), (none : HO)⟩ : OTRat) : List OTRat).map (eOTRat 0 1)) .live :: (([] : List (List Int)).map (poolO .live 1 eI))) = List.map (rnO (findIx [3])) (Ob.mk 3 (List.replicate (len_ eTRat v_a).toNat [.b false, aH 3 1 1 (none : HO), aH 3 1 1 (none : HO)]) .live :: ([] : List Ob))) (.c (len_rep (len_ eTRat v_a).toNat ((⟨(⟨false, (none : HO)⟩ : OTBigInt), (none : HO)⟩ : OTRat) : OTRat)) (.c ((laws_toRatS_o_L1_ok v_a 0 (List.replicate (len_ eTRat v_a).toNat (⟨(⟨false, (none : HO)⟩ : OTBigInt), (none : HO)⟩ : OTRat) : List OTRat) ([] : List (List Int)) r2 h3).vex) (.c ((rn_cons (rn_es (tgt := (findIx [0])) (f' := (eOTRat 0 1)) (show (r2.1.map (eOTRat 0 1)) = (r2.1.map (eOTRat 0 1)) from rfl) (fun x => (eOTRat_rn (rfl : (findIx [0]) 0 = some 0)) x)) (rn_pool (tgt := (findIx [0])) (show (r2.2.map (poolO .live 1 eI)) = (r2.2.map (poolO .live 1 eI)) from rfl) (fun x => (nr_rn eI_nr) x))) : (Ob.mk 3 (r2.1.map (eOTRat 0 1)) .live :: (r2.2.map (poolO .live 1 eI))) = List.map (rnO (findIx [0])) (Ob.mk 3 (r2.1.map (eOTRat 0 1)) .live :: (r2.2.map (poolO .live 1 eI)))) .nil)))))))))

def spec_l01In (v_n : Int) (v_lo : Int) (v_hi : Int) : Option Bool :=
  if (decide (v_lo ≤ v_n)) = true then
    some (decide (v_n ≤ v_hi))
  else
    some false

theorem spec_l01In_ok (v_n : Int) (v_lo : Int) (v_hi : Int) : Wp (spec_l01In v_n v_lo v_hi) (fun r => Con PP 56 [.n .i64 v_n, .n .i64 v_lo, .n .i64 v_hi] [] (.b r) []) := by
  unfold spec_l01In
  exact .ite (fun h1 =>
    .ret (runF_con0 hmix (tape := [.reg [nt], .reg [nt, nt, nt, nt, nt, nt, nt, (.br true, true), nt]]) (rr := ii) (by kernel_rfl) (.c h1 (.c h1 (.c h1 (.c h1 .nil))))))
    (fun h1 =>
    .ret (runF_con0 hmix (tape := [.reg [nt], .reg [nt, nt, nt, nt, nf, nf, nf, (.br false, true), nt]]) (rr := ii) (by kernel_rfl) (.c h1 (.c h1 (.c h1 (.c h1 .nil))))))

def spec_IsName_L1_head (v_s : ByteArray) (v_i : Int) : S := mkS [(0, .s v_s), (3, .n .i64 v_i)] []

def spec_IsName_L1_ex : ((Unit) ⊕ (Unit)) → Exit
  | .inl _ => .exit 0
  | .inr _ => .ret

def spec_IsName_L1_out (v_s : ByteArray) : ((Unit) ⊕ (Unit)) → S
  | .inl a => mkS [(0, .s v_s)] []
  | .inr a => mkS [(2, .b false)] []

abbrev spec_IsName_L1_V := VEx PP 42 0 (nodeAt (bodyOf PP 91) [1, 0, 1, 0, 0])

def spec_IsName_L1_body (v_s : ByteArray) (v_i : Int) : Option ((Int) ⊕ ((Unit) ⊕ (Unit))) :=
  if (decide (v_i < (v_s.size : Int))) = true then
    if 0 ≤ v_i ∧ v_i < (v_s.size : Nat) then
    if (decide ((97 : Int) ≤ ((v_s.data.toList.getD v_i.toNat 0).toNat : Int))) = true then
      if (decide (((v_s.data.toList.getD v_i.toNat 0).toNat : Int) ≤ (122 : Int))) = true then
        some (.inl (w64 (v_i + (1 : Int))))
      else
        if (v_i == (0 : Int)) = true then
          some (.inr (.inr ()))
        else
          if (decide (((v_s.data.toList.getD v_i.toNat 0).toNat : Int) < (48 : Int))) = true then
            some (.inr (.inr ()))
          else
            if (decide ((57 : Int) < ((v_s.data.toList.getD v_i.toNat 0).toNat : Int))) = true then
              some (.inr (.inr ()))
            else
              some (.inl (w64 (v_i + (1 : Int))))
    else
      if (v_i == (0 : Int)) = true then
        some (.inr (.inr ()))
      else
        if (decide (((v_s.data.toList.getD v_i.toNat 0).toNat : Int) < (48 : Int))) = true then
          some (.inr (.inr ()))
        else
          if (decide ((57 : Int) < ((v_s.data.toList.getD v_i.toNat 0).toNat : Int))) = true then
            some (.inr (.inr ()))
          else
            some (.inl (w64 (v_i + (1 : Int))))
    else none
  else
    some (.inr (.inl ()))

def spec_IsName_L1 (v_s : ByteArray) (v_i : Int) : Option ((Unit) ⊕ (Unit)) := iter (fun w : Int => spec_IsName_L1_body v_s w) v_i

theorem spec_IsName_L1_body_ok (v_s : ByteArray) (v_i : Int) : Wp (spec_IsName_L1_body v_s v_i) (Sum.elim
    (fun w => spec_IsName_L1_V .normal (spec_IsName_L1_head v_s v_i) (spec_IsName_L1_head v_s w))
    (fun r => spec_IsName_L1_V (spec_IsName_L1_ex r) (spec_IsName_L1_head v_s v_i) (spec_IsName_L1_out v_s r))) := by
  unfold spec_IsName_L1_body
  exact (let t1 : List TE := [.reg [nt, nt, nt, nt]];
    .ite (fun h1 =>
    .grd fun h2 =>
    .ite (fun h3 =>
    (let t2 : List TE := t1 ++ ([.br true, .reg [nt, nt, nt, nt, nt, nt, nt, nt, nt, (.br true, true), nt]] : List TE);
    have o3 := ((.c h1 (.c ((h2).1) (.c ((h2).2) (.c h3 (.c h3 (.c h3 (.c ((h2).1) (.c ((h2).2) (.c h3 (.c h3 .nil)))))))))) : AllP _);
    .ite (fun h4 =>
    .ret ((okC_sound hmix (tape := t2 ++ ([.reg [nt, nt, nt, nf, nf, nf, nt, nt, nt, nt, nf, nf, nt, nt, nt, nt, nf, (.br false, true)], .br false, .reg [nt, nt, nt], .rst [] [] [(0, ii), (3, ii)]] : List TE)) (nr := 0) (by kernel_rfl) (o3.app (.c (not_t h4) (.c (not_t h4) (.c (not_t h4) (.c (not_t h4) (.c (not_t h4) (.c (not_t h4) (.c (not_t h4) (.c (rfl : false = false) .nil))))))))) (mkS_free _ _) : spec_IsName_L1_V .normal (spec_IsName_L1_head v_s v_i) (spec_IsName_L1_head v_s (w64 (v_i + (1 : Int)))))))
    (fun h4 =>
    (have o4 := o3.app (.c (not_f h4) (.c (not_f h4) (.c (not_f h4) .nil)));
    .ite (fun h5 =>
    .ret ((okC_sound hmix (tape := t2 ++ ([.reg [nt, nt, nt, nt, nt, nt, nf, nf, nf, nf, (.br true, true), nt, nf, nf, nf, nf, nt, (.br true, true)], .br true, .reg [nt], .rst [] [] [(2, ii)]] : List TE)) (nr := 0) (by kernel_rfl) (o4.app (.c h5 (.c h5 (.c h5 (.c h5 (.c (not_f h4) (.c h5 (.c (not_f h4) (.c (rfl : true = true) (.c (rfl : true = true) (.c (rfl : true = true) (.c (rfl : true = true) (.c (not_f h4) (.c (not_f h4) (.c (rfl : true = true) .nil))))))))))))))) (mkS_free _ _) : spec_IsName_L1_V (.ret) (spec_IsName_L1_head v_s v_i) (spec_IsName_L1_out v_s (.inr ())))))
    (fun h5 =>
    (have o5 := o4.app (.c h5 (.c h5 (.c h5 (.c ((h2).1) (.c ((h2).2) (.c h5 (.c (not_f h4) (.c h5 (.c (not_f h4) .nil)))))))));
    .ite (fun h6 =>
    .ret ((okC_sound hmix (tape := t2 ++ ([.reg [nt, nt, nt, nt, nt, nt, nt, nt, nt, nt, (.br false, true), nt, nf, nf, nf, nf, (.br true, true), (.br true, true)], .br true, .reg [nt], .rst [] [] [(2, ii)]] : List TE)) (nr := 0) (by kernel_rfl) (o5.app (.c h6 (.c h6 (.c h6 (.c h6 (.c (not_f h4) (.c h6 (.c (not_f h4) (.c (rfl : true = true) .nil))))))))) (mkS_free _ _) : spec_IsName_L1_V (.ret) (spec_IsName_L1_head v_s v_i) (spec_IsName_L1_out v_s (.inr ())))))
    (fun h6 =>
    (let t6 : List TE := t2 ++ ([.reg [nt, nt, nt, nt, nt, nt, nt, nt, nt, nt, (.br false, true), nt, nt, nt, nt, nt, (.br false, true), (.br true, true)]] : List TE);
    have o7 := o5.app (.c h6 (.c h6 (.c h6 (.c ((h2).1) (.c ((h2).2) (.c h6 (.c (not_f h4) (.c h6 (.c (not_f h4) .nil)))))))));
    .ite (fun h7 =>
    .ret ((okC_sound hmix (tape := t6 ++ ([.br true, .reg [nt], .rst [] [] [(2, ii)]] : List TE)) (nr := 0) (by kernel_rfl) (o7.app (.c h7 .nil)) (mkS_free _ _) : spec_IsName_L1_V (.ret) (spec_IsName_L1_head v_s v_i) (spec_IsName_L1_out v_s (.inr ())))))
    (fun h7 =>
    .ret ((okC_sound hmix (tape := t6 ++ ([.br false, .reg [nt, nt, nt], .rst [] [] [(0, ii), (3, ii)]] : List TE)) (nr := 0) (by kernel_rfl) (o7.app (.c h7 .nil)) (mkS_free _ _) : spec_IsName_L1_V .normal (spec_IsName_L1_head v_s v_i) (spec_IsName_L1_head v_s (w64 (v_i + (1 : Int)))))))))))))))
    (fun h3 =>
    (let t2 : List TE := t1 ++ ([.br true, .reg [nt, nt, nt, nt, nt, nf, nf, nf, nf, (.br false, true), nt]] : List TE);
    have o3 := ((.c h1 (.c ((h2).1) (.c ((h2).2) (.c h3 (.c h3 (.c h3 (.c h3 (.c h3 (.c (rfl : true = true) (.c (rfl : true = true) (.c (rfl : true = true) .nil))))))))))) : AllP _);
    .ite (fun h4 =>
    .ret ((okC_sound hmix (tape := t2 ++ ([.reg [nt, nt, nt, nt, nt, nt, nf, nf, nf, nf, (.br true, true), nt, nf, nf, nf, nf, nt, nt], .br true, .reg [nt], .rst [] [] [(2, ii)]] : List TE)) (nr := 0) (by kernel_rfl) (o3.app (.c h4 (.c h4 (.c h4 (.c h4 (.c (rfl : true = true) (.c h4 (.c (rfl : true = true) (.c (rfl : true = true) (.c (rfl : true = true) (.c (rfl : true = true) (.c (rfl : true = true) (.c (rfl : true = true) (.c (rfl : true = true) .nil)))))))))))))) (mkS_free _ _) : spec_IsName_L1_V (.ret) (spec_IsName_L1_head v_s v_i) (spec_IsName_L1_out v_s (.inr ())))))
    (fun h4 =>
    (have o4 := o3.app (.c h4 (.c h4 (.c h4 (.c ((h2).1) (.c ((h2).2) (.c h4 (.c (rfl : true = true) (.c h4 (.c (rfl : true = true) .nil)))))))));
    .ite (fun h5 =>
    .ret ((okC_sound hmix (tape := t2 ++ ([.reg [nt, nt, nt, nt, nt, nt, nt, nt, nt, nt, (.br false, true), nt, nf, nf, nf, nf, (.br true, true), nt], .br true, .reg [nt], .rst [] [] [(2, ii)]] : List TE)) (nr := 0) (by kernel_rfl) (o4.app (.c h5 (.c h5 (.c h5 (.c h5 (.c (rfl : true = true) (.c h5 (.c (rfl : true = true) .nil)))))))) (mkS_free _ _) : spec_IsName_L1_V (.ret) (spec_IsName_L1_head v_s v_i) (spec_IsName_L1_out v_s (.inr ())))))
    (fun h5 =>
    (let t5 : List TE := t2 ++ ([.reg [nt, nt, nt, nt, nt, nt, nt, nt, nt, nt, (.br false, true), nt, nt, nt, nt, nt, (.br false, true), nt]] : List TE);
    have o6 := o4.app (.c h5 (.c h5 (.c h5 (.c ((h2).1) (.c ((h2).2) (.c h5 (.c (rfl : true = true) (.c h5 .nil))))))));
    .ite (fun h6 =>
    .ret ((okC_sound hmix (tape := t5 ++ ([.br true, .reg [nt], .rst [] [] [(2, ii)]] : List TE)) (nr := 0) (by kernel_rfl) (o6.app (.c h6 .nil)) (mkS_free _ _) : spec_IsName_L1_V (.ret) (spec_IsName_L1_head v_s v_i) (spec_IsName_L1_out v_s (.inr ())))))
    (fun h6 =>
    .ret ((okC_sound hmix (tape := t5 ++ ([.br false, .reg [nt, nt, nt], .rst [] [] [(0, ii), (3, ii)]] : List TE)) (nr := 0) (by kernel_rfl) (o6.app (.c h6 .nil)) (mkS_free _ _) : spec_IsName_L1_V .normal (spec_IsName_L1_head v_s v_i) (spec_IsName_L1_head v_s (w64 (v_i + (1 : Int))))))))))))))
    (fun h1 =>
    .ret ((okC_sound hmix (tape := t1 ++ ([.br false, .rst [] [] [(0, ii)]] : List TE)) (nr := 0) (by kernel_rfl) (.c h1 .nil) (mkS_free _ _) : spec_IsName_L1_V (.exit 0) (spec_IsName_L1_head v_s v_i) (spec_IsName_L1_out v_s (.inl ()))))))

theorem spec_IsName_L1_ok (v_s : ByteArray) (v_i : Int) : ∀ r, spec_IsName_L1 v_s v_i = some r → VLoop PP 42 0 (nodeAt (bodyOf PP 91) [1, 0, 1, 0, 0]) (spec_IsName_L1_ex r) (spec_IsName_L1_head v_s v_i) (spec_IsName_L1_out v_s r) := fun r h =>
  iter_ok (head := fun w : Int => spec_IsName_L1_head v_s w) (ex := spec_IsName_L1_ex) (out := spec_IsName_L1_out v_s) (by intro r; unfold spec_IsName_L1_ex; split <;> simp) (fun w => spec_IsName_L1_body_ok v_s w) v_i r h

def spec_IsName (v_s : ByteArray) : Option Bool :=
  spec_IsName_L1 v_s 0 >>= fun r1 =>
  match r1 with
  | .inl a3 => (spec_l01In (v_s.size : Int) 1 8 >>= fun r4 =>
    some r4)
  | .inr a3 => (some false)

theorem spec_IsName_ok (v_s : ByteArray) : Wp (spec_IsName v_s) (fun r => Con PP 91 [.s v_s] [] (.b r) []) := by
  unfold spec_IsName
  exact .bnd fun r1 h2 =>
    (let t1 : List TE := [.reg [nt], .reg [nt]];
    (by
    rcases r1 with a3 | a3
    · exact (.bnd fun r4 h5 =>
    .ret (runF_con0 hmix (tape := t1 ++ ([.rst [] [] [(0, ii), (3, ii)], .sub (.exit 0) [(0, .s v_s)] [], .reg [nt, nt, (.call { ac := [ii, ii, ii], r := .b r4, sc := true }, true), nt]] : List TE)) (rr := ii) (by kernel_rfl) (.c ((spec_IsName_L1_ok v_s 0 (.inl a3) h2).vex) (.c (spec_l01In_ok (v_s.size : Int) 1 8 r4 h5) (.c (Sc.b _ : Sc (.b r4)) .nil)))))
    · exact (.ret (runF_con0 hmix (tape := t1 ++ ([.rst [] [] [(0, ii), (3, ii)], .sub (.ret) [(2, .b false)] []] : List TE)) (rr := ii) (by kernel_rfl) (.c ((spec_IsName_L1_ok v_s 0 (.inr a3) h2).vex) .nil)))))

def spec_JointOk (v_j : TJoint) : Option Bool :=
  spec_IsName v_j.fName >>= fun r1 =>
  if r1 = true then
    spec_l01In v_j.fX (-50) 50 >>= fun r4 =>
    if r4 = true then
      spec_l01In v_j.fY (-50) 50 >>= fun r7 =>
      some r7
    else
      some false
  else
    some false

theorem spec_JointOk_ok (v_j : TJoint) : Wp (spec_JointOk v_j) (fun r => Con PP 71 [.agg [.s v_j.fName, .n .i64 v_j.fX, .n .i64 v_j.fY, .b v_j.fFixed]] [] (.b r) []) := by
  unfold spec_JointOk
  exact .bnd fun r1 h2 =>
    (let t1 : List TE := [.reg [nt, nt]];
    have o2 := ((.c (spec_IsName_ok v_j.fName r1 h2) (.c (Sc.b _ : Sc (.b r1)) .nil)) : AllP _);
    .ite (fun h3 =>
    .bnd fun r4 h5 =>
    (have o3 := o2.app (.c h3 (.c h3 (.c h3 (.c (spec_l01In_ok v_j.fX (-50) 50 r4 h5) (.c (Sc.b _ : Sc (.b r4)) (.c h3 .nil))))));
    .ite (fun h6 =>
    .bnd fun r7 h8 =>
    .ret (runF_con0 hmix (tape := t1 ++ ([.reg [nt, nt, (.call { ac := [ii], r := .b r1, sc := true }, true), nt, nt, nt, (.call { ac := [ii, ii, ii], r := .b r4, sc := true }, true), (.br true, true), nt, nt, nt, (.call { ac := [ii, ii, ii], r := .b r7, sc := true }, true), (.br true, true), nt]] : List TE)) (rr := ii) (by kernel_rfl) (o3.app (.c h6 (.c h6 (.c h6 (.c (spec_l01In_ok v_j.fY (-50) 50 r7 h8) (.c (Sc.b _ : Sc (.b r7)) (.c h6 .nil)))))))))
    (fun h6 =>
    .ret (runF_con0 hmix (tape := t1 ++ ([.reg [nt, nt, (.call { ac := [ii], r := .b r1, sc := true }, true), nt, nt, nt, (.call { ac := [ii, ii, ii], r := .b r4, sc := true }, true), (.br true, true), nt, nf, nf, nf, (.br false, true), nt]] : List TE)) (rr := ii) (by kernel_rfl) (o3.app (.c h6 (.c h6 (.c h6 (.c h6 .nil)))))))))
    (fun h3 =>
    .ret (runF_con0 hmix (tape := t1 ++ ([.reg [nt, nt, (.call { ac := [ii], r := .b r1, sc := true }, true), nt, nf, nf, nf, (.br false, true), nt, nf, nf, nf, nt, nt]] : List TE)) (rr := ii) (by kernel_rfl) (o2.app (.c h3 (.c h3 (.c h3 (.c h3 (.c (rfl : false = false) (.c (rfl : false = false) (.c (rfl : false = false) .nil)))))))))))

def spec_JointNamed_L1_head (v_name : ByteArray) (v_t8 : (List TJoint)) (v_t9 : Int) (v_t10 : Int) : S := mkS [(1, .s v_name), (8, .isl 4 (v_t8.map eTJoint)), (9, .n .i64 v_t9), (10, .n .i64 v_t10)] []

def spec_JointNamed_L1_ex : ((Unit) ⊕ (Int)) → Exit
  | .inl _ => .exit 0
  | .inr _ => .ret

def spec_JointNamed_L1_out (v_name : ByteArray) (v_t8 : (List TJoint)) (v_t9 : Int) : ((Unit) ⊕ (Int)) → S
  | .inl a => mkS [] []
  | .inr a => mkS [(4, .n .i64 a)] []

abbrev spec_JointNamed_L1_V := VEx PP 21 0 (nodeAt (bodyOf PP 72) [1, 0, 1, 0, 0])

def spec_JointNamed_L1_body (v_name : ByteArray) (v_t8 : (List TJoint)) (v_t9 : Int) (v_t10 : Int) : Option ((Int) ⊕ ((Unit) ⊕ (Int))) :=
  if (decide (v_t10 < v_t9)) = true then
    if 0 ≤ v_t10 ∧ v_t10 < v_t8.length then
    v_t8[v_t10.toNat]? >>= fun x3 =>
    if (x3.fName.toList == v_name.toList) = true then
      some (.inr (.inr v_t10))
    else
      some (.inl (w64 (v_t10 + (1 : Int))))
    else none
  else
    some (.inr (.inl ()))

def spec_JointNamed_L1 (v_name : ByteArray) (v_t8 : (List TJoint)) (v_t9 : Int) (v_t10 : Int) : Option ((Unit) ⊕ (Int)) := iter (fun w : Int => spec_JointNamed_L1_body v_name v_t8 v_t9 w) v_t10

theorem spec_JointNamed_L1_body_ok (v_name : ByteArray) (v_t8 : (List TJoint)) (v_t9 : Int) (v_t10 : Int) : Wp (spec_JointNamed_L1_body v_name v_t8 v_t9 v_t10) (Sum.elim
    (fun w => spec_JointNamed_L1_V .normal (spec_JointNamed_L1_head v_name v_t8 v_t9 v_t10) (spec_JointNamed_L1_head v_name v_t8 v_t9 w))
    (fun r => spec_JointNamed_L1_V (spec_JointNamed_L1_ex r) (spec_JointNamed_L1_head v_name v_t8 v_t9 v_t10) (spec_JointNamed_L1_out v_name v_t8 v_t9 r))) := by
  unfold spec_JointNamed_L1_body
  exact .ite (fun h1 =>
    .grd fun h2 =>
    .bnd fun x3 h4 =>
    (let t1 : List TE := [.reg [nt], .br true, .reg [nt, nt, (.el (eTJoint x3), true), nt, nt, nt], .reg [nt, nt, nt, nt]];
    have o2 := ((.c h1 (.c ((h2).1) (.c (lt_mapI (h2).2 : v_t10 < ((v_t8.map eTJoint).length : Nat)) (.c (map_get h4 : (v_t8.map eTJoint)[v_t10.toNat]? = some (eTJoint x3)) .nil)))) : AllP _);
    .ite (fun h5 =>
    .ret ((okC_sound hmix (tape := t1 ++ ([.br true, .reg [nt, nt], .rst [] [] [(4, ii)]] : List TE)) (nr := 0) (by kernel_rfl) (o2.app (.c h5 .nil)) (mkS_free _ _) : spec_JointNamed_L1_V (.ret) (spec_JointNamed_L1_head v_name v_t8 v_t9 v_t10) (spec_JointNamed_L1_out v_name v_t8 v_t9 (.inr v_t10)))))
    (fun h5 =>
    .ret ((okC_sound hmix (tape := t1 ++ ([.br false, .reg [nt, nt], .rst [] [] [(1, ii), (8, ii), (9, ii), (10, ii)]] : List TE)) (nr := 0) (by kernel_rfl) (o2.app (.c h5 .nil)) (mkS_free _ _) : spec_JointNamed_L1_V .normal (spec_JointNamed_L1_head v_name v_t8 v_t9 v_t10) (spec_JointNamed_L1_head v_name v_t8 v_t9 (w64 (v_t10 + (1 : Int)))))))))
    (fun h1 =>
    .ret ((okC_sound hmix (tape := [.reg [nt], .br false, .rst [] [] []]) (nr := 0) (by kernel_rfl) (.c h1 .nil) (mkS_free _ _) : spec_JointNamed_L1_V (.exit 0) (spec_JointNamed_L1_head v_name v_t8 v_t9 v_t10) (spec_JointNamed_L1_out v_name v_t8 v_t9 (.inl ())))))

theorem spec_JointNamed_L1_ok (v_name : ByteArray) (v_t8 : (List TJoint)) (v_t9 : Int) (v_t10 : Int) : ∀ r, spec_JointNamed_L1 v_name v_t8 v_t9 v_t10 = some r → VLoop PP 21 0 (nodeAt (bodyOf PP 72) [1, 0, 1, 0, 0]) (spec_JointNamed_L1_ex r) (spec_JointNamed_L1_head v_name v_t8 v_t9 v_t10) (spec_JointNamed_L1_out v_name v_t8 v_t9 r) := fun r h =>
  iter_ok (head := fun w : Int => spec_JointNamed_L1_head v_name v_t8 v_t9 w) (ex := spec_JointNamed_L1_ex) (out := spec_JointNamed_L1_out v_name v_t8 v_t9) (by intro r; unfold spec_JointNamed_L1_ex; split <;> simp) (fun w => spec_JointNamed_L1_body_ok v_name v_t8 v_t9 w) v_t10 r h

def spec_JointNamed (v_s : TStructure) (v_name : ByteArray) : Option Int :=
  spec_JointNamed_L1 v_name v_s.fJoints (len_ eTJoint v_s.fJoints) 0 >>= fun r1 =>
  match r1 with
  | .inl a3 => (some (-1))
  | .inr a3 => (some a3)

theorem spec_JointNamed_ok (v_s : TStructure) (v_name : ByteArray) : Wp (spec_JointNamed v_s v_name) (fun r => Con PP 72 [.agg [.isl 4 (v_s.fJoints.map eTJoint), .isl 3 (v_s.fMembers.map eTMember)], .s v_name] [] (.n .i64 r) []) := by
  unfold spec_JointNamed
  exact .bnd fun r1 h2 =>
    (let t1 : List TE := [.reg [nt, nt], .reg [nt, nt, nt, nt]];
    (by
    rcases r1 with a3 | a3
    · exact (.ret (runF_con0 hmix (tape := t1 ++ ([.rst [] [] [(1, ii), (8, ii), (9, ii), (10, ii)], .sub (.exit 0) [] [], .reg [nt]] : List TE)) (rr := ii) (by kernel_rfl) (.c ((spec_JointNamed_L1_ok v_name v_s.fJoints (len_ eTJoint v_s.fJoints) 0 (.inl a3) h2).vex) .nil)))
    · exact (.ret (runF_con0 hmix (tape := t1 ++ ([.rst [] [] [(1, ii), (8, ii), (9, ii), (10, ii)], .sub (.ret) [(4, .n .i64 a3)] []] : List TE)) (rr := ii) (by kernel_rfl) (.c ((spec_JointNamed_L1_ok v_name v_s.fJoints (len_ eTJoint v_s.fJoints) 0 (.inr a3) h2).vex) .nil)))))

def spec_StructureOk_L1_head (v_t21 : (List TJoint)) (v_t22 : Int) (box0_' : (List TMember)) (v_t23 : Int) : S := mkS [(1, .ref 0 0 0 0), (21, .isl 4 (v_t21.map eTJoint)), (22, .n .i64 v_t22), (23, .n .i64 v_t23)] [[Ob.mk 2 [[.isl 4 (v_t21.map eTJoint), .isl 3 (box0_'.map eTMember)]] .live]]

def spec_StructureOk_L1_ex : ((Unit) ⊕ (Unit)) → Exit
  | .inl _ => .exit 0
  | .inr _ => .ret

def spec_StructureOk_L1_out (v_t21 : (List TJoint)) (v_t22 : Int) (box0_' : (List TMember)) : ((Unit) ⊕ (Unit)) → S
  | .inl a => mkS [(1, .ref 0 0 0 0)] [[Ob.mk 2 [[.isl 4 (v_t21.map eTJoint), .isl 3 (box0_'.map eTMember)]] .live]]
  | .inr a => mkS [(2, .b false)] []

abbrev spec_StructureOk_L1_V := VEx PP 102 0 (nodeAt (bodyOf PP 54) [1, 1, 0, 1, 0, 0])

def spec_StructureOk_L1_body (v_t21 : (List TJoint)) (v_t22 : Int) (box0_' : (List TMember)) (v_t23 : Int) : Option ((Int) ⊕ ((Unit) ⊕ (Unit))) :=
  if (decide (v_t23 < v_t22)) = true then
    if 0 ≤ v_t23 ∧ v_t23 < v_t21.length then
    v_t21[v_t23.toNat]? >>= fun x3 =>
    spec_JointOk x3 >>= fun r5 =>
    if r5 = true then
      spec_JointNamed (⟨v_t21, box0_'⟩ : TStructure) x3.fName >>= fun r8 =>
      if (r8 != v_t23) = true then
        some (.inr (.inr ()))
      else
        some (.inl (w64 (v_t23 + (1 : Int))))
    else
      some (.inr (.inr ()))
    else none
  else
    some (.inr (.inl ()))

def spec_StructureOk_L1 (v_t21 : (List TJoint)) (v_t22 : Int) (box0_' : (List TMember)) (v_t23 : Int) : Option ((Unit) ⊕ (Unit)) := iter (fun w : Int => spec_StructureOk_L1_body v_t21 v_t22 box0_' w) v_t23

theorem spec_StructureOk_L1_body_ok (v_t21 : (List TJoint)) (v_t22 : Int) (box0_' : (List TMember)) (v_t23 : Int) : Wp (spec_StructureOk_L1_body v_t21 v_t22 box0_' v_t23) (Sum.elim
    (fun w => spec_StructureOk_L1_V .normal (spec_StructureOk_L1_head v_t21 v_t22 box0_' v_t23) (spec_StructureOk_L1_head v_t21 v_t22 box0_' w))
    (fun r => spec_StructureOk_L1_V (spec_StructureOk_L1_ex r) (spec_StructureOk_L1_head v_t21 v_t22 box0_' v_t23) (spec_StructureOk_L1_out v_t21 v_t22 box0_' r))) := by
  unfold spec_StructureOk_L1_body
  exact .ite (fun h1 =>
    .grd fun h2 =>
    .bnd fun x3 h4 =>
    .bnd fun r5 h6 =>
    (let t1 : List TE := [.reg [nt], .br true, .reg [nt, nt, (.el (eTJoint x3), true), nt, nt, nt]];
    have o2 := ((.c h1 (.c ((h2).1) (.c (lt_mapI (h2).2 : v_t23 < ((v_t21.map eTJoint).length : Nat)) (.c (map_get h4 : (v_t21.map eTJoint)[v_t23.toNat]? = some (eTJoint x3)) (.c (spec_JointOk_ok x3 r5 h6) (.c (Sc.b _ : Sc (.b r5)) .nil)))))) : AllP _);
    .ite (fun h7 =>
    .bnd fun r8 h9 =>
    (let t3 : List TE := t1 ++ ([.reg [nt, (.call { ac := [ii], r := .b r5, sc := true }, true), nt, nt, nt, nt, nt, (.call { ac := [ii, ii], r := .n .i64 r8, sc := true }, true), nt, nt, (.br false, true)]] : List TE);
    have o4 := o2.app (.c (not_t h7) (.c (not_t h7) (.c (not_t h7) (.c (not_t h7) (.c (spec_JointNamed_ok (⟨v_t21, box0_'⟩ : TStructure) x3.fName r8 h9) (.c (Sc.n _ _ : Sc (.n .i64 r8)) (.c (not_t h7) (.c (not_t h7) (.c (not_t h7) .nil)))))))));
    .ite (fun h10 =>
    .ret ((okC_sound hmix (tape := t3 ++ ([.br true, .reg [nt], .rst [] [] [(2, ii)]] : List TE)) (nr := 1) (by kernel_rfl) (o4.app (.c h10 .nil)) (mkS_free _ _) : spec_StructureOk_L1_V (.ret) (spec_StructureOk_L1_head v_t21 v_t22 box0_' v_t23) (spec_StructureOk_L1_out v_t21 v_t22 box0_' (.inr ())))))
    (fun h10 =>
    .ret ((okC_sound hmix (tape := t3 ++ ([.br false, .reg [nt, nt], .rst [0] [.box [.id, .id]] [(1, ii), (21, ii), (22, ii), (23, ii)]] : List TE)) (nr := 1) (by kernel_rfl) (o4.app (.c h10 .nil)) (mkS_free _ _) : spec_StructureOk_L1_V .normal (spec_StructureOk_L1_head v_t21 v_t22 box0_' v_t23) (spec_StructureOk_L1_head v_t21 v_t22 box0_' (w64 (v_t23 + (1 : Int)))))))))
    (fun h7 =>
    .ret ((okC_sound hmix (tape := t1 ++ ([.reg [nt, (.call { ac := [ii], r := .b r5, sc := true }, true), nt, nt, nf, nf, nf, nf, nf, nf, (.br true, true)], .br true, .reg [nt], .rst [] [] [(2, ii)]] : List TE)) (nr := 1) (by kernel_rfl) (o2.app (.c (not_f h7) (.c (not_f h7) (.c (not_f h7) (.c (not_f h7) (.c (not_f h7) (.c (not_f h7) (.c (not_f h7) (.c (rfl : true = true) .nil))))))))) (mkS_free _ _) : spec_StructureOk_L1_V (.ret) (spec_StructureOk_L1_head v_t21 v_t22 box0_' v_t23) (spec_StructureOk_L1_out v_t21 v_t22 box0_' (.inr ())))))))
    (fun h1 =>
    .ret ((okC_sound hmix (tape := [.reg [nt], .br false, .rst [0] [.box [.id, .id]] [(1, ii)]]) (nr := 1) (by kernel_rfl) (.c h1 .nil) (mkS_free _ _) : spec_StructureOk_L1_V (.exit 0) (spec_StructureOk_L1_head v_t21 v_t22 box0_' v_t23) (spec_StructureOk_L1_out v_t21 v_t22 box0_' (.inl ())))))

theorem spec_StructureOk_L1_ok (v_t21 : (List TJoint)) (v_t22 : Int) (box0_' : (List TMember)) (v_t23 : Int) : ∀ r, spec_StructureOk_L1 v_t21 v_t22 box0_' v_t23 = some r → VLoop PP 102 0 (nodeAt (bodyOf PP 54) [1, 1, 0, 1, 0, 0]) (spec_StructureOk_L1_ex r) (spec_StructureOk_L1_head v_t21 v_t22 box0_' v_t23) (spec_StructureOk_L1_out v_t21 v_t22 box0_' r) := fun r h =>
  iter_ok (head := fun w : Int => spec_StructureOk_L1_head v_t21 v_t22 box0_' w) (ex := spec_StructureOk_L1_ex) (out := spec_StructureOk_L1_out v_t21 v_t22 box0_') (by intro r; unfold spec_StructureOk_L1_ex; split <;> simp) (fun w => spec_StructureOk_L1_body_ok v_t21 v_t22 box0_' w) v_t23 r h

def spec_StructureOk_L2_head (v_last : Int) (v_t45 : (List TMember)) (v_t46 : Int) (box0_ : (List TJoint)) (v_t47 : Int) : S := mkS [(1, .ref 0 0 0 0), (5, .n .i64 v_last), (45, .isl 3 (v_t45.map eTMember)), (46, .n .i64 v_t46), (47, .n .i64 v_t47)] [[Ob.mk 2 [[.isl 4 (box0_.map eTJoint), .isl 3 (v_t45.map eTMember)]] .live]]

def spec_StructureOk_L2_ex : ((Unit) ⊕ (Unit)) → Exit
  | .inl _ => .exit 2
  | .inr _ => .ret

def spec_StructureOk_L2_out (v_last : Int) (v_t45 : (List TMember)) (v_t46 : Int) (box0_ : (List TJoint)) : ((Unit) ⊕ (Unit)) → S
  | .inl a => mkS [] []
  | .inr a => mkS [(2, .b false)] []

abbrev spec_StructureOk_L2_V := VEx PP 102 0 (nodeAt (bodyOf PP 54) [1, 1, 1, 1, 0, 1, 0, 0])

def spec_StructureOk_L2_body (v_last : Int) (v_t45 : (List TMember)) (v_t46 : Int) (box0_ : (List TJoint)) (v_t47 : Int) : Option ((Int) ⊕ ((Unit) ⊕ (Unit))) :=
  if (decide (v_t47 < v_t46)) = true then
    if 0 ≤ v_t47 ∧ v_t47 < v_t45.length then
    v_t45[v_t47.toNat]? >>= fun x3 =>
    spec_l01In x3.fA 0 v_last >>= fun r5 =>
    if r5 = true then
      spec_l01In x3.fB 0 v_last >>= fun r8 =>
      if r8 = true then
        spec_l01In x3.fKind 1 3 >>= fun r11 =>
        if r11 = true then
          if 0 ≤ x3.fA ∧ x3.fA < box0_.length then
          box0_[x3.fA.toNat]? >>= fun x15 =>
          if 0 ≤ x3.fB ∧ x3.fB < box0_.length then
          box0_[x3.fB.toNat]? >>= fun x18 =>
          if (x15.fX == x18.fX) = true then
            if (x15.fY == x18.fY) = true then
              some (.inr (.inr ()))
            else
              if x15.fFixed = true then
                if x18.fFixed = true then
                  some (.inr (.inr ()))
                else
                  some (.inl (w64 (v_t47 + (1 : Int))))
              else
                some (.inl (w64 (v_t47 + (1 : Int))))
          else
            if x15.fFixed = true then
              if x18.fFixed = true then
                some (.inr (.inr ()))
              else
                some (.inl (w64 (v_t47 + (1 : Int))))
            else
              some (.inl (w64 (v_t47 + (1 : Int))))
          else none
          else none
        else
          some (.inr (.inr ()))
      else
        some (.inr (.inr ()))
    else
      some (.inr (.inr ()))
    else none
  else
    some (.inr (.inl ()))

def spec_StructureOk_L2 (v_last : Int) (v_t45 : (List TMember)) (v_t46 : Int) (box0_ : (List TJoint)) (v_t47 : Int) : Option ((Unit) ⊕ (Unit)) := iter (fun w : Int => spec_StructureOk_L2_body v_last v_t45 v_t46 box0_ w) v_t47

theorem spec_StructureOk_L2_body_ok (v_last : Int) (v_t45 : (List TMember)) (v_t46 : Int) (box0_ : (List TJoint)) (v_t47 : Int) : Wp (spec_StructureOk_L2_body v_last v_t45 v_t46 box0_ v_t47) (Sum.elim
    (fun w => spec_StructureOk_L2_V .normal (spec_StructureOk_L2_head v_last v_t45 v_t46 box0_ v_t47) (spec_StructureOk_L2_head v_last v_t45 v_t46 box0_ w))
    (fun r => spec_StructureOk_L2_V (spec_StructureOk_L2_ex r) (spec_StructureOk_L2_head v_last v_t45 v_t46 box0_ v_t47) (spec_StructureOk_L2_out v_last v_t45 v_t46 box0_ r))) := by
  unfold spec_StructureOk_L2_body
  exact .ite (fun h1 =>
    .grd fun h2 =>
    .bnd fun x3 h4 =>
    .bnd fun r5 h6 =>
    (let t1 : List TE := [.reg [nt], .br true, .reg [nt, (.el (eTMember x3), true), nt, nt]];
    have o2 := ((.c h1 (.c ((h2).1) (.c (lt_mapI (h2).2 : v_t47 < ((v_t45.map eTMember).length : Nat)) (.c (map_get h4 : (v_t45.map eTMember)[v_t47.toNat]? = some (eTMember x3)) (.c (spec_l01In_ok x3.fA 0 v_last r5 h6) (.c (Sc.b _ : Sc (.b r5)) .nil)))))) : AllP _);
    .ite (fun h7 =>
    .bnd fun r8 h9 =>
    (have o3 := o2.app (.c (not_t h7) (.c (not_t h7) (.c (not_t h7) (.c (not_t h7) (.c (spec_l01In_ok x3.fB 0 v_last r8 h9) (.c (Sc.b _ : Sc (.b r8)) (.c (not_t h7) (.c (not_t h7) .nil))))))));
    .ite (fun h10 =>
    .bnd fun r11 h12 =>
    (let t4 : List TE := t1 ++ ([.reg [nt, nt, nt, (.call { ac := [ii, ii, ii], r := .b r5, sc := true }, true), nt, nt, nt, nt, nt, (.call { ac := [ii, ii, ii], r := .b r8, sc := true }, true), nt, (.br false, true), nt, nt, nt, (.call { ac := [ii, ii, ii], r := .b r11, sc := true }, true), nt, (.br false, true)]] : List TE);
    have o5 := o3.app (.c (not_t h10) (.c (not_t h10) (.c (not_t h10) (.c (spec_l01In_ok x3.fKind 1 3 r11 h12) (.c (Sc.b _ : Sc (.b r11)) (.c (not_t h10) (.c (not_t h10) .nil)))))));
    .ite (fun h13 =>
    .grd fun h14 =>
    .bnd fun x15 h16 =>
    .grd fun h17 =>
    .bnd fun x18 h19 =>
    (let t6 : List TE := t4 ++ ([.br false, .reg [nt, nt, nt, nt, nt, (.el (eTJoint x15), true), nt, nt], .reg [nt, nt, nt, nt, nt, (.el (eTJoint x18), true), nt, nt]] : List TE);
    have o7 := o5.app (.c (not_t h13) (.c ((h14).1) (.c (lt_mapI (h14).2 : x3.fA < ((box0_.map eTJoint).length : Nat)) (.c (map_get h16 : (box0_.map eTJoint)[x3.fA.toNat]? = some (eTJoint x15)) (.c ((h17).1) (.c (lt_mapI (h17).2 : x3.fB < ((box0_.map eTJoint).length : Nat)) (.c (map_get h19 : (box0_.map eTJoint)[x3.fB.toNat]? = some (eTJoint x18)) .nil)))))));
    .ite (fun h20 =>
    .ite (fun h21 =>
    .ret ((okC_sound hmix (tape := t6 ++ ([.reg [nt, nt, nt, nt, nt, nt, nt, nt, nt, nt, nt, (.br true, true), nt, nf, nf, nf, nt, nt, nf, (.br true, true)], .br true, .reg [nt], .rst [] [] [(2, ii)]] : List TE)) (nr := 1) (by kernel_rfl) (o7.app (.c h20 (.c h20 (.c h20 (.c h20 (.c h20 (.c h20 (.c h21 (.c h21 (.c h21 (.c h21 (.c h21 (.c (rfl : true = true) .nil))))))))))))) (mkS_free _ _) : spec_StructureOk_L2_V (.ret) (spec_StructureOk_L2_head v_last v_t45 v_t46 box0_ v_t47) (spec_StructureOk_L2_out v_last v_t45 v_t46 box0_ (.inr ())))))
    (fun h21 =>
    (have o8 := o7.app (.c h20 (.c h20 (.c h20 (.c h20 (.c h20 (.c h20 (.c h21 (.c h21 (.c h21 .nil)))))))));
    .ite (fun h22 =>
    (let t9 : List TE := t6 ++ ([.reg [nt, nt, nt, nt, nt, nt, nt, nt, nt, nt, nt, (.br true, true), nt, nt, nt, nt, nt, nt, (.br true, true), (.br false, true)]] : List TE);
    .ite (fun h23 =>
    .ret ((okC_sound hmix (tape := t9 ++ ([.br true, .reg [nt], .rst [] [] [(2, ii)]] : List TE)) (nr := 1) (by kernel_rfl) (o8.app (.c h22 (.c h22 (.c h21 (.c h22 (.c h21 (.c h23 .nil))))))) (mkS_free _ _) : spec_StructureOk_L2_V (.ret) (spec_StructureOk_L2_head v_last v_t45 v_t46 box0_ v_t47) (spec_StructureOk_L2_out v_last v_t45 v_t46 box0_ (.inr ())))))
    (fun h23 =>
    .ret ((okC_sound hmix (tape := t9 ++ ([.br false, .reg [nt, nt], .rst [0] [.box [.id, .id]] [(1, ii), (5, ii), (45, ii), (46, ii), (47, ii)]] : List TE)) (nr := 1) (by kernel_rfl) (o8.app (.c h22 (.c h22 (.c h21 (.c h22 (.c h21 (.c h23 .nil))))))) (mkS_free _ _) : spec_StructureOk_L2_V .normal (spec_StructureOk_L2_head v_last v_t45 v_t46 box0_ v_t47) (spec_StructureOk_L2_head v_last v_t45 v_t46 box0_ (w64 (v_t47 + (1 : Int)))))))))
    (fun h22 =>
    .ret ((okC_sound hmix (tape := t6 ++ ([.reg [nt, nt, nt, nt, nt, nt, nt, nt, nt, nt, nt, (.br true, true), nt, nt, nt, nt, nf, nf, (.br false, true), (.br false, true)], .br false, .reg [nt, nt], .rst [0] [.box [.id, .id]] [(1, ii), (5, ii), (45, ii), (46, ii), (47, ii)]] : List TE)) (nr := 1) (by kernel_rfl) (o8.app (.c h22 (.c h22 (.c h21 (.c h22 (.c h21 (.c (rfl : false = false) .nil))))))) (mkS_free _ _) : spec_StructureOk_L2_V .normal (spec_StructureOk_L2_head v_last v_t45 v_t46 box0_ v_t47) (spec_StructureOk_L2_head v_last v_t45 v_t46 box0_ (w64 (v_t47 + (1 : Int))))))))))
    (fun h20 =>
    (have o8 := o7.app (.c h20 (.c h20 (.c h20 (.c h20 (.c h20 (.c h20 (.c (rfl : false = false) (.c (rfl : false = false) (.c (rfl : false = false) .nil)))))))));
    .ite (fun h21 =>
    (let t9 : List TE := t6 ++ ([.reg [nt, nt, nt, nt, nt, nt, nf, nf, nf, nf, nf, (.br false, true), nt, nt, nt, nt, nt, nt, (.br true, true), nt]] : List TE);
    have o10 := o8.app (.c h21 (.c h21 (.c (rfl : false = false) (.c h21 .nil))));
    .ite (fun h22 =>
    .ret ((okC_sound hmix (tape := t9 ++ ([.br true, .reg [nt], .rst [] [] [(2, ii)]] : List TE)) (nr := 1) (by kernel_rfl) (o10.app (.c h22 .nil)) (mkS_free _ _) : spec_StructureOk_L2_V (.ret) (spec_StructureOk_L2_head v_last v_t45 v_t46 box0_ v_t47) (spec_StructureOk_L2_out v_last v_t45 v_t46 box0_ (.inr ())))))
    (fun h22 =>
    .ret ((okC_sound hmix (tape := t9 ++ ([.br false, .reg [nt, nt], .rst [0] [.box [.id, .id]] [(1, ii), (5, ii), (45, ii), (46, ii), (47, ii)]] : List TE)) (nr := 1) (by kernel_rfl) (o10.app (.c h22 .nil)) (mkS_free _ _) : spec_StructureOk_L2_V .normal (spec_StructureOk_L2_head v_last v_t45 v_t46 box0_ v_t47) (spec_StructureOk_L2_head v_last v_t45 v_t46 box0_ (w64 (v_t47 + (1 : Int)))))))))
    (fun h21 =>
    .ret ((okC_sound hmix (tape := t6 ++ ([.reg [nt, nt, nt, nt, nt, nt, nf, nf, nf, nf, nf, (.br false, true), nt, nt, nt, nt, nf, nf, (.br false, true), nt], .br false, .reg [nt, nt], .rst [0] [.box [.id, .id]] [(1, ii), (5, ii), (45, ii), (46, ii), (47, ii)]] : List TE)) (nr := 1) (by kernel_rfl) (o8.app (.c h21 (.c h21 (.c (rfl : false = false) (.c h21 (.c (rfl : false = false) .nil)))))) (mkS_free _ _) : spec_StructureOk_L2_V .normal (spec_StructureOk_L2_head v_last v_t45 v_t46 box0_ v_t47) (spec_StructureOk_L2_head v_last v_t45 v_t46 box0_ (w64 (v_t47 + (1 : Int)))))))))))
    (fun h13 =>
    .ret ((okC_sound hmix (tape := t4 ++ ([.br true, .reg [nt], .rst [] [] [(2, ii)]] : List TE)) (nr := 1) (by kernel_rfl) (o5.app (.c (not_f h13) .nil)) (mkS_free _ _) : spec_StructureOk_L2_V (.ret) (spec_StructureOk_L2_head v_last v_t45 v_t46 box0_ v_t47) (spec_StructureOk_L2_out v_last v_t45 v_t46 box0_ (.inr ())))))))
    (fun h10 =>
    .ret ((okC_sound hmix (tape := t1 ++ ([.reg [nt, nt, nt, (.call { ac := [ii, ii, ii], r := .b r5, sc := true }, true), nt, nt, nt, nt, nt, (.call { ac := [ii, ii, ii], r := .b r8, sc := true }, true), nt, (.br false, true), nt, nf, nf, nf, nf, (.br true, true)], .br true, .reg [nt], .rst [] [] [(2, ii)]] : List TE)) (nr := 1) (by kernel_rfl) (o3.app (.c (not_f h10) (.c (not_f h10) (.c (not_f h10) (.c (not_f h10) (.c (not_f h10) (.c (rfl : true = true) .nil))))))) (mkS_free _ _) : spec_StructureOk_L2_V (.ret) (spec_StructureOk_L2_head v_last v_t45 v_t46 box0_ v_t47) (spec_StructureOk_L2_out v_last v_t45 v_t46 box0_ (.inr ())))))))
    (fun h7 =>
    .ret ((okC_sound hmix (tape := t1 ++ ([.reg [nt, nt, nt, (.call { ac := [ii, ii, ii], r := .b r5, sc := true }, true), nt, nt, nf, nf, nf, nf, nf, (.br true, true), nt, nf, nf, nf, nf, nt], .br true, .reg [nt], .rst [] [] [(2, ii)]] : List TE)) (nr := 1) (by kernel_rfl) (o2.app (.c (not_f h7) (.c (not_f h7) (.c (not_f h7) (.c (not_f h7) (.c (not_f h7) (.c (not_f h7) (.c (rfl : true = true) (.c (rfl : true = true) (.c (rfl : true = true) (.c (rfl : true = true) (.c (rfl : true = true) .nil)))))))))))) (mkS_free _ _) : spec_StructureOk_L2_V (.ret) (spec_StructureOk_L2_head v_last v_t45 v_t46 box0_ v_t47) (spec_StructureOk_L2_out v_last v_t45 v_t46 box0_ (.inr ())))))))
    (fun h1 =>
    .ret ((okC_sound hmix (tape := [.reg [nt], .br false, .rst [] [] []]) (nr := 1) (by kernel_rfl) (.c h1 .nil) (mkS_free _ _) : spec_StructureOk_L2_V (.exit 2) (spec_StructureOk_L2_head v_last v_t45 v_t46 box0_ v_t47) (spec_StructureOk_L2_out v_last v_t45 v_t46 box0_ (.inl ())))))

theorem spec_StructureOk_L2_ok (v_last : Int) (v_t45 : (List TMember)) (v_t46 : Int) (box0_ : (List TJoint)) (v_t47 : Int) : ∀ r, spec_StructureOk_L2 v_last v_t45 v_t46 box0_ v_t47 = some r → VLoop PP 102 0 (nodeAt (bodyOf PP 54) [1, 1, 1, 1, 0, 1, 0, 0]) (spec_StructureOk_L2_ex r) (spec_StructureOk_L2_head v_last v_t45 v_t46 box0_ v_t47) (spec_StructureOk_L2_out v_last v_t45 v_t46 box0_ r) := fun r h =>
  iter_ok (head := fun w : Int => spec_StructureOk_L2_head v_last v_t45 v_t46 box0_ w) (ex := spec_StructureOk_L2_ex) (out := spec_StructureOk_L2_out v_last v_t45 v_t46 box0_) (by intro r; unfold spec_StructureOk_L2_ex; split <;> simp) (fun w => spec_StructureOk_L2_body_ok v_last v_t45 v_t46 box0_ w) v_t47 r h

def spec_StructureOk (v_s : TStructure) : Option Bool :=
  if (decide ((6 : Int) < (len_ eTJoint v_s.fJoints))) = true then
    some false
  else
    if (decide ((8 : Int) < (len_ eTMember v_s.fMembers))) = true then
      some false
    else
      spec_StructureOk_L1 v_s.fJoints (len_ eTJoint v_s.fJoints) v_s.fMembers 0 >>= fun r3 =>
      match r3 with
      | .inl a5 => (spec_StructureOk_L2 (w64 ((len_ eTJoint v_s.fJoints) - (1 : Int))) v_s.fMembers (len_ eTMember v_s.fMembers) v_s.fJoints 0 >>= fun r6 =>
        match r6 with
        | .inl a8 => (some true)
        | .inr a8 => (some false))
      | .inr a5 => (some false)

theorem spec_StructureOk_ok (v_s : TStructure) : Wp (spec_StructureOk v_s) (fun r => Con PP 54 [.agg [.isl 4 (v_s.fJoints.map eTJoint), .isl 3 (v_s.fMembers.map eTMember)]] [] (.b r) []) := by
  unfold spec_StructureOk
  exact (let t1 : List TE := [.reg [nt, nt]];
    .ite (fun h1 =>
    .ret (runF_con0 hmix (tape := t1 ++ ([.reg [nt, nt, nt, nt, nt, nf, nf, nf, nf, (.br true, true)], .br true, .reg [nt]] : List TE)) (rr := ii) (by kernel_rfl) (.c h1 (.c h1 (.c h1 (.c h1 (.c h1 (.c (rfl : true = true) .nil))))))))
    (fun h1 =>
    (let t2 : List TE := t1 ++ ([.reg [nt, nt, nt, nt, nt, nt, nt, nt, nt, (.br false, true)]] : List TE);
    .ite (fun h2 =>
    .ret (runF_con0 hmix (tape := t2 ++ ([.br true, .reg [nt]] : List TE)) (rr := ii) (by kernel_rfl) (.c h1 (.c h1 (.c h1 (.c h1 (.c h1 (.c h2 .nil))))))))
    (fun h2 =>
    .bnd fun r3 h4 =>
    (let t3 : List TE := t2 ++ ([.br false, .reg [nt, nt, nt, nt]] : List TE);
    (by
    rcases r3 with a5 | a5
    · exact (.bnd fun r6 h7 =>
    (let t4 : List TE := t3 ++ ([.rst [0] [.box [.id, .id]] [(1, ii), (21, ii), (22, ii), (23, ii)], .sub (.exit 0) [(1, .ref 0 0 0 0)] [[Ob.mk 2 [[.isl 4 (v_s.fJoints.map eTJoint), .isl 3 (v_s.fMembers.map eTMember)]] .live]], .reg [nt, nt, nt, nt, nt], .reg [nt, nt, nt, nt]] : List TE);
    have o5 := ((.c h1 (.c h1 (.c h1 (.c h1 (.c h1 (.c h2 (.c ((spec_StructureOk_L1_ok v_s.fJoints (len_ eTJoint v_s.fJoints) v_s.fMembers 0 (.inl a5) h4).vex) .nil))))))) : AllP _);
    (by
    rcases r6 with a8 | a8
    · exact (.ret (runF_con0 hmix (tape := t4 ++ ([.rst [0] [.box [.id, .id]] [(1, ii), (5, ii), (45, ii), (46, ii), (47, ii)], .sub (.exit 2) [] [], .reg [nt]] : List TE)) (rr := ii) (by kernel_rfl) (o5.app (.c ((spec_StructureOk_L2_ok (w64 ((len_ eTJoint v_s.fJoints) - (1 : Int))) v_s.fMembers (len_ eTMember v_s.fMembers) v_s.fJoints 0 (.inl a8) h7).vex) .nil))))
    · exact (.ret (runF_con0 hmix (tape := t4 ++ ([.rst [0] [.box [.id, .id]] [(1, ii), (5, ii), (45, ii), (46, ii), (47, ii)], .sub (.ret) [(2, .b false)] []] : List TE)) (rr := ii) (by kernel_rfl) (o5.app (.c ((spec_StructureOk_L2_ok (w64 ((len_ eTJoint v_s.fJoints) - (1 : Int))) v_s.fMembers (len_ eTMember v_s.fMembers) v_s.fJoints 0 (.inr a8) h7).vex) .nil)))))))
    · exact (.ret (runF_con0 hmix (tape := t3 ++ ([.rst [0] [.box [.id, .id]] [(1, ii), (21, ii), (22, ii), (23, ii)], .sub (.ret) [(2, .b false)] []] : List TE)) (rr := ii) (by kernel_rfl) (.c h1 (.c h1 (.c h1 (.c h1 (.c h1 (.c h2 (.c ((spec_StructureOk_L1_ok v_s.fJoints (len_ eTJoint v_s.fJoints) v_s.fMembers 0 (.inr a5) h4).vex) .nil)))))))))))))))

def spec_NatOk_L1_head (v_a : (List Int)) (v_t6 : Int) (v_t7 : Int) : S := mkS [(0, .isl 1 (v_a.map eI)), (5, .isl 1 (v_a.map eI)), (6, .n .i64 v_t6), (7, .n .i64 v_t7)] []

def spec_NatOk_L1_ex : ((Unit) ⊕ (Unit)) → Exit
  | .inl _ => .exit 0
  | .inr _ => .ret

def spec_NatOk_L1_out (v_a : (List Int)) (v_t6 : Int) : ((Unit) ⊕ (Unit)) → S
  | .inl a => mkS [(0, .isl 1 (v_a.map eI))] []
  | .inr a => mkS [(2, .b false)] []

abbrev spec_NatOk_L1_V := VEx PP 32 0 (nodeAt (bodyOf PP 76) [1, 0, 1, 0, 0])

def spec_NatOk_L1_body (v_a : (List Int)) (v_t6 : Int) (v_t7 : Int) : Option ((Int) ⊕ ((Unit) ⊕ (Unit))) :=
  if (decide (v_t7 < v_t6)) = true then
    if 0 ≤ v_t7 ∧ v_t7 < v_a.length then
    v_a[v_t7.toNat]? >>= fun x3 =>
    spec_l01In x3 0 999999999 >>= fun r5 =>
    if r5 = true then
      some (.inl (w64 (v_t7 + (1 : Int))))
    else
      some (.inr (.inr ()))
    else none
  else
    some (.inr (.inl ()))

def spec_NatOk_L1 (v_a : (List Int)) (v_t6 : Int) (v_t7 : Int) : Option ((Unit) ⊕ (Unit)) := iter (fun w : Int => spec_NatOk_L1_body v_a v_t6 w) v_t7

theorem spec_NatOk_L1_body_ok (v_a : (List Int)) (v_t6 : Int) (v_t7 : Int) : Wp (spec_NatOk_L1_body v_a v_t6 v_t7) (Sum.elim
    (fun w => spec_NatOk_L1_V .normal (spec_NatOk_L1_head v_a v_t6 v_t7) (spec_NatOk_L1_head v_a v_t6 w))
    (fun r => spec_NatOk_L1_V (spec_NatOk_L1_ex r) (spec_NatOk_L1_head v_a v_t6 v_t7) (spec_NatOk_L1_out v_a v_t6 r))) := by
  unfold spec_NatOk_L1_body
  exact .ite (fun h1 =>
    .grd fun h2 =>
    .bnd fun x3 h4 =>
    .bnd fun r5 h6 =>
    (let t1 : List TE := [.reg [nt], .br true, .reg [nt, (.el (eI x3), true), nt], .reg [nt, (.call { ac := [ii, ii, ii], r := .b r5, sc := true }, true), nt]];
    have o2 := ((.c h1 (.c ((h2).1) (.c (lt_mapI (h2).2 : v_t7 < ((v_a.map eI).length : Nat)) (.c (map_get h4 : (v_a.map eI)[v_t7.toNat]? = some (eI x3)) (.c (spec_l01In_ok x3 0 999999999 r5 h6) (.c (Sc.b _ : Sc (.b r5)) .nil)))))) : AllP _);
    .ite (fun h7 =>
    .ret ((okC_sound hmix (tape := t1 ++ ([.br false, .reg [nt, nt], .rst [] [] [(0, ii), (5, ii), (6, ii), (7, ii)]] : List TE)) (nr := 0) (by kernel_rfl) (o2.app (.c (not_t h7) .nil)) (mkS_free _ _) : spec_NatOk_L1_V .normal (spec_NatOk_L1_head v_a v_t6 v_t7) (spec_NatOk_L1_head v_a v_t6 (w64 (v_t7 + (1 : Int)))))))
    (fun h7 =>
    .ret ((okC_sound hmix (tape := t1 ++ ([.br true, .reg [nt], .rst [] [] [(2, ii)]] : List TE)) (nr := 0) (by kernel_rfl) (o2.app (.c (not_f h7) .nil)) (mkS_free _ _) : spec_NatOk_L1_V (.ret) (spec_NatOk_L1_head v_a v_t6 v_t7) (spec_NatOk_L1_out v_a v_t6 (.inr ())))))))
    (fun h1 =>
    .ret ((okC_sound hmix (tape := [.reg [nt], .br false, .rst [] [] [(0, ii)]]) (nr := 0) (by kernel_rfl) (.c h1 .nil) (mkS_free _ _) : spec_NatOk_L1_V (.exit 0) (spec_NatOk_L1_head v_a v_t6 v_t7) (spec_NatOk_L1_out v_a v_t6 (.inl ())))))

theorem spec_NatOk_L1_ok (v_a : (List Int)) (v_t6 : Int) (v_t7 : Int) : ∀ r, spec_NatOk_L1 v_a v_t6 v_t7 = some r → VLoop PP 32 0 (nodeAt (bodyOf PP 76) [1, 0, 1, 0, 0]) (spec_NatOk_L1_ex r) (spec_NatOk_L1_head v_a v_t6 v_t7) (spec_NatOk_L1_out v_a v_t6 r) := fun r h =>
  iter_ok (head := fun w : Int => spec_NatOk_L1_head v_a v_t6 w) (ex := spec_NatOk_L1_ex) (out := spec_NatOk_L1_out v_a v_t6) (by intro r; unfold spec_NatOk_L1_ex; split <;> simp) (fun w => spec_NatOk_L1_body_ok v_a v_t6 w) v_t7 r h

def spec_NatOk (v_a : (List Int)) : Option Bool :=
  spec_NatOk_L1 v_a (len_ eI v_a) 0 >>= fun r1 =>
  match r1 with
  | .inl a3 => (if (decide ((len_ eI v_a) ≤ (60 : Int))) = true then
      if ((len_ eI v_a) == (0 : Int)) = true then
        some true
      else
        if 0 ≤ (w64 ((len_ eI v_a) - (1 : Int))) ∧ (w64 ((len_ eI v_a) - (1 : Int))) < v_a.length then
        v_a[(w64 ((len_ eI v_a) - (1 : Int))).toNat]? >>= fun x7 =>
        some (x7 != (0 : Int))
        else none
    else
      some false)
  | .inr a3 => (some false)

theorem spec_NatOk_ok (v_a : (List Int)) : Wp (spec_NatOk v_a) (fun r => Con PP 76 [.isl 1 (v_a.map eI)] [] (.b r) []) := by
  unfold spec_NatOk
  exact .bnd fun r1 h2 =>
    (let t1 : List TE := [.reg [nt], .reg [nt, nt, nt]];
    (by
    rcases r1 with a3 | a3
    · exact ((let t2 : List TE := t1 ++ ([.rst [] [] [(0, ii), (5, ii), (6, ii), (7, ii)], .sub (.exit 0) [(0, .isl 1 (v_a.map eI))] []] : List TE);
    have o3 := ((.c ((spec_NatOk_L1_ok v_a (len_ eI v_a) 0 (.inl a3) h2).vex) .nil) : AllP _);
    .ite (fun h4 =>
    .ite (fun h5 =>
    .ret (runF_con0 hmix (tape := t2 ++ ([.reg [nt, nt, nt, nt, nt, nt, nt, nt, nf, nf, nf, nf, nf, nf, nf, (.br true, true), (.br true, true), nt]] : List TE)) (rr := ii) (by kernel_rfl) (o3.app (.c h4 (.c h4 (.c h4 (.c h4 (.c h5 (.c h5 (.c h5 (.c h5 (.c h5 (.c h5 (.c h5 (.c h4 (.c h5 (.c h4 .nil)))))))))))))))))
    (fun h5 =>
    .grd fun h6 =>
    .bnd fun x7 h8 =>
    .ret (runF_con0 hmix (tape := t2 ++ ([.reg [nt, nt, nt, nt, nt, nt, nt, nt, nt, nt, nt, nt, nt, (.el (eI x7), true), nt, (.br false, true), (.br true, true), nt]] : List TE)) (rr := ii) (by kernel_rfl) (o3.app (.c h4 (.c h4 (.c h4 (.c h4 (.c h5 (.c h5 (.c h5 (.c h5 (.c h5 (.c ((h6).1) (.c (lt_mapI (h6).2 : (w64 ((len_ eI v_a) - (1 : Int))) < ((v_a.map eI).length : Nat)) (.c h5 (.c (map_get h8 : (v_a.map eI)[(w64 ((len_ eI v_a) - (1 : Int))).toNat]? = some (eI x7)) (.c h5 (.c h4 (.c h5 (.c h4 .nil)))))))))))))))))))))
    (fun h4 =>
    .ret (runF_con0 hmix (tape := t2 ++ ([.reg [nt, nt, nt, nt, nf, nf, nf, nf, nt, nt, nt, nt, nt, nt, nt, nf, (.br false, true), nt]] : List TE)) (rr := ii) (by kernel_rfl) (o3.app (.c h4 (.c h4 (.c h4 (.c h4 (.c h4 (.c h4 .nil)))))))))))
    · exact (.ret (runF_con0 hmix (tape := t1 ++ ([.rst [] [] [(0, ii), (5, ii), (6, ii), (7, ii)], .sub (.ret) [(2, .b false)] []] : List TE)) (rr := ii) (by kernel_rfl) (.c ((spec_NatOk_L1_ok v_a (len_ eI v_a) 0 (.inr a3) h2).vex) .nil)))))

def spec_BigIntOk (v_x : TBigInt) : Option Bool :=
  spec_NatOk v_x.fMag >>= fun r1 =>
  if r1 = true then
    if v_x.fNeg = true then
      some (decide ((0 : Int) < (len_ eI v_x.fMag)))
    else
      some true
  else
    some false

theorem spec_BigIntOk_ok (v_x : TBigInt) : Wp (spec_BigIntOk v_x) (fun r => Con PP 75 [.agg [.b v_x.fNeg, .isl 1 (v_x.fMag.map eI)]] [] (.b r) []) := by
  unfold spec_BigIntOk
  exact .bnd fun r1 h2 =>
    (let t1 : List TE := [.reg [nt, nt]];
    have o2 := ((.c (spec_NatOk_ok v_x.fMag r1 h2) (.c (Sc.b _ : Sc (.b r1)) .nil)) : AllP _);
    .ite (fun h3 =>
    .ite (fun h4 =>
    .ret (runF_con0 hmix (tape := t1 ++ ([.reg [nt, nt, (.call { ac := [ii], r := .b r1, sc := true }, true), nt, nt, nt, nt, nt, nt, nt, nt, nt, (.br false, true), (.br true, true), nt]] : List TE)) (rr := ii) (by kernel_rfl) (o2.app (.c h3 (.c h3 (.c h3 (.c h3 (.c (not_t h4) (.c (not_t h4) (.c (not_t h4) (.c (not_t h4) (.c h3 (.c (not_t h4) (.c h3 .nil))))))))))))))
    (fun h4 =>
    .ret (runF_con0 hmix (tape := t1 ++ ([.reg [nt, nt, (.call { ac := [ii], r := .b r1, sc := true }, true), nt, nt, nt, nt, nt, nf, nf, nf, nf, (.br true, true), (.br true, true), nt]] : List TE)) (rr := ii) (by kernel_rfl) (o2.app (.c h3 (.c h3 (.c h3 (.c h3 (.c (not_f h4) (.c (not_f h4) (.c (not_f h4) (.c (not_f h4) (.c h3 (.c (not_f h4) (.c h3 .nil)))))))))))))))
    (fun h3 =>
    .ret (runF_con0 hmix (tape := t1 ++ ([.reg [nt, nt, (.call { ac := [ii], r := .b r1, sc := true }, true), nt, nf, nf, nf, nf, nt, nt, nt, nt, nf, (.br false, true), nt]] : List TE)) (rr := ii) (by kernel_rfl) (o2.app (.c h3 (.c h3 (.c h3 (.c h3 (.c h3 (.c h3 .nil))))))))))

def spec_l02Cmp_L1_head (v_a : (List Int)) (v_b : (List Int)) (v_i : Int) : S := mkS [(0, .isl 1 (v_a.map eI)), (1, .isl 1 (v_b.map eI)), (5, .n .i64 v_i)] []

def spec_l02Cmp_L1_ex : ((Unit) ⊕ (Int)) → Exit
  | .inl _ => .exit 0
  | .inr _ => .ret

def spec_l02Cmp_L1_out (v_a : (List Int)) (v_b : (List Int)) : ((Unit) ⊕ (Int)) → S
  | .inl a => mkS [] []
  | .inr a => mkS [(4, .n .i64 a)] []

abbrev spec_l02Cmp_L1_V := VEx PP 41 0 (nodeAt (bodyOf PP 60) [1, 1, 0, 1, 0, 0])

def spec_l02Cmp_L1_body (v_a : (List Int)) (v_b : (List Int)) (v_i : Int) : Option ((Int) ⊕ ((Unit) ⊕ (Int))) :=
  if (decide ((0 : Int) ≤ v_i)) = true then
    if 0 ≤ v_i ∧ v_i < v_a.length then
    v_a[v_i.toNat]? >>= fun x3 =>
    if 0 ≤ v_i ∧ v_i < v_b.length then
    v_b[v_i.toNat]? >>= fun x6 =>
    if (decide (x3 < x6)) = true then
      some (.inr (.inr (-1)))
    else
      if (decide (x6 < x3)) = true then
        some (.inr (.inr 1))
      else
        some (.inl (w64 (v_i - (1 : Int))))
    else none
    else none
  else
    some (.inr (.inl ()))

def spec_l02Cmp_L1 (v_a : (List Int)) (v_b : (List Int)) (v_i : Int) : Option ((Unit) ⊕ (Int)) := iter (fun w : Int => spec_l02Cmp_L1_body v_a v_b w) v_i

theorem spec_l02Cmp_L1_body_ok (v_a : (List Int)) (v_b : (List Int)) (v_i : Int) : Wp (spec_l02Cmp_L1_body v_a v_b v_i) (Sum.elim
    (fun w => spec_l02Cmp_L1_V .normal (spec_l02Cmp_L1_head v_a v_b v_i) (spec_l02Cmp_L1_head v_a v_b w))
    (fun r => spec_l02Cmp_L1_V (spec_l02Cmp_L1_ex r) (spec_l02Cmp_L1_head v_a v_b v_i) (spec_l02Cmp_L1_out v_a v_b r))) := by
  unfold spec_l02Cmp_L1_body
  exact (let t1 : List TE := [.reg [nt, nt]];
    .ite (fun h1 =>
    .grd fun h2 =>
    .bnd fun x3 h4 =>
    .grd fun h5 =>
    .bnd fun x6 h7 =>
    (let t2 : List TE := t1 ++ ([.br true, .reg [nt, nt, nt, (.el (eI x3), true), nt, nt, nt, (.el (eI x6), true), nt]] : List TE);
    have o3 := ((.c h1 (.c ((h2).1) (.c (lt_mapI (h2).2 : v_i < ((v_a.map eI).length : Nat)) (.c (map_get h4 : (v_a.map eI)[v_i.toNat]? = some (eI x3)) (.c ((h5).1) (.c (lt_mapI (h5).2 : v_i < ((v_b.map eI).length : Nat)) (.c (map_get h7 : (v_b.map eI)[v_i.toNat]? = some (eI x6)) .nil))))))) : AllP _);
    .ite (fun h8 =>
    .ret ((okC_sound hmix (tape := t2 ++ ([.br true, .reg [nt], .rst [] [] [(4, ii)]] : List TE)) (nr := 0) (by kernel_rfl) (o3.app (.c h8 .nil)) (mkS_free _ _) : spec_l02Cmp_L1_V (.ret) (spec_l02Cmp_L1_head v_a v_b v_i) (spec_l02Cmp_L1_out v_a v_b (.inr (-1))))))
    (fun h8 =>
    (let t4 : List TE := t2 ++ ([.br false, .reg [nt, nt, nt, (.el (eI x3), true), nt, nt, nt, (.el (eI x6), true), nt]] : List TE);
    have o5 := o3.app (.c h8 (.c ((h2).1) (.c (lt_mapI (h2).2 : v_i < ((v_a.map eI).length : Nat)) (.c (map_get h4 : (v_a.map eI)[v_i.toNat]? = some (eI x3)) (.c ((h5).1) (.c (lt_mapI (h5).2 : v_i < ((v_b.map eI).length : Nat)) (.c (map_get h7 : (v_b.map eI)[v_i.toNat]? = some (eI x6)) .nil)))))));
    .ite (fun h9 =>
    .ret ((okC_sound hmix (tape := t4 ++ ([.br true, .reg [nt], .rst [] [] [(4, ii)]] : List TE)) (nr := 0) (by kernel_rfl) (o5.app (.c h9 .nil)) (mkS_free _ _) : spec_l02Cmp_L1_V (.ret) (spec_l02Cmp_L1_head v_a v_b v_i) (spec_l02Cmp_L1_out v_a v_b (.inr 1)))))
    (fun h9 =>
    .ret ((okC_sound hmix (tape := t4 ++ ([.br false, .reg [nt, nt, nt], .rst [] [] [(0, ii), (1, ii), (5, ii)]] : List TE)) (nr := 0) (by kernel_rfl) (o5.app (.c h9 .nil)) (mkS_free _ _) : spec_l02Cmp_L1_V .normal (spec_l02Cmp_L1_head v_a v_b v_i) (spec_l02Cmp_L1_head v_a v_b (w64 (v_i - (1 : Int)))))))))))
    (fun h1 =>
    .ret ((okC_sound hmix (tape := t1 ++ ([.br false, .rst [] [] []] : List TE)) (nr := 0) (by kernel_rfl) (.c h1 .nil) (mkS_free _ _) : spec_l02Cmp_L1_V (.exit 0) (spec_l02Cmp_L1_head v_a v_b v_i) (spec_l02Cmp_L1_out v_a v_b (.inl ()))))))

theorem spec_l02Cmp_L1_ok (v_a : (List Int)) (v_b : (List Int)) (v_i : Int) : ∀ r, spec_l02Cmp_L1 v_a v_b v_i = some r → VLoop PP 41 0 (nodeAt (bodyOf PP 60) [1, 1, 0, 1, 0, 0]) (spec_l02Cmp_L1_ex r) (spec_l02Cmp_L1_head v_a v_b v_i) (spec_l02Cmp_L1_out v_a v_b r) := fun r h =>
  iter_ok (head := fun w : Int => spec_l02Cmp_L1_head v_a v_b w) (ex := spec_l02Cmp_L1_ex) (out := spec_l02Cmp_L1_out v_a v_b) (by intro r; unfold spec_l02Cmp_L1_ex; split <;> simp) (fun w => spec_l02Cmp_L1_body_ok v_a v_b w) v_i r h

def spec_l02Cmp (v_a : (List Int)) (v_b : (List Int)) : Option Int :=
  if ((len_ eI v_a) != (len_ eI v_b)) = true then
    if (decide ((len_ eI v_a) < (len_ eI v_b))) = true then
      some (-1)
    else
      some 1
  else
    spec_l02Cmp_L1 v_a v_b (w64 ((len_ eI v_a) - (1 : Int))) >>= fun r2 =>
    match r2 with
    | .inl a4 => (some 0)
    | .inr a4 => (some a4)

theorem spec_l02Cmp_ok (v_a : (List Int)) (v_b : (List Int)) : Wp (spec_l02Cmp v_a v_b) (fun r => Con PP 60 [.isl 1 (v_a.map eI), .isl 1 (v_b.map eI)] [] (.n .i64 r) []) := by
  unfold spec_l02Cmp
  exact (let t1 : List TE := [.reg [nt], .reg [nt, nt, nt, nt, nt]];
    .ite (fun h1 =>
    (let t2 : List TE := t1 ++ ([.br true, .reg [nt, nt, nt, nt, nt]] : List TE);
    .ite (fun h2 =>
    .ret (runF_con0 hmix (tape := t2 ++ ([.br true, .reg [nt]] : List TE)) (rr := ii) (by kernel_rfl) (.c h1 (.c h2 .nil))))
    (fun h2 =>
    .ret (runF_con0 hmix (tape := t2 ++ ([.br false, .reg [nt]] : List TE)) (rr := ii) (by kernel_rfl) (.c h1 (.c h2 .nil))))))
    (fun h1 =>
    .bnd fun r2 h3 =>
    (let t2 : List TE := t1 ++ ([.br false, .reg [nt, nt, nt, nt]] : List TE);
    (by
    rcases r2 with a4 | a4
    · exact (.ret (runF_con0 hmix (tape := t2 ++ ([.rst [] [] [(0, ii), (1, ii), (5, ii)], .sub (.exit 0) [] [], .reg [nt]] : List TE)) (rr := ii) (by kernel_rfl) (.c h1 (.c ((spec_l02Cmp_L1_ok v_a v_b (w64 ((len_ eI v_a) - (1 : Int))) (.inl a4) h3).vex) .nil))))
    · exact (.ret (runF_con0 hmix (tape := t2 ++ ([.rst [] [] [(0, ii), (1, ii), (5, ii)], .sub (.ret) [(4, .n .i64 a4)] []] : List TE)) (rr := ii) (by kernel_rfl) (.c h1 (.c ((spec_l02Cmp_L1_ok v_a v_b (w64 ((len_ eI v_a) - (1 : Int))) (.inr a4) h3).vex) .nil))))))))

def spec_NatToInt_L1_head (v_a : (List Int)) (v_n : Int) (v_i : Int) : S := mkS [(0, .isl 1 (v_a.map eI)), (4, .n .i64 v_n), (5, .n .i64 v_i)] []

def spec_NatToInt_L1_ex : Int → Exit
  | _ => .exit 0

def spec_NatToInt_L1_out (v_a : (List Int)) : Int → S
  | a => mkS [(4, .n .i64 a)] []

abbrev spec_NatToInt_L1_V := VEx PP 30 0 (nodeAt (bodyOf PP 94) [1, 1, 1, 0, 1, 0, 0])

def spec_NatToInt_L1_body (v_a : (List Int)) (v_n : Int) (v_i : Int) : Option ((Int × Int) ⊕ (Int)) :=
  if (decide ((0 : Int) ≤ v_i)) = true then
    if 0 ≤ v_i ∧ v_i < v_a.length then
    v_a[v_i.toNat]? >>= fun x3 =>
    some (.inl (w64 ((w64 (v_n * (1000000000 : Int))) + x3), w64 (v_i - (1 : Int))))
    else none
  else
    some (.inr v_n)

def spec_NatToInt_L1 (v_a : (List Int)) (v_n : Int) (v_i : Int) : Option (Int) := iter (fun w : Int × Int => spec_NatToInt_L1_body v_a w.1 w.2) (v_n, v_i)

theorem spec_NatToInt_L1_body_ok (v_a : (List Int)) (v_n : Int) (v_i : Int) : Wp (spec_NatToInt_L1_body v_a v_n v_i) (Sum.elim
    (fun w => spec_NatToInt_L1_V .normal (spec_NatToInt_L1_head v_a v_n v_i) (spec_NatToInt_L1_head v_a w.1 w.2))
    (fun r => spec_NatToInt_L1_V (spec_NatToInt_L1_ex r) (spec_NatToInt_L1_head v_a v_n v_i) (spec_NatToInt_L1_out v_a r))) := by
  unfold spec_NatToInt_L1_body
  exact (let t1 : List TE := [.reg [nt, nt]];
    .ite (fun h1 =>
    .grd fun h2 =>
    .bnd fun x3 h4 =>
    .ret ((okC_sound hmix (tape := t1 ++ ([.br true, .reg [nt, nt, nt, nt, nt, (.el (eI x3), true), nt, nt], .reg [nt, nt, nt], .rst [] [] [(0, ii), (4, ii), (5, ii)]] : List TE)) (nr := 0) (by kernel_rfl) (.c h1 (.c ((h2).1) (.c (lt_mapI (h2).2 : v_i < ((v_a.map eI).length : Nat)) (.c (map_get h4 : (v_a.map eI)[v_i.toNat]? = some (eI x3)) .nil)))) (mkS_free _ _) : spec_NatToInt_L1_V .normal (spec_NatToInt_L1_head v_a v_n v_i) (spec_NatToInt_L1_head v_a (w64 ((w64 (v_n * (1000000000 : Int))) + x3)) (w64 (v_i - (1 : Int)))))))
    (fun h1 =>
    .ret ((okC_sound hmix (tape := t1 ++ ([.br false, .rst [] [] [(4, ii)]] : List TE)) (nr := 0) (by kernel_rfl) (.c h1 .nil) (mkS_free _ _) : spec_NatToInt_L1_V (.exit 0) (spec_NatToInt_L1_head v_a v_n v_i) (spec_NatToInt_L1_out v_a v_n)))))

theorem spec_NatToInt_L1_ok (v_a : (List Int)) (v_n : Int) (v_i : Int) : ∀ r, spec_NatToInt_L1 v_a v_n v_i = some r → VLoop PP 30 0 (nodeAt (bodyOf PP 94) [1, 1, 1, 0, 1, 0, 0]) (spec_NatToInt_L1_ex r) (spec_NatToInt_L1_head v_a v_n v_i) (spec_NatToInt_L1_out v_a r) := fun r h =>
  iter_ok (head := fun w : Int × Int => spec_NatToInt_L1_head v_a w.1 w.2) (ex := spec_NatToInt_L1_ex) (out := spec_NatToInt_L1_out v_a) (by intro r; unfold spec_NatToInt_L1_ex; split <;> simp) (fun w => spec_NatToInt_L1_body_ok v_a w.1 w.2) (v_n, v_i) r h

def spec_NatToInt (v_a : (List Int)) : Option (Int × Bool) :=
  spec_NatOk v_a >>= fun r1 =>
  if r1 = true then
    spec_l02Cmp v_a ([854775807, 223372036, 9] : List Int) >>= fun r4 =>
    if (decide ((0 : Int) < r4)) = true then
      some (0, false)
    else
      spec_NatToInt_L1 v_a 0 (w64 ((len_ eI v_a) - (1 : Int))) >>= fun r7 =>
      some (r7, true)
  else
    some (0, false)

theorem spec_NatToInt_ok (v_a : (List Int)) : Wp (spec_NatToInt v_a) (fun r => Con PP 94 [.isl 1 (v_a.map eI)] [] (.tup [.n .i64 r.1, .b r.2]) []) := by
  unfold spec_NatToInt
  exact .bnd fun r1 h2 =>
    (let t1 : List TE := [.reg [nt, nt]];
    have o2 := ((.c (spec_NatOk_ok v_a r1 h2) (.c (Sc.b _ : Sc (.b r1)) .nil)) : AllP _);
    .ite (fun h3 =>
    .bnd fun r4 h5 =>
    (let t3 : List TE := t1 ++ ([.reg [nt, (.call { ac := [ii], r := .b r1, sc := true }, true), nt, nt, nt, nt, (.call { ac := [ii, .c1 (.c0 (.sl (([854775807, 223372036, 9] : List Int).map eI)))], rds := [7], r := .n .i64 r4, sc := true }, true), nt, (.br false, true)]] : List TE);
    have o4 := o2.app (.c (not_t h3) (.c (not_t h3) (.c (not_t h3) (.c (snap_full (show [[.n .i64 (854775807 : Int)], [.n .i64 (223372036 : Int)], [.n .i64 (9 : Int)]] = (([854775807, 223372036, 9] : List Int)).map eI from rfl) (show 3 = ([854775807, 223372036, 9] : List Int).length from rfl)) (.c (fit_full (show [[.n .i64 (854775807 : Int)], [.n .i64 (223372036 : Int)], [.n .i64 (9 : Int)]] = (([854775807, 223372036, 9] : List Int)).map eI from rfl) (show 3 = ([854775807, 223372036, 9] : List Int).length from rfl)) (.c (pure_map eI_pure ([854775807, 223372036, 9] : List Int)) (.c (spec_l02Cmp_ok v_a ([854775807, 223372036, 9] : List Int) r4 h5) (.c (Sc.n _ _ : Sc (.n .i64 r4)) (.c (not_t h3) (.c (not_t h3) .nil))))))))));
    .ite (fun h6 =>
    .ret (runF_con0 hmix (tape := t3 ++ ([.br true, .reg [nt, nt]] : List TE)) (rr := ii) (by kernel_rfl) (o4.app (.c h6 .nil))))
    (fun h6 =>
    .bnd fun r7 h8 =>
    .ret (runF_con0 hmix (tape := t3 ++ ([.br false, .reg [nt], .reg [nt, nt, nt, nt], .rst [] [] [(0, ii), (4, ii), (5, ii)], .sub (.exit 0) [(4, .n .i64 r7)] [], .reg [nt, nt, nt]] : List TE)) (rr := ii) (by kernel_rfl) (o4.app (.c h6 (.c ((spec_NatToInt_L1_ok v_a 0 (w64 ((len_ eI v_a) - (1 : Int))) r7 h8).vex) .nil)))))))
    (fun h3 =>
    .ret (runF_con0 hmix (tape := t1 ++ ([.reg [nt, (.call { ac := [ii], r := .b r1, sc := true }, true), nt, nt, nf, nf, nf, nf, (.br true, true)], .br true, .reg [nt, nt]] : List TE)) (rr := ii) (by kernel_rfl) (o2.app (.c (not_f h3) (.c (not_f h3) (.c (not_f h3) (.c (not_f h3) (.c (not_f h3) (.c (rfl : true = true) .nil))))))))))

def spec_NatOf_L1_head  (v_n : Int) (row0 : (List Int)) : S := mkS [(0, .n .i64 v_n), (3, .osl 0 0 0 row0.length)] [[Ob.mk 1 (row0.map eI) .live]]

def spec_NatOf_L1_ex : (List Int) → Exit
  | _ => .exit 0

def spec_NatOf_L1_out  : (List Int) → S
  | a => mkS [(3, .osl 0 0 0 a.length)] [[Ob.mk 1 (a.map eI) .live]]

abbrev spec_NatOf_L1_V := VEx PP 15 0 (nodeAt (bodyOf PP 63) [1, 1, 0, 0, 0])

def spec_NatOf_L1_body  (v_n : Int) (row0 : (List Int)) : Option ((Int × (List Int)) ⊕ ((List Int))) :=
  if (decide ((0 : Int) < v_n)) = true then
    if (row0 ++ ([v_n.tmod (1000000000 : Int)] : List Int)).length * 8 ≤ 140737488355328 then
    some (.inl (w64 (v_n.tdiv (1000000000 : Int)), row0 ++ ([v_n.tmod (1000000000 : Int)] : List Int)))
    else none
  else
    some (.inr row0)

def spec_NatOf_L1  (v_n : Int) (row0 : (List Int)) : Option ((List Int)) := iter (fun w : Int × (List Int) => spec_NatOf_L1_body  w.1 w.2) (v_n, row0)

theorem spec_NatOf_L1_body_ok  (v_n : Int) (row0 : (List Int)) : Wp (spec_NatOf_L1_body  v_n row0) (Sum.elim
    (fun w => spec_NatOf_L1_V .normal (spec_NatOf_L1_head  v_n row0) (spec_NatOf_L1_head  w.1 w.2))
    (fun r => spec_NatOf_L1_V (spec_NatOf_L1_ex r) (spec_NatOf_L1_head  v_n row0) (spec_NatOf_L1_out  r))) := by
  unfold spec_NatOf_L1_body
  exact (let t1 : List TE := [.reg [nt, nt]];
    .ite (fun h1 =>
    .grd fun h2 =>
    .ret ((okC_sound hmix (tape := t1 ++ ([.br true, .reg [nt, nt, nt, nt, (.app ((row0 ++ ([v_n.tmod (1000000000 : Int)] : List Int)).length), true), nt], .reg [nt, nt, nt], .rst [7] [.as [Ob.mk 1 ((row0 ++ ([v_n.tmod (1000000000 : Int)] : List Int)).map eI) .live]] [(0, ii), (3, ii)]] : List TE)) (nr := 1) (by kernel_rfl) (.c h1 (.c (by decide : (1000000000 : Int) ≠ 0) (.c (fit_full (show [[.n .i64 (v_n.tmod (1000000000 : Int))]] = (([v_n.tmod (1000000000 : Int)] : List Int)).map eI from rfl) (show 1 = ([v_n.tmod (1000000000 : Int)] : List Int).length from rfl)) (.c (le_full (show (row0.map eI) = (row0.map eI) from rfl) (show row0.length = row0.length from rfl)) (.c (len_app (show row0.length = row0.length from rfl) (tk_prf (show [[.n .i64 (v_n.tmod (1000000000 : Int))]] = (([v_n.tmod (1000000000 : Int)] : List Int)).map eI from rfl) (show 1 = ([v_n.tmod (1000000000 : Int)] : List Int).length from rfl)) : (row0 ++ ([v_n.tmod (1000000000 : Int)] : List Int)).length = row0.length + (([[.n .i64 (v_n.tmod (1000000000 : Int))]].drop 0).take 1).length) (.c h2 (.c (by decide : (1000000000 : Int) ≠ 0) (.c (row_prf (app_full (show (row0.map eI) = (row0.map eI) from rfl) (show row0.length = row0.length from rfl) (tk_prf (show [[.n .i64 (v_n.tmod (1000000000 : Int))]] = (([v_n.tmod (1000000000 : Int)] : List Int)).map eI from rfl) (show 1 = ([v_n.tmod (1000000000 : Int)] : List Int).length from rfl))) : [Ob.mk 1 ((row0.map eI).take row0.length ++ (([[.n .i64 (v_n.tmod (1000000000 : Int))]].drop 0).take 1)) .live] = [Ob.mk 1 ((row0 ++ ([v_n.tmod (1000000000 : Int)] : List Int)).map eI) .live]) (.c (pure_row eI_pure (row0 ++ ([v_n.tmod (1000000000 : Int)] : List Int)) : PureRow [Ob.mk 1 ((row0 ++ ([v_n.tmod (1000000000 : Int)] : List Int)).map eI) .live]) .nil))))))))) (mkS_free _ _) : spec_NatOf_L1_V .normal (spec_NatOf_L1_head  v_n row0) (spec_NatOf_L1_head  (w64 (v_n.tdiv (1000000000 : Int))) (row0 ++ ([v_n.tmod (1000000000 : Int)] : List Int))))))
    (fun h1 =>
    .ret ((okC_sound hmix (tape := t1 ++ ([.br false, .rst [0] [.pure] [(3, ii)]] : List TE)) (nr := 1) (by kernel_rfl) (.c h1 (.c (pure_row eI_pure row0 : PureRow [Ob.mk 1 (row0.map eI) .live]) .nil)) (mkS_free _ _) : spec_NatOf_L1_V (.exit 0) (spec_NatOf_L1_head  v_n row0) (spec_NatOf_L1_out  row0)))))

theorem spec_NatOf_L1_ok  (v_n : Int) (row0 : (List Int)) : ∀ r, spec_NatOf_L1  v_n row0 = some r → VLoop PP 15 0 (nodeAt (bodyOf PP 63) [1, 1, 0, 0, 0]) (spec_NatOf_L1_ex r) (spec_NatOf_L1_head  v_n row0) (spec_NatOf_L1_out  r) := fun r h =>
  iter_ok (head := fun w : Int × (List Int) => spec_NatOf_L1_head  w.1 w.2) (ex := spec_NatOf_L1_ex) (out := spec_NatOf_L1_out ) (by intro r; unfold spec_NatOf_L1_ex; split <;> simp) (fun w => spec_NatOf_L1_body_ok  w.1 w.2) (v_n, row0) r h

def spec_NatOf (v_n : Int) : Option (List Int) :=
  spec_NatOf_L1 v_n ([] : List Int) >>= fun r1 =>
  some r1

theorem spec_NatOf_ok (v_n : Int) : Wp (spec_NatOf v_n) (fun r => Con PP 63 [.n .i64 v_n] [] (.isl 1 (r.map eI)) []) := by
  unfold spec_NatOf
  exact .bnd fun r1 h2 =>
    .ret (runF_con0 hmix (tape := [.reg [nt], .reg [nt, nt], .rst [1] [.as [Ob.mk 1 (([] : List Int).map eI) .live]] [(0, ii), (3, .c1 (.c0 (.len (([] : List Int).length))))], .sub (.exit 0) [(3, .osl 0 0 0 r1.length)] [[Ob.mk 1 (r1.map eI) .live]], .reg [nt, nt]]) (rr := .c1 (.c0 (.sl (r1.map eI)))) (by kernel_rfl) (.c (row_prf (show [] = (([] : List Int)).map eI from rfl) : [Ob.mk 1 [] .live] = [Ob.mk 1 (([] : List Int).map eI) .live]) (.c (pure_row eI_pure ([] : List Int) : PureRow [Ob.mk 1 (([] : List Int).map eI) .live]) (.c (show 0 = ([] : List Int).length from rfl) (.c ((spec_NatOf_L1_ok v_n ([] : List Int) r1 h2).vex) (.c (snap_full (show (r1.map eI) = (r1.map eI) from rfl) (show r1.length = r1.length from rfl)) (.c (fit_full (show (r1.map eI) = (r1.map eI) from rfl) (show r1.length = r1.length from rfl)) (.c (pure_map eI_pure r1) .nil))))))))

def spec_l02Plain_L1_head  (v_x : Int) (v_y : Int) : S := mkS [(0, .n .i64 v_x), (1, .n .i64 v_y)] []

def spec_l02Plain_L1_ex : Int → Exit
  | _ => .exit 0

def spec_l02Plain_L1_out  : Int → S
  | a => mkS [(0, .n .i64 a)] []

abbrev spec_l02Plain_L1_V := VEx PP 15 0 (nodeAt (bodyOf PP 95) [1, 0, 0, 0])

def spec_l02Plain_L1_body  (v_x : Int) (v_y : Int) : Option ((Int × Int) ⊕ (Int)) :=
  if (decide ((0 : Int) < v_y)) = true then
    if v_y ≠ 0 then
    some (.inl (v_y, v_x.tmod v_y))
    else none
  else
    some (.inr v_x)

def spec_l02Plain_L1  (v_x : Int) (v_y : Int) : Option (Int) := iter (fun w : Int × Int => spec_l02Plain_L1_body  w.1 w.2) (v_x, v_y)

theorem spec_l02Plain_L1_body_ok  (v_x : Int) (v_y : Int) : Wp (spec_l02Plain_L1_body  v_x v_y) (Sum.elim
    (fun w => spec_l02Plain_L1_V .normal (spec_l02Plain_L1_head  v_x v_y) (spec_l02Plain_L1_head  w.1 w.2))
    (fun r => spec_l02Plain_L1_V (spec_l02Plain_L1_ex r) (spec_l02Plain_L1_head  v_x v_y) (spec_l02Plain_L1_out  r))) := by
  unfold spec_l02Plain_L1_body
  exact (let t1 : List TE := [.reg [nt, nt]];
    .ite (fun h1 =>
    .grd fun h2 =>
    .ret ((okC_sound hmix (tape := t1 ++ ([.br true, .reg [nt, nt, nt, nt], .reg [nt, nt], .reg [nt, nt], .rst [] [] [(0, ii), (1, ii)]] : List TE)) (nr := 0) (by kernel_rfl) (.c h1 (.c h2 .nil)) (mkS_free _ _) : spec_l02Plain_L1_V .normal (spec_l02Plain_L1_head  v_x v_y) (spec_l02Plain_L1_head  v_y (v_x.tmod v_y)))))
    (fun h1 =>
    .ret ((okC_sound hmix (tape := t1 ++ ([.br false, .rst [] [] [(0, ii)]] : List TE)) (nr := 0) (by kernel_rfl) (.c h1 .nil) (mkS_free _ _) : spec_l02Plain_L1_V (.exit 0) (spec_l02Plain_L1_head  v_x v_y) (spec_l02Plain_L1_out  v_x)))))

theorem spec_l02Plain_L1_ok  (v_x : Int) (v_y : Int) : ∀ r, spec_l02Plain_L1  v_x v_y = some r → VLoop PP 15 0 (nodeAt (bodyOf PP 95) [1, 0, 0, 0]) (spec_l02Plain_L1_ex r) (spec_l02Plain_L1_head  v_x v_y) (spec_l02Plain_L1_out  r) := fun r h =>
  iter_ok (head := fun w : Int × Int => spec_l02Plain_L1_head  w.1 w.2) (ex := spec_l02Plain_L1_ex) (out := spec_l02Plain_L1_out ) (by intro r; unfold spec_l02Plain_L1_ex; split <;> simp) (fun w => spec_l02Plain_L1_body_ok  w.1 w.2) (v_x, v_y) r h

def spec_l02Plain (v_x : Int) (v_y : Int) : Option (List Int) :=
  spec_l02Plain_L1 v_x v_y >>= fun r1 =>
  spec_NatOf r1 >>= fun r3 =>
  some r3

theorem spec_l02Plain_ok (v_x : Int) (v_y : Int) : Wp (spec_l02Plain v_x v_y) (fun r => Con PP 95 [.n .i64 v_x, .n .i64 v_y] [] (.isl 1 (r.map eI)) []) := by
  unfold spec_l02Plain
  exact .bnd fun r1 h2 =>
    .bnd fun r3 h4 =>
    .ret (runF_con0 hmix (tape := [.reg [nt], .rst [] [] [(0, ii), (1, ii)], .sub (.exit 0) [(0, .n .i64 r1)] [], .reg [nt, (.call { ac := [ii], r := .isl 1 (r3.map eI), sc := false }, true), nt]]) (rr := ii) (by kernel_rfl) (.c ((spec_l02Plain_L1_ok v_x v_y r1 h2).vex) (.c (spec_NatOf_ok r1 r3 h4) .nil)))

def spec_l02Trim_L1_head (v_a : (List Int)) (v_n : Int) : S := mkS [(0, .isl 1 (v_a.map eI)), (3, .n .i64 v_n)] []

def spec_l02Trim_L1_ex : Int → Exit
  | _ => .exit 0

def spec_l02Trim_L1_out (v_a : (List Int)) : Int → S
  | a => mkS [(0, .isl 1 (v_a.map eI)), (3, .n .i64 a)] []

abbrev spec_l02Trim_L1_V := VEx PP 21 0 (nodeAt (bodyOf PP 62) [1, 1, 0, 0, 0])

def spec_l02Trim_L1_body (v_a : (List Int)) (v_n : Int) : Option ((Int) ⊕ (Int)) :=
  if (decide ((0 : Int) < v_n)) = true then
    if 0 ≤ (w64 (v_n - (1 : Int))) ∧ (w64 (v_n - (1 : Int))) < v_a.length then
    v_a[(w64 (v_n - (1 : Int))).toNat]? >>= fun x3 =>
    if (x3 == (0 : Int)) = true then
      some (.inl (w64 (v_n - (1 : Int))))
    else
      some (.inr v_n)
    else none
  else
    some (.inr v_n)

def spec_l02Trim_L1 (v_a : (List Int)) (v_n : Int) : Option (Int) := iter (fun w : Int => spec_l02Trim_L1_body v_a w) v_n

theorem spec_l02Trim_L1_body_ok (v_a : (List Int)) (v_n : Int) : Wp (spec_l02Trim_L1_body v_a v_n) (Sum.elim
    (fun w => spec_l02Trim_L1_V .normal (spec_l02Trim_L1_head v_a v_n) (spec_l02Trim_L1_head v_a w))
    (fun r => spec_l02Trim_L1_V (spec_l02Trim_L1_ex r) (spec_l02Trim_L1_head v_a v_n) (spec_l02Trim_L1_out v_a r))) := by
  unfold spec_l02Trim_L1_body
  exact .ite (fun h1 =>
    .grd fun h2 =>
    .bnd fun x3 h4 =>
    (let t1 : List TE := [.reg [nt, nt, nt, nt, nt, nt, nt, (.el (eI x3), true), nt, (.br true, true)]];
    have o2 := ((.c h1 (.c h1 (.c h1 (.c h1 (.c ((h2).1) (.c (lt_mapI (h2).2 : (w64 (v_n - (1 : Int))) < ((v_a.map eI).length : Nat)) (.c h1 (.c (map_get h4 : (v_a.map eI)[(w64 (v_n - (1 : Int))).toNat]? = some (eI x3)) (.c h1 (.c h1 .nil)))))))))) : AllP _);
    .ite (fun h5 =>
    .ret ((okC_sound hmix (tape := t1 ++ ([.br true, .reg [nt, nt, nt], .rst [] [] [(0, ii), (3, ii)]] : List TE)) (nr := 0) (by kernel_rfl) (o2.app (.c h5 .nil)) (mkS_free _ _) : spec_l02Trim_L1_V .normal (spec_l02Trim_L1_head v_a v_n) (spec_l02Trim_L1_head v_a (w64 (v_n - (1 : Int)))))))
    (fun h5 =>
    .ret ((okC_sound hmix (tape := t1 ++ ([.br false, .rst [] [] [(0, ii), (3, ii)]] : List TE)) (nr := 0) (by kernel_rfl) (o2.app (.c h5 .nil)) (mkS_free _ _) : spec_l02Trim_L1_V (.exit 0) (spec_l02Trim_L1_head v_a v_n) (spec_l02Trim_L1_out v_a v_n))))))
    (fun h1 =>
    .ret ((okC_sound hmix (tape := [.reg [nt, nt, nt, nf, nf, nf, nf, nf, nf, (.br false, true)], .br false, .rst [] [] [(0, ii), (3, ii)]]) (nr := 0) (by kernel_rfl) (.c h1 (.c h1 (.c h1 (.c h1 (.c h1 (.c h1 (.c h1 (.c (rfl : false = false) .nil)))))))) (mkS_free _ _) : spec_l02Trim_L1_V (.exit 0) (spec_l02Trim_L1_head v_a v_n) (spec_l02Trim_L1_out v_a v_n))))

theorem spec_l02Trim_L1_ok (v_a : (List Int)) (v_n : Int) : ∀ r, spec_l02Trim_L1 v_a v_n = some r → VLoop PP 21 0 (nodeAt (bodyOf PP 62) [1, 1, 0, 0, 0]) (spec_l02Trim_L1_ex r) (spec_l02Trim_L1_head v_a v_n) (spec_l02Trim_L1_out v_a r) := fun r h =>
  iter_ok (head := fun w : Int => spec_l02Trim_L1_head v_a w) (ex := spec_l02Trim_L1_ex) (out := spec_l02Trim_L1_out v_a) (by intro r; unfold spec_l02Trim_L1_ex; split <;> simp) (fun w => spec_l02Trim_L1_body_ok v_a w) v_n r h

def spec_l02Trim (v_a : (List Int)) : Option (List Int) :=
  spec_l02Trim_L1 v_a (len_ eI v_a) >>= fun r1 =>
  if 0 ≤ r1 then
  if 0 ≤ r1.toNat ∧ r1.toNat ≤ v_a.length then
  some ((v_a.drop 0).take (r1.toNat - 0))
  else none
  else none

theorem spec_l02Trim_ok (v_a : (List Int)) : Wp (spec_l02Trim v_a) (fun r => Con PP 62 [.isl 1 (v_a.map eI)] [] (.isl 1 (r.map eI)) []) := by
  unfold spec_l02Trim
  exact .bnd fun r1 h2 =>
    .grd fun h3 =>
    .grd fun h4 =>
    .ret (runF_con0 hmix (tape := [.reg [nt], .reg [nt, nt, nt], .rst [] [] [(0, ii), (3, ii)], .sub (.exit 0) [(0, .isl 1 (v_a.map eI)), (3, .n .i64 r1)] [], .reg [nt, nt, nt, nt]]) (rr := .c1 (.c0 (.as (.isl 1 (((v_a.drop 0).take (r1.toNat - 0)).map eI))))) (by kernel_rfl) (.c ((spec_l02Trim_L1_ok v_a (len_ eI v_a) r1 h2).vex) (.c h3 (.c ((h4).1) (.c (fit_prf (show (v_a.map eI) = (v_a.map eI) from rfl) (h4).2) (.c (congrArg (AV.isl 1) (sub_prf (show (v_a.map eI) = (v_a.map eI) from rfl) 0 (r1.toNat - 0)) : (.isl 1 (((v_a.map eI).drop 0).take (r1.toNat - 0)) : AV) = .isl 1 (((v_a.drop 0).take (r1.toNat - 0)).map eI)) .nil))))))

def spec_l02Small_L1_head (v_a : (List Int)) (v_d : Int) (v_rest : Int) (v_i : Int) (row0 : (List Int)) : S := mkS [(0, .isl 1 (v_a.map eI)), (1, .n .i64 v_d), (6, .osl 0 0 0 row0.length), (7, .n .i64 v_rest), (8, .n .i64 v_i)] [[Ob.mk 1 (row0.map eI) .live]]

def spec_l02Small_L1_ex : (Int × (List Int)) → Exit
  | _ => .exit 0

def spec_l02Small_L1_out (v_a : (List Int)) (v_d : Int) : (Int × (List Int)) → S
  | a => mkS [(6, .osl 0 0 0 a.2.length), (7, .n .i64 a.1)] [[Ob.mk 1 (a.2.map eI) .live]]

abbrev spec_l02Small_L1_V := VEx PP 39 0 (nodeAt (bodyOf PP 106) [1, 1, 1, 0, 1, 0, 0])

def spec_l02Small_L1_body (v_a : (List Int)) (v_d : Int) (v_rest : Int) (v_i : Int) (row0 : (List Int)) : Option ((Int × Int × (List Int)) ⊕ (Int × (List Int))) :=
  if (decide ((0 : Int) ≤ v_i)) = true then
    if 0 ≤ v_i ∧ v_i < v_a.length then
    v_a[v_i.toNat]? >>= fun x3 =>
    if v_d ≠ 0 then
    if 0 ≤ v_i ∧ v_i < (row0.length : Nat) then
    if (0 + v_i.toNat) < row0.length then
    some (.inl ((w64 ((w64 (v_rest * (1000000000 : Int))) + x3)).tmod v_d, w64 (v_i - (1 : Int)), row0.set (0 + v_i.toNat) (w64 ((w64 ((w64 (v_rest * (1000000000 : Int))) + x3)).tdiv v_d))))
    else none
    else none
    else none
    else none
  else
    some (.inr (v_rest, row0))

def spec_l02Small_L1 (v_a : (List Int)) (v_d : Int) (v_rest : Int) (v_i : Int) (row0 : (List Int)) : Option (Int × (List Int)) := iter (fun w : Int × Int × (List Int) => spec_l02Small_L1_body v_a v_d w.1 w.2.1 w.2.2) (v_rest, v_i, row0)

theorem spec_l02Small_L1_body_ok (v_a : (List Int)) (v_d : Int) (v_rest : Int) (v_i : Int) (row0 : (List Int)) : Wp (spec_l02Small_L1_body v_a v_d v_rest v_i row0) (Sum.elim
    (fun w => spec_l02Small_L1_V .normal (spec_l02Small_L1_head v_a v_d v_rest v_i row0) (spec_l02Small_L1_head v_a v_d w.1 w.2.1 w.2.2))
    (fun r => spec_l02Small_L1_V (spec_l02Small_L1_ex r) (spec_l02Small_L1_head v_a v_d v_rest v_i row0) (spec_l02Small_L1_out v_a v_d r))) := by
  unfold spec_l02Small_L1_body
  exact (let t1 : List TE := [.reg [nt, nt]];
    .ite (fun h1 =>
    .grd fun h2 =>
    .bnd fun x3 h4 =>
    .grd fun h5 =>
    .grd fun h6 =>
    .grd fun h7 =>
    .ret ((okC_sound hmix (tape := t1 ++ ([.br true, .reg [nt, nt, nt, nt, nt, (.el (eI x3), true), nt, nt], .reg [nt, nt, nt, nt, nt, nt, (.bd, true)], .reg [nt, nt, nt, nt], .reg [nt, nt, nt], .rst [0] [.as [Ob.mk 1 ((row0.set (0 + v_i.toNat) (w64 ((w64 ((w64 (v_rest * (1000000000 : Int))) + x3)).tdiv v_d))).map eI) .live]] [(0, ii), (1, ii), (6, .c1 (.c0 (.len ((row0.set (0 + v_i.toNat) (w64 ((w64 ((w64 (v_rest * (1000000000 : Int))) + x3)).tdiv v_d))).length)))), (7, ii), (8, ii)]] : List TE)) (nr := 1) (by kernel_rfl) (.c h1 (.c ((h2).1) (.c (lt_mapI (h2).2 : v_i < ((v_a.map eI).length : Nat)) (.c (map_get h4 : (v_a.map eI)[v_i.toNat]? = some (eI x3)) (.c h5 (.c ((h6).1) (.c ((h6).2) (.c (lt_map h7 : (0 + v_i.toNat) < (row0.map eI).length) (.c (rfl : 1 = 1) (.c h5 (.c (row_prf (set_prf (show (row0.map eI) = (row0.map eI) from rfl) (0 + v_i.toNat) (w64 ((w64 ((w64 (v_rest * (1000000000 : Int))) + x3)).tdiv v_d))) : [Ob.mk 1 ((row0.map eI).set (0 + v_i.toNat) [.n .i64 (w64 ((w64 ((w64 (v_rest * (1000000000 : Int))) + x3)).tdiv v_d))]) .live] = [Ob.mk 1 ((row0.set (0 + v_i.toNat) (w64 ((w64 ((w64 (v_rest * (1000000000 : Int))) + x3)).tdiv v_d))).map eI) .live]) (.c (pure_row eI_pure (row0.set (0 + v_i.toNat) (w64 ((w64 ((w64 (v_rest * (1000000000 : Int))) + x3)).tdiv v_d))) : PureRow [Ob.mk 1 ((row0.set (0 + v_i.toNat) (w64 ((w64 ((w64 (v_rest * (1000000000 : Int))) + x3)).tdiv v_d))).map eI) .live]) (.c (len_set (show row0.length = row0.length from rfl) (0 + v_i.toNat) (w64 ((w64 ((w64 (v_rest * (1000000000 : Int))) + x3)).tdiv v_d))) .nil))))))))))))) (mkS_free _ _) : spec_l02Small_L1_V .normal (spec_l02Small_L1_head v_a v_d v_rest v_i row0) (spec_l02Small_L1_head v_a v_d ((w64 ((w64 (v_rest * (1000000000 : Int))) + x3)).tmod v_d) (w64 (v_i - (1 : Int))) (row0.set (0 + v_i.toNat) (w64 ((w64 ((w64 (v_rest * (1000000000 : Int))) + x3)).tdiv v_d)))))))
    (fun h1 =>
    .ret ((okC_sound hmix (tape := t1 ++ ([.br false, .rst [0] [.pure] [(6, ii), (7, ii)]] : List TE)) (nr := 1) (by kernel_rfl) (.c h1 (.c (pure_row eI_pure row0 : PureRow [Ob.mk 1 (row0.map eI) .live]) .nil)) (mkS_free _ _) : spec_l02Small_L1_V (.exit 0) (spec_l02Small_L1_head v_a v_d v_rest v_i row0) (spec_l02Small_L1_out v_a v_d (v_rest, row0))))))

theorem spec_l02Small_L1_ok (v_a : (List Int)) (v_d : Int) (v_rest : Int) (v_i : Int) (row0 : (List Int)) : ∀ r, spec_l02Small_L1 v_a v_d v_rest v_i row0 = some r → VLoop PP 39 0 (nodeAt (bodyOf PP 106) [1, 1, 1, 0, 1, 0, 0]) (spec_l02Small_L1_ex r) (spec_l02Small_L1_head v_a v_d v_rest v_i row0) (spec_l02Small_L1_out v_a v_d r) := fun r h =>
  iter_ok (head := fun w : Int × Int × (List Int) => spec_l02Small_L1_head v_a v_d w.1 w.2.1 w.2.2) (ex := spec_l02Small_L1_ex) (out := spec_l02Small_L1_out v_a v_d) (by intro r; unfold spec_l02Small_L1_ex; split <;> simp) (fun w => spec_l02Small_L1_body_ok v_a v_d w.1 w.2.1 w.2.2) (v_rest, v_i, row0) r h

def spec_l02Small (v_a : (List Int)) (v_d : Int) : Option ((List Int) × Int) :=
  if 0 ≤ (len_ eI v_a) ∧ (8 : Int) * (len_ eI v_a) ≤ 281474976710656 ∧ (len_ eI v_a) < 9223372036854775808 then
  spec_l02Small_L1 v_a v_d 0 (w64 ((len_ eI v_a) - (1 : Int))) (List.replicate (len_ eI v_a).toNat 0 : List Int) >>= fun r2 =>
  spec_l02Trim r2.2 >>= fun r4 =>
  some (r4, r2.1)
  else none

theorem spec_l02Small_ok (v_a : (List Int)) (v_d : Int) : Wp (spec_l02Small v_a v_d) (fun r => Con PP 106 [.isl 1 (v_a.map eI), .n .i64 v_d] [] (.tup [.isl 1 (r.1.map eI), .n .i64 r.2]) []) := by
  unfold spec_l02Small
  exact .grd fun h1 =>
    .bnd fun r2 h3 =>
    .bnd fun r4 h5 =>
    .ret (runF_con0 hmix (tape := [.reg [nt, nt], .reg [nt, nt, nt, nt], .reg [nt], .reg [nt, nt, nt, nt], .rst [4] [.as [Ob.mk 1 ((List.replicate (len_ eI v_a).toNat 0 : List Int).map eI) .live]] [(0, ii), (1, ii), (6, .c1 (.c0 (.len ((List.replicate (len_ eI v_a).toNat 0 : List Int).length)))), (7, ii), (8, ii)], .sub (.exit 0) [(6, .osl 0 0 0 r2.2.length), (7, .n .i64 r2.1)] [[Ob.mk 1 (r2.2.map eI) .live]], .frz 0, .reg [nt, (.call { ac := [.c1 (.c0 (.sl (r2.2.map eI)))], rds := [0], r := .isl 1 (r4.map eI), sc := false }, true), nt, nt, nt]]) (rr := ii) (by kernel_rfl) (.c ((h1).1) (.c (Int.le_refl (len_ eI v_a)) (.c ((h1).2.1) (.c ((h1).2.2) (.c (row_prf (rep_prf eI (len_ eI v_a).toNat 0) : [Ob.mk 1 (List.replicate (len_ eI v_a).toNat [.n .i64 (0 : Int)]) .live] = [Ob.mk 1 ((List.replicate (len_ eI v_a).toNat 0 : List Int).map eI) .live]) (.c (pure_row eI_pure (List.replicate (len_ eI v_a).toNat 0 : List Int) : PureRow [Ob.mk 1 ((List.replicate (len_ eI v_a).toNat 0 : List Int).map eI) .live]) (.c (len_rep (len_ eI v_a).toNat (0 : Int)) (.c ((spec_l02Small_L1_ok v_a v_d 0 (w64 ((len_ eI v_a) - (1 : Int))) (List.replicate (len_ eI v_a).toNat 0 : List Int) r2 h3).vex) (.c (snap_full (show (r2.2.map eI) = (r2.2.map eI) from rfl) (show r2.2.length = r2.2.length from rfl)) (.c (fit_full (show (r2.2.map eI) = (r2.2.map eI) from rfl) (show r2.2.length = r2.2.length from rfl)) (.c (pure_map eI_pure r2.2) (.c (spec_l02Trim_ok r2.2 r4 h5) .nil)))))))))))))

def spec_l02Mul_L2_head (v_b : (List Int)) (v_i : Int) (v_x : Int) (v_t26 : (List Int)) (v_t27 : Int) (v_t34 : Int) (v_carry : Int) (v_t35 : Int) (row0 : (List Int)) : S := mkS [(1, .isl 1 (v_b.map eI)), (5, .osl 0 0 0 row0.length), (6, .n .i64 v_i), (7, .n .i64 v_x), (8, .n .i64 v_carry), (26, .isl 1 (v_t26.map eI)), (27, .n .i64 v_t27), (28, .n .i64 v_i), (33, .isl 1 (v_b.map eI)), (34, .n .i64 v_t34), (35, .n .i64 v_t35)] [[Ob.mk 1 (row0.map eI) .live]]

def spec_l02Mul_L2_ex : (Int × (List Int)) → Exit
  | _ => .exit 2

def spec_l02Mul_L2_out (v_b : (List Int)) (v_i : Int) (v_x : Int) (v_t26 : (List Int)) (v_t27 : Int) (v_t34 : Int) : (Int × (List Int)) → S
  | a => mkS [(1, .isl 1 (v_b.map eI)), (5, .osl 0 0 0 a.2.length), (6, .n .i64 v_i), (8, .n .i64 a.1), (26, .isl 1 (v_t26.map eI)), (27, .n .i64 v_t27), (28, .n .i64 v_i)] [[Ob.mk 1 (a.2.map eI) .live]]

abbrev spec_l02Mul_L2_V := VEx PP 72 0 (nodeAt (bodyOf PP 40) [1, 1, 1, 0, 1, 0, 0, 1, 1, 0, 0, 1, 1, 0, 1, 0, 0])

def spec_l02Mul_L2_body (v_b : (List Int)) (v_i : Int) (v_x : Int) (v_t26 : (List Int)) (v_t27 : Int) (v_t34 : Int) (v_carry : Int) (v_t35 : Int) (row0 : (List Int)) : Option ((Int × Int × (List Int)) ⊕ (Int × (List Int))) :=
  if (decide (v_t35 < v_t34)) = true then
    if 0 ≤ v_t35 ∧ v_t35 < v_b.length then
    v_b[v_t35.toNat]? >>= fun x3 =>
    if 0 ≤ (w64 (v_i + v_t35)) ∧ (w64 (v_i + v_t35)) < (row0.length : Nat) then
    row0[(0 + (w64 (v_i + v_t35)).toNat)]? >>= fun x6 =>
    if (0 + (w64 (v_i + v_t35)).toNat) < row0.length then
    some (.inl (w64 ((w64 ((w64 (x6 + (w64 (v_x * x3)))) + v_carry)).tdiv (1000000000 : Int)), w64 (v_t35 + (1 : Int)), row0.set (0 + (w64 (v_i + v_t35)).toNat) ((w64 ((w64 (x6 + (w64 (v_x * x3)))) + v_carry)).tmod (1000000000 : Int))))
    else none
    else none
    else none
  else
    some (.inr (v_carry, row0))

def spec_l02Mul_L2 (v_b : (List Int)) (v_i : Int) (v_x : Int) (v_t26 : (List Int)) (v_t27 : Int) (v_t34 : Int) (v_carry : Int) (v_t35 : Int) (row0 : (List Int)) : Option (Int × (List Int)) := iter (fun w : Int × Int × (List Int) => spec_l02Mul_L2_body v_b v_i v_x v_t26 v_t27 v_t34 w.1 w.2.1 w.2.2) (v_carry, v_t35, row0)

theorem spec_l02Mul_L2_body_ok (v_b : (List Int)) (v_i : Int) (v_x : Int) (v_t26 : (List Int)) (v_t27 : Int) (v_t34 : Int) (v_carry : Int) (v_t35 : Int) (row0 : (List Int)) : Wp (spec_l02Mul_L2_body v_b v_i v_x v_t26 v_t27 v_t34 v_carry v_t35 row0) (Sum.elim
    (fun w => spec_l02Mul_L2_V .normal (spec_l02Mul_L2_head v_b v_i v_x v_t26 v_t27 v_t34 v_carry v_t35 row0) (spec_l02Mul_L2_head v_b v_i v_x v_t26 v_t27 v_t34 w.1 w.2.1 w.2.2))
    (fun r => spec_l02Mul_L2_V (spec_l02Mul_L2_ex r) (spec_l02Mul_L2_head v_b v_i v_x v_t26 v_t27 v_t34 v_carry v_t35 row0) (spec_l02Mul_L2_out v_b v_i v_x v_t26 v_t27 v_t34 r))) := by
  unfold spec_l02Mul_L2_body
  exact .ite (fun h1 =>
    .grd fun h2 =>
    .bnd fun x3 h4 =>
    .grd fun h5 =>
    .bnd fun x6 h7 =>
    .grd fun h8 =>
    .ret ((okC_sound hmix (tape := [.reg [nt], .br true, .reg [nt, nt, (.el (eI x3), true), nt, nt], .reg [nt, nt, nt, nt, nt, (.el (eI x6), true), nt, nt, nt, nt, nt, nt, nt], .reg [nt, nt, nt, nt, nt, nt, nt, (.bd, true)], .reg [nt, nt, nt], .reg [nt, nt], .rst [0] [.as [Ob.mk 1 ((row0.set (0 + (w64 (v_i + v_t35)).toNat) ((w64 ((w64 (x6 + (w64 (v_x * x3)))) + v_carry)).tmod (1000000000 : Int))).map eI) .live]] [(1, ii), (5, .c1 (.c0 (.len ((row0.set (0 + (w64 (v_i + v_t35)).toNat) ((w64 ((w64 (x6 + (w64 (v_x * x3)))) + v_carry)).tmod (1000000000 : Int))).length)))), (6, ii), (7, ii), (8, ii), (26, ii), (27, ii), (28, ii), (33, ii), (34, ii), (35, ii)]]) (nr := 1) (by kernel_rfl) (.c h1 (.c ((h2).1) (.c (lt_mapI (h2).2 : v_t35 < ((v_b.map eI).length : Nat)) (.c (map_get h4 : (v_b.map eI)[v_t35.toNat]? = some (eI x3)) (.c ((h5).1) (.c ((h5).2) (.c (map_get h7 : (row0.map eI)[(0 + (w64 (v_i + v_t35)).toNat)]? = some (eI x6)) (.c (by decide : (1000000000 : Int) ≠ 0) (.c ((h5).1) (.c ((h5).2) (.c (lt_map h8 : (0 + (w64 (v_i + v_t35)).toNat) < (row0.map eI).length) (.c (rfl : 1 = 1) (.c (by decide : (1000000000 : Int) ≠ 0) (.c (row_prf (set_prf (show (row0.map eI) = (row0.map eI) from rfl) (0 + (w64 (v_i + v_t35)).toNat) ((w64 ((w64 (x6 + (w64 (v_x * x3)))) + v_carry)).tmod (1000000000 : Int))) : [Ob.mk 1 ((row0.map eI).set (0 + (w64 (v_i + v_t35)).toNat) [.n .i64 ((w64 ((w64 (x6 + (w64 (v_x * x3)))) + v_carry)).tmod (1000000000 : Int))]) .live] = [Ob.mk 1 ((row0.set (0 + (w64 (v_i + v_t35)).toNat) ((w64 ((w64 (x6 + (w64 (v_x * x3)))) + v_carry)).tmod (1000000000 : Int))).map eI) .live]) (.c (pure_row eI_pure (row0.set (0 + (w64 (v_i + v_t35)).toNat) ((w64 ((w64 (x6 + (w64 (v_x * x3)))) + v_carry)).tmod (1000000000 : Int))) : PureRow [Ob.mk 1 ((row0.set (0 + (w64 (v_i + v_t35)).toNat) ((w64 ((w64 (x6 + (w64 (v_x * x3)))) + v_carry)).tmod (1000000000 : Int))).map eI) .live]) (.c (len_set (show row0.length = row0.length from rfl) (0 + (w64 (v_i + v_t35)).toNat) ((w64 ((w64 (x6 + (w64 (v_x * x3)))) + v_carry)).tmod (1000000000 : Int))) .nil)))))))))))))))) (mkS_free _ _) : spec_l02Mul_L2_V .normal (spec_l02Mul_L2_head v_b v_i v_x v_t26 v_t27 v_t34 v_carry v_t35 row0) (spec_l02Mul_L2_head v_b v_i v_x v_t26 v_t27 v_t34 (w64 ((w64 ((w64 (x6 + (w64 (v_x * x3)))) + v_carry)).tdiv (1000000000 : Int))) (w64 (v_t35 + (1 : Int))) (row0.set (0 + (w64 (v_i + v_t35)).toNat) ((w64 ((w64 (x6 + (w64 (v_x * x3)))) + v_carry)).tmod (1000000000 : Int)))))))
    (fun h1 =>
    .ret ((okC_sound hmix (tape := [.reg [nt], .br false, .rst [0] [.pure] [(1, ii), (5, ii), (6, ii), (8, ii), (26, ii), (27, ii), (28, ii)]]) (nr := 1) (by kernel_rfl) (.c h1 (.c (pure_row eI_pure row0 : PureRow [Ob.mk 1 (row0.map eI) .live]) .nil)) (mkS_free _ _) : spec_l02Mul_L2_V (.exit 2) (spec_l02Mul_L2_head v_b v_i v_x v_t26 v_t27 v_t34 v_carry v_t35 row0) (spec_l02Mul_L2_out v_b v_i v_x v_t26 v_t27 v_t34 (v_carry, row0)))))

theorem spec_l02Mul_L2_ok (v_b : (List Int)) (v_i : Int) (v_x : Int) (v_t26 : (List Int)) (v_t27 : Int) (v_t34 : Int) (v_carry : Int) (v_t35 : Int) (row0 : (List Int)) : ∀ r, spec_l02Mul_L2 v_b v_i v_x v_t26 v_t27 v_t34 v_carry v_t35 row0 = some r → VLoop PP 72 0 (nodeAt (bodyOf PP 40) [1, 1, 1, 0, 1, 0, 0, 1, 1, 0, 0, 1, 1, 0, 1, 0, 0]) (spec_l02Mul_L2_ex r) (spec_l02Mul_L2_head v_b v_i v_x v_t26 v_t27 v_t34 v_carry v_t35 row0) (spec_l02Mul_L2_out v_b v_i v_x v_t26 v_t27 v_t34 r) := fun r h =>
  iter_ok (head := fun w : Int × Int × (List Int) => spec_l02Mul_L2_head v_b v_i v_x v_t26 v_t27 v_t34 w.1 w.2.1 w.2.2) (ex := spec_l02Mul_L2_ex) (out := spec_l02Mul_L2_out v_b v_i v_x v_t26 v_t27 v_t34) (by intro r; unfold spec_l02Mul_L2_ex; split <;> simp) (fun w => spec_l02Mul_L2_body_ok v_b v_i v_x v_t26 v_t27 v_t34 w.1 w.2.1 w.2.2) (v_carry, v_t35, row0) r h

def spec_l02Mul_L3_head (v_b : (List Int)) (v_t26 : (List Int)) (v_t27 : Int) (v_t28 : Int) (row0 : (List Int)) : S := mkS [(1, .isl 1 (v_b.map eI)), (5, .osl 0 0 0 row0.length), (26, .isl 1 (v_t26.map eI)), (27, .n .i64 v_t27), (28, .n .i64 v_t28)] [[Ob.mk 1 (row0.map eI) .live]]

def spec_l02Mul_L3_ex : (List Int) → Exit
  | _ => .exit 0

def spec_l02Mul_L3_out (v_b : (List Int)) (v_t26 : (List Int)) (v_t27 : Int) : (List Int) → S
  | a => mkS [(5, .osl 0 0 0 a.length)] [[Ob.mk 1 (a.map eI) .live]]

abbrev spec_l02Mul_L3_V := VEx PP 72 0 (nodeAt (bodyOf PP 40) [1, 1, 1, 0, 1, 0, 0])

def spec_l02Mul_L3_body (v_b : (List Int)) (v_t26 : (List Int)) (v_t27 : Int) (v_t28 : Int) (row0 : (List Int)) : Option ((Int × (List Int)) ⊕ ((List Int))) :=
  if (decide (v_t28 < v_t27)) = true then
    if 0 ≤ v_t28 ∧ v_t28 < v_t26.length then
    v_t26[v_t28.toNat]? >>= fun x3 =>
    spec_l02Mul_L2 v_b v_t28 x3 v_t26 v_t27 (len_ eI v_b) 0 0 row0 >>= fun r5 =>
    if 0 ≤ (w64 (v_t28 + (len_ eI v_b))) ∧ (w64 (v_t28 + (len_ eI v_b))) < (r5.2.length : Nat) then
    if (0 + (w64 (v_t28 + (len_ eI v_b))).toNat) < r5.2.length then
    some (.inl (w64 (v_t28 + (1 : Int)), r5.2.set (0 + (w64 (v_t28 + (len_ eI v_b))).toNat) r5.1))
    else none
    else none
    else none
  else
    some (.inr row0)

def spec_l02Mul_L3 (v_b : (List Int)) (v_t26 : (List Int)) (v_t27 : Int) (v_t28 : Int) (row0 : (List Int)) : Option ((List Int)) := iter (fun w : Int × (List Int) => spec_l02Mul_L3_body v_b v_t26 v_t27 w.1 w.2) (v_t28, row0)

theorem spec_l02Mul_L3_body_ok (v_b : (List Int)) (v_t26 : (List Int)) (v_t27 : Int) (v_t28 : Int) (row0 : (List Int)) : Wp (spec_l02Mul_L3_body v_b v_t26 v_t27 v_t28 row0) (Sum.elim
    (fun w => spec_l02Mul_L3_V .normal (spec_l02Mul_L3_head v_b v_t26 v_t27 v_t28 row0) (spec_l02Mul_L3_head v_b v_t26 v_t27 w.1 w.2))
    (fun r => spec_l02Mul_L3_V (spec_l02Mul_L3_ex r) (spec_l02Mul_L3_head v_b v_t26 v_t27 v_t28 row0) (spec_l02Mul_L3_out v_b v_t26 v_t27 r))) := by
  unfold spec_l02Mul_L3_body
  exact .ite (fun h1 =>
    .grd fun h2 =>
    .bnd fun x3 h4 =>
    .bnd fun r5 h6 =>
    .grd fun h7 =>
    .grd fun h8 =>
    .ret ((okC_sound hmix (tape := [.reg [nt], .br true, .reg [nt, nt, (.el (eI x3), true), nt, nt], .reg [nt], .reg [nt, nt, nt], .rst [0] [.pure] [(1, ii), (5, ii), (6, ii), (7, ii), (8, ii), (26, ii), (27, ii), (28, ii), (33, ii), (34, ii), (35, ii)], .sub (.exit 2) [(1, .isl 1 (v_b.map eI)), (5, .osl 0 0 0 r5.2.length), (6, .n .i64 v_t28), (8, .n .i64 r5.1), (26, .isl 1 (v_t26.map eI)), (27, .n .i64 v_t27), (28, .n .i64 v_t28)] [[Ob.mk 1 (r5.2.map eI) .live]], .reg [nt, nt, nt, nt, nt, nt, nt, (.bd, true)], .reg [nt, nt], .rst [0] [.as [Ob.mk 1 ((r5.2.set (0 + (w64 (v_t28 + (len_ eI v_b))).toNat) r5.1).map eI) .live]] [(1, ii), (5, .c1 (.c0 (.len ((r5.2.set (0 + (w64 (v_t28 + (len_ eI v_b))).toNat) r5.1).length)))), (26, ii), (27, ii), (28, ii)]]) (nr := 1) (by kernel_rfl) (.c h1 (.c ((h2).1) (.c (lt_mapI (h2).2 : v_t28 < ((v_t26.map eI).length : Nat)) (.c (map_get h4 : (v_t26.map eI)[v_t28.toNat]? = some (eI x3)) (.c (pure_row eI_pure row0 : PureRow [Ob.mk 1 (row0.map eI) .live]) (.c ((spec_l02Mul_L2_ok v_b v_t28 x3 v_t26 v_t27 (len_ eI v_b) 0 0 row0 r5 h6).vex) (.c ((h7).1) (.c ((h7).2) (.c (lt_map h8 : (0 + (w64 (v_t28 + (len_ eI v_b))).toNat) < (r5.2.map eI).length) (.c (rfl : 1 = 1) (.c (row_prf (set_prf (show (r5.2.map eI) = (r5.2.map eI) from rfl) (0 + (w64 (v_t28 + (len_ eI v_b))).toNat) r5.1) : [Ob.mk 1 ((r5.2.map eI).set (0 + (w64 (v_t28 + (len_ eI v_b))).toNat) [.n .i64 r5.1]) .live] = [Ob.mk 1 ((r5.2.set (0 + (w64 (v_t28 + (len_ eI v_b))).toNat) r5.1).map eI) .live]) (.c (pure_row eI_pure (r5.2.set (0 + (w64 (v_t28 + (len_ eI v_b))).toNat) r5.1) : PureRow [Ob.mk 1 ((r5.2.set (0 + (w64 (v_t28 + (len_ eI v_b))).toNat) r5.1).map eI) .live]) (.c (len_set (show r5.2.length = r5.2.length from rfl) (0 + (w64 (v_t28 + (len_ eI v_b))).toNat) r5.1) .nil))))))))))))) (mkS_free _ _) : spec_l02Mul_L3_V .normal (spec_l02Mul_L3_head v_b v_t26 v_t27 v_t28 row0) (spec_l02Mul_L3_head v_b v_t26 v_t27 (w64 (v_t28 + (1 : Int))) (r5.2.set (0 + (w64 (v_t28 + (len_ eI v_b))).toNat) r5.1)))))
    (fun h1 =>
    .ret ((okC_sound hmix (tape := [.reg [nt], .br false, .rst [0] [.pure] [(5, ii)]]) (nr := 1) (by kernel_rfl) (.c h1 (.c (pure_row eI_pure row0 : PureRow [Ob.mk 1 (row0.map eI) .live]) .nil)) (mkS_free _ _) : spec_l02Mul_L3_V (.exit 0) (spec_l02Mul_L3_head v_b v_t26 v_t27 v_t28 row0) (spec_l02Mul_L3_out v_b v_t26 v_t27 row0))))

theorem spec_l02Mul_L3_ok (v_b : (List Int)) (v_t26 : (List Int)) (v_t27 : Int) (v_t28 : Int) (row0 : (List Int)) : ∀ r, spec_l02Mul_L3 v_b v_t26 v_t27 v_t28 row0 = some r → VLoop PP 72 0 (nodeAt (bodyOf PP 40) [1, 1, 1, 0, 1, 0, 0]) (spec_l02Mul_L3_ex r) (spec_l02Mul_L3_head v_b v_t26 v_t27 v_t28 row0) (spec_l02Mul_L3_out v_b v_t26 v_t27 r) := fun r h =>
  iter_ok (head := fun w : Int × (List Int) => spec_l02Mul_L3_head v_b v_t26 v_t27 w.1 w.2) (ex := spec_l02Mul_L3_ex) (out := spec_l02Mul_L3_out v_b v_t26 v_t27) (by intro r; unfold spec_l02Mul_L3_ex; split <;> simp) (fun w => spec_l02Mul_L3_body_ok v_b v_t26 v_t27 w.1 w.2) (v_t28, row0) r h

def spec_l02Mul (v_a : (List Int)) (v_b : (List Int)) : Option (List Int) :=
  if ((len_ eI v_a) == (0 : Int)) = true then
    some ([] : List Int)
  else
    if ((len_ eI v_b) == (0 : Int)) = true then
      some ([] : List Int)
    else
      if 0 ≤ (w64 ((len_ eI v_a) + (len_ eI v_b))) ∧ (8 : Int) * (w64 ((len_ eI v_a) + (len_ eI v_b))) ≤ 281474976710656 ∧ (w64 ((len_ eI v_a) + (len_ eI v_b))) < 9223372036854775808 then
      spec_l02Mul_L3 v_b v_a (len_ eI v_a) 0 (List.replicate (w64 ((len_ eI v_a) + (len_ eI v_b))).toNat 0 : List Int) >>= fun r4 =>
      spec_l02Trim r4 >>= fun r6 =>
      some r6
      else none

theorem spec_l02Mul_ok (v_a : (List Int)) (v_b : (List Int)) : Wp (spec_l02Mul v_a v_b) (fun r => Con PP 40 [.isl 1 (v_a.map eI), .isl 1 (v_b.map eI)] [] (.isl 1 (r.map eI)) []) := by
  unfold spec_l02Mul
  exact .ite (fun h1 =>
    .ret (runF_con0 hmix (tape := [.reg [nt], .reg [nt, nt, nt, nt, nf, nf, nf, (.br true, true)], .br true, .reg [nt]]) (rr := .c1 (.c0 (.nl 1))) (by kernel_rfl) (.c h1 (.c h1 (.c h1 (.c h1 (.c (rfl : true = true) .nil)))))))
    (fun h1 =>
    (let t1 : List TE := [.reg [nt], .reg [nt, nt, nt, nt, nt, nt, nt, (.br false, true)]];
    .ite (fun h2 =>
    .ret (runF_con0 hmix (tape := t1 ++ ([.br true, .reg [nt]] : List TE)) (rr := .c1 (.c0 (.nl 1))) (by kernel_rfl) (.c h1 (.c h1 (.c h1 (.c h1 (.c h2 .nil)))))))
    (fun h2 =>
    .grd fun h3 =>
    .bnd fun r4 h5 =>
    .bnd fun r6 h7 =>
    .ret (runF_con0 hmix (tape := t1 ++ ([.br false, .reg [nt, nt, nt, nt, nt, nt, nt], .reg [nt, nt, nt], .rst [14] [.as [Ob.mk 1 ((List.replicate (w64 ((len_ eI v_a) + (len_ eI v_b))).toNat 0 : List Int).map eI) .live]] [(1, ii), (5, .c1 (.c0 (.len ((List.replicate (w64 ((len_ eI v_a) + (len_ eI v_b))).toNat 0 : List Int).length)))), (26, ii), (27, ii), (28, ii)], .sub (.exit 0) [(5, .osl 0 0 0 r4.length)] [[Ob.mk 1 (r4.map eI) .live]], .frz 0, .reg [nt, (.call { ac := [.c1 (.c0 (.sl (r4.map eI)))], rds := [0], r := .isl 1 (r6.map eI), sc := false }, true), nt]] : List TE)) (rr := ii) (by kernel_rfl) (.c h1 (.c h1 (.c h1 (.c h1 (.c h2 (.c ((h3).1) (.c (Int.le_refl (w64 ((len_ eI v_a) + (len_ eI v_b)))) (.c ((h3).2.1) (.c ((h3).2.2) (.c (row_prf (rep_prf eI (w64 ((len_ eI v_a) + (len_ eI v_b))).toNat 0) : [Ob.mk 1 (List.replicate (w64 ((len_ eI v_a) + (len_ eI v_b))).toNat [.n .i64 (0 : Int)]) .live] = [Ob.mk 1 ((List.replicate (w64 ((len_ eI v_a) + (len_ eI v_b))).toNat 0 : List Int).map eI) .live]) (.c (pure_row eI_pure (List.replicate (w64 ((len_ eI v_a) + (len_ eI v_b))).toNat 0 : List Int) : PureRow [Ob.mk 1 ((List.replicate (w64 ((len_ eI v_a) + (len_ eI v_b))).toNat 0 : List Int).map eI) .live]) (.c (len_rep (w64 ((len_ eI v_a) + (len_ eI v_b))).toNat (0 : Int)) (.c ((spec_l02Mul_L3_ok v_b v_a (len_ eI v_a) 0 (List.replicate (w64 ((len_ eI v_a) + (len_ eI v_b))).toNat 0 : List Int) r4 h5).vex) (.c (snap_full (show (r4.map eI) = (r4.map eI) from rfl) (show r4.length = r4.length from rfl)) (.c (fit_full (show (r4.map eI) = (r4.map eI) from rfl) (show r4.length = r4.length from rfl)) (.c (pure_map eI_pure r4) (.c (spec_l02Trim_ok r4 r6 h7) .nil)))))))))))))))))))))

def spec_l02Digit_L1_head (v_r : (List Int)) (v_b : (List Int)) (v_lo : Int) (v_hi : Int) : S := mkS [(0, .isl 1 (v_r.map eI)), (1, .isl 1 (v_b.map eI)), (7, .n .i64 v_lo), (8, .n .i64 v_hi)] []

def spec_l02Digit_L1_ex : Int → Exit
  | _ => .exit 0

def spec_l02Digit_L1_out (v_r : (List Int)) (v_b : (List Int)) : Int → S
  | a => mkS [(7, .n .i64 a)] []

abbrev spec_l02Digit_L1_V := VEx PP 63 0 (nodeAt (bodyOf PP 107) [1, 1, 1, 1, 1, 1, 0, 0, 0])

def spec_l02Digit_L1_body (v_r : (List Int)) (v_b : (List Int)) (v_lo : Int) (v_hi : Int) : Option ((Int × Int) ⊕ (Int)) :=
  if (decide (v_lo < v_hi)) = true then
    spec_NatOf (w64 ((w64 ((w64 (v_lo + v_hi)) + (1 : Int))).tdiv (2 : Int))) >>= fun r2 =>
    spec_l02Mul v_b r2 >>= fun r4 =>
    spec_l02Cmp r4 v_r >>= fun r6 =>
    if (decide (r6 ≤ (0 : Int))) = true then
      some (.inl (w64 ((w64 ((w64 (v_lo + v_hi)) + (1 : Int))).tdiv (2 : Int)), v_hi))
    else
      some (.inl (v_lo, w64 ((w64 ((w64 ((w64 (v_lo + v_hi)) + (1 : Int))).tdiv (2 : Int))) - (1 : Int))))
  else
    some (.inr v_lo)

def spec_l02Digit_L1 (v_r : (List Int)) (v_b : (List Int)) (v_lo : Int) (v_hi : Int) : Option (Int) := iter (fun w : Int × Int => spec_l02Digit_L1_body v_r v_b w.1 w.2) (v_lo, v_hi)

theorem spec_l02Digit_L1_body_ok (v_r : (List Int)) (v_b : (List Int)) (v_lo : Int) (v_hi : Int) : Wp (spec_l02Digit_L1_body v_r v_b v_lo v_hi) (Sum.elim
    (fun w => spec_l02Digit_L1_V .normal (spec_l02Digit_L1_head v_r v_b v_lo v_hi) (spec_l02Digit_L1_head v_r v_b w.1 w.2))
    (fun r => spec_l02Digit_L1_V (spec_l02Digit_L1_ex r) (spec_l02Digit_L1_head v_r v_b v_lo v_hi) (spec_l02Digit_L1_out v_r v_b r))) := by
  unfold spec_l02Digit_L1_body
  exact (let t1 : List TE := [.reg [nt, nt, nt]];
    .ite (fun h1 =>
    .bnd fun r2 h3 =>
    .bnd fun r4 h5 =>
    .bnd fun r6 h7 =>
    (let t2 : List TE := t1 ++ ([.br true, .reg [nt, nt, nt, nt, nt, nt], .reg [nt, nt, (.call { ac := [ii], r := .isl 1 (r2.map eI), sc := false }, true), (.call { ac := [ii, ii], r := .isl 1 (r4.map eI), sc := false }, true), nt, (.call { ac := [ii, ii], r := .n .i64 r6, sc := true }, true), nt]] : List TE);
    have o3 := ((.c h1 (.c (by decide : (2 : Int) ≠ 0) (.c (spec_NatOf_ok (w64 ((w64 ((w64 (v_lo + v_hi)) + (1 : Int))).tdiv (2 : Int))) r2 h3) (.c (spec_l02Mul_ok v_b r2 r4 h5) (.c (spec_l02Cmp_ok r4 v_r r6 h7) (.c (Sc.n _ _ : Sc (.n .i64 r6)) .nil)))))) : AllP _);
    .ite (fun h8 =>
    .ret ((okC_sound hmix (tape := t2 ++ ([.br true, .reg [nt, nt], .rst [] [] [(0, ii), (1, ii), (7, ii), (8, ii)]] : List TE)) (nr := 0) (by kernel_rfl) (o3.app (.c h8 .nil)) (mkS_free _ _) : spec_l02Digit_L1_V .normal (spec_l02Digit_L1_head v_r v_b v_lo v_hi) (spec_l02Digit_L1_head v_r v_b (w64 ((w64 ((w64 (v_lo + v_hi)) + (1 : Int))).tdiv (2 : Int))) v_hi))))
    (fun h8 =>
    .ret ((okC_sound hmix (tape := t2 ++ ([.br false, .reg [nt, nt, nt], .rst [] [] [(0, ii), (1, ii), (7, ii), (8, ii)]] : List TE)) (nr := 0) (by kernel_rfl) (o3.app (.c h8 .nil)) (mkS_free _ _) : spec_l02Digit_L1_V .normal (spec_l02Digit_L1_head v_r v_b v_lo v_hi) (spec_l02Digit_L1_head v_r v_b v_lo (w64 ((w64 ((w64 ((w64 (v_lo + v_hi)) + (1 : Int))).tdiv (2 : Int))) - (1 : Int)))))))))
    (fun h1 =>
    .ret ((okC_sound hmix (tape := t1 ++ ([.br false, .rst [] [] [(7, ii)]] : List TE)) (nr := 0) (by kernel_rfl) (.c h1 .nil) (mkS_free _ _) : spec_l02Digit_L1_V (.exit 0) (spec_l02Digit_L1_head v_r v_b v_lo v_hi) (spec_l02Digit_L1_out v_r v_b v_lo)))))

theorem spec_l02Digit_L1_ok (v_r : (List Int)) (v_b : (List Int)) (v_lo : Int) (v_hi : Int) : ∀ r, spec_l02Digit_L1 v_r v_b v_lo v_hi = some r → VLoop PP 63 0 (nodeAt (bodyOf PP 107) [1, 1, 1, 1, 1, 1, 0, 0, 0]) (spec_l02Digit_L1_ex r) (spec_l02Digit_L1_head v_r v_b v_lo v_hi) (spec_l02Digit_L1_out v_r v_b r) := fun r h =>
  iter_ok (head := fun w : Int × Int => spec_l02Digit_L1_head v_r v_b w.1 w.2) (ex := spec_l02Digit_L1_ex) (out := spec_l02Digit_L1_out v_r v_b) (by intro r; unfold spec_l02Digit_L1_ex; split <;> simp) (fun w => spec_l02Digit_L1_body_ok v_r v_b w.1 w.2) (v_lo, v_hi) r h

def spec_l02Digit (v_r : (List Int)) (v_b : (List Int)) : Option Int :=
  if 0 ≤ (w64 ((len_ eI v_b) - (1 : Int))) ∧ (w64 ((len_ eI v_b) - (1 : Int))) < v_r.length then
  v_r[(w64 ((len_ eI v_b) - (1 : Int))).toNat]? >>= fun x2 =>
  if (decide ((len_ eI v_b) < (len_ eI v_r))) = true then
    if 0 ≤ (len_ eI v_b) ∧ (len_ eI v_b) < v_r.length then
    v_r[(len_ eI v_b).toNat]? >>= fun x6 =>
    if 0 ≤ (w64 ((len_ eI v_b) - (1 : Int))) ∧ (w64 ((len_ eI v_b) - (1 : Int))) < v_b.length then
    v_b[(w64 ((len_ eI v_b) - (1 : Int))).toNat]? >>= fun x9 =>
    if (w64 (x9 + (1 : Int))) ≠ 0 then
    if x9 ≠ 0 then
    spec_l02Digit_L1 v_r v_b (w64 ((w64 (x2 + (w64 (x6 * (1000000000 : Int))))).tdiv (w64 (x9 + (1 : Int))))) (if (w64 ((w64 (x2 + (w64 (x6 * (1000000000 : Int))))).tdiv x9)) < (999999999 : Int) then (w64 ((w64 (x2 + (w64 (x6 * (1000000000 : Int))))).tdiv x9)) else (999999999 : Int)) >>= fun r13 =>
    some r13
    else none
    else none
    else none
    else none
  else
    if 0 ≤ (w64 ((len_ eI v_b) - (1 : Int))) ∧ (w64 ((len_ eI v_b) - (1 : Int))) < v_b.length then
    v_b[(w64 ((len_ eI v_b) - (1 : Int))).toNat]? >>= fun x6 =>
    if (w64 (x6 + (1 : Int))) ≠ 0 then
    if x6 ≠ 0 then
    spec_l02Digit_L1 v_r v_b (w64 (x2.tdiv (w64 (x6 + (1 : Int))))) (if (w64 (x2.tdiv x6)) < (999999999 : Int) then (w64 (x2.tdiv x6)) else (999999999 : Int)) >>= fun r10 =>
    some r10
    else none
    else none
    else none
  else none

theorem spec_l02Digit_ok (v_r : (List Int)) (v_b : (List Int)) : Wp (spec_l02Digit v_r v_b) (fun r => Con PP 107 [.isl 1 (v_r.map eI), .isl 1 (v_b.map eI)] [] (.n .i64 r) []) := by
  unfold spec_l02Digit
  exact .grd fun h1 =>
    .bnd fun x2 h3 =>
    (let t1 : List TE := [.reg [nt], .reg [nt, nt, nt], .reg [nt, nt, nt, nt, (.el (eI x2), true), nt], .reg [nt, nt, nt, nt]];
    have o2 := ((.c ((h1).1) (.c (lt_mapI (h1).2 : (w64 ((len_ eI v_b) - (1 : Int))) < ((v_r.map eI).length : Nat)) (.c (map_get h3 : (v_r.map eI)[(w64 ((len_ eI v_b) - (1 : Int))).toNat]? = some (eI x2)) .nil))) : AllP _);
    .ite (fun h4 =>
    .grd fun h5 =>
    .bnd fun x6 h7 =>
    .grd fun h8 =>
    .bnd fun x9 h10 =>
    .grd fun h11 =>
    .grd fun h12 =>
    .bnd fun r13 h14 =>
    .ret (runF_con0 hmix (tape := t1 ++ ([.br true, .reg [nt, nt, nt, nt, (.el (eI x6), true), nt, nt, nt], .reg [nt, nt, nt, nt, nt, (.el (eI x9), true), nt, nt, nt], .reg [nt, nt, nt, nt, nt, (.el (eI x9), true), nt, nt, nt], .rst [] [] [(0, ii), (1, ii), (7, ii), (8, ii)], .sub (.exit 0) [(7, .n .i64 r13)] [], .reg [nt, nt]] : List TE)) (rr := ii) (by kernel_rfl) (o2.app (.c h4 (.c ((h5).1) (.c (lt_mapI (h5).2 : (len_ eI v_b) < ((v_r.map eI).length : Nat)) (.c (map_get h7 : (v_r.map eI)[(len_ eI v_b).toNat]? = some (eI x6)) (.c ((h8).1) (.c (lt_mapI (h8).2 : (w64 ((len_ eI v_b) - (1 : Int))) < ((v_b.map eI).length : Nat)) (.c (map_get h10 : (v_b.map eI)[(w64 ((len_ eI v_b) - (1 : Int))).toNat]? = some (eI x9)) (.c h11 (.c ((h8).1) (.c (lt_mapI (h8).2 : (w64 ((len_ eI v_b) - (1 : Int))) < ((v_b.map eI).length : Nat)) (.c (map_get h10 : (v_b.map eI)[(w64 ((len_ eI v_b) - (1 : Int))).toNat]? = some (eI x9)) (.c h12 (.c ((spec_l02Digit_L1_ok v_r v_b (w64 ((w64 (x2 + (w64 (x6 * (1000000000 : Int))))).tdiv (w64 (x9 + (1 : Int))))) (if (w64 ((w64 (x2 + (w64 (x6 * (1000000000 : Int))))).tdiv x9)) < (999999999 : Int) then (w64 ((w64 (x2 + (w64 (x6 * (1000000000 : Int))))).tdiv x9)) else (999999999 : Int)) r13 h14).vex) .nil))))))))))))))))
    (fun h4 =>
    .grd fun h5 =>
    .bnd fun x6 h7 =>
    .grd fun h8 =>
    .grd fun h9 =>
    .bnd fun r10 h11 =>
    .ret (runF_con0 hmix (tape := t1 ++ ([.br false, .reg [nt, nt, nt, nt, nt, (.el (eI x6), true), nt, nt, nt], .reg [nt, nt, nt, nt, nt, (.el (eI x6), true), nt, nt, nt], .rst [] [] [(0, ii), (1, ii), (7, ii), (8, ii)], .sub (.exit 0) [(7, .n .i64 r10)] [], .reg [nt, nt]] : List TE)) (rr := ii) (by kernel_rfl) (o2.app (.c h4 (.c ((h5).1) (.c (lt_mapI (h5).2 : (w64 ((len_ eI v_b) - (1 : Int))) < ((v_b.map eI).length : Nat)) (.c (map_get h7 : (v_b.map eI)[(w64 ((len_ eI v_b) - (1 : Int))).toNat]? = some (eI x6)) (.c h8 (.c ((h5).1) (.c (lt_mapI (h5).2 : (w64 ((len_ eI v_b) - (1 : Int))) < ((v_b.map eI).length : Nat)) (.c (map_get h7 : (v_b.map eI)[(w64 ((len_ eI v_b) - (1 : Int))).toNat]? = some (eI x6)) (.c h9 (.c ((spec_l02Digit_L1_ok v_r v_b (w64 (x2.tdiv (w64 (x6 + (1 : Int))))) (if (w64 (x2.tdiv x6)) < (999999999 : Int) then (w64 (x2.tdiv x6)) else (999999999 : Int)) r10 h11).vex) .nil))))))))))))))

def spec_l02Sub_L1_head (v_a : (List Int)) (v_b : (List Int)) (v_t11 : Int) (v_less : Int) (v_t12 : Int) (row0 : (List Int)) : S := mkS [(0, .isl 1 (v_a.map eI)), (1, .isl 1 (v_b.map eI)), (5, .osl 0 0 0 row0.length), (6, .n .i64 v_less), (11, .n .i64 v_t11), (12, .n .i64 v_t12)] [[Ob.mk 1 (row0.map eI) .live]]

def spec_l02Sub_L1_ex : (List Int) → Exit
  | _ => .exit 0

def spec_l02Sub_L1_out (v_a : (List Int)) (v_b : (List Int)) (v_t11 : Int) : (List Int) → S
  | a => mkS [(5, .osl 0 0 0 a.length)] [[Ob.mk 1 (a.map eI) .live]]

abbrev spec_l02Sub_L1_V := VEx PP 42 0 (nodeAt (bodyOf PP 108) [1, 1, 1, 0, 1, 0, 0])

def spec_l02Sub_L1_body (v_a : (List Int)) (v_b : (List Int)) (v_t11 : Int) (v_less : Int) (v_t12 : Int) (row0 : (List Int)) : Option ((Int × Int × (List Int)) ⊕ ((List Int))) :=
  if (decide (v_t12 < v_t11)) = true then
    if 0 ≤ v_t12 ∧ v_t12 < v_a.length then
    v_a[v_t12.toNat]? >>= fun x3 =>
    if (decide (v_t12 < (len_ eI v_b))) = true then
      if 0 ≤ v_t12 ∧ v_t12 < v_b.length then
      v_b[v_t12.toNat]? >>= fun x7 =>
      if (decide ((w64 ((w64 (x3 - v_less)) - x7)) < (0 : Int))) = true then
        if (row0 ++ ([w64 ((w64 ((w64 (x3 - v_less)) - x7)) + (1000000000 : Int))] : List Int)).length * 8 ≤ 140737488355328 then
        some (.inl (1, w64 (v_t12 + (1 : Int)), row0 ++ ([w64 ((w64 ((w64 (x3 - v_less)) - x7)) + (1000000000 : Int))] : List Int)))
        else none
      else
        if (row0 ++ ([w64 ((w64 (x3 - v_less)) - x7)] : List Int)).length * 8 ≤ 140737488355328 then
        some (.inl (0, w64 (v_t12 + (1 : Int)), row0 ++ ([w64 ((w64 (x3 - v_less)) - x7)] : List Int)))
        else none
      else none
    else
      if (decide ((w64 (x3 - v_less)) < (0 : Int))) = true then
        if (row0 ++ ([w64 ((w64 (x3 - v_less)) + (1000000000 : Int))] : List Int)).length * 8 ≤ 140737488355328 then
        some (.inl (1, w64 (v_t12 + (1 : Int)), row0 ++ ([w64 ((w64 (x3 - v_less)) + (1000000000 : Int))] : List Int)))
        else none
      else
        if (row0 ++ ([w64 (x3 - v_less)] : List Int)).length * 8 ≤ 140737488355328 then
        some (.inl (0, w64 (v_t12 + (1 : Int)), row0 ++ ([w64 (x3 - v_less)] : List Int)))
        else none
    else none
  else
    some (.inr row0)

def spec_l02Sub_L1 (v_a : (List Int)) (v_b : (List Int)) (v_t11 : Int) (v_less : Int) (v_t12 : Int) (row0 : (List Int)) : Option ((List Int)) := iter (fun w : Int × Int × (List Int) => spec_l02Sub_L1_body v_a v_b v_t11 w.1 w.2.1 w.2.2) (v_less, v_t12, row0)

theorem spec_l02Sub_L1_body_ok (v_a : (List Int)) (v_b : (List Int)) (v_t11 : Int) (v_less : Int) (v_t12 : Int) (row0 : (List Int)) : Wp (spec_l02Sub_L1_body v_a v_b v_t11 v_less v_t12 row0) (Sum.elim
    (fun w => spec_l02Sub_L1_V .normal (spec_l02Sub_L1_head v_a v_b v_t11 v_less v_t12 row0) (spec_l02Sub_L1_head v_a v_b v_t11 w.1 w.2.1 w.2.2))
    (fun r => spec_l02Sub_L1_V (spec_l02Sub_L1_ex r) (spec_l02Sub_L1_head v_a v_b v_t11 v_less v_t12 row0) (spec_l02Sub_L1_out v_a v_b v_t11 r))) := by
  unfold spec_l02Sub_L1_body
  exact .ite (fun h1 =>
    .grd fun h2 =>
    .bnd fun x3 h4 =>
    (let t1 : List TE := [.reg [nt], .br true, .reg [nt, nt], .reg [nt, nt, nt, (.el (eI x3), true), nt, nt, nt], .reg [nt, nt, nt, nt]];
    have o2 := ((.c h1 (.c ((h2).1) (.c (lt_mapI (h2).2 : v_t12 < ((v_a.map eI).length : Nat)) (.c (map_get h4 : (v_a.map eI)[v_t12.toNat]? = some (eI x3)) .nil)))) : AllP _);
    .ite (fun h5 =>
    .grd fun h6 =>
    .bnd fun x7 h8 =>
    (let t3 : List TE := t1 ++ ([.br true, .reg [nt, nt, nt, nt, (.el (eI x7), true), nt, nt], .reg [nt], .reg [nt, nt]] : List TE);
    have o4 := o2.app (.c h5 (.c ((h6).1) (.c (lt_mapI (h6).2 : v_t12 < ((v_b.map eI).length : Nat)) (.c (map_get h8 : (v_b.map eI)[v_t12.toNat]? = some (eI x7)) .nil))));
    .ite (fun h9 =>
    .grd fun h10 =>
    .ret ((okC_sound hmix (tape := t3 ++ ([.br true, .reg [nt, nt, nt], .reg [nt], .reg [nt, nt, nt, (.app ((row0 ++ ([w64 ((w64 ((w64 (x3 - v_less)) - x7)) + (1000000000 : Int))] : List Int)).length), true), nt], .reg [nt, nt], .rst [32] [.as [Ob.mk 1 ((row0 ++ ([w64 ((w64 ((w64 (x3 - v_less)) - x7)) + (1000000000 : Int))] : List Int)).map eI) .live]] [(0, ii), (1, ii), (5, ii), (6, ii), (11, ii), (12, ii)]] : List TE)) (nr := 1) (by kernel_rfl) (o4.app (.c h9 (.c (fit_full (show [[.n .i64 (w64 ((w64 ((w64 (x3 - v_less)) - x7)) + (1000000000 : Int)))]] = (([w64 ((w64 ((w64 (x3 - v_less)) - x7)) + (1000000000 : Int))] : List Int)).map eI from rfl) (show 1 = ([w64 ((w64 ((w64 (x3 - v_less)) - x7)) + (1000000000 : Int))] : List Int).length from rfl)) (.c (le_full (show (row0.map eI) = (row0.map eI) from rfl) (show row0.length = row0.length from rfl)) (.c (len_app (show row0.length = row0.length from rfl) (tk_prf (show [[.n .i64 (w64 ((w64 ((w64 (x3 - v_less)) - x7)) + (1000000000 : Int)))]] = (([w64 ((w64 ((w64 (x3 - v_less)) - x7)) + (1000000000 : Int))] : List Int)).map eI from rfl) (show 1 = ([w64 ((w64 ((w64 (x3 - v_less)) - x7)) + (1000000000 : Int))] : List Int).length from rfl)) : (row0 ++ ([w64 ((w64 ((w64 (x3 - v_less)) - x7)) + (1000000000 : Int))] : List Int)).length = row0.length + (([[.n .i64 (w64 ((w64 ((w64 (x3 - v_less)) - x7)) + (1000000000 : Int)))]].drop 0).take 1).length) (.c h10 (.c (row_prf (app_full (show (row0.map eI) = (row0.map eI) from rfl) (show row0.length = row0.length from rfl) (tk_prf (show [[.n .i64 (w64 ((w64 ((w64 (x3 - v_less)) - x7)) + (1000000000 : Int)))]] = (([w64 ((w64 ((w64 (x3 - v_less)) - x7)) + (1000000000 : Int))] : List Int)).map eI from rfl) (show 1 = ([w64 ((w64 ((w64 (x3 - v_less)) - x7)) + (1000000000 : Int))] : List Int).length from rfl))) : [Ob.mk 1 ((row0.map eI).take row0.length ++ (([[.n .i64 (w64 ((w64 ((w64 (x3 - v_less)) - x7)) + (1000000000 : Int)))]].drop 0).take 1)) .live] = [Ob.mk 1 ((row0 ++ ([w64 ((w64 ((w64 (x3 - v_less)) - x7)) + (1000000000 : Int))] : List Int)).map eI) .live]) (.c (pure_row eI_pure (row0 ++ ([w64 ((w64 ((w64 (x3 - v_less)) - x7)) + (1000000000 : Int))] : List Int)) : PureRow [Ob.mk 1 ((row0 ++ ([w64 ((w64 ((w64 (x3 - v_less)) - x7)) + (1000000000 : Int))] : List Int)).map eI) .live]) .nil)))))))) (mkS_free _ _) : spec_l02Sub_L1_V .normal (spec_l02Sub_L1_head v_a v_b v_t11 v_less v_t12 row0) (spec_l02Sub_L1_head v_a v_b v_t11 1 (w64 (v_t12 + (1 : Int))) (row0 ++ ([w64 ((w64 ((w64 (x3 - v_less)) - x7)) + (1000000000 : Int))] : List Int))))))
    (fun h9 =>
    .grd fun h10 =>
    .ret ((okC_sound hmix (tape := t3 ++ ([.br false, .reg [nt, nt, nt, (.app ((row0 ++ ([w64 ((w64 (x3 - v_less)) - x7)] : List Int)).length), true), nt], .reg [nt, nt], .rst [28] [.as [Ob.mk 1 ((row0 ++ ([w64 ((w64 (x3 - v_less)) - x7)] : List Int)).map eI) .live]] [(0, ii), (1, ii), (5, ii), (6, ii), (11, ii), (12, ii)]] : List TE)) (nr := 1) (by kernel_rfl) (o4.app (.c h9 (.c (fit_full (show [[.n .i64 (w64 ((w64 (x3 - v_less)) - x7))]] = (([w64 ((w64 (x3 - v_less)) - x7)] : List Int)).map eI from rfl) (show 1 = ([w64 ((w64 (x3 - v_less)) - x7)] : List Int).length from rfl)) (.c (le_full (show (row0.map eI) = (row0.map eI) from rfl) (show row0.length = row0.length from rfl)) (.c (len_app (show row0.length = row0.length from rfl) (tk_prf (show [[.n .i64 (w64 ((w64 (x3 - v_less)) - x7))]] = (([w64 ((w64 (x3 - v_less)) - x7)] : List Int)).map eI from rfl) (show 1 = ([w64 ((w64 (x3 - v_less)) - x7)] : List Int).length from rfl)) : (row0 ++ ([w64 ((w64 (x3 - v_less)) - x7)] : List Int)).length = row0.length + (([[.n .i64 (w64 ((w64 (x3 - v_less)) - x7))]].drop 0).take 1).length) (.c h10 (.c (row_prf (app_full (show (row0.map eI) = (row0.map eI) from rfl) (show row0.length = row0.length from rfl) (tk_prf (show [[.n .i64 (w64 ((w64 (x3 - v_less)) - x7))]] = (([w64 ((w64 (x3 - v_less)) - x7)] : List Int)).map eI from rfl) (show 1 = ([w64 ((w64 (x3 - v_less)) - x7)] : List Int).length from rfl))) : [Ob.mk 1 ((row0.map eI).take row0.length ++ (([[.n .i64 (w64 ((w64 (x3 - v_less)) - x7))]].drop 0).take 1)) .live] = [Ob.mk 1 ((row0 ++ ([w64 ((w64 (x3 - v_less)) - x7)] : List Int)).map eI) .live]) (.c (pure_row eI_pure (row0 ++ ([w64 ((w64 (x3 - v_less)) - x7)] : List Int)) : PureRow [Ob.mk 1 ((row0 ++ ([w64 ((w64 (x3 - v_less)) - x7)] : List Int)).map eI) .live]) .nil)))))))) (mkS_free _ _) : spec_l02Sub_L1_V .normal (spec_l02Sub_L1_head v_a v_b v_t11 v_less v_t12 row0) (spec_l02Sub_L1_head v_a v_b v_t11 0 (w64 (v_t12 + (1 : Int))) (row0 ++ ([w64 ((w64 (x3 - v_less)) - x7)] : List Int))))))))
    (fun h5 =>
    (let t3 : List TE := t1 ++ ([.br false, .reg [nt], .reg [nt, nt]] : List TE);
    .ite (fun h6 =>
    .grd fun h7 =>
    .ret ((okC_sound hmix (tape := t3 ++ ([.br true, .reg [nt, nt, nt], .reg [nt], .reg [nt, nt, nt, (.app ((row0 ++ ([w64 ((w64 (x3 - v_less)) + (1000000000 : Int))] : List Int)).length), true), nt], .reg [nt, nt], .rst [25] [.as [Ob.mk 1 ((row0 ++ ([w64 ((w64 (x3 - v_less)) + (1000000000 : Int))] : List Int)).map eI) .live]] [(0, ii), (1, ii), (5, ii), (6, ii), (11, ii), (12, ii)]] : List TE)) (nr := 1) (by kernel_rfl) (o2.app (.c h5 (.c h6 (.c (fit_full (show [[.n .i64 (w64 ((w64 (x3 - v_less)) + (1000000000 : Int)))]] = (([w64 ((w64 (x3 - v_less)) + (1000000000 : Int))] : List Int)).map eI from rfl) (show 1 = ([w64 ((w64 (x3 - v_less)) + (1000000000 : Int))] : List Int).length from rfl)) (.c (le_full (show (row0.map eI) = (row0.map eI) from rfl) (show row0.length = row0.length from rfl)) (.c (len_app (show row0.length = row0.length from rfl) (tk_prf (show [[.n .i64 (w64 ((w64 (x3 - v_less)) + (1000000000 : Int)))]] = (([w64 ((w64 (x3 - v_less)) + (1000000000 : Int))] : List Int)).map eI from rfl) (show 1 = ([w64 ((w64 (x3 - v_less)) + (1000000000 : Int))] : List Int).length from rfl)) : (row0 ++ ([w64 ((w64 (x3 - v_less)) + (1000000000 : Int))] : List Int)).length = row0.length + (([[.n .i64 (w64 ((w64 (x3 - v_less)) + (1000000000 : Int)))]].drop 0).take 1).length) (.c h7 (.c (row_prf (app_full (show (row0.map eI) = (row0.map eI) from rfl) (show row0.length = row0.length from rfl) (tk_prf (show [[.n .i64 (w64 ((w64 (x3 - v_less)) + (1000000000 : Int)))]] = (([w64 ((w64 (x3 - v_less)) + (1000000000 : Int))] : List Int)).map eI from rfl) (show 1 = ([w64 ((w64 (x3 - v_less)) + (1000000000 : Int))] : List Int).length from rfl))) : [Ob.mk 1 ((row0.map eI).take row0.length ++ (([[.n .i64 (w64 ((w64 (x3 - v_less)) + (1000000000 : Int)))]].drop 0).take 1)) .live] = [Ob.mk 1 ((row0 ++ ([w64 ((w64 (x3 - v_less)) + (1000000000 : Int))] : List Int)).map eI) .live]) (.c (pure_row eI_pure (row0 ++ ([w64 ((w64 (x3 - v_less)) + (1000000000 : Int))] : List Int)) : PureRow [Ob.mk 1 ((row0 ++ ([w64 ((w64 (x3 - v_less)) + (1000000000 : Int))] : List Int)).map eI) .live]) .nil))))))))) (mkS_free _ _) : spec_l02Sub_L1_V .normal (spec_l02Sub_L1_head v_a v_b v_t11 v_less v_t12 row0) (spec_l02Sub_L1_head v_a v_b v_t11 1 (w64 (v_t12 + (1 : Int))) (row0 ++ ([w64 ((w64 (x3 - v_less)) + (1000000000 : Int))] : List Int))))))
    (fun h6 =>
    .grd fun h7 =>
    .ret ((okC_sound hmix (tape := t3 ++ ([.br false, .reg [nt, nt, nt, (.app ((row0 ++ ([w64 (x3 - v_less)] : List Int)).length), true), nt], .reg [nt, nt], .rst [21] [.as [Ob.mk 1 ((row0 ++ ([w64 (x3 - v_less)] : List Int)).map eI) .live]] [(0, ii), (1, ii), (5, ii), (6, ii), (11, ii), (12, ii)]] : List TE)) (nr := 1) (by kernel_rfl) (o2.app (.c h5 (.c h6 (.c (fit_full (show [[.n .i64 (w64 (x3 - v_less))]] = (([w64 (x3 - v_less)] : List Int)).map eI from rfl) (show 1 = ([w64 (x3 - v_less)] : List Int).length from rfl)) (.c (le_full (show (row0.map eI) = (row0.map eI) from rfl) (show row0.length = row0.length from rfl)) (.c (len_app (show row0.length = row0.length from rfl) (tk_prf (show [[.n .i64 (w64 (x3 - v_less))]] = (([w64 (x3 - v_less)] : List Int)).map eI from rfl) (show 1 = ([w64 (x3 - v_less)] : List Int).length from rfl)) : (row0 ++ ([w64 (x3 - v_less)] : List Int)).length = row0.length + (([[.n .i64 (w64 (x3 - v_less))]].drop 0).take 1).length) (.c h7 (.c (row_prf (app_full (show (row0.map eI) = (row0.map eI) from rfl) (show row0.length = row0.length from rfl) (tk_prf (show [[.n .i64 (w64 (x3 - v_less))]] = (([w64 (x3 - v_less)] : List Int)).map eI from rfl) (show 1 = ([w64 (x3 - v_less)] : List Int).length from rfl))) : [Ob.mk 1 ((row0.map eI).take row0.length ++ (([[.n .i64 (w64 (x3 - v_less))]].drop 0).take 1)) .live] = [Ob.mk 1 ((row0 ++ ([w64 (x3 - v_less)] : List Int)).map eI) .live]) (.c (pure_row eI_pure (row0 ++ ([w64 (x3 - v_less)] : List Int)) : PureRow [Ob.mk 1 ((row0 ++ ([w64 (x3 - v_less)] : List Int)).map eI) .live]) .nil))))))))) (mkS_free _ _) : spec_l02Sub_L1_V .normal (spec_l02Sub_L1_head v_a v_b v_t11 v_less v_t12 row0) (spec_l02Sub_L1_head v_a v_b v_t11 0 (w64 (v_t12 + (1 : Int))) (row0 ++ ([w64 (x3 - v_less)] : List Int))))))))))
    (fun h1 =>
    .ret ((okC_sound hmix (tape := [.reg [nt], .br false, .rst [0] [.pure] [(5, ii)]]) (nr := 1) (by kernel_rfl) (.c h1 (.c (pure_row eI_pure row0 : PureRow [Ob.mk 1 (row0.map eI) .live]) .nil)) (mkS_free _ _) : spec_l02Sub_L1_V (.exit 0) (spec_l02Sub_L1_head v_a v_b v_t11 v_less v_t12 row0) (spec_l02Sub_L1_out v_a v_b v_t11 row0))))

theorem spec_l02Sub_L1_ok (v_a : (List Int)) (v_b : (List Int)) (v_t11 : Int) (v_less : Int) (v_t12 : Int) (row0 : (List Int)) : ∀ r, spec_l02Sub_L1 v_a v_b v_t11 v_less v_t12 row0 = some r → VLoop PP 42 0 (nodeAt (bodyOf PP 108) [1, 1, 1, 0, 1, 0, 0]) (spec_l02Sub_L1_ex r) (spec_l02Sub_L1_head v_a v_b v_t11 v_less v_t12 row0) (spec_l02Sub_L1_out v_a v_b v_t11 r) := fun r h =>
  iter_ok (head := fun w : Int × Int × (List Int) => spec_l02Sub_L1_head v_a v_b v_t11 w.1 w.2.1 w.2.2) (ex := spec_l02Sub_L1_ex) (out := spec_l02Sub_L1_out v_a v_b v_t11) (by intro r; unfold spec_l02Sub_L1_ex; split <;> simp) (fun w => spec_l02Sub_L1_body_ok v_a v_b v_t11 w.1 w.2.1 w.2.2) (v_less, v_t12, row0) r h

def spec_l02Sub (v_a : (List Int)) (v_b : (List Int)) : Option (List Int) :=
  spec_l02Sub_L1 v_a v_b (len_ eI v_a) 0 0 ([] : List Int) >>= fun r1 =>
  spec_l02Trim r1 >>= fun r3 =>
  some r3

theorem spec_l02Sub_ok (v_a : (List Int)) (v_b : (List Int)) : Wp (spec_l02Sub v_a v_b) (fun r => Con PP 108 [.isl 1 (v_a.map eI), .isl 1 (v_b.map eI)] [] (.isl 1 (r.map eI)) []) := by
  unfold spec_l02Sub
  exact .bnd fun r1 h2 =>
    .bnd fun r3 h4 =>
    .ret (runF_con0 hmix (tape := [.reg [nt], .reg [nt, nt], .reg [nt], .reg [nt, nt, nt], .rst [1] [.as [Ob.mk 1 (([] : List Int).map eI) .live]] [(0, ii), (1, ii), (5, .c1 (.c0 (.len (([] : List Int).length)))), (6, ii), (11, ii), (12, ii)], .sub (.exit 0) [(5, .osl 0 0 0 r1.length)] [[Ob.mk 1 (r1.map eI) .live]], .frz 0, .reg [nt, (.call { ac := [.c1 (.c0 (.sl (r1.map eI)))], rds := [0], r := .isl 1 (r3.map eI), sc := false }, true), nt]]) (rr := ii) (by kernel_rfl) (.c (row_prf (show [] = (([] : List Int)).map eI from rfl) : [Ob.mk 1 [] .live] = [Ob.mk 1 (([] : List Int).map eI) .live]) (.c (pure_row eI_pure ([] : List Int) : PureRow [Ob.mk 1 (([] : List Int).map eI) .live]) (.c (show 0 = ([] : List Int).length from rfl) (.c ((spec_l02Sub_L1_ok v_a v_b (len_ eI v_a) 0 0 ([] : List Int) r1 h2).vex) (.c (snap_full (show (r1.map eI) = (r1.map eI) from rfl) (show r1.length = r1.length from rfl)) (.c (fit_full (show (r1.map eI) = (r1.map eI) from rfl) (show r1.length = r1.length from rfl)) (.c (pure_map eI_pure r1) (.c (spec_l02Trim_ok r1 r3 h4) .nil)))))))))

def spec_l02Div_L1_head (v_a : (List Int)) (v_b : (List Int)) (v_rest : (List Int)) (v_i : Int) (row0 : (List Int)) : S := mkS [(0, .isl 1 (v_a.map eI)), (1, .isl 1 (v_b.map eI)), (8, .osl 0 0 0 row0.length), (9, .isl 1 (v_rest.map eI)), (10, .n .i64 v_i)] [[Ob.mk 1 (row0.map eI) .live]]

def spec_l02Div_L1_ex : ((List Int) × (List Int)) → Exit
  | _ => .exit 0

def spec_l02Div_L1_out (v_a : (List Int)) (v_b : (List Int)) : ((List Int) × (List Int)) → S
  | a => mkS [(8, .osl 0 0 0 a.2.length), (9, .isl 1 (a.1.map eI))] [[Ob.mk 1 (a.2.map eI) .live]]

abbrev spec_l02Div_L1_V := VEx PP 65 0 (nodeAt (bodyOf PP 96) [1, 1, 1, 1, 0, 1, 0, 0])

def spec_l02Div_L1_body (v_a : (List Int)) (v_b : (List Int)) (v_rest : (List Int)) (v_i : Int) (row0 : (List Int)) : Option (((List Int) × Int × (List Int)) ⊕ ((List Int) × (List Int))) :=
  if (decide ((0 : Int) ≤ v_i)) = true then
    if 0 ≤ v_i ∧ v_i < v_a.length then
    v_a[v_i.toNat]? >>= fun x3 =>
    if (([x3] : List Int) ++ v_rest).length * 8 ≤ 140737488355328 then
    spec_l02Trim (([x3] : List Int) ++ v_rest) >>= fun r6 =>
    spec_l02Cmp r6 v_b >>= fun r8 =>
    if (decide (r8 < (0 : Int))) = true then
      some (.inl (r6, w64 (v_i - (1 : Int)), row0))
    else
      spec_l02Digit r6 v_b >>= fun r11 =>
      if 0 ≤ v_i ∧ v_i < (row0.length : Nat) then
      if (0 + v_i.toNat) < row0.length then
      spec_NatOf r11 >>= fun r15 =>
      spec_l02Mul v_b r15 >>= fun r17 =>
      spec_l02Sub r6 r17 >>= fun r19 =>
      some (.inl (r19, w64 (v_i - (1 : Int)), row0.set (0 + v_i.toNat) r11))
      else none
      else none
    else none
    else none
  else
    some (.inr (v_rest, row0))

def spec_l02Div_L1 (v_a : (List Int)) (v_b : (List Int)) (v_rest : (List Int)) (v_i : Int) (row0 : (List Int)) : Option ((List Int) × (List Int)) := iter (fun w : (List Int) × Int × (List Int) => spec_l02Div_L1_body v_a v_b w.1 w.2.1 w.2.2) (v_rest, v_i, row0)

theorem spec_l02Div_L1_body_ok (v_a : (List Int)) (v_b : (List Int)) (v_rest : (List Int)) (v_i : Int) (row0 : (List Int)) : Wp (spec_l02Div_L1_body v_a v_b v_rest v_i row0) (Sum.elim
    (fun w => spec_l02Div_L1_V .normal (spec_l02Div_L1_head v_a v_b v_rest v_i row0) (spec_l02Div_L1_head v_a v_b w.1 w.2.1 w.2.2))
    (fun r => spec_l02Div_L1_V (spec_l02Div_L1_ex r) (spec_l02Div_L1_head v_a v_b v_rest v_i row0) (spec_l02Div_L1_out v_a v_b r))) := by
  unfold spec_l02Div_L1_body
  exact (let t1 : List TE := [.reg [nt, nt]];
    .ite (fun h1 =>
    .grd fun h2 =>
    .bnd fun x3 h4 =>
    .grd fun h5 =>
    .bnd fun r6 h7 =>
    .bnd fun r8 h9 =>
    (let t2 : List TE := t1 ++ ([.br true, .reg [nt, nt, nt, (.el (eI x3), true), nt, nt, (.app ((([x3] : List Int) ++ v_rest).length), true), (.fz 9 (.call { ac := [.c1 (.c0 (.sl ((([x3] : List Int) ++ v_rest).map eI)))], rds := [9], r := .isl 1 (r6.map eI), sc := false }), true), nt], .reg [nt, nt, (.call { ac := [ii, ii], r := .n .i64 r8, sc := true }, true), nt]] : List TE);
    have o3 := ((.c h1 (.c ((h2).1) (.c (lt_mapI (h2).2 : v_i < ((v_a.map eI).length : Nat)) (.c (map_get h4 : (v_a.map eI)[v_i.toNat]? = some (eI x3)) (.c (le_full (show [[.n .i64 x3]] = (([x3] : List Int)).map eI from rfl) (show 1 = ([x3] : List Int).length from rfl)) (.c (len_app (show 1 = ([x3] : List Int).length from rfl) (show (v_rest.map eI) = (v_rest.map eI) from rfl) : (([x3] : List Int) ++ v_rest).length = 1 + (v_rest.map eI).length) (.c h5 (.c (snap_full (app_full (show [[.n .i64 x3]] = (([x3] : List Int)).map eI from rfl) (show 1 = ([x3] : List Int).length from rfl) (show (v_rest.map eI) = (v_rest.map eI) from rfl)) (show (([x3] : List Int) ++ v_rest).length = (([x3] : List Int) ++ v_rest).length from rfl)) (.c (fit_full (app_full (show [[.n .i64 x3]] = (([x3] : List Int)).map eI from rfl) (show 1 = ([x3] : List Int).length from rfl) (show (v_rest.map eI) = (v_rest.map eI) from rfl)) (show (([x3] : List Int) ++ v_rest).length = (([x3] : List Int) ++ v_rest).length from rfl)) (.c (pure_map eI_pure (([x3] : List Int) ++ v_rest)) (.c (spec_l02Trim_ok (([x3] : List Int) ++ v_rest) r6 h7) (.c (spec_l02Cmp_ok r6 v_b r8 h9) (.c (Sc.n _ _ : Sc (.n .i64 r8)) .nil))))))))))))) : AllP _);
    .ite (fun h10 =>
    .ret ((okC_sound hmix (tape := t2 ++ ([.br true, .reg [nt, nt, nt], .rst [0] [.pure] [(0, ii), (1, ii), (8, ii), (9, ii), (10, ii)]] : List TE)) (nr := 1) (by kernel_rfl) (o3.app (.c h10 (.c (pure_row eI_pure row0 : PureRow [Ob.mk 1 (row0.map eI) .live]) .nil))) (mkS_free _ _) : spec_l02Div_L1_V .normal (spec_l02Div_L1_head v_a v_b v_rest v_i row0) (spec_l02Div_L1_head v_a v_b r6 (w64 (v_i - (1 : Int))) row0))))
    (fun h10 =>
    .bnd fun r11 h12 =>
    .grd fun h13 =>
    .grd fun h14 =>
    .bnd fun r15 h16 =>
    .bnd fun r17 h18 =>
    .bnd fun r19 h20 =>
    .ret ((okC_sound hmix (tape := t2 ++ ([.br false, .reg [nt, nt, (.call { ac := [ii, ii], r := .n .i64 r11, sc := true }, true), nt], .reg [nt, nt, nt, nt, (.bd, true)], .reg [nt, nt, nt, (.call { ac := [ii], r := .isl 1 (r15.map eI), sc := false }, true), (.call { ac := [ii, ii], r := .isl 1 (r17.map eI), sc := false }, true), (.call { ac := [ii, ii], r := .isl 1 (r19.map eI), sc := false }, true), nt], .reg [nt, nt, nt], .rst [0] [.as [Ob.mk 1 ((row0.set (0 + v_i.toNat) r11).map eI) .live]] [(0, ii), (1, ii), (8, .c1 (.c0 (.len ((row0.set (0 + v_i.toNat) r11).length)))), (9, ii), (10, ii)]] : List TE)) (nr := 1) (by kernel_rfl) (o3.app (.c h10 (.c (spec_l02Digit_ok r6 v_b r11 h12) (.c (Sc.n _ _ : Sc (.n .i64 r11)) (.c ((h13).1) (.c ((h13).2) (.c (lt_map h14 : (0 + v_i.toNat) < (row0.map eI).length) (.c (rfl : 1 = 1) (.c (spec_NatOf_ok r11 r15 h16) (.c (spec_l02Mul_ok v_b r15 r17 h18) (.c (spec_l02Sub_ok r6 r17 r19 h20) (.c (row_prf (set_prf (show (row0.map eI) = (row0.map eI) from rfl) (0 + v_i.toNat) r11) : [Ob.mk 1 ((row0.map eI).set (0 + v_i.toNat) [.n .i64 r11]) .live] = [Ob.mk 1 ((row0.set (0 + v_i.toNat) r11).map eI) .live]) (.c (pure_row eI_pure (row0.set (0 + v_i.toNat) r11) : PureRow [Ob.mk 1 ((row0.set (0 + v_i.toNat) r11).map eI) .live]) (.c (len_set (show row0.length = row0.length from rfl) (0 + v_i.toNat) r11) .nil)))))))))))))) (mkS_free _ _) : spec_l02Div_L1_V .normal (spec_l02Div_L1_head v_a v_b v_rest v_i row0) (spec_l02Div_L1_head v_a v_b r19 (w64 (v_i - (1 : Int))) (row0.set (0 + v_i.toNat) r11)))))))
    (fun h1 =>
    .ret ((okC_sound hmix (tape := t1 ++ ([.br false, .rst [0] [.pure] [(8, ii), (9, ii)]] : List TE)) (nr := 1) (by kernel_rfl) (.c h1 (.c (pure_row eI_pure row0 : PureRow [Ob.mk 1 (row0.map eI) .live]) .nil)) (mkS_free _ _) : spec_l02Div_L1_V (.exit 0) (spec_l02Div_L1_head v_a v_b v_rest v_i row0) (spec_l02Div_L1_out v_a v_b (v_rest, row0))))))

theorem spec_l02Div_L1_ok (v_a : (List Int)) (v_b : (List Int)) (v_rest : (List Int)) (v_i : Int) (row0 : (List Int)) : ∀ r, spec_l02Div_L1 v_a v_b v_rest v_i row0 = some r → VLoop PP 65 0 (nodeAt (bodyOf PP 96) [1, 1, 1, 1, 0, 1, 0, 0]) (spec_l02Div_L1_ex r) (spec_l02Div_L1_head v_a v_b v_rest v_i row0) (spec_l02Div_L1_out v_a v_b r) := fun r h =>
  iter_ok (head := fun w : (List Int) × Int × (List Int) => spec_l02Div_L1_head v_a v_b w.1 w.2.1 w.2.2) (ex := spec_l02Div_L1_ex) (out := spec_l02Div_L1_out v_a v_b) (by intro r; unfold spec_l02Div_L1_ex; split <;> simp) (fun w => spec_l02Div_L1_body_ok v_a v_b w.1 w.2.1 w.2.2) (v_rest, v_i, row0) r h

def spec_l02Div (v_a : (List Int)) (v_b : (List Int)) : Option ((List Int) × (List Int)) :=
  if ((len_ eI v_b) == (1 : Int)) = true then
    if 0 ≤ (0 : Int) ∧ (0 : Int) < v_b.length then
    v_b[0]? >>= fun x3 =>
    spec_l02Small v_a x3 >>= fun r5 =>
    spec_NatOf r5.2 >>= fun r7 =>
    some (r5.1, r7)
    else none
  else
    if 0 ≤ (len_ eI v_a) ∧ (8 : Int) * (len_ eI v_a) ≤ 281474976710656 ∧ (len_ eI v_a) < 9223372036854775808 then
    spec_l02Div_L1 v_a v_b ([] : List Int) (w64 ((len_ eI v_a) - (1 : Int))) (List.replicate (len_ eI v_a).toNat 0 : List Int) >>= fun r3 =>
    spec_l02Trim r3.2 >>= fun r5 =>
    some (r5, r3.1)
    else none

theorem spec_l02Div_ok (v_a : (List Int)) (v_b : (List Int)) : Wp (spec_l02Div v_a v_b) (fun r => Con PP 96 [.isl 1 (v_a.map eI), .isl 1 (v_b.map eI)] [] (.tup [.isl 1 (r.1.map eI), .isl 1 (r.2.map eI)]) []) := by
  unfold spec_l02Div
  exact (let t1 : List TE := [.reg [nt, nt], .reg [nt, nt, nt]];
    .ite (fun h1 =>
    .grd fun h2 =>
    .bnd fun x3 h4 =>
    .bnd fun r5 h6 =>
    .bnd fun r7 h8 =>
    .ret (runF_con0 hmix (tape := t1 ++ ([.br true, .reg [nt, nt, nt, (.el (eI x3), true), (.call { ac := [ii, ii], r := .tup [.isl 1 (r5.1.map eI), .n .i64 r5.2], sc := false }, true), nt, nt, nt, nt, nt], .reg [nt, nt, (.call { ac := [ii], r := .isl 1 (r7.map eI), sc := false }, true), nt, nt]] : List TE)) (rr := ii) (by kernel_rfl) (.c h1 (.c ((h2).1) (.c (lt_mapI (h2).2 : (0 : Int) < ((v_b.map eI).length : Nat)) (.c (map_get h4 : (v_b.map eI)[0]? = some (eI x3)) (.c (spec_l02Small_ok v_a x3 r5 h6) (.c (spec_NatOf_ok r5.2 r7 h8) .nil))))))))
    (fun h1 =>
    .grd fun h2 =>
    .bnd fun r3 h4 =>
    .bnd fun r5 h6 =>
    .ret (runF_con0 hmix (tape := t1 ++ ([.br false, .reg [nt, nt, nt, nt], .reg [nt, nt], .reg [nt, nt, nt, nt], .rst [7] [.as [Ob.mk 1 ((List.replicate (len_ eI v_a).toNat 0 : List Int).map eI) .live]] [(0, ii), (1, ii), (8, .c1 (.c0 (.len ((List.replicate (len_ eI v_a).toNat 0 : List Int).length)))), (9, .c1 (.c0 (.sl (([] : List Int).map eI)))), (10, ii)], .sub (.exit 0) [(8, .osl 0 0 0 r3.2.length), (9, .isl 1 (r3.1.map eI))] [[Ob.mk 1 (r3.2.map eI) .live]], .frz 0, .reg [nt, (.call { ac := [.c1 (.c0 (.sl (r3.2.map eI)))], rds := [0], r := .isl 1 (r5.map eI), sc := false }, true), nt, nt, nt]] : List TE)) (rr := ii) (by kernel_rfl) (.c h1 (.c ((h2).1) (.c (Int.le_refl (len_ eI v_a)) (.c ((h2).2.1) (.c ((h2).2.2) (.c (row_prf (rep_prf eI (len_ eI v_a).toNat 0) : [Ob.mk 1 (List.replicate (len_ eI v_a).toNat [.n .i64 (0 : Int)]) .live] = [Ob.mk 1 ((List.replicate (len_ eI v_a).toNat 0 : List Int).map eI) .live]) (.c (pure_row eI_pure (List.replicate (len_ eI v_a).toNat 0 : List Int) : PureRow [Ob.mk 1 ((List.replicate (len_ eI v_a).toNat 0 : List Int).map eI) .live]) (.c (len_rep (len_ eI v_a).toNat (0 : Int)) (.c (snap_full (show [] = (([] : List Int)).map eI from rfl) (show 0 = ([] : List Int).length from rfl)) (.c (fit_full (show [] = (([] : List Int)).map eI from rfl) (show 0 = ([] : List Int).length from rfl)) (.c (pure_map eI_pure ([] : List Int)) (.c ((spec_l02Div_L1_ok v_a v_b ([] : List Int) (w64 ((len_ eI v_a) - (1 : Int))) (List.replicate (len_ eI v_a).toNat 0 : List Int) r3 h4).vex) (.c (snap_full (show (r3.2.map eI) = (r3.2.map eI) from rfl) (show r3.2.length = r3.2.length from rfl)) (.c (fit_full (show (r3.2.map eI) = (r3.2.map eI) from rfl) (show r3.2.length = r3.2.length from rfl)) (.c (pure_map eI_pure r3.2) (.c (spec_l02Trim_ok r3.2 r5 h6) .nil)))))))))))))))))))

def spec_l02Gcd_L1_head  (v_x : (List Int)) (v_y : (List Int)) : S := mkS [(5, .isl 1 (v_x.map eI)), (6, .isl 1 (v_y.map eI))] []

def spec_l02Gcd_L1_ex : (((List Int)) ⊕ ((List Int))) → Exit
  | .inl _ => .exit 0
  | .inr _ => .ret

def spec_l02Gcd_L1_out  : (((List Int)) ⊕ ((List Int))) → S
  | .inl a => mkS [(5, .isl 1 (a.map eI))] []
  | .inr a => mkS [(4, .isl 1 (a.map eI))] []

abbrev spec_l02Gcd_L1_V := VEx PP 52 0 (nodeAt (bodyOf PP 78) [1, 1, 1, 0, 0, 0])

def spec_l02Gcd_L1_body  (v_x : (List Int)) (v_y : (List Int)) : Option (((List Int) × (List Int)) ⊕ (((List Int)) ⊕ ((List Int)))) :=
  if (decide ((0 : Int) < (len_ eI v_y))) = true then
    if (decide ((len_ eI v_x) < (3 : Int))) = true then
      if (decide ((len_ eI v_y) < (3 : Int))) = true then
        spec_NatToInt v_x >>= fun r4 =>
        spec_NatToInt v_y >>= fun r6 =>
        spec_l02Plain r4.1 r6.1 >>= fun r8 =>
        some (.inr (.inr r8))
      else
        spec_l02Div v_x v_y >>= fun r4 =>
        some (.inl (v_y, r4.2))
    else
      spec_l02Div v_x v_y >>= fun r3 =>
      some (.inl (v_y, r3.2))
  else
    some (.inr (.inl v_x))

def spec_l02Gcd_L1  (v_x : (List Int)) (v_y : (List Int)) : Option (((List Int)) ⊕ ((List Int))) := iter (fun w : (List Int) × (List Int) => spec_l02Gcd_L1_body  w.1 w.2) (v_x, v_y)

theorem spec_l02Gcd_L1_body_ok  (v_x : (List Int)) (v_y : (List Int)) : Wp (spec_l02Gcd_L1_body  v_x v_y) (Sum.elim
    (fun w => spec_l02Gcd_L1_V .normal (spec_l02Gcd_L1_head  v_x v_y) (spec_l02Gcd_L1_head  w.1 w.2))
    (fun r => spec_l02Gcd_L1_V (spec_l02Gcd_L1_ex r) (spec_l02Gcd_L1_head  v_x v_y) (spec_l02Gcd_L1_out  r))) := by
  unfold spec_l02Gcd_L1_body
  exact (let t1 : List TE := [.reg [nt, nt, nt]];
    .ite (fun h1 =>
    .ite (fun h2 =>
    (let t2 : List TE := t1 ++ ([.br true, .reg [nt, nt, nt, nt, nt, nt, nt, (.br true, true)]] : List TE);
    .ite (fun h3 =>
    .bnd fun r4 h5 =>
    .bnd fun r6 h7 =>
    .bnd fun r8 h9 =>
    .ret ((okC_sound hmix (tape := t2 ++ ([.br true, .reg [nt, (.call { ac := [ii], r := .tup [.n .i64 r4.1, .b r4.2], sc := true }, true), nt, nt, nt, nt, nt], .reg [nt, (.call { ac := [ii], r := .tup [.n .i64 r6.1, .b r6.2], sc := true }, true), nt, nt, nt, nt, nt], .reg [nt, nt, (.call { ac := [ii, ii], r := .isl 1 (r8.map eI), sc := false }, true), nt], .rst [] [] [(4, ii)]] : List TE)) (nr := 0) (by kernel_rfl) (.c h1 (.c h2 (.c h2 (.c h2 (.c h2 (.c h3 (.c (spec_NatToInt_ok v_x r4 h5) (.c (sc_tup (sc_cons (Sc.n _ _ : Sc (.n .i64 r4.1)) (sc_cons (Sc.b _ : Sc (.b r4.2)) sc_nil)) : Sc (.tup [.n .i64 r4.1, .b r4.2])) (.c (spec_NatToInt_ok v_y r6 h7) (.c (sc_tup (sc_cons (Sc.n _ _ : Sc (.n .i64 r6.1)) (sc_cons (Sc.b _ : Sc (.b r6.2)) sc_nil)) : Sc (.tup [.n .i64 r6.1, .b r6.2])) (.c (spec_l02Plain_ok r4.1 r6.1 r8 h9) .nil))))))))))) (mkS_free _ _) : spec_l02Gcd_L1_V (.ret) (spec_l02Gcd_L1_head  v_x v_y) (spec_l02Gcd_L1_out  (.inr r8)))))
    (fun h3 =>
    .bnd fun r4 h5 =>
    .ret ((okC_sound hmix (tape := t2 ++ ([.br false, .reg [nt, nt, (.call { ac := [ii, ii], r := .tup [.isl 1 (r4.1.map eI), .isl 1 (r4.2.map eI)], sc := false }, true), nt, nt, nt, nt, nt], .reg [nt, nt], .reg [nt, nt], .rst [] [] [(5, ii), (6, ii)]] : List TE)) (nr := 0) (by kernel_rfl) (.c h1 (.c h2 (.c h2 (.c h2 (.c h2 (.c h3 (.c (spec_l02Div_ok v_x v_y r4 h5) .nil))))))) (mkS_free _ _) : spec_l02Gcd_L1_V .normal (spec_l02Gcd_L1_head  v_x v_y) (spec_l02Gcd_L1_head  v_y r4.2))))))
    (fun h2 =>
    .bnd fun r3 h4 =>
    .ret ((okC_sound hmix (tape := t1 ++ ([.br true, .reg [nt, nt, nt, nt, nf, nf, nf, (.br false, true)], .br false, .reg [nt, nt, (.call { ac := [ii, ii], r := .tup [.isl 1 (r3.1.map eI), .isl 1 (r3.2.map eI)], sc := false }, true), nt, nt, nt, nt, nt], .reg [nt, nt], .reg [nt, nt], .rst [] [] [(5, ii), (6, ii)]] : List TE)) (nr := 0) (by kernel_rfl) (.c h1 (.c h2 (.c h2 (.c h2 (.c h2 (.c (rfl : false = false) (.c (spec_l02Div_ok v_x v_y r3 h4) .nil))))))) (mkS_free _ _) : spec_l02Gcd_L1_V .normal (spec_l02Gcd_L1_head  v_x v_y) (spec_l02Gcd_L1_head  v_y r3.2)))))
    (fun h1 =>
    .ret ((okC_sound hmix (tape := t1 ++ ([.br false, .rst [] [] [(5, ii)]] : List TE)) (nr := 0) (by kernel_rfl) (.c h1 .nil) (mkS_free _ _) : spec_l02Gcd_L1_V (.exit 0) (spec_l02Gcd_L1_head  v_x v_y) (spec_l02Gcd_L1_out  (.inl v_x))))))

theorem spec_l02Gcd_L1_ok  (v_x : (List Int)) (v_y : (List Int)) : ∀ r, spec_l02Gcd_L1  v_x v_y = some r → VLoop PP 52 0 (nodeAt (bodyOf PP 78) [1, 1, 1, 0, 0, 0]) (spec_l02Gcd_L1_ex r) (spec_l02Gcd_L1_head  v_x v_y) (spec_l02Gcd_L1_out  r) := fun r h =>
  iter_ok (head := fun w : (List Int) × (List Int) => spec_l02Gcd_L1_head  w.1 w.2) (ex := spec_l02Gcd_L1_ex) (out := spec_l02Gcd_L1_out ) (by intro r; unfold spec_l02Gcd_L1_ex; split <;> simp) (fun w => spec_l02Gcd_L1_body_ok  w.1 w.2) (v_x, v_y) r h

def spec_l02Gcd (v_a : (List Int)) (v_b : (List Int)) : Option (List Int) :=
  if (([] : List Int) ++ v_a).length * 8 ≤ 140737488355328 then
  if (([] : List Int) ++ v_b).length * 8 ≤ 140737488355328 then
  spec_l02Gcd_L1 (([] : List Int) ++ v_a) (([] : List Int) ++ v_b) >>= fun r3 =>
  match r3 with
  | .inl a5 => (some a5)
  | .inr a5 => (some a5)
  else none
  else none

theorem spec_l02Gcd_ok (v_a : (List Int)) (v_b : (List Int)) : Wp (spec_l02Gcd v_a v_b) (fun r => Con PP 78 [.isl 1 (v_a.map eI), .isl 1 (v_b.map eI)] [] (.isl 1 (r.map eI)) []) := by
  unfold spec_l02Gcd
  exact .grd fun h1 =>
    .grd fun h2 =>
    .bnd fun r3 h4 =>
    (let t1 : List TE := [.reg [nt], .reg [nt, nt, (.app ((([] : List Int) ++ v_a).length), true), nt], .reg [nt, nt, (.app ((([] : List Int) ++ v_b).length), true), nt]];
    have o2 := ((.c (le_full (show [] = (([] : List Int)).map eI from rfl) (show 0 = ([] : List Int).length from rfl)) (.c (len_app (show 0 = ([] : List Int).length from rfl) (show (v_a.map eI) = (v_a.map eI) from rfl) : (([] : List Int) ++ v_a).length = 0 + (v_a.map eI).length) (.c h1 (.c (le_full (show [] = (([] : List Int)).map eI from rfl) (show 0 = ([] : List Int).length from rfl)) (.c (len_app (show 0 = ([] : List Int).length from rfl) (show (v_b.map eI) = (v_b.map eI) from rfl) : (([] : List Int) ++ v_b).length = 0 + (v_b.map eI).length) (.c h2 .nil)))))) : AllP _);
    (by
    rcases r3 with a5 | a5
    · exact (.ret (runF_con0 hmix (tape := t1 ++ ([.rst [] [] [(5, .c1 (.c0 (.sl ((([] : List Int) ++ v_a).map eI)))), (6, .c1 (.c0 (.sl ((([] : List Int) ++ v_b).map eI))))], .sub (.exit 0) [(5, .isl 1 (a5.map eI))] [], .reg [nt, nt]] : List TE)) (rr := ii) (by kernel_rfl) (o2.app (.c (snap_full (app_full (show [] = (([] : List Int)).map eI from rfl) (show 0 = ([] : List Int).length from rfl) (show (v_a.map eI) = (v_a.map eI) from rfl)) (show (([] : List Int) ++ v_a).length = (([] : List Int) ++ v_a).length from rfl)) (.c (fit_full (app_full (show [] = (([] : List Int)).map eI from rfl) (show 0 = ([] : List Int).length from rfl) (show (v_a.map eI) = (v_a.map eI) from rfl)) (show (([] : List Int) ++ v_a).length = (([] : List Int) ++ v_a).length from rfl)) (.c (pure_map eI_pure (([] : List Int) ++ v_a)) (.c (snap_full (app_full (show [] = (([] : List Int)).map eI from rfl) (show 0 = ([] : List Int).length from rfl) (show (v_b.map eI) = (v_b.map eI) from rfl)) (show (([] : List Int) ++ v_b).length = (([] : List Int) ++ v_b).length from rfl)) (.c (fit_full (app_full (show [] = (([] : List Int)).map eI from rfl) (show 0 = ([] : List Int).length from rfl) (show (v_b.map eI) = (v_b.map eI) from rfl)) (show (([] : List Int) ++ v_b).length = (([] : List Int) ++ v_b).length from rfl)) (.c (pure_map eI_pure (([] : List Int) ++ v_b)) (.c ((spec_l02Gcd_L1_ok (([] : List Int) ++ v_a) (([] : List Int) ++ v_b) (.inl a5) h4).vex) .nil))))))))))
    · exact (.ret (runF_con0 hmix (tape := t1 ++ ([.rst [] [] [(5, .c1 (.c0 (.sl ((([] : List Int) ++ v_a).map eI)))), (6, .c1 (.c0 (.sl ((([] : List Int) ++ v_b).map eI))))], .sub (.ret) [(4, .isl 1 (a5.map eI))] []] : List TE)) (rr := ii) (by kernel_rfl) (o2.app (.c (snap_full (app_full (show [] = (([] : List Int)).map eI from rfl) (show 0 = ([] : List Int).length from rfl) (show (v_a.map eI) = (v_a.map eI) from rfl)) (show (([] : List Int) ++ v_a).length = (([] : List Int) ++ v_a).length from rfl)) (.c (fit_full (app_full (show [] = (([] : List Int)).map eI from rfl) (show 0 = ([] : List Int).length from rfl) (show (v_a.map eI) = (v_a.map eI) from rfl)) (show (([] : List Int) ++ v_a).length = (([] : List Int) ++ v_a).length from rfl)) (.c (pure_map eI_pure (([] : List Int) ++ v_a)) (.c (snap_full (app_full (show [] = (([] : List Int)).map eI from rfl) (show 0 = ([] : List Int).length from rfl) (show (v_b.map eI) = (v_b.map eI) from rfl)) (show (([] : List Int) ++ v_b).length = (([] : List Int) ++ v_b).length from rfl)) (.c (fit_full (app_full (show [] = (([] : List Int)).map eI from rfl) (show 0 = ([] : List Int).length from rfl) (show (v_b.map eI) = (v_b.map eI) from rfl)) (show (([] : List Int) ++ v_b).length = (([] : List Int) ++ v_b).length from rfl)) (.c (pure_map eI_pure (([] : List Int) ++ v_b)) (.c ((spec_l02Gcd_L1_ok (([] : List Int) ++ v_a) (([] : List Int) ++ v_b) (.inr a5) h4).vex) .nil))))))))))))

def spec_l04One (v_a : (List Int)) : Option Bool :=
  if ((len_ eI v_a) == (1 : Int)) = true then
    if 0 ≤ (0 : Int) ∧ (0 : Int) < v_a.length then
    v_a[0]? >>= fun x3 =>
    some (x3 == (1 : Int))
    else none
  else
    some false

theorem spec_l04One_ok (v_a : (List Int)) : Wp (spec_l04One v_a) (fun r => Con PP 77 [.isl 1 (v_a.map eI)] [] (.b r) []) := by
  unfold spec_l04One
  exact .ite (fun h1 =>
    .grd fun h2 =>
    .bnd fun x3 h4 =>
    .ret (runF_con0 hmix (tape := [.reg [nt], .reg [nt, nt, nt, nt, nt, nt, (.el (eI x3), true), nt, (.br true, true), nt]]) (rr := ii) (by kernel_rfl) (.c h1 (.c h1 (.c ((h2).1) (.c (lt_mapI (h2).2 : (0 : Int) < ((v_a.map eI).length : Nat)) (.c h1 (.c (map_get h4 : (v_a.map eI)[0]? = some (eI x3)) (.c h1 (.c h1 .nil))))))))))
    (fun h1 =>
    .ret (runF_con0 hmix (tape := [.reg [nt], .reg [nt, nt, nt, nt, nf, nf, nf, nf, (.br false, true), nt]]) (rr := ii) (by kernel_rfl) (.c h1 (.c h1 (.c h1 (.c h1 (.c h1 .nil)))))))

def spec_RatOk (v_r : TRat) : Option Bool :=
  spec_BigIntOk v_r.fNum >>= fun r1 =>
  if r1 = true then
    spec_NatOk v_r.fDen >>= fun r4 =>
    if r4 = true then
      if ((len_ eI v_r.fDen) == (0 : Int)) = true then
        some false
      else
        if (decide ((24 : Int) < (len_ eI v_r.fDen))) = true then
          some false
        else
          if (decide ((24 : Int) < (len_ eI v_r.fNum.fMag))) = true then
            some false
          else
            spec_l02Gcd v_r.fNum.fMag v_r.fDen >>= fun r10 =>
            spec_l04One r10 >>= fun r12 =>
            some r12
    else
      some false
  else
    some false

theorem spec_RatOk_ok (v_r : TRat) : Wp (spec_RatOk v_r) (fun r => Con PP 59 [.agg [.b v_r.fNum.fNeg, .isl 1 (v_r.fNum.fMag.map eI), .isl 1 (v_r.fDen.map eI)]] [] (.b r) []) := by
  unfold spec_RatOk
  exact .bnd fun r1 h2 =>
    (let t1 : List TE := [.reg [nt, nt]];
    have o2 := ((.c (spec_BigIntOk_ok v_r.fNum r1 h2) (.c (Sc.b _ : Sc (.b r1)) .nil)) : AllP _);
    .ite (fun h3 =>
    .bnd fun r4 h5 =>
    (have o3 := o2.app (.c (not_t h3) (.c (not_t h3) (.c (not_t h3) (.c (spec_NatOk_ok v_r.fDen r4 h5) (.c (Sc.b _ : Sc (.b r4)) (.c (not_t h3) (.c (not_t h3) .nil)))))));
    .ite (fun h6 =>
    (have o4 := o3.app (.c (not_t h6) (.c (not_t h6) (.c (not_t h6) (.c (not_t h6) (.c (not_t h6) .nil)))));
    .ite (fun h7 =>
    .ret (runF_con0 hmix (tape := t1 ++ ([.reg [nt, nt, (.call { ac := [ii], r := .b r1, sc := true }, true), nt, nt, nt, nt, (.call { ac := [ii], r := .b r4, sc := true }, true), nt, (.br false, true), nt, nt, nt, nt, nt, (.br false, true), nt, nf, nf, nf, nf, (.br true, true), nt, nf, nf, nf, nf, nf, nt], .br true, .reg [nt]] : List TE)) (rr := ii) (by kernel_rfl) (o4.app (.c h7 (.c h7 (.c h7 (.c h7 (.c h7 (.c (rfl : true = true) (.c (rfl : true = true) (.c (rfl : true = true) (.c (rfl : true = true) (.c (rfl : true = true) (.c (rfl : true = true) .nil))))))))))))))
    (fun h7 =>
    .ite (fun h8 =>
    .ret (runF_con0 hmix (tape := t1 ++ ([.reg [nt, nt, (.call { ac := [ii], r := .b r1, sc := true }, true), nt, nt, nt, nt, (.call { ac := [ii], r := .b r4, sc := true }, true), nt, (.br false, true), nt, nt, nt, nt, nt, (.br false, true), nt, nt, nt, nt, nt, (.br false, true), nt, nf, nf, nf, nf, nf, (.br true, true)], .br true, .reg [nt]] : List TE)) (rr := ii) (by kernel_rfl) (o4.app (.c h7 (.c h7 (.c h7 (.c h7 (.c h7 (.c h8 (.c h8 (.c h8 (.c h8 (.c h8 (.c h8 (.c (rfl : true = true) .nil)))))))))))))))
    (fun h8 =>
    (let t5 : List TE := t1 ++ ([.reg [nt, nt, (.call { ac := [ii], r := .b r1, sc := true }, true), nt, nt, nt, nt, (.call { ac := [ii], r := .b r4, sc := true }, true), nt, (.br false, true), nt, nt, nt, nt, nt, (.br false, true), nt, nt, nt, nt, nt, (.br false, true), nt, nt, nt, nt, nt, nt, (.br false, true)]] : List TE);
    have o6 := o4.app (.c h7 (.c h7 (.c h7 (.c h7 (.c h7 (.c h8 (.c h8 (.c h8 (.c h8 (.c h8 (.c h8 .nil)))))))))));
    .ite (fun h9 =>
    .ret (runF_con0 hmix (tape := t5 ++ ([.br true, .reg [nt]] : List TE)) (rr := ii) (by kernel_rfl) (o6.app (.c h9 .nil))))
    (fun h9 =>
    .bnd fun r10 h11 =>
    .bnd fun r12 h13 =>
    .ret (runF_con0 hmix (tape := t5 ++ ([.br false, .reg [nt, nt, nt, nt, nt, (.call { ac := [ii, ii], r := .isl 1 (r10.map eI), sc := false }, true), (.call { ac := [ii], r := .b r12, sc := true }, true), nt]] : List TE)) (rr := ii) (by kernel_rfl) (o6.app (.c h9 (.c (spec_l02Gcd_ok v_r.fNum.fMag v_r.fDen r10 h11) (.c (spec_l04One_ok r10 r12 h13) (.c (Sc.b _ : Sc (.b r12)) .nil))))))))))))
    (fun h6 =>
    .ret (runF_con0 hmix (tape := t1 ++ ([.reg [nt, nt, (.call { ac := [ii], r := .b r1, sc := true }, true), nt, nt, nt, nt, (.call { ac := [ii], r := .b r4, sc := true }, true), nt, (.br false, true), nt, nf, nf, nf, nf, (.br true, true), nt, nf, nf, nf, nf, nt, nt, nf, nf, nf, nf, nf, nt], .br true, .reg [nt]] : List TE)) (rr := ii) (by kernel_rfl) (o3.app (.c (not_f h6) (.c (not_f h6) (.c (not_f h6) (.c (not_f h6) (.c (not_f h6) (.c (rfl : true = true) (.c (rfl : true = true) (.c (rfl : true = true) (.c (rfl : true = true) (.c (rfl : true = true) (.c (rfl : true = true) (.c (rfl : true = true) (.c (rfl : true = true) (.c (rfl : true = true) (.c (rfl : true = true) .nil))))))))))))))))))))
    (fun h3 =>
    .ret (runF_con0 hmix (tape := t1 ++ ([.reg [nt, nt, (.call { ac := [ii], r := .b r1, sc := true }, true), nt, nt, nf, nf, nf, nf, (.br true, true), nt, nf, nf, nf, nf, nt, nt, nf, nf, nf, nf, nt, nt, nf, nf, nf, nf, nf, nt], .br true, .reg [nt]] : List TE)) (rr := ii) (by kernel_rfl) (o2.app (.c (not_f h3) (.c (not_f h3) (.c (not_f h3) (.c (not_f h3) (.c (not_f h3) (.c (rfl : true = true) (.c (rfl : true = true) (.c (rfl : true = true) (.c (rfl : true = true) (.c (rfl : true = true) (.c (rfl : true = true) (.c (rfl : true = true) (.c (rfl : true = true) (.c (rfl : true = true) (.c (rfl : true = true) (.c (rfl : true = true) (.c (rfl : true = true) (.c (rfl : true = true) (.c (rfl : true = true) .nil)))))))))))))))))))))))

def spec_l09Valid_L1_head (v_t5 : (List TRat)) (v_t6 : Int) (v_t7 : Int) : S := mkS [(5, .isl 3 (v_t5.map eTRat)), (6, .n .i64 v_t6), (7, .n .i64 v_t7)] []

def spec_l09Valid_L1_ex : ((Unit) ⊕ (Unit)) → Exit
  | .inl _ => .exit 0
  | .inr _ => .ret

def spec_l09Valid_L1_out (v_t5 : (List TRat)) (v_t6 : Int) : ((Unit) ⊕ (Unit)) → S
  | .inl a => mkS [] []
  | .inr a => mkS [(2, .b false)] []

abbrev spec_l09Valid_L1_V := VEx PP 15 0 (nodeAt (bodyOf PP 55) [1, 0, 1, 0, 0])

def spec_l09Valid_L1_body (v_t5 : (List TRat)) (v_t6 : Int) (v_t7 : Int) : Option ((Int) ⊕ ((Unit) ⊕ (Unit))) :=
  if (decide (v_t7 < v_t6)) = true then
    if 0 ≤ v_t7 ∧ v_t7 < v_t5.length then
    v_t5[v_t7.toNat]? >>= fun x3 =>
    spec_RatOk x3 >>= fun r5 =>
    if r5 = true then
      some (.inl (w64 (v_t7 + (1 : Int))))
    else
      some (.inr (.inr ()))
    else none
  else
    some (.inr (.inl ()))

def spec_l09Valid_L1 (v_t5 : (List TRat)) (v_t6 : Int) (v_t7 : Int) : Option ((Unit) ⊕ (Unit)) := iter (fun w : Int => spec_l09Valid_L1_body v_t5 v_t6 w) v_t7

theorem spec_l09Valid_L1_body_ok (v_t5 : (List TRat)) (v_t6 : Int) (v_t7 : Int) : Wp (spec_l09Valid_L1_body v_t5 v_t6 v_t7) (Sum.elim
    (fun w => spec_l09Valid_L1_V .normal (spec_l09Valid_L1_head v_t5 v_t6 v_t7) (spec_l09Valid_L1_head v_t5 v_t6 w))
    (fun r => spec_l09Valid_L1_V (spec_l09Valid_L1_ex r) (spec_l09Valid_L1_head v_t5 v_t6 v_t7) (spec_l09Valid_L1_out v_t5 v_t6 r))) := by
  unfold spec_l09Valid_L1_body
  exact .ite (fun h1 =>
    .grd fun h2 =>
    .bnd fun x3 h4 =>
    .bnd fun r5 h6 =>
    (let t1 : List TE := [.reg [nt], .br true, .reg [nt, (.el (eTRat x3), true), nt, nt], .reg [nt, (.call { ac := [ii], r := .b r5, sc := true }, true), nt]];
    have o2 := ((.c h1 (.c ((h2).1) (.c (lt_mapI (h2).2 : v_t7 < ((v_t5.map eTRat).length : Nat)) (.c (map_get h4 : (v_t5.map eTRat)[v_t7.toNat]? = some (eTRat x3)) (.c (spec_RatOk_ok x3 r5 h6) (.c (Sc.b _ : Sc (.b r5)) .nil)))))) : AllP _);
    .ite (fun h7 =>
    .ret ((okC_sound hmix (tape := t1 ++ ([.br false, .reg [nt, nt], .rst [] [] [(5, ii), (6, ii), (7, ii)]] : List TE)) (nr := 0) (by kernel_rfl) (o2.app (.c (not_t h7) .nil)) (mkS_free _ _) : spec_l09Valid_L1_V .normal (spec_l09Valid_L1_head v_t5 v_t6 v_t7) (spec_l09Valid_L1_head v_t5 v_t6 (w64 (v_t7 + (1 : Int)))))))
    (fun h7 =>
    .ret ((okC_sound hmix (tape := t1 ++ ([.br true, .reg [nt], .rst [] [] [(2, ii)]] : List TE)) (nr := 0) (by kernel_rfl) (o2.app (.c (not_f h7) .nil)) (mkS_free _ _) : spec_l09Valid_L1_V (.ret) (spec_l09Valid_L1_head v_t5 v_t6 v_t7) (spec_l09Valid_L1_out v_t5 v_t6 (.inr ())))))))
    (fun h1 =>
    .ret ((okC_sound hmix (tape := [.reg [nt], .br false, .rst [] [] []]) (nr := 0) (by kernel_rfl) (.c h1 .nil) (mkS_free _ _) : spec_l09Valid_L1_V (.exit 0) (spec_l09Valid_L1_head v_t5 v_t6 v_t7) (spec_l09Valid_L1_out v_t5 v_t6 (.inl ())))))

theorem spec_l09Valid_L1_ok (v_t5 : (List TRat)) (v_t6 : Int) (v_t7 : Int) : ∀ r, spec_l09Valid_L1 v_t5 v_t6 v_t7 = some r → VLoop PP 15 0 (nodeAt (bodyOf PP 55) [1, 0, 1, 0, 0]) (spec_l09Valid_L1_ex r) (spec_l09Valid_L1_head v_t5 v_t6 v_t7) (spec_l09Valid_L1_out v_t5 v_t6 r) := fun r h =>
  iter_ok (head := fun w : Int => spec_l09Valid_L1_head v_t5 v_t6 w) (ex := spec_l09Valid_L1_ex) (out := spec_l09Valid_L1_out v_t5 v_t6) (by intro r; unfold spec_l09Valid_L1_ex; split <;> simp) (fun w => spec_l09Valid_L1_body_ok v_t5 v_t6 w) v_t7 r h

def spec_l09Valid (v_v : (List TRat)) : Option Bool :=
  spec_l09Valid_L1 v_v (len_ eTRat v_v) 0 >>= fun r1 =>
  match r1 with
  | .inl a3 => (some true)
  | .inr a3 => (some false)

theorem spec_l09Valid_ok (v_v : (List TRat)) : Wp (spec_l09Valid v_v) (fun r => Con PP 55 [.isl 3 (v_v.map eTRat)] [] (.b r) []) := by
  unfold spec_l09Valid
  exact .bnd fun r1 h2 =>
    (let t1 : List TE := [.reg [nt], .reg [nt, nt, nt]];
    (by
    rcases r1 with a3 | a3
    · exact (.ret (runF_con0 hmix (tape := t1 ++ ([.rst [] [] [(5, ii), (6, ii), (7, ii)], .sub (.exit 0) [] [], .reg [nt]] : List TE)) (rr := ii) (by kernel_rfl) (.c ((spec_l09Valid_L1_ok v_v (len_ eTRat v_v) 0 (.inl a3) h2).vex) .nil)))
    · exact (.ret (runF_con0 hmix (tape := t1 ++ ([.rst [] [] [(5, ii), (6, ii), (7, ii)], .sub (.ret) [(2, .b false)] []] : List TE)) (rr := ii) (by kernel_rfl) (.c ((spec_l09Valid_L1_ok v_v (len_ eTRat v_v) 0 (.inr a3) h2).vex) .nil)))))

def spec_l14Fits (v_s : TStructure) (v_q : (List TRat)) : Option Bool :=
  spec_StructureOk v_s >>= fun r1 =>
  if r1 = true then
    if ((len_ eTRat v_q) == (len_ eTMember v_s.fMembers)) = true then
      spec_l09Valid v_q >>= fun r5 =>
      some r5
    else
      some false
  else
    some false

theorem spec_l14Fits_ok (v_s : TStructure) (v_q : (List TRat)) : Wp (spec_l14Fits v_s v_q) (fun r => Con PP 36 [.agg [.isl 4 (v_s.fJoints.map eTJoint), .isl 3 (v_s.fMembers.map eTMember)], .isl 3 (v_q.map eTRat)] [] (.b r) []) := by
  unfold spec_l14Fits
  exact .bnd fun r1 h2 =>
    (let t1 : List TE := [.reg [nt, nt]];
    have o2 := ((.c (spec_StructureOk_ok v_s r1 h2) (.c (Sc.b _ : Sc (.b r1)) .nil)) : AllP _);
    .ite (fun h3 =>
    .ite (fun h4 =>
    .bnd fun r5 h6 =>
    .ret (runF_con0 hmix (tape := t1 ++ ([.reg [nt, (.call { ac := [ii], r := .b r1, sc := true }, true), nt, nt, nt, nt, nt, nt, nt, (.br true, true), nt, nt, (.call { ac := [ii], r := .b r5, sc := true }, true), (.br true, true), nt]] : List TE)) (rr := ii) (by kernel_rfl) (o2.app (.c h3 (.c h3 (.c h3 (.c h3 (.c h3 (.c h3 (.c h3 (.c h4 (.c h4 (.c (spec_l09Valid_ok v_q r5 h6) (.c (Sc.b _ : Sc (.b r5)) (.c h4 .nil)))))))))))))))
    (fun h4 =>
    .ret (runF_con0 hmix (tape := t1 ++ ([.reg [nt, (.call { ac := [ii], r := .b r1, sc := true }, true), nt, nt, nt, nt, nt, nt, nt, (.br true, true), nt, nf, nf, (.br false, true), nt]] : List TE)) (rr := ii) (by kernel_rfl) (o2.app (.c h3 (.c h3 (.c h3 (.c h3 (.c h3 (.c h3 (.c h3 (.c h4 (.c h4 (.c h4 .nil))))))))))))))
    (fun h3 =>
    .ret (runF_con0 hmix (tape := t1 ++ ([.reg [nt, (.call { ac := [ii], r := .b r1, sc := true }, true), nt, nf, nf, nf, nf, nf, nf, (.br false, true), nt, nf, nf, nt, nt]] : List TE)) (rr := ii) (by kernel_rfl) (o2.app (.c h3 (.c h3 (.c h3 (.c h3 (.c h3 (.c h3 (.c h3 (.c (rfl : false = false) (.c (rfl : false = false) .nil)))))))))))))

def spec_l02Cap (v_a : (List Int)) : Option (List Int) :=
  spec_l02Trim v_a >>= fun r1 =>
  if (decide ((60 : Int) < (len_ eI r1))) = true then
    some ([] : List Int)
  else
    some r1

theorem spec_l02Cap_ok (v_a : (List Int)) : Wp (spec_l02Cap v_a) (fun r => Con PP 61 [.isl 1 (v_a.map eI)] [] (.isl 1 (r.map eI)) []) := by
  unfold spec_l02Cap
  exact .bnd fun r1 h2 =>
    (let t1 : List TE := [.reg [nt], .reg [nt, (.call { ac := [ii], r := .isl 1 (r1.map eI), sc := false }, true), nt], .reg [nt, nt, nt]];
    have o2 := ((.c (spec_l02Trim_ok v_a r1 h2) .nil) : AllP _);
    .ite (fun h3 =>
    .ret (runF_con0 hmix (tape := t1 ++ ([.br true, .reg [nt]] : List TE)) (rr := .c1 (.c0 (.nl 1))) (by kernel_rfl) (o2.app (.c h3 .nil))))
    (fun h3 =>
    .ret (runF_con0 hmix (tape := t1 ++ ([.br false, .reg [nt, nt]] : List TE)) (rr := ii) (by kernel_rfl) (o2.app (.c h3 .nil)))))

def spec_l03Make (v_neg : Bool) (v_a : (List Int)) : Option TBigInt :=
  spec_l02Cap v_a >>= fun r1 =>
  if v_neg = true then
    if (([] : List Int) ++ r1).length * 8 ≤ 140737488355328 then
    some (⟨(decide ((0 : Int) < (len_ eI r1))), ([] : List Int) ++ r1⟩ : TBigInt)
    else none
  else
    if (([] : List Int) ++ r1).length * 8 ≤ 140737488355328 then
    some (⟨false, ([] : List Int) ++ r1⟩ : TBigInt)
    else none

theorem spec_l03Make_ok (v_neg : Bool) (v_a : (List Int)) : Wp (spec_l03Make v_neg v_a) (fun r => Con PP 39 [.b v_neg, .isl 1 (v_a.map eI)] [] (.agg [.b r.fNeg, .isl 1 (r.fMag.map eI)]) []) := by
  unfold spec_l03Make
  exact .bnd fun r1 h2 =>
    (let t1 : List TE := [.reg [nt], .reg [nt, (.call { ac := [ii], r := .isl 1 (r1.map eI), sc := false }, true), nt]];
    have o2 := ((.c (spec_l02Cap_ok v_a r1 h2) .nil) : AllP _);
    .ite (fun h3 =>
    .grd fun h4 =>
    .ret (runF_con0 hmix (tape := t1 ++ ([.reg [nt, nt, nt, nt, nt, (.br true, true), nt, nt, (.app ((([] : List Int) ++ r1).length), true), nt, nt]] : List TE)) (rr := .c1 (.agg [.id, .sl ((([] : List Int) ++ r1).map eI)])) (by kernel_rfl) (o2.app (.c h3 (.c h3 (.c h3 (.c h3 (.c (le_full (show [] = (([] : List Int)).map eI from rfl) (show 0 = ([] : List Int).length from rfl)) (.c (len_app (show 0 = ([] : List Int).length from rfl) (show (r1.map eI) = (r1.map eI) from rfl) : (([] : List Int) ++ r1).length = 0 + (r1.map eI).length) (.c h4 (.c (snap_full (app_full (show [] = (([] : List Int)).map eI from rfl) (show 0 = ([] : List Int).length from rfl) (show (r1.map eI) = (r1.map eI) from rfl)) (show (([] : List Int) ++ r1).length = (([] : List Int) ++ r1).length from rfl)) (.c (fit_full (app_full (show [] = (([] : List Int)).map eI from rfl) (show 0 = ([] : List Int).length from rfl) (show (r1.map eI) = (r1.map eI) from rfl)) (show (([] : List Int) ++ r1).length = (([] : List Int) ++ r1).length from rfl)) (.c (pure_map eI_pure (([] : List Int) ++ r1)) .nil)))))))))))))
    (fun h3 =>
    .grd fun h4 =>
    .ret (runF_con0 hmix (tape := t1 ++ ([.reg [nt, nt, nf, nf, nf, (.br false, true), nt, nt, (.app ((([] : List Int) ++ r1).length), true), nt, nt]] : List TE)) (rr := .c1 (.agg [.id, .sl ((([] : List Int) ++ r1).map eI)])) (by kernel_rfl) (o2.app (.c h3 (.c h3 (.c h3 (.c h3 (.c (le_full (show [] = (([] : List Int)).map eI from rfl) (show 0 = ([] : List Int).length from rfl)) (.c (len_app (show 0 = ([] : List Int).length from rfl) (show (r1.map eI) = (r1.map eI) from rfl) : (([] : List Int) ++ r1).length = 0 + (r1.map eI).length) (.c h4 (.c (snap_full (app_full (show [] = (([] : List Int)).map eI from rfl) (show 0 = ([] : List Int).length from rfl) (show (r1.map eI) = (r1.map eI) from rfl)) (show (([] : List Int) ++ r1).length = (([] : List Int) ++ r1).length from rfl)) (.c (fit_full (app_full (show [] = (([] : List Int)).map eI from rfl) (show 0 = ([] : List Int).length from rfl) (show (r1.map eI) = (r1.map eI) from rfl)) (show (([] : List Int) ++ r1).length = (([] : List Int) ++ r1).length from rfl)) (.c (pure_map eI_pure (([] : List Int) ++ r1)) .nil))))))))))))))

def spec_l04Low (v_neg : Bool) (v_a : (List Int)) (v_b : (List Int)) : Option TRat :=
  spec_l02Trim v_a >>= fun r1 =>
  spec_l02Trim v_b >>= fun r3 =>
  if ((len_ eI r3) == (0 : Int)) = true then
    some (⟨(⟨false, ([] : List Int)⟩ : TBigInt), ([] : List Int)⟩ : TRat)
  else
    spec_l04One r3 >>= fun r6 =>
    if r6 = true then
      if (decide ((24 : Int) < (len_ eI r1))) = true then
        some (⟨(⟨false, ([] : List Int)⟩ : TBigInt), ([] : List Int)⟩ : TRat)
      else
        if (decide ((24 : Int) < (len_ eI r3))) = true then
          some (⟨(⟨false, ([] : List Int)⟩ : TBigInt), ([] : List Int)⟩ : TRat)
        else
          spec_l03Make v_neg r1 >>= fun r11 =>
          if (([] : List Int) ++ r3).length * 8 ≤ 140737488355328 then
          some (⟨r11, ([] : List Int) ++ r3⟩ : TRat)
          else none
    else
      spec_l02Gcd r1 r3 >>= fun r9 =>
      spec_l04One r9 >>= fun r11 =>
      if r11 = true then
        if (decide ((24 : Int) < (len_ eI r1))) = true then
          some (⟨(⟨false, ([] : List Int)⟩ : TBigInt), ([] : List Int)⟩ : TRat)
        else
          if (decide ((24 : Int) < (len_ eI r3))) = true then
            some (⟨(⟨false, ([] : List Int)⟩ : TBigInt), ([] : List Int)⟩ : TRat)
          else
            spec_l03Make v_neg r1 >>= fun r16 =>
            if (([] : List Int) ++ r3).length * 8 ≤ 140737488355328 then
            some (⟨r16, ([] : List Int) ++ r3⟩ : TRat)
            else none
      else
        spec_l02Div r1 r9 >>= fun r14 =>
        spec_l02Div r3 r9 >>= fun r16 =>
        if (decide ((24 : Int) < (len_ eI r14.1))) = true then
          some (⟨(⟨false, ([] : List Int)⟩ : TBigInt), ([] : List Int)⟩ : TRat)
        else
          if (decide ((24 : Int) < (len_ eI r16.1))) = true then
            some (⟨(⟨false, ([] : List Int)⟩ : TBigInt), ([] : List Int)⟩ : TRat)
          else
            spec_l03Make v_neg r14.1 >>= fun r20 =>
            if (([] : List Int) ++ r16.1).length * 8 ≤ 140737488355328 then
            some (⟨r20, ([] : List Int) ++ r16.1⟩ : TRat)
            else none

theorem spec_l04Low_ok (v_neg : Bool) (v_a : (List Int)) (v_b : (List Int)) : Wp (spec_l04Low v_neg v_a v_b) (fun r => Con PP 92 [.b v_neg, .isl 1 (v_a.map eI), .isl 1 (v_b.map eI)] [] (.agg [.b r.fNum.fNeg, .isl 1 (r.fNum.fMag.map eI), .isl 1 (r.fDen.map eI)]) []) := by
  unfold spec_l04Low
  exact .bnd fun r1 h2 =>
    .bnd fun r3 h4 =>
    (let t1 : List TE := [.reg [nt], .reg [nt, (.call { ac := [ii], r := .isl 1 (r1.map eI), sc := false }, true), nt], .reg [nt, (.call { ac := [ii], r := .isl 1 (r3.map eI), sc := false }, true), nt], .reg [nt, nt, nt]];
    have o2 := ((.c (spec_l02Trim_ok v_a r1 h2) (.c (spec_l02Trim_ok v_b r3 h4) .nil)) : AllP _);
    .ite (fun h5 =>
    .ret (runF_con0 hmix (tape := t1 ++ ([.br true, .reg [nt, nt]] : List TE)) (rr := .c1 (.agg [.id, .nl 1, .nl 1])) (by kernel_rfl) (o2.app (.c h5 .nil))))
    (fun h5 =>
    .bnd fun r6 h7 =>
    (let t3 : List TE := t1 ++ ([.br false, .reg [nt, (.call { ac := [ii], r := .b r6, sc := true }, true), nt]] : List TE);
    have o4 := o2.app (.c h5 (.c (spec_l04One_ok r3 r6 h7) (.c (Sc.b _ : Sc (.b r6)) .nil)));
    .ite (fun h8 =>
    .ite (fun h9 =>
    .ret (runF_con0 hmix (tape := t3 ++ ([.br false, .reg [nt, nt, nt, nt, nf, nf, nf, (.br true, true)], .br true, .reg [nt, nt]] : List TE)) (rr := .c1 (.agg [.id, .nl 1, .nl 1])) (by kernel_rfl) (o4.app (.c (not_t h8) (.c h9 (.c h9 (.c h9 (.c h9 (.c (rfl : true = true) .nil)))))))))
    (fun h9 =>
    (let t5 : List TE := t3 ++ ([.br false, .reg [nt, nt, nt, nt, nt, nt, nt, (.br false, true)]] : List TE);
    .ite (fun h10 =>
    .ret (runF_con0 hmix (tape := t5 ++ ([.br true, .reg [nt, nt]] : List TE)) (rr := .c1 (.agg [.id, .nl 1, .nl 1])) (by kernel_rfl) (o4.app (.c (not_t h8) (.c h9 (.c h9 (.c h9 (.c h9 (.c h10 .nil)))))))))
    (fun h10 =>
    .bnd fun r11 h12 =>
    .grd fun h13 =>
    .ret (runF_con0 hmix (tape := t5 ++ ([.br false, .reg [nt, nt, (.call { ac := [ii, ii], r := .agg [.b r11.fNeg, .isl 1 (r11.fMag.map eI)], sc := false }, true), nt, nt, (.app ((([] : List Int) ++ r3).length), true), nt, nt]] : List TE)) (rr := .c1 (.agg [.id, .id, .sl ((([] : List Int) ++ r3).map eI)])) (by kernel_rfl) (o4.app (.c (not_t h8) (.c h9 (.c h9 (.c h9 (.c h9 (.c h10 (.c (spec_l03Make_ok v_neg r1 r11 h12) (.c (le_full (show [] = (([] : List Int)).map eI from rfl) (show 0 = ([] : List Int).length from rfl)) (.c (len_app (show 0 = ([] : List Int).length from rfl) (show (r3.map eI) = (r3.map eI) from rfl) : (([] : List Int) ++ r3).length = 0 + (r3.map eI).length) (.c h13 (.c (snap_full (app_full (show [] = (([] : List Int)).map eI from rfl) (show 0 = ([] : List Int).length from rfl) (show (r3.map eI) = (r3.map eI) from rfl)) (show (([] : List Int) ++ r3).length = (([] : List Int) ++ r3).length from rfl)) (.c (fit_full (app_full (show [] = (([] : List Int)).map eI from rfl) (show 0 = ([] : List Int).length from rfl) (show (r3.map eI) = (r3.map eI) from rfl)) (show (([] : List Int) ++ r3).length = (([] : List Int) ++ r3).length from rfl)) (.c (pure_map eI_pure (([] : List Int) ++ r3)) .nil)))))))))))))))))))
    (fun h8 =>
    .bnd fun r9 h10 =>
    .bnd fun r11 h12 =>
    (let t5 : List TE := t3 ++ ([.br true, .reg [nt, nt, (.call { ac := [ii, ii], r := .isl 1 (r9.map eI), sc := false }, true), nt], .reg [nt, (.call { ac := [ii], r := .b r11, sc := true }, true), nt]] : List TE);
    have o6 := o4.app (.c (not_f h8) (.c (spec_l02Gcd_ok r1 r3 r9 h10) (.c (spec_l04One_ok r9 r11 h12) (.c (Sc.b _ : Sc (.b r11)) .nil))));
    .ite (fun h13 =>
    .ite (fun h14 =>
    .ret (runF_con0 hmix (tape := t5 ++ ([.br false, .reg [nt, nt, nt, nt, nf, nf, nf, (.br true, true)], .br true, .reg [nt, nt]] : List TE)) (rr := .c1 (.agg [.id, .nl 1, .nl 1])) (by kernel_rfl) (o6.app (.c (not_t h13) (.c h14 (.c h14 (.c h14 (.c h14 (.c (rfl : true = true) .nil)))))))))
    (fun h14 =>
    (let t7 : List TE := t5 ++ ([.br false, .reg [nt, nt, nt, nt, nt, nt, nt, (.br false, true)]] : List TE);
    have o8 := o6.app (.c (not_t h13) (.c h14 (.c h14 (.c h14 (.c h14 .nil)))));
    .ite (fun h15 =>
    .ret (runF_con0 hmix (tape := t7 ++ ([.br true, .reg [nt, nt]] : List TE)) (rr := .c1 (.agg [.id, .nl 1, .nl 1])) (by kernel_rfl) (o8.app (.c h15 .nil))))
    (fun h15 =>
    .bnd fun r16 h17 =>
    .grd fun h18 =>
    .ret (runF_con0 hmix (tape := t7 ++ ([.br false, .reg [nt, nt, (.call { ac := [ii, ii], r := .agg [.b r16.fNeg, .isl 1 (r16.fMag.map eI)], sc := false }, true), nt, nt, (.app ((([] : List Int) ++ r3).length), true), nt, nt]] : List TE)) (rr := .c1 (.agg [.id, .id, .sl ((([] : List Int) ++ r3).map eI)])) (by kernel_rfl) (o8.app (.c h15 (.c (spec_l03Make_ok v_neg r1 r16 h17) (.c (le_full (show [] = (([] : List Int)).map eI from rfl) (show 0 = ([] : List Int).length from rfl)) (.c (len_app (show 0 = ([] : List Int).length from rfl) (show (r3.map eI) = (r3.map eI) from rfl) : (([] : List Int) ++ r3).length = 0 + (r3.map eI).length) (.c h18 (.c (snap_full (app_full (show [] = (([] : List Int)).map eI from rfl) (show 0 = ([] : List Int).length from rfl) (show (r3.map eI) = (r3.map eI) from rfl)) (show (([] : List Int) ++ r3).length = (([] : List Int) ++ r3).length from rfl)) (.c (fit_full (app_full (show [] = (([] : List Int)).map eI from rfl) (show 0 = ([] : List Int).length from rfl) (show (r3.map eI) = (r3.map eI) from rfl)) (show (([] : List Int) ++ r3).length = (([] : List Int) ++ r3).length from rfl)) (.c (pure_map eI_pure (([] : List Int) ++ r3)) .nil))))))))))))))
    (fun h13 =>
    .bnd fun r14 h15 =>
    .bnd fun r16 h17 =>
    (let t7 : List TE := t5 ++ ([.br true, .reg [nt, nt, (.call { ac := [ii, ii], r := .tup [.isl 1 (r14.1.map eI), .isl 1 (r14.2.map eI)], sc := false }, true), nt, nt, nt, nt], .reg [nt, nt, (.call { ac := [ii, ii], r := .tup [.isl 1 (r16.1.map eI), .isl 1 (r16.2.map eI)], sc := false }, true), nt, nt, nt, nt]] : List TE);
    have o8 := o6.app (.c (not_f h13) (.c (spec_l02Div_ok r1 r9 r14 h15) (.c (spec_l02Div_ok r3 r9 r16 h17) .nil)));
    .ite (fun h18 =>
    .ret (runF_con0 hmix (tape := t7 ++ ([.reg [nt, nt, nt, nt, nf, nf, nf, (.br true, true)], .br true, .reg [nt, nt]] : List TE)) (rr := .c1 (.agg [.id, .nl 1, .nl 1])) (by kernel_rfl) (o8.app (.c h18 (.c h18 (.c h18 (.c h18 (.c (rfl : true = true) .nil))))))))
    (fun h18 =>
    (let t9 : List TE := t7 ++ ([.reg [nt, nt, nt, nt, nt, nt, nt, (.br false, true)]] : List TE);
    .ite (fun h19 =>
    .ret (runF_con0 hmix (tape := t9 ++ ([.br true, .reg [nt, nt]] : List TE)) (rr := .c1 (.agg [.id, .nl 1, .nl 1])) (by kernel_rfl) (o8.app (.c h18 (.c h18 (.c h18 (.c h18 (.c h19 .nil))))))))
    (fun h19 =>
    .bnd fun r20 h21 =>
    .grd fun h22 =>
    .ret (runF_con0 hmix (tape := t9 ++ ([.br false, .reg [nt, nt, (.call { ac := [ii, ii], r := .agg [.b r20.fNeg, .isl 1 (r20.fMag.map eI)], sc := false }, true), nt, nt, (.app ((([] : List Int) ++ r16.1).length), true), nt, nt]] : List TE)) (rr := .c1 (.agg [.id, .id, .sl ((([] : List Int) ++ r16.1).map eI)])) (by kernel_rfl) (o8.app (.c h18 (.c h18 (.c h18 (.c h18 (.c h19 (.c (spec_l03Make_ok v_neg r14.1 r20 h21) (.c (le_full (show [] = (([] : List Int)).map eI from rfl) (show 0 = ([] : List Int).length from rfl)) (.c (len_app (show 0 = ([] : List Int).length from rfl) (show (r16.1.map eI) = (r16.1.map eI) from rfl) : (([] : List Int) ++ r16.1).length = 0 + (r16.1.map eI).length) (.c h22 (.c (snap_full (app_full (show [] = (([] : List Int)).map eI from rfl) (show 0 = ([] : List Int).length from rfl) (show (r16.1.map eI) = (r16.1.map eI) from rfl)) (show (([] : List Int) ++ r16.1).length = (([] : List Int) ++ r16.1).length from rfl)) (.c (fit_full (app_full (show [] = (([] : List Int)).map eI from rfl) (show 0 = ([] : List Int).length from rfl) (show (r16.1.map eI) = (r16.1.map eI) from rfl)) (show (([] : List Int) ++ r16.1).length = (([] : List Int) ++ r16.1).length from rfl)) (.c (pure_map eI_pure (([] : List Int) ++ r16.1)) .nil))))))))))))))))))))))))

def spec_l04Mul (v_r : TRat) (v_s : TRat) : Option TRat :=
  spec_l02Mul v_r.fNum.fMag v_s.fNum.fMag >>= fun r1 =>
  spec_l02Mul v_r.fDen v_s.fDen >>= fun r3 =>
  spec_l04Low (!(v_r.fNum.fNeg == v_s.fNum.fNeg)) r1 r3 >>= fun r5 =>
  some r5

theorem spec_l04Mul_ok (v_r : TRat) (v_s : TRat) : Wp (spec_l04Mul v_r v_s) (fun r => Con PP 73 [.agg [.b v_r.fNum.fNeg, .isl 1 (v_r.fNum.fMag.map eI), .isl 1 (v_r.fDen.map eI)], .agg [.b v_s.fNum.fNeg, .isl 1 (v_s.fNum.fMag.map eI), .isl 1 (v_s.fDen.map eI)]] [] (.agg [.b r.fNum.fNeg, .isl 1 (r.fNum.fMag.map eI), .isl 1 (r.fDen.map eI)]) []) := by
  unfold spec_l04Mul
  exact .bnd fun r1 h2 =>
    .bnd fun r3 h4 =>
    .bnd fun r5 h6 =>
    .ret (runF_con0 hmix (tape := [.reg [nt, nt, nt], .reg [nt, nt, nt, nt, nt, nt, nt, nt, nt, nt, nt, nt, nt, (.call { ac := [ii, ii], r := .isl 1 (r1.map eI), sc := false }, true), nt, nt, nt, nt, (.call { ac := [ii, ii], r := .isl 1 (r3.map eI), sc := false }, true), (.call { ac := [ii, ii, ii], r := .agg [.b r5.fNum.fNeg, .isl 1 (r5.fNum.fMag.map eI), .isl 1 (r5.fDen.map eI)], sc := false }, true), nt]]) (rr := ii) (by kernel_rfl) (.c (spec_l02Mul_ok v_r.fNum.fMag v_s.fNum.fMag r1 h2) (.c (spec_l02Mul_ok v_r.fDen v_s.fDen r3 h4) (.c (spec_l04Low_ok (!(v_r.fNum.fNeg == v_s.fNum.fNeg)) r1 r3 r5 h6) .nil))))

def spec_RatMul (v_r : TRat) (v_s : TRat) : Option TRat :=
  spec_RatOk v_r >>= fun r1 =>
  if r1 = true then
    spec_RatOk v_s >>= fun r4 =>
    if r4 = true then
      spec_l04Mul v_r v_s >>= fun r7 =>
      some r7
    else
      some (⟨(⟨false, ([] : List Int)⟩ : TBigInt), ([] : List Int)⟩ : TRat)
  else
    some (⟨(⟨false, ([] : List Int)⟩ : TBigInt), ([] : List Int)⟩ : TRat)

theorem spec_RatMul_ok (v_r : TRat) (v_s : TRat) : Wp (spec_RatMul v_r v_s) (fun r => Con PP 57 [.agg [.b v_r.fNum.fNeg, .isl 1 (v_r.fNum.fMag.map eI), .isl 1 (v_r.fDen.map eI)], .agg [.b v_s.fNum.fNeg, .isl 1 (v_s.fNum.fMag.map eI), .isl 1 (v_s.fDen.map eI)]] [] (.agg [.b r.fNum.fNeg, .isl 1 (r.fNum.fMag.map eI), .isl 1 (r.fDen.map eI)]) []) := by
  unfold spec_RatMul
  exact .bnd fun r1 h2 =>
    (let t1 : List TE := [.reg [nt, nt, nt]];
    have o2 := ((.c (spec_RatOk_ok v_r r1 h2) (.c (Sc.b _ : Sc (.b r1)) .nil)) : AllP _);
    .ite (fun h3 =>
    .bnd fun r4 h5 =>
    (let t3 : List TE := t1 ++ ([.reg [nt, (.call { ac := [ii], r := .b r1, sc := true }, true), nt, nt, nt, (.call { ac := [ii], r := .b r4, sc := true }, true), nt, (.br false, true)]] : List TE);
    have o4 := o2.app (.c (not_t h3) (.c (not_t h3) (.c (spec_RatOk_ok v_s r4 h5) (.c (Sc.b _ : Sc (.b r4)) (.c (not_t h3) (.c (not_t h3) .nil))))));
    .ite (fun h6 =>
    .bnd fun r7 h8 =>
    .ret (runF_con0 hmix (tape := t3 ++ ([.br false, .reg [nt, nt, (.call { ac := [ii, ii], r := .agg [.b r7.fNum.fNeg, .isl 1 (r7.fNum.fMag.map eI), .isl 1 (r7.fDen.map eI)], sc := false }, true), nt]] : List TE)) (rr := ii) (by kernel_rfl) (o4.app (.c (not_t h6) (.c (spec_l04Mul_ok v_r v_s r7 h8) .nil)))))
    (fun h6 =>
    .ret (runF_con0 hmix (tape := t3 ++ ([.br true, .reg [nt, nt]] : List TE)) (rr := .c1 (.agg [.id, .nl 1, .nl 1])) (by kernel_rfl) (o4.app (.c (not_f h6) .nil))))))
    (fun h3 =>
    .ret (runF_con0 hmix (tape := t1 ++ ([.reg [nt, (.call { ac := [ii], r := .b r1, sc := true }, true), nt, nt, nf, nf, nf, (.br true, true)], .br true, .reg [nt, nt]] : List TE)) (rr := .c1 (.agg [.id, .nl 1, .nl 1])) (by kernel_rfl) (o2.app (.c (not_f h3) (.c (not_f h3) (.c (not_f h3) (.c (not_f h3) (.c (rfl : true = true) .nil)))))))))

def spec_l12Vector (v_s : TStructure) (v_k : Int) : Option (Int × Int) :=
  if 0 ≤ v_k ∧ v_k < v_s.fMembers.length then
  v_s.fMembers[v_k.toNat]? >>= fun x2 =>
  if 0 ≤ x2.fA ∧ x2.fA < v_s.fJoints.length then
  v_s.fJoints[x2.fA.toNat]? >>= fun x5 =>
  if 0 ≤ x2.fB ∧ x2.fB < v_s.fJoints.length then
  v_s.fJoints[x2.fB.toNat]? >>= fun x8 =>
  some (w64 (x8.fX - x5.fX), w64 (x8.fY - x5.fY))
  else none
  else none
  else none

theorem spec_l12Vector_ok (v_s : TStructure) (v_k : Int) : Wp (spec_l12Vector v_s v_k) (fun r => Con PP 93 [.agg [.isl 4 (v_s.fJoints.map eTJoint), .isl 3 (v_s.fMembers.map eTMember)], .n .i64 v_k] [] (.tup [.n .i64 r.1, .n .i64 r.2]) []) := by
  unfold spec_l12Vector
  exact .grd fun h1 =>
    .bnd fun x2 h3 =>
    .grd fun h4 =>
    .bnd fun x5 h6 =>
    .grd fun h7 =>
    .bnd fun x8 h9 =>
    .ret (runF_con0 hmix (tape := [.reg [nt, nt, nt], .reg [nt, nt, nt, nt, nt, nt, nt, (.el (eTMember x2), true), nt, (.el (eTJoint x5), true), nt, nt], .reg [nt, nt, nt, nt, nt, nt, nt, (.el (eTMember x2), true), nt, (.el (eTJoint x8), true), nt, nt], .reg [nt, nt, nt, nt, nt, nt, nt, nt, nt, nt, nt, nt]]) (rr := ii) (by kernel_rfl) (.c ((h1).1) (.c (lt_mapI (h1).2 : v_k < ((v_s.fMembers.map eTMember).length : Nat)) (.c (map_get h3 : (v_s.fMembers.map eTMember)[v_k.toNat]? = some (eTMember x2)) (.c ((h4).1) (.c (lt_mapI (h4).2 : x2.fA < ((v_s.fJoints.map eTJoint).length : Nat)) (.c (map_get h6 : (v_s.fJoints.map eTJoint)[x2.fA.toNat]? = some (eTJoint x5)) (.c ((h1).1) (.c (lt_mapI (h1).2 : v_k < ((v_s.fMembers.map eTMember).length : Nat)) (.c (map_get h3 : (v_s.fMembers.map eTMember)[v_k.toNat]? = some (eTMember x2)) (.c ((h7).1) (.c (lt_mapI (h7).2 : x2.fB < ((v_s.fJoints.map eTJoint).length : Nat)) (.c (map_get h9 : (v_s.fJoints.map eTJoint)[x2.fB.toNat]? = some (eTJoint x8)) .nil)))))))))))))

def spec_VectorOf (v_s : TStructure) (v_k : Int) : Option (Int × Int) :=
  spec_StructureOk v_s >>= fun r1 =>
  if r1 = true then
    spec_l01In v_k 0 (w64 ((len_ eTMember v_s.fMembers) - (1 : Int))) >>= fun r4 =>
    if r4 = true then
      spec_l12Vector v_s v_k >>= fun r7 =>
      some (r7.1, r7.2)
    else
      some (0, 0)
  else
    some (0, 0)

theorem spec_VectorOf_ok (v_s : TStructure) (v_k : Int) : Wp (spec_VectorOf v_s v_k) (fun r => Con PP 74 [.agg [.isl 4 (v_s.fJoints.map eTJoint), .isl 3 (v_s.fMembers.map eTMember)], .n .i64 v_k] [] (.tup [.n .i64 r.1, .n .i64 r.2]) []) := by
  unfold spec_VectorOf
  exact .bnd fun r1 h2 =>
    (let t1 : List TE := [.reg [nt, nt, nt]];
    have o2 := ((.c (spec_StructureOk_ok v_s r1 h2) (.c (Sc.b _ : Sc (.b r1)) .nil)) : AllP _);
    .ite (fun h3 =>
    .bnd fun r4 h5 =>
    (let t3 : List TE := t1 ++ ([.reg [nt, (.call { ac := [ii], r := .b r1, sc := true }, true), nt, nt, nt, nt, nt, nt, nt, (.call { ac := [ii, ii, ii], r := .b r4, sc := true }, true), nt, (.br false, true)]] : List TE);
    have o4 := o2.app (.c (not_t h3) (.c (not_t h3) (.c (not_t h3) (.c (not_t h3) (.c (not_t h3) (.c (not_t h3) (.c (spec_l01In_ok v_k 0 (w64 ((len_ eTMember v_s.fMembers) - (1 : Int))) r4 h5) (.c (Sc.b _ : Sc (.b r4)) (.c (not_t h3) (.c (not_t h3) .nil))))))))));
    .ite (fun h6 =>
    .bnd fun r7 h8 =>
    .ret (runF_con0 hmix (tape := t3 ++ ([.br false, .reg [nt, nt, (.call { ac := [ii, ii], r := .tup [.n .i64 r7.1, .n .i64 r7.2], sc := true }, true), nt, nt, nt, nt]] : List TE)) (rr := ii) (by kernel_rfl) (o4.app (.c (not_t h6) (.c (spec_l12Vector_ok v_s v_k r7 h8) (.c (sc_tup (sc_cons (Sc.n _ _ : Sc (.n .i64 r7.1)) (sc_cons (Sc.n _ _ : Sc (.n .i64 r7.2)) sc_nil)) : Sc (.tup [.n .i64 r7.1, .n .i64 r7.2])) .nil))))))
    (fun h6 =>
    .ret (runF_con0 hmix (tape := t3 ++ ([.br true, .reg [nt, nt]] : List TE)) (rr := ii) (by kernel_rfl) (o4.app (.c (not_f h6) .nil))))))
    (fun h3 =>
    .ret (runF_con0 hmix (tape := t1 ++ ([.reg [nt, (.call { ac := [ii], r := .b r1, sc := true }, true), nt, nt, nf, nf, nf, nf, nf, nf, nf, (.br true, true)], .br true, .reg [nt, nt]] : List TE)) (rr := ii) (by kernel_rfl) (o2.app (.c (not_f h3) (.c (not_f h3) (.c (not_f h3) (.c (not_f h3) (.c (not_f h3) (.c (not_f h3) (.c (not_f h3) (.c (not_f h3) (.c (rfl : true = true) .nil)))))))))))))

def spec_SquareOf (v_s : TStructure) (v_k : Int) : Option Int :=
  spec_VectorOf v_s v_k >>= fun r1 =>
  some (w64 ((w64 (r1.1 * r1.1)) + (w64 (r1.2 * r1.2))))

theorem spec_SquareOf_ok (v_s : TStructure) (v_k : Int) : Wp (spec_SquareOf v_s v_k) (fun r => Con PP 58 [.agg [.isl 4 (v_s.fJoints.map eTJoint), .isl 3 (v_s.fMembers.map eTMember)], .n .i64 v_k] [] (.n .i64 r) []) := by
  unfold spec_SquareOf
  exact .bnd fun r1 h2 =>
    .ret (runF_con0 hmix (tape := [.reg [nt, nt], .reg [nt, nt, (.call { ac := [ii, ii], r := .tup [.n .i64 r1.1, .n .i64 r1.2], sc := true }, true), nt, nt, nt, nt, nt], .reg [nt, nt, nt, nt, nt, nt, nt, nt]]) (rr := ii) (by kernel_rfl) (.c (spec_VectorOf_ok v_s v_k r1 h2) (.c (sc_tup (sc_cons (Sc.n _ _ : Sc (.n .i64 r1.1)) (sc_cons (Sc.n _ _ : Sc (.n .i64 r1.2)) sc_nil)) : Sc (.tup [.n .i64 r1.1, .n .i64 r1.2])) .nil)))

def spec_BigIntOf (v_n : Int) : Option TBigInt :=
  if (v_n == (-9223372036854775808 : Int)) = true then
    spec_l03Make true ([854775808, 223372036, 9] : List Int) >>= fun r2 =>
    some r2
  else
    if (decide (v_n < (0 : Int))) = true then
      spec_NatOf (w64 (0 - v_n)) >>= fun r3 =>
      spec_l03Make true r3 >>= fun r5 =>
      some r5
    else
      spec_NatOf v_n >>= fun r3 =>
      spec_l03Make false r3 >>= fun r5 =>
      some r5

theorem spec_BigIntOf_ok (v_n : Int) : Wp (spec_BigIntOf v_n) (fun r => Con PP 41 [.n .i64 v_n] [] (.agg [.b r.fNeg, .isl 1 (r.fMag.map eI)]) []) := by
  unfold spec_BigIntOf
  exact (let t1 : List TE := [.reg [nt], .reg [nt, nt]];
    .ite (fun h1 =>
    .bnd fun r2 h3 =>
    .ret (runF_con0 hmix (tape := t1 ++ ([.br true, .reg [nt, (.fz 3 (.call { ac := [ii, .c1 (.c0 (.sl (([854775808, 223372036, 9] : List Int).map eI)))], rds := [3], r := .agg [.b r2.fNeg, .isl 1 (r2.fMag.map eI)], sc := false }), true), nt]] : List TE)) (rr := ii) (by kernel_rfl) (.c h1 (.c (snap_full (show [[.n .i64 (854775808 : Int)], [.n .i64 (223372036 : Int)], [.n .i64 (9 : Int)]] = (([854775808, 223372036, 9] : List Int)).map eI from rfl) (show 3 = ([854775808, 223372036, 9] : List Int).length from rfl)) (.c (fit_full (show [[.n .i64 (854775808 : Int)], [.n .i64 (223372036 : Int)], [.n .i64 (9 : Int)]] = (([854775808, 223372036, 9] : List Int)).map eI from rfl) (show 3 = ([854775808, 223372036, 9] : List Int).length from rfl)) (.c (pure_map eI_pure ([854775808, 223372036, 9] : List Int)) (.c (spec_l03Make_ok true ([854775808, 223372036, 9] : List Int) r2 h3) .nil)))))))
    (fun h1 =>
    (let t2 : List TE := t1 ++ ([.br false, .reg [nt, nt]] : List TE);
    .ite (fun h2 =>
    .bnd fun r3 h4 =>
    .bnd fun r5 h6 =>
    .ret (runF_con0 hmix (tape := t2 ++ ([.br true, .reg [nt, nt, (.call { ac := [ii], r := .isl 1 (r3.map eI), sc := false }, true), (.call { ac := [ii, ii], r := .agg [.b r5.fNeg, .isl 1 (r5.fMag.map eI)], sc := false }, true), nt]] : List TE)) (rr := ii) (by kernel_rfl) (.c h1 (.c h2 (.c (spec_NatOf_ok (w64 (0 - v_n)) r3 h4) (.c (spec_l03Make_ok true r3 r5 h6) .nil))))))
    (fun h2 =>
    .bnd fun r3 h4 =>
    .bnd fun r5 h6 =>
    .ret (runF_con0 hmix (tape := t2 ++ ([.br false, .reg [nt, (.call { ac := [ii], r := .isl 1 (r3.map eI), sc := false }, true), (.call { ac := [ii, ii], r := .agg [.b r5.fNeg, .isl 1 (r5.fMag.map eI)], sc := false }, true), nt]] : List TE)) (rr := ii) (by kernel_rfl) (.c h1 (.c h2 (.c (spec_NatOf_ok v_n r3 h4) (.c (spec_l03Make_ok false r3 r5 h6) .nil)))))))))

def spec_RatFromInt (v_n : Int) : Option TRat :=
  spec_BigIntOf v_n >>= fun r1 =>
  some (⟨r1, ([1] : List Int)⟩ : TRat)

theorem spec_RatFromInt_ok (v_n : Int) : Wp (spec_RatFromInt v_n) (fun r => Con PP 22 [.n .i64 v_n] [] (.agg [.b r.fNum.fNeg, .isl 1 (r.fNum.fMag.map eI), .isl 1 (r.fDen.map eI)]) []) := by
  unfold spec_RatFromInt
  exact .bnd fun r1 h2 =>
    .ret (runF_con0 hmix (tape := [.reg [nt], .reg [nt, (.call { ac := [ii], r := .agg [.b r1.fNeg, .isl 1 (r1.fMag.map eI)], sc := false }, true), nt, nt, nt]]) (rr := .c1 (.agg [.id, .id, .sl (([1] : List Int).map eI)])) (by kernel_rfl) (.c (spec_BigIntOf_ok v_n r1 h2) (.c (snap_full (show [[.n .i64 (1 : Int)]] = (([1] : List Int)).map eI from rfl) (show 1 = ([1] : List Int).length from rfl)) (.c (fit_full (show [[.n .i64 (1 : Int)]] = (([1] : List Int)).map eI from rfl) (show 1 = ([1] : List Int).length from rfl)) (.c (pure_map eI_pure ([1] : List Int)) .nil)))))

def spec_ForceSquare (v_s : TStructure) (v_q : (List TRat)) (v_k : Int) : Option (TRat × Bool) :=
  spec_l14Fits v_s v_q >>= fun r1 =>
  if r1 = true then
    spec_l01In v_k 0 (w64 ((len_ eTMember v_s.fMembers) - (1 : Int))) >>= fun r4 =>
    if r4 = true then
      if 0 ≤ v_k ∧ v_k < v_q.length then
      v_q[v_k.toNat]? >>= fun x8 =>
      spec_RatMul x8 x8 >>= fun r10 =>
      spec_SquareOf v_s v_k >>= fun r12 =>
      spec_RatFromInt r12 >>= fun r14 =>
      spec_RatMul r10 r14 >>= fun r16 =>
      spec_RatOk r16 >>= fun r18 =>
      some (r16, r18)
      else none
    else
      some ((⟨(⟨false, ([] : List Int)⟩ : TBigInt), ([] : List Int)⟩ : TRat), false)
  else
    some ((⟨(⟨false, ([] : List Int)⟩ : TBigInt), ([] : List Int)⟩ : TRat), false)

theorem spec_ForceSquare_ok (v_s : TStructure) (v_q : (List TRat)) (v_k : Int) : Wp (spec_ForceSquare v_s v_q v_k) (fun r => Con PP 37 [.agg [.isl 4 (v_s.fJoints.map eTJoint), .isl 3 (v_s.fMembers.map eTMember)], .isl 3 (v_q.map eTRat), .n .i64 v_k] [] (.tup [.agg [.b r.1.fNum.fNeg, .isl 1 (r.1.fNum.fMag.map eI), .isl 1 (r.1.fDen.map eI)], .b r.2]) []) := by
  unfold spec_ForceSquare
  exact .bnd fun r1 h2 =>
    (let t1 : List TE := [.reg [nt, nt, nt]];
    have o2 := ((.c (spec_l14Fits_ok v_s v_q r1 h2) (.c (Sc.b _ : Sc (.b r1)) .nil)) : AllP _);
    .ite (fun h3 =>
    .bnd fun r4 h5 =>
    (let t3 : List TE := t1 ++ ([.reg [nt, nt, (.call { ac := [ii, ii], r := .b r1, sc := true }, true), nt, nt, nt, nt, nt, nt, nt, (.call { ac := [ii, ii, ii], r := .b r4, sc := true }, true), nt, (.br false, true)]] : List TE);
    have o4 := o2.app (.c (not_t h3) (.c (not_t h3) (.c (not_t h3) (.c (not_t h3) (.c (not_t h3) (.c (not_t h3) (.c (spec_l01In_ok v_k 0 (w64 ((len_ eTMember v_s.fMembers) - (1 : Int))) r4 h5) (.c (Sc.b _ : Sc (.b r4)) (.c (not_t h3) (.c (not_t h3) .nil))))))))));
    .ite (fun h6 =>
    .grd fun h7 =>
    .bnd fun x8 h9 =>
    .bnd fun r10 h11 =>
    .bnd fun r12 h13 =>
    .bnd fun r14 h15 =>
    .bnd fun r16 h17 =>
    .bnd fun r18 h19 =>
    .ret (runF_con0 hmix (tape := t3 ++ ([.br false, .reg [nt, nt, nt, (.el (eTRat x8), true), nt, nt, nt, (.el (eTRat x8), true), (.call { ac := [ii, ii], r := .agg [.b r10.fNum.fNeg, .isl 1 (r10.fNum.fMag.map eI), .isl 1 (r10.fDen.map eI)], sc := false }, true), nt, nt, (.call { ac := [ii, ii], r := .n .i64 r12, sc := true }, true), (.call { ac := [ii], r := .agg [.b r14.fNum.fNeg, .isl 1 (r14.fNum.fMag.map eI), .isl 1 (r14.fDen.map eI)], sc := false }, true), (.call { ac := [ii, ii], r := .agg [.b r16.fNum.fNeg, .isl 1 (r16.fNum.fMag.map eI), .isl 1 (r16.fDen.map eI)], sc := false }, true), nt, nt], .reg [nt, nt, (.call { ac := [ii], r := .b r18, sc := true }, true), nt, nt]] : List TE)) (rr := ii) (by kernel_rfl) (o4.app (.c (not_t h6) (.c ((h7).1) (.c (lt_mapI (h7).2 : v_k < ((v_q.map eTRat).length : Nat)) (.c (map_get h9 : (v_q.map eTRat)[v_k.toNat]? = some (eTRat x8)) (.c ((h7).1) (.c (lt_mapI (h7).2 : v_k < ((v_q.map eTRat).length : Nat)) (.c (map_get h9 : (v_q.map eTRat)[v_k.toNat]? = some (eTRat x8)) (.c (spec_RatMul_ok x8 x8 r10 h11) (.c (spec_SquareOf_ok v_s v_k r12 h13) (.c (Sc.n _ _ : Sc (.n .i64 r12)) (.c (spec_RatFromInt_ok r12 r14 h15) (.c (spec_RatMul_ok r10 r14 r16 h17) (.c (spec_RatOk_ok r16 r18 h19) (.c (Sc.b _ : Sc (.b r18)) .nil)))))))))))))))))
    (fun h6 =>
    .ret (runF_con0 hmix (tape := t3 ++ ([.br true, .reg [nt, nt, nt]] : List TE)) (rr := .comp [.agg [.id, .nl 1, .nl 1], .c0 .id]) (by kernel_rfl) (o4.app (.c (not_f h6) .nil))))))
    (fun h3 =>
    .ret (runF_con0 hmix (tape := t1 ++ ([.reg [nt, nt, (.call { ac := [ii, ii], r := .b r1, sc := true }, true), nt, nt, nf, nf, nf, nf, nf, nf, nf, (.br true, true)], .br true, .reg [nt, nt, nt]] : List TE)) (rr := .comp [.agg [.id, .nl 1, .nl 1], .c0 .id]) (by kernel_rfl) (o2.app (.c (not_f h3) (.c (not_f h3) (.c (not_f h3) (.c (not_f h3) (.c (not_f h3) (.c (not_f h3) (.c (not_f h3) (.c (not_f h3) (.c (rfl : true = true) .nil)))))))))))))

def spec_l20Squares_L1_head (v_q : (List TRat)) (v_t17 : Int) (box0_ : (List TJoint)) (box0_' : (List TMember)) (v_t18 : Int) (row1 : (List TRat)) : S := mkS [(1, .isl 3 (v_q.map eTRat)), (2, .ref 0 0 0 0), (6, .osl 1 0 0 row1.length), (17, .n .i64 v_t17), (18, .n .i64 v_t18)] [[Ob.mk 2 [[.isl 4 (box0_.map eTJoint), .isl 3 (box0_'.map eTMember)]] .live], [Ob.mk 3 (row1.map eTRat) .live]]

def spec_l20Squares_L1_ex : (((List TRat)) ⊕ (Unit)) → Exit
  | .inl _ => .exit 0
  | .inr _ => .ret

def spec_l20Squares_L1_out (v_q : (List TRat)) (v_t17 : Int) (box0_ : (List TJoint)) (box0_' : (List TMember)) : (((List TRat)) ⊕ (Unit)) → S
  | .inl a => mkS [(6, .osl 0 0 0 a.length)] [[Ob.mk 3 (a.map eTRat) .live]]
  | .inr a => mkS [(4, .nils), (5, .b false)] []

abbrev spec_l20Squares_L1_V := VEx PP 36 0 (nodeAt (bodyOf PP 20) [1, 1, 1, 0, 1, 0, 0])

def spec_l20Squares_L1_body (v_q : (List TRat)) (v_t17 : Int) (box0_ : (List TJoint)) (box0_' : (List TMember)) (v_t18 : Int) (row1 : (List TRat)) : Option ((Int × (List TRat)) ⊕ (((List TRat)) ⊕ (Unit))) :=
  if (decide (v_t18 < v_t17)) = true then
    spec_ForceSquare (⟨box0_, box0_'⟩ : TStructure) v_q v_t18 >>= fun r2 =>
    if r2.2 = true then
      if (row1 ++ ([r2.1] : List TRat)).length * 56 ≤ 140737488355328 then
      some (.inl (w64 (v_t18 + (1 : Int)), row1 ++ ([r2.1] : List TRat)))
      else none
    else
      some (.inr (.inr ()))
  else
    some (.inr (.inl row1))

def spec_l20Squares_L1 (v_q : (List TRat)) (v_t17 : Int) (box0_ : (List TJoint)) (box0_' : (List TMember)) (v_t18 : Int) (row1 : (List TRat)) : Option (((List TRat)) ⊕ (Unit)) := iter (fun w : Int × (List TRat) => spec_l20Squares_L1_body v_q v_t17 box0_ box0_' w.1 w.2) (v_t18, row1)

theorem spec_l20Squares_L1_body_ok (v_q : (List TRat)) (v_t17 : Int) (box0_ : (List TJoint)) (box0_' : (List TMember)) (v_t18 : Int) (row1 : (List TRat)) : Wp (spec_l20Squares_L1_body v_q v_t17 box0_ box0_' v_t18 row1) (Sum.elim
    (fun w => spec_l20Squares_L1_V .normal (spec_l20Squares_L1_head v_q v_t17 box0_ box0_' v_t18 row1) (spec_l20Squares_L1_head v_q v_t17 box0_ box0_' w.1 w.2))
    (fun r => spec_l20Squares_L1_V (spec_l20Squares_L1_ex r) (spec_l20Squares_L1_head v_q v_t17 box0_ box0_' v_t18 row1) (spec_l20Squares_L1_out v_q v_t17 box0_ box0_' r))) := by
  unfold spec_l20Squares_L1_body
  exact .ite (fun h1 =>
    .bnd fun r2 h3 =>
    (let t1 : List TE := [.reg [nt], .br true, .reg [nt, nt], .reg [nt, nt, nt, (.call { ac := [ii, ii, ii], r := .tup [.agg [.b r2.1.fNum.fNeg, .isl 1 (r2.1.fNum.fMag.map eI), .isl 1 (r2.1.fDen.map eI)], .b r2.2], sc := false }, true), nt, nt, nt, nt, nt, nt], .reg [nt, nt]];
    have o2 := ((.c h1 (.c (spec_ForceSquare_ok (⟨box0_, box0_'⟩ : TStructure) v_q v_t18 r2 h3) .nil)) : AllP _);
    .ite (fun h4 =>
    .grd fun h5 =>
    .ret ((okC_sound hmix (tape := t1 ++ ([.br false, .reg [nt, nt, nt, (.app ((row1 ++ ([r2.1] : List TRat)).length), true), nt], .reg [nt, nt], .rst [0, 20] [.box [.id, .id], .as [Ob.mk 3 ((row1 ++ ([r2.1] : List TRat)).map eTRat) .live]] [(1, ii), (2, ii), (6, ii), (17, ii), (18, ii)]] : List TE)) (nr := 2) (by kernel_rfl) (o2.app (.c (not_t h4) (.c (fit_full (show [[.b r2.1.fNum.fNeg, .isl 1 (r2.1.fNum.fMag.map eI), .isl 1 (r2.1.fDen.map eI)]] = (([r2.1] : List TRat)).map eTRat from rfl) (show 1 = ([r2.1] : List TRat).length from rfl)) (.c (le_full (show (row1.map eTRat) = (row1.map eTRat) from rfl) (show row1.length = row1.length from rfl)) (.c (len_app (show row1.length = row1.length from rfl) (tk_prf (show [[.b r2.1.fNum.fNeg, .isl 1 (r2.1.fNum.fMag.map eI), .isl 1 (r2.1.fDen.map eI)]] = (([r2.1] : List TRat)).map eTRat from rfl) (show 1 = ([r2.1] : List TRat).length from rfl)) : (row1 ++ ([r2.1] : List TRat)).length = row1.length + (([[.b r2.1.fNum.fNeg, .isl 1 (r2.1.fNum.fMag.map eI), .isl 1 (r2.1.fDen.map eI)]].drop 0).take 1).length) (.c h5 (.c (row_prf (app_full (show (row1.map eTRat) = (row1.map eTRat) from rfl) (show row1.length = row1.length from rfl) (tk_prf (show [[.b r2.1.fNum.fNeg, .isl 1 (r2.1.fNum.fMag.map eI), .isl 1 (r2.1.fDen.map eI)]] = (([r2.1] : List TRat)).map eTRat from rfl) (show 1 = ([r2.1] : List TRat).length from rfl))) : [Ob.mk 3 ((row1.map eTRat).take row1.length ++ (([[.b r2.1.fNum.fNeg, .isl 1 (r2.1.fNum.fMag.map eI), .isl 1 (r2.1.fDen.map eI)]].drop 0).take 1)) .live] = [Ob.mk 3 ((row1 ++ ([r2.1] : List TRat)).map eTRat) .live]) (.c (pure_row eTRat_pure (row1 ++ ([r2.1] : List TRat)) : PureRow [Ob.mk 3 ((row1 ++ ([r2.1] : List TRat)).map eTRat) .live]) .nil)))))))) (mkS_free _ _) : spec_l20Squares_L1_V .normal (spec_l20Squares_L1_head v_q v_t17 box0_ box0_' v_t18 row1) (spec_l20Squares_L1_head v_q v_t17 box0_ box0_' (w64 (v_t18 + (1 : Int))) (row1 ++ ([r2.1] : List TRat))))))
    (fun h4 =>
    .ret ((okC_sound hmix (tape := t1 ++ ([.br true, .reg [nt, nt], .rst [] [] [(4, ii), (5, ii)]] : List TE)) (nr := 2) (by kernel_rfl) (o2.app (.c (not_f h4) .nil)) (mkS_free _ _) : spec_l20Squares_L1_V (.ret) (spec_l20Squares_L1_head v_q v_t17 box0_ box0_' v_t18 row1) (spec_l20Squares_L1_out v_q v_t17 box0_ box0_' (.inr ())))))))
    (fun h1 =>
    .ret ((okC_sound hmix (tape := [.reg [nt], .br false, .rst [1] [.pure] [(6, ii)]]) (nr := 2) (by kernel_rfl) (.c h1 (.c (pure_row eTRat_pure row1 : PureRow [Ob.mk 3 (row1.map eTRat) .live]) .nil)) (mkS_free _ _) : spec_l20Squares_L1_V (.exit 0) (spec_l20Squares_L1_head v_q v_t17 box0_ box0_' v_t18 row1) (spec_l20Squares_L1_out v_q v_t17 box0_ box0_' (.inl row1)))))

theorem spec_l20Squares_L1_ok (v_q : (List TRat)) (v_t17 : Int) (box0_ : (List TJoint)) (box0_' : (List TMember)) (v_t18 : Int) (row1 : (List TRat)) : ∀ r, spec_l20Squares_L1 v_q v_t17 box0_ box0_' v_t18 row1 = some r → VLoop PP 36 0 (nodeAt (bodyOf PP 20) [1, 1, 1, 0, 1, 0, 0]) (spec_l20Squares_L1_ex r) (spec_l20Squares_L1_head v_q v_t17 box0_ box0_' v_t18 row1) (spec_l20Squares_L1_out v_q v_t17 box0_ box0_' r) := fun r h =>
  iter_ok (head := fun w : Int × (List TRat) => spec_l20Squares_L1_head v_q v_t17 box0_ box0_' w.1 w.2) (ex := spec_l20Squares_L1_ex) (out := spec_l20Squares_L1_out v_q v_t17 box0_ box0_') (by intro r; unfold spec_l20Squares_L1_ex; split <;> simp) (fun w => spec_l20Squares_L1_body_ok v_q v_t17 box0_ box0_' w.1 w.2) (v_t18, row1) r h

def spec_l20Squares (v_s : TStructure) (v_q : (List TRat)) : Option ((List TRat) × Bool) :=
  spec_l14Fits v_s v_q >>= fun r1 =>
  if r1 = true then
    spec_l20Squares_L1 v_q (len_ eTMember v_s.fMembers) v_s.fJoints v_s.fMembers 0 ([] : List TRat) >>= fun r4 =>
    match r4 with
    | .inl a6 => (some (a6, true))
    | .inr a6 => (some (([] : List TRat), false))
  else
    some (([] : List TRat), false)

theorem spec_l20Squares_ok (v_s : TStructure) (v_q : (List TRat)) : Wp (spec_l20Squares v_s v_q) (fun r => Con PP 20 [.agg [.isl 4 (v_s.fJoints.map eTJoint), .isl 3 (v_s.fMembers.map eTMember)], .isl 3 (v_q.map eTRat)] [] (.tup [.isl 3 (r.1.map eTRat), .b r.2]) []) := by
  unfold spec_l20Squares
  exact .bnd fun r1 h2 =>
    (let t1 : List TE := [.reg [nt, nt, nt], .reg [nt, nt], .reg [nt, nt, (.call { ac := [ii, ii], r := .b r1, sc := true }, true), nt]];
    have o2 := ((.c (spec_l14Fits_ok v_s v_q r1 h2) (.c (Sc.b _ : Sc (.b r1)) .nil)) : AllP _);
    .ite (fun h3 =>
    .bnd fun r4 h5 =>
    (let t3 : List TE := t1 ++ ([.br false, .reg [nt, nt, nt, nt]] : List TE);
    (by
    rcases r4 with a6 | a6
    · exact (.ret (runF_con0 hmix (tape := t3 ++ ([.rst [0, 3] [.box [.id, .id], .as [Ob.mk 3 (([] : List TRat).map eTRat) .live]] [(1, ii), (2, ii), (6, .c1 (.c0 (.len (([] : List TRat).length)))), (17, ii), (18, ii)], .sub (.exit 0) [(6, .osl 0 0 0 a6.length)] [[Ob.mk 3 (a6.map eTRat) .live]], .reg [nt, nt, nt]] : List TE)) (rr := .comp [.c0 (.sl (a6.map eTRat)), .c0 .id]) (by kernel_rfl) (o2.app (.c (not_t h3) (.c (row_prf (show [] = (([] : List TRat)).map eTRat from rfl) : [Ob.mk 3 [] .live] = [Ob.mk 3 (([] : List TRat).map eTRat) .live]) (.c (pure_row eTRat_pure ([] : List TRat) : PureRow [Ob.mk 3 (([] : List TRat).map eTRat) .live]) (.c (show 0 = ([] : List TRat).length from rfl) (.c ((spec_l20Squares_L1_ok v_q (len_ eTMember v_s.fMembers) v_s.fJoints v_s.fMembers 0 ([] : List TRat) (.inl a6) h5).vex) (.c (snap_full (show (a6.map eTRat) = (a6.map eTRat) from rfl) (show a6.length = a6.length from rfl)) (.c (fit_full (show (a6.map eTRat) = (a6.map eTRat) from rfl) (show a6.length = a6.length from rfl)) (.c (pure_map eTRat_pure a6) .nil)))))))))))
    · exact (.ret (runF_con0 hmix (tape := t3 ++ ([.rst [0, 3] [.box [.id, .id], .as [Ob.mk 3 (([] : List TRat).map eTRat) .live]] [(1, ii), (2, ii), (6, .c1 (.c0 (.len (([] : List TRat).length)))), (17, ii), (18, ii)], .sub (.ret) [(4, .nils), (5, .b false)] []] : List TE)) (rr := .comp [.c0 (.nl 3), .c0 .id]) (by kernel_rfl) (o2.app (.c (not_t h3) (.c (row_prf (show [] = (([] : List TRat)).map eTRat from rfl) : [Ob.mk 3 [] .live] = [Ob.mk 3 (([] : List TRat).map eTRat) .live]) (.c (pure_row eTRat_pure ([] : List TRat) : PureRow [Ob.mk 3 (([] : List TRat).map eTRat) .live]) (.c (show 0 = ([] : List TRat).length from rfl) (.c ((spec_l20Squares_L1_ok v_q (len_ eTMember v_s.fMembers) v_s.fJoints v_s.fMembers 0 ([] : List TRat) (.inr a6) h5).vex) .nil)))))))))))
    (fun h3 =>
    .ret (runF_con0 hmix (tape := t1 ++ ([.br true, .reg [nt, nt]] : List TE)) (rr := .comp [.c0 (.nl 3), .c0 .id]) (by kernel_rfl) (o2.app (.c (not_f h3) .nil)))))

def spec_l03Cmp (v_x : TBigInt) (v_y : TBigInt) : Option Int :=
  if v_x.fNeg = true then
    if v_y.fNeg = true then
      spec_l02Cmp v_y.fMag v_x.fMag >>= fun r3 =>
      some r3
    else
      some (-1)
  else
    if v_y.fNeg = true then
      some 1
    else
      spec_l02Cmp v_x.fMag v_y.fMag >>= fun r3 =>
      some r3

theorem spec_l03Cmp_ok (v_x : TBigInt) (v_y : TBigInt) : Wp (spec_l03Cmp v_x v_y) (fun r => Con PP 38 [.agg [.b v_x.fNeg, .isl 1 (v_x.fMag.map eI)], .agg [.b v_y.fNeg, .isl 1 (v_y.fMag.map eI)]] [] (.n .i64 r) []) := by
  unfold spec_l03Cmp
  exact (let t1 : List TE := [.reg [nt, nt, nt]];
    .ite (fun h1 =>
    (let t2 : List TE := t1 ++ ([.reg [nt, nt, nt, nt, nt, nt, (.br true, true), nt]] : List TE);
    .ite (fun h2 =>
    .bnd fun r3 h4 =>
    .ret (runF_con0 hmix (tape := t2 ++ ([.br false, .reg [nt, nt, nt, nt, nf, nf, (.br false, true), nt], .br false, .reg [nt, nt, nt], .br true, .reg [nt, nt, nt, nt, (.call { ac := [ii, ii], r := .n .i64 r3, sc := true }, true), nt]] : List TE)) (rr := ii) (by kernel_rfl) (.c h1 (.c h1 (.c h1 (.c h1 (.c (not_t h2) (.c (not_t h1) (.c (not_t h1) (.c (not_t h1) (.c (rfl : false = false) (.c h1 (.c (spec_l02Cmp_ok v_y.fMag v_x.fMag r3 h4) (.c (Sc.n _ _ : Sc (.n .i64 r3)) .nil))))))))))))))
    (fun h2 =>
    .ret (runF_con0 hmix (tape := t2 ++ ([.br true, .reg [nt]] : List TE)) (rr := ii) (by kernel_rfl) (.c h1 (.c h1 (.c h1 (.c h1 (.c (not_f h2) .nil)))))))))
    (fun h1 =>
    (let t2 : List TE := t1 ++ ([.reg [nt, nt, nt, nf, nf, nf, (.br false, true), nt], .br false, .reg [nt, nt, nt, nt, nt, nt, (.br true, true), nt]] : List TE);
    have o3 := ((.c h1 (.c h1 (.c h1 (.c h1 (.c (rfl : false = false) (.c (not_f h1) (.c (not_f h1) (.c (not_f h1) .nil)))))))) : AllP _);
    .ite (fun h2 =>
    .ret (runF_con0 hmix (tape := t2 ++ ([.br true, .reg [nt]] : List TE)) (rr := ii) (by kernel_rfl) (o3.app (.c h2 .nil))))
    (fun h2 =>
    .bnd fun r3 h4 =>
    .ret (runF_con0 hmix (tape := t2 ++ ([.br false, .reg [nt, nt, nt], .br false, .reg [nt, nt, nt, nt, (.call { ac := [ii, ii], r := .n .i64 r3, sc := true }, true), nt]] : List TE)) (rr := ii) (by kernel_rfl) (o3.app (.c h2 (.c h1 (.c (spec_l02Cmp_ok v_x.fMag v_y.fMag r3 h4) (.c (Sc.n _ _ : Sc (.n .i64 r3)) .nil))))))))))

def spec_l04Cmp (v_r : TRat) (v_s : TRat) : Option Int :=
  spec_l02Mul v_r.fNum.fMag v_s.fDen >>= fun r1 =>
  spec_l03Make v_r.fNum.fNeg r1 >>= fun r3 =>
  spec_l02Mul v_s.fNum.fMag v_r.fDen >>= fun r5 =>
  spec_l03Make v_s.fNum.fNeg r5 >>= fun r7 =>
  spec_l03Cmp r3 r7 >>= fun r9 =>
  some r9

theorem spec_l04Cmp_ok (v_r : TRat) (v_s : TRat) : Wp (spec_l04Cmp v_r v_s) (fun r => Con PP 21 [.agg [.b v_r.fNum.fNeg, .isl 1 (v_r.fNum.fMag.map eI), .isl 1 (v_r.fDen.map eI)], .agg [.b v_s.fNum.fNeg, .isl 1 (v_s.fNum.fMag.map eI), .isl 1 (v_s.fDen.map eI)]] [] (.n .i64 r) []) := by
  unfold spec_l04Cmp
  exact .bnd fun r1 h2 =>
    .bnd fun r3 h4 =>
    .bnd fun r5 h6 =>
    .bnd fun r7 h8 =>
    .bnd fun r9 h10 =>
    .ret (runF_con0 hmix (tape := [.reg [nt, nt, nt], .reg [nt, nt, nt, nt, nt, nt, nt, nt, (.call { ac := [ii, ii], r := .isl 1 (r1.map eI), sc := false }, true), (.call { ac := [ii, ii], r := .agg [.b r3.fNeg, .isl 1 (r3.fMag.map eI)], sc := false }, true), nt, nt, nt, nt, nt, nt, nt, nt, (.call { ac := [ii, ii], r := .isl 1 (r5.map eI), sc := false }, true), (.call { ac := [ii, ii], r := .agg [.b r7.fNeg, .isl 1 (r7.fMag.map eI)], sc := false }, true), (.call { ac := [ii, ii], r := .n .i64 r9, sc := true }, true), nt]]) (rr := ii) (by kernel_rfl) (.c (spec_l02Mul_ok v_r.fNum.fMag v_s.fDen r1 h2) (.c (spec_l03Make_ok v_r.fNum.fNeg r1 r3 h4) (.c (spec_l02Mul_ok v_s.fNum.fMag v_r.fDen r5 h6) (.c (spec_l03Make_ok v_s.fNum.fNeg r5 r7 h8) (.c (spec_l03Cmp_ok r3 r7 r9 h10) (.c (Sc.n _ _ : Sc (.n .i64 r9)) .nil)))))))

def spec_NeedsOf_L2_head (v_t23 : (List TRat)) (v_t24 : Int) (v_t25 : Int) (row0 : (List Int)) (box1_ : Bool) (box1_' : (List Int)) (box1_'' : (List Int)) (v_low : Int) (v_high : Int) : S := mkS [(8, .osl 0 0 0 row0.length), (10, .ref 1 0 0 0), (11, .n .i64 v_low), (12, .n .i64 v_high), (23, .isl 3 (v_t23.map eTRat)), (24, .n .i64 v_t24), (25, .n .i64 v_t25)] [[Ob.mk 1 (row0.map eI) .live], [Ob.mk 3 [[.b box1_, .isl 1 (box1_'.map eI), .isl 1 (box1_''.map eI)]] .live]]

def spec_NeedsOf_L2_ex : Int → Exit
  | _ => .exit 2

def spec_NeedsOf_L2_out (v_t23 : (List TRat)) (v_t24 : Int) (v_t25 : Int) (row0 : (List Int)) (box1_ : Bool) (box1_' : (List Int)) (box1_'' : (List Int)) : Int → S
  | a => mkS [(8, .osl 0 0 0 row0.length), (11, .n .i64 a), (23, .isl 3 (v_t23.map eTRat)), (24, .n .i64 v_t24), (25, .n .i64 v_t25)] [[Ob.mk 1 (row0.map eI) .live]]

abbrev spec_NeedsOf_L2_V := VEx PP 54 0 (nodeAt (bodyOf PP 6) [1, 1, 1, 1, 0, 1, 0, 0, 1, 1, 0, 0, 1, 1, 1, 0, 0, 0])

def spec_NeedsOf_L2_body (v_t23 : (List TRat)) (v_t24 : Int) (v_t25 : Int) (row0 : (List Int)) (box1_ : Bool) (box1_' : (List Int)) (box1_'' : (List Int)) (v_low : Int) (v_high : Int) : Option ((Int × Int) ⊕ (Int)) :=
  if (decide (v_low < v_high)) = true then
    spec_RatFromInt (w64 ((w64 ((w64 (v_low + v_high)).tdiv (2 : Int))) * (w64 ((w64 (v_low + v_high)).tdiv (2 : Int))))) >>= fun r2 =>
    spec_l04Cmp (⟨(⟨box1_, box1_'⟩ : TBigInt), box1_''⟩ : TRat) r2 >>= fun r4 =>
    if (decide ((0 : Int) < r4)) = true then
      some (.inl (w64 ((w64 ((w64 (v_low + v_high)).tdiv (2 : Int))) + (1 : Int)), v_high))
    else
      some (.inl (v_low, w64 ((w64 (v_low + v_high)).tdiv (2 : Int))))
  else
    some (.inr v_low)

def spec_NeedsOf_L2 (v_t23 : (List TRat)) (v_t24 : Int) (v_t25 : Int) (row0 : (List Int)) (box1_ : Bool) (box1_' : (List Int)) (box1_'' : (List Int)) (v_low : Int) (v_high : Int) : Option (Int) := iter (fun w : Int × Int => spec_NeedsOf_L2_body v_t23 v_t24 v_t25 row0 box1_ box1_' box1_'' w.1 w.2) (v_low, v_high)

theorem spec_NeedsOf_L2_body_ok (v_t23 : (List TRat)) (v_t24 : Int) (v_t25 : Int) (row0 : (List Int)) (box1_ : Bool) (box1_' : (List Int)) (box1_'' : (List Int)) (v_low : Int) (v_high : Int) : Wp (spec_NeedsOf_L2_body v_t23 v_t24 v_t25 row0 box1_ box1_' box1_'' v_low v_high) (Sum.elim
    (fun w => spec_NeedsOf_L2_V .normal (spec_NeedsOf_L2_head v_t23 v_t24 v_t25 row0 box1_ box1_' box1_'' v_low v_high) (spec_NeedsOf_L2_head v_t23 v_t24 v_t25 row0 box1_ box1_' box1_'' w.1 w.2))
    (fun r => spec_NeedsOf_L2_V (spec_NeedsOf_L2_ex r) (spec_NeedsOf_L2_head v_t23 v_t24 v_t25 row0 box1_ box1_' box1_'' v_low v_high) (spec_NeedsOf_L2_out v_t23 v_t24 v_t25 row0 box1_ box1_' box1_'' r))) := by
  unfold spec_NeedsOf_L2_body
  exact (let t1 : List TE := [.reg [nt, nt, nt]];
    .ite (fun h1 =>
    .bnd fun r2 h3 =>
    .bnd fun r4 h5 =>
    (let t2 : List TE := t1 ++ ([.br true, .reg [nt, nt, nt, nt, nt], .reg [nt, nt, nt, nt, (.call { ac := [ii], r := .agg [.b r2.fNum.fNeg, .isl 1 (r2.fNum.fMag.map eI), .isl 1 (r2.fDen.map eI)], sc := false }, true), (.call { ac := [ii, ii], r := .n .i64 r4, sc := true }, true), nt]] : List TE);
    have o3 := ((.c h1 (.c (by decide : (2 : Int) ≠ 0) (.c (spec_RatFromInt_ok (w64 ((w64 ((w64 (v_low + v_high)).tdiv (2 : Int))) * (w64 ((w64 (v_low + v_high)).tdiv (2 : Int))))) r2 h3) (.c (spec_l04Cmp_ok (⟨(⟨box1_, box1_'⟩ : TBigInt), box1_''⟩ : TRat) r2 r4 h5) (.c (Sc.n _ _ : Sc (.n .i64 r4)) .nil))))) : AllP _);
    .ite (fun h6 =>
    .ret ((okC_sound hmix (tape := t2 ++ ([.br true, .reg [nt, nt, nt], .rst [0, 1] [.pure, .box [.id, .id, .id]] [(8, ii), (10, ii), (11, ii), (12, ii), (23, ii), (24, ii), (25, ii)]] : List TE)) (nr := 2) (by kernel_rfl) (o3.app (.c h6 (.c (pure_row eI_pure row0 : PureRow [Ob.mk 1 (row0.map eI) .live]) .nil))) (mkS_free _ _) : spec_NeedsOf_L2_V .normal (spec_NeedsOf_L2_head v_t23 v_t24 v_t25 row0 box1_ box1_' box1_'' v_low v_high) (spec_NeedsOf_L2_head v_t23 v_t24 v_t25 row0 box1_ box1_' box1_'' (w64 ((w64 ((w64 (v_low + v_high)).tdiv (2 : Int))) + (1 : Int))) v_high))))
    (fun h6 =>
    .ret ((okC_sound hmix (tape := t2 ++ ([.br false, .reg [nt, nt], .rst [0, 1] [.pure, .box [.id, .id, .id]] [(8, ii), (10, ii), (11, ii), (12, ii), (23, ii), (24, ii), (25, ii)]] : List TE)) (nr := 2) (by kernel_rfl) (o3.app (.c h6 (.c (pure_row eI_pure row0 : PureRow [Ob.mk 1 (row0.map eI) .live]) .nil))) (mkS_free _ _) : spec_NeedsOf_L2_V .normal (spec_NeedsOf_L2_head v_t23 v_t24 v_t25 row0 box1_ box1_' box1_'' v_low v_high) (spec_NeedsOf_L2_head v_t23 v_t24 v_t25 row0 box1_ box1_' box1_'' v_low (w64 ((w64 (v_low + v_high)).tdiv (2 : Int)))))))))
    (fun h1 =>
    .ret ((okC_sound hmix (tape := t1 ++ ([.br false, .rst [0] [.pure] [(8, ii), (11, ii), (23, ii), (24, ii), (25, ii)]] : List TE)) (nr := 2) (by kernel_rfl) (.c h1 (.c (pure_row eI_pure row0 : PureRow [Ob.mk 1 (row0.map eI) .live]) .nil)) (mkS_free _ _) : spec_NeedsOf_L2_V (.exit 2) (spec_NeedsOf_L2_head v_t23 v_t24 v_t25 row0 box1_ box1_' box1_'' v_low v_high) (spec_NeedsOf_L2_out v_t23 v_t24 v_t25 row0 box1_ box1_' box1_'' v_low)))))

theorem spec_NeedsOf_L2_ok (v_t23 : (List TRat)) (v_t24 : Int) (v_t25 : Int) (row0 : (List Int)) (box1_ : Bool) (box1_' : (List Int)) (box1_'' : (List Int)) (v_low : Int) (v_high : Int) : ∀ r, spec_NeedsOf_L2 v_t23 v_t24 v_t25 row0 box1_ box1_' box1_'' v_low v_high = some r → VLoop PP 54 0 (nodeAt (bodyOf PP 6) [1, 1, 1, 1, 0, 1, 0, 0, 1, 1, 0, 0, 1, 1, 1, 0, 0, 0]) (spec_NeedsOf_L2_ex r) (spec_NeedsOf_L2_head v_t23 v_t24 v_t25 row0 box1_ box1_' box1_'' v_low v_high) (spec_NeedsOf_L2_out v_t23 v_t24 v_t25 row0 box1_ box1_' box1_'' r) := fun r h =>
  iter_ok (head := fun w : Int × Int => spec_NeedsOf_L2_head v_t23 v_t24 v_t25 row0 box1_ box1_' box1_'' w.1 w.2) (ex := spec_NeedsOf_L2_ex) (out := spec_NeedsOf_L2_out v_t23 v_t24 v_t25 row0 box1_ box1_' box1_'') (by intro r; unfold spec_NeedsOf_L2_ex; split <;> simp) (fun w => spec_NeedsOf_L2_body_ok v_t23 v_t24 v_t25 row0 box1_ box1_' box1_'' w.1 w.2) (v_low, v_high) r h

def spec_NeedsOf_L3_head (v_t23 : (List TRat)) (v_t24 : Int) (v_t25 : Int) (row0 : (List Int)) : S := mkS [(8, .osl 0 0 0 row0.length), (23, .isl 3 (v_t23.map eTRat)), (24, .n .i64 v_t24), (25, .n .i64 v_t25)] [[Ob.mk 1 (row0.map eI) .live]]

def spec_NeedsOf_L3_ex : (((List Int)) ⊕ (Unit)) → Exit
  | .inl _ => .exit 0
  | .inr _ => .ret

def spec_NeedsOf_L3_out (v_t23 : (List TRat)) (v_t24 : Int) : (((List Int)) ⊕ (Unit)) → S
  | .inl a => mkS [(8, .osl 0 0 0 a.length)] [[Ob.mk 1 (a.map eI) .live]]
  | .inr a => mkS [(4, .nils), (5, .b false)] []

abbrev spec_NeedsOf_L3_V := VEx PP 54 0 (nodeAt (bodyOf PP 6) [1, 1, 1, 1, 0, 1, 0, 0])

def spec_NeedsOf_L3_body (v_t23 : (List TRat)) (v_t24 : Int) (v_t25 : Int) (row0 : (List Int)) : Option ((Int × (List Int)) ⊕ (((List Int)) ⊕ (Unit))) :=
  if (decide (v_t25 < v_t24)) = true then
    if 0 ≤ v_t25 ∧ v_t25 < v_t23.length then
    v_t23[v_t25.toNat]? >>= fun x3 =>
    spec_NeedsOf_L2 v_t23 v_t24 v_t25 row0 x3.fNum.fNeg x3.fNum.fMag x3.fDen 0 1001 >>= fun r5 =>
    if (decide ((1000 : Int) < r5)) = true then
      some (.inr (.inr ()))
    else
      if (row0 ++ ([r5] : List Int)).length * 8 ≤ 140737488355328 then
      some (.inl (w64 (v_t25 + (1 : Int)), row0 ++ ([r5] : List Int)))
      else none
    else none
  else
    some (.inr (.inl row0))

def spec_NeedsOf_L3 (v_t23 : (List TRat)) (v_t24 : Int) (v_t25 : Int) (row0 : (List Int)) : Option (((List Int)) ⊕ (Unit)) := iter (fun w : Int × (List Int) => spec_NeedsOf_L3_body v_t23 v_t24 w.1 w.2) (v_t25, row0)

theorem spec_NeedsOf_L3_body_ok (v_t23 : (List TRat)) (v_t24 : Int) (v_t25 : Int) (row0 : (List Int)) : Wp (spec_NeedsOf_L3_body v_t23 v_t24 v_t25 row0) (Sum.elim
    (fun w => spec_NeedsOf_L3_V .normal (spec_NeedsOf_L3_head v_t23 v_t24 v_t25 row0) (spec_NeedsOf_L3_head v_t23 v_t24 w.1 w.2))
    (fun r => spec_NeedsOf_L3_V (spec_NeedsOf_L3_ex r) (spec_NeedsOf_L3_head v_t23 v_t24 v_t25 row0) (spec_NeedsOf_L3_out v_t23 v_t24 r))) := by
  unfold spec_NeedsOf_L3_body
  exact .ite (fun h1 =>
    .grd fun h2 =>
    .bnd fun x3 h4 =>
    .bnd fun r5 h6 =>
    (let t1 : List TE := [.reg [nt], .br true, .reg [nt, (.el (eTRat x3), true), nt, nt], .reg [nt], .reg [nt], .rst [0, 4] [.pure, .box [.id, .id, .id]] [(8, ii), (10, ii), (11, ii), (12, ii), (23, ii), (24, ii), (25, ii)], .sub (.exit 2) [(8, .osl 0 0 0 row0.length), (11, .n .i64 r5), (23, .isl 3 (v_t23.map eTRat)), (24, .n .i64 v_t24), (25, .n .i64 v_t25)] [[Ob.mk 1 (row0.map eI) .live]], .reg [nt, nt]];
    have o2 := ((.c h1 (.c ((h2).1) (.c (lt_mapI (h2).2 : v_t25 < ((v_t23.map eTRat).length : Nat)) (.c (map_get h4 : (v_t23.map eTRat)[v_t25.toNat]? = some (eTRat x3)) (.c (pure_row eI_pure row0 : PureRow [Ob.mk 1 (row0.map eI) .live]) (.c ((spec_NeedsOf_L2_ok v_t23 v_t24 v_t25 row0 x3.fNum.fNeg x3.fNum.fMag x3.fDen 0 1001 r5 h6).vex) .nil)))))) : AllP _);
    .ite (fun h7 =>
    .ret ((okC_sound hmix (tape := t1 ++ ([.br true, .reg [nt, nt], .rst [] [] [(4, ii), (5, ii)]] : List TE)) (nr := 1) (by kernel_rfl) (o2.app (.c h7 .nil)) (mkS_free _ _) : spec_NeedsOf_L3_V (.ret) (spec_NeedsOf_L3_head v_t23 v_t24 v_t25 row0) (spec_NeedsOf_L3_out v_t23 v_t24 (.inr ())))))
    (fun h7 =>
    .grd fun h8 =>
    .ret ((okC_sound hmix (tape := t1 ++ ([.br false, .reg [nt, nt, nt, (.app ((row0 ++ ([r5] : List Int)).length), true), nt], .reg [nt, nt], .rst [6] [.as [Ob.mk 1 ((row0 ++ ([r5] : List Int)).map eI) .live]] [(8, ii), (23, ii), (24, ii), (25, ii)]] : List TE)) (nr := 1) (by kernel_rfl) (o2.app (.c h7 (.c (fit_full (show [[.n .i64 r5]] = (([r5] : List Int)).map eI from rfl) (show 1 = ([r5] : List Int).length from rfl)) (.c (le_full (show (row0.map eI) = (row0.map eI) from rfl) (show row0.length = row0.length from rfl)) (.c (len_app (show row0.length = row0.length from rfl) (tk_prf (show [[.n .i64 r5]] = (([r5] : List Int)).map eI from rfl) (show 1 = ([r5] : List Int).length from rfl)) : (row0 ++ ([r5] : List Int)).length = row0.length + (([[.n .i64 r5]].drop 0).take 1).length) (.c h8 (.c (row_prf (app_full (show (row0.map eI) = (row0.map eI) from rfl) (show row0.length = row0.length from rfl) (tk_prf (show [[.n .i64 r5]] = (([r5] : List Int)).map eI from rfl) (show 1 = ([r5] : List Int).length from rfl))) : [Ob.mk 1 ((row0.map eI).take row0.length ++ (([[.n .i64 r5]].drop 0).take 1)) .live] = [Ob.mk 1 ((row0 ++ ([r5] : List Int)).map eI) .live]) (.c (pure_row eI_pure (row0 ++ ([r5] : List Int)) : PureRow [Ob.mk 1 ((row0 ++ ([r5] : List Int)).map eI) .live]) .nil)))))))) (mkS_free _ _) : spec_NeedsOf_L3_V .normal (spec_NeedsOf_L3_head v_t23 v_t24 v_t25 row0) (spec_NeedsOf_L3_head v_t23 v_t24 (w64 (v_t25 + (1 : Int))) (row0 ++ ([r5] : List Int))))))))
    (fun h1 =>
    .ret ((okC_sound hmix (tape := [.reg [nt], .br false, .rst [0] [.pure] [(8, ii)]]) (nr := 1) (by kernel_rfl) (.c h1 (.c (pure_row eI_pure row0 : PureRow [Ob.mk 1 (row0.map eI) .live]) .nil)) (mkS_free _ _) : spec_NeedsOf_L3_V (.exit 0) (spec_NeedsOf_L3_head v_t23 v_t24 v_t25 row0) (spec_NeedsOf_L3_out v_t23 v_t24 (.inl row0)))))

theorem spec_NeedsOf_L3_ok (v_t23 : (List TRat)) (v_t24 : Int) (v_t25 : Int) (row0 : (List Int)) : ∀ r, spec_NeedsOf_L3 v_t23 v_t24 v_t25 row0 = some r → VLoop PP 54 0 (nodeAt (bodyOf PP 6) [1, 1, 1, 1, 0, 1, 0, 0]) (spec_NeedsOf_L3_ex r) (spec_NeedsOf_L3_head v_t23 v_t24 v_t25 row0) (spec_NeedsOf_L3_out v_t23 v_t24 r) := fun r h =>
  iter_ok (head := fun w : Int × (List Int) => spec_NeedsOf_L3_head v_t23 v_t24 w.1 w.2) (ex := spec_NeedsOf_L3_ex) (out := spec_NeedsOf_L3_out v_t23 v_t24) (by intro r; unfold spec_NeedsOf_L3_ex; split <;> simp) (fun w => spec_NeedsOf_L3_body_ok v_t23 v_t24 w.1 w.2) (v_t25, row0) r h

def spec_NeedsOf (v_s : TStructure) (v_q : (List TRat)) : Option ((List Int) × Bool) :=
  spec_l20Squares v_s v_q >>= fun r1 =>
  if r1.2 = true then
    spec_NeedsOf_L3 r1.1 (len_ eTRat r1.1) 0 ([] : List Int) >>= fun r4 =>
    match r4 with
    | .inl a6 => (some (a6, true))
    | .inr a6 => (some (([] : List Int), false))
  else
    some (([] : List Int), false)

theorem spec_NeedsOf_ok (v_s : TStructure) (v_q : (List TRat)) : Wp (spec_NeedsOf v_s v_q) (fun r => Con PP 6 [.agg [.isl 4 (v_s.fJoints.map eTJoint), .isl 3 (v_s.fMembers.map eTMember)], .isl 3 (v_q.map eTRat)] [] (.tup [.isl 1 (r.1.map eI), .b r.2]) []) := by
  unfold spec_NeedsOf
  exact .bnd fun r1 h2 =>
    (let t1 : List TE := [.reg [nt, nt, nt], .reg [nt, nt, (.call { ac := [ii, ii], r := .tup [.isl 3 (r1.1.map eTRat), .b r1.2], sc := false }, true), nt, nt, nt, nt, nt], .reg [nt, nt]];
    have o2 := ((.c (spec_l20Squares_ok v_s v_q r1 h2) .nil) : AllP _);
    .ite (fun h3 =>
    .bnd fun r4 h5 =>
    (let t3 : List TE := t1 ++ ([.br false, .reg [nt, nt], .reg [nt, nt, nt]] : List TE);
    (by
    rcases r4 with a6 | a6
    · exact (.ret (runF_con0 hmix (tape := t3 ++ ([.rst [13] [.as [Ob.mk 1 (([] : List Int).map eI) .live]] [(8, .c1 (.c0 (.len (([] : List Int).length)))), (23, ii), (24, ii), (25, ii)], .sub (.exit 0) [(8, .osl 0 0 0 a6.length)] [[Ob.mk 1 (a6.map eI) .live]], .reg [nt, nt, nt]] : List TE)) (rr := .comp [.c0 (.sl (a6.map eI)), .c0 .id]) (by kernel_rfl) (o2.app (.c (not_t h3) (.c (row_prf (show [] = (([] : List Int)).map eI from rfl) : [Ob.mk 1 [] .live] = [Ob.mk 1 (([] : List Int).map eI) .live]) (.c (pure_row eI_pure ([] : List Int) : PureRow [Ob.mk 1 (([] : List Int).map eI) .live]) (.c (show 0 = ([] : List Int).length from rfl) (.c ((spec_NeedsOf_L3_ok r1.1 (len_ eTRat r1.1) 0 ([] : List Int) (.inl a6) h5).vex) (.c (snap_full (show (a6.map eI) = (a6.map eI) from rfl) (show a6.length = a6.length from rfl)) (.c (fit_full (show (a6.map eI) = (a6.map eI) from rfl) (show a6.length = a6.length from rfl)) (.c (pure_map eI_pure a6) .nil)))))))))))
    · exact (.ret (runF_con0 hmix (tape := t3 ++ ([.rst [13] [.as [Ob.mk 1 (([] : List Int).map eI) .live]] [(8, .c1 (.c0 (.len (([] : List Int).length)))), (23, ii), (24, ii), (25, ii)], .sub (.ret) [(4, .nils), (5, .b false)] []] : List TE)) (rr := .comp [.c0 (.nl 1), .c0 .id]) (by kernel_rfl) (o2.app (.c (not_t h3) (.c (row_prf (show [] = (([] : List Int)).map eI from rfl) : [Ob.mk 1 [] .live] = [Ob.mk 1 (([] : List Int).map eI) .live]) (.c (pure_row eI_pure ([] : List Int) : PureRow [Ob.mk 1 (([] : List Int).map eI) .live]) (.c (show 0 = ([] : List Int).length from rfl) (.c ((spec_NeedsOf_L3_ok r1.1 (len_ eTRat r1.1) 0 ([] : List Int) (.inr a6) h5).vex) .nil)))))))))))
    (fun h3 =>
    .ret (runF_con0 hmix (tape := t1 ++ ([.br true, .reg [nt, nt]] : List TE)) (rr := .comp [.c0 (.nl 1), .c0 .id]) (by kernel_rfl) (o2.app (.c (not_f h3) .nil)))))

def impl_isLetter (v_c : Int) : Option Bool :=
  if (decide ((97 : Int) ≤ v_c)) = true then
    some (decide (v_c ≤ (122 : Int)))
  else
    some false

theorem impl_isLetter_ok (v_c : Int) : Wp (impl_isLetter v_c) (fun r => Con PP 109 [.n .u8 v_c] [] (.b r) []) := by
  unfold impl_isLetter
  exact .ite (fun h1 =>
    .ret (runF_con0 hmix (tape := [.reg [nt], .reg [nt, nt, nt, nt, nt, (.br true, true), nt]]) (rr := ii) (by kernel_rfl) (.c h1 (.c h1 (.c h1 .nil)))))
    (fun h1 =>
    .ret (runF_con0 hmix (tape := [.reg [nt], .reg [nt, nt, nt, nf, nf, (.br false, true), nt]]) (rr := ii) (by kernel_rfl) (.c h1 (.c h1 (.c h1 .nil)))))

def impl_isDigit (v_c : Int) : Option Bool :=
  if (decide ((48 : Int) ≤ v_c)) = true then
    some (decide (v_c ≤ (57 : Int)))
  else
    some false

theorem impl_isDigit_ok (v_c : Int) : Wp (impl_isDigit v_c) (fun r => Con PP 110 [.n .u8 v_c] [] (.b r) []) := by
  unfold impl_isDigit
  exact .ite (fun h1 =>
    .ret (runF_con0 hmix (tape := [.reg [nt], .reg [nt, nt, nt, nt, nt, (.br true, true), nt]]) (rr := ii) (by kernel_rfl) (.c h1 (.c h1 (.c h1 .nil)))))
    (fun h1 =>
    .ret (runF_con0 hmix (tape := [.reg [nt], .reg [nt, nt, nt, nf, nf, (.br false, true), nt]]) (rr := ii) (by kernel_rfl) (.c h1 (.c h1 (.c h1 .nil)))))

def impl_IsName_L1_head (v_s : ByteArray) (v_t5 : Int) (v_t6 : Int) : S := mkS [(0, .s v_s), (5, .n .i64 v_t5), (6, .n .i64 v_t6)] []

def impl_IsName_L1_ex : ((Unit) ⊕ (Unit)) → Exit
  | .inl _ => .exit 0
  | .inr _ => .ret

def impl_IsName_L1_out (v_s : ByteArray) (v_t5 : Int) : ((Unit) ⊕ (Unit)) → S
  | .inl a => mkS [(0, .s v_s)] []
  | .inr a => mkS [(2, .b false)] []

abbrev impl_IsName_L1_V := VEx PP 33 0 (nodeAt (bodyOf PP 97) [1, 0, 1, 0, 0])

def impl_IsName_L1_body (v_s : ByteArray) (v_t5 : Int) (v_t6 : Int) : Option ((Int) ⊕ ((Unit) ⊕ (Unit))) :=
  if (decide (v_t6 < v_t5)) = true then
    if 0 ≤ v_t6 ∧ v_t6 < (v_s.size : Nat) then
    impl_isLetter ((v_s.data.toList.getD v_t6.toNat 0).toNat : Int) >>= fun r3 =>
    if r3 = true then
      some (.inl (w64 (v_t6 + (1 : Int))))
    else
      if (v_t6 == (0 : Int)) = true then
        some (.inr (.inr ()))
      else
        impl_isDigit ((v_s.data.toList.getD v_t6.toNat 0).toNat : Int) >>= fun r7 =>
        if r7 = true then
          some (.inl (w64 (v_t6 + (1 : Int))))
        else
          some (.inr (.inr ()))
    else none
  else
    some (.inr (.inl ()))

def impl_IsName_L1 (v_s : ByteArray) (v_t5 : Int) (v_t6 : Int) : Option ((Unit) ⊕ (Unit)) := iter (fun w : Int => impl_IsName_L1_body v_s v_t5 w) v_t6

theorem impl_IsName_L1_body_ok (v_s : ByteArray) (v_t5 : Int) (v_t6 : Int) : Wp (impl_IsName_L1_body v_s v_t5 v_t6) (Sum.elim
    (fun w => impl_IsName_L1_V .normal (impl_IsName_L1_head v_s v_t5 v_t6) (impl_IsName_L1_head v_s v_t5 w))
    (fun r => impl_IsName_L1_V (impl_IsName_L1_ex r) (impl_IsName_L1_head v_s v_t5 v_t6) (impl_IsName_L1_out v_s v_t5 r))) := by
  unfold impl_IsName_L1_body
  exact .ite (fun h1 =>
    .grd fun h2 =>
    .bnd fun r3 h4 =>
    (let t1 : List TE := [.reg [nt], .br true, .reg [nt, nt]];
    have o2 := ((.c h1 (.c ((h2).1) (.c ((h2).2) (.c (impl_isLetter_ok ((v_s.data.toList.getD v_t6.toNat 0).toNat : Int) r3 h4) (.c (Sc.b _ : Sc (.b r3)) .nil))))) : AllP _);
    .ite (fun h5 =>
    .ret ((okC_sound hmix (tape := t1 ++ ([.reg [nt, nt, nt, (.call { ac := [ii], r := .b r3, sc := true }, true), nt, nt, nf, nf, nf, nt, nt, nt, nt, nt, nf, (.br false, true)], .br false, .reg [nt, nt], .rst [] [] [(0, ii), (5, ii), (6, ii)]] : List TE)) (nr := 0) (by kernel_rfl) (o2.app (.c (not_t h5) (.c (not_t h5) (.c (not_t h5) (.c (not_t h5) (.c (not_t h5) (.c (rfl : false = false) .nil))))))) (mkS_free _ _) : impl_IsName_L1_V .normal (impl_IsName_L1_head v_s v_t5 v_t6) (impl_IsName_L1_head v_s v_t5 (w64 (v_t6 + (1 : Int)))))))
    (fun h5 =>
    (have o3 := o2.app (.c (not_f h5) (.c (not_f h5) (.c (not_f h5) .nil)));
    .ite (fun h6 =>
    .ret ((okC_sound hmix (tape := t1 ++ ([.reg [nt, nt, nt, (.call { ac := [ii], r := .b r3, sc := true }, true), nt, nt, nt, nt, nt, nf, nf, nf, nf, nf, (.br true, true), (.br true, true)], .br true, .reg [nt], .rst [] [] [(2, ii)]] : List TE)) (nr := 0) (by kernel_rfl) (o3.app (.c h6 (.c h6 (.c h6 (.c h6 (.c h6 (.c (not_f h5) (.c h6 (.c (not_f h5) (.c (rfl : true = true) .nil)))))))))) (mkS_free _ _) : impl_IsName_L1_V (.ret) (impl_IsName_L1_head v_s v_t5 v_t6) (impl_IsName_L1_out v_s v_t5 (.inr ())))))
    (fun h6 =>
    .bnd fun r7 h8 =>
    (let t4 : List TE := t1 ++ ([.reg [nt, nt, nt, (.call { ac := [ii], r := .b r3, sc := true }, true), nt, nt, nt, nt, nt, nt, nt, nt, (.call { ac := [ii], r := .b r7, sc := true }, true), nt, (.br false, true), (.br true, true)]] : List TE);
    have o5 := o3.app (.c h6 (.c h6 (.c h6 (.c ((h2).1) (.c ((h2).2) (.c h6 (.c (impl_isDigit_ok ((v_s.data.toList.getD v_t6.toNat 0).toNat : Int) r7 h8) (.c (Sc.b _ : Sc (.b r7)) (.c h6 (.c (not_f h5) (.c h6 (.c (not_f h5) .nil))))))))))));
    .ite (fun h9 =>
    .ret ((okC_sound hmix (tape := t4 ++ ([.br false, .reg [nt, nt], .rst [] [] [(0, ii), (5, ii), (6, ii)]] : List TE)) (nr := 0) (by kernel_rfl) (o5.app (.c (not_t h9) .nil)) (mkS_free _ _) : impl_IsName_L1_V .normal (impl_IsName_L1_head v_s v_t5 v_t6) (impl_IsName_L1_head v_s v_t5 (w64 (v_t6 + (1 : Int)))))))
    (fun h9 =>
    .ret ((okC_sound hmix (tape := t4 ++ ([.br true, .reg [nt], .rst [] [] [(2, ii)]] : List TE)) (nr := 0) (by kernel_rfl) (o5.app (.c (not_f h9) .nil)) (mkS_free _ _) : impl_IsName_L1_V (.ret) (impl_IsName_L1_head v_s v_t5 v_t6) (impl_IsName_L1_out v_s v_t5 (.inr ())))))))))))
    (fun h1 =>
    .ret ((okC_sound hmix (tape := [.reg [nt], .br false, .rst [] [] [(0, ii)]]) (nr := 0) (by kernel_rfl) (.c h1 .nil) (mkS_free _ _) : impl_IsName_L1_V (.exit 0) (impl_IsName_L1_head v_s v_t5 v_t6) (impl_IsName_L1_out v_s v_t5 (.inl ())))))

theorem impl_IsName_L1_ok (v_s : ByteArray) (v_t5 : Int) (v_t6 : Int) : ∀ r, impl_IsName_L1 v_s v_t5 v_t6 = some r → VLoop PP 33 0 (nodeAt (bodyOf PP 97) [1, 0, 1, 0, 0]) (impl_IsName_L1_ex r) (impl_IsName_L1_head v_s v_t5 v_t6) (impl_IsName_L1_out v_s v_t5 r) := fun r h =>
  iter_ok (head := fun w : Int => impl_IsName_L1_head v_s v_t5 w) (ex := impl_IsName_L1_ex) (out := impl_IsName_L1_out v_s v_t5) (by intro r; unfold impl_IsName_L1_ex; split <;> simp) (fun w => impl_IsName_L1_body_ok v_s v_t5 w) v_t6 r h

def impl_IsName (v_s : ByteArray) : Option Bool :=
  impl_IsName_L1 v_s (v_s.size : Int) 0 >>= fun r1 =>
  match r1 with
  | .inl a3 => (if (!(v_s.toList == (⟨#[]⟩ : ByteArray).toList)) = true then
      some (decide ((v_s.size : Int) ≤ (8 : Int)))
    else
      some false)
  | .inr a3 => (some false)

theorem impl_IsName_ok (v_s : ByteArray) : Wp (impl_IsName v_s) (fun r => Con PP 97 [.s v_s] [] (.b r) []) := by
  unfold impl_IsName
  exact .bnd fun r1 h2 =>
    (let t1 : List TE := [.reg [nt], .reg [nt, nt, nt]];
    (by
    rcases r1 with a3 | a3
    · exact ((let t2 : List TE := t1 ++ ([.rst [] [] [(0, ii), (5, ii), (6, ii)], .sub (.exit 0) [(0, .s v_s)] []] : List TE);
    have o3 := ((.c ((impl_IsName_L1_ok v_s (v_s.size : Int) 0 (.inl a3) h2).vex) .nil) : AllP _);
    .ite (fun h4 =>
    .ret (runF_con0 hmix (tape := t2 ++ ([.reg [nt, nt, nt, nt, nt, nt, (.br true, true), nt]] : List TE)) (rr := ii) (by kernel_rfl) (o3.app (.c h4 (.c h4 (.c h4 (.c h4 .nil)))))))
    (fun h4 =>
    .ret (runF_con0 hmix (tape := t2 ++ ([.reg [nt, nt, nt, nf, nf, nf, (.br false, true), nt]] : List TE)) (rr := ii) (by kernel_rfl) (o3.app (.c h4 (.c h4 (.c h4 (.c h4 .nil)))))))))
    · exact (.ret (runF_con0 hmix (tape := t1 ++ ([.rst [] [] [(0, ii), (5, ii), (6, ii)], .sub (.ret) [(2, .b false)] []] : List TE)) (rr := ii) (by kernel_rfl) (.c ((impl_IsName_L1_ok v_s (v_s.size : Int) 0 (.inr a3) h2).vex) .nil)))))

def impl_isPlace (v_n : Int) : Option Bool :=
  if (decide ((-50 : Int) ≤ v_n)) = true then
    some (decide (v_n ≤ (50 : Int)))
  else
    some false

theorem impl_isPlace_ok (v_n : Int) : Wp (impl_isPlace v_n) (fun r => Con PP 98 [.n .i64 v_n] [] (.b r) []) := by
  unfold impl_isPlace
  exact .ite (fun h1 =>
    .ret (runF_con0 hmix (tape := [.reg [nt], .reg [nt, nt, nt, nt, nt, (.br true, true), nt]]) (rr := ii) (by kernel_rfl) (.c h1 (.c h1 (.c h1 .nil)))))
    (fun h1 =>
    .ret (runF_con0 hmix (tape := [.reg [nt], .reg [nt, nt, nt, nf, nf, (.br false, true), nt]]) (rr := ii) (by kernel_rfl) (.c h1 (.c h1 (.c h1 .nil)))))

def impl_JointOk (v_j : TJoint) : Option Bool :=
  impl_IsName v_j.fName >>= fun r1 =>
  if r1 = true then
    impl_isPlace v_j.fX >>= fun r4 =>
    if r4 = true then
      impl_isPlace v_j.fY >>= fun r7 =>
      some r7
    else
      some false
  else
    some false

theorem impl_JointOk_ok (v_j : TJoint) : Wp (impl_JointOk v_j) (fun r => Con PP 79 [.agg [.s v_j.fName, .n .i64 v_j.fX, .n .i64 v_j.fY, .b v_j.fFixed]] [] (.b r) []) := by
  unfold impl_JointOk
  exact .bnd fun r1 h2 =>
    (let t1 : List TE := [.reg [nt, nt]];
    have o2 := ((.c (impl_IsName_ok v_j.fName r1 h2) (.c (Sc.b _ : Sc (.b r1)) .nil)) : AllP _);
    .ite (fun h3 =>
    .bnd fun r4 h5 =>
    (have o3 := o2.app (.c h3 (.c h3 (.c h3 (.c (impl_isPlace_ok v_j.fX r4 h5) (.c (Sc.b _ : Sc (.b r4)) (.c h3 .nil))))));
    .ite (fun h6 =>
    .bnd fun r7 h8 =>
    .ret (runF_con0 hmix (tape := t1 ++ ([.reg [nt, nt, (.call { ac := [ii], r := .b r1, sc := true }, true), nt, nt, nt, (.call { ac := [ii], r := .b r4, sc := true }, true), (.br true, true), nt, nt, nt, (.call { ac := [ii], r := .b r7, sc := true }, true), (.br true, true), nt]] : List TE)) (rr := ii) (by kernel_rfl) (o3.app (.c h6 (.c h6 (.c h6 (.c (impl_isPlace_ok v_j.fY r7 h8) (.c (Sc.b _ : Sc (.b r7)) (.c h6 .nil)))))))))
    (fun h6 =>
    .ret (runF_con0 hmix (tape := t1 ++ ([.reg [nt, nt, (.call { ac := [ii], r := .b r1, sc := true }, true), nt, nt, nt, (.call { ac := [ii], r := .b r4, sc := true }, true), (.br true, true), nt, nf, nf, nf, (.br false, true), nt]] : List TE)) (rr := ii) (by kernel_rfl) (o3.app (.c h6 (.c h6 (.c h6 (.c h6 .nil)))))))))
    (fun h3 =>
    .ret (runF_con0 hmix (tape := t1 ++ ([.reg [nt, nt, (.call { ac := [ii], r := .b r1, sc := true }, true), nt, nf, nf, nf, (.br false, true), nt, nf, nf, nf, nt, nt]] : List TE)) (rr := ii) (by kernel_rfl) (o2.app (.c h3 (.c h3 (.c h3 (.c h3 (.c (rfl : false = false) (.c (rfl : false = false) (.c (rfl : false = false) .nil)))))))))))

def impl_JointNamed_1 (v_j : TJoint) (c0 : ByteArray) : Option Bool :=
  some (v_j.fName.toList == c0.toList)

theorem impl_JointNamed_1_ok (v_j : TJoint) (c0 : ByteArray) : Wp (impl_JointNamed_1 v_j c0) (fun r => Con PP 100 [.agg [.s v_j.fName, .n .i64 v_j.fX, .n .i64 v_j.fY, .b v_j.fFixed], .ipt 1 [[.s c0]] 0 0] [] (.b r) []) := by
  unfold impl_JointNamed_1
  exact .ret (runF_con0 hmix (tape := [.reg [nt, nt], .reg [nt, nt, nt, nt, nt]]) (rr := ii) (by kernel_rfl) .nil)

def s_IndexFunc_impl_JointNamed_1_L1_head (v_s : (List TJoint)) (v_f__ : ByteArray) (v_t7 : Int) (v_t8 : Int) : S := mkS [(0, .isl 4 (v_s.map eTJoint)), (1, .fn 100 [.ipt 1 [[.s v_f__]] 0 0]), (7, .n .i64 v_t7), (8, .n .i64 v_t8)] []

def s_IndexFunc_impl_JointNamed_1_L1_ex : ((Unit) ⊕ (Int)) → Exit
  | .inl _ => .exit 0
  | .inr _ => .ret

def s_IndexFunc_impl_JointNamed_1_L1_out (v_s : (List TJoint)) (v_f__ : ByteArray) (v_t7 : Int) : ((Unit) ⊕ (Int)) → S
  | .inl a => mkS [] []
  | .inr a => mkS [(4, .n .i64 a)] []

abbrev s_IndexFunc_impl_JointNamed_1_L1_V := VEx PP 19 0 (nodeAt (bodyOf PP 99) [1, 0, 1, 0, 0])

def s_IndexFunc_impl_JointNamed_1_L1_body (v_s : (List TJoint)) (v_f__ : ByteArray) (v_t7 : Int) (v_t8 : Int) : Option ((Int) ⊕ ((Unit) ⊕ (Int))) :=
  if (decide (v_t8 < v_t7)) = true then
    if 0 ≤ v_t8 ∧ v_t8 < v_s.length then
    v_s[v_t8.toNat]? >>= fun x3 =>
    impl_JointNamed_1 x3 v_f__ >>= fun r5 =>
    if r5 = true then
      some (.inr (.inr v_t8))
    else
      some (.inl (w64 (v_t8 + (1 : Int))))
    else none
  else
    some (.inr (.inl ()))

def s_IndexFunc_impl_JointNamed_1_L1 (v_s : (List TJoint)) (v_f__ : ByteArray) (v_t7 : Int) (v_t8 : Int) : Option ((Unit) ⊕ (Int)) := iter (fun w : Int => s_IndexFunc_impl_JointNamed_1_L1_body v_s v_f__ v_t7 w) v_t8

theorem s_IndexFunc_impl_JointNamed_1_L1_body_ok (v_s : (List TJoint)) (v_f__ : ByteArray) (v_t7 : Int) (v_t8 : Int) : Wp (s_IndexFunc_impl_JointNamed_1_L1_body v_s v_f__ v_t7 v_t8) (Sum.elim
    (fun w => s_IndexFunc_impl_JointNamed_1_L1_V .normal (s_IndexFunc_impl_JointNamed_1_L1_head v_s v_f__ v_t7 v_t8) (s_IndexFunc_impl_JointNamed_1_L1_head v_s v_f__ v_t7 w))
    (fun r => s_IndexFunc_impl_JointNamed_1_L1_V (s_IndexFunc_impl_JointNamed_1_L1_ex r) (s_IndexFunc_impl_JointNamed_1_L1_head v_s v_f__ v_t7 v_t8) (s_IndexFunc_impl_JointNamed_1_L1_out v_s v_f__ v_t7 r))) := by
  unfold s_IndexFunc_impl_JointNamed_1_L1_body
  exact .ite (fun h1 =>
    .grd fun h2 =>
    .bnd fun x3 h4 =>
    .bnd fun r5 h6 =>
    (let t1 : List TE := [.reg [nt], .br true, .reg [nt, nt], .reg [nt, nt, nt, nt, (.el (eTJoint x3), true), (.call { ac := [ii, ii], r := .b r5, sc := true }, true)]];
    have o2 := ((.c h1 (.c ((h2).1) (.c (lt_mapI (h2).2 : v_t8 < ((v_s.map eTJoint).length : Nat)) (.c (map_get h4 : (v_s.map eTJoint)[v_t8.toNat]? = some (eTJoint x3)) (.c (impl_JointNamed_1_ok x3 v_f__ r5 h6) (.c (Sc.b _ : Sc (.b r5)) .nil)))))) : AllP _);
    .ite (fun h7 =>
    .ret ((okC_sound hmix (tape := t1 ++ ([.br true, .reg [nt, nt], .rst [] [] [(4, ii)]] : List TE)) (nr := 0) (by kernel_rfl) (o2.app (.c h7 .nil)) (mkS_free _ _) : s_IndexFunc_impl_JointNamed_1_L1_V (.ret) (s_IndexFunc_impl_JointNamed_1_L1_head v_s v_f__ v_t7 v_t8) (s_IndexFunc_impl_JointNamed_1_L1_out v_s v_f__ v_t7 (.inr v_t8)))))
    (fun h7 =>
    .ret ((okC_sound hmix (tape := t1 ++ ([.br false, .reg [nt, nt], .rst [] [] [(0, ii), (1, .comp [.c0 .id]), (7, ii), (8, ii)]] : List TE)) (nr := 0) (by kernel_rfl) (o2.app (.c h7 .nil)) (mkS_free _ _) : s_IndexFunc_impl_JointNamed_1_L1_V .normal (s_IndexFunc_impl_JointNamed_1_L1_head v_s v_f__ v_t7 v_t8) (s_IndexFunc_impl_JointNamed_1_L1_head v_s v_f__ v_t7 (w64 (v_t8 + (1 : Int)))))))))
    (fun h1 =>
    .ret ((okC_sound hmix (tape := [.reg [nt], .br false, .rst [] [] []]) (nr := 0) (by kernel_rfl) (.c h1 .nil) (mkS_free _ _) : s_IndexFunc_impl_JointNamed_1_L1_V (.exit 0) (s_IndexFunc_impl_JointNamed_1_L1_head v_s v_f__ v_t7 v_t8) (s_IndexFunc_impl_JointNamed_1_L1_out v_s v_f__ v_t7 (.inl ())))))

theorem s_IndexFunc_impl_JointNamed_1_L1_ok (v_s : (List TJoint)) (v_f__ : ByteArray) (v_t7 : Int) (v_t8 : Int) : ∀ r, s_IndexFunc_impl_JointNamed_1_L1 v_s v_f__ v_t7 v_t8 = some r → VLoop PP 19 0 (nodeAt (bodyOf PP 99) [1, 0, 1, 0, 0]) (s_IndexFunc_impl_JointNamed_1_L1_ex r) (s_IndexFunc_impl_JointNamed_1_L1_head v_s v_f__ v_t7 v_t8) (s_IndexFunc_impl_JointNamed_1_L1_out v_s v_f__ v_t7 r) := fun r h =>
  iter_ok (head := fun w : Int => s_IndexFunc_impl_JointNamed_1_L1_head v_s v_f__ v_t7 w) (ex := s_IndexFunc_impl_JointNamed_1_L1_ex) (out := s_IndexFunc_impl_JointNamed_1_L1_out v_s v_f__ v_t7) (by intro r; unfold s_IndexFunc_impl_JointNamed_1_L1_ex; split <;> simp) (fun w => s_IndexFunc_impl_JointNamed_1_L1_body_ok v_s v_f__ v_t7 w) v_t8 r h

def s_IndexFunc_impl_JointNamed_1 (v_s : (List TJoint)) (v_f_c0 : ByteArray) : Option Int :=
  s_IndexFunc_impl_JointNamed_1_L1 v_s v_f_c0 (len_ eTJoint v_s) 0 >>= fun r1 =>
  match r1 with
  | .inl a3 => (some (-1))
  | .inr a3 => (some a3)

theorem s_IndexFunc_impl_JointNamed_1_ok (v_s : (List TJoint)) (v_f_c0 : ByteArray) : Wp (s_IndexFunc_impl_JointNamed_1 v_s v_f_c0) (fun r => Con PP 99 [.isl 4 (v_s.map eTJoint), .fn 100 [.ipt 1 [[.s v_f_c0]] 0 0]] [] (.n .i64 r) []) := by
  unfold s_IndexFunc_impl_JointNamed_1
  exact .bnd fun r1 h2 =>
    (let t1 : List TE := [.reg [nt], .reg [nt, nt, nt]];
    (by
    rcases r1 with a3 | a3
    · exact (.ret (runF_con0 hmix (tape := t1 ++ ([.rst [] [] [(0, ii), (1, .comp [.c0 .id]), (7, ii), (8, ii)], .sub (.exit 0) [] [], .reg [nt]] : List TE)) (rr := ii) (by kernel_rfl) (.c ((s_IndexFunc_impl_JointNamed_1_L1_ok v_s v_f_c0 (len_ eTJoint v_s) 0 (.inl a3) h2).vex) .nil)))
    · exact (.ret (runF_con0 hmix (tape := t1 ++ ([.rst [] [] [(0, ii), (1, .comp [.c0 .id]), (7, ii), (8, ii)], .sub (.ret) [(4, .n .i64 a3)] []] : List TE)) (rr := ii) (by kernel_rfl) (.c ((s_IndexFunc_impl_JointNamed_1_L1_ok v_s v_f_c0 (len_ eTJoint v_s) 0 (.inr a3) h2).vex) .nil)))))

def impl_JointNamed (v_s : TStructure) (v_name : ByteArray) : Option Int :=
  s_IndexFunc_impl_JointNamed_1 v_s.fJoints v_name >>= fun r1 =>
  some r1

theorem impl_JointNamed_ok (v_s : TStructure) (v_name : ByteArray) : Wp (impl_JointNamed v_s v_name) (fun r => Con PP 80 [.agg [.isl 4 (v_s.fJoints.map eTJoint), .isl 3 (v_s.fMembers.map eTMember)], .s v_name] [] (.n .i64 r) []) := by
  unfold impl_JointNamed
  exact .bnd fun r1 h2 =>
    .ret (runF_con0 hmix (tape := [.reg [nt, nt, nt], .reg [nt, nt, nt, (.call { ac := [ii, .comp [.ptr [.id]]], rds := [1], r := .n .i64 r1, sc := true }, true), nt]]) (rr := ii) (by kernel_rfl) (.c (pure_es1 (eS_pure v_name) : PureEs [[.s v_name]]) (.c (s_IndexFunc_impl_JointNamed_1_ok v_s.fJoints v_name r1 h2) (.c (Sc.n _ _ : Sc (.n .i64 r1)) .nil))))

end Go.Proofs.YtiacejpdgjmdfabGreat
