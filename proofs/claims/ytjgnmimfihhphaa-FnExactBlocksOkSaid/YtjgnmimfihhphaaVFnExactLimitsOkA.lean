/- Plain functions for the program's functions, and that calls come to them: printed by a program. No condition. -/
import Derived.Test.YtjgnmimfihhphaaV0
import Derived.Test.YtjgnmimfihhphaaVFnExactIsSteepA
import Derived.Test.YtjgnmimfihhphaaVFnExactBeamOkA
namespace Go.Proofs.Ytjgnmimfihhphaa
open Go Go.VL

def laws_szJoint (v_a : TJoint) (v_left : Int) : Option Int :=
  if (decide ((w64 (v_left - (v_a.fName.size : Int))) < (0 : Int))) = true then
    some (-1)
  else
    some (w64 (v_left - (v_a.fName.size : Int)))

theorem laws_szJoint_ok (v_a : TJoint) (v_left : Int) : Wp (laws_szJoint v_a v_left) (fun r => Con PP 92 [.agg [.s v_a.fName, .n .i64 v_a.fX, .n .i64 v_a.fY, .b v_a.fFixed], .n .i64 v_left] [] (.n .i64 r) []) := by
  unfold laws_szJoint
  exact .ite (fun h1 =>
    .ret (runF_con0 hmix (tape := [.reg [nt, nt], .reg [nt, nt, nt, nt, nt, nt], .reg [nt, nt], .br true, .reg [nt]]) (rr := ii) (by kernel_rfl) (.cons h1 .nil)))
    (fun h1 =>
    .ret (runF_con0 hmix (tape := [.reg [nt, nt], .reg [nt, nt, nt, nt, nt, nt], .reg [nt, nt], .br false, .reg [nt, nt]]) (rr := ii) (by kernel_rfl) (.cons h1 .nil)))

def laws_szJointS_L1_head (v_a : (List TJoint)) (v_left : Int) (v_i : Int) : S := mkS [(0, .isl 4 (v_a.map eTJoint)), (1, .n .i64 v_left), (5, .n .i64 v_i)] []

def laws_szJointS_L1_ex : ((Int) ⊕ (Unit)) → Exit
  | .inl _ => .exit 0
  | .inr _ => .ret

def laws_szJointS_L1_out (v_a : (List TJoint)) : ((Int) ⊕ (Unit)) → S
  | .inl a => mkS [(1, .n .i64 a)] []
  | .inr a => mkS [(4, .n .i64 (-1 : Int))] []

def laws_szJointS_L1_body (v_a : (List TJoint)) (v_left : Int) (v_i : Int) : Option ((Int × Int) ⊕ ((Int) ⊕ (Unit))) :=
  if (decide (v_i < (len_ eTJoint v_a))) = true then
    if 0 ≤ v_i ∧ v_i < v_a.length then
    v_a[v_i.toNat]? >>= fun x3 =>
    laws_szJoint x3 v_left >>= fun r5 =>
    if (decide (r5 < (0 : Int))) = true then
      some (.inr (.inr ()))
    else
      some (.inl (r5, w64 (v_i + (1 : Int))))
    else none
  else
    some (.inr (.inl v_left))

def laws_szJointS_L1 (v_a : (List TJoint)) (v_left : Int) (v_i : Int) : Option ((Int) ⊕ (Unit)) := iter (fun w : Int × Int => laws_szJointS_L1_body v_a w.1 w.2) (v_left, v_i)

theorem laws_szJointS_L1_body_ok (v_a : (List TJoint)) (v_left : Int) (v_i : Int) : Wp (laws_szJointS_L1_body v_a v_left v_i) (Sum.elim
    (fun w => VEx PP 27 0 (nodeAt (bodyOf PP 61) [1, 1, 1, 0, 1, 0, 0]) .normal (laws_szJointS_L1_head v_a v_left v_i) (laws_szJointS_L1_head v_a w.1 w.2))
    (fun r => VEx PP 27 0 (nodeAt (bodyOf PP 61) [1, 1, 1, 0, 1, 0, 0]) (laws_szJointS_L1_ex r) (laws_szJointS_L1_head v_a v_left v_i) (laws_szJointS_L1_out v_a r))) := by
  unfold laws_szJointS_L1_body
  exact .ite (fun h1 =>
      .grd fun h2 =>
       .bnd fun x3 h4 =>
       .bnd fun r5 h6 =>
       .ite (fun h7 =>
       .ret ((okC_sound hmix (tape := [.reg [nt, nt, nt, nt], .br true, .reg [nt, nt, nt, (.el (eTJoint x3), true), nt, (.call { ac := [ii, ii], r := .n .i64 r5, sc := true }, true), nt], .reg [nt, nt], .br true, .reg [nt], .rst [] [] [(4, ii)]]) (nr := 0) (by kernel_rfl) (.cons h1 (.cons ((h2).1) (.cons (lt_mapI (h2).2 : v_i < ((v_a.map eTJoint).length : Nat)) (.cons (map_get h4 : (v_a.map eTJoint)[v_i.toNat]? = some (eTJoint x3)) (.cons (laws_szJoint_ok x3 v_left r5 h6) (.cons (Sc.n _ _ : Sc (.n .i64 r5)) (.cons h7 .nil))))))) (mkS_free _ _) : VEx PP 27 0 (nodeAt (bodyOf PP 61) [1, 1, 1, 0, 1, 0, 0]) (.ret) (laws_szJointS_L1_head v_a v_left v_i) (laws_szJointS_L1_out v_a (.inr ())))))
       (fun h7 =>
       .ret ((okC_sound hmix (tape := [.reg [nt, nt, nt, nt], .br true, .reg [nt, nt, nt, (.el (eTJoint x3), true), nt, (.call { ac := [ii, ii], r := .n .i64 r5, sc := true }, true), nt], .reg [nt, nt], .br false, .reg [nt, nt, nt], .rst [] [] [(0, ii), (1, ii), (5, ii)]]) (nr := 0) (by kernel_rfl) (.cons h1 (.cons ((h2).1) (.cons (lt_mapI (h2).2 : v_i < ((v_a.map eTJoint).length : Nat)) (.cons (map_get h4 : (v_a.map eTJoint)[v_i.toNat]? = some (eTJoint x3)) (.cons (laws_szJoint_ok x3 v_left r5 h6) (.cons (Sc.n _ _ : Sc (.n .i64 r5)) (.cons h7 .nil))))))) (mkS_free _ _) : VEx PP 27 0 (nodeAt (bodyOf PP 61) [1, 1, 1, 0, 1, 0, 0]) .normal (laws_szJointS_L1_head v_a v_left v_i) (laws_szJointS_L1_head v_a r5 (w64 (v_i + (1 : Int))))))))
      (fun h1 =>
      .ret ((okC_sound hmix (tape := [.reg [nt, nt, nt, nt], .br false, .rst [] [] [(1, ii)]]) (nr := 0) (by kernel_rfl) (.cons h1 .nil) (mkS_free _ _) : VEx PP 27 0 (nodeAt (bodyOf PP 61) [1, 1, 1, 0, 1, 0, 0]) (.exit 0) (laws_szJointS_L1_head v_a v_left v_i) (laws_szJointS_L1_out v_a (.inl v_left)))))

theorem laws_szJointS_L1_ok (v_a : (List TJoint)) (v_left : Int) (v_i : Int) : ∀ r, laws_szJointS_L1 v_a v_left v_i = some r → VLoop PP 27 0 (nodeAt (bodyOf PP 61) [1, 1, 1, 0, 1, 0, 0]) (laws_szJointS_L1_ex r) (laws_szJointS_L1_head v_a v_left v_i) (laws_szJointS_L1_out v_a r) := fun r h =>
  iter_ok (head := fun w : Int × Int => laws_szJointS_L1_head v_a w.1 w.2) (ex := laws_szJointS_L1_ex) (out := laws_szJointS_L1_out v_a) (by intro r; unfold laws_szJointS_L1_ex; split <;> simp) (fun w => laws_szJointS_L1_body_ok v_a w.1 w.2) (v_left, v_i) r h

def laws_szJointS (v_a : (List TJoint)) (v_left : Int) : Option Int :=
  if (decide ((w64 (v_left - (len_ eTJoint v_a))) < (0 : Int))) = true then
    some (-1)
  else
    laws_szJointS_L1 v_a (w64 (v_left - (len_ eTJoint v_a))) 0 >>= fun r2 =>
    match r2 with
    | .inl a4 => (some a4)
    | .inr a4 => (some (-1))

theorem laws_szJointS_ok (v_a : (List TJoint)) (v_left : Int) : Wp (laws_szJointS v_a v_left) (fun r => Con PP 61 [.isl 4 (v_a.map eTJoint), .n .i64 v_left] [] (.n .i64 r) []) := by
  unfold laws_szJointS
  exact .ite (fun h1 =>
    .ret (runF_con0 hmix (tape := [.reg [nt], .reg [nt, nt, nt, nt, nt], .reg [nt, nt], .br true, .reg [nt]]) (rr := ii) (by kernel_rfl) (.cons h1 .nil)))
    (fun h1 =>
    .bnd fun r2 h3 =>
     match r2, h3 with
     | .inl a4, h3 => (.ret (runF_con0 hmix (tape := [.reg [nt], .reg [nt, nt, nt, nt, nt], .reg [nt, nt], .br false, .reg [nt], .rst [] [] [(0, ii), (1, ii), (5, ii)], .sub (.exit 0) [(1, .n .i64 a4)] [], .reg [nt, nt]]) (rr := ii) (by kernel_rfl) (.cons h1 (.cons ((laws_szJointS_L1_ok v_a (w64 (v_left - (len_ eTJoint v_a))) 0 (.inl a4) h3).vex) .nil))))
     | .inr a4, h3 => (.ret (runF_con0 hmix (tape := [.reg [nt], .reg [nt, nt, nt, nt, nt], .reg [nt, nt], .br false, .reg [nt], .rst [] [] [(0, ii), (1, ii), (5, ii)], .sub (.ret) [(4, .n .i64 (-1 : Int))] []]) (rr := ii) (by kernel_rfl) (.cons h1 (.cons ((laws_szJointS_L1_ok v_a (w64 (v_left - (len_ eTJoint v_a))) 0 (.inr a4) h3).vex) .nil)))))

def laws_szMemberS (v_a : (List TMember)) (v_left : Int) : Option Int :=
  if (decide ((w64 (v_left - (len_ eTMember v_a))) < (0 : Int))) = true then
    some (-1)
  else
    some (w64 (v_left - (len_ eTMember v_a)))

theorem laws_szMemberS_ok (v_a : (List TMember)) (v_left : Int) : Wp (laws_szMemberS v_a v_left) (fun r => Con PP 62 [.isl 3 (v_a.map eTMember), .n .i64 v_left] [] (.n .i64 r) []) := by
  unfold laws_szMemberS
  exact .ite (fun h1 =>
    .ret (runF_con0 hmix (tape := [.reg [nt], .reg [nt, nt, nt, nt, nt], .reg [nt, nt], .br true, .reg [nt]]) (rr := ii) (by kernel_rfl) (.cons h1 .nil)))
    (fun h1 =>
    .ret (runF_con0 hmix (tape := [.reg [nt], .reg [nt, nt, nt, nt, nt], .reg [nt, nt], .br false, .reg [nt, nt]]) (rr := ii) (by kernel_rfl) (.cons h1 .nil)))

def laws_szStructure (v_a : TStructure) (v_left : Int) : Option Int :=
  laws_szJointS v_a.fJoints v_left >>= fun r1 =>
  if (decide (r1 < (0 : Int))) = true then
    some (-1)
  else
    laws_szMemberS v_a.fMembers r1 >>= fun r4 =>
    if (decide (r4 < (0 : Int))) = true then
      some (-1)
    else
      some r4

theorem laws_szStructure_ok (v_a : TStructure) (v_left : Int) : Wp (laws_szStructure v_a v_left) (fun r => Con PP 18 [.agg [.isl 4 (v_a.fJoints.map eTJoint), .isl 3 (v_a.fMembers.map eTMember)], .n .i64 v_left] [] (.n .i64 r) []) := by
  unfold laws_szStructure
  exact .bnd fun r1 h2 =>
    .ite (fun h3 =>
    .ret (runF_con0 hmix (tape := [.reg [nt, nt], .reg [nt, nt, nt, (.call { ac := [ii, ii], r := .n .i64 r1, sc := true }, true), nt], .reg [nt, nt], .br true, .reg [nt]]) (rr := ii) (by kernel_rfl) (.cons (laws_szJointS_ok v_a.fJoints v_left r1 h2) (.cons (Sc.n _ _ : Sc (.n .i64 r1)) (.cons h3 .nil)))))
    (fun h3 =>
    .bnd fun r4 h5 =>
     .ite (fun h6 =>
     .ret (runF_con0 hmix (tape := [.reg [nt, nt], .reg [nt, nt, nt, (.call { ac := [ii, ii], r := .n .i64 r1, sc := true }, true), nt], .reg [nt, nt], .br false, .reg [nt, nt, nt, (.call { ac := [ii, ii], r := .n .i64 r4, sc := true }, true), nt], .reg [nt, nt], .br true, .reg [nt]]) (rr := ii) (by kernel_rfl) (.cons (laws_szJointS_ok v_a.fJoints v_left r1 h2) (.cons (Sc.n _ _ : Sc (.n .i64 r1)) (.cons h3 (.cons (laws_szMemberS_ok v_a.fMembers r1 r4 h5) (.cons (Sc.n _ _ : Sc (.n .i64 r4)) (.cons h6 .nil))))))))
     (fun h6 =>
     .ret (runF_con0 hmix (tape := [.reg [nt, nt], .reg [nt, nt, nt, (.call { ac := [ii, ii], r := .n .i64 r1, sc := true }, true), nt], .reg [nt, nt], .br false, .reg [nt, nt, nt, (.call { ac := [ii, ii], r := .n .i64 r4, sc := true }, true), nt], .reg [nt, nt], .br false, .reg [nt, nt]]) (rr := ii) (by kernel_rfl) (.cons (laws_szJointS_ok v_a.fJoints v_left r1 h2) (.cons (Sc.n _ _ : Sc (.n .i64 r1)) (.cons h3 (.cons (laws_szMemberS_ok v_a.fMembers r1 r4 h5) (.cons (Sc.n _ _ : Sc (.n .i64 r4)) (.cons h6 .nil)))))))))

def laws_toJoint (v_a : TJoint) : Option TJoint :=
  some v_a

theorem laws_toJoint_ok (v_a : TJoint) : Wp (laws_toJoint v_a) (fun r => Con PP 95 [.agg [.s v_a.fName, .n .i64 v_a.fX, .n .i64 v_a.fY, .b v_a.fFixed]] [] (.agg [.s r.fName, .n .i64 r.fX, .n .i64 r.fY, .b r.fFixed]) []) := by
  unfold laws_toJoint
  exact .ret (runF_con0 hmix (tape := [.reg [nt, nt], .reg [nt], .reg [nt, nt, nt, nt], .reg [nt, nt, nt, nt], .reg [nt, nt, nt, nt], .reg [nt, nt, nt, nt], .reg [nt, nt]]) (rr := ii) (by kernel_rfl) .nil)

def laws_toJointS_L1_head (v_a : (List TJoint)) (v_out_len : Nat) (v_i : Int) (row0 : (List TJoint)) : S := mkS [(0, .isl 4 (v_a.map eTJoint)), (3, .osl 0 0 0 v_out_len), (4, .n .i64 v_i)] [[Ob.mk 4 (row0.map eTJoint) .live]]

def laws_toJointS_L1_ex : (List TJoint) → Exit
  | _ => .exit 0

def laws_toJointS_L1_out (v_a : (List TJoint)) (v_out_len : Nat) : (List TJoint) → S
  | a => mkS [(3, .osl 0 0 0 v_out_len)] [[Ob.mk 4 (a.map eTJoint) .live]]

def laws_toJointS_L1_body (v_a : (List TJoint)) (v_out_len : Nat) (v_i : Int) (row0 : (List TJoint)) : Option ((Int × (List TJoint)) ⊕ ((List TJoint))) :=
  if (decide (v_i < (len_ eTJoint v_a))) = true then
    if 0 ≤ v_i ∧ v_i < v_a.length then
    v_a[v_i.toNat]? >>= fun x3 =>
    laws_toJoint x3 >>= fun r5 =>
    if 0 ≤ v_i ∧ v_i < (v_out_len : Nat) then
    if (0 + v_i.toNat) < row0.length then
    some (.inl (w64 (v_i + (1 : Int)), row0.set (0 + v_i.toNat) r5))
    else none
    else none
    else none
  else
    some (.inr row0)

def laws_toJointS_L1 (v_a : (List TJoint)) (v_out_len : Nat) (v_i : Int) (row0 : (List TJoint)) : Option ((List TJoint)) := iter (fun w : Int × (List TJoint) => laws_toJointS_L1_body v_a v_out_len w.1 w.2) (v_i, row0)

theorem laws_toJointS_L1_body_ok (v_a : (List TJoint)) (v_out_len : Nat) (v_i : Int) (row0 : (List TJoint)) : Wp (laws_toJointS_L1_body v_a v_out_len v_i row0) (Sum.elim
    (fun w => VEx PP 23 0 (nodeAt (bodyOf PP 64) [1, 1, 0, 1, 0, 0]) .normal (laws_toJointS_L1_head v_a v_out_len v_i row0) (laws_toJointS_L1_head v_a v_out_len w.1 w.2))
    (fun r => VEx PP 23 0 (nodeAt (bodyOf PP 64) [1, 1, 0, 1, 0, 0]) (laws_toJointS_L1_ex r) (laws_toJointS_L1_head v_a v_out_len v_i row0) (laws_toJointS_L1_out v_a v_out_len r))) := by
  unfold laws_toJointS_L1_body
  exact .ite (fun h1 =>
      .grd fun h2 =>
       .bnd fun x3 h4 =>
       .bnd fun r5 h6 =>
       .grd fun h7 =>
       .grd fun h8 =>
       .ret ((okC_sound hmix (tape := [.reg [nt, nt, nt, nt], .br true, .reg [nt, nt, nt, nt, nt, (.el (eTJoint x3), true), (.call { ac := [ii], r := .agg [.s r5.fName, .n .i64 r5.fX, .n .i64 r5.fY, .b r5.fFixed], sc := false }, true), nt, (.bd, true)], .reg [nt, nt, nt], .rst [0] [.as [Ob.mk 4 ((row0.set (0 + v_i.toNat) r5).map eTJoint) .live]] [(0, ii), (3, ii), (4, ii)]]) (nr := 1) (by kernel_rfl) (.cons h1 (.cons ((h2).1) (.cons (lt_mapI (h2).2 : v_i < ((v_a.map eTJoint).length : Nat)) (.cons (map_get h4 : (v_a.map eTJoint)[v_i.toNat]? = some (eTJoint x3)) (.cons (laws_toJoint_ok x3 r5 h6) (.cons ((h7).1) (.cons ((h7).2) (.cons (lt_map h8 : (0 + v_i.toNat) < (row0.map eTJoint).length) (.cons (rfl : 4 = 4) (.cons (row_prf (set_prf (rfl : (row0.map eTJoint) = (row0.map eTJoint)) (0 + v_i.toNat) r5) : [Ob.mk 4 ((row0.map eTJoint).set (0 + v_i.toNat) [.s r5.fName, .n .i64 r5.fX, .n .i64 r5.fY, .b r5.fFixed]) .live] = [Ob.mk 4 ((row0.set (0 + v_i.toNat) r5).map eTJoint) .live]) (.cons (pure_row eTJoint_pure (row0.set (0 + v_i.toNat) r5) : PureRow [Ob.mk 4 ((row0.set (0 + v_i.toNat) r5).map eTJoint) .live]) .nil))))))))))) (mkS_free _ _) : VEx PP 23 0 (nodeAt (bodyOf PP 64) [1, 1, 0, 1, 0, 0]) .normal (laws_toJointS_L1_head v_a v_out_len v_i row0) (laws_toJointS_L1_head v_a v_out_len (w64 (v_i + (1 : Int))) (row0.set (0 + v_i.toNat) r5)))))
      (fun h1 =>
      .ret ((okC_sound hmix (tape := [.reg [nt, nt, nt, nt], .br false, .rst [0] [.pure] [(3, ii)]]) (nr := 1) (by kernel_rfl) (.cons h1 (.cons (pure_row eTJoint_pure row0 : PureRow [Ob.mk 4 (row0.map eTJoint) .live]) .nil)) (mkS_free _ _) : VEx PP 23 0 (nodeAt (bodyOf PP 64) [1, 1, 0, 1, 0, 0]) (.exit 0) (laws_toJointS_L1_head v_a v_out_len v_i row0) (laws_toJointS_L1_out v_a v_out_len row0))))

theorem laws_toJointS_L1_ok (v_a : (List TJoint)) (v_out_len : Nat) (v_i : Int) (row0 : (List TJoint)) : ∀ r, laws_toJointS_L1 v_a v_out_len v_i row0 = some r → VLoop PP 23 0 (nodeAt (bodyOf PP 64) [1, 1, 0, 1, 0, 0]) (laws_toJointS_L1_ex r) (laws_toJointS_L1_head v_a v_out_len v_i row0) (laws_toJointS_L1_out v_a v_out_len r) := fun r h =>
  iter_ok (head := fun w : Int × (List TJoint) => laws_toJointS_L1_head v_a v_out_len w.1 w.2) (ex := laws_toJointS_L1_ex) (out := laws_toJointS_L1_out v_a v_out_len) (by intro r; unfold laws_toJointS_L1_ex; split <;> simp) (fun w => laws_toJointS_L1_body_ok v_a v_out_len w.1 w.2) (v_i, row0) r h

def laws_toJointS (v_a : (List TJoint)) : Option (List TJoint) :=
  if 0 ≤ (len_ eTJoint v_a) ∧ (40 : Int) * (len_ eTJoint v_a) ≤ 281474976710656 ∧ (len_ eTJoint v_a) < 9223372036854775808 then
  laws_toJointS_L1 v_a ((len_ eTJoint v_a).toNat) 0 (List.replicate (len_ eTJoint v_a).toNat (⟨ByteArray.empty, 0, 0, false⟩ : TJoint)) >>= fun r2 =>
  if 0 + (len_ eTJoint v_a).toNat ≤ r2.length then
  some ((r2.drop 0).take ((len_ eTJoint v_a).toNat))
  else none
  else none

theorem laws_toJointS_ok (v_a : (List TJoint)) : Wp (laws_toJointS v_a) (fun r => Con PP 64 [.isl 4 (v_a.map eTJoint)] [] (.isl 4 (r.map eTJoint)) []) := by
  unfold laws_toJointS
  exact .grd fun h1 =>
    .bnd fun r2 h3 =>
    .grd fun h4 =>
    .ret (runF_con0 hmix (tape := [.reg [nt], .reg [nt, nt, nt, nt], .reg [nt], .rst [3] [.as [Ob.mk 4 ((List.replicate (len_ eTJoint v_a).toNat (⟨ByteArray.empty, 0, 0, false⟩ : TJoint)).map eTJoint) .live]] [(0, ii), (3, ii), (4, ii)], .sub (.exit 0) [(3, .osl 0 0 0 ((len_ eTJoint v_a).toNat))] [[Ob.mk 4 (r2.map eTJoint) .live]], .reg [nt, nt]]) (rr := .c1 (.c0 (.sl (((r2.drop 0).take ((len_ eTJoint v_a).toNat)).map eTJoint)))) (by kernel_rfl) (.cons ((h1).1) (.cons (Int.le_refl (len_ eTJoint v_a)) (.cons ((h1).2.1) (.cons ((h1).2.2) (.cons (row_prf (rep_prf eTJoint (len_ eTJoint v_a).toNat (⟨ByteArray.empty, 0, 0, false⟩ : TJoint)) : [Ob.mk 4 (List.replicate (len_ eTJoint v_a).toNat [.s ByteArray.empty, .n .i64 (0 : Int), .n .i64 (0 : Int), .b false]) .live] = [Ob.mk 4 ((List.replicate (len_ eTJoint v_a).toNat (⟨ByteArray.empty, 0, 0, false⟩ : TJoint)).map eTJoint) .live]) (.cons (pure_row eTJoint_pure (List.replicate (len_ eTJoint v_a).toNat (⟨ByteArray.empty, 0, 0, false⟩ : TJoint)) : PureRow [Ob.mk 4 ((List.replicate (len_ eTJoint v_a).toNat (⟨ByteArray.empty, 0, 0, false⟩ : TJoint)).map eTJoint) .live]) (.cons ((laws_toJointS_L1_ok v_a ((len_ eTJoint v_a).toNat) 0 (List.replicate (len_ eTJoint v_a).toNat (⟨ByteArray.empty, 0, 0, false⟩ : TJoint)) r2 h3).vex) (.cons (snap_prf (rfl : (r2.map eTJoint) = (r2.map eTJoint)) 0 ((len_ eTJoint v_a).toNat)) (.cons (fit_prf (rfl : (r2.map eTJoint) = (r2.map eTJoint)) h4) (.cons (pure_map eTJoint_pure ((r2.drop 0).take ((len_ eTJoint v_a).toNat))) .nil)))))))))))

def laws_toMember (v_a : TMember) : Option TMember :=
  some v_a

theorem laws_toMember_ok (v_a : TMember) : Wp (laws_toMember v_a) (fun r => Con PP 96 [.agg [.n .i64 v_a.fA, .n .i64 v_a.fB, .n .i64 v_a.fKind]] [] (.agg [.n .i64 r.fA, .n .i64 r.fB, .n .i64 r.fKind]) []) := by
  unfold laws_toMember
  exact .ret (runF_con0 hmix (tape := [.reg [nt, nt], .reg [nt], .reg [nt, nt, nt, nt], .reg [nt, nt, nt, nt], .reg [nt, nt, nt, nt], .reg [nt, nt]]) (rr := ii) (by kernel_rfl) .nil)

def laws_toMemberS_L1_head (v_a : (List TMember)) (v_out_len : Nat) (v_i : Int) (row0 : (List TMember)) : S := mkS [(0, .isl 3 (v_a.map eTMember)), (3, .osl 0 0 0 v_out_len), (4, .n .i64 v_i)] [[Ob.mk 3 (row0.map eTMember) .live]]

def laws_toMemberS_L1_ex : (List TMember) → Exit
  | _ => .exit 0

def laws_toMemberS_L1_out (v_a : (List TMember)) (v_out_len : Nat) : (List TMember) → S
  | a => mkS [(3, .osl 0 0 0 v_out_len)] [[Ob.mk 3 (a.map eTMember) .live]]

def laws_toMemberS_L1_body (v_a : (List TMember)) (v_out_len : Nat) (v_i : Int) (row0 : (List TMember)) : Option ((Int × (List TMember)) ⊕ ((List TMember))) :=
  if (decide (v_i < (len_ eTMember v_a))) = true then
    if 0 ≤ v_i ∧ v_i < v_a.length then
    v_a[v_i.toNat]? >>= fun x3 =>
    laws_toMember x3 >>= fun r5 =>
    if 0 ≤ v_i ∧ v_i < (v_out_len : Nat) then
    if (0 + v_i.toNat) < row0.length then
    some (.inl (w64 (v_i + (1 : Int)), row0.set (0 + v_i.toNat) r5))
    else none
    else none
    else none
  else
    some (.inr row0)

def laws_toMemberS_L1 (v_a : (List TMember)) (v_out_len : Nat) (v_i : Int) (row0 : (List TMember)) : Option ((List TMember)) := iter (fun w : Int × (List TMember) => laws_toMemberS_L1_body v_a v_out_len w.1 w.2) (v_i, row0)

theorem laws_toMemberS_L1_body_ok (v_a : (List TMember)) (v_out_len : Nat) (v_i : Int) (row0 : (List TMember)) : Wp (laws_toMemberS_L1_body v_a v_out_len v_i row0) (Sum.elim
    (fun w => VEx PP 23 0 (nodeAt (bodyOf PP 65) [1, 1, 0, 1, 0, 0]) .normal (laws_toMemberS_L1_head v_a v_out_len v_i row0) (laws_toMemberS_L1_head v_a v_out_len w.1 w.2))
    (fun r => VEx PP 23 0 (nodeAt (bodyOf PP 65) [1, 1, 0, 1, 0, 0]) (laws_toMemberS_L1_ex r) (laws_toMemberS_L1_head v_a v_out_len v_i row0) (laws_toMemberS_L1_out v_a v_out_len r))) := by
  unfold laws_toMemberS_L1_body
  exact .ite (fun h1 =>
      .grd fun h2 =>
       .bnd fun x3 h4 =>
       .bnd fun r5 h6 =>
       .grd fun h7 =>
       .grd fun h8 =>
       .ret ((okC_sound hmix (tape := [.reg [nt, nt, nt, nt], .br true, .reg [nt, nt, nt, nt, nt, (.el (eTMember x3), true), (.call { ac := [ii], r := .agg [.n .i64 r5.fA, .n .i64 r5.fB, .n .i64 r5.fKind], sc := false }, true), nt, (.bd, true)], .reg [nt, nt, nt], .rst [0] [.as [Ob.mk 3 ((row0.set (0 + v_i.toNat) r5).map eTMember) .live]] [(0, ii), (3, ii), (4, ii)]]) (nr := 1) (by kernel_rfl) (.cons h1 (.cons ((h2).1) (.cons (lt_mapI (h2).2 : v_i < ((v_a.map eTMember).length : Nat)) (.cons (map_get h4 : (v_a.map eTMember)[v_i.toNat]? = some (eTMember x3)) (.cons (laws_toMember_ok x3 r5 h6) (.cons ((h7).1) (.cons ((h7).2) (.cons (lt_map h8 : (0 + v_i.toNat) < (row0.map eTMember).length) (.cons (rfl : 3 = 3) (.cons (row_prf (set_prf (rfl : (row0.map eTMember) = (row0.map eTMember)) (0 + v_i.toNat) r5) : [Ob.mk 3 ((row0.map eTMember).set (0 + v_i.toNat) [.n .i64 r5.fA, .n .i64 r5.fB, .n .i64 r5.fKind]) .live] = [Ob.mk 3 ((row0.set (0 + v_i.toNat) r5).map eTMember) .live]) (.cons (pure_row eTMember_pure (row0.set (0 + v_i.toNat) r5) : PureRow [Ob.mk 3 ((row0.set (0 + v_i.toNat) r5).map eTMember) .live]) .nil))))))))))) (mkS_free _ _) : VEx PP 23 0 (nodeAt (bodyOf PP 65) [1, 1, 0, 1, 0, 0]) .normal (laws_toMemberS_L1_head v_a v_out_len v_i row0) (laws_toMemberS_L1_head v_a v_out_len (w64 (v_i + (1 : Int))) (row0.set (0 + v_i.toNat) r5)))))
      (fun h1 =>
      .ret ((okC_sound hmix (tape := [.reg [nt, nt, nt, nt], .br false, .rst [0] [.pure] [(3, ii)]]) (nr := 1) (by kernel_rfl) (.cons h1 (.cons (pure_row eTMember_pure row0 : PureRow [Ob.mk 3 (row0.map eTMember) .live]) .nil)) (mkS_free _ _) : VEx PP 23 0 (nodeAt (bodyOf PP 65) [1, 1, 0, 1, 0, 0]) (.exit 0) (laws_toMemberS_L1_head v_a v_out_len v_i row0) (laws_toMemberS_L1_out v_a v_out_len row0))))

theorem laws_toMemberS_L1_ok (v_a : (List TMember)) (v_out_len : Nat) (v_i : Int) (row0 : (List TMember)) : ∀ r, laws_toMemberS_L1 v_a v_out_len v_i row0 = some r → VLoop PP 23 0 (nodeAt (bodyOf PP 65) [1, 1, 0, 1, 0, 0]) (laws_toMemberS_L1_ex r) (laws_toMemberS_L1_head v_a v_out_len v_i row0) (laws_toMemberS_L1_out v_a v_out_len r) := fun r h =>
  iter_ok (head := fun w : Int × (List TMember) => laws_toMemberS_L1_head v_a v_out_len w.1 w.2) (ex := laws_toMemberS_L1_ex) (out := laws_toMemberS_L1_out v_a v_out_len) (by intro r; unfold laws_toMemberS_L1_ex; split <;> simp) (fun w => laws_toMemberS_L1_body_ok v_a v_out_len w.1 w.2) (v_i, row0) r h

def laws_toMemberS (v_a : (List TMember)) : Option (List TMember) :=
  if 0 ≤ (len_ eTMember v_a) ∧ (24 : Int) * (len_ eTMember v_a) ≤ 281474976710656 ∧ (len_ eTMember v_a) < 9223372036854775808 then
  laws_toMemberS_L1 v_a ((len_ eTMember v_a).toNat) 0 (List.replicate (len_ eTMember v_a).toNat (⟨0, 0, 0⟩ : TMember)) >>= fun r2 =>
  if 0 + (len_ eTMember v_a).toNat ≤ r2.length then
  some ((r2.drop 0).take ((len_ eTMember v_a).toNat))
  else none
  else none

theorem laws_toMemberS_ok (v_a : (List TMember)) : Wp (laws_toMemberS v_a) (fun r => Con PP 65 [.isl 3 (v_a.map eTMember)] [] (.isl 3 (r.map eTMember)) []) := by
  unfold laws_toMemberS
  exact .grd fun h1 =>
    .bnd fun r2 h3 =>
    .grd fun h4 =>
    .ret (runF_con0 hmix (tape := [.reg [nt], .reg [nt, nt, nt, nt], .reg [nt], .rst [3] [.as [Ob.mk 3 ((List.replicate (len_ eTMember v_a).toNat (⟨0, 0, 0⟩ : TMember)).map eTMember) .live]] [(0, ii), (3, ii), (4, ii)], .sub (.exit 0) [(3, .osl 0 0 0 ((len_ eTMember v_a).toNat))] [[Ob.mk 3 (r2.map eTMember) .live]], .reg [nt, nt]]) (rr := .c1 (.c0 (.sl (((r2.drop 0).take ((len_ eTMember v_a).toNat)).map eTMember)))) (by kernel_rfl) (.cons ((h1).1) (.cons (Int.le_refl (len_ eTMember v_a)) (.cons ((h1).2.1) (.cons ((h1).2.2) (.cons (row_prf (rep_prf eTMember (len_ eTMember v_a).toNat (⟨0, 0, 0⟩ : TMember)) : [Ob.mk 3 (List.replicate (len_ eTMember v_a).toNat [.n .i64 (0 : Int), .n .i64 (0 : Int), .n .i64 (0 : Int)]) .live] = [Ob.mk 3 ((List.replicate (len_ eTMember v_a).toNat (⟨0, 0, 0⟩ : TMember)).map eTMember) .live]) (.cons (pure_row eTMember_pure (List.replicate (len_ eTMember v_a).toNat (⟨0, 0, 0⟩ : TMember)) : PureRow [Ob.mk 3 ((List.replicate (len_ eTMember v_a).toNat (⟨0, 0, 0⟩ : TMember)).map eTMember) .live]) (.cons ((laws_toMemberS_L1_ok v_a ((len_ eTMember v_a).toNat) 0 (List.replicate (len_ eTMember v_a).toNat (⟨0, 0, 0⟩ : TMember)) r2 h3).vex) (.cons (snap_prf (rfl : (r2.map eTMember) = (r2.map eTMember)) 0 ((len_ eTMember v_a).toNat)) (.cons (fit_prf (rfl : (r2.map eTMember) = (r2.map eTMember)) h4) (.cons (pure_map eTMember_pure ((r2.drop 0).take ((len_ eTMember v_a).toNat))) .nil)))))))))))

def laws_toStructure (v_a : TStructure) : Option TStructure :=
  laws_toJointS v_a.fJoints >>= fun r1 =>
  laws_toMemberS v_a.fMembers >>= fun r3 =>
  some (⟨r1, r3⟩ : TStructure)

theorem laws_toStructure_ok (v_a : TStructure) : Wp (laws_toStructure v_a) (fun r => Con PP 20 [.agg [.isl 4 (v_a.fJoints.map eTJoint), .isl 3 (v_a.fMembers.map eTMember)]] [] (.agg [.isl 4 (r.fJoints.map eTJoint), .isl 3 (r.fMembers.map eTMember)]) []) := by
  unfold laws_toStructure
  exact .bnd fun r1 h2 =>
    .bnd fun r3 h4 =>
    .ret (runF_con0 hmix (tape := [.reg [nt, nt], .reg [nt], .reg [nt, nt, (.call { ac := [ii], r := .isl 4 (r1.map eTJoint), sc := false }, true), nt, nt], .reg [nt, nt, (.call { ac := [ii], r := .isl 3 (r3.map eTMember), sc := false }, true), nt, nt], .reg [nt, nt]]) (rr := ii) (by kernel_rfl) (.cons (laws_toJointS_ok v_a.fJoints r1 h2) (.cons (laws_toMemberS_ok v_a.fMembers r3 h4) .nil)))

def laws_toIntS_L1_head (v_a : (List Int)) (v_out_len : Nat) (v_i : Int) (row0 : (List Int)) : S := mkS [(0, .isl 1 (v_a.map eI)), (3, .osl 0 0 0 v_out_len), (4, .n .i64 v_i)] [[Ob.mk 1 (row0.map eI) .live]]

def laws_toIntS_L1_ex : (List Int) → Exit
  | _ => .exit 0

def laws_toIntS_L1_out (v_a : (List Int)) (v_out_len : Nat) : (List Int) → S
  | a => mkS [(3, .osl 0 0 0 v_out_len)] [[Ob.mk 1 (a.map eI) .live]]

def laws_toIntS_L1_body (v_a : (List Int)) (v_out_len : Nat) (v_i : Int) (row0 : (List Int)) : Option ((Int × (List Int)) ⊕ ((List Int))) :=
  if (decide (v_i < (len_ eI v_a))) = true then
    if 0 ≤ v_i ∧ v_i < v_a.length then
    v_a[v_i.toNat]? >>= fun x3 =>
    if 0 ≤ v_i ∧ v_i < (v_out_len : Nat) then
    if (0 + v_i.toNat) < row0.length then
    some (.inl (w64 (v_i + (1 : Int)), row0.set (0 + v_i.toNat) x3))
    else none
    else none
    else none
  else
    some (.inr row0)

def laws_toIntS_L1 (v_a : (List Int)) (v_out_len : Nat) (v_i : Int) (row0 : (List Int)) : Option ((List Int)) := iter (fun w : Int × (List Int) => laws_toIntS_L1_body v_a v_out_len w.1 w.2) (v_i, row0)

theorem laws_toIntS_L1_body_ok (v_a : (List Int)) (v_out_len : Nat) (v_i : Int) (row0 : (List Int)) : Wp (laws_toIntS_L1_body v_a v_out_len v_i row0) (Sum.elim
    (fun w => VEx PP 22 0 (nodeAt (bodyOf PP 21) [1, 1, 0, 1, 0, 0]) .normal (laws_toIntS_L1_head v_a v_out_len v_i row0) (laws_toIntS_L1_head v_a v_out_len w.1 w.2))
    (fun r => VEx PP 22 0 (nodeAt (bodyOf PP 21) [1, 1, 0, 1, 0, 0]) (laws_toIntS_L1_ex r) (laws_toIntS_L1_head v_a v_out_len v_i row0) (laws_toIntS_L1_out v_a v_out_len r))) := by
  unfold laws_toIntS_L1_body
  exact .ite (fun h1 =>
      .grd fun h2 =>
       .bnd fun x3 h4 =>
       .grd fun h5 =>
       .grd fun h6 =>
       .ret ((okC_sound hmix (tape := [.reg [nt, nt, nt, nt], .br true, .reg [nt, nt, nt, nt, nt, (.el (eI x3), true), nt, (.bd, true)], .reg [nt, nt, nt], .rst [0] [.as [Ob.mk 1 ((row0.set (0 + v_i.toNat) x3).map eI) .live]] [(0, ii), (3, ii), (4, ii)]]) (nr := 1) (by kernel_rfl) (.cons h1 (.cons ((h2).1) (.cons (lt_mapI (h2).2 : v_i < ((v_a.map eI).length : Nat)) (.cons (map_get h4 : (v_a.map eI)[v_i.toNat]? = some (eI x3)) (.cons ((h5).1) (.cons ((h5).2) (.cons (lt_map h6 : (0 + v_i.toNat) < (row0.map eI).length) (.cons (rfl : 1 = 1) (.cons (row_prf (set_prf (rfl : (row0.map eI) = (row0.map eI)) (0 + v_i.toNat) x3) : [Ob.mk 1 ((row0.map eI).set (0 + v_i.toNat) [.n .i64 x3]) .live] = [Ob.mk 1 ((row0.set (0 + v_i.toNat) x3).map eI) .live]) (.cons (pure_row eI_pure (row0.set (0 + v_i.toNat) x3) : PureRow [Ob.mk 1 ((row0.set (0 + v_i.toNat) x3).map eI) .live]) .nil)))))))))) (mkS_free _ _) : VEx PP 22 0 (nodeAt (bodyOf PP 21) [1, 1, 0, 1, 0, 0]) .normal (laws_toIntS_L1_head v_a v_out_len v_i row0) (laws_toIntS_L1_head v_a v_out_len (w64 (v_i + (1 : Int))) (row0.set (0 + v_i.toNat) x3)))))
      (fun h1 =>
      .ret ((okC_sound hmix (tape := [.reg [nt, nt, nt, nt], .br false, .rst [0] [.pure] [(3, ii)]]) (nr := 1) (by kernel_rfl) (.cons h1 (.cons (pure_row eI_pure row0 : PureRow [Ob.mk 1 (row0.map eI) .live]) .nil)) (mkS_free _ _) : VEx PP 22 0 (nodeAt (bodyOf PP 21) [1, 1, 0, 1, 0, 0]) (.exit 0) (laws_toIntS_L1_head v_a v_out_len v_i row0) (laws_toIntS_L1_out v_a v_out_len row0))))

theorem laws_toIntS_L1_ok (v_a : (List Int)) (v_out_len : Nat) (v_i : Int) (row0 : (List Int)) : ∀ r, laws_toIntS_L1 v_a v_out_len v_i row0 = some r → VLoop PP 22 0 (nodeAt (bodyOf PP 21) [1, 1, 0, 1, 0, 0]) (laws_toIntS_L1_ex r) (laws_toIntS_L1_head v_a v_out_len v_i row0) (laws_toIntS_L1_out v_a v_out_len r) := fun r h =>
  iter_ok (head := fun w : Int × (List Int) => laws_toIntS_L1_head v_a v_out_len w.1 w.2) (ex := laws_toIntS_L1_ex) (out := laws_toIntS_L1_out v_a v_out_len) (by intro r; unfold laws_toIntS_L1_ex; split <;> simp) (fun w => laws_toIntS_L1_body_ok v_a v_out_len w.1 w.2) (v_i, row0) r h

def laws_toIntS (v_a : (List Int)) : Option (List Int) :=
  if 0 ≤ (len_ eI v_a) ∧ (8 : Int) * (len_ eI v_a) ≤ 281474976710656 ∧ (len_ eI v_a) < 9223372036854775808 then
  laws_toIntS_L1 v_a ((len_ eI v_a).toNat) 0 (List.replicate (len_ eI v_a).toNat 0) >>= fun r2 =>
  if 0 + (len_ eI v_a).toNat ≤ r2.length then
  some ((r2.drop 0).take ((len_ eI v_a).toNat))
  else none
  else none

theorem laws_toIntS_ok (v_a : (List Int)) : Wp (laws_toIntS v_a) (fun r => Con PP 21 [.isl 1 (v_a.map eI)] [] (.isl 1 (r.map eI)) []) := by
  unfold laws_toIntS
  exact .grd fun h1 =>
    .bnd fun r2 h3 =>
    .grd fun h4 =>
    .ret (runF_con0 hmix (tape := [.reg [nt], .reg [nt, nt, nt, nt], .reg [nt], .rst [3] [.as [Ob.mk 1 ((List.replicate (len_ eI v_a).toNat 0).map eI) .live]] [(0, ii), (3, ii), (4, ii)], .sub (.exit 0) [(3, .osl 0 0 0 ((len_ eI v_a).toNat))] [[Ob.mk 1 (r2.map eI) .live]], .reg [nt, nt]]) (rr := .c1 (.c0 (.sl (((r2.drop 0).take ((len_ eI v_a).toNat)).map eI)))) (by kernel_rfl) (.cons ((h1).1) (.cons (Int.le_refl (len_ eI v_a)) (.cons ((h1).2.1) (.cons ((h1).2.2) (.cons (row_prf (rep_prf eI (len_ eI v_a).toNat 0) : [Ob.mk 1 (List.replicate (len_ eI v_a).toNat [.n .i64 (0 : Int)]) .live] = [Ob.mk 1 ((List.replicate (len_ eI v_a).toNat 0).map eI) .live]) (.cons (pure_row eI_pure (List.replicate (len_ eI v_a).toNat 0) : PureRow [Ob.mk 1 ((List.replicate (len_ eI v_a).toNat 0).map eI) .live]) (.cons ((laws_toIntS_L1_ok v_a ((len_ eI v_a).toNat) 0 (List.replicate (len_ eI v_a).toNat 0) r2 h3).vex) (.cons (snap_prf (rfl : (r2.map eI) = (r2.map eI)) 0 ((len_ eI v_a).toNat)) (.cons (fit_prf (rfl : (r2.map eI) = (r2.map eI)) h4) (.cons (pure_map eI_pure ((r2.drop 0).take ((len_ eI v_a).toNat))) .nil)))))))))))

def spec_IsName_L1_head (v_s : ByteArray) (v_i : Int) : S := mkS [(0, .s v_s), (3, .n .i64 v_i)] []

def spec_IsName_L1_ex : ((Unit) ⊕ (Unit)) → Exit
  | .inl _ => .exit 0
  | .inr _ => .ret

def spec_IsName_L1_out (v_s : ByteArray) : ((Unit) ⊕ (Unit)) → S
  | .inl a => mkS [(0, .s v_s)] []
  | .inr a => mkS [(2, .b false)] []

def spec_IsName_L1_body (v_s : ByteArray) (v_i : Int) : Option ((Int) ⊕ ((Unit) ⊕ (Unit))) :=
  if (decide (v_i < (v_s.size : Int))) = true then
    if 0 ≤ v_i ∧ v_i < (v_s.size : Nat) then
    if (decide ((97 : Int) ≤ ((v_s.data.toList.getD v_i.toNat 0).toNat : Int))) = true then
      if (decide (((v_s.data.toList.getD v_i.toNat 0).toNat : Int) ≤ (122 : Int))) = true then
        some (.inl (w64 (v_i + (1 : Int))))
      else
        if (v_i == (0 : Int)) = true then
          some (.inr (.inr ()))
        else
          if (decide (((v_s.data.toList.getD v_i.toNat 0).toNat : Int) < (48 : Int))) = true then
            some (.inr (.inr ()))
          else
            if (decide ((57 : Int) < ((v_s.data.toList.getD v_i.toNat 0).toNat : Int))) = true then
              some (.inr (.inr ()))
            else
              some (.inl (w64 (v_i + (1 : Int))))
    else
      if (v_i == (0 : Int)) = true then
        some (.inr (.inr ()))
      else
        if (decide (((v_s.data.toList.getD v_i.toNat 0).toNat : Int) < (48 : Int))) = true then
          some (.inr (.inr ()))
        else
          if (decide ((57 : Int) < ((v_s.data.toList.getD v_i.toNat 0).toNat : Int))) = true then
            some (.inr (.inr ()))
          else
            some (.inl (w64 (v_i + (1 : Int))))
    else none
  else
    some (.inr (.inl ()))

def spec_IsName_L1 (v_s : ByteArray) (v_i : Int) : Option ((Unit) ⊕ (Unit)) := iter (fun w : Int => spec_IsName_L1_body v_s w) v_i

theorem spec_IsName_L1_body_ok (v_s : ByteArray) (v_i : Int) : Wp (spec_IsName_L1_body v_s v_i) (Sum.elim
    (fun w => VEx PP 42 0 (nodeAt (bodyOf PP 121) [1, 0, 1, 0, 0]) .normal (spec_IsName_L1_head v_s v_i) (spec_IsName_L1_head v_s w))
    (fun r => VEx PP 42 0 (nodeAt (bodyOf PP 121) [1, 0, 1, 0, 0]) (spec_IsName_L1_ex r) (spec_IsName_L1_head v_s v_i) (spec_IsName_L1_out v_s r))) := by
  unfold spec_IsName_L1_body
  exact .ite (fun h1 =>
      .grd fun h2 =>
       .ite (fun h3 =>
       .ite (fun h4 =>
        .ret ((okC_sound hmix (tape := [.reg [nt, nt, nt, nt], .br true, .reg [nt, nt, nt, nt, nt, nt, nt, nt, nt, (.br true, true), nt], .reg [nt, nt, nt, nf, nf, nf, nt, nt, nt, nt, nf, nf, nt, nt, nt, nt, nf, (.br false, true)], .br false, .reg [nt, nt, nt], .rst [] [] [(0, ii), (3, ii)]]) (nr := 0) (by kernel_rfl) (.cons h1 (.cons ((h2).1) (.cons ((h2).2) (.cons h3 (.cons h3 (.cons h3 (.cons ((h2).1) (.cons ((h2).2) (.cons h3 (.cons h3 (.cons (not_t h4) (.cons (not_t h4) (.cons (not_t h4) (.cons (not_t h4) (.cons (not_t h4) (.cons (not_t h4) (.cons (not_t h4) (.cons (rfl : false = false) .nil)))))))))))))))))) (mkS_free _ _) : VEx PP 42 0 (nodeAt (bodyOf PP 121) [1, 0, 1, 0, 0]) .normal (spec_IsName_L1_head v_s v_i) (spec_IsName_L1_head v_s (w64 (v_i + (1 : Int)))))))
        (fun h4 =>
        .ite (fun h5 =>
         .ret ((okC_sound hmix (tape := [.reg [nt, nt, nt, nt], .br true, .reg [nt, nt, nt, nt, nt, nt, nt, nt, nt, (.br true, true), nt], .reg [nt, nt, nt, nt, nt, nt, nf, nf, nf, nf, (.br true, true), nt, nf, nf, nf, nf, nt, (.br true, true)], .br true, .reg [nt], .rst [] [] [(2, ii)]]) (nr := 0) (by kernel_rfl) (.cons h1 (.cons ((h2).1) (.cons ((h2).2) (.cons h3 (.cons h3 (.cons h3 (.cons ((h2).1) (.cons ((h2).2) (.cons h3 (.cons h3 (.cons (not_f h4) (.cons (not_f h4) (.cons (not_f h4) (.cons h5 (.cons h5 (.cons h5 (.cons h5 (.cons (not_f h4) (.cons h5 (.cons (not_f h4) (.cons (rfl : true = true) (.cons (rfl : true = true) (.cons (rfl : true = true) (.cons (rfl : true = true) (.cons (not_f h4) (.cons (not_f h4) (.cons (rfl : true = true) .nil))))))))))))))))))))))))))) (mkS_free _ _) : VEx PP 42 0 (nodeAt (bodyOf PP 121) [1, 0, 1, 0, 0]) (.ret) (spec_IsName_L1_head v_s v_i) (spec_IsName_L1_out v_s (.inr ())))))
         (fun h5 =>
         .ite (fun h6 =>
          .ret ((okC_sound hmix (tape := [.reg [nt, nt, nt, nt], .br true, .reg [nt, nt, nt, nt, nt, nt, nt, nt, nt, (.br true, true), nt], .reg [nt, nt, nt, nt, nt, nt, nt, nt, nt, nt, (.br false, true), nt, nf, nf, nf, nf, (.br true, true), (.br true, true)], .br true, .reg [nt], .rst [] [] [(2, ii)]]) (nr := 0) (by kernel_rfl) (.cons h1 (.cons ((h2).1) (.cons ((h2).2) (.cons h3 (.cons h3 (.cons h3 (.cons ((h2).1) (.cons ((h2).2) (.cons h3 (.cons h3 (.cons (not_f h4) (.cons (not_f h4) (.cons (not_f h4) (.cons h5 (.cons h5 (.cons h5 (.cons ((h2).1) (.cons ((h2).2) (.cons h5 (.cons (not_f h4) (.cons h5 (.cons (not_f h4) (.cons h6 (.cons h6 (.cons h6 (.cons h6 (.cons (not_f h4) (.cons h6 (.cons (not_f h4) (.cons (rfl : true = true) .nil)))))))))))))))))))))))))))))) (mkS_free _ _) : VEx PP 42 0 (nodeAt (bodyOf PP 121) [1, 0, 1, 0, 0]) (.ret) (spec_IsName_L1_head v_s v_i) (spec_IsName_L1_out v_s (.inr ())))))
          (fun h6 =>
          .ite (fun h7 =>
           .ret ((okC_sound hmix (tape := [.reg [nt, nt, nt, nt], .br true, .reg [nt, nt, nt, nt, nt, nt, nt, nt, nt, (.br true, true), nt], .reg [nt, nt, nt, nt, nt, nt, nt, nt, nt, nt, (.br false, true), nt, nt, nt, nt, nt, (.br false, true), (.br true, true)], .br true, .reg [nt], .rst [] [] [(2, ii)]]) (nr := 0) (by kernel_rfl) (.cons h1 (.cons ((h2).1) (.cons ((h2).2) (.cons h3 (.cons h3 (.cons h3 (.cons ((h2).1) (.cons ((h2).2) (.cons h3 (.cons h3 (.cons (not_f h4) (.cons (not_f h4) (.cons (not_f h4) (.cons h5 (.cons h5 (.cons h5 (.cons ((h2).1) (.cons ((h2).2) (.cons h5 (.cons (not_f h4) (.cons h5 (.cons (not_f h4) (.cons h6 (.cons h6 (.cons h6 (.cons ((h2).1) (.cons ((h2).2) (.cons h6 (.cons (not_f h4) (.cons h6 (.cons (not_f h4) (.cons h7 .nil)))))))))))))))))))))))))))))))) (mkS_free _ _) : VEx PP 42 0 (nodeAt (bodyOf PP 121) [1, 0, 1, 0, 0]) (.ret) (spec_IsName_L1_head v_s v_i) (spec_IsName_L1_out v_s (.inr ())))))
           (fun h7 =>
           .ret ((okC_sound hmix (tape := [.reg [nt, nt, nt, nt], .br true, .reg [nt, nt, nt, nt, nt, nt, nt, nt, nt, (.br true, true), nt], .reg [nt, nt, nt, nt, nt, nt, nt, nt, nt, nt, (.br false, true), nt, nt, nt, nt, nt, (.br false, true), (.br true, true)], .br false, .reg [nt, nt, nt], .rst [] [] [(0, ii), (3, ii)]]) (nr := 0) (by kernel_rfl) (.cons h1 (.cons ((h2).1) (.cons ((h2).2) (.cons h3 (.cons h3 (.cons h3 (.cons ((h2).1) (.cons ((h2).2) (.cons h3 (.cons h3 (.cons (not_f h4) (.cons (not_f h4) (.cons (not_f h4) (.cons h5 (.cons h5 (.cons h5 (.cons ((h2).1) (.cons ((h2).2) (.cons h5 (.cons (not_f h4) (.cons h5 (.cons (not_f h4) (.cons h6 (.cons h6 (.cons h6 (.cons ((h2).1) (.cons ((h2).2) (.cons h6 (.cons (not_f h4) (.cons h6 (.cons (not_f h4) (.cons h7 .nil)))))))))))))))))))))))))))))))) (mkS_free _ _) : VEx PP 42 0 (nodeAt (bodyOf PP 121) [1, 0, 1, 0, 0]) .normal (spec_IsName_L1_head v_s v_i) (spec_IsName_L1_head v_s (w64 (v_i + (1 : Int)))))))))))
       (fun h3 =>
       .ite (fun h4 =>
        .ret ((okC_sound hmix (tape := [.reg [nt, nt, nt, nt], .br true, .reg [nt, nt, nt, nt, nt, nf, nf, nf, nf, (.br false, true), nt], .reg [nt, nt, nt, nt, nt, nt, nf, nf, nf, nf, (.br true, true), nt, nf, nf, nf, nf, nt, nt], .br true, .reg [nt], .rst [] [] [(2, ii)]]) (nr := 0) (by kernel_rfl) (.cons h1 (.cons ((h2).1) (.cons ((h2).2) (.cons h3 (.cons h3 (.cons h3 (.cons h3 (.cons h3 (.cons (rfl : true = true) (.cons (rfl : true = true) (.cons (rfl : true = true) (.cons h4 (.cons h4 (.cons h4 (.cons h4 (.cons (rfl : true = true) (.cons h4 (.cons (rfl : true = true) (.cons (rfl : true = true) (.cons (rfl : true = true) (.cons (rfl : true = true) (.cons (rfl : true = true) (.cons (rfl : true = true) (.cons (rfl : true = true) .nil)))))))))))))))))))))))) (mkS_free _ _) : VEx PP 42 0 (nodeAt (bodyOf PP 121) [1, 0, 1, 0, 0]) (.ret) (spec_IsName_L1_head v_s v_i) (spec_IsName_L1_out v_s (.inr ())))))
        (fun h4 =>
        .ite (fun h5 =>
         .ret ((okC_sound hmix (tape := [.reg [nt, nt, nt, nt], .br true, .reg [nt, nt, nt, nt, nt, nf, nf, nf, nf, (.br false, true), nt], .reg [nt, nt, nt, nt, nt, nt, nt, nt, nt, nt, (.br false, true), nt, nf, nf, nf, nf, (.br true, true), nt], .br true, .reg [nt], .rst [] [] [(2, ii)]]) (nr := 0) (by kernel_rfl) (.cons h1 (.cons ((h2).1) (.cons ((h2).2) (.cons h3 (.cons h3 (.cons h3 (.cons h3 (.cons h3 (.cons (rfl : true = true) (.cons (rfl : true = true) (.cons (rfl : true = true) (.cons h4 (.cons h4 (.cons h4 (.cons ((h2).1) (.cons ((h2).2) (.cons h4 (.cons (rfl : true = true) (.cons h4 (.cons (rfl : true = true) (.cons h5 (.cons h5 (.cons h5 (.cons h5 (.cons (rfl : true = true) (.cons h5 (.cons (rfl : true = true) .nil))))))))))))))))))))))))))) (mkS_free _ _) : VEx PP 42 0 (nodeAt (bodyOf PP 121) [1, 0, 1, 0, 0]) (.ret) (spec_IsName_L1_head v_s v_i) (spec_IsName_L1_out v_s (.inr ())))))
         (fun h5 =>
         .ite (fun h6 =>
          .ret ((okC_sound hmix (tape := [.reg [nt, nt, nt, nt], .br true, .reg [nt, nt, nt, nt, nt, nf, nf, nf, nf, (.br false, true), nt], .reg [nt, nt, nt, nt, nt, nt, nt, nt, nt, nt, (.br false, true), nt, nt, nt, nt, nt, (.br false, true), nt], .br true, .reg [nt], .rst [] [] [(2, ii)]]) (nr := 0) (by kernel_rfl) (.cons h1 (.cons ((h2).1) (.cons ((h2).2) (.cons h3 (.cons h3 (.cons h3 (.cons h3 (.cons h3 (.cons (rfl : true = true) (.cons (rfl : true = true) (.cons (rfl : true = true) (.cons h4 (.cons h4 (.cons h4 (.cons ((h2).1) (.cons ((h2).2) (.cons h4 (.cons (rfl : true = true) (.cons h4 (.cons (rfl : true = true) (.cons h5 (.cons h5 (.cons h5 (.cons ((h2).1) (.cons ((h2).2) (.cons h5 (.cons (rfl : true = true) (.cons h5 (.cons h6 .nil))))))))))))))))))))))))))))) (mkS_free _ _) : VEx PP 42 0 (nodeAt (bodyOf PP 121) [1, 0, 1, 0, 0]) (.ret) (spec_IsName_L1_head v_s v_i) (spec_IsName_L1_out v_s (.inr ())))))
          (fun h6 =>
          .ret ((okC_sound hmix (tape := [.reg [nt, nt, nt, nt], .br true, .reg [nt, nt, nt, nt, nt, nf, nf, nf, nf, (.br false, true), nt], .reg [nt, nt, nt, nt, nt, nt, nt, nt, nt, nt, (.br false, true), nt, nt, nt, nt, nt, (.br false, true), nt], .br false, .reg [nt, nt, nt], .rst [] [] [(0, ii), (3, ii)]]) (nr := 0) (by kernel_rfl) (.cons h1 (.cons ((h2).1) (.cons ((h2).2) (.cons h3 (.cons h3 (.cons h3 (.cons h3 (.cons h3 (.cons (rfl : true = true) (.cons (rfl : true = true) (.cons (rfl : true = true) (.cons h4 (.cons h4 (.cons h4 (.cons ((h2).1) (.cons ((h2).2) (.cons h4 (.cons (rfl : true = true) (.cons h4 (.cons (rfl : true = true) (.cons h5 (.cons h5 (.cons h5 (.cons ((h2).1) (.cons ((h2).2) (.cons h5 (.cons (rfl : true = true) (.cons h5 (.cons h6 .nil))))))))))))))))))))))))))))) (mkS_free _ _) : VEx PP 42 0 (nodeAt (bodyOf PP 121) [1, 0, 1, 0, 0]) .normal (spec_IsName_L1_head v_s v_i) (spec_IsName_L1_head v_s (w64 (v_i + (1 : Int)))))))))))
      (fun h1 =>
      .ret ((okC_sound hmix (tape := [.reg [nt, nt, nt, nt], .br false, .rst [] [] [(0, ii)]]) (nr := 0) (by kernel_rfl) (.cons h1 .nil) (mkS_free _ _) : VEx PP 42 0 (nodeAt (bodyOf PP 121) [1, 0, 1, 0, 0]) (.exit 0) (spec_IsName_L1_head v_s v_i) (spec_IsName_L1_out v_s (.inl ())))))

theorem spec_IsName_L1_ok (v_s : ByteArray) (v_i : Int) : ∀ r, spec_IsName_L1 v_s v_i = some r → VLoop PP 42 0 (nodeAt (bodyOf PP 121) [1, 0, 1, 0, 0]) (spec_IsName_L1_ex r) (spec_IsName_L1_head v_s v_i) (spec_IsName_L1_out v_s r) := fun r h =>
  iter_ok (head := fun w : Int => spec_IsName_L1_head v_s w) (ex := spec_IsName_L1_ex) (out := spec_IsName_L1_out v_s) (by intro r; unfold spec_IsName_L1_ex; split <;> simp) (fun w => spec_IsName_L1_body_ok v_s w) v_i r h

def spec_IsName (v_s : ByteArray) : Option Bool :=
  spec_IsName_L1 v_s 0 >>= fun r1 =>
  match r1 with
  | .inl a3 => (spec_l01In (v_s.size : Int) 1 8 >>= fun r4 =>
    some r4)
  | .inr a3 => (some false)

theorem spec_IsName_ok (v_s : ByteArray) : Wp (spec_IsName v_s) (fun r => Con PP 121 [.s v_s] [] (.b r) []) := by
  unfold spec_IsName
  exact .bnd fun r1 h2 =>
    match r1, h2 with
    | .inl a3, h2 => (.bnd fun r4 h5 =>
     .ret (runF_con0 hmix (tape := [.reg [nt], .reg [nt], .rst [] [] [(0, ii), (3, ii)], .sub (.exit 0) [(0, .s v_s)] [], .reg [nt, nt, (.call { ac := [ii, ii, ii], r := .b r4, sc := true }, true), nt]]) (rr := ii) (by kernel_rfl) (.cons ((spec_IsName_L1_ok v_s 0 (.inl a3) h2).vex) (.cons (spec_l01In_ok (v_s.size : Int) 1 8 r4 h5) (.cons (Sc.b _ : Sc (.b r4)) .nil)))))
    | .inr a3, h2 => (.ret (runF_con0 hmix (tape := [.reg [nt], .reg [nt], .rst [] [] [(0, ii), (3, ii)], .sub (.ret) [(2, .b false)] []]) (rr := ii) (by kernel_rfl) (.cons ((spec_IsName_L1_ok v_s 0 (.inr a3) h2).vex) .nil)))

def spec_JointOk (v_j : TJoint) : Option Bool :=
  spec_IsName v_j.fName >>= fun r1 =>
  if r1 = true then
    spec_l01In v_j.fX (-50) 50 >>= fun r4 =>
    if r4 = true then
      spec_l01In v_j.fY (-50) 50 >>= fun r7 =>
      some r7
    else
      some false
  else
    some false

theorem spec_JointOk_ok (v_j : TJoint) : Wp (spec_JointOk v_j) (fun r => Con PP 93 [.agg [.s v_j.fName, .n .i64 v_j.fX, .n .i64 v_j.fY, .b v_j.fFixed]] [] (.b r) []) := by
  unfold spec_JointOk
  exact .bnd fun r1 h2 =>
    .ite (fun h3 =>
    .bnd fun r4 h5 =>
     .ite (fun h6 =>
     .bnd fun r7 h8 =>
      .ret (runF_con0 hmix (tape := [.reg [nt, nt], .reg [nt, nt, (.call { ac := [ii], r := .b r1, sc := true }, true), nt, nt, nt, (.call { ac := [ii, ii, ii], r := .b r4, sc := true }, true), (.br true, true), nt, nt, nt, (.call { ac := [ii, ii, ii], r := .b r7, sc := true }, true), (.br true, true), nt]]) (rr := ii) (by kernel_rfl) (.cons (spec_IsName_ok v_j.fName r1 h2) (.cons (Sc.b _ : Sc (.b r1)) (.cons h3 (.cons h3 (.cons h3 (.cons (spec_l01In_ok v_j.fX (-50) 50 r4 h5) (.cons (Sc.b _ : Sc (.b r4)) (.cons h3 (.cons h6 (.cons h6 (.cons h6 (.cons (spec_l01In_ok v_j.fY (-50) 50 r7 h8) (.cons (Sc.b _ : Sc (.b r7)) (.cons h6 .nil))))))))))))))))
     (fun h6 =>
     .ret (runF_con0 hmix (tape := [.reg [nt, nt], .reg [nt, nt, (.call { ac := [ii], r := .b r1, sc := true }, true), nt, nt, nt, (.call { ac := [ii, ii, ii], r := .b r4, sc := true }, true), (.br true, true), nt, nf, nf, nf, (.br false, true), nt]]) (rr := ii) (by kernel_rfl) (.cons (spec_IsName_ok v_j.fName r1 h2) (.cons (Sc.b _ : Sc (.b r1)) (.cons h3 (.cons h3 (.cons h3 (.cons (spec_l01In_ok v_j.fX (-50) 50 r4 h5) (.cons (Sc.b _ : Sc (.b r4)) (.cons h3 (.cons h6 (.cons h6 (.cons h6 (.cons h6 .nil)))))))))))))))
    (fun h3 =>
    .ret (runF_con0 hmix (tape := [.reg [nt, nt], .reg [nt, nt, (.call { ac := [ii], r := .b r1, sc := true }, true), nt, nf, nf, nf, (.br false, true), nt, nf, nf, nf, nt, nt]]) (rr := ii) (by kernel_rfl) (.cons (spec_IsName_ok v_j.fName r1 h2) (.cons (Sc.b _ : Sc (.b r1)) (.cons h3 (.cons h3 (.cons h3 (.cons h3 (.cons (rfl : false = false) (.cons (rfl : false = false) (.cons (rfl : false = false) .nil)))))))))))

def spec_JointNamed_L1_head (v_name : ByteArray) (v_t8 : (List TJoint)) (v_t9 : Int) (v_t10 : Int) : S := mkS [(1, .s v_name), (8, .isl 4 (v_t8.map eTJoint)), (9, .n .i64 v_t9), (10, .n .i64 v_t10)] []

def spec_JointNamed_L1_ex : ((Unit) ⊕ (Int)) → Exit
  | .inl _ => .exit 0
  | .inr _ => .ret

def spec_JointNamed_L1_out (v_name : ByteArray) (v_t8 : (List TJoint)) (v_t9 : Int) : ((Unit) ⊕ (Int)) → S
  | .inl a => mkS [] []
  | .inr a => mkS [(4, .n .i64 a)] []

def spec_JointNamed_L1_body (v_name : ByteArray) (v_t8 : (List TJoint)) (v_t9 : Int) (v_t10 : Int) : Option ((Int) ⊕ ((Unit) ⊕ (Int))) :=
  if (decide (v_t10 < v_t9)) = true then
    if 0 ≤ v_t10 ∧ v_t10 < v_t8.length then
    v_t8[v_t10.toNat]? >>= fun x3 =>
    if (x3.fName.toList == v_name.toList) = true then
      some (.inr (.inr v_t10))
    else
      some (.inl (w64 (v_t10 + (1 : Int))))
    else none
  else
    some (.inr (.inl ()))

def spec_JointNamed_L1 (v_name : ByteArray) (v_t8 : (List TJoint)) (v_t9 : Int) (v_t10 : Int) : Option ((Unit) ⊕ (Int)) := iter (fun w : Int => spec_JointNamed_L1_body v_name v_t8 v_t9 w) v_t10

theorem spec_JointNamed_L1_body_ok (v_name : ByteArray) (v_t8 : (List TJoint)) (v_t9 : Int) (v_t10 : Int) : Wp (spec_JointNamed_L1_body v_name v_t8 v_t9 v_t10) (Sum.elim
    (fun w => VEx PP 21 0 (nodeAt (bodyOf PP 94) [1, 0, 1, 0, 0]) .normal (spec_JointNamed_L1_head v_name v_t8 v_t9 v_t10) (spec_JointNamed_L1_head v_name v_t8 v_t9 w))
    (fun r => VEx PP 21 0 (nodeAt (bodyOf PP 94) [1, 0, 1, 0, 0]) (spec_JointNamed_L1_ex r) (spec_JointNamed_L1_head v_name v_t8 v_t9 v_t10) (spec_JointNamed_L1_out v_name v_t8 v_t9 r))) := by
  unfold spec_JointNamed_L1_body
  exact .ite (fun h1 =>
      .grd fun h2 =>
       .bnd fun x3 h4 =>
       .ite (fun h5 =>
       .ret ((okC_sound hmix (tape := [.reg [nt], .br true, .reg [nt, nt, (.el (eTJoint x3), true), nt, nt, nt], .reg [nt, nt, nt, nt], .br true, .reg [nt, nt], .rst [] [] [(4, ii)]]) (nr := 0) (by kernel_rfl) (.cons h1 (.cons ((h2).1) (.cons (lt_mapI (h2).2 : v_t10 < ((v_t8.map eTJoint).length : Nat)) (.cons (map_get h4 : (v_t8.map eTJoint)[v_t10.toNat]? = some (eTJoint x3)) (.cons h5 .nil))))) (mkS_free _ _) : VEx PP 21 0 (nodeAt (bodyOf PP 94) [1, 0, 1, 0, 0]) (.ret) (spec_JointNamed_L1_head v_name v_t8 v_t9 v_t10) (spec_JointNamed_L1_out v_name v_t8 v_t9 (.inr v_t10)))))
       (fun h5 =>
       .ret ((okC_sound hmix (tape := [.reg [nt], .br true, .reg [nt, nt, (.el (eTJoint x3), true), nt, nt, nt], .reg [nt, nt, nt, nt], .br false, .reg [nt, nt], .rst [] [] [(1, ii), (8, ii), (9, ii), (10, ii)]]) (nr := 0) (by kernel_rfl) (.cons h1 (.cons ((h2).1) (.cons (lt_mapI (h2).2 : v_t10 < ((v_t8.map eTJoint).length : Nat)) (.cons (map_get h4 : (v_t8.map eTJoint)[v_t10.toNat]? = some (eTJoint x3)) (.cons h5 .nil))))) (mkS_free _ _) : VEx PP 21 0 (nodeAt (bodyOf PP 94) [1, 0, 1, 0, 0]) .normal (spec_JointNamed_L1_head v_name v_t8 v_t9 v_t10) (spec_JointNamed_L1_head v_name v_t8 v_t9 (w64 (v_t10 + (1 : Int))))))))
      (fun h1 =>
      .ret ((okC_sound hmix (tape := [.reg [nt], .br false, .rst [] [] []]) (nr := 0) (by kernel_rfl) (.cons h1 .nil) (mkS_free _ _) : VEx PP 21 0 (nodeAt (bodyOf PP 94) [1, 0, 1, 0, 0]) (.exit 0) (spec_JointNamed_L1_head v_name v_t8 v_t9 v_t10) (spec_JointNamed_L1_out v_name v_t8 v_t9 (.inl ())))))

theorem spec_JointNamed_L1_ok (v_name : ByteArray) (v_t8 : (List TJoint)) (v_t9 : Int) (v_t10 : Int) : ∀ r, spec_JointNamed_L1 v_name v_t8 v_t9 v_t10 = some r → VLoop PP 21 0 (nodeAt (bodyOf PP 94) [1, 0, 1, 0, 0]) (spec_JointNamed_L1_ex r) (spec_JointNamed_L1_head v_name v_t8 v_t9 v_t10) (spec_JointNamed_L1_out v_name v_t8 v_t9 r) := fun r h =>
  iter_ok (head := fun w : Int => spec_JointNamed_L1_head v_name v_t8 v_t9 w) (ex := spec_JointNamed_L1_ex) (out := spec_JointNamed_L1_out v_name v_t8 v_t9) (by intro r; unfold spec_JointNamed_L1_ex; split <;> simp) (fun w => spec_JointNamed_L1_body_ok v_name v_t8 v_t9 w) v_t10 r h

def spec_JointNamed (v_s : TStructure) (v_name : ByteArray) : Option Int :=
  spec_JointNamed_L1 v_name v_s.fJoints (len_ eTJoint v_s.fJoints) 0 >>= fun r1 =>
  match r1 with
  | .inl a3 => (some (-1))
  | .inr a3 => (some a3)

theorem spec_JointNamed_ok (v_s : TStructure) (v_name : ByteArray) : Wp (spec_JointNamed v_s v_name) (fun r => Con PP 94 [.agg [.isl 4 (v_s.fJoints.map eTJoint), .isl 3 (v_s.fMembers.map eTMember)], .s v_name] [] (.n .i64 r) []) := by
  unfold spec_JointNamed
  exact .bnd fun r1 h2 =>
    match r1, h2 with
    | .inl a3, h2 => (.ret (runF_con0 hmix (tape := [.reg [nt, nt], .reg [nt, nt, nt, nt], .rst [] [] [(1, ii), (8, ii), (9, ii), (10, ii)], .sub (.exit 0) [] [], .reg [nt]]) (rr := ii) (by kernel_rfl) (.cons ((spec_JointNamed_L1_ok v_name v_s.fJoints (len_ eTJoint v_s.fJoints) 0 (.inl a3) h2).vex) .nil)))
    | .inr a3, h2 => (.ret (runF_con0 hmix (tape := [.reg [nt, nt], .reg [nt, nt, nt, nt], .rst [] [] [(1, ii), (8, ii), (9, ii), (10, ii)], .sub (.ret) [(4, .n .i64 a3)] []]) (rr := ii) (by kernel_rfl) (.cons ((spec_JointNamed_L1_ok v_name v_s.fJoints (len_ eTJoint v_s.fJoints) 0 (.inr a3) h2).vex) .nil)))

def spec_StructureOk_L1_head (v_t21 : (List TJoint)) (v_t22 : Int) (box0_' : (List TMember)) (v_t23 : Int) : S := mkS [(1, .ref 0 0 0 0), (21, .isl 4 (v_t21.map eTJoint)), (22, .n .i64 v_t22), (23, .n .i64 v_t23)] [[Ob.mk 2 [[.isl 4 (v_t21.map eTJoint), .isl 3 (box0_'.map eTMember)]] .live]]

def spec_StructureOk_L1_ex : ((Unit) ⊕ (Unit)) → Exit
  | .inl _ => .exit 0
  | .inr _ => .ret

def spec_StructureOk_L1_out (v_t21 : (List TJoint)) (v_t22 : Int) (box0_' : (List TMember)) : ((Unit) ⊕ (Unit)) → S
  | .inl a => mkS [(1, .ref 0 0 0 0)] [[Ob.mk 2 [[.isl 4 (v_t21.map eTJoint), .isl 3 (box0_'.map eTMember)]] .live]]
  | .inr a => mkS [(2, .b false)] []

def spec_StructureOk_L1_body (v_t21 : (List TJoint)) (v_t22 : Int) (box0_' : (List TMember)) (v_t23 : Int) : Option ((Int) ⊕ ((Unit) ⊕ (Unit))) :=
  if (decide (v_t23 < v_t22)) = true then
    if 0 ≤ v_t23 ∧ v_t23 < v_t21.length then
    v_t21[v_t23.toNat]? >>= fun x3 =>
    spec_JointOk x3 >>= fun r5 =>
    if r5 = true then
      spec_JointNamed (⟨v_t21, box0_'⟩ : TStructure) x3.fName >>= fun r8 =>
      if (r8 != v_t23) = true then
        some (.inr (.inr ()))
      else
        some (.inl (w64 (v_t23 + (1 : Int))))
    else
      some (.inr (.inr ()))
    else none
  else
    some (.inr (.inl ()))

def spec_StructureOk_L1 (v_t21 : (List TJoint)) (v_t22 : Int) (box0_' : (List TMember)) (v_t23 : Int) : Option ((Unit) ⊕ (Unit)) := iter (fun w : Int => spec_StructureOk_L1_body v_t21 v_t22 box0_' w) v_t23

theorem spec_StructureOk_L1_body_ok (v_t21 : (List TJoint)) (v_t22 : Int) (box0_' : (List TMember)) (v_t23 : Int) : Wp (spec_StructureOk_L1_body v_t21 v_t22 box0_' v_t23) (Sum.elim
    (fun w => VEx PP 102 0 (nodeAt (bodyOf PP 63) [1, 1, 0, 1, 0, 0]) .normal (spec_StructureOk_L1_head v_t21 v_t22 box0_' v_t23) (spec_StructureOk_L1_head v_t21 v_t22 box0_' w))
    (fun r => VEx PP 102 0 (nodeAt (bodyOf PP 63) [1, 1, 0, 1, 0, 0]) (spec_StructureOk_L1_ex r) (spec_StructureOk_L1_head v_t21 v_t22 box0_' v_t23) (spec_StructureOk_L1_out v_t21 v_t22 box0_' r))) := by
  unfold spec_StructureOk_L1_body
  exact .ite (fun h1 =>
      .grd fun h2 =>
       .bnd fun x3 h4 =>
       .bnd fun r5 h6 =>
       .ite (fun h7 =>
       .bnd fun r8 h9 =>
        .ite (fun h10 =>
        .ret ((okC_sound hmix (tape := [.reg [nt], .br true, .reg [nt, nt, (.el (eTJoint x3), true), nt, nt, nt], .reg [nt, (.call { ac := [ii], r := .b r5, sc := true }, true), nt, nt, nt, nt, nt, (.call { ac := [ii, ii], r := .n .i64 r8, sc := true }, true), nt, nt, (.br false, true)], .br true, .reg [nt], .rst [] [] [(2, ii)]]) (nr := 1) (by kernel_rfl) (.cons h1 (.cons ((h2).1) (.cons (lt_mapI (h2).2 : v_t23 < ((v_t21.map eTJoint).length : Nat)) (.cons (map_get h4 : (v_t21.map eTJoint)[v_t23.toNat]? = some (eTJoint x3)) (.cons (spec_JointOk_ok x3 r5 h6) (.cons (Sc.b _ : Sc (.b r5)) (.cons (not_t h7) (.cons (not_t h7) (.cons (not_t h7) (.cons (not_t h7) (.cons (spec_JointNamed_ok (⟨v_t21, box0_'⟩ : TStructure) x3.fName r8 h9) (.cons (Sc.n _ _ : Sc (.n .i64 r8)) (.cons (not_t h7) (.cons (not_t h7) (.cons (not_t h7) (.cons h10 .nil)))))))))))))))) (mkS_free _ _) : VEx PP 102 0 (nodeAt (bodyOf PP 63) [1, 1, 0, 1, 0, 0]) (.ret) (spec_StructureOk_L1_head v_t21 v_t22 box0_' v_t23) (spec_StructureOk_L1_out v_t21 v_t22 box0_' (.inr ())))))
        (fun h10 =>
        .ret ((okC_sound hmix (tape := [.reg [nt], .br true, .reg [nt, nt, (.el (eTJoint x3), true), nt, nt, nt], .reg [nt, (.call { ac := [ii], r := .b r5, sc := true }, true), nt, nt, nt, nt, nt, (.call { ac := [ii, ii], r := .n .i64 r8, sc := true }, true), nt, nt, (.br false, true)], .br false, .reg [nt, nt], .rst [0] [.box [.id, .id]] [(1, ii), (21, ii), (22, ii), (23, ii)]]) (nr := 1) (by kernel_rfl) (.cons h1 (.cons ((h2).1) (.cons (lt_mapI (h2).2 : v_t23 < ((v_t21.map eTJoint).length : Nat)) (.cons (map_get h4 : (v_t21.map eTJoint)[v_t23.toNat]? = some (eTJoint x3)) (.cons (spec_JointOk_ok x3 r5 h6) (.cons (Sc.b _ : Sc (.b r5)) (.cons (not_t h7) (.cons (not_t h7) (.cons (not_t h7) (.cons (not_t h7) (.cons (spec_JointNamed_ok (⟨v_t21, box0_'⟩ : TStructure) x3.fName r8 h9) (.cons (Sc.n _ _ : Sc (.n .i64 r8)) (.cons (not_t h7) (.cons (not_t h7) (.cons (not_t h7) (.cons h10 .nil)))))))))))))))) (mkS_free _ _) : VEx PP 102 0 (nodeAt (bodyOf PP 63) [1, 1, 0, 1, 0, 0]) .normal (spec_StructureOk_L1_head v_t21 v_t22 box0_' v_t23) (spec_StructureOk_L1_head v_t21 v_t22 box0_' (w64 (v_t23 + (1 : Int))))))))
       (fun h7 =>
       .ret ((okC_sound hmix (tape := [.reg [nt], .br true, .reg [nt, nt, (.el (eTJoint x3), true), nt, nt, nt], .reg [nt, (.call { ac := [ii], r := .b r5, sc := true }, true), nt, nt, nf, nf, nf, nf, nf, nf, (.br true, true)], .br true, .reg [nt], .rst [] [] [(2, ii)]]) (nr := 1) (by kernel_rfl) (.cons h1 (.cons ((h2).1) (.cons (lt_mapI (h2).2 : v_t23 < ((v_t21.map eTJoint).length : Nat)) (.cons (map_get h4 : (v_t21.map eTJoint)[v_t23.toNat]? = some (eTJoint x3)) (.cons (spec_JointOk_ok x3 r5 h6) (.cons (Sc.b _ : Sc (.b r5)) (.cons (not_f h7) (.cons (not_f h7) (.cons (not_f h7) (.cons (not_f h7) (.cons (not_f h7) (.cons (not_f h7) (.cons (not_f h7) (.cons (rfl : true = true) .nil)))))))))))))) (mkS_free _ _) : VEx PP 102 0 (nodeAt (bodyOf PP 63) [1, 1, 0, 1, 0, 0]) (.ret) (spec_StructureOk_L1_head v_t21 v_t22 box0_' v_t23) (spec_StructureOk_L1_out v_t21 v_t22 box0_' (.inr ()))))))
      (fun h1 =>
      .ret ((okC_sound hmix (tape := [.reg [nt], .br false, .rst [0] [.box [.id, .id]] [(1, ii)]]) (nr := 1) (by kernel_rfl) (.cons h1 .nil) (mkS_free _ _) : VEx PP 102 0 (nodeAt (bodyOf PP 63) [1, 1, 0, 1, 0, 0]) (.exit 0) (spec_StructureOk_L1_head v_t21 v_t22 box0_' v_t23) (spec_StructureOk_L1_out v_t21 v_t22 box0_' (.inl ())))))

theorem spec_StructureOk_L1_ok (v_t21 : (List TJoint)) (v_t22 : Int) (box0_' : (List TMember)) (v_t23 : Int) : ∀ r, spec_StructureOk_L1 v_t21 v_t22 box0_' v_t23 = some r → VLoop PP 102 0 (nodeAt (bodyOf PP 63) [1, 1, 0, 1, 0, 0]) (spec_StructureOk_L1_ex r) (spec_StructureOk_L1_head v_t21 v_t22 box0_' v_t23) (spec_StructureOk_L1_out v_t21 v_t22 box0_' r) := fun r h =>
  iter_ok (head := fun w : Int => spec_StructureOk_L1_head v_t21 v_t22 box0_' w) (ex := spec_StructureOk_L1_ex) (out := spec_StructureOk_L1_out v_t21 v_t22 box0_') (by intro r; unfold spec_StructureOk_L1_ex; split <;> simp) (fun w => spec_StructureOk_L1_body_ok v_t21 v_t22 box0_' w) v_t23 r h

def spec_StructureOk_L2_head (v_last : Int) (v_t45 : (List TMember)) (v_t46 : Int) (box0_ : (List TJoint)) (v_t47 : Int) : S := mkS [(1, .ref 0 0 0 0), (5, .n .i64 v_last), (45, .isl 3 (v_t45.map eTMember)), (46, .n .i64 v_t46), (47, .n .i64 v_t47)] [[Ob.mk 2 [[.isl 4 (box0_.map eTJoint), .isl 3 (v_t45.map eTMember)]] .live]]

def spec_StructureOk_L2_ex : ((Unit) ⊕ (Unit)) → Exit
  | .inl _ => .exit 2
  | .inr _ => .ret

def spec_StructureOk_L2_out (v_last : Int) (v_t45 : (List TMember)) (v_t46 : Int) (box0_ : (List TJoint)) : ((Unit) ⊕ (Unit)) → S
  | .inl a => mkS [] []
  | .inr a => mkS [(2, .b false)] []

def spec_StructureOk_L2_body (v_last : Int) (v_t45 : (List TMember)) (v_t46 : Int) (box0_ : (List TJoint)) (v_t47 : Int) : Option ((Int) ⊕ ((Unit) ⊕ (Unit))) :=
  if (decide (v_t47 < v_t46)) = true then
    if 0 ≤ v_t47 ∧ v_t47 < v_t45.length then
    v_t45[v_t47.toNat]? >>= fun x3 =>
    spec_l01In x3.fA 0 v_last >>= fun r5 =>
    if r5 = true then
      spec_l01In x3.fB 0 v_last >>= fun r8 =>
      if r8 = true then
        spec_l01In x3.fKind 1 3 >>= fun r11 =>
        if r11 = true then
          if 0 ≤ x3.fA ∧ x3.fA < box0_.length then
          box0_[x3.fA.toNat]? >>= fun x15 =>
          if 0 ≤ x3.fB ∧ x3.fB < box0_.length then
          box0_[x3.fB.toNat]? >>= fun x18 =>
          if (x15.fX == x18.fX) = true then
            if (x15.fY == x18.fY) = true then
              some (.inr (.inr ()))
            else
              if x15.fFixed = true then
                if x18.fFixed = true then
                  some (.inr (.inr ()))
                else
                  some (.inl (w64 (v_t47 + (1 : Int))))
              else
                some (.inl (w64 (v_t47 + (1 : Int))))
          else
            if x15.fFixed = true then
              if x18.fFixed = true then
                some (.inr (.inr ()))
              else
                some (.inl (w64 (v_t47 + (1 : Int))))
            else
              some (.inl (w64 (v_t47 + (1 : Int))))
          else none
          else none
        else
          some (.inr (.inr ()))
      else
        some (.inr (.inr ()))
    else
      some (.inr (.inr ()))
    else none
  else
    some (.inr (.inl ()))

def spec_StructureOk_L2 (v_last : Int) (v_t45 : (List TMember)) (v_t46 : Int) (box0_ : (List TJoint)) (v_t47 : Int) : Option ((Unit) ⊕ (Unit)) := iter (fun w : Int => spec_StructureOk_L2_body v_last v_t45 v_t46 box0_ w) v_t47

theorem spec_StructureOk_L2_body_ok (v_last : Int) (v_t45 : (List TMember)) (v_t46 : Int) (box0_ : (List TJoint)) (v_t47 : Int) : Wp (spec_StructureOk_L2_body v_last v_t45 v_t46 box0_ v_t47) (Sum.elim
    (fun w => VEx PP 102 0 (nodeAt (bodyOf PP 63) [1, 1, 1, 1, 0, 1, 0, 0]) .normal (spec_StructureOk_L2_head v_last v_t45 v_t46 box0_ v_t47) (spec_StructureOk_L2_head v_last v_t45 v_t46 box0_ w))
    (fun r => VEx PP 102 0 (nodeAt (bodyOf PP 63) [1, 1, 1, 1, 0, 1, 0, 0]) (spec_StructureOk_L2_ex r) (spec_StructureOk_L2_head v_last v_t45 v_t46 box0_ v_t47) (spec_StructureOk_L2_out v_last v_t45 v_t46 box0_ r))) := by
  unfold spec_StructureOk_L2_body
  exact .ite (fun h1 =>
      .grd fun h2 =>
       .bnd fun x3 h4 =>
       .bnd fun r5 h6 =>
       .ite (fun h7 =>
       .bnd fun r8 h9 =>
        .ite (fun h10 =>
        .bnd fun r11 h12 =>
         .ite (fun h13 =>
         .grd fun h14 =>
          .bnd fun x15 h16 =>
          .grd fun h17 =>
          .bnd fun x18 h19 =>
          .ite (fun h20 =>
          .ite (fun h21 =>
           .ret ((okC_sound hmix (tape := [.reg [nt], .br true, .reg [nt, (.el (eTMember x3), true), nt, nt], .reg [nt, nt, nt, (.call { ac := [ii, ii, ii], r := .b r5, sc := true }, true), nt, nt, nt, nt, nt, (.call { ac := [ii, ii, ii], r := .b r8, sc := true }, true), nt, (.br false, true), nt, nt, nt, (.call { ac := [ii, ii, ii], r := .b r11, sc := true }, true), nt, (.br false, true)], .br false, .reg [nt, nt, nt, nt, nt, (.el (eTJoint x15), true), nt, nt], .reg [nt, nt, nt, nt, nt, (.el (eTJoint x18), true), nt, nt], .reg [nt, nt, nt, nt, nt, nt, nt, nt, nt, nt, nt, (.br true, true), nt, nf, nf, nf, nt, nt, nf, (.br true, true)], .br true, .reg [nt], .rst [] [] [(2, ii)]]) (nr := 1) (by kernel_rfl) (.cons h1 (.cons ((h2).1) (.cons (lt_mapI (h2).2 : v_t47 < ((v_t45.map eTMember).length : Nat)) (.cons (map_get h4 : (v_t45.map eTMember)[v_t47.toNat]? = some (eTMember x3)) (.cons (spec_l01In_ok x3.fA 0 v_last r5 h6) (.cons (Sc.b _ : Sc (.b r5)) (.cons (not_t h7) (.cons (not_t h7) (.cons (not_t h7) (.cons (not_t h7) (.cons (spec_l01In_ok x3.fB 0 v_last r8 h9) (.cons (Sc.b _ : Sc (.b r8)) (.cons (not_t h7) (.cons (not_t h7) (.cons (not_t h10) (.cons (not_t h10) (.cons (not_t h10) (.cons (spec_l01In_ok x3.fKind 1 3 r11 h12) (.cons (Sc.b _ : Sc (.b r11)) (.cons (not_t h10) (.cons (not_t h10) (.cons (not_t h13) (.cons ((h14).1) (.cons (lt_mapI (h14).2 : x3.fA < ((box0_.map eTJoint).length : Nat)) (.cons (map_get h16 : (box0_.map eTJoint)[x3.fA.toNat]? = some (eTJoint x15)) (.cons ((h17).1) (.cons (lt_mapI (h17).2 : x3.fB < ((box0_.map eTJoint).length : Nat)) (.cons (map_get h19 : (box0_.map eTJoint)[x3.fB.toNat]? = some (eTJoint x18)) (.cons h20 (.cons h20 (.cons h20 (.cons h20 (.cons h20 (.cons h20 (.cons h21 (.cons h21 (.cons h21 (.cons h21 (.cons h21 (.cons (rfl : true = true) .nil)))))))))))))))))))))))))))))))))))))))) (mkS_free _ _) : VEx PP 102 0 (nodeAt (bodyOf PP 63) [1, 1, 1, 1, 0, 1, 0, 0]) (.ret) (spec_StructureOk_L2_head v_last v_t45 v_t46 box0_ v_t47) (spec_StructureOk_L2_out v_last v_t45 v_t46 box0_ (.inr ())))))
           (fun h21 =>
           .ite (fun h22 =>
            .ite (fun h23 =>
             .ret ((okC_sound hmix (tape := [.reg [nt], .br true, .reg [nt, (.el (eTMember x3), true), nt, nt], .reg [nt, nt, nt, (.call { ac := [ii, ii, ii], r := .b r5, sc := true }, true), nt, nt, nt, nt, nt, (.call { ac := [ii, ii, ii], r := .b r8, sc := true }, true), nt, (.br false, true), nt, nt, nt, (.call { ac := [ii, ii, ii], r := .b r11, sc := true }, true), nt, (.br false, true)], .br false, .reg [nt, nt, nt, nt, nt, (.el (eTJoint x15), true), nt, nt], .reg [nt, nt, nt, nt, nt, (.el (eTJoint x18), true), nt, nt], .reg [nt, nt, nt, nt, nt, nt, nt, nt, nt, nt, nt, (.br true, true), nt, nt, nt, nt, nt, nt, (.br true, true), (.br false, true)], .br true, .reg [nt], .rst [] [] [(2, ii)]]) (nr := 1) (by kernel_rfl) (.cons h1 (.cons ((h2).1) (.cons (lt_mapI (h2).2 : v_t47 < ((v_t45.map eTMember).length : Nat)) (.cons (map_get h4 : (v_t45.map eTMember)[v_t47.toNat]? = some (eTMember x3)) (.cons (spec_l01In_ok x3.fA 0 v_last r5 h6) (.cons (Sc.b _ : Sc (.b r5)) (.cons (not_t h7) (.cons (not_t h7) (.cons (not_t h7) (.cons (not_t h7) (.cons (spec_l01In_ok x3.fB 0 v_last r8 h9) (.cons (Sc.b _ : Sc (.b r8)) (.cons (not_t h7) (.cons (not_t h7) (.cons (not_t h10) (.cons (not_t h10) (.cons (not_t h10) (.cons (spec_l01In_ok x3.fKind 1 3 r11 h12) (.cons (Sc.b _ : Sc (.b r11)) (.cons (not_t h10) (.cons (not_t h10) (.cons (not_t h13) (.cons ((h14).1) (.cons (lt_mapI (h14).2 : x3.fA < ((box0_.map eTJoint).length : Nat)) (.cons (map_get h16 : (box0_.map eTJoint)[x3.fA.toNat]? = some (eTJoint x15)) (.cons ((h17).1) (.cons (lt_mapI (h17).2 : x3.fB < ((box0_.map eTJoint).length : Nat)) (.cons (map_get h19 : (box0_.map eTJoint)[x3.fB.toNat]? = some (eTJoint x18)) (.cons h20 (.cons h20 (.cons h20 (.cons h20 (.cons h20 (.cons h20 (.cons h21 (.cons h21 (.cons h21 (.cons h22 (.cons h22 (.cons h21 (.cons h22 (.cons h21 (.cons h23 .nil))))))))))))))))))))))))))))))))))))))))))) (mkS_free _ _) : VEx PP 102 0 (nodeAt (bodyOf PP 63) [1, 1, 1, 1, 0, 1, 0, 0]) (.ret) (spec_StructureOk_L2_head v_last v_t45 v_t46 box0_ v_t47) (spec_StructureOk_L2_out v_last v_t45 v_t46 box0_ (.inr ())))))
             (fun h23 =>
             .ret ((okC_sound hmix (tape := [.reg [nt], .br true, .reg [nt, (.el (eTMember x3), true), nt, nt], .reg [nt, nt, nt, (.call { ac := [ii, ii, ii], r := .b r5, sc := true }, true), nt, nt, nt, nt, nt, (.call { ac := [ii, ii, ii], r := .b r8, sc := true }, true), nt, (.br false, true), nt, nt, nt, (.call { ac := [ii, ii, ii], r := .b r11, sc := true }, true), nt, (.br false, true)], .br false, .reg [nt, nt, nt, nt, nt, (.el (eTJoint x15), true), nt, nt], .reg [nt, nt, nt, nt, nt, (.el (eTJoint x18), true), nt, nt], .reg [nt, nt, nt, nt, nt, nt, nt, nt, nt, nt, nt, (.br true, true), nt, nt, nt, nt, nt, nt, (.br true, true), (.br false, true)], .br false, .reg [nt, nt], .rst [0] [.box [.id, .id]] [(1, ii), (5, ii), (45, ii), (46, ii), (47, ii)]]) (nr := 1) (by kernel_rfl) (.cons h1 (.cons ((h2).1) (.cons (lt_mapI (h2).2 : v_t47 < ((v_t45.map eTMember).length : Nat)) (.cons (map_get h4 : (v_t45.map eTMember)[v_t47.toNat]? = some (eTMember x3)) (.cons (spec_l01In_ok x3.fA 0 v_last r5 h6) (.cons (Sc.b _ : Sc (.b r5)) (.cons (not_t h7) (.cons (not_t h7) (.cons (not_t h7) (.cons (not_t h7) (.cons (spec_l01In_ok x3.fB 0 v_last r8 h9) (.cons (Sc.b _ : Sc (.b r8)) (.cons (not_t h7) (.cons (not_t h7) (.cons (not_t h10) (.cons (not_t h10) (.cons (not_t h10) (.cons (spec_l01In_ok x3.fKind 1 3 r11 h12) (.cons (Sc.b _ : Sc (.b r11)) (.cons (not_t h10) (.cons (not_t h10) (.cons (not_t h13) (.cons ((h14).1) (.cons (lt_mapI (h14).2 : x3.fA < ((box0_.map eTJoint).length : Nat)) (.cons (map_get h16 : (box0_.map eTJoint)[x3.fA.toNat]? = some (eTJoint x15)) (.cons ((h17).1) (.cons (lt_mapI (h17).2 : x3.fB < ((box0_.map eTJoint).length : Nat)) (.cons (map_get h19 : (box0_.map eTJoint)[x3.fB.toNat]? = some (eTJoint x18)) (.cons h20 (.cons h20 (.cons h20 (.cons h20 (.cons h20 (.cons h20 (.cons h21 (.cons h21 (.cons h21 (.cons h22 (.cons h22 (.cons h21 (.cons h22 (.cons h21 (.cons h23 .nil))))))))))))))))))))))))))))))))))))))))))) (mkS_free _ _) : VEx PP 102 0 (nodeAt (bodyOf PP 63) [1, 1, 1, 1, 0, 1, 0, 0]) .normal (spec_StructureOk_L2_head v_last v_t45 v_t46 box0_ v_t47) (spec_StructureOk_L2_head v_last v_t45 v_t46 box0_ (w64 (v_t47 + (1 : Int))))))))
            (fun h22 =>
            .ret ((okC_sound hmix (tape := [.reg [nt], .br true, .reg [nt, (.el (eTMember x3), true), nt, nt], .reg [nt, nt, nt, (.call { ac := [ii, ii, ii], r := .b r5, sc := true }, true), nt, nt, nt, nt, nt, (.call { ac := [ii, ii, ii], r := .b r8, sc := true }, true), nt, (.br false, true), nt, nt, nt, (.call { ac := [ii, ii, ii], r := .b r11, sc := true }, true), nt, (.br false, true)], .br false, .reg [nt, nt, nt, nt, nt, (.el (eTJoint x15), true), nt, nt], .reg [nt, nt, nt, nt, nt, (.el (eTJoint x18), true), nt, nt], .reg [nt, nt, nt, nt, nt, nt, nt, nt, nt, nt, nt, (.br true, true), nt, nt, nt, nt, nf, nf, (.br false, true), (.br false, true)], .br false, .reg [nt, nt], .rst [0] [.box [.id, .id]] [(1, ii), (5, ii), (45, ii), (46, ii), (47, ii)]]) (nr := 1) (by kernel_rfl) (.cons h1 (.cons ((h2).1) (.cons (lt_mapI (h2).2 : v_t47 < ((v_t45.map eTMember).length : Nat)) (.cons (map_get h4 : (v_t45.map eTMember)[v_t47.toNat]? = some (eTMember x3)) (.cons (spec_l01In_ok x3.fA 0 v_last r5 h6) (.cons (Sc.b _ : Sc (.b r5)) (.cons (not_t h7) (.cons (not_t h7) (.cons (not_t h7) (.cons (not_t h7) (.cons (spec_l01In_ok x3.fB 0 v_last r8 h9) (.cons (Sc.b _ : Sc (.b r8)) (.cons (not_t h7) (.cons (not_t h7) (.cons (not_t h10) (.cons (not_t h10) (.cons (not_t h10) (.cons (spec_l01In_ok x3.fKind 1 3 r11 h12) (.cons (Sc.b _ : Sc (.b r11)) (.cons (not_t h10) (.cons (not_t h10) (.cons (not_t h13) (.cons ((h14).1) (.cons (lt_mapI (h14).2 : x3.fA < ((box0_.map eTJoint).length : Nat)) (.cons (map_get h16 : (box0_.map eTJoint)[x3.fA.toNat]? = some (eTJoint x15)) (.cons ((h17).1) (.cons (lt_mapI (h17).2 : x3.fB < ((box0_.map eTJoint).length : Nat)) (.cons (map_get h19 : (box0_.map eTJoint)[x3.fB.toNat]? = some (eTJoint x18)) (.cons h20 (.cons h20 (.cons h20 (.cons h20 (.cons h20 (.cons h20 (.cons h21 (.cons h21 (.cons h21 (.cons h22 (.cons h22 (.cons h21 (.cons h22 (.cons h21 (.cons (rfl : false = false) .nil))))))))))))))))))))))))))))))))))))))))))) (mkS_free _ _) : VEx PP 102 0 (nodeAt (bodyOf PP 63) [1, 1, 1, 1, 0, 1, 0, 0]) .normal (spec_StructureOk_L2_head v_last v_t45 v_t46 box0_ v_t47) (spec_StructureOk_L2_head v_last v_t45 v_t46 box0_ (w64 (v_t47 + (1 : Int)))))))))
          (fun h20 =>
          .ite (fun h21 =>
           .ite (fun h22 =>
            .ret ((okC_sound hmix (tape := [.reg [nt], .br true, .reg [nt, (.el (eTMember x3), true), nt, nt], .reg [nt, nt, nt, (.call { ac := [ii, ii, ii], r := .b r5, sc := true }, true), nt, nt, nt, nt, nt, (.call { ac := [ii, ii, ii], r := .b r8, sc := true }, true), nt, (.br false, true), nt, nt, nt, (.call { ac := [ii, ii, ii], r := .b r11, sc := true }, true), nt, (.br false, true)], .br false, .reg [nt, nt, nt, nt, nt, (.el (eTJoint x15), true), nt, nt], .reg [nt, nt, nt, nt, nt, (.el (eTJoint x18), true), nt, nt], .reg [nt, nt, nt, nt, nt, nt, nf, nf, nf, nf, nf, (.br false, true), nt, nt, nt, nt, nt, nt, (.br true, true), nt], .br true, .reg [nt], .rst [] [] [(2, ii)]]) (nr := 1) (by kernel_rfl) (.cons h1 (.cons ((h2).1) (.cons (lt_mapI (h2).2 : v_t47 < ((v_t45.map eTMember).length : Nat)) (.cons (map_get h4 : (v_t45.map eTMember)[v_t47.toNat]? = some (eTMember x3)) (.cons (spec_l01In_ok x3.fA 0 v_last r5 h6) (.cons (Sc.b _ : Sc (.b r5)) (.cons (not_t h7) (.cons (not_t h7) (.cons (not_t h7) (.cons (not_t h7) (.cons (spec_l01In_ok x3.fB 0 v_last r8 h9) (.cons (Sc.b _ : Sc (.b r8)) (.cons (not_t h7) (.cons (not_t h7) (.cons (not_t h10) (.cons (not_t h10) (.cons (not_t h10) (.cons (spec_l01In_ok x3.fKind 1 3 r11 h12) (.cons (Sc.b _ : Sc (.b r11)) (.cons (not_t h10) (.cons (not_t h10) (.cons (not_t h13) (.cons ((h14).1) (.cons (lt_mapI (h14).2 : x3.fA < ((box0_.map eTJoint).length : Nat)) (.cons (map_get h16 : (box0_.map eTJoint)[x3.fA.toNat]? = some (eTJoint x15)) (.cons ((h17).1) (.cons (lt_mapI (h17).2 : x3.fB < ((box0_.map eTJoint).length : Nat)) (.cons (map_get h19 : (box0_.map eTJoint)[x3.fB.toNat]? = some (eTJoint x18)) (.cons h20 (.cons h20 (.cons h20 (.cons h20 (.cons h20 (.cons h20 (.cons (rfl : false = false) (.cons (rfl : false = false) (.cons (rfl : false = false) (.cons h21 (.cons h21 (.cons (rfl : false = false) (.cons h21 (.cons h22 .nil)))))))))))))))))))))))))))))))))))))))))) (mkS_free _ _) : VEx PP 102 0 (nodeAt (bodyOf PP 63) [1, 1, 1, 1, 0, 1, 0, 0]) (.ret) (spec_StructureOk_L2_head v_last v_t45 v_t46 box0_ v_t47) (spec_StructureOk_L2_out v_last v_t45 v_t46 box0_ (.inr ())))))
            (fun h22 =>
            .ret ((okC_sound hmix (tape := [.reg [nt], .br true, .reg [nt, (.el (eTMember x3), true), nt, nt], .reg [nt, nt, nt, (.call { ac := [ii, ii, ii], r := .b r5, sc := true }, true), nt, nt, nt, nt, nt, (.call { ac := [ii, ii, ii], r := .b r8, sc := true }, true), nt, (.br false, true), nt, nt, nt, (.call { ac := [ii, ii, ii], r := .b r11, sc := true }, true), nt, (.br false, true)], .br false, .reg [nt, nt, nt, nt, nt, (.el (eTJoint x15), true), nt, nt], .reg [nt, nt, nt, nt, nt, (.el (eTJoint x18), true), nt, nt], .reg [nt, nt, nt, nt, nt, nt, nf, nf, nf, nf, nf, (.br false, true), nt, nt, nt, nt, nt, nt, (.br true, true), nt], .br false, .reg [nt, nt], .rst [0] [.box [.id, .id]] [(1, ii), (5, ii), (45, ii), (46, ii), (47, ii)]]) (nr := 1) (by kernel_rfl) (.cons h1 (.cons ((h2).1) (.cons (lt_mapI (h2).2 : v_t47 < ((v_t45.map eTMember).length : Nat)) (.cons (map_get h4 : (v_t45.map eTMember)[v_t47.toNat]? = some (eTMember x3)) (.cons (spec_l01In_ok x3.fA 0 v_last r5 h6) (.cons (Sc.b _ : Sc (.b r5)) (.cons (not_t h7) (.cons (not_t h7) (.cons (not_t h7) (.cons (not_t h7) (.cons (spec_l01In_ok x3.fB 0 v_last r8 h9) (.cons (Sc.b _ : Sc (.b r8)) (.cons (not_t h7) (.cons (not_t h7) (.cons (not_t h10) (.cons (not_t h10) (.cons (not_t h10) (.cons (spec_l01In_ok x3.fKind 1 3 r11 h12) (.cons (Sc.b _ : Sc (.b r11)) (.cons (not_t h10) (.cons (not_t h10) (.cons (not_t h13) (.cons ((h14).1) (.cons (lt_mapI (h14).2 : x3.fA < ((box0_.map eTJoint).length : Nat)) (.cons (map_get h16 : (box0_.map eTJoint)[x3.fA.toNat]? = some (eTJoint x15)) (.cons ((h17).1) (.cons (lt_mapI (h17).2 : x3.fB < ((box0_.map eTJoint).length : Nat)) (.cons (map_get h19 : (box0_.map eTJoint)[x3.fB.toNat]? = some (eTJoint x18)) (.cons h20 (.cons h20 (.cons h20 (.cons h20 (.cons h20 (.cons h20 (.cons (rfl : false = false) (.cons (rfl : false = false) (.cons (rfl : false = false) (.cons h21 (.cons h21 (.cons (rfl : false = false) (.cons h21 (.cons h22 .nil)))))))))))))))))))))))))))))))))))))))))) (mkS_free _ _) : VEx PP 102 0 (nodeAt (bodyOf PP 63) [1, 1, 1, 1, 0, 1, 0, 0]) .normal (spec_StructureOk_L2_head v_last v_t45 v_t46 box0_ v_t47) (spec_StructureOk_L2_head v_last v_t45 v_t46 box0_ (w64 (v_t47 + (1 : Int))))))))
           (fun h21 =>
           .ret ((okC_sound hmix (tape := [.reg [nt], .br true, .reg [nt, (.el (eTMember x3), true), nt, nt], .reg [nt, nt, nt, (.call { ac := [ii, ii, ii], r := .b r5, sc := true }, true), nt, nt, nt, nt, nt, (.call { ac := [ii, ii, ii], r := .b r8, sc := true }, true), nt, (.br false, true), nt, nt, nt, (.call { ac := [ii, ii, ii], r := .b r11, sc := true }, true), nt, (.br false, true)], .br false, .reg [nt, nt, nt, nt, nt, (.el (eTJoint x15), true), nt, nt], .reg [nt, nt, nt, nt, nt, (.el (eTJoint x18), true), nt, nt], .reg [nt, nt, nt, nt, nt, nt, nf, nf, nf, nf, nf, (.br false, true), nt, nt, nt, nt, nf, nf, (.br false, true), nt], .br false, .reg [nt, nt], .rst [0] [.box [.id, .id]] [(1, ii), (5, ii), (45, ii), (46, ii), (47, ii)]]) (nr := 1) (by kernel_rfl) (.cons h1 (.cons ((h2).1) (.cons (lt_mapI (h2).2 : v_t47 < ((v_t45.map eTMember).length : Nat)) (.cons (map_get h4 : (v_t45.map eTMember)[v_t47.toNat]? = some (eTMember x3)) (.cons (spec_l01In_ok x3.fA 0 v_last r5 h6) (.cons (Sc.b _ : Sc (.b r5)) (.cons (not_t h7) (.cons (not_t h7) (.cons (not_t h7) (.cons (not_t h7) (.cons (spec_l01In_ok x3.fB 0 v_last r8 h9) (.cons (Sc.b _ : Sc (.b r8)) (.cons (not_t h7) (.cons (not_t h7) (.cons (not_t h10) (.cons (not_t h10) (.cons (not_t h10) (.cons (spec_l01In_ok x3.fKind 1 3 r11 h12) (.cons (Sc.b _ : Sc (.b r11)) (.cons (not_t h10) (.cons (not_t h10) (.cons (not_t h13) (.cons ((h14).1) (.cons (lt_mapI (h14).2 : x3.fA < ((box0_.map eTJoint).length : Nat)) (.cons (map_get h16 : (box0_.map eTJoint)[x3.fA.toNat]? = some (eTJoint x15)) (.cons ((h17).1) (.cons (lt_mapI (h17).2 : x3.fB < ((box0_.map eTJoint).length : Nat)) (.cons (map_get h19 : (box0_.map eTJoint)[x3.fB.toNat]? = some (eTJoint x18)) (.cons h20 (.cons h20 (.cons h20 (.cons h20 (.cons h20 (.cons h20 (.cons (rfl : false = false) (.cons (rfl : false = false) (.cons (rfl : false = false) (.cons h21 (.cons h21 (.cons (rfl : false = false) (.cons h21 (.cons (rfl : false = false) .nil)))))))))))))))))))))))))))))))))))))))))) (mkS_free _ _) : VEx PP 102 0 (nodeAt (bodyOf PP 63) [1, 1, 1, 1, 0, 1, 0, 0]) .normal (spec_StructureOk_L2_head v_last v_t45 v_t46 box0_ v_t47) (spec_StructureOk_L2_head v_last v_t45 v_t46 box0_ (w64 (v_t47 + (1 : Int)))))))))
         (fun h13 =>
         .ret ((okC_sound hmix (tape := [.reg [nt], .br true, .reg [nt, (.el (eTMember x3), true), nt, nt], .reg [nt, nt, nt, (.call { ac := [ii, ii, ii], r := .b r5, sc := true }, true), nt, nt, nt, nt, nt, (.call { ac := [ii, ii, ii], r := .b r8, sc := true }, true), nt, (.br false, true), nt, nt, nt, (.call { ac := [ii, ii, ii], r := .b r11, sc := true }, true), nt, (.br false, true)], .br true, .reg [nt], .rst [] [] [(2, ii)]]) (nr := 1) (by kernel_rfl) (.cons h1 (.cons ((h2).1) (.cons (lt_mapI (h2).2 : v_t47 < ((v_t45.map eTMember).length : Nat)) (.cons (map_get h4 : (v_t45.map eTMember)[v_t47.toNat]? = some (eTMember x3)) (.cons (spec_l01In_ok x3.fA 0 v_last r5 h6) (.cons (Sc.b _ : Sc (.b r5)) (.cons (not_t h7) (.cons (not_t h7) (.cons (not_t h7) (.cons (not_t h7) (.cons (spec_l01In_ok x3.fB 0 v_last r8 h9) (.cons (Sc.b _ : Sc (.b r8)) (.cons (not_t h7) (.cons (not_t h7) (.cons (not_t h10) (.cons (not_t h10) (.cons (not_t h10) (.cons (spec_l01In_ok x3.fKind 1 3 r11 h12) (.cons (Sc.b _ : Sc (.b r11)) (.cons (not_t h10) (.cons (not_t h10) (.cons (not_f h13) .nil)))))))))))))))))))))) (mkS_free _ _) : VEx PP 102 0 (nodeAt (bodyOf PP 63) [1, 1, 1, 1, 0, 1, 0, 0]) (.ret) (spec_StructureOk_L2_head v_last v_t45 v_t46 box0_ v_t47) (spec_StructureOk_L2_out v_last v_t45 v_t46 box0_ (.inr ()))))))
        (fun h10 =>
        .ret ((okC_sound hmix (tape := [.reg [nt], .br true, .reg [nt, (.el (eTMember x3), true), nt, nt], .reg [nt, nt, nt, (.call { ac := [ii, ii, ii], r := .b r5, sc := true }, true), nt, nt, nt, nt, nt, (.call { ac := [ii, ii, ii], r := .b r8, sc := true }, true), nt, (.br false, true), nt, nf, nf, nf, nf, (.br true, true)], .br true, .reg [nt], .rst [] [] [(2, ii)]]) (nr := 1) (by kernel_rfl) (.cons h1 (.cons ((h2).1) (.cons (lt_mapI (h2).2 : v_t47 < ((v_t45.map eTMember).length : Nat)) (.cons (map_get h4 : (v_t45.map eTMember)[v_t47.toNat]? = some (eTMember x3)) (.cons (spec_l01In_ok x3.fA 0 v_last r5 h6) (.cons (Sc.b _ : Sc (.b r5)) (.cons (not_t h7) (.cons (not_t h7) (.cons (not_t h7) (.cons (not_t h7) (.cons (spec_l01In_ok x3.fB 0 v_last r8 h9) (.cons (Sc.b _ : Sc (.b r8)) (.cons (not_t h7) (.cons (not_t h7) (.cons (not_f h10) (.cons (not_f h10) (.cons (not_f h10) (.cons (not_f h10) (.cons (not_f h10) (.cons (rfl : true = true) .nil)))))))))))))))))))) (mkS_free _ _) : VEx PP 102 0 (nodeAt (bodyOf PP 63) [1, 1, 1, 1, 0, 1, 0, 0]) (.ret) (spec_StructureOk_L2_head v_last v_t45 v_t46 box0_ v_t47) (spec_StructureOk_L2_out v_last v_t45 v_t46 box0_ (.inr ()))))))
       (fun h7 =>
       .ret ((okC_sound hmix (tape := [.reg [nt], .br true, .reg [nt, (.el (eTMember x3), true), nt, nt], .reg [nt, nt, nt, (.call { ac := [ii, ii, ii], r := .b r5, sc := true }, true), nt, nt, nf, nf, nf, nf, nf, (.br true, true), nt, nf, nf, nf, nf, nt], .br true, .reg [nt], .rst [] [] [(2, ii)]]) (nr := 1) (by kernel_rfl) (.cons h1 (.cons ((h2).1) (.cons (lt_mapI (h2).2 : v_t47 < ((v_t45.map eTMember).length : Nat)) (.cons (map_get h4 : (v_t45.map eTMember)[v_t47.toNat]? = some (eTMember x3)) (.cons (spec_l01In_ok x3.fA 0 v_last r5 h6) (.cons (Sc.b _ : Sc (.b r5)) (.cons (not_f h7) (.cons (not_f h7) (.cons (not_f h7) (.cons (not_f h7) (.cons (not_f h7) (.cons (not_f h7) (.cons (rfl : true = true) (.cons (rfl : true = true) (.cons (rfl : true = true) (.cons (rfl : true = true) (.cons (rfl : true = true) .nil))))))))))))))))) (mkS_free _ _) : VEx PP 102 0 (nodeAt (bodyOf PP 63) [1, 1, 1, 1, 0, 1, 0, 0]) (.ret) (spec_StructureOk_L2_head v_last v_t45 v_t46 box0_ v_t47) (spec_StructureOk_L2_out v_last v_t45 v_t46 box0_ (.inr ()))))))
      (fun h1 =>
      .ret ((okC_sound hmix (tape := [.reg [nt], .br false, .rst [] [] []]) (nr := 1) (by kernel_rfl) (.cons h1 .nil) (mkS_free _ _) : VEx PP 102 0 (nodeAt (bodyOf PP 63) [1, 1, 1, 1, 0, 1, 0, 0]) (.exit 2) (spec_StructureOk_L2_head v_last v_t45 v_t46 box0_ v_t47) (spec_StructureOk_L2_out v_last v_t45 v_t46 box0_ (.inl ())))))

theorem spec_StructureOk_L2_ok (v_last : Int) (v_t45 : (List TMember)) (v_t46 : Int) (box0_ : (List TJoint)) (v_t47 : Int) : ∀ r, spec_StructureOk_L2 v_last v_t45 v_t46 box0_ v_t47 = some r → VLoop PP 102 0 (nodeAt (bodyOf PP 63) [1, 1, 1, 1, 0, 1, 0, 0]) (spec_StructureOk_L2_ex r) (spec_StructureOk_L2_head v_last v_t45 v_t46 box0_ v_t47) (spec_StructureOk_L2_out v_last v_t45 v_t46 box0_ r) := fun r h =>
  iter_ok (head := fun w : Int => spec_StructureOk_L2_head v_last v_t45 v_t46 box0_ w) (ex := spec_StructureOk_L2_ex) (out := spec_StructureOk_L2_out v_last v_t45 v_t46 box0_) (by intro r; unfold spec_StructureOk_L2_ex; split <;> simp) (fun w => spec_StructureOk_L2_body_ok v_last v_t45 v_t46 box0_ w) v_t47 r h

def spec_StructureOk (v_s : TStructure) : Option Bool :=
  if (decide ((6 : Int) < (len_ eTJoint v_s.fJoints))) = true then
    some false
  else
    if (decide ((8 : Int) < (len_ eTMember v_s.fMembers))) = true then
      some false
    else
      spec_StructureOk_L1 v_s.fJoints (len_ eTJoint v_s.fJoints) v_s.fMembers 0 >>= fun r3 =>
      match r3 with
      | .inl a5 => (spec_StructureOk_L2 (w64 ((len_ eTJoint v_s.fJoints) - (1 : Int))) v_s.fMembers (len_ eTMember v_s.fMembers) v_s.fJoints 0 >>= fun r6 =>
        match r6 with
        | .inl a8 => (some true)
        | .inr a8 => (some false))
      | .inr a5 => (some false)

theorem spec_StructureOk_ok (v_s : TStructure) : Wp (spec_StructureOk v_s) (fun r => Con PP 63 [.agg [.isl 4 (v_s.fJoints.map eTJoint), .isl 3 (v_s.fMembers.map eTMember)]] [] (.b r) []) := by
  unfold spec_StructureOk
  exact .ite (fun h1 =>
    .ret (runF_con0 hmix (tape := [.reg [nt, nt], .reg [nt, nt, nt, nt, nt, nf, nf, nf, nf, (.br true, true)], .br true, .reg [nt]]) (rr := ii) (by kernel_rfl) (.cons h1 (.cons h1 (.cons h1 (.cons h1 (.cons h1 (.cons (rfl : true = true) .nil))))))))
    (fun h1 =>
    .ite (fun h2 =>
     .ret (runF_con0 hmix (tape := [.reg [nt, nt], .reg [nt, nt, nt, nt, nt, nt, nt, nt, nt, (.br false, true)], .br true, .reg [nt]]) (rr := ii) (by kernel_rfl) (.cons h1 (.cons h1 (.cons h1 (.cons h1 (.cons h1 (.cons h2 .nil))))))))
     (fun h2 =>
     .bnd fun r3 h4 =>
      match r3, h4 with
      | .inl a5, h4 => (.bnd fun r6 h7 =>
       match r6, h7 with
       | .inl a8, h7 => (.ret (runF_con0 hmix (tape := [.reg [nt, nt], .reg [nt, nt, nt, nt, nt, nt, nt, nt, nt, (.br false, true)], .br false, .reg [nt, nt, nt, nt], .rst [0] [.box [.id, .id]] [(1, ii), (21, ii), (22, ii), (23, ii)], .sub (.exit 0) [(1, .ref 0 0 0 0)] [[Ob.mk 2 [[.isl 4 (v_s.fJoints.map eTJoint), .isl 3 (v_s.fMembers.map eTMember)]] .live]], .reg [nt, nt, nt, nt, nt], .reg [nt, nt, nt, nt], .rst [0] [.box [.id, .id]] [(1, ii), (5, ii), (45, ii), (46, ii), (47, ii)], .sub (.exit 2) [] [], .reg [nt]]) (rr := ii) (by kernel_rfl) (.cons h1 (.cons h1 (.cons h1 (.cons h1 (.cons h1 (.cons h2 (.cons ((spec_StructureOk_L1_ok v_s.fJoints (len_ eTJoint v_s.fJoints) v_s.fMembers 0 (.inl a5) h4).vex) (.cons ((spec_StructureOk_L2_ok (w64 ((len_ eTJoint v_s.fJoints) - (1 : Int))) v_s.fMembers (len_ eTMember v_s.fMembers) v_s.fJoints 0 (.inl a8) h7).vex) .nil))))))))))
       | .inr a8, h7 => (.ret (runF_con0 hmix (tape := [.reg [nt, nt], .reg [nt, nt, nt, nt, nt, nt, nt, nt, nt, (.br false, true)], .br false, .reg [nt, nt, nt, nt], .rst [0] [.box [.id, .id]] [(1, ii), (21, ii), (22, ii), (23, ii)], .sub (.exit 0) [(1, .ref 0 0 0 0)] [[Ob.mk 2 [[.isl 4 (v_s.fJoints.map eTJoint), .isl 3 (v_s.fMembers.map eTMember)]] .live]], .reg [nt, nt, nt, nt, nt], .reg [nt, nt, nt, nt], .rst [0] [.box [.id, .id]] [(1, ii), (5, ii), (45, ii), (46, ii), (47, ii)], .sub (.ret) [(2, .b false)] []]) (rr := ii) (by kernel_rfl) (.cons h1 (.cons h1 (.cons h1 (.cons h1 (.cons h1 (.cons h2 (.cons ((spec_StructureOk_L1_ok v_s.fJoints (len_ eTJoint v_s.fJoints) v_s.fMembers 0 (.inl a5) h4).vex) (.cons ((spec_StructureOk_L2_ok (w64 ((len_ eTJoint v_s.fJoints) - (1 : Int))) v_s.fMembers (len_ eTMember v_s.fMembers) v_s.fJoints 0 (.inr a8) h7).vex) .nil)))))))))))
      | .inr a5, h4 => (.ret (runF_con0 hmix (tape := [.reg [nt, nt], .reg [nt, nt, nt, nt, nt, nt, nt, nt, nt, (.br false, true)], .br false, .reg [nt, nt, nt, nt], .rst [0] [.box [.id, .id]] [(1, ii), (21, ii), (22, ii), (23, ii)], .sub (.ret) [(2, .b false)] []]) (rr := ii) (by kernel_rfl) (.cons h1 (.cons h1 (.cons h1 (.cons h1 (.cons h1 (.cons h2 (.cons ((spec_StructureOk_L1_ok v_s.fJoints (len_ eTJoint v_s.fJoints) v_s.fMembers 0 (.inr a5) h4).vex) .nil)))))))))))

def spec_LimitsOk_L1_head (v_t18 : (List Int)) (v_t19 : Int) (v_t20 : Int) : S := mkS [(18, .isl 1 (v_t18.map eI)), (19, .n .i64 v_t19), (20, .n .i64 v_t20)] []

def spec_LimitsOk_L1_ex : ((Unit) ⊕ (Unit)) → Exit
  | .inl _ => .exit 0
  | .inr _ => .ret

def spec_LimitsOk_L1_out (v_t18 : (List Int)) (v_t19 : Int) : ((Unit) ⊕ (Unit)) → S
  | .inl a => mkS [] []
  | .inr a => mkS [(4, .b false)] []

def spec_LimitsOk_L1_body (v_t18 : (List Int)) (v_t19 : Int) (v_t20 : Int) : Option ((Int) ⊕ ((Unit) ⊕ (Unit))) :=
  if (decide (v_t20 < v_t19)) = true then
    if 0 ≤ v_t20 ∧ v_t20 < v_t18.length then
    v_t18[v_t20.toNat]? >>= fun x3 =>
    spec_l01In x3 0 1000 >>= fun r5 =>
    if r5 = true then
      some (.inl (w64 (v_t20 + (1 : Int))))
    else
      some (.inr (.inr ()))
    else none
  else
    some (.inr (.inl ()))

def spec_LimitsOk_L1 (v_t18 : (List Int)) (v_t19 : Int) (v_t20 : Int) : Option ((Unit) ⊕ (Unit)) := iter (fun w : Int => spec_LimitsOk_L1_body v_t18 v_t19 w) v_t20

theorem spec_LimitsOk_L1_body_ok (v_t18 : (List Int)) (v_t19 : Int) (v_t20 : Int) : Wp (spec_LimitsOk_L1_body v_t18 v_t19 v_t20) (Sum.elim
    (fun w => VEx PP 28 0 (nodeAt (bodyOf PP 19) [1, 1, 0, 1, 0, 0]) .normal (spec_LimitsOk_L1_head v_t18 v_t19 v_t20) (spec_LimitsOk_L1_head v_t18 v_t19 w))
    (fun r => VEx PP 28 0 (nodeAt (bodyOf PP 19) [1, 1, 0, 1, 0, 0]) (spec_LimitsOk_L1_ex r) (spec_LimitsOk_L1_head v_t18 v_t19 v_t20) (spec_LimitsOk_L1_out v_t18 v_t19 r))) := by
  unfold spec_LimitsOk_L1_body
  exact .ite (fun h1 =>
      .grd fun h2 =>
       .bnd fun x3 h4 =>
       .bnd fun r5 h6 =>
       .ite (fun h7 =>
       .ret ((okC_sound hmix (tape := [.reg [nt], .br true, .reg [nt, (.el (eI x3), true), nt], .reg [nt, (.call { ac := [ii, ii, ii], r := .b r5, sc := true }, true), nt], .br false, .reg [nt, nt], .rst [] [] [(18, ii), (19, ii), (20, ii)]]) (nr := 0) (by kernel_rfl) (.cons h1 (.cons ((h2).1) (.cons (lt_mapI (h2).2 : v_t20 < ((v_t18.map eI).length : Nat)) (.cons (map_get h4 : (v_t18.map eI)[v_t20.toNat]? = some (eI x3)) (.cons (spec_l01In_ok x3 0 1000 r5 h6) (.cons (Sc.b _ : Sc (.b r5)) (.cons (not_t h7) .nil))))))) (mkS_free _ _) : VEx PP 28 0 (nodeAt (bodyOf PP 19) [1, 1, 0, 1, 0, 0]) .normal (spec_LimitsOk_L1_head v_t18 v_t19 v_t20) (spec_LimitsOk_L1_head v_t18 v_t19 (w64 (v_t20 + (1 : Int)))))))
       (fun h7 =>
       .ret ((okC_sound hmix (tape := [.reg [nt], .br true, .reg [nt, (.el (eI x3), true), nt], .reg [nt, (.call { ac := [ii, ii, ii], r := .b r5, sc := true }, true), nt], .br true, .reg [nt], .rst [] [] [(4, ii)]]) (nr := 0) (by kernel_rfl) (.cons h1 (.cons ((h2).1) (.cons (lt_mapI (h2).2 : v_t20 < ((v_t18.map eI).length : Nat)) (.cons (map_get h4 : (v_t18.map eI)[v_t20.toNat]? = some (eI x3)) (.cons (spec_l01In_ok x3 0 1000 r5 h6) (.cons (Sc.b _ : Sc (.b r5)) (.cons (not_f h7) .nil))))))) (mkS_free _ _) : VEx PP 28 0 (nodeAt (bodyOf PP 19) [1, 1, 0, 1, 0, 0]) (.ret) (spec_LimitsOk_L1_head v_t18 v_t19 v_t20) (spec_LimitsOk_L1_out v_t18 v_t19 (.inr ()))))))
      (fun h1 =>
      .ret ((okC_sound hmix (tape := [.reg [nt], .br false, .rst [] [] []]) (nr := 0) (by kernel_rfl) (.cons h1 .nil) (mkS_free _ _) : VEx PP 28 0 (nodeAt (bodyOf PP 19) [1, 1, 0, 1, 0, 0]) (.exit 0) (spec_LimitsOk_L1_head v_t18 v_t19 v_t20) (spec_LimitsOk_L1_out v_t18 v_t19 (.inl ())))))

theorem spec_LimitsOk_L1_ok (v_t18 : (List Int)) (v_t19 : Int) (v_t20 : Int) : ∀ r, spec_LimitsOk_L1 v_t18 v_t19 v_t20 = some r → VLoop PP 28 0 (nodeAt (bodyOf PP 19) [1, 1, 0, 1, 0, 0]) (spec_LimitsOk_L1_ex r) (spec_LimitsOk_L1_head v_t18 v_t19 v_t20) (spec_LimitsOk_L1_out v_t18 v_t19 r) := fun r h =>
  iter_ok (head := fun w : Int => spec_LimitsOk_L1_head v_t18 v_t19 w) (ex := spec_LimitsOk_L1_ex) (out := spec_LimitsOk_L1_out v_t18 v_t19) (by intro r; unfold spec_LimitsOk_L1_ex; split <;> simp) (fun w => spec_LimitsOk_L1_body_ok v_t18 v_t19 w) v_t20 r h

def spec_LimitsOk (v_s : TStructure) (v_w : (List Int)) : Option Bool :=
  spec_StructureOk v_s >>= fun r1 =>
  if r1 = true then
    if ((len_ eI v_w) != (len_ eTMember v_s.fMembers)) = true then
      some false
    else
      spec_LimitsOk_L1 v_w (len_ eI v_w) 0 >>= fun r5 =>
      match r5 with
      | .inl a7 => (some true)
      | .inr a7 => (some false)
  else
    some false

theorem spec_LimitsOk_ok (v_s : TStructure) (v_w : (List Int)) : Wp (spec_LimitsOk v_s v_w) (fun r => Con PP 19 [.agg [.isl 4 (v_s.fJoints.map eTJoint), .isl 3 (v_s.fMembers.map eTMember)], .isl 1 (v_w.map eI)] [] (.b r) []) := by
  unfold spec_LimitsOk
  exact .bnd fun r1 h2 =>
    .ite (fun h3 =>
    .ite (fun h4 =>
     .ret (runF_con0 hmix (tape := [.reg [nt, nt], .reg [nt, (.call { ac := [ii], r := .b r1, sc := true }, true), nt, nt, nt, nt, nt, nt, nt, nt, (.br false, true)], .br true, .reg [nt]]) (rr := ii) (by kernel_rfl) (.cons (spec_StructureOk_ok v_s r1 h2) (.cons (Sc.b _ : Sc (.b r1)) (.cons (not_t h3) (.cons (not_t h3) (.cons (not_t h3) (.cons (not_t h3) (.cons (not_t h3) (.cons (not_t h3) (.cons (not_t h3) (.cons h4 .nil))))))))))))
     (fun h4 =>
     .bnd fun r5 h6 =>
      match r5, h6 with
      | .inl a7, h6 => (.ret (runF_con0 hmix (tape := [.reg [nt, nt], .reg [nt, (.call { ac := [ii], r := .b r1, sc := true }, true), nt, nt, nt, nt, nt, nt, nt, nt, (.br false, true)], .br false, .reg [nt, nt, nt], .rst [] [] [(18, ii), (19, ii), (20, ii)], .sub (.exit 0) [] [], .reg [nt]]) (rr := ii) (by kernel_rfl) (.cons (spec_StructureOk_ok v_s r1 h2) (.cons (Sc.b _ : Sc (.b r1)) (.cons (not_t h3) (.cons (not_t h3) (.cons (not_t h3) (.cons (not_t h3) (.cons (not_t h3) (.cons (not_t h3) (.cons (not_t h3) (.cons h4 (.cons ((spec_LimitsOk_L1_ok v_w (len_ eI v_w) 0 (.inl a7) h6).vex) .nil)))))))))))))
      | .inr a7, h6 => (.ret (runF_con0 hmix (tape := [.reg [nt, nt], .reg [nt, (.call { ac := [ii], r := .b r1, sc := true }, true), nt, nt, nt, nt, nt, nt, nt, nt, (.br false, true)], .br false, .reg [nt, nt, nt], .rst [] [] [(18, ii), (19, ii), (20, ii)], .sub (.ret) [(4, .b false)] []]) (rr := ii) (by kernel_rfl) (.cons (spec_StructureOk_ok v_s r1 h2) (.cons (Sc.b _ : Sc (.b r1)) (.cons (not_t h3) (.cons (not_t h3) (.cons (not_t h3) (.cons (not_t h3) (.cons (not_t h3) (.cons (not_t h3) (.cons (not_t h3) (.cons h4 (.cons ((spec_LimitsOk_L1_ok v_w (len_ eI v_w) 0 (.inr a7) h6).vex) .nil)))))))))))))))
    (fun h3 =>
    .ret (runF_con0 hmix (tape := [.reg [nt, nt], .reg [nt, (.call { ac := [ii], r := .b r1, sc := true }, true), nt, nt, nf, nf, nf, nf, nf, nf, (.br true, true)], .br true, .reg [nt]]) (rr := ii) (by kernel_rfl) (.cons (spec_StructureOk_ok v_s r1 h2) (.cons (Sc.b _ : Sc (.b r1)) (.cons (not_f h3) (.cons (not_f h3) (.cons (not_f h3) (.cons (not_f h3) (.cons (not_f h3) (.cons (not_f h3) (.cons (not_f h3) (.cons (rfl : true = true) .nil))))))))))))

def impl_isLetter (v_c : Int) : Option Bool :=
  if (decide ((97 : Int) ≤ v_c)) = true then
    some (decide (v_c ≤ (122 : Int)))
  else
    some false

theorem impl_isLetter_ok (v_c : Int) : Wp (impl_isLetter v_c) (fun r => Con PP 140 [.n .u8 v_c] [] (.b r) []) := by
  unfold impl_isLetter
  exact .ite (fun h1 =>
    .ret (runF_con0 hmix (tape := [.reg [nt], .reg [nt, nt, nt, nt, nt, (.br true, true), nt]]) (rr := ii) (by kernel_rfl) (.cons h1 (.cons h1 (.cons h1 .nil)))))
    (fun h1 =>
    .ret (runF_con0 hmix (tape := [.reg [nt], .reg [nt, nt, nt, nf, nf, (.br false, true), nt]]) (rr := ii) (by kernel_rfl) (.cons h1 (.cons h1 (.cons h1 .nil)))))

def impl_isDigit (v_c : Int) : Option Bool :=
  if (decide ((48 : Int) ≤ v_c)) = true then
    some (decide (v_c ≤ (57 : Int)))
  else
    some false

theorem impl_isDigit_ok (v_c : Int) : Wp (impl_isDigit v_c) (fun r => Con PP 141 [.n .u8 v_c] [] (.b r) []) := by
  unfold impl_isDigit
  exact .ite (fun h1 =>
    .ret (runF_con0 hmix (tape := [.reg [nt], .reg [nt, nt, nt, nt, nt, (.br true, true), nt]]) (rr := ii) (by kernel_rfl) (.cons h1 (.cons h1 (.cons h1 .nil)))))
    (fun h1 =>
    .ret (runF_con0 hmix (tape := [.reg [nt], .reg [nt, nt, nt, nf, nf, (.br false, true), nt]]) (rr := ii) (by kernel_rfl) (.cons h1 (.cons h1 (.cons h1 .nil)))))

def impl_IsName_L1_head (v_s : ByteArray) (v_t5 : Int) (v_t6 : Int) : S := mkS [(0, .s v_s), (5, .n .i64 v_t5), (6, .n .i64 v_t6)] []

def impl_IsName_L1_ex : ((Unit) ⊕ (Unit)) → Exit
  | .inl _ => .exit 0
  | .inr _ => .ret

def impl_IsName_L1_out (v_s : ByteArray) (v_t5 : Int) : ((Unit) ⊕ (Unit)) → S
  | .inl a => mkS [(0, .s v_s)] []
  | .inr a => mkS [(2, .b false)] []

def impl_IsName_L1_body (v_s : ByteArray) (v_t5 : Int) (v_t6 : Int) : Option ((Int) ⊕ ((Unit) ⊕ (Unit))) :=
  if (decide (v_t6 < v_t5)) = true then
    if 0 ≤ v_t6 ∧ v_t6 < (v_s.size : Nat) then
    impl_isLetter ((v_s.data.toList.getD v_t6.toNat 0).toNat : Int) >>= fun r3 =>
    if r3 = true then
      some (.inl (w64 (v_t6 + (1 : Int))))
    else
      if (v_t6 == (0 : Int)) = true then
        some (.inr (.inr ()))
      else
        impl_isDigit ((v_s.data.toList.getD v_t6.toNat 0).toNat : Int) >>= fun r7 =>
        if r7 = true then
          some (.inl (w64 (v_t6 + (1 : Int))))
        else
          some (.inr (.inr ()))
    else none
  else
    some (.inr (.inl ()))

def impl_IsName_L1 (v_s : ByteArray) (v_t5 : Int) (v_t6 : Int) : Option ((Unit) ⊕ (Unit)) := iter (fun w : Int => impl_IsName_L1_body v_s v_t5 w) v_t6

theorem impl_IsName_L1_body_ok (v_s : ByteArray) (v_t5 : Int) (v_t6 : Int) : Wp (impl_IsName_L1_body v_s v_t5 v_t6) (Sum.elim
    (fun w => VEx PP 33 0 (nodeAt (bodyOf PP 122) [1, 0, 1, 0, 0]) .normal (impl_IsName_L1_head v_s v_t5 v_t6) (impl_IsName_L1_head v_s v_t5 w))
    (fun r => VEx PP 33 0 (nodeAt (bodyOf PP 122) [1, 0, 1, 0, 0]) (impl_IsName_L1_ex r) (impl_IsName_L1_head v_s v_t5 v_t6) (impl_IsName_L1_out v_s v_t5 r))) := by
  unfold impl_IsName_L1_body
  exact .ite (fun h1 =>
      .grd fun h2 =>
       .bnd fun r3 h4 =>
       .ite (fun h5 =>
       .ret ((okC_sound hmix (tape := [.reg [nt], .br true, .reg [nt, nt], .reg [nt, nt, nt, (.call { ac := [ii], r := .b r3, sc := true }, true), nt, nt, nf, nf, nf, nt, nt, nt, nt, nt, nf, (.br false, true)], .br false, .reg [nt, nt], .rst [] [] [(0, ii), (5, ii), (6, ii)]]) (nr := 0) (by kernel_rfl) (.cons h1 (.cons ((h2).1) (.cons ((h2).2) (.cons (impl_isLetter_ok ((v_s.data.toList.getD v_t6.toNat 0).toNat : Int) r3 h4) (.cons (Sc.b _ : Sc (.b r3)) (.cons (not_t h5) (.cons (not_t h5) (.cons (not_t h5) (.cons (not_t h5) (.cons (not_t h5) (.cons (rfl : false = false) .nil))))))))))) (mkS_free _ _) : VEx PP 33 0 (nodeAt (bodyOf PP 122) [1, 0, 1, 0, 0]) .normal (impl_IsName_L1_head v_s v_t5 v_t6) (impl_IsName_L1_head v_s v_t5 (w64 (v_t6 + (1 : Int)))))))
       (fun h5 =>
       .ite (fun h6 =>
        .ret ((okC_sound hmix (tape := [.reg [nt], .br true, .reg [nt, nt], .reg [nt, nt, nt, (.call { ac := [ii], r := .b r3, sc := true }, true), nt, nt, nt, nt, nt, nf, nf, nf, nf, nf, (.br true, true), (.br true, true)], .br true, .reg [nt], .rst [] [] [(2, ii)]]) (nr := 0) (by kernel_rfl) (.cons h1 (.cons ((h2).1) (.cons ((h2).2) (.cons (impl_isLetter_ok ((v_s.data.toList.getD v_t6.toNat 0).toNat : Int) r3 h4) (.cons (Sc.b _ : Sc (.b r3)) (.cons (not_f h5) (.cons (not_f h5) (.cons (not_f h5) (.cons h6 (.cons h6 (.cons h6 (.cons h6 (.cons h6 (.cons (not_f h5) (.cons h6 (.cons (not_f h5) (.cons (rfl : true = true) .nil))))))))))))))))) (mkS_free _ _) : VEx PP 33 0 (nodeAt (bodyOf PP 122) [1, 0, 1, 0, 0]) (.ret) (impl_IsName_L1_head v_s v_t5 v_t6) (impl_IsName_L1_out v_s v_t5 (.inr ())))))
        (fun h6 =>
        .bnd fun r7 h8 =>
         .ite (fun h9 =>
         .ret ((okC_sound hmix (tape := [.reg [nt], .br true, .reg [nt, nt], .reg [nt, nt, nt, (.call { ac := [ii], r := .b r3, sc := true }, true), nt, nt, nt, nt, nt, nt, nt, nt, (.call { ac := [ii], r := .b r7, sc := true }, true), nt, (.br false, true), (.br true, true)], .br false, .reg [nt, nt], .rst [] [] [(0, ii), (5, ii), (6, ii)]]) (nr := 0) (by kernel_rfl) (.cons h1 (.cons ((h2).1) (.cons ((h2).2) (.cons (impl_isLetter_ok ((v_s.data.toList.getD v_t6.toNat 0).toNat : Int) r3 h4) (.cons (Sc.b _ : Sc (.b r3)) (.cons (not_f h5) (.cons (not_f h5) (.cons (not_f h5) (.cons h6 (.cons h6 (.cons h6 (.cons ((h2).1) (.cons ((h2).2) (.cons h6 (.cons (impl_isDigit_ok ((v_s.data.toList.getD v_t6.toNat 0).toNat : Int) r7 h8) (.cons (Sc.b _ : Sc (.b r7)) (.cons h6 (.cons (not_f h5) (.cons h6 (.cons (not_f h5) (.cons (not_t h9) .nil))))))))))))))))))))) (mkS_free _ _) : VEx PP 33 0 (nodeAt (bodyOf PP 122) [1, 0, 1, 0, 0]) .normal (impl_IsName_L1_head v_s v_t5 v_t6) (impl_IsName_L1_head v_s v_t5 (w64 (v_t6 + (1 : Int)))))))
         (fun h9 =>
         .ret ((okC_sound hmix (tape := [.reg [nt], .br true, .reg [nt, nt], .reg [nt, nt, nt, (.call { ac := [ii], r := .b r3, sc := true }, true), nt, nt, nt, nt, nt, nt, nt, nt, (.call { ac := [ii], r := .b r7, sc := true }, true), nt, (.br false, true), (.br true, true)], .br true, .reg [nt], .rst [] [] [(2, ii)]]) (nr := 0) (by kernel_rfl) (.cons h1 (.cons ((h2).1) (.cons ((h2).2) (.cons (impl_isLetter_ok ((v_s.data.toList.getD v_t6.toNat 0).toNat : Int) r3 h4) (.cons (Sc.b _ : Sc (.b r3)) (.cons (not_f h5) (.cons (not_f h5) (.cons (not_f h5) (.cons h6 (.cons h6 (.cons h6 (.cons ((h2).1) (.cons ((h2).2) (.cons h6 (.cons (impl_isDigit_ok ((v_s.data.toList.getD v_t6.toNat 0).toNat : Int) r7 h8) (.cons (Sc.b _ : Sc (.b r7)) (.cons h6 (.cons (not_f h5) (.cons h6 (.cons (not_f h5) (.cons (not_f h9) .nil))))))))))))))))))))) (mkS_free _ _) : VEx PP 33 0 (nodeAt (bodyOf PP 122) [1, 0, 1, 0, 0]) (.ret) (impl_IsName_L1_head v_s v_t5 v_t6) (impl_IsName_L1_out v_s v_t5 (.inr ()))))))))
      (fun h1 =>
      .ret ((okC_sound hmix (tape := [.reg [nt], .br false, .rst [] [] [(0, ii)]]) (nr := 0) (by kernel_rfl) (.cons h1 .nil) (mkS_free _ _) : VEx PP 33 0 (nodeAt (bodyOf PP 122) [1, 0, 1, 0, 0]) (.exit 0) (impl_IsName_L1_head v_s v_t5 v_t6) (impl_IsName_L1_out v_s v_t5 (.inl ())))))

theorem impl_IsName_L1_ok (v_s : ByteArray) (v_t5 : Int) (v_t6 : Int) : ∀ r, impl_IsName_L1 v_s v_t5 v_t6 = some r → VLoop PP 33 0 (nodeAt (bodyOf PP 122) [1, 0, 1, 0, 0]) (impl_IsName_L1_ex r) (impl_IsName_L1_head v_s v_t5 v_t6) (impl_IsName_L1_out v_s v_t5 r) := fun r h =>
  iter_ok (head := fun w : Int => impl_IsName_L1_head v_s v_t5 w) (ex := impl_IsName_L1_ex) (out := impl_IsName_L1_out v_s v_t5) (by intro r; unfold impl_IsName_L1_ex; split <;> simp) (fun w => impl_IsName_L1_body_ok v_s v_t5 w) v_t6 r h

def impl_IsName (v_s : ByteArray) : Option Bool :=
  impl_IsName_L1 v_s (v_s.size : Int) 0 >>= fun r1 =>
  match r1 with
  | .inl a3 => (if (!(v_s.toList == (⟨#[]⟩ : ByteArray).toList)) = true then
      some (decide ((v_s.size : Int) ≤ (8 : Int)))
    else
      some false)
  | .inr a3 => (some false)

theorem impl_IsName_ok (v_s : ByteArray) : Wp (impl_IsName v_s) (fun r => Con PP 122 [.s v_s] [] (.b r) []) := by
  unfold impl_IsName
  exact .bnd fun r1 h2 =>
    match r1, h2 with
    | .inl a3, h2 => (.ite (fun h4 =>
     .ret (runF_con0 hmix (tape := [.reg [nt], .reg [nt, nt, nt], .rst [] [] [(0, ii), (5, ii), (6, ii)], .sub (.exit 0) [(0, .s v_s)] [], .reg [nt, nt, nt, nt, nt, nt, (.br true, true), nt]]) (rr := ii) (by kernel_rfl) (.cons ((impl_IsName_L1_ok v_s (v_s.size : Int) 0 (.inl a3) h2).vex) (.cons h4 (.cons h4 (.cons h4 (.cons h4 .nil)))))))
     (fun h4 =>
     .ret (runF_con0 hmix (tape := [.reg [nt], .reg [nt, nt, nt], .rst [] [] [(0, ii), (5, ii), (6, ii)], .sub (.exit 0) [(0, .s v_s)] [], .reg [nt, nt, nt, nf, nf, nf, (.br false, true), nt]]) (rr := ii) (by kernel_rfl) (.cons ((impl_IsName_L1_ok v_s (v_s.size : Int) 0 (.inl a3) h2).vex) (.cons h4 (.cons h4 (.cons h4 (.cons h4 .nil))))))))
    | .inr a3, h2 => (.ret (runF_con0 hmix (tape := [.reg [nt], .reg [nt, nt, nt], .rst [] [] [(0, ii), (5, ii), (6, ii)], .sub (.ret) [(2, .b false)] []]) (rr := ii) (by kernel_rfl) (.cons ((impl_IsName_L1_ok v_s (v_s.size : Int) 0 (.inr a3) h2).vex) .nil)))

def impl_isPlace (v_n : Int) : Option Bool :=
  if (decide ((-50 : Int) ≤ v_n)) = true then
    some (decide (v_n ≤ (50 : Int)))
  else
    some false

theorem impl_isPlace_ok (v_n : Int) : Wp (impl_isPlace v_n) (fun r => Con PP 123 [.n .i64 v_n] [] (.b r) []) := by
  unfold impl_isPlace
  exact .ite (fun h1 =>
    .ret (runF_con0 hmix (tape := [.reg [nt], .reg [nt, nt, nt, nt, nt, (.br true, true), nt]]) (rr := ii) (by kernel_rfl) (.cons h1 (.cons h1 (.cons h1 .nil)))))
    (fun h1 =>
    .ret (runF_con0 hmix (tape := [.reg [nt], .reg [nt, nt, nt, nf, nf, (.br false, true), nt]]) (rr := ii) (by kernel_rfl) (.cons h1 (.cons h1 (.cons h1 .nil)))))

def impl_JointOk (v_j : TJoint) : Option Bool :=
  impl_IsName v_j.fName >>= fun r1 =>
  if r1 = true then
    impl_isPlace v_j.fX >>= fun r4 =>
    if r4 = true then
      impl_isPlace v_j.fY >>= fun r7 =>
      some r7
    else
      some false
  else
    some false

theorem impl_JointOk_ok (v_j : TJoint) : Wp (impl_JointOk v_j) (fun r => Con PP 97 [.agg [.s v_j.fName, .n .i64 v_j.fX, .n .i64 v_j.fY, .b v_j.fFixed]] [] (.b r) []) := by
  unfold impl_JointOk
  exact .bnd fun r1 h2 =>
    .ite (fun h3 =>
    .bnd fun r4 h5 =>
     .ite (fun h6 =>
     .bnd fun r7 h8 =>
      .ret (runF_con0 hmix (tape := [.reg [nt, nt], .reg [nt, nt, (.call { ac := [ii], r := .b r1, sc := true }, true), nt, nt, nt, (.call { ac := [ii], r := .b r4, sc := true }, true), (.br true, true), nt, nt, nt, (.call { ac := [ii], r := .b r7, sc := true }, true), (.br true, true), nt]]) (rr := ii) (by kernel_rfl) (.cons (impl_IsName_ok v_j.fName r1 h2) (.cons (Sc.b _ : Sc (.b r1)) (.cons h3 (.cons h3 (.cons h3 (.cons (impl_isPlace_ok v_j.fX r4 h5) (.cons (Sc.b _ : Sc (.b r4)) (.cons h3 (.cons h6 (.cons h6 (.cons h6 (.cons (impl_isPlace_ok v_j.fY r7 h8) (.cons (Sc.b _ : Sc (.b r7)) (.cons h6 .nil))))))))))))))))
     (fun h6 =>
     .ret (runF_con0 hmix (tape := [.reg [nt, nt], .reg [nt, nt, (.call { ac := [ii], r := .b r1, sc := true }, true), nt, nt, nt, (.call { ac := [ii], r := .b r4, sc := true }, true), (.br true, true), nt, nf, nf, nf, (.br false, true), nt]]) (rr := ii) (by kernel_rfl) (.cons (impl_IsName_ok v_j.fName r1 h2) (.cons (Sc.b _ : Sc (.b r1)) (.cons h3 (.cons h3 (.cons h3 (.cons (impl_isPlace_ok v_j.fX r4 h5) (.cons (Sc.b _ : Sc (.b r4)) (.cons h3 (.cons h6 (.cons h6 (.cons h6 (.cons h6 .nil)))))))))))))))
    (fun h3 =>
    .ret (runF_con0 hmix (tape := [.reg [nt, nt], .reg [nt, nt, (.call { ac := [ii], r := .b r1, sc := true }, true), nt, nf, nf, nf, (.br false, true), nt, nf, nf, nf, nt, nt]]) (rr := ii) (by kernel_rfl) (.cons (impl_IsName_ok v_j.fName r1 h2) (.cons (Sc.b _ : Sc (.b r1)) (.cons h3 (.cons h3 (.cons h3 (.cons h3 (.cons (rfl : false = false) (.cons (rfl : false = false) (.cons (rfl : false = false) .nil)))))))))))

def impl_JointNamed_1 (v_j : TJoint) (c0 : ByteArray) : Option Bool :=
  some (v_j.fName.toList == c0.toList)

theorem impl_JointNamed_1_ok (v_j : TJoint) (c0 : ByteArray) : Wp (impl_JointNamed_1 v_j c0) (fun r => Con PP 125 [.agg [.s v_j.fName, .n .i64 v_j.fX, .n .i64 v_j.fY, .b v_j.fFixed], .ipt 1 [[.s c0]] 0 0] [] (.b r) []) := by
  unfold impl_JointNamed_1
  exact .ret (runF_con0 hmix (tape := [.reg [nt, nt], .reg [nt, nt, nt, nt, nt]]) (rr := ii) (by kernel_rfl) .nil)

def slices_IndexFunc_L1_head (v_s : (List TJoint)) (v_f__ : ByteArray) (v_t7 : Int) (v_t8 : Int) : S := mkS [(0, .isl 4 (v_s.map eTJoint)), (1, .fn 125 [.ipt 1 [[.s v_f__]] 0 0]), (7, .n .i64 v_t7), (8, .n .i64 v_t8)] []

def slices_IndexFunc_L1_ex : ((Unit) ⊕ (Int)) → Exit
  | .inl _ => .exit 0
  | .inr _ => .ret

def slices_IndexFunc_L1_out (v_s : (List TJoint)) (v_f__ : ByteArray) (v_t7 : Int) : ((Unit) ⊕ (Int)) → S
  | .inl a => mkS [] []
  | .inr a => mkS [(4, .n .i64 a)] []

def slices_IndexFunc_L1_body (v_s : (List TJoint)) (v_f__ : ByteArray) (v_t7 : Int) (v_t8 : Int) : Option ((Int) ⊕ ((Unit) ⊕ (Int))) :=
  if (decide (v_t8 < v_t7)) = true then
    if 0 ≤ v_t8 ∧ v_t8 < v_s.length then
    v_s[v_t8.toNat]? >>= fun x3 =>
    impl_JointNamed_1 x3 v_f__ >>= fun r5 =>
    if r5 = true then
      some (.inr (.inr v_t8))
    else
      some (.inl (w64 (v_t8 + (1 : Int))))
    else none
  else
    some (.inr (.inl ()))

def slices_IndexFunc_L1 (v_s : (List TJoint)) (v_f__ : ByteArray) (v_t7 : Int) (v_t8 : Int) : Option ((Unit) ⊕ (Int)) := iter (fun w : Int => slices_IndexFunc_L1_body v_s v_f__ v_t7 w) v_t8

theorem slices_IndexFunc_L1_body_ok (v_s : (List TJoint)) (v_f__ : ByteArray) (v_t7 : Int) (v_t8 : Int) : Wp (slices_IndexFunc_L1_body v_s v_f__ v_t7 v_t8) (Sum.elim
    (fun w => VEx PP 19 0 (nodeAt (bodyOf PP 124) [1, 0, 1, 0, 0]) .normal (slices_IndexFunc_L1_head v_s v_f__ v_t7 v_t8) (slices_IndexFunc_L1_head v_s v_f__ v_t7 w))
    (fun r => VEx PP 19 0 (nodeAt (bodyOf PP 124) [1, 0, 1, 0, 0]) (slices_IndexFunc_L1_ex r) (slices_IndexFunc_L1_head v_s v_f__ v_t7 v_t8) (slices_IndexFunc_L1_out v_s v_f__ v_t7 r))) := by
  unfold slices_IndexFunc_L1_body
  exact .ite (fun h1 =>
      .grd fun h2 =>
       .bnd fun x3 h4 =>
       .bnd fun r5 h6 =>
       .ite (fun h7 =>
       .ret ((okC_sound hmix (tape := [.reg [nt], .br true, .reg [nt, nt], .reg [nt, nt, nt, nt, (.el (eTJoint x3), true), (.call { ac := [ii, ii], r := .b r5, sc := true }, true)], .br true, .reg [nt, nt], .rst [] [] [(4, ii)]]) (nr := 0) (by kernel_rfl) (.cons h1 (.cons ((h2).1) (.cons (lt_mapI (h2).2 : v_t8 < ((v_s.map eTJoint).length : Nat)) (.cons (map_get h4 : (v_s.map eTJoint)[v_t8.toNat]? = some (eTJoint x3)) (.cons (impl_JointNamed_1_ok x3 v_f__ r5 h6) (.cons (Sc.b _ : Sc (.b r5)) (.cons h7 .nil))))))) (mkS_free _ _) : VEx PP 19 0 (nodeAt (bodyOf PP 124) [1, 0, 1, 0, 0]) (.ret) (slices_IndexFunc_L1_head v_s v_f__ v_t7 v_t8) (slices_IndexFunc_L1_out v_s v_f__ v_t7 (.inr v_t8)))))
       (fun h7 =>
       .ret ((okC_sound hmix (tape := [.reg [nt], .br true, .reg [nt, nt], .reg [nt, nt, nt, nt, (.el (eTJoint x3), true), (.call { ac := [ii, ii], r := .b r5, sc := true }, true)], .br false, .reg [nt, nt], .rst [] [] [(0, ii), (1, .comp [.c0 .id]), (7, ii), (8, ii)]]) (nr := 0) (by kernel_rfl) (.cons h1 (.cons ((h2).1) (.cons (lt_mapI (h2).2 : v_t8 < ((v_s.map eTJoint).length : Nat)) (.cons (map_get h4 : (v_s.map eTJoint)[v_t8.toNat]? = some (eTJoint x3)) (.cons (impl_JointNamed_1_ok x3 v_f__ r5 h6) (.cons (Sc.b _ : Sc (.b r5)) (.cons h7 .nil))))))) (mkS_free _ _) : VEx PP 19 0 (nodeAt (bodyOf PP 124) [1, 0, 1, 0, 0]) .normal (slices_IndexFunc_L1_head v_s v_f__ v_t7 v_t8) (slices_IndexFunc_L1_head v_s v_f__ v_t7 (w64 (v_t8 + (1 : Int))))))))
      (fun h1 =>
      .ret ((okC_sound hmix (tape := [.reg [nt], .br false, .rst [] [] []]) (nr := 0) (by kernel_rfl) (.cons h1 .nil) (mkS_free _ _) : VEx PP 19 0 (nodeAt (bodyOf PP 124) [1, 0, 1, 0, 0]) (.exit 0) (slices_IndexFunc_L1_head v_s v_f__ v_t7 v_t8) (slices_IndexFunc_L1_out v_s v_f__ v_t7 (.inl ())))))

theorem slices_IndexFunc_L1_ok (v_s : (List TJoint)) (v_f__ : ByteArray) (v_t7 : Int) (v_t8 : Int) : ∀ r, slices_IndexFunc_L1 v_s v_f__ v_t7 v_t8 = some r → VLoop PP 19 0 (nodeAt (bodyOf PP 124) [1, 0, 1, 0, 0]) (slices_IndexFunc_L1_ex r) (slices_IndexFunc_L1_head v_s v_f__ v_t7 v_t8) (slices_IndexFunc_L1_out v_s v_f__ v_t7 r) := fun r h =>
  iter_ok (head := fun w : Int => slices_IndexFunc_L1_head v_s v_f__ v_t7 w) (ex := slices_IndexFunc_L1_ex) (out := slices_IndexFunc_L1_out v_s v_f__ v_t7) (by intro r; unfold slices_IndexFunc_L1_ex; split <;> simp) (fun w => slices_IndexFunc_L1_body_ok v_s v_f__ v_t7 w) v_t8 r h

def slices_IndexFunc (v_s : (List TJoint)) (v_f_c0 : ByteArray) : Option Int :=
  slices_IndexFunc_L1 v_s v_f_c0 (len_ eTJoint v_s) 0 >>= fun r1 =>
  match r1 with
  | .inl a3 => (some (-1))
  | .inr a3 => (some a3)

theorem slices_IndexFunc_ok (v_s : (List TJoint)) (v_f_c0 : ByteArray) : Wp (slices_IndexFunc v_s v_f_c0) (fun r => Con PP 124 [.isl 4 (v_s.map eTJoint), .fn 125 [.ipt 1 [[.s v_f_c0]] 0 0]] [] (.n .i64 r) []) := by
  unfold slices_IndexFunc
  exact .bnd fun r1 h2 =>
    match r1, h2 with
    | .inl a3, h2 => (.ret (runF_con0 hmix (tape := [.reg [nt], .reg [nt, nt, nt], .rst [] [] [(0, ii), (1, .comp [.c0 .id]), (7, ii), (8, ii)], .sub (.exit 0) [] [], .reg [nt]]) (rr := ii) (by kernel_rfl) (.cons ((slices_IndexFunc_L1_ok v_s v_f_c0 (len_ eTJoint v_s) 0 (.inl a3) h2).vex) .nil)))
    | .inr a3, h2 => (.ret (runF_con0 hmix (tape := [.reg [nt], .reg [nt, nt, nt], .rst [] [] [(0, ii), (1, .comp [.c0 .id]), (7, ii), (8, ii)], .sub (.ret) [(4, .n .i64 a3)] []]) (rr := ii) (by kernel_rfl) (.cons ((slices_IndexFunc_L1_ok v_s v_f_c0 (len_ eTJoint v_s) 0 (.inr a3) h2).vex) .nil)))

def impl_JointNamed (v_s : TStructure) (v_name : ByteArray) : Option Int :=
  slices_IndexFunc v_s.fJoints v_name >>= fun r1 =>
  some r1

theorem impl_JointNamed_ok (v_s : TStructure) (v_name : ByteArray) : Wp (impl_JointNamed v_s v_name) (fun r => Con PP 98 [.agg [.isl 4 (v_s.fJoints.map eTJoint), .isl 3 (v_s.fMembers.map eTMember)], .s v_name] [] (.n .i64 r) []) := by
  unfold impl_JointNamed
  exact .bnd fun r1 h2 =>
    .ret (runF_con0 hmix (tape := [.reg [nt, nt, nt], .reg [nt, nt, nt, (.call { ac := [ii, .comp [.ptr [.id]]], rds := [1], r := .n .i64 r1, sc := true }, true), nt]]) (rr := ii) (by kernel_rfl) (.cons (pure_es1 (eS_pure v_name) : PureEs [[.s v_name]]) (.cons (slices_IndexFunc_ok v_s.fJoints v_name r1 h2) (.cons (Sc.n _ _ : Sc (.n .i64 r1)) .nil))))

def impl_Structure_memberOk (v_s : TStructure) (v_m : TMember) : Option Bool :=
  if (decide (v_m.fA < (0 : Int))) = true then
    some false
  else
    if (decide ((len_ eTJoint v_s.fJoints) ≤ v_m.fA)) = true then
      some false
    else
      if (decide (v_m.fB < (0 : Int))) = true then
        some false
      else
        if (decide ((len_ eTJoint v_s.fJoints) ≤ v_m.fB)) = true then
          some false
        else
          if (decide (v_m.fKind < (1 : Int))) = true then
            some false
          else
            if (decide ((3 : Int) < v_m.fKind)) = true then
              some false
            else
              if 0 ≤ v_m.fA ∧ v_m.fA < v_s.fJoints.length then
              v_s.fJoints[v_m.fA.toNat]? >>= fun x8 =>
              if 0 ≤ v_m.fB ∧ v_m.fB < v_s.fJoints.length then
              v_s.fJoints[v_m.fB.toNat]? >>= fun x11 =>
              if (x8.fX != x11.fX) = true then
                if x8.fFixed = true then
                  some (!x11.fFixed)
                else
                  some true
              else
                if (x8.fY != x11.fY) = true then
                  if x8.fFixed = true then
                    some (!x11.fFixed)
                  else
                    some true
                else
                  some false
              else none
              else none

theorem impl_Structure_memberOk_ok (v_s : TStructure) (v_m : TMember) : Wp (impl_Structure_memberOk v_s v_m) (fun r => Con PP 101 [.ipt 2 [[.isl 4 (v_s.fJoints.map eTJoint), .isl 3 (v_s.fMembers.map eTMember)]] 0 0, .agg [.n .i64 v_m.fA, .n .i64 v_m.fB, .n .i64 v_m.fKind]] [] (.b r) []) := by
  unfold impl_Structure_memberOk
  exact .ite (fun h1 =>
    .ret (runF_con0 hmix (tape := [.reg [nt, nt], .reg [nt, nt, nt, nt, nt, nt], .reg [nt, nt, nt, nt, nf, nf, nf, nf, (.br true, true), nt, nf, nf, nf, nt, nt, nf, nf, nf, nf, nt, nt, nf, nf, nf, nt, nt, nf, nf, nf, nt], .br true, .reg [nt]]) (rr := ii) (by kernel_rfl) (.cons h1 (.cons h1 (.cons h1 (.cons h1 (.cons h1 (.cons (rfl : true = true) (.cons (rfl : true = true) (.cons (rfl : true = true) (.cons (rfl : true = true) (.cons (rfl : true = true) (.cons (rfl : true = true) (.cons (rfl : true = true) (.cons (rfl : true = true) (.cons (rfl : true = true) (.cons (rfl : true = true) (.cons (rfl : true = true) (.cons (rfl : true = true) (.cons (rfl : true = true) (.cons (rfl : true = true) .nil)))))))))))))))))))))
    (fun h1 =>
    .ite (fun h2 =>
     .ret (runF_con0 hmix (tape := [.reg [nt, nt], .reg [nt, nt, nt, nt, nt, nt], .reg [nt, nt, nt, nt, nt, nt, nt, nt, (.br false, true), nt, nf, nf, nf, (.br true, true), nt, nf, nf, nf, nf, nt, nt, nf, nf, nf, nt, nt, nf, nf, nf, nt], .br true, .reg [nt]]) (rr := ii) (by kernel_rfl) (.cons h1 (.cons h1 (.cons h1 (.cons h1 (.cons h1 (.cons h2 (.cons h2 (.cons h2 (.cons h2 (.cons (rfl : true = true) (.cons (rfl : true = true) (.cons (rfl : true = true) (.cons (rfl : true = true) (.cons (rfl : true = true) (.cons (rfl : true = true) (.cons (rfl : true = true) (.cons (rfl : true = true) (.cons (rfl : true = true) (.cons (rfl : true = true) (.cons (rfl : true = true) .nil))))))))))))))))))))))
     (fun h2 =>
     .ite (fun h3 =>
      .ret (runF_con0 hmix (tape := [.reg [nt, nt], .reg [nt, nt, nt, nt, nt, nt], .reg [nt, nt, nt, nt, nt, nt, nt, nt, (.br false, true), nt, nt, nt, nt, (.br false, true), nt, nf, nf, nf, nf, (.br true, true), nt, nf, nf, nf, nt, nt, nf, nf, nf, nt], .br true, .reg [nt]]) (rr := ii) (by kernel_rfl) (.cons h1 (.cons h1 (.cons h1 (.cons h1 (.cons h1 (.cons h2 (.cons h2 (.cons h2 (.cons h2 (.cons h3 (.cons h3 (.cons h3 (.cons h3 (.cons h3 (.cons (rfl : true = true) (.cons (rfl : true = true) (.cons (rfl : true = true) (.cons (rfl : true = true) (.cons (rfl : true = true) (.cons (rfl : true = true) (.cons (rfl : true = true) .nil)))))))))))))))))))))))
      (fun h3 =>
      .ite (fun h4 =>
       .ret (runF_con0 hmix (tape := [.reg [nt, nt], .reg [nt, nt, nt, nt, nt, nt], .reg [nt, nt, nt, nt, nt, nt, nt, nt, (.br false, true), nt, nt, nt, nt, (.br false, true), nt, nt, nt, nt, nt, (.br false, true), nt, nf, nf, nf, (.br true, true), nt, nf, nf, nf, nt], .br true, .reg [nt]]) (rr := ii) (by kernel_rfl) (.cons h1 (.cons h1 (.cons h1 (.cons h1 (.cons h1 (.cons h2 (.cons h2 (.cons h2 (.cons h2 (.cons h3 (.cons h3 (.cons h3 (.cons h3 (.cons h3 (.cons h4 (.cons h4 (.cons h4 (.cons h4 (.cons (rfl : true = true) (.cons (rfl : true = true) (.cons (rfl : true = true) (.cons (rfl : true = true) .nil))))))))))))))))))))))))
       (fun h4 =>
       .ite (fun h5 =>
        .ret (runF_con0 hmix (tape := [.reg [nt, nt], .reg [nt, nt, nt, nt, nt, nt], .reg [nt, nt, nt, nt, nt, nt, nt, nt, (.br false, true), nt, nt, nt, nt, (.br false, true), nt, nt, nt, nt, nt, (.br false, true), nt, nt, nt, nt, (.br false, true), nt, nf, nf, nf, (.br true, true)], .br true, .reg [nt]]) (rr := ii) (by kernel_rfl) (.cons h1 (.cons h1 (.cons h1 (.cons h1 (.cons h1 (.cons h2 (.cons h2 (.cons h2 (.cons h2 (.cons h3 (.cons h3 (.cons h3 (.cons h3 (.cons h3 (.cons h4 (.cons h4 (.cons h4 (.cons h4 (.cons h5 (.cons h5 (.cons h5 (.cons h5 (.cons (rfl : true = true) .nil)))))))))))))))))))))))))
        (fun h5 =>
        .ite (fun h6 =>
         .ret (runF_con0 hmix (tape := [.reg [nt, nt], .reg [nt, nt, nt, nt, nt, nt], .reg [nt, nt, nt, nt, nt, nt, nt, nt, (.br false, true), nt, nt, nt, nt, (.br false, true), nt, nt, nt, nt, nt, (.br false, true), nt, nt, nt, nt, (.br false, true), nt, nt, nt, nt, (.br false, true)], .br true, .reg [nt]]) (rr := ii) (by kernel_rfl) (.cons h1 (.cons h1 (.cons h1 (.cons h1 (.cons h1 (.cons h2 (.cons h2 (.cons h2 (.cons h2 (.cons h3 (.cons h3 (.cons h3 (.cons h3 (.cons h3 (.cons h4 (.cons h4 (.cons h4 (.cons h4 (.cons h5 (.cons h5 (.cons h5 (.cons h5 (.cons h6 .nil)))))))))))))))))))))))))
         (fun h6 =>
         .grd fun h7 =>
          .bnd fun x8 h9 =>
          .grd fun h10 =>
          .bnd fun x11 h12 =>
          .ite (fun h13 =>
          .ite (fun h14 =>
           .ret (runF_con0 hmix (tape := [.reg [nt, nt], .reg [nt, nt, nt, nt, nt, nt], .reg [nt, nt, nt, nt, nt, nt, nt, nt, (.br false, true), nt, nt, nt, nt, (.br false, true), nt, nt, nt, nt, nt, (.br false, true), nt, nt, nt, nt, (.br false, true), nt, nt, nt, nt, (.br false, true)], .br false, .reg [nt, nt, nt, nt, nt, nt, nt, (.el (eTJoint x8), true), nt, nt, nt, nt, nt, nt, nt, (.el (eTJoint x11), true), nt, nt, nt, nt], .reg [nt, nt, nt, nt, nt, nt, nf, nf, nf, nf, nf, (.br true, true), nt, nt, nt, nt, nt, nt, (.br true, true), nt, nt, nt]]) (rr := ii) (by kernel_rfl) (.cons h1 (.cons h1 (.cons h1 (.cons h1 (.cons h1 (.cons h2 (.cons h2 (.cons h2 (.cons h2 (.cons h3 (.cons h3 (.cons h3 (.cons h3 (.cons h3 (.cons h4 (.cons h4 (.cons h4 (.cons h4 (.cons h5 (.cons h5 (.cons h5 (.cons h5 (.cons h6 (.cons ((h7).1) (.cons (lt_mapI (h7).2 : v_m.fA < ((v_s.fJoints.map eTJoint).length : Nat)) (.cons (map_get h9 : (v_s.fJoints.map eTJoint)[v_m.fA.toNat]? = some (eTJoint x8)) (.cons ((h10).1) (.cons (lt_mapI (h10).2 : v_m.fB < ((v_s.fJoints.map eTJoint).length : Nat)) (.cons (map_get h12 : (v_s.fJoints.map eTJoint)[v_m.fB.toNat]? = some (eTJoint x11)) (.cons h13 (.cons h13 (.cons h13 (.cons h13 (.cons h13 (.cons h13 (.cons (rfl : true = true) (.cons (rfl : true = true) (.cons (rfl : true = true) (.cons h14 (.cons h14 (.cons (rfl : true = true) (.cons h14 (.cons (rfl : true = true) .nil)))))))))))))))))))))))))))))))))))))))))))))
           (fun h14 =>
           .ret (runF_con0 hmix (tape := [.reg [nt, nt], .reg [nt, nt, nt, nt, nt, nt], .reg [nt, nt, nt, nt, nt, nt, nt, nt, (.br false, true), nt, nt, nt, nt, (.br false, true), nt, nt, nt, nt, nt, (.br false, true), nt, nt, nt, nt, (.br false, true), nt, nt, nt, nt, (.br false, true)], .br false, .reg [nt, nt, nt, nt, nt, nt, nt, (.el (eTJoint x8), true), nt, nt, nt, nt, nt, nt, nt, (.el (eTJoint x11), true), nt, nt, nt, nt], .reg [nt, nt, nt, nt, nt, nt, nf, nf, nf, nf, nf, (.br true, true), nt, nt, nt, nt, nf, nf, (.br false, true), nt, nt, nt]]) (rr := ii) (by kernel_rfl) (.cons h1 (.cons h1 (.cons h1 (.cons h1 (.cons h1 (.cons h2 (.cons h2 (.cons h2 (.cons h2 (.cons h3 (.cons h3 (.cons h3 (.cons h3 (.cons h3 (.cons h4 (.cons h4 (.cons h4 (.cons h4 (.cons h5 (.cons h5 (.cons h5 (.cons h5 (.cons h6 (.cons ((h7).1) (.cons (lt_mapI (h7).2 : v_m.fA < ((v_s.fJoints.map eTJoint).length : Nat)) (.cons (map_get h9 : (v_s.fJoints.map eTJoint)[v_m.fA.toNat]? = some (eTJoint x8)) (.cons ((h10).1) (.cons (lt_mapI (h10).2 : v_m.fB < ((v_s.fJoints.map eTJoint).length : Nat)) (.cons (map_get h12 : (v_s.fJoints.map eTJoint)[v_m.fB.toNat]? = some (eTJoint x11)) (.cons h13 (.cons h13 (.cons h13 (.cons h13 (.cons h13 (.cons h13 (.cons (rfl : true = true) (.cons (rfl : true = true) (.cons (rfl : true = true) (.cons h14 (.cons h14 (.cons (rfl : true = true) (.cons h14 (.cons (rfl : true = true) .nil))))))))))))))))))))))))))))))))))))))))))))))
          (fun h13 =>
          .ite (fun h14 =>
           .ite (fun h15 =>
            .ret (runF_con0 hmix (tape := [.reg [nt, nt], .reg [nt, nt, nt, nt, nt, nt], .reg [nt, nt, nt, nt, nt, nt, nt, nt, (.br false, true), nt, nt, nt, nt, (.br false, true), nt, nt, nt, nt, nt, (.br false, true), nt, nt, nt, nt, (.br false, true), nt, nt, nt, nt, (.br false, true)], .br false, .reg [nt, nt, nt, nt, nt, nt, nt, (.el (eTJoint x8), true), nt, nt, nt, nt, nt, nt, nt, (.el (eTJoint x11), true), nt, nt, nt, nt], .reg [nt, nt, nt, nt, nt, nt, nt, nt, nt, nt, nt, (.br false, true), nt, nt, nt, nt, nt, nt, (.br true, true), nt, (.br true, true), nt]]) (rr := ii) (by kernel_rfl) (.cons h1 (.cons h1 (.cons h1 (.cons h1 (.cons h1 (.cons h2 (.cons h2 (.cons h2 (.cons h2 (.cons h3 (.cons h3 (.cons h3 (.cons h3 (.cons h3 (.cons h4 (.cons h4 (.cons h4 (.cons h4 (.cons h5 (.cons h5 (.cons h5 (.cons h5 (.cons h6 (.cons ((h7).1) (.cons (lt_mapI (h7).2 : v_m.fA < ((v_s.fJoints.map eTJoint).length : Nat)) (.cons (map_get h9 : (v_s.fJoints.map eTJoint)[v_m.fA.toNat]? = some (eTJoint x8)) (.cons ((h10).1) (.cons (lt_mapI (h10).2 : v_m.fB < ((v_s.fJoints.map eTJoint).length : Nat)) (.cons (map_get h12 : (v_s.fJoints.map eTJoint)[v_m.fB.toNat]? = some (eTJoint x11)) (.cons h13 (.cons h13 (.cons h13 (.cons h13 (.cons h13 (.cons h13 (.cons h14 (.cons h14 (.cons h14 (.cons h15 (.cons h15 (.cons h14 (.cons h15 (.cons h14 (.cons h14 .nil))))))))))))))))))))))))))))))))))))))))))))))
            (fun h15 =>
            .ret (runF_con0 hmix (tape := [.reg [nt, nt], .reg [nt, nt, nt, nt, nt, nt], .reg [nt, nt, nt, nt, nt, nt, nt, nt, (.br false, true), nt, nt, nt, nt, (.br false, true), nt, nt, nt, nt, nt, (.br false, true), nt, nt, nt, nt, (.br false, true), nt, nt, nt, nt, (.br false, true)], .br false, .reg [nt, nt, nt, nt, nt, nt, nt, (.el (eTJoint x8), true), nt, nt, nt, nt, nt, nt, nt, (.el (eTJoint x11), true), nt, nt, nt, nt], .reg [nt, nt, nt, nt, nt, nt, nt, nt, nt, nt, nt, (.br false, true), nt, nt, nt, nt, nf, nf, (.br false, true), nt, (.br true, true), nt]]) (rr := ii) (by kernel_rfl) (.cons h1 (.cons h1 (.cons h1 (.cons h1 (.cons h1 (.cons h2 (.cons h2 (.cons h2 (.cons h2 (.cons h3 (.cons h3 (.cons h3 (.cons h3 (.cons h3 (.cons h4 (.cons h4 (.cons h4 (.cons h4 (.cons h5 (.cons h5 (.cons h5 (.cons h5 (.cons h6 (.cons ((h7).1) (.cons (lt_mapI (h7).2 : v_m.fA < ((v_s.fJoints.map eTJoint).length : Nat)) (.cons (map_get h9 : (v_s.fJoints.map eTJoint)[v_m.fA.toNat]? = some (eTJoint x8)) (.cons ((h10).1) (.cons (lt_mapI (h10).2 : v_m.fB < ((v_s.fJoints.map eTJoint).length : Nat)) (.cons (map_get h12 : (v_s.fJoints.map eTJoint)[v_m.fB.toNat]? = some (eTJoint x11)) (.cons h13 (.cons h13 (.cons h13 (.cons h13 (.cons h13 (.cons h13 (.cons h14 (.cons h14 (.cons h14 (.cons h15 (.cons h15 (.cons h14 (.cons h15 (.cons h14 (.cons h14 .nil)))))))))))))))))))))))))))))))))))))))))))))))
           (fun h14 =>
           .ret (runF_con0 hmix (tape := [.reg [nt, nt], .reg [nt, nt, nt, nt, nt, nt], .reg [nt, nt, nt, nt, nt, nt, nt, nt, (.br false, true), nt, nt, nt, nt, (.br false, true), nt, nt, nt, nt, nt, (.br false, true), nt, nt, nt, nt, (.br false, true), nt, nt, nt, nt, (.br false, true)], .br false, .reg [nt, nt, nt, nt, nt, nt, nt, (.el (eTJoint x8), true), nt, nt, nt, nt, nt, nt, nt, (.el (eTJoint x11), true), nt, nt, nt, nt], .reg [nt, nt, nt, nt, nt, nt, nt, nt, nt, nt, nt, (.br false, true), nt, nf, nf, nf, nt, nt, nf, nf, (.br false, true), nt]]) (rr := ii) (by kernel_rfl) (.cons h1 (.cons h1 (.cons h1 (.cons h1 (.cons h1 (.cons h2 (.cons h2 (.cons h2 (.cons h2 (.cons h3 (.cons h3 (.cons h3 (.cons h3 (.cons h3 (.cons h4 (.cons h4 (.cons h4 (.cons h4 (.cons h5 (.cons h5 (.cons h5 (.cons h5 (.cons h6 (.cons ((h7).1) (.cons (lt_mapI (h7).2 : v_m.fA < ((v_s.fJoints.map eTJoint).length : Nat)) (.cons (map_get h9 : (v_s.fJoints.map eTJoint)[v_m.fA.toNat]? = some (eTJoint x8)) (.cons ((h10).1) (.cons (lt_mapI (h10).2 : v_m.fB < ((v_s.fJoints.map eTJoint).length : Nat)) (.cons (map_get h12 : (v_s.fJoints.map eTJoint)[v_m.fB.toNat]? = some (eTJoint x11)) (.cons h13 (.cons h13 (.cons h13 (.cons h13 (.cons h13 (.cons h13 (.cons h14 (.cons h14 (.cons h14 (.cons h14 (.cons h14 (.cons h14 .nil))))))))))))))))))))))))))))))))))))))))))))))))))

def impl_StructureOk_1 (v_m : TMember) (c0 : TStructure) : Option Bool :=
  impl_Structure_memberOk c0 v_m >>= fun r1 =>
  some (!r1)

theorem impl_StructureOk_1_ok (v_m : TMember) (c0 : TStructure) : Wp (impl_StructureOk_1 v_m c0) (fun r => Con PP 100 [.agg [.n .i64 v_m.fA, .n .i64 v_m.fB, .n .i64 v_m.fKind], .ipt 2 [[.isl 4 (c0.fJoints.map eTJoint), .isl 3 (c0.fMembers.map eTMember)]] 0 0] [] (.b r) []) := by
  unfold impl_StructureOk_1
  exact .bnd fun r1 h2 =>
    .ret (runF_con0 hmix (tape := [.reg [nt, nt], .reg [nt, (.call { ac := [ii, ii], r := .b r1, sc := true }, true), nt, nt]]) (rr := ii) (by kernel_rfl) (.cons (impl_Structure_memberOk_ok c0 v_m r1 h2) (.cons (Sc.b _ : Sc (.b r1)) .nil)))

def slices_IndexFunc'_L1_head (v_s : (List TMember)) (v_f__ : (List TJoint)) (v_f__' : (List TMember)) (v_t7 : Int) (v_t8 : Int) : S := mkS [(0, .isl 3 (v_s.map eTMember)), (1, .fn 100 [.ipt 2 [[.isl 4 (v_f__.map eTJoint), .isl 3 (v_f__'.map eTMember)]] 0 0]), (7, .n .i64 v_t7), (8, .n .i64 v_t8)] []

def slices_IndexFunc'_L1_ex : ((Unit) ⊕ (Int)) → Exit
  | .inl _ => .exit 0
  | .inr _ => .ret

def slices_IndexFunc'_L1_out (v_s : (List TMember)) (v_f__ : (List TJoint)) (v_f__' : (List TMember)) (v_t7 : Int) : ((Unit) ⊕ (Int)) → S
  | .inl a => mkS [] []
  | .inr a => mkS [(4, .n .i64 a)] []

def slices_IndexFunc'_L1_body (v_s : (List TMember)) (v_f__ : (List TJoint)) (v_f__' : (List TMember)) (v_t7 : Int) (v_t8 : Int) : Option ((Int) ⊕ ((Unit) ⊕ (Int))) :=
  if (decide (v_t8 < v_t7)) = true then
    if 0 ≤ v_t8 ∧ v_t8 < v_s.length then
    v_s[v_t8.toNat]? >>= fun x3 =>
    impl_StructureOk_1 x3 (⟨v_f__, v_f__'⟩ : TStructure) >>= fun r5 =>
    if r5 = true then
      some (.inr (.inr v_t8))
    else
      some (.inl (w64 (v_t8 + (1 : Int))))
    else none
  else
    some (.inr (.inl ()))

def slices_IndexFunc'_L1 (v_s : (List TMember)) (v_f__ : (List TJoint)) (v_f__' : (List TMember)) (v_t7 : Int) (v_t8 : Int) : Option ((Unit) ⊕ (Int)) := iter (fun w : Int => slices_IndexFunc'_L1_body v_s v_f__ v_f__' v_t7 w) v_t8

theorem slices_IndexFunc'_L1_body_ok (v_s : (List TMember)) (v_f__ : (List TJoint)) (v_f__' : (List TMember)) (v_t7 : Int) (v_t8 : Int) : Wp (slices_IndexFunc'_L1_body v_s v_f__ v_f__' v_t7 v_t8) (Sum.elim
    (fun w => VEx PP 19 0 (nodeAt (bodyOf PP 126) [1, 0, 1, 0, 0]) .normal (slices_IndexFunc'_L1_head v_s v_f__ v_f__' v_t7 v_t8) (slices_IndexFunc'_L1_head v_s v_f__ v_f__' v_t7 w))
    (fun r => VEx PP 19 0 (nodeAt (bodyOf PP 126) [1, 0, 1, 0, 0]) (slices_IndexFunc'_L1_ex r) (slices_IndexFunc'_L1_head v_s v_f__ v_f__' v_t7 v_t8) (slices_IndexFunc'_L1_out v_s v_f__ v_f__' v_t7 r))) := by
  unfold slices_IndexFunc'_L1_body
  exact .ite (fun h1 =>
      .grd fun h2 =>
       .bnd fun x3 h4 =>
       .bnd fun r5 h6 =>
       .ite (fun h7 =>
       .ret ((okC_sound hmix (tape := [.reg [nt], .br true, .reg [nt, nt], .reg [nt, nt, nt, nt, (.el (eTMember x3), true), (.call { ac := [ii, ii], r := .b r5, sc := true }, true)], .br true, .reg [nt, nt], .rst [] [] [(4, ii)]]) (nr := 0) (by kernel_rfl) (.cons h1 (.cons ((h2).1) (.cons (lt_mapI (h2).2 : v_t8 < ((v_s.map eTMember).length : Nat)) (.cons (map_get h4 : (v_s.map eTMember)[v_t8.toNat]? = some (eTMember x3)) (.cons (impl_StructureOk_1_ok x3 (⟨v_f__, v_f__'⟩ : TStructure) r5 h6) (.cons (Sc.b _ : Sc (.b r5)) (.cons h7 .nil))))))) (mkS_free _ _) : VEx PP 19 0 (nodeAt (bodyOf PP 126) [1, 0, 1, 0, 0]) (.ret) (slices_IndexFunc'_L1_head v_s v_f__ v_f__' v_t7 v_t8) (slices_IndexFunc'_L1_out v_s v_f__ v_f__' v_t7 (.inr v_t8)))))
       (fun h7 =>
       .ret ((okC_sound hmix (tape := [.reg [nt], .br true, .reg [nt, nt], .reg [nt, nt, nt, nt, (.el (eTMember x3), true), (.call { ac := [ii, ii], r := .b r5, sc := true }, true)], .br false, .reg [nt, nt], .rst [] [] [(0, ii), (1, .comp [.c0 .id]), (7, ii), (8, ii)]]) (nr := 0) (by kernel_rfl) (.cons h1 (.cons ((h2).1) (.cons (lt_mapI (h2).2 : v_t8 < ((v_s.map eTMember).length : Nat)) (.cons (map_get h4 : (v_s.map eTMember)[v_t8.toNat]? = some (eTMember x3)) (.cons (impl_StructureOk_1_ok x3 (⟨v_f__, v_f__'⟩ : TStructure) r5 h6) (.cons (Sc.b _ : Sc (.b r5)) (.cons h7 .nil))))))) (mkS_free _ _) : VEx PP 19 0 (nodeAt (bodyOf PP 126) [1, 0, 1, 0, 0]) .normal (slices_IndexFunc'_L1_head v_s v_f__ v_f__' v_t7 v_t8) (slices_IndexFunc'_L1_head v_s v_f__ v_f__' v_t7 (w64 (v_t8 + (1 : Int))))))))
      (fun h1 =>
      .ret ((okC_sound hmix (tape := [.reg [nt], .br false, .rst [] [] []]) (nr := 0) (by kernel_rfl) (.cons h1 .nil) (mkS_free _ _) : VEx PP 19 0 (nodeAt (bodyOf PP 126) [1, 0, 1, 0, 0]) (.exit 0) (slices_IndexFunc'_L1_head v_s v_f__ v_f__' v_t7 v_t8) (slices_IndexFunc'_L1_out v_s v_f__ v_f__' v_t7 (.inl ())))))

theorem slices_IndexFunc'_L1_ok (v_s : (List TMember)) (v_f__ : (List TJoint)) (v_f__' : (List TMember)) (v_t7 : Int) (v_t8 : Int) : ∀ r, slices_IndexFunc'_L1 v_s v_f__ v_f__' v_t7 v_t8 = some r → VLoop PP 19 0 (nodeAt (bodyOf PP 126) [1, 0, 1, 0, 0]) (slices_IndexFunc'_L1_ex r) (slices_IndexFunc'_L1_head v_s v_f__ v_f__' v_t7 v_t8) (slices_IndexFunc'_L1_out v_s v_f__ v_f__' v_t7 r) := fun r h =>
  iter_ok (head := fun w : Int => slices_IndexFunc'_L1_head v_s v_f__ v_f__' v_t7 w) (ex := slices_IndexFunc'_L1_ex) (out := slices_IndexFunc'_L1_out v_s v_f__ v_f__' v_t7) (by intro r; unfold slices_IndexFunc'_L1_ex; split <;> simp) (fun w => slices_IndexFunc'_L1_body_ok v_s v_f__ v_f__' v_t7 w) v_t8 r h

def slices_IndexFunc' (v_s : (List TMember)) (v_f_c0 : TStructure) : Option Int :=
  slices_IndexFunc'_L1 v_s v_f_c0.fJoints v_f_c0.fMembers (len_ eTMember v_s) 0 >>= fun r1 =>
  match r1 with
  | .inl a3 => (some (-1))
  | .inr a3 => (some a3)

theorem slices_IndexFunc'_ok (v_s : (List TMember)) (v_f_c0 : TStructure) : Wp (slices_IndexFunc' v_s v_f_c0) (fun r => Con PP 126 [.isl 3 (v_s.map eTMember), .fn 100 [.ipt 2 [[.isl 4 (v_f_c0.fJoints.map eTJoint), .isl 3 (v_f_c0.fMembers.map eTMember)]] 0 0]] [] (.n .i64 r) []) := by
  unfold slices_IndexFunc'
  exact .bnd fun r1 h2 =>
    match r1, h2 with
    | .inl a3, h2 => (.ret (runF_con0 hmix (tape := [.reg [nt], .reg [nt, nt, nt], .rst [] [] [(0, ii), (1, .comp [.c0 .id]), (7, ii), (8, ii)], .sub (.exit 0) [] [], .reg [nt]]) (rr := ii) (by kernel_rfl) (.cons ((slices_IndexFunc'_L1_ok v_s v_f_c0.fJoints v_f_c0.fMembers (len_ eTMember v_s) 0 (.inl a3) h2).vex) .nil)))
    | .inr a3, h2 => (.ret (runF_con0 hmix (tape := [.reg [nt], .reg [nt, nt, nt], .rst [] [] [(0, ii), (1, .comp [.c0 .id]), (7, ii), (8, ii)], .sub (.ret) [(4, .n .i64 a3)] []]) (rr := ii) (by kernel_rfl) (.cons ((slices_IndexFunc'_L1_ok v_s v_f_c0.fJoints v_f_c0.fMembers (len_ eTMember v_s) 0 (.inr a3) h2).vex) .nil)))

def slices_ContainsFunc (v_s : (List TMember)) (v_f_c0 : TStructure) : Option Bool :=
  slices_IndexFunc' v_s v_f_c0 >>= fun r1 =>
  some (decide ((0 : Int) ≤ r1))

theorem slices_ContainsFunc_ok (v_s : (List TMember)) (v_f_c0 : TStructure) : Wp (slices_ContainsFunc v_s v_f_c0) (fun r => Con PP 99 [.isl 3 (v_s.map eTMember), .fn 100 [.ipt 2 [[.isl 4 (v_f_c0.fJoints.map eTJoint), .isl 3 (v_f_c0.fMembers.map eTMember)]] 0 0]] [] (.b r) []) := by
  unfold slices_ContainsFunc
  exact .bnd fun r1 h2 =>
    .ret (runF_con0 hmix (tape := [.reg [nt], .reg [nt, nt, (.call { ac := [ii, ii], r := .n .i64 r1, sc := true }, true), nt, nt]]) (rr := ii) (by kernel_rfl) (.cons (slices_IndexFunc'_ok v_s v_f_c0 r1 h2) (.cons (Sc.n _ _ : Sc (.n .i64 r1)) .nil)))

def impl_StructureOk_L1_head (v_t16 : (List TJoint)) (v_t17 : Int) (box0_' : (List TMember)) (v_t18 : Int) : S := mkS [(1, .ref 0 0 0 0), (16, .isl 4 (v_t16.map eTJoint)), (17, .n .i64 v_t17), (18, .n .i64 v_t18)] [[Ob.mk 2 [[.isl 4 (v_t16.map eTJoint), .isl 3 (box0_'.map eTMember)]] .live]]

def impl_StructureOk_L1_ex : ((Unit) ⊕ (Unit)) → Exit
  | .inl _ => .exit 0
  | .inr _ => .ret

def impl_StructureOk_L1_out (v_t16 : (List TJoint)) (v_t17 : Int) (box0_' : (List TMember)) : ((Unit) ⊕ (Unit)) → S
  | .inl a => mkS [(1, .ref 0 0 0 0)] [[Ob.mk 2 [[.isl 4 (v_t16.map eTJoint), .isl 3 (box0_'.map eTMember)]] .live]]
  | .inr a => mkS [(2, .b false)] []

def impl_StructureOk_L1_body (v_t16 : (List TJoint)) (v_t17 : Int) (box0_' : (List TMember)) (v_t18 : Int) : Option ((Int) ⊕ ((Unit) ⊕ (Unit))) :=
  if (decide (v_t18 < v_t17)) = true then
    if 0 ≤ v_t18 ∧ v_t18 < v_t16.length then
    v_t16[v_t18.toNat]? >>= fun x3 =>
    impl_JointOk x3 >>= fun r5 =>
    if r5 = true then
      impl_JointNamed (⟨v_t16, box0_'⟩ : TStructure) x3.fName >>= fun r8 =>
      if (r8 != v_t18) = true then
        some (.inr (.inr ()))
      else
        some (.inl (w64 (v_t18 + (1 : Int))))
    else
      some (.inr (.inr ()))
    else none
  else
    some (.inr (.inl ()))

def impl_StructureOk_L1 (v_t16 : (List TJoint)) (v_t17 : Int) (box0_' : (List TMember)) (v_t18 : Int) : Option ((Unit) ⊕ (Unit)) := iter (fun w : Int => impl_StructureOk_L1_body v_t16 v_t17 box0_' w) v_t18

theorem impl_StructureOk_L1_body_ok (v_t16 : (List TJoint)) (v_t17 : Int) (box0_' : (List TMember)) (v_t18 : Int) : Wp (impl_StructureOk_L1_body v_t16 v_t17 box0_' v_t18) (Sum.elim
    (fun w => VEx PP 40 0 (nodeAt (bodyOf PP 66) [1, 1, 0, 1, 0, 0]) .normal (impl_StructureOk_L1_head v_t16 v_t17 box0_' v_t18) (impl_StructureOk_L1_head v_t16 v_t17 box0_' w))
    (fun r => VEx PP 40 0 (nodeAt (bodyOf PP 66) [1, 1, 0, 1, 0, 0]) (impl_StructureOk_L1_ex r) (impl_StructureOk_L1_head v_t16 v_t17 box0_' v_t18) (impl_StructureOk_L1_out v_t16 v_t17 box0_' r))) := by
  unfold impl_StructureOk_L1_body
  exact .ite (fun h1 =>
      .grd fun h2 =>
       .bnd fun x3 h4 =>
       .bnd fun r5 h6 =>
       .ite (fun h7 =>
       .bnd fun r8 h9 =>
        .ite (fun h10 =>
        .ret ((okC_sound hmix (tape := [.reg [nt], .br true, .reg [nt, nt, (.el (eTJoint x3), true), nt, nt, nt], .reg [nt, (.call { ac := [ii], r := .b r5, sc := true }, true), nt, nt, nt, nt, nt, (.call { ac := [ii, ii], r := .n .i64 r8, sc := true }, true), nt, nt, (.br false, true)], .br true, .reg [nt], .rst [] [] [(2, ii)]]) (nr := 1) (by kernel_rfl) (.cons h1 (.cons ((h2).1) (.cons (lt_mapI (h2).2 : v_t18 < ((v_t16.map eTJoint).length : Nat)) (.cons (map_get h4 : (v_t16.map eTJoint)[v_t18.toNat]? = some (eTJoint x3)) (.cons (impl_JointOk_ok x3 r5 h6) (.cons (Sc.b _ : Sc (.b r5)) (.cons (not_t h7) (.cons (not_t h7) (.cons (not_t h7) (.cons (not_t h7) (.cons (impl_JointNamed_ok (⟨v_t16, box0_'⟩ : TStructure) x3.fName r8 h9) (.cons (Sc.n _ _ : Sc (.n .i64 r8)) (.cons (not_t h7) (.cons (not_t h7) (.cons (not_t h7) (.cons h10 .nil)))))))))))))))) (mkS_free _ _) : VEx PP 40 0 (nodeAt (bodyOf PP 66) [1, 1, 0, 1, 0, 0]) (.ret) (impl_StructureOk_L1_head v_t16 v_t17 box0_' v_t18) (impl_StructureOk_L1_out v_t16 v_t17 box0_' (.inr ())))))
        (fun h10 =>
        .ret ((okC_sound hmix (tape := [.reg [nt], .br true, .reg [nt, nt, (.el (eTJoint x3), true), nt, nt, nt], .reg [nt, (.call { ac := [ii], r := .b r5, sc := true }, true), nt, nt, nt, nt, nt, (.call { ac := [ii, ii], r := .n .i64 r8, sc := true }, true), nt, nt, (.br false, true)], .br false, .reg [nt, nt], .rst [0] [.box [.id, .id]] [(1, ii), (16, ii), (17, ii), (18, ii)]]) (nr := 1) (by kernel_rfl) (.cons h1 (.cons ((h2).1) (.cons (lt_mapI (h2).2 : v_t18 < ((v_t16.map eTJoint).length : Nat)) (.cons (map_get h4 : (v_t16.map eTJoint)[v_t18.toNat]? = some (eTJoint x3)) (.cons (impl_JointOk_ok x3 r5 h6) (.cons (Sc.b _ : Sc (.b r5)) (.cons (not_t h7) (.cons (not_t h7) (.cons (not_t h7) (.cons (not_t h7) (.cons (impl_JointNamed_ok (⟨v_t16, box0_'⟩ : TStructure) x3.fName r8 h9) (.cons (Sc.n _ _ : Sc (.n .i64 r8)) (.cons (not_t h7) (.cons (not_t h7) (.cons (not_t h7) (.cons h10 .nil)))))))))))))))) (mkS_free _ _) : VEx PP 40 0 (nodeAt (bodyOf PP 66) [1, 1, 0, 1, 0, 0]) .normal (impl_StructureOk_L1_head v_t16 v_t17 box0_' v_t18) (impl_StructureOk_L1_head v_t16 v_t17 box0_' (w64 (v_t18 + (1 : Int))))))))
       (fun h7 =>
       .ret ((okC_sound hmix (tape := [.reg [nt], .br true, .reg [nt, nt, (.el (eTJoint x3), true), nt, nt, nt], .reg [nt, (.call { ac := [ii], r := .b r5, sc := true }, true), nt, nt, nf, nf, nf, nf, nf, nf, (.br true, true)], .br true, .reg [nt], .rst [] [] [(2, ii)]]) (nr := 1) (by kernel_rfl) (.cons h1 (.cons ((h2).1) (.cons (lt_mapI (h2).2 : v_t18 < ((v_t16.map eTJoint).length : Nat)) (.cons (map_get h4 : (v_t16.map eTJoint)[v_t18.toNat]? = some (eTJoint x3)) (.cons (impl_JointOk_ok x3 r5 h6) (.cons (Sc.b _ : Sc (.b r5)) (.cons (not_f h7) (.cons (not_f h7) (.cons (not_f h7) (.cons (not_f h7) (.cons (not_f h7) (.cons (not_f h7) (.cons (not_f h7) (.cons (rfl : true = true) .nil)))))))))))))) (mkS_free _ _) : VEx PP 40 0 (nodeAt (bodyOf PP 66) [1, 1, 0, 1, 0, 0]) (.ret) (impl_StructureOk_L1_head v_t16 v_t17 box0_' v_t18) (impl_StructureOk_L1_out v_t16 v_t17 box0_' (.inr ()))))))
      (fun h1 =>
      .ret ((okC_sound hmix (tape := [.reg [nt], .br false, .rst [0] [.box [.id, .id]] [(1, ii)]]) (nr := 1) (by kernel_rfl) (.cons h1 .nil) (mkS_free _ _) : VEx PP 40 0 (nodeAt (bodyOf PP 66) [1, 1, 0, 1, 0, 0]) (.exit 0) (impl_StructureOk_L1_head v_t16 v_t17 box0_' v_t18) (impl_StructureOk_L1_out v_t16 v_t17 box0_' (.inl ())))))

theorem impl_StructureOk_L1_ok (v_t16 : (List TJoint)) (v_t17 : Int) (box0_' : (List TMember)) (v_t18 : Int) : ∀ r, impl_StructureOk_L1 v_t16 v_t17 box0_' v_t18 = some r → VLoop PP 40 0 (nodeAt (bodyOf PP 66) [1, 1, 0, 1, 0, 0]) (impl_StructureOk_L1_ex r) (impl_StructureOk_L1_head v_t16 v_t17 box0_' v_t18) (impl_StructureOk_L1_out v_t16 v_t17 box0_' r) := fun r h =>
  iter_ok (head := fun w : Int => impl_StructureOk_L1_head v_t16 v_t17 box0_' w) (ex := impl_StructureOk_L1_ex) (out := impl_StructureOk_L1_out v_t16 v_t17 box0_') (by intro r; unfold impl_StructureOk_L1_ex; split <;> simp) (fun w => impl_StructureOk_L1_body_ok v_t16 v_t17 box0_' w) v_t18 r h

def impl_StructureOk (v_s : TStructure) : Option Bool :=
  if (decide ((6 : Int) < (len_ eTJoint v_s.fJoints))) = true then
    some false
  else
    if (decide ((8 : Int) < (len_ eTMember v_s.fMembers))) = true then
      some false
    else
      impl_StructureOk_L1 v_s.fJoints (len_ eTJoint v_s.fJoints) v_s.fMembers 0 >>= fun r3 =>
      match r3 with
      | .inl a5 => (slices_ContainsFunc v_s.fMembers v_s >>= fun r6 =>
        some (!r6))
      | .inr a5 => (some false)

theorem impl_StructureOk_ok (v_s : TStructure) : Wp (impl_StructureOk v_s) (fun r => Con PP 66 [.agg [.isl 4 (v_s.fJoints.map eTJoint), .isl 3 (v_s.fMembers.map eTMember)]] [] (.b r) []) := by
  unfold impl_StructureOk
  exact .ite (fun h1 =>
    .ret (runF_con0 hmix (tape := [.reg [nt, nt], .reg [nt, nt, nt, nt, nt, nf, nf, nf, nf, (.br true, true)], .br true, .reg [nt]]) (rr := ii) (by kernel_rfl) (.cons h1 (.cons h1 (.cons h1 (.cons h1 (.cons h1 (.cons (rfl : true = true) .nil))))))))
    (fun h1 =>
    .ite (fun h2 =>
     .ret (runF_con0 hmix (tape := [.reg [nt, nt], .reg [nt, nt, nt, nt, nt, nt, nt, nt, nt, (.br false, true)], .br true, .reg [nt]]) (rr := ii) (by kernel_rfl) (.cons h1 (.cons h1 (.cons h1 (.cons h1 (.cons h1 (.cons h2 .nil))))))))
     (fun h2 =>
     .bnd fun r3 h4 =>
      match r3, h4 with
      | .inl a5, h4 => (.bnd fun r6 h7 =>
       .ret (runF_con0 hmix (tape := [.reg [nt, nt], .reg [nt, nt, nt, nt, nt, nt, nt, nt, nt, (.br false, true)], .br false, .reg [nt, nt, nt, nt], .rst [0] [.box [.id, .id]] [(1, ii), (16, ii), (17, ii), (18, ii)], .sub (.exit 0) [(1, .ref 0 0 0 0)] [[Ob.mk 2 [[.isl 4 (v_s.fJoints.map eTJoint), .isl 3 (v_s.fMembers.map eTMember)]] .live]], .reg [nt, nt, nt, (.call { ac := [ii, .comp [.ptr [.id, .id]]], rds := [0], r := .b r6, sc := true }, true), nt, nt]]) (rr := ii) (by kernel_rfl) (.cons h1 (.cons h1 (.cons h1 (.cons h1 (.cons h1 (.cons h2 (.cons ((impl_StructureOk_L1_ok v_s.fJoints (len_ eTJoint v_s.fJoints) v_s.fMembers 0 (.inl a5) h4).vex) (.cons (pure_es1 (eTStructure_pure v_s) : PureEs [[.isl 4 (v_s.fJoints.map eTJoint), .isl 3 (v_s.fMembers.map eTMember)]]) (.cons (slices_ContainsFunc_ok v_s.fMembers v_s r6 h7) (.cons (Sc.b _ : Sc (.b r6)) .nil))))))))))))
      | .inr a5, h4 => (.ret (runF_con0 hmix (tape := [.reg [nt, nt], .reg [nt, nt, nt, nt, nt, nt, nt, nt, nt, (.br false, true)], .br false, .reg [nt, nt, nt, nt], .rst [0] [.box [.id, .id]] [(1, ii), (16, ii), (17, ii), (18, ii)], .sub (.ret) [(2, .b false)] []]) (rr := ii) (by kernel_rfl) (.cons h1 (.cons h1 (.cons h1 (.cons h1 (.cons h1 (.cons h2 (.cons ((impl_StructureOk_L1_ok v_s.fJoints (len_ eTJoint v_s.fJoints) v_s.fMembers 0 (.inr a5) h4).vex) .nil)))))))))))

def impl_fitsLimits_1 (v_n : Int) : Option Bool :=
  impl_isLimit v_n >>= fun r1 =>
  some (!r1)

theorem impl_fitsLimits_1_ok (v_n : Int) : Wp (impl_fitsLimits_1 v_n) (fun r => Con PP 103 [.n .i64 v_n] [] (.b r) []) := by
  unfold impl_fitsLimits_1
  exact .bnd fun r1 h2 =>
    .ret (runF_con0 hmix (tape := [.reg [nt], .reg [nt, (.call { ac := [ii], r := .b r1, sc := true }, true), nt, nt]]) (rr := ii) (by kernel_rfl) (.cons (impl_isLimit_ok v_n r1 h2) (.cons (Sc.b _ : Sc (.b r1)) .nil)))

def slices_IndexFunc''_L1_head (v_s : (List Int)) (v_t7 : Int) (v_t8 : Int) : S := mkS [(0, .isl 1 (v_s.map eI)), (1, .fn 103 []), (7, .n .i64 v_t7), (8, .n .i64 v_t8)] []

def slices_IndexFunc''_L1_ex : ((Unit) ⊕ (Int)) → Exit
  | .inl _ => .exit 0
  | .inr _ => .ret

def slices_IndexFunc''_L1_out (v_s : (List Int)) (v_t7 : Int) : ((Unit) ⊕ (Int)) → S
  | .inl a => mkS [] []
  | .inr a => mkS [(4, .n .i64 a)] []

def slices_IndexFunc''_L1_body (v_s : (List Int)) (v_t7 : Int) (v_t8 : Int) : Option ((Int) ⊕ ((Unit) ⊕ (Int))) :=
  if (decide (v_t8 < v_t7)) = true then
    if 0 ≤ v_t8 ∧ v_t8 < v_s.length then
    v_s[v_t8.toNat]? >>= fun x3 =>
    impl_fitsLimits_1 x3 >>= fun r5 =>
    if r5 = true then
      some (.inr (.inr v_t8))
    else
      some (.inl (w64 (v_t8 + (1 : Int))))
    else none
  else
    some (.inr (.inl ()))

def slices_IndexFunc''_L1 (v_s : (List Int)) (v_t7 : Int) (v_t8 : Int) : Option ((Unit) ⊕ (Int)) := iter (fun w : Int => slices_IndexFunc''_L1_body v_s v_t7 w) v_t8

theorem slices_IndexFunc''_L1_body_ok (v_s : (List Int)) (v_t7 : Int) (v_t8 : Int) : Wp (slices_IndexFunc''_L1_body v_s v_t7 v_t8) (Sum.elim
    (fun w => VEx PP 19 0 (nodeAt (bodyOf PP 127) [1, 0, 1, 0, 0]) .normal (slices_IndexFunc''_L1_head v_s v_t7 v_t8) (slices_IndexFunc''_L1_head v_s v_t7 w))
    (fun r => VEx PP 19 0 (nodeAt (bodyOf PP 127) [1, 0, 1, 0, 0]) (slices_IndexFunc''_L1_ex r) (slices_IndexFunc''_L1_head v_s v_t7 v_t8) (slices_IndexFunc''_L1_out v_s v_t7 r))) := by
  unfold slices_IndexFunc''_L1_body
  exact .ite (fun h1 =>
      .grd fun h2 =>
       .bnd fun x3 h4 =>
       .bnd fun r5 h6 =>
       .ite (fun h7 =>
       .ret ((okC_sound hmix (tape := [.reg [nt], .br true, .reg [nt, nt], .reg [nt, nt, nt, nt, (.el (eI x3), true), (.call { ac := [ii], r := .b r5, sc := true }, true)], .br true, .reg [nt, nt], .rst [] [] [(4, ii)]]) (nr := 0) (by kernel_rfl) (.cons h1 (.cons ((h2).1) (.cons (lt_mapI (h2).2 : v_t8 < ((v_s.map eI).length : Nat)) (.cons (map_get h4 : (v_s.map eI)[v_t8.toNat]? = some (eI x3)) (.cons (impl_fitsLimits_1_ok x3 r5 h6) (.cons (Sc.b _ : Sc (.b r5)) (.cons h7 .nil))))))) (mkS_free _ _) : VEx PP 19 0 (nodeAt (bodyOf PP 127) [1, 0, 1, 0, 0]) (.ret) (slices_IndexFunc''_L1_head v_s v_t7 v_t8) (slices_IndexFunc''_L1_out v_s v_t7 (.inr v_t8)))))
       (fun h7 =>
       .ret ((okC_sound hmix (tape := [.reg [nt], .br true, .reg [nt, nt], .reg [nt, nt, nt, nt, (.el (eI x3), true), (.call { ac := [ii], r := .b r5, sc := true }, true)], .br false, .reg [nt, nt], .rst [] [] [(0, ii), (1, ii), (7, ii), (8, ii)]]) (nr := 0) (by kernel_rfl) (.cons h1 (.cons ((h2).1) (.cons (lt_mapI (h2).2 : v_t8 < ((v_s.map eI).length : Nat)) (.cons (map_get h4 : (v_s.map eI)[v_t8.toNat]? = some (eI x3)) (.cons (impl_fitsLimits_1_ok x3 r5 h6) (.cons (Sc.b _ : Sc (.b r5)) (.cons h7 .nil))))))) (mkS_free _ _) : VEx PP 19 0 (nodeAt (bodyOf PP 127) [1, 0, 1, 0, 0]) .normal (slices_IndexFunc''_L1_head v_s v_t7 v_t8) (slices_IndexFunc''_L1_head v_s v_t7 (w64 (v_t8 + (1 : Int))))))))
      (fun h1 =>
      .ret ((okC_sound hmix (tape := [.reg [nt], .br false, .rst [] [] []]) (nr := 0) (by kernel_rfl) (.cons h1 .nil) (mkS_free _ _) : VEx PP 19 0 (nodeAt (bodyOf PP 127) [1, 0, 1, 0, 0]) (.exit 0) (slices_IndexFunc''_L1_head v_s v_t7 v_t8) (slices_IndexFunc''_L1_out v_s v_t7 (.inl ())))))

theorem slices_IndexFunc''_L1_ok (v_s : (List Int)) (v_t7 : Int) (v_t8 : Int) : ∀ r, slices_IndexFunc''_L1 v_s v_t7 v_t8 = some r → VLoop PP 19 0 (nodeAt (bodyOf PP 127) [1, 0, 1, 0, 0]) (slices_IndexFunc''_L1_ex r) (slices_IndexFunc''_L1_head v_s v_t7 v_t8) (slices_IndexFunc''_L1_out v_s v_t7 r) := fun r h =>
  iter_ok (head := fun w : Int => slices_IndexFunc''_L1_head v_s v_t7 w) (ex := slices_IndexFunc''_L1_ex) (out := slices_IndexFunc''_L1_out v_s v_t7) (by intro r; unfold slices_IndexFunc''_L1_ex; split <;> simp) (fun w => slices_IndexFunc''_L1_body_ok v_s v_t7 w) v_t8 r h

def slices_IndexFunc'' (v_s : (List Int)) : Option Int :=
  slices_IndexFunc''_L1 v_s (len_ eI v_s) 0 >>= fun r1 =>
  match r1 with
  | .inl a3 => (some (-1))
  | .inr a3 => (some a3)

theorem slices_IndexFunc''_ok (v_s : (List Int)) : Wp (slices_IndexFunc'' v_s) (fun r => Con PP 127 [.isl 1 (v_s.map eI), .fn 103 []] [] (.n .i64 r) []) := by
  unfold slices_IndexFunc''
  exact .bnd fun r1 h2 =>
    match r1, h2 with
    | .inl a3, h2 => (.ret (runF_con0 hmix (tape := [.reg [nt], .reg [nt, nt, nt], .rst [] [] [(0, ii), (1, ii), (7, ii), (8, ii)], .sub (.exit 0) [] [], .reg [nt]]) (rr := ii) (by kernel_rfl) (.cons ((slices_IndexFunc''_L1_ok v_s (len_ eI v_s) 0 (.inl a3) h2).vex) .nil)))
    | .inr a3, h2 => (.ret (runF_con0 hmix (tape := [.reg [nt], .reg [nt, nt, nt], .rst [] [] [(0, ii), (1, ii), (7, ii), (8, ii)], .sub (.ret) [(4, .n .i64 a3)] []]) (rr := ii) (by kernel_rfl) (.cons ((slices_IndexFunc''_L1_ok v_s (len_ eI v_s) 0 (.inr a3) h2).vex) .nil)))

def slices_ContainsFunc' (v_s : (List Int)) : Option Bool :=
  slices_IndexFunc'' v_s >>= fun r1 =>
  some (decide ((0 : Int) ≤ r1))

theorem slices_ContainsFunc'_ok (v_s : (List Int)) : Wp (slices_ContainsFunc' v_s) (fun r => Con PP 102 [.isl 1 (v_s.map eI), .fn 103 []] [] (.b r) []) := by
  unfold slices_ContainsFunc'
  exact .bnd fun r1 h2 =>
    .ret (runF_con0 hmix (tape := [.reg [nt], .reg [nt, nt, (.call { ac := [ii, ii], r := .n .i64 r1, sc := true }, true), nt, nt]]) (rr := ii) (by kernel_rfl) (.cons (slices_IndexFunc''_ok v_s r1 h2) (.cons (Sc.n _ _ : Sc (.n .i64 r1)) .nil)))

def impl_fitsLimits (v_s : TStructure) (v_w : (List Int)) : Option Bool :=
  if ((len_ eI v_w) == (len_ eTMember v_s.fMembers)) = true then
    slices_ContainsFunc' v_w >>= fun r2 =>
    some (!r2)
  else
    some false

theorem impl_fitsLimits_ok (v_s : TStructure) (v_w : (List Int)) : Wp (impl_fitsLimits v_s v_w) (fun r => Con PP 67 [.ipt 2 [[.isl 4 (v_s.fJoints.map eTJoint), .isl 3 (v_s.fMembers.map eTMember)]] 0 0, .isl 1 (v_w.map eI)] [] (.b r) []) := by
  unfold impl_fitsLimits
  exact .ite (fun h1 =>
    .bnd fun r2 h3 =>
     .ret (runF_con0 hmix (tape := [.reg [nt], .reg [nt, nt, nt, nt, nt, nt, nt, nt, nt, nt, (.call { ac := [ii, ii], r := .b r2, sc := true }, true), nt, (.br true, true), nt]]) (rr := ii) (by kernel_rfl) (.cons h1 (.cons h1 (.cons (slices_ContainsFunc'_ok v_w r2 h3) (.cons (Sc.b _ : Sc (.b r2)) (.cons h1 (.cons h1 .nil))))))))
    (fun h1 =>
    .ret (runF_con0 hmix (tape := [.reg [nt], .reg [nt, nt, nt, nt, nt, nt, nt, nt, nt, nf, nf, nf, (.br false, true), nt]]) (rr := ii) (by kernel_rfl) (.cons h1 (.cons h1 (.cons h1 (.cons h1 .nil))))))

def impl_LimitsOk (v_s : TStructure) (v_w : (List Int)) : Option Bool :=
  impl_StructureOk v_s >>= fun r1 =>
  if r1 = true then
    impl_fitsLimits v_s v_w >>= fun r4 =>
    some r4
  else
    some false

theorem impl_LimitsOk_ok (v_s : TStructure) (v_w : (List Int)) : Wp (impl_LimitsOk v_s v_w) (fun r => Con PP 22 [.agg [.isl 4 (v_s.fJoints.map eTJoint), .isl 3 (v_s.fMembers.map eTMember)], .isl 1 (v_w.map eI)] [] (.b r) []) := by
  unfold impl_LimitsOk
  exact .bnd fun r1 h2 =>
    .ite (fun h3 =>
    .bnd fun r4 h5 =>
     .ret (runF_con0 hmix (tape := [.reg [nt, nt], .reg [nt, (.call { ac := [ii], r := .b r1, sc := true }, true), nt, nt, (.call { ac := [.c1 (.ptr [.id, .id]), ii], rds := [0], r := .b r4, sc := true }, true), (.br true, true), nt]]) (rr := ii) (by kernel_rfl) (.cons (impl_StructureOk_ok v_s r1 h2) (.cons (Sc.b _ : Sc (.b r1)) (.cons h3 (.cons h3 (.cons (pure_es1 (eTStructure_pure v_s) : PureEs [[.isl 4 (v_s.fJoints.map eTJoint), .isl 3 (v_s.fMembers.map eTMember)]]) (.cons (impl_fitsLimits_ok v_s v_w r4 h5) (.cons (Sc.b _ : Sc (.b r4)) (.cons h3 .nil))))))))))
    (fun h3 =>
    .ret (runF_con0 hmix (tape := [.reg [nt, nt], .reg [nt, (.call { ac := [ii], r := .b r1, sc := true }, true), nt, nf, nf, (.br false, true), nt]]) (rr := ii) (by kernel_rfl) (.cons (impl_StructureOk_ok v_s r1 h2) (.cons (Sc.b _ : Sc (.b r1)) (.cons h3 (.cons h3 (.cons h3 .nil)))))))

def laws_eqJoint (v_a : TJoint) (v_b : TJoint) : Option Bool :=
  if (!(v_a.fName.toList == v_b.fName.toList)) = true then
    some false
  else
    if (v_a.fX != v_b.fX) = true then
      some false
    else
      if (v_a.fY != v_b.fY) = true then
        some false
      else
        if (v_a.fFixed == v_b.fFixed) = true then
          some true
        else
          some false

theorem laws_eqJoint_ok (v_a : TJoint) (v_b : TJoint) : Wp (laws_eqJoint v_a v_b) (fun r => Con PP 104 [.agg [.s v_a.fName, .n .i64 v_a.fX, .n .i64 v_a.fY, .b v_a.fFixed], .agg [.s v_b.fName, .n .i64 v_b.fX, .n .i64 v_b.fY, .b v_b.fFixed]] [] (.b r) []) := by
  unfold laws_eqJoint
  exact .ite (fun h1 =>
    .ret (runF_con0 hmix (tape := [.reg [nt, nt, nt], .reg [nt, nt, nt, nt, nt], .br true, .reg [nt]]) (rr := ii) (by kernel_rfl) (.cons h1 .nil)))
    (fun h1 =>
    .ite (fun h2 =>
     .ret (runF_con0 hmix (tape := [.reg [nt, nt, nt], .reg [nt, nt, nt, nt, nt], .br false, .reg [nt, nt, nt, nt, nt], .br true, .reg [nt]]) (rr := ii) (by kernel_rfl) (.cons h1 (.cons h2 .nil))))
     (fun h2 =>
     .ite (fun h3 =>
      .ret (runF_con0 hmix (tape := [.reg [nt, nt, nt], .reg [nt, nt, nt, nt, nt], .br false, .reg [nt, nt, nt, nt, nt], .br false, .reg [nt, nt, nt, nt, nt], .br true, .reg [nt]]) (rr := ii) (by kernel_rfl) (.cons h1 (.cons h2 (.cons h3 .nil)))))
      (fun h3 =>
      .ite (fun h4 =>
       .ret (runF_con0 hmix (tape := [.reg [nt, nt, nt], .reg [nt, nt, nt, nt, nt], .br false, .reg [nt, nt, nt, nt, nt], .br false, .reg [nt, nt, nt, nt, nt], .br false, .reg [nt, nt, nt, nt, nt], .br false, .reg [nt]]) (rr := ii) (by kernel_rfl) (.cons h1 (.cons h2 (.cons h3 (.cons (not_t h4) .nil))))))
       (fun h4 =>
       .ret (runF_con0 hmix (tape := [.reg [nt, nt, nt], .reg [nt, nt, nt, nt, nt], .br false, .reg [nt, nt, nt, nt, nt], .br false, .reg [nt, nt, nt, nt, nt], .br false, .reg [nt, nt, nt, nt, nt], .br true, .reg [nt]]) (rr := ii) (by kernel_rfl) (.cons h1 (.cons h2 (.cons h3 (.cons (not_f h4) .nil)))))))))

def laws_eqJointS_L1_head (v_a : (List TJoint)) (v_b : (List TJoint)) (v_i : Int) : S := mkS [(0, .isl 4 (v_a.map eTJoint)), (1, .isl 4 (v_b.map eTJoint)), (5, .n .i64 v_i)] []

def laws_eqJointS_L1_ex : ((Unit) ⊕ (Unit)) → Exit
  | .inl _ => .exit 0
  | .inr _ => .ret

def laws_eqJointS_L1_out (v_a : (List TJoint)) (v_b : (List TJoint)) : ((Unit) ⊕ (Unit)) → S
  | .inl a => mkS [] []
  | .inr a => mkS [(4, .b false)] []

def laws_eqJointS_L1_body (v_a : (List TJoint)) (v_b : (List TJoint)) (v_i : Int) : Option ((Int) ⊕ ((Unit) ⊕ (Unit))) :=
  if (decide (v_i < (len_ eTJoint v_a))) = true then
    if 0 ≤ v_i ∧ v_i < v_a.length then
    v_a[v_i.toNat]? >>= fun x3 =>
    if 0 ≤ v_i ∧ v_i < v_b.length then
    v_b[v_i.toNat]? >>= fun x6 =>
    laws_eqJoint x3 x6 >>= fun r8 =>
    if r8 = true then
      some (.inl (w64 (v_i + (1 : Int))))
    else
      some (.inr (.inr ()))
    else none
    else none
  else
    some (.inr (.inl ()))

def laws_eqJointS_L1 (v_a : (List TJoint)) (v_b : (List TJoint)) (v_i : Int) : Option ((Unit) ⊕ (Unit)) := iter (fun w : Int => laws_eqJointS_L1_body v_a v_b w) v_i

theorem laws_eqJointS_L1_body_ok (v_a : (List TJoint)) (v_b : (List TJoint)) (v_i : Int) : Wp (laws_eqJointS_L1_body v_a v_b v_i) (Sum.elim
    (fun w => VEx PP 27 0 (nodeAt (bodyOf PP 68) [1, 1, 0, 1, 0, 0]) .normal (laws_eqJointS_L1_head v_a v_b v_i) (laws_eqJointS_L1_head v_a v_b w))
    (fun r => VEx PP 27 0 (nodeAt (bodyOf PP 68) [1, 1, 0, 1, 0, 0]) (laws_eqJointS_L1_ex r) (laws_eqJointS_L1_head v_a v_b v_i) (laws_eqJointS_L1_out v_a v_b r))) := by
  unfold laws_eqJointS_L1_body
  exact .ite (fun h1 =>
      .grd fun h2 =>
       .bnd fun x3 h4 =>
       .grd fun h5 =>
       .bnd fun x6 h7 =>
       .bnd fun r8 h9 =>
       .ite (fun h10 =>
       .ret ((okC_sound hmix (tape := [.reg [nt, nt, nt, nt], .br true, .reg [nt, nt, nt, (.el (eTJoint x3), true), nt, nt, nt, (.el (eTJoint x6), true), (.call { ac := [ii, ii], r := .b r8, sc := true }, true), nt], .br false, .reg [nt, nt, nt], .rst [] [] [(0, ii), (1, ii), (5, ii)]]) (nr := 0) (by kernel_rfl) (.cons h1 (.cons ((h2).1) (.cons (lt_mapI (h2).2 : v_i < ((v_a.map eTJoint).length : Nat)) (.cons (map_get h4 : (v_a.map eTJoint)[v_i.toNat]? = some (eTJoint x3)) (.cons ((h5).1) (.cons (lt_mapI (h5).2 : v_i < ((v_b.map eTJoint).length : Nat)) (.cons (map_get h7 : (v_b.map eTJoint)[v_i.toNat]? = some (eTJoint x6)) (.cons (laws_eqJoint_ok x3 x6 r8 h9) (.cons (Sc.b _ : Sc (.b r8)) (.cons (not_t h10) .nil)))))))))) (mkS_free _ _) : VEx PP 27 0 (nodeAt (bodyOf PP 68) [1, 1, 0, 1, 0, 0]) .normal (laws_eqJointS_L1_head v_a v_b v_i) (laws_eqJointS_L1_head v_a v_b (w64 (v_i + (1 : Int)))))))
       (fun h10 =>
       .ret ((okC_sound hmix (tape := [.reg [nt, nt, nt, nt], .br true, .reg [nt, nt, nt, (.el (eTJoint x3), true), nt, nt, nt, (.el (eTJoint x6), true), (.call { ac := [ii, ii], r := .b r8, sc := true }, true), nt], .br true, .reg [nt], .rst [] [] [(4, ii)]]) (nr := 0) (by kernel_rfl) (.cons h1 (.cons ((h2).1) (.cons (lt_mapI (h2).2 : v_i < ((v_a.map eTJoint).length : Nat)) (.cons (map_get h4 : (v_a.map eTJoint)[v_i.toNat]? = some (eTJoint x3)) (.cons ((h5).1) (.cons (lt_mapI (h5).2 : v_i < ((v_b.map eTJoint).length : Nat)) (.cons (map_get h7 : (v_b.map eTJoint)[v_i.toNat]? = some (eTJoint x6)) (.cons (laws_eqJoint_ok x3 x6 r8 h9) (.cons (Sc.b _ : Sc (.b r8)) (.cons (not_f h10) .nil)))))))))) (mkS_free _ _) : VEx PP 27 0 (nodeAt (bodyOf PP 68) [1, 1, 0, 1, 0, 0]) (.ret) (laws_eqJointS_L1_head v_a v_b v_i) (laws_eqJointS_L1_out v_a v_b (.inr ()))))))
      (fun h1 =>
      .ret ((okC_sound hmix (tape := [.reg [nt, nt, nt, nt], .br false, .rst [] [] []]) (nr := 0) (by kernel_rfl) (.cons h1 .nil) (mkS_free _ _) : VEx PP 27 0 (nodeAt (bodyOf PP 68) [1, 1, 0, 1, 0, 0]) (.exit 0) (laws_eqJointS_L1_head v_a v_b v_i) (laws_eqJointS_L1_out v_a v_b (.inl ())))))

theorem laws_eqJointS_L1_ok (v_a : (List TJoint)) (v_b : (List TJoint)) (v_i : Int) : ∀ r, laws_eqJointS_L1 v_a v_b v_i = some r → VLoop PP 27 0 (nodeAt (bodyOf PP 68) [1, 1, 0, 1, 0, 0]) (laws_eqJointS_L1_ex r) (laws_eqJointS_L1_head v_a v_b v_i) (laws_eqJointS_L1_out v_a v_b r) := fun r h =>
  iter_ok (head := fun w : Int => laws_eqJointS_L1_head v_a v_b w) (ex := laws_eqJointS_L1_ex) (out := laws_eqJointS_L1_out v_a v_b) (by intro r; unfold laws_eqJointS_L1_ex; split <;> simp) (fun w => laws_eqJointS_L1_body_ok v_a v_b w) v_i r h

def laws_eqJointS (v_a : (List TJoint)) (v_b : (List TJoint)) : Option Bool :=
  if ((len_ eTJoint v_a) != (len_ eTJoint v_b)) = true then
    some false
  else
    laws_eqJointS_L1 v_a v_b 0 >>= fun r2 =>
    match r2 with
    | .inl a4 => (some true)
    | .inr a4 => (some false)

theorem laws_eqJointS_ok (v_a : (List TJoint)) (v_b : (List TJoint)) : Wp (laws_eqJointS v_a v_b) (fun r => Con PP 68 [.isl 4 (v_a.map eTJoint), .isl 4 (v_b.map eTJoint)] [] (.b r) []) := by
  unfold laws_eqJointS
  exact .ite (fun h1 =>
    .ret (runF_con0 hmix (tape := [.reg [nt], .reg [nt, nt, nt, nt, nt], .br true, .reg [nt]]) (rr := ii) (by kernel_rfl) (.cons h1 .nil)))
    (fun h1 =>
    .bnd fun r2 h3 =>
     match r2, h3 with
     | .inl a4, h3 => (.ret (runF_con0 hmix (tape := [.reg [nt], .reg [nt, nt, nt, nt, nt], .br false, .reg [nt], .rst [] [] [(0, ii), (1, ii), (5, ii)], .sub (.exit 0) [] [], .reg [nt]]) (rr := ii) (by kernel_rfl) (.cons h1 (.cons ((laws_eqJointS_L1_ok v_a v_b 0 (.inl a4) h3).vex) .nil))))
     | .inr a4, h3 => (.ret (runF_con0 hmix (tape := [.reg [nt], .reg [nt, nt, nt, nt, nt], .br false, .reg [nt], .rst [] [] [(0, ii), (1, ii), (5, ii)], .sub (.ret) [(4, .b false)] []]) (rr := ii) (by kernel_rfl) (.cons h1 (.cons ((laws_eqJointS_L1_ok v_a v_b 0 (.inr a4) h3).vex) .nil)))))

def laws_eqMember (v_a : TMember) (v_b : TMember) : Option Bool :=
  if (v_a.fA != v_b.fA) = true then
    some false
  else
    if (v_a.fB != v_b.fB) = true then
      some false
    else
      if (v_a.fKind != v_b.fKind) = true then
        some false
      else
        some true

theorem laws_eqMember_ok (v_a : TMember) (v_b : TMember) : Wp (laws_eqMember v_a v_b) (fun r => Con PP 105 [.agg [.n .i64 v_a.fA, .n .i64 v_a.fB, .n .i64 v_a.fKind], .agg [.n .i64 v_b.fA, .n .i64 v_b.fB, .n .i64 v_b.fKind]] [] (.b r) []) := by
  unfold laws_eqMember
  exact .ite (fun h1 =>
    .ret (runF_con0 hmix (tape := [.reg [nt, nt, nt], .reg [nt, nt, nt, nt, nt], .br true, .reg [nt]]) (rr := ii) (by kernel_rfl) (.cons h1 .nil)))
    (fun h1 =>
    .ite (fun h2 =>
     .ret (runF_con0 hmix (tape := [.reg [nt, nt, nt], .reg [nt, nt, nt, nt, nt], .br false, .reg [nt, nt, nt, nt, nt], .br true, .reg [nt]]) (rr := ii) (by kernel_rfl) (.cons h1 (.cons h2 .nil))))
     (fun h2 =>
     .ite (fun h3 =>
      .ret (runF_con0 hmix (tape := [.reg [nt, nt, nt], .reg [nt, nt, nt, nt, nt], .br false, .reg [nt, nt, nt, nt, nt], .br false, .reg [nt, nt, nt, nt, nt], .br true, .reg [nt]]) (rr := ii) (by kernel_rfl) (.cons h1 (.cons h2 (.cons h3 .nil)))))
      (fun h3 =>
      .ret (runF_con0 hmix (tape := [.reg [nt, nt, nt], .reg [nt, nt, nt, nt, nt], .br false, .reg [nt, nt, nt, nt, nt], .br false, .reg [nt, nt, nt, nt, nt], .br false, .reg [nt]]) (rr := ii) (by kernel_rfl) (.cons h1 (.cons h2 (.cons h3 .nil)))))))

def laws_eqMemberS_L1_head (v_a : (List TMember)) (v_b : (List TMember)) (v_i : Int) : S := mkS [(0, .isl 3 (v_a.map eTMember)), (1, .isl 3 (v_b.map eTMember)), (5, .n .i64 v_i)] []

def laws_eqMemberS_L1_ex : ((Unit) ⊕ (Unit)) → Exit
  | .inl _ => .exit 0
  | .inr _ => .ret

def laws_eqMemberS_L1_out (v_a : (List TMember)) (v_b : (List TMember)) : ((Unit) ⊕ (Unit)) → S
  | .inl a => mkS [] []
  | .inr a => mkS [(4, .b false)] []

def laws_eqMemberS_L1_body (v_a : (List TMember)) (v_b : (List TMember)) (v_i : Int) : Option ((Int) ⊕ ((Unit) ⊕ (Unit))) :=
  if (decide (v_i < (len_ eTMember v_a))) = true then
    if 0 ≤ v_i ∧ v_i < v_a.length then
    v_a[v_i.toNat]? >>= fun x3 =>
    if 0 ≤ v_i ∧ v_i < v_b.length then
    v_b[v_i.toNat]? >>= fun x6 =>
    laws_eqMember x3 x6 >>= fun r8 =>
    if r8 = true then
      some (.inl (w64 (v_i + (1 : Int))))
    else
      some (.inr (.inr ()))
    else none
    else none
  else
    some (.inr (.inl ()))

def laws_eqMemberS_L1 (v_a : (List TMember)) (v_b : (List TMember)) (v_i : Int) : Option ((Unit) ⊕ (Unit)) := iter (fun w : Int => laws_eqMemberS_L1_body v_a v_b w) v_i

theorem laws_eqMemberS_L1_body_ok (v_a : (List TMember)) (v_b : (List TMember)) (v_i : Int) : Wp (laws_eqMemberS_L1_body v_a v_b v_i) (Sum.elim
    (fun w => VEx PP 27 0 (nodeAt (bodyOf PP 69) [1, 1, 0, 1, 0, 0]) .normal (laws_eqMemberS_L1_head v_a v_b v_i) (laws_eqMemberS_L1_head v_a v_b w))
    (fun r => VEx PP 27 0 (nodeAt (bodyOf PP 69) [1, 1, 0, 1, 0, 0]) (laws_eqMemberS_L1_ex r) (laws_eqMemberS_L1_head v_a v_b v_i) (laws_eqMemberS_L1_out v_a v_b r))) := by
  unfold laws_eqMemberS_L1_body
  exact .ite (fun h1 =>
      .grd fun h2 =>
       .bnd fun x3 h4 =>
       .grd fun h5 =>
       .bnd fun x6 h7 =>
       .bnd fun r8 h9 =>
       .ite (fun h10 =>
       .ret ((okC_sound hmix (tape := [.reg [nt, nt, nt, nt], .br true, .reg [nt, nt, nt, (.el (eTMember x3), true), nt, nt, nt, (.el (eTMember x6), true), (.call { ac := [ii, ii], r := .b r8, sc := true }, true), nt], .br false, .reg [nt, nt, nt], .rst [] [] [(0, ii), (1, ii), (5, ii)]]) (nr := 0) (by kernel_rfl) (.cons h1 (.cons ((h2).1) (.cons (lt_mapI (h2).2 : v_i < ((v_a.map eTMember).length : Nat)) (.cons (map_get h4 : (v_a.map eTMember)[v_i.toNat]? = some (eTMember x3)) (.cons ((h5).1) (.cons (lt_mapI (h5).2 : v_i < ((v_b.map eTMember).length : Nat)) (.cons (map_get h7 : (v_b.map eTMember)[v_i.toNat]? = some (eTMember x6)) (.cons (laws_eqMember_ok x3 x6 r8 h9) (.cons (Sc.b _ : Sc (.b r8)) (.cons (not_t h10) .nil)))))))))) (mkS_free _ _) : VEx PP 27 0 (nodeAt (bodyOf PP 69) [1, 1, 0, 1, 0, 0]) .normal (laws_eqMemberS_L1_head v_a v_b v_i) (laws_eqMemberS_L1_head v_a v_b (w64 (v_i + (1 : Int)))))))
       (fun h10 =>
       .ret ((okC_sound hmix (tape := [.reg [nt, nt, nt, nt], .br true, .reg [nt, nt, nt, (.el (eTMember x3), true), nt, nt, nt, (.el (eTMember x6), true), (.call { ac := [ii, ii], r := .b r8, sc := true }, true), nt], .br true, .reg [nt], .rst [] [] [(4, ii)]]) (nr := 0) (by kernel_rfl) (.cons h1 (.cons ((h2).1) (.cons (lt_mapI (h2).2 : v_i < ((v_a.map eTMember).length : Nat)) (.cons (map_get h4 : (v_a.map eTMember)[v_i.toNat]? = some (eTMember x3)) (.cons ((h5).1) (.cons (lt_mapI (h5).2 : v_i < ((v_b.map eTMember).length : Nat)) (.cons (map_get h7 : (v_b.map eTMember)[v_i.toNat]? = some (eTMember x6)) (.cons (laws_eqMember_ok x3 x6 r8 h9) (.cons (Sc.b _ : Sc (.b r8)) (.cons (not_f h10) .nil)))))))))) (mkS_free _ _) : VEx PP 27 0 (nodeAt (bodyOf PP 69) [1, 1, 0, 1, 0, 0]) (.ret) (laws_eqMemberS_L1_head v_a v_b v_i) (laws_eqMemberS_L1_out v_a v_b (.inr ()))))))
      (fun h1 =>
      .ret ((okC_sound hmix (tape := [.reg [nt, nt, nt, nt], .br false, .rst [] [] []]) (nr := 0) (by kernel_rfl) (.cons h1 .nil) (mkS_free _ _) : VEx PP 27 0 (nodeAt (bodyOf PP 69) [1, 1, 0, 1, 0, 0]) (.exit 0) (laws_eqMemberS_L1_head v_a v_b v_i) (laws_eqMemberS_L1_out v_a v_b (.inl ())))))

theorem laws_eqMemberS_L1_ok (v_a : (List TMember)) (v_b : (List TMember)) (v_i : Int) : ∀ r, laws_eqMemberS_L1 v_a v_b v_i = some r → VLoop PP 27 0 (nodeAt (bodyOf PP 69) [1, 1, 0, 1, 0, 0]) (laws_eqMemberS_L1_ex r) (laws_eqMemberS_L1_head v_a v_b v_i) (laws_eqMemberS_L1_out v_a v_b r) := fun r h =>
  iter_ok (head := fun w : Int => laws_eqMemberS_L1_head v_a v_b w) (ex := laws_eqMemberS_L1_ex) (out := laws_eqMemberS_L1_out v_a v_b) (by intro r; unfold laws_eqMemberS_L1_ex; split <;> simp) (fun w => laws_eqMemberS_L1_body_ok v_a v_b w) v_i r h

def laws_eqMemberS (v_a : (List TMember)) (v_b : (List TMember)) : Option Bool :=
  if ((len_ eTMember v_a) != (len_ eTMember v_b)) = true then
    some false
  else
    laws_eqMemberS_L1 v_a v_b 0 >>= fun r2 =>
    match r2 with
    | .inl a4 => (some true)
    | .inr a4 => (some false)

theorem laws_eqMemberS_ok (v_a : (List TMember)) (v_b : (List TMember)) : Wp (laws_eqMemberS v_a v_b) (fun r => Con PP 69 [.isl 3 (v_a.map eTMember), .isl 3 (v_b.map eTMember)] [] (.b r) []) := by
  unfold laws_eqMemberS
  exact .ite (fun h1 =>
    .ret (runF_con0 hmix (tape := [.reg [nt], .reg [nt, nt, nt, nt, nt], .br true, .reg [nt]]) (rr := ii) (by kernel_rfl) (.cons h1 .nil)))
    (fun h1 =>
    .bnd fun r2 h3 =>
     match r2, h3 with
     | .inl a4, h3 => (.ret (runF_con0 hmix (tape := [.reg [nt], .reg [nt, nt, nt, nt, nt], .br false, .reg [nt], .rst [] [] [(0, ii), (1, ii), (5, ii)], .sub (.exit 0) [] [], .reg [nt]]) (rr := ii) (by kernel_rfl) (.cons h1 (.cons ((laws_eqMemberS_L1_ok v_a v_b 0 (.inl a4) h3).vex) .nil))))
     | .inr a4, h3 => (.ret (runF_con0 hmix (tape := [.reg [nt], .reg [nt, nt, nt, nt, nt], .br false, .reg [nt], .rst [] [] [(0, ii), (1, ii), (5, ii)], .sub (.ret) [(4, .b false)] []]) (rr := ii) (by kernel_rfl) (.cons h1 (.cons ((laws_eqMemberS_L1_ok v_a v_b 0 (.inr a4) h3).vex) .nil)))))

def laws_eqStructure (v_a : TStructure) (v_b : TStructure) : Option Bool :=
  laws_eqJointS v_a.fJoints v_b.fJoints >>= fun r1 =>
  if r1 = true then
    laws_eqMemberS v_a.fMembers v_b.fMembers >>= fun r4 =>
    if r4 = true then
      some true
    else
      some false
  else
    some false

theorem laws_eqStructure_ok (v_a : TStructure) (v_b : TStructure) : Wp (laws_eqStructure v_a v_b) (fun r => Con PP 23 [.agg [.isl 4 (v_a.fJoints.map eTJoint), .isl 3 (v_a.fMembers.map eTMember)], .agg [.isl 4 (v_b.fJoints.map eTJoint), .isl 3 (v_b.fMembers.map eTMember)]] [] (.b r) []) := by
  unfold laws_eqStructure
  exact .bnd fun r1 h2 =>
    .ite (fun h3 =>
    .bnd fun r4 h5 =>
     .ite (fun h6 =>
     .ret (runF_con0 hmix (tape := [.reg [nt, nt, nt], .reg [nt, nt, nt, nt, (.call { ac := [ii, ii], r := .b r1, sc := true }, true), nt], .br false, .reg [nt, nt, nt, nt, (.call { ac := [ii, ii], r := .b r4, sc := true }, true), nt], .br false, .reg [nt]]) (rr := ii) (by kernel_rfl) (.cons (laws_eqJointS_ok v_a.fJoints v_b.fJoints r1 h2) (.cons (Sc.b _ : Sc (.b r1)) (.cons (not_t h3) (.cons (laws_eqMemberS_ok v_a.fMembers v_b.fMembers r4 h5) (.cons (Sc.b _ : Sc (.b r4)) (.cons (not_t h6) .nil))))))))
     (fun h6 =>
     .ret (runF_con0 hmix (tape := [.reg [nt, nt, nt], .reg [nt, nt, nt, nt, (.call { ac := [ii, ii], r := .b r1, sc := true }, true), nt], .br false, .reg [nt, nt, nt, nt, (.call { ac := [ii, ii], r := .b r4, sc := true }, true), nt], .br true, .reg [nt]]) (rr := ii) (by kernel_rfl) (.cons (laws_eqJointS_ok v_a.fJoints v_b.fJoints r1 h2) (.cons (Sc.b _ : Sc (.b r1)) (.cons (not_t h3) (.cons (laws_eqMemberS_ok v_a.fMembers v_b.fMembers r4 h5) (.cons (Sc.b _ : Sc (.b r4)) (.cons (not_f h6) .nil)))))))))
    (fun h3 =>
    .ret (runF_con0 hmix (tape := [.reg [nt, nt, nt], .reg [nt, nt, nt, nt, (.call { ac := [ii, ii], r := .b r1, sc := true }, true), nt], .br true, .reg [nt]]) (rr := ii) (by kernel_rfl) (.cons (laws_eqJointS_ok v_a.fJoints v_b.fJoints r1 h2) (.cons (Sc.b _ : Sc (.b r1)) (.cons (not_f h3) .nil)))))

def laws_eqIntS_L1_head (v_a : (List Int)) (v_b : (List Int)) (v_i : Int) : S := mkS [(0, .isl 1 (v_a.map eI)), (1, .isl 1 (v_b.map eI)), (5, .n .i64 v_i)] []

def laws_eqIntS_L1_ex : ((Unit) ⊕ (Unit)) → Exit
  | .inl _ => .exit 0
  | .inr _ => .ret

def laws_eqIntS_L1_out (v_a : (List Int)) (v_b : (List Int)) : ((Unit) ⊕ (Unit)) → S
  | .inl a => mkS [] []
  | .inr a => mkS [(4, .b false)] []

def laws_eqIntS_L1_body (v_a : (List Int)) (v_b : (List Int)) (v_i : Int) : Option ((Int) ⊕ ((Unit) ⊕ (Unit))) :=
  if (decide (v_i < (len_ eI v_a))) = true then
    if 0 ≤ v_i ∧ v_i < v_a.length then
    v_a[v_i.toNat]? >>= fun x3 =>
    if 0 ≤ v_i ∧ v_i < v_b.length then
    v_b[v_i.toNat]? >>= fun x6 =>
    if (x3 != x6) = true then
      some (.inr (.inr ()))
    else
      some (.inl (w64 (v_i + (1 : Int))))
    else none
    else none
  else
    some (.inr (.inl ()))

def laws_eqIntS_L1 (v_a : (List Int)) (v_b : (List Int)) (v_i : Int) : Option ((Unit) ⊕ (Unit)) := iter (fun w : Int => laws_eqIntS_L1_body v_a v_b w) v_i

theorem laws_eqIntS_L1_body_ok (v_a : (List Int)) (v_b : (List Int)) (v_i : Int) : Wp (laws_eqIntS_L1_body v_a v_b v_i) (Sum.elim
    (fun w => VEx PP 26 0 (nodeAt (bodyOf PP 24) [1, 1, 0, 1, 0, 0]) .normal (laws_eqIntS_L1_head v_a v_b v_i) (laws_eqIntS_L1_head v_a v_b w))
    (fun r => VEx PP 26 0 (nodeAt (bodyOf PP 24) [1, 1, 0, 1, 0, 0]) (laws_eqIntS_L1_ex r) (laws_eqIntS_L1_head v_a v_b v_i) (laws_eqIntS_L1_out v_a v_b r))) := by
  unfold laws_eqIntS_L1_body
  exact .ite (fun h1 =>
      .grd fun h2 =>
       .bnd fun x3 h4 =>
       .grd fun h5 =>
       .bnd fun x6 h7 =>
       .ite (fun h8 =>
       .ret ((okC_sound hmix (tape := [.reg [nt, nt, nt, nt], .br true, .reg [nt, nt, nt, (.el (eI x3), true), nt, nt, nt, (.el (eI x6), true), nt], .br true, .reg [nt], .rst [] [] [(4, ii)]]) (nr := 0) (by kernel_rfl) (.cons h1 (.cons ((h2).1) (.cons (lt_mapI (h2).2 : v_i < ((v_a.map eI).length : Nat)) (.cons (map_get h4 : (v_a.map eI)[v_i.toNat]? = some (eI x3)) (.cons ((h5).1) (.cons (lt_mapI (h5).2 : v_i < ((v_b.map eI).length : Nat)) (.cons (map_get h7 : (v_b.map eI)[v_i.toNat]? = some (eI x6)) (.cons h8 .nil)))))))) (mkS_free _ _) : VEx PP 26 0 (nodeAt (bodyOf PP 24) [1, 1, 0, 1, 0, 0]) (.ret) (laws_eqIntS_L1_head v_a v_b v_i) (laws_eqIntS_L1_out v_a v_b (.inr ())))))
       (fun h8 =>
       .ret ((okC_sound hmix (tape := [.reg [nt, nt, nt, nt], .br true, .reg [nt, nt, nt, (.el (eI x3), true), nt, nt, nt, (.el (eI x6), true), nt], .br false, .reg [nt, nt, nt], .rst [] [] [(0, ii), (1, ii), (5, ii)]]) (nr := 0) (by kernel_rfl) (.cons h1 (.cons ((h2).1) (.cons (lt_mapI (h2).2 : v_i < ((v_a.map eI).length : Nat)) (.cons (map_get h4 : (v_a.map eI)[v_i.toNat]? = some (eI x3)) (.cons ((h5).1) (.cons (lt_mapI (h5).2 : v_i < ((v_b.map eI).length : Nat)) (.cons (map_get h7 : (v_b.map eI)[v_i.toNat]? = some (eI x6)) (.cons h8 .nil)))))))) (mkS_free _ _) : VEx PP 26 0 (nodeAt (bodyOf PP 24) [1, 1, 0, 1, 0, 0]) .normal (laws_eqIntS_L1_head v_a v_b v_i) (laws_eqIntS_L1_head v_a v_b (w64 (v_i + (1 : Int))))))))
      (fun h1 =>
      .ret ((okC_sound hmix (tape := [.reg [nt, nt, nt, nt], .br false, .rst [] [] []]) (nr := 0) (by kernel_rfl) (.cons h1 .nil) (mkS_free _ _) : VEx PP 26 0 (nodeAt (bodyOf PP 24) [1, 1, 0, 1, 0, 0]) (.exit 0) (laws_eqIntS_L1_head v_a v_b v_i) (laws_eqIntS_L1_out v_a v_b (.inl ())))))

theorem laws_eqIntS_L1_ok (v_a : (List Int)) (v_b : (List Int)) (v_i : Int) : ∀ r, laws_eqIntS_L1 v_a v_b v_i = some r → VLoop PP 26 0 (nodeAt (bodyOf PP 24) [1, 1, 0, 1, 0, 0]) (laws_eqIntS_L1_ex r) (laws_eqIntS_L1_head v_a v_b v_i) (laws_eqIntS_L1_out v_a v_b r) := fun r h =>
  iter_ok (head := fun w : Int => laws_eqIntS_L1_head v_a v_b w) (ex := laws_eqIntS_L1_ex) (out := laws_eqIntS_L1_out v_a v_b) (by intro r; unfold laws_eqIntS_L1_ex; split <;> simp) (fun w => laws_eqIntS_L1_body_ok v_a v_b w) v_i r h

def laws_eqIntS (v_a : (List Int)) (v_b : (List Int)) : Option Bool :=
  if ((len_ eI v_a) != (len_ eI v_b)) = true then
    some false
  else
    laws_eqIntS_L1 v_a v_b 0 >>= fun r2 =>
    match r2 with
    | .inl a4 => (some true)
    | .inr a4 => (some false)

theorem laws_eqIntS_ok (v_a : (List Int)) (v_b : (List Int)) : Wp (laws_eqIntS v_a v_b) (fun r => Con PP 24 [.isl 1 (v_a.map eI), .isl 1 (v_b.map eI)] [] (.b r) []) := by
  unfold laws_eqIntS
  exact .ite (fun h1 =>
    .ret (runF_con0 hmix (tape := [.reg [nt], .reg [nt, nt, nt, nt, nt], .br true, .reg [nt]]) (rr := ii) (by kernel_rfl) (.cons h1 .nil)))
    (fun h1 =>
    .bnd fun r2 h3 =>
     match r2, h3 with
     | .inl a4, h3 => (.ret (runF_con0 hmix (tape := [.reg [nt], .reg [nt, nt, nt, nt, nt], .br false, .reg [nt], .rst [] [] [(0, ii), (1, ii), (5, ii)], .sub (.exit 0) [] [], .reg [nt]]) (rr := ii) (by kernel_rfl) (.cons h1 (.cons ((laws_eqIntS_L1_ok v_a v_b 0 (.inl a4) h3).vex) .nil))))
     | .inr a4, h3 => (.ret (runF_con0 hmix (tape := [.reg [nt], .reg [nt, nt, nt, nt, nt], .br false, .reg [nt], .rst [] [] [(0, ii), (1, ii), (5, ii)], .sub (.ret) [(4, .b false)] []]) (rr := ii) (by kernel_rfl) (.cons h1 (.cons ((laws_eqIntS_L1_ok v_a v_b 0 (.inr a4) h3).vex) .nil)))))

def laws_FnExactLimitsOk (v_aS : TStructure) (v_aW : (List Int)) : Option Bool :=
  if (decide ((1048576 : Int) < (len_ eI v_aW))) = true then
    some true
  else
    laws_szStructure v_aS 1048576 >>= fun r2 =>
    if (decide (r2 < (0 : Int))) = true then
      some true
    else
      laws_toStructure v_aS >>= fun r5 =>
      laws_toIntS v_aW >>= fun r7 =>
      spec_LimitsOk r5 r7 >>= fun r9 =>
      impl_LimitsOk r5 r7 >>= fun r11 =>
      if (r11 == r9) = true then
        laws_eqStructure r5 r5 >>= fun r14 =>
        if r14 = true then
          laws_eqIntS r7 r7 >>= fun r17 =>
          if r17 = true then
            some true
          else
            some false
        else
          some false
      else
        some false

theorem laws_FnExactLimitsOk_ok (v_aS : TStructure) (v_aW : (List Int)) : Wp (laws_FnExactLimitsOk v_aS v_aW) (fun r => Con PP 5 [.agg [.isl 4 (v_aS.fJoints.map eTJoint), .isl 3 (v_aS.fMembers.map eTMember)], .isl 1 (v_aW.map eI)] [] (.b r) []) := by
  unfold laws_FnExactLimitsOk
  exact .ite (fun h1 =>
    .ret (runF_con0 hmix (tape := [.reg [nt, nt], .reg [nt, nt, nt], .br true, .reg [nt]]) (rr := ii) (by kernel_rfl) (.cons h1 .nil)))
    (fun h1 =>
    .bnd fun r2 h3 =>
     .ite (fun h4 =>
     .ret (runF_con0 hmix (tape := [.reg [nt, nt], .reg [nt, nt, nt], .br false, .reg [nt], .reg [nt, nt, (.call { ac := [ii, ii], r := .n .i64 r2, sc := true }, true), nt], .reg [nt, nt], .br true, .reg [nt]]) (rr := ii) (by kernel_rfl) (.cons h1 (.cons (laws_szStructure_ok v_aS 1048576 r2 h3) (.cons (Sc.n _ _ : Sc (.n .i64 r2)) (.cons h4 .nil))))))
     (fun h4 =>
     .bnd fun r5 h6 =>
      .bnd fun r7 h8 =>
      .bnd fun r9 h10 =>
      .bnd fun r11 h12 =>
      .ite (fun h13 =>
      .bnd fun r14 h15 =>
       .ite (fun h16 =>
       .bnd fun r17 h18 =>
        .ite (fun h19 =>
        .ret (runF_con0 hmix (tape := [.reg [nt, nt], .reg [nt, nt, nt], .br false, .reg [nt], .reg [nt, nt, (.call { ac := [ii, ii], r := .n .i64 r2, sc := true }, true), nt], .reg [nt, nt], .br false, .reg [nt, (.call { ac := [ii], r := .agg [.isl 4 (r5.fJoints.map eTJoint), .isl 3 (r5.fMembers.map eTMember)], sc := false }, true), nt, (.call { ac := [ii], r := .isl 1 (r7.map eI), sc := false }, true), (.call { ac := [ii, ii], r := .b r9, sc := true }, true), nt], .reg [nt, (.call { ac := [ii], r := .agg [.isl 4 (r5.fJoints.map eTJoint), .isl 3 (r5.fMembers.map eTMember)], sc := false }, true), nt, nt], .reg [nt, (.call { ac := [ii], r := .isl 1 (r7.map eI), sc := false }, true), nt], .reg [nt, nt, (.call { ac := [ii, ii], r := .b r11, sc := true }, true), nt], .reg [nt, nt, nt], .br false, .reg [nt, nt, (.call { ac := [ii], r := .agg [.isl 4 (r5.fJoints.map eTJoint), .isl 3 (r5.fMembers.map eTMember)], sc := false }, true), (.call { ac := [ii, ii], r := .b r14, sc := true }, true), nt], .br false, .reg [nt, nt, (.call { ac := [ii], r := .isl 1 (r7.map eI), sc := false }, true), (.call { ac := [ii, ii], r := .b r17, sc := true }, true), nt], .br false, .reg [nt]]) (rr := ii) (by kernel_rfl) (.cons h1 (.cons (laws_szStructure_ok v_aS 1048576 r2 h3) (.cons (Sc.n _ _ : Sc (.n .i64 r2)) (.cons h4 (.cons (laws_toStructure_ok v_aS r5 h6) (.cons (laws_toIntS_ok v_aW r7 h8) (.cons (spec_LimitsOk_ok r5 r7 r9 h10) (.cons (Sc.b _ : Sc (.b r9)) (.cons (laws_toStructure_ok v_aS r5 h6) (.cons (laws_toIntS_ok v_aW r7 h8) (.cons (impl_LimitsOk_ok r5 r7 r11 h12) (.cons (Sc.b _ : Sc (.b r11)) (.cons (not_t h13) (.cons (laws_toStructure_ok v_aS r5 h6) (.cons (laws_eqStructure_ok r5 r5 r14 h15) (.cons (Sc.b _ : Sc (.b r14)) (.cons (not_t h16) (.cons (laws_toIntS_ok v_aW r7 h8) (.cons (laws_eqIntS_ok r7 r7 r17 h18) (.cons (Sc.b _ : Sc (.b r17)) (.cons (not_t h19) .nil)))))))))))))))))))))))
        (fun h19 =>
        .ret (runF_con0 hmix (tape := [.reg [nt, nt], .reg [nt, nt, nt], .br false, .reg [nt], .reg [nt, nt, (.call { ac := [ii, ii], r := .n .i64 r2, sc := true }, true), nt], .reg [nt, nt], .br false, .reg [nt, (.call { ac := [ii], r := .agg [.isl 4 (r5.fJoints.map eTJoint), .isl 3 (r5.fMembers.map eTMember)], sc := false }, true), nt, (.call { ac := [ii], r := .isl 1 (r7.map eI), sc := false }, true), (.call { ac := [ii, ii], r := .b r9, sc := true }, true), nt], .reg [nt, (.call { ac := [ii], r := .agg [.isl 4 (r5.fJoints.map eTJoint), .isl 3 (r5.fMembers.map eTMember)], sc := false }, true), nt, nt], .reg [nt, (.call { ac := [ii], r := .isl 1 (r7.map eI), sc := false }, true), nt], .reg [nt, nt, (.call { ac := [ii, ii], r := .b r11, sc := true }, true), nt], .reg [nt, nt, nt], .br false, .reg [nt, nt, (.call { ac := [ii], r := .agg [.isl 4 (r5.fJoints.map eTJoint), .isl 3 (r5.fMembers.map eTMember)], sc := false }, true), (.call { ac := [ii, ii], r := .b r14, sc := true }, true), nt], .br false, .reg [nt, nt, (.call { ac := [ii], r := .isl 1 (r7.map eI), sc := false }, true), (.call { ac := [ii, ii], r := .b r17, sc := true }, true), nt], .br true, .reg [nt]]) (rr := ii) (by kernel_rfl) (.cons h1 (.cons (laws_szStructure_ok v_aS 1048576 r2 h3) (.cons (Sc.n _ _ : Sc (.n .i64 r2)) (.cons h4 (.cons (laws_toStructure_ok v_aS r5 h6) (.cons (laws_toIntS_ok v_aW r7 h8) (.cons (spec_LimitsOk_ok r5 r7 r9 h10) (.cons (Sc.b _ : Sc (.b r9)) (.cons (laws_toStructure_ok v_aS r5 h6) (.cons (laws_toIntS_ok v_aW r7 h8) (.cons (impl_LimitsOk_ok r5 r7 r11 h12) (.cons (Sc.b _ : Sc (.b r11)) (.cons (not_t h13) (.cons (laws_toStructure_ok v_aS r5 h6) (.cons (laws_eqStructure_ok r5 r5 r14 h15) (.cons (Sc.b _ : Sc (.b r14)) (.cons (not_t h16) (.cons (laws_toIntS_ok v_aW r7 h8) (.cons (laws_eqIntS_ok r7 r7 r17 h18) (.cons (Sc.b _ : Sc (.b r17)) (.cons (not_f h19) .nil))))))))))))))))))))))))
       (fun h16 =>
       .ret (runF_con0 hmix (tape := [.reg [nt, nt], .reg [nt, nt, nt], .br false, .reg [nt], .reg [nt, nt, (.call { ac := [ii, ii], r := .n .i64 r2, sc := true }, true), nt], .reg [nt, nt], .br false, .reg [nt, (.call { ac := [ii], r := .agg [.isl 4 (r5.fJoints.map eTJoint), .isl 3 (r5.fMembers.map eTMember)], sc := false }, true), nt, (.call { ac := [ii], r := .isl 1 (r7.map eI), sc := false }, true), (.call { ac := [ii, ii], r := .b r9, sc := true }, true), nt], .reg [nt, (.call { ac := [ii], r := .agg [.isl 4 (r5.fJoints.map eTJoint), .isl 3 (r5.fMembers.map eTMember)], sc := false }, true), nt, nt], .reg [nt, (.call { ac := [ii], r := .isl 1 (r7.map eI), sc := false }, true), nt], .reg [nt, nt, (.call { ac := [ii, ii], r := .b r11, sc := true }, true), nt], .reg [nt, nt, nt], .br false, .reg [nt, nt, (.call { ac := [ii], r := .agg [.isl 4 (r5.fJoints.map eTJoint), .isl 3 (r5.fMembers.map eTMember)], sc := false }, true), (.call { ac := [ii, ii], r := .b r14, sc := true }, true), nt], .br true, .reg [nt]]) (rr := ii) (by kernel_rfl) (.cons h1 (.cons (laws_szStructure_ok v_aS 1048576 r2 h3) (.cons (Sc.n _ _ : Sc (.n .i64 r2)) (.cons h4 (.cons (laws_toStructure_ok v_aS r5 h6) (.cons (laws_toIntS_ok v_aW r7 h8) (.cons (spec_LimitsOk_ok r5 r7 r9 h10) (.cons (Sc.b _ : Sc (.b r9)) (.cons (laws_toStructure_ok v_aS r5 h6) (.cons (laws_toIntS_ok v_aW r7 h8) (.cons (impl_LimitsOk_ok r5 r7 r11 h12) (.cons (Sc.b _ : Sc (.b r11)) (.cons (not_t h13) (.cons (laws_toStructure_ok v_aS r5 h6) (.cons (laws_eqStructure_ok r5 r5 r14 h15) (.cons (Sc.b _ : Sc (.b r14)) (.cons (not_f h16) .nil))))))))))))))))))))
      (fun h13 =>
      .ret (runF_con0 hmix (tape := [.reg [nt, nt], .reg [nt, nt, nt], .br false, .reg [nt], .reg [nt, nt, (.call { ac := [ii, ii], r := .n .i64 r2, sc := true }, true), nt], .reg [nt, nt], .br false, .reg [nt, (.call { ac := [ii], r := .agg [.isl 4 (r5.fJoints.map eTJoint), .isl 3 (r5.fMembers.map eTMember)], sc := false }, true), nt, (.call { ac := [ii], r := .isl 1 (r7.map eI), sc := false }, true), (.call { ac := [ii, ii], r := .b r9, sc := true }, true), nt], .reg [nt, (.call { ac := [ii], r := .agg [.isl 4 (r5.fJoints.map eTJoint), .isl 3 (r5.fMembers.map eTMember)], sc := false }, true), nt, nt], .reg [nt, (.call { ac := [ii], r := .isl 1 (r7.map eI), sc := false }, true), nt], .reg [nt, nt, (.call { ac := [ii, ii], r := .b r11, sc := true }, true), nt], .reg [nt, nt, nt], .br true, .reg [nt]]) (rr := ii) (by kernel_rfl) (.cons h1 (.cons (laws_szStructure_ok v_aS 1048576 r2 h3) (.cons (Sc.n _ _ : Sc (.n .i64 r2)) (.cons h4 (.cons (laws_toStructure_ok v_aS r5 h6) (.cons (laws_toIntS_ok v_aW r7 h8) (.cons (spec_LimitsOk_ok r5 r7 r9 h10) (.cons (Sc.b _ : Sc (.b r9)) (.cons (laws_toStructure_ok v_aS r5 h6) (.cons (laws_toIntS_ok v_aW r7 h8) (.cons (impl_LimitsOk_ok r5 r7 r11 h12) (.cons (Sc.b _ : Sc (.b r11)) (.cons (not_f h13) .nil)))))))))))))))))

end Go.Proofs.Ytjgnmimfihhphaa
