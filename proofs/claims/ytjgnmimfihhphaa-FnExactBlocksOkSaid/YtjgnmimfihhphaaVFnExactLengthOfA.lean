/- Plain functions for the program's functions, and that calls come to them: printed by a program. No condition. -/
import Derived.Test.YtjgnmimfihhphaaV0
import Derived.Test.YtjgnmimfihhphaaVFnExactIsSteepA
import Derived.Test.YtjgnmimfihhphaaVFnExactLimitsOkA
namespace Go.Proofs.Ytjgnmimfihhphaa
open Go Go.VL

def spec_l12Vector (v_s : TStructure) (v_k : Int) : Option (Int × Int) :=
  if 0 ≤ v_k ∧ v_k < v_s.fMembers.length then
  v_s.fMembers[v_k.toNat]? >>= fun x2 =>
  if 0 ≤ x2.fA ∧ x2.fA < v_s.fJoints.length then
  v_s.fJoints[x2.fA.toNat]? >>= fun x5 =>
  if 0 ≤ x2.fB ∧ x2.fB < v_s.fJoints.length then
  v_s.fJoints[x2.fB.toNat]? >>= fun x8 =>
  some (w64 (x8.fX - x5.fX), w64 (x8.fY - x5.fY))
  else none
  else none
  else none

theorem spec_l12Vector_ok (v_s : TStructure) (v_k : Int) : Wp (spec_l12Vector v_s v_k) (fun r => Con PP 128 [.agg [.isl 4 (v_s.fJoints.map eTJoint), .isl 3 (v_s.fMembers.map eTMember)], .n .i64 v_k] [] (.tup [.n .i64 r.1, .n .i64 r.2]) []) := by
  unfold spec_l12Vector
  exact .grd fun h1 =>
    .bnd fun x2 h3 =>
    .grd fun h4 =>
    .bnd fun x5 h6 =>
    .grd fun h7 =>
    .bnd fun x8 h9 =>
    .ret (runF_con0 hmix (tape := [.reg [nt, nt, nt], .reg [nt, nt, nt, nt, nt, nt, nt, (.el (eTMember x2), true), nt, (.el (eTJoint x5), true), nt, nt], .reg [nt, nt, nt, nt, nt, nt, nt, (.el (eTMember x2), true), nt, (.el (eTJoint x8), true), nt, nt], .reg [nt, nt, nt, nt, nt, nt, nt, nt, nt, nt, nt, nt]]) (rr := ii) (by kernel_rfl) (.cons ((h1).1) (.cons (lt_mapI (h1).2 : v_k < ((v_s.fMembers.map eTMember).length : Nat)) (.cons (map_get h3 : (v_s.fMembers.map eTMember)[v_k.toNat]? = some (eTMember x2)) (.cons ((h4).1) (.cons (lt_mapI (h4).2 : x2.fA < ((v_s.fJoints.map eTJoint).length : Nat)) (.cons (map_get h6 : (v_s.fJoints.map eTJoint)[x2.fA.toNat]? = some (eTJoint x5)) (.cons ((h1).1) (.cons (lt_mapI (h1).2 : v_k < ((v_s.fMembers.map eTMember).length : Nat)) (.cons (map_get h3 : (v_s.fMembers.map eTMember)[v_k.toNat]? = some (eTMember x2)) (.cons ((h7).1) (.cons (lt_mapI (h7).2 : x2.fB < ((v_s.fJoints.map eTJoint).length : Nat)) (.cons (map_get h9 : (v_s.fJoints.map eTJoint)[x2.fB.toNat]? = some (eTJoint x8)) .nil)))))))))))))

def spec_VectorOf (v_s : TStructure) (v_k : Int) : Option (Int × Int) :=
  spec_StructureOk v_s >>= fun r1 =>
  if r1 = true then
    spec_l01In v_k 0 (w64 ((len_ eTMember v_s.fMembers) - (1 : Int))) >>= fun r4 =>
    if r4 = true then
      spec_l12Vector v_s v_k >>= fun r7 =>
      some (r7.1, r7.2)
    else
      some (0, 0)
  else
    some (0, 0)

theorem spec_VectorOf_ok (v_s : TStructure) (v_k : Int) : Wp (spec_VectorOf v_s v_k) (fun r => Con PP 106 [.agg [.isl 4 (v_s.fJoints.map eTJoint), .isl 3 (v_s.fMembers.map eTMember)], .n .i64 v_k] [] (.tup [.n .i64 r.1, .n .i64 r.2]) []) := by
  unfold spec_VectorOf
  exact .bnd fun r1 h2 =>
    .ite (fun h3 =>
    .bnd fun r4 h5 =>
     .ite (fun h6 =>
     .bnd fun r7 h8 =>
      .ret (runF_con0 hmix (tape := [.reg [nt, nt, nt], .reg [nt, (.call { ac := [ii], r := .b r1, sc := true }, true), nt, nt, nt, nt, nt, nt, nt, (.call { ac := [ii, ii, ii], r := .b r4, sc := true }, true), nt, (.br false, true)], .br false, .reg [nt, nt, (.call { ac := [ii, ii], r := .tup [.n .i64 r7.1, .n .i64 r7.2], sc := true }, true), nt, nt, nt, nt]]) (rr := ii) (by kernel_rfl) (.cons (spec_StructureOk_ok v_s r1 h2) (.cons (Sc.b _ : Sc (.b r1)) (.cons (not_t h3) (.cons (not_t h3) (.cons (not_t h3) (.cons (not_t h3) (.cons (not_t h3) (.cons (not_t h3) (.cons (spec_l01In_ok v_k 0 (w64 ((len_ eTMember v_s.fMembers) - (1 : Int))) r4 h5) (.cons (Sc.b _ : Sc (.b r4)) (.cons (not_t h3) (.cons (not_t h3) (.cons (not_t h6) (.cons (spec_l12Vector_ok v_s v_k r7 h8) (.cons (sc_tup (sc_cons (Sc.n _ _ : Sc (.n .i64 r7.1)) (sc_cons (Sc.n _ _ : Sc (.n .i64 r7.2)) sc_nil)) : Sc (.tup [.n .i64 r7.1, .n .i64 r7.2])) .nil)))))))))))))))))
     (fun h6 =>
     .ret (runF_con0 hmix (tape := [.reg [nt, nt, nt], .reg [nt, (.call { ac := [ii], r := .b r1, sc := true }, true), nt, nt, nt, nt, nt, nt, nt, (.call { ac := [ii, ii, ii], r := .b r4, sc := true }, true), nt, (.br false, true)], .br true, .reg [nt, nt]]) (rr := ii) (by kernel_rfl) (.cons (spec_StructureOk_ok v_s r1 h2) (.cons (Sc.b _ : Sc (.b r1)) (.cons (not_t h3) (.cons (not_t h3) (.cons (not_t h3) (.cons (not_t h3) (.cons (not_t h3) (.cons (not_t h3) (.cons (spec_l01In_ok v_k 0 (w64 ((len_ eTMember v_s.fMembers) - (1 : Int))) r4 h5) (.cons (Sc.b _ : Sc (.b r4)) (.cons (not_t h3) (.cons (not_t h3) (.cons (not_f h6) .nil))))))))))))))))
    (fun h3 =>
    .ret (runF_con0 hmix (tape := [.reg [nt, nt, nt], .reg [nt, (.call { ac := [ii], r := .b r1, sc := true }, true), nt, nt, nf, nf, nf, nf, nf, nf, nf, (.br true, true)], .br true, .reg [nt, nt]]) (rr := ii) (by kernel_rfl) (.cons (spec_StructureOk_ok v_s r1 h2) (.cons (Sc.b _ : Sc (.b r1)) (.cons (not_f h3) (.cons (not_f h3) (.cons (not_f h3) (.cons (not_f h3) (.cons (not_f h3) (.cons (not_f h3) (.cons (not_f h3) (.cons (not_f h3) (.cons (rfl : true = true) .nil)))))))))))))

def spec_SquareOf (v_s : TStructure) (v_k : Int) : Option Int :=
  spec_VectorOf v_s v_k >>= fun r1 =>
  some (w64 ((w64 (r1.1 * r1.1)) + (w64 (r1.2 * r1.2))))

theorem spec_SquareOf_ok (v_s : TStructure) (v_k : Int) : Wp (spec_SquareOf v_s v_k) (fun r => Con PP 71 [.agg [.isl 4 (v_s.fJoints.map eTJoint), .isl 3 (v_s.fMembers.map eTMember)], .n .i64 v_k] [] (.n .i64 r) []) := by
  unfold spec_SquareOf
  exact .bnd fun r1 h2 =>
    .ret (runF_con0 hmix (tape := [.reg [nt, nt], .reg [nt, nt, (.call { ac := [ii, ii], r := .tup [.n .i64 r1.1, .n .i64 r1.2], sc := true }, true), nt, nt, nt, nt, nt], .reg [nt, nt, nt, nt, nt, nt, nt, nt]]) (rr := ii) (by kernel_rfl) (.cons (spec_VectorOf_ok v_s v_k r1 h2) (.cons (sc_tup (sc_cons (Sc.n _ _ : Sc (.n .i64 r1.1)) (sc_cons (Sc.n _ _ : Sc (.n .i64 r1.2)) sc_nil)) : Sc (.tup [.n .i64 r1.1, .n .i64 r1.2])) .nil)))

def spec_l24Root_L1_head (v_n : Int) (v_k : Int) : S := mkS [(0, .n .i64 v_n), (3, .n .i64 v_k)] []

def spec_l24Root_L1_ex : ((Unit) ⊕ (Int)) → Exit
  | .inl _ => .exit 0
  | .inr _ => .ret

def spec_l24Root_L1_out (v_n : Int) : ((Unit) ⊕ (Int)) → S
  | .inl a => mkS [] []
  | .inr a => mkS [(2, .n .i64 a)] []

def spec_l24Root_L1_body (v_n : Int) (v_k : Int) : Option ((Int) ⊕ ((Unit) ⊕ (Int))) :=
  if (decide ((w64 (v_k * v_k)) ≤ v_n)) = true then
    if ((w64 (v_k * v_k)) == v_n) = true then
      some (.inr (.inr v_k))
    else
      some (.inl (w64 (v_k + (1 : Int))))
  else
    some (.inr (.inl ()))

def spec_l24Root_L1 (v_n : Int) (v_k : Int) : Option ((Unit) ⊕ (Int)) := iter (fun w : Int => spec_l24Root_L1_body v_n w) v_k

theorem spec_l24Root_L1_body_ok (v_n : Int) (v_k : Int) : Wp (spec_l24Root_L1_body v_n v_k) (Sum.elim
    (fun w => VEx PP 17 0 (nodeAt (bodyOf PP 70) [1, 0, 1, 0, 0]) .normal (spec_l24Root_L1_head v_n v_k) (spec_l24Root_L1_head v_n w))
    (fun r => VEx PP 17 0 (nodeAt (bodyOf PP 70) [1, 0, 1, 0, 0]) (spec_l24Root_L1_ex r) (spec_l24Root_L1_head v_n v_k) (spec_l24Root_L1_out v_n r))) := by
  unfold spec_l24Root_L1_body
  exact .ite (fun h1 =>
      .ite (fun h2 =>
       .ret ((okC_sound hmix (tape := [.reg [nt, nt, nt, nt, nt], .br true, .reg [nt, nt, nt, nt, nt], .br true, .reg [nt, nt], .rst [] [] [(2, ii)]]) (nr := 0) (by kernel_rfl) (.cons h1 (.cons h2 .nil)) (mkS_free _ _) : VEx PP 17 0 (nodeAt (bodyOf PP 70) [1, 0, 1, 0, 0]) (.ret) (spec_l24Root_L1_head v_n v_k) (spec_l24Root_L1_out v_n (.inr v_k)))))
       (fun h2 =>
       .ret ((okC_sound hmix (tape := [.reg [nt, nt, nt, nt, nt], .br true, .reg [nt, nt, nt, nt, nt], .br false, .reg [nt, nt, nt], .rst [] [] [(0, ii), (3, ii)]]) (nr := 0) (by kernel_rfl) (.cons h1 (.cons h2 .nil)) (mkS_free _ _) : VEx PP 17 0 (nodeAt (bodyOf PP 70) [1, 0, 1, 0, 0]) .normal (spec_l24Root_L1_head v_n v_k) (spec_l24Root_L1_head v_n (w64 (v_k + (1 : Int))))))))
      (fun h1 =>
      .ret ((okC_sound hmix (tape := [.reg [nt, nt, nt, nt, nt], .br false, .rst [] [] []]) (nr := 0) (by kernel_rfl) (.cons h1 .nil) (mkS_free _ _) : VEx PP 17 0 (nodeAt (bodyOf PP 70) [1, 0, 1, 0, 0]) (.exit 0) (spec_l24Root_L1_head v_n v_k) (spec_l24Root_L1_out v_n (.inl ())))))

theorem spec_l24Root_L1_ok (v_n : Int) (v_k : Int) : ∀ r, spec_l24Root_L1 v_n v_k = some r → VLoop PP 17 0 (nodeAt (bodyOf PP 70) [1, 0, 1, 0, 0]) (spec_l24Root_L1_ex r) (spec_l24Root_L1_head v_n v_k) (spec_l24Root_L1_out v_n r) := fun r h =>
  iter_ok (head := fun w : Int => spec_l24Root_L1_head v_n w) (ex := spec_l24Root_L1_ex) (out := spec_l24Root_L1_out v_n) (by intro r; unfold spec_l24Root_L1_ex; split <;> simp) (fun w => spec_l24Root_L1_body_ok v_n w) v_k r h

def spec_l24Root (v_n : Int) : Option Int :=
  spec_l24Root_L1 v_n 1 >>= fun r1 =>
  match r1 with
  | .inl a3 => (some 0)
  | .inr a3 => (some a3)

theorem spec_l24Root_ok (v_n : Int) : Wp (spec_l24Root v_n) (fun r => Con PP 70 [.n .i64 v_n] [] (.n .i64 r) []) := by
  unfold spec_l24Root
  exact .bnd fun r1 h2 =>
    match r1, h2 with
    | .inl a3, h2 => (.ret (runF_con0 hmix (tape := [.reg [nt], .reg [nt], .rst [] [] [(0, ii), (3, ii)], .sub (.exit 0) [] [], .reg [nt]]) (rr := ii) (by kernel_rfl) (.cons ((spec_l24Root_L1_ok v_n 1 (.inl a3) h2).vex) .nil)))
    | .inr a3, h2 => (.ret (runF_con0 hmix (tape := [.reg [nt], .reg [nt], .rst [] [] [(0, ii), (3, ii)], .sub (.ret) [(2, .n .i64 a3)] []]) (rr := ii) (by kernel_rfl) (.cons ((spec_l24Root_L1_ok v_n 1 (.inr a3) h2).vex) .nil)))

def spec_LengthOf (v_s : TStructure) (v_k : Int) : Option Int :=
  spec_SquareOf v_s v_k >>= fun r1 =>
  spec_l24Root r1 >>= fun r3 =>
  some r3

theorem spec_LengthOf_ok (v_s : TStructure) (v_k : Int) : Wp (spec_LengthOf v_s v_k) (fun r => Con PP 25 [.agg [.isl 4 (v_s.fJoints.map eTJoint), .isl 3 (v_s.fMembers.map eTMember)], .n .i64 v_k] [] (.n .i64 r) []) := by
  unfold spec_LengthOf
  exact .bnd fun r1 h2 =>
    .bnd fun r3 h4 =>
    .ret (runF_con0 hmix (tape := [.reg [nt, nt], .reg [nt, nt, (.call { ac := [ii, ii], r := .n .i64 r1, sc := true }, true), (.call { ac := [ii], r := .n .i64 r3, sc := true }, true), nt]]) (rr := ii) (by kernel_rfl) (.cons (spec_SquareOf_ok v_s v_k r1 h2) (.cons (Sc.n _ _ : Sc (.n .i64 r1)) (.cons (spec_l24Root_ok r1 r3 h4) (.cons (Sc.n _ _ : Sc (.n .i64 r3)) .nil)))))

def impl_hasMember (v_s : TStructure) (v_k : Int) : Option Bool :=
  if (decide ((0 : Int) ≤ v_k)) = true then
    if (decide (v_k < (len_ eTMember v_s.fMembers))) = true then
      impl_StructureOk v_s >>= fun r3 =>
      some r3
    else
      some false
  else
    some false

theorem impl_hasMember_ok (v_s : TStructure) (v_k : Int) : Wp (impl_hasMember v_s v_k) (fun r => Con PP 72 [.ipt 2 [[.isl 4 (v_s.fJoints.map eTJoint), .isl 3 (v_s.fMembers.map eTMember)]] 0 0, .n .i64 v_k] [] (.b r) []) := by
  unfold impl_hasMember
  exact .ite (fun h1 =>
    .ite (fun h2 =>
     .bnd fun r3 h4 =>
      .ret (runF_con0 hmix (tape := [.reg [nt], .reg [nt, nt, nt, nt, nt, nt, nt, nt, nt, nt, (.br true, true), nt, nt, nt, nt, (.call { ac := [ii], r := .b r3, sc := true }, true), (.br true, true), nt]]) (rr := ii) (by kernel_rfl) (.cons h1 (.cons h1 (.cons h1 (.cons h1 (.cons h1 (.cons h1 (.cons h1 (.cons h1 (.cons h2 (.cons h2 (.cons h2 (.cons h2 (.cons (impl_StructureOk_ok v_s r3 h4) (.cons (Sc.b _ : Sc (.b r3)) (.cons h2 .nil)))))))))))))))))
     (fun h2 =>
     .ret (runF_con0 hmix (tape := [.reg [nt], .reg [nt, nt, nt, nt, nt, nt, nt, nt, nt, nt, (.br true, true), nt, nf, nf, nf, nf, (.br false, true), nt]]) (rr := ii) (by kernel_rfl) (.cons h1 (.cons h1 (.cons h1 (.cons h1 (.cons h1 (.cons h1 (.cons h1 (.cons h1 (.cons h2 (.cons h2 (.cons h2 (.cons h2 (.cons h2 .nil))))))))))))))))
    (fun h1 =>
    .ret (runF_con0 hmix (tape := [.reg [nt], .reg [nt, nt, nt, nf, nf, nf, nf, nf, nf, nf, (.br false, true), nt, nf, nf, nf, nf, nt, nt]]) (rr := ii) (by kernel_rfl) (.cons h1 (.cons h1 (.cons h1 (.cons h1 (.cons h1 (.cons h1 (.cons h1 (.cons h1 (.cons (rfl : false = false) (.cons (rfl : false = false) (.cons (rfl : false = false) (.cons (rfl : false = false) .nil))))))))))))))

def impl_Structure_vector (v_s : TStructure) (v_k : Int) : Option (Int × Int) :=
  if 0 ≤ v_k ∧ v_k < v_s.fMembers.length then
  v_s.fMembers[v_k.toNat]? >>= fun x2 =>
  if 0 ≤ x2.fB ∧ x2.fB < v_s.fJoints.length then
  v_s.fJoints[x2.fB.toNat]? >>= fun x5 =>
  if 0 ≤ x2.fA ∧ x2.fA < v_s.fJoints.length then
  v_s.fJoints[x2.fA.toNat]? >>= fun x8 =>
  some (w64 (x5.fX - x8.fX), w64 (x5.fY - x8.fY))
  else none
  else none
  else none

theorem impl_Structure_vector_ok (v_s : TStructure) (v_k : Int) : Wp (impl_Structure_vector v_s v_k) (fun r => Con PP 107 [.ipt 2 [[.isl 4 (v_s.fJoints.map eTJoint), .isl 3 (v_s.fMembers.map eTMember)]] 0 0, .n .i64 v_k] [] (.tup [.n .i64 r.1, .n .i64 r.2]) []) := by
  unfold impl_Structure_vector
  exact .grd fun h1 =>
    .bnd fun x2 h3 =>
    .grd fun h4 =>
    .bnd fun x5 h6 =>
    .grd fun h7 =>
    .bnd fun x8 h9 =>
    .ret (runF_con0 hmix (tape := [.reg [nt, nt], .reg [nt, nt, nt, nt, nt, nt, (.el (eTMember x2), true), nt, nt], .reg [nt, nt, nt, nt, nt, nt, nt, nt, (.el (eTJoint x5), true), nt, nt, nt, nt, nt, nt, nt, nt, (.el (eTJoint x8), true), nt, nt, nt, nt, nt, nt, nt, nt, nt, (.el (eTJoint x5), true), nt, nt, nt, nt, nt, nt, nt, nt, (.el (eTJoint x8), true), nt, nt, nt]]) (rr := ii) (by kernel_rfl) (.cons ((h1).1) (.cons (lt_mapI (h1).2 : v_k < ((v_s.fMembers.map eTMember).length : Nat)) (.cons (map_get h3 : (v_s.fMembers.map eTMember)[v_k.toNat]? = some (eTMember x2)) (.cons ((h4).1) (.cons (lt_mapI (h4).2 : x2.fB < ((v_s.fJoints.map eTJoint).length : Nat)) (.cons (map_get h6 : (v_s.fJoints.map eTJoint)[x2.fB.toNat]? = some (eTJoint x5)) (.cons ((h7).1) (.cons (lt_mapI (h7).2 : x2.fA < ((v_s.fJoints.map eTJoint).length : Nat)) (.cons (map_get h9 : (v_s.fJoints.map eTJoint)[x2.fA.toNat]? = some (eTJoint x8)) (.cons ((h4).1) (.cons (lt_mapI (h4).2 : x2.fB < ((v_s.fJoints.map eTJoint).length : Nat)) (.cons (map_get h6 : (v_s.fJoints.map eTJoint)[x2.fB.toNat]? = some (eTJoint x5)) (.cons ((h7).1) (.cons (lt_mapI (h7).2 : x2.fA < ((v_s.fJoints.map eTJoint).length : Nat)) (.cons (map_get h9 : (v_s.fJoints.map eTJoint)[x2.fA.toNat]? = some (eTJoint x8)) .nil))))))))))))))))

def impl_Structure_length_L1_head (v_x : Int) (v_y : Int) (v_n : Int) : S := mkS [(5, .n .i64 v_x), (6, .n .i64 v_y), (7, .n .i64 v_n)] []

def impl_Structure_length_L1_ex : Int → Exit
  | _ => .exit 0

def impl_Structure_length_L1_out (v_x : Int) (v_y : Int) : Int → S
  | a => mkS [(5, .n .i64 v_x), (6, .n .i64 v_y), (7, .n .i64 a)] []

def impl_Structure_length_L1_body (v_x : Int) (v_y : Int) (v_n : Int) : Option ((Int) ⊕ (Int)) :=
  if (decide ((w64 (v_n * v_n)) < (w64 ((w64 (v_x * v_x)) + (w64 (v_y * v_y)))))) = true then
    some (.inl (w64 (v_n + (1 : Int))))
  else
    some (.inr v_n)

def impl_Structure_length_L1 (v_x : Int) (v_y : Int) (v_n : Int) : Option (Int) := iter (fun w : Int => impl_Structure_length_L1_body v_x v_y w) v_n

theorem impl_Structure_length_L1_body_ok (v_x : Int) (v_y : Int) (v_n : Int) : Wp (impl_Structure_length_L1_body v_x v_y v_n) (Sum.elim
    (fun w => VEx PP 39 0 (nodeAt (bodyOf PP 73) [1, 1, 1, 0, 0, 0]) .normal (impl_Structure_length_L1_head v_x v_y v_n) (impl_Structure_length_L1_head v_x v_y w))
    (fun r => VEx PP 39 0 (nodeAt (bodyOf PP 73) [1, 1, 1, 0, 0, 0]) (impl_Structure_length_L1_ex r) (impl_Structure_length_L1_head v_x v_y v_n) (impl_Structure_length_L1_out v_x v_y r))) := by
  unfold impl_Structure_length_L1_body
  exact .ite (fun h1 =>
      .ret ((okC_sound hmix (tape := [.reg [nt, nt, nt, nt, nt, nt, nt, nt, nt, nt, nt], .br true, .reg [nt, nt, nt], .rst [] [] [(5, ii), (6, ii), (7, ii)]]) (nr := 0) (by kernel_rfl) (.cons h1 .nil) (mkS_free _ _) : VEx PP 39 0 (nodeAt (bodyOf PP 73) [1, 1, 1, 0, 0, 0]) .normal (impl_Structure_length_L1_head v_x v_y v_n) (impl_Structure_length_L1_head v_x v_y (w64 (v_n + (1 : Int)))))))
      (fun h1 =>
      .ret ((okC_sound hmix (tape := [.reg [nt, nt, nt, nt, nt, nt, nt, nt, nt, nt, nt], .br false, .rst [] [] [(5, ii), (6, ii), (7, ii)]]) (nr := 0) (by kernel_rfl) (.cons h1 .nil) (mkS_free _ _) : VEx PP 39 0 (nodeAt (bodyOf PP 73) [1, 1, 1, 0, 0, 0]) (.exit 0) (impl_Structure_length_L1_head v_x v_y v_n) (impl_Structure_length_L1_out v_x v_y v_n))))

theorem impl_Structure_length_L1_ok (v_x : Int) (v_y : Int) (v_n : Int) : ∀ r, impl_Structure_length_L1 v_x v_y v_n = some r → VLoop PP 39 0 (nodeAt (bodyOf PP 73) [1, 1, 1, 0, 0, 0]) (impl_Structure_length_L1_ex r) (impl_Structure_length_L1_head v_x v_y v_n) (impl_Structure_length_L1_out v_x v_y r) := fun r h =>
  iter_ok (head := fun w : Int => impl_Structure_length_L1_head v_x v_y w) (ex := impl_Structure_length_L1_ex) (out := impl_Structure_length_L1_out v_x v_y) (by intro r; unfold impl_Structure_length_L1_ex; split <;> simp) (fun w => impl_Structure_length_L1_body_ok v_x v_y w) v_n r h

def impl_Structure_length (v_s : TStructure) (v_k : Int) : Option Int :=
  impl_Structure_vector v_s v_k >>= fun r1 =>
  impl_Structure_length_L1 r1.1 r1.2 0 >>= fun r3 =>
  if ((w64 (r3 * r3)) != (w64 ((w64 (r1.1 * r1.1)) + (w64 (r1.2 * r1.2))))) = true then
    some 0
  else
    some r3

theorem impl_Structure_length_ok (v_s : TStructure) (v_k : Int) : Wp (impl_Structure_length v_s v_k) (fun r => Con PP 73 [.ipt 2 [[.isl 4 (v_s.fJoints.map eTJoint), .isl 3 (v_s.fMembers.map eTMember)]] 0 0, .n .i64 v_k] [] (.n .i64 r) []) := by
  unfold impl_Structure_length
  exact .bnd fun r1 h2 =>
    .bnd fun r3 h4 =>
    .ite (fun h5 =>
    .ret (runF_con0 hmix (tape := [.reg [nt], .reg [nt, nt, (.call { ac := [ii, ii], r := .tup [.n .i64 r1.1, .n .i64 r1.2], sc := true }, true), nt, nt, nt, nt, nt], .reg [nt], .rst [] [] [(5, ii), (6, ii), (7, ii)], .sub (.exit 0) [(5, .n .i64 r1.1), (6, .n .i64 r1.2), (7, .n .i64 r3)] [], .reg [nt, nt, nt, nt, nt, nt, nt, nt, nt, nt, nt], .br true, .reg [nt]]) (rr := ii) (by kernel_rfl) (.cons (impl_Structure_vector_ok v_s v_k r1 h2) (.cons (sc_tup (sc_cons (Sc.n _ _ : Sc (.n .i64 r1.1)) (sc_cons (Sc.n _ _ : Sc (.n .i64 r1.2)) sc_nil)) : Sc (.tup [.n .i64 r1.1, .n .i64 r1.2])) (.cons ((impl_Structure_length_L1_ok r1.1 r1.2 0 r3 h4).vex) (.cons h5 .nil))))))
    (fun h5 =>
    .ret (runF_con0 hmix (tape := [.reg [nt], .reg [nt, nt, (.call { ac := [ii, ii], r := .tup [.n .i64 r1.1, .n .i64 r1.2], sc := true }, true), nt, nt, nt, nt, nt], .reg [nt], .rst [] [] [(5, ii), (6, ii), (7, ii)], .sub (.exit 0) [(5, .n .i64 r1.1), (6, .n .i64 r1.2), (7, .n .i64 r3)] [], .reg [nt, nt, nt, nt, nt, nt, nt, nt, nt, nt, nt], .br false, .reg [nt, nt]]) (rr := ii) (by kernel_rfl) (.cons (impl_Structure_vector_ok v_s v_k r1 h2) (.cons (sc_tup (sc_cons (Sc.n _ _ : Sc (.n .i64 r1.1)) (sc_cons (Sc.n _ _ : Sc (.n .i64 r1.2)) sc_nil)) : Sc (.tup [.n .i64 r1.1, .n .i64 r1.2])) (.cons ((impl_Structure_length_L1_ok r1.1 r1.2 0 r3 h4).vex) (.cons h5 .nil))))))

def impl_LengthOf (v_s : TStructure) (v_k : Int) : Option Int :=
  impl_hasMember v_s v_k >>= fun r1 =>
  if r1 = true then
    impl_Structure_length v_s v_k >>= fun r4 =>
    some r4
  else
    some 0

theorem impl_LengthOf_ok (v_s : TStructure) (v_k : Int) : Wp (impl_LengthOf v_s v_k) (fun r => Con PP 26 [.agg [.isl 4 (v_s.fJoints.map eTJoint), .isl 3 (v_s.fMembers.map eTMember)], .n .i64 v_k] [] (.n .i64 r) []) := by
  unfold impl_LengthOf
  exact .bnd fun r1 h2 =>
    .ite (fun h3 =>
    .bnd fun r4 h5 =>
     .ret (runF_con0 hmix (tape := [.reg [nt, nt], .reg [nt, (.call { ac := [.c1 (.ptr [.id, .id]), ii], rds := [0], r := .b r1, sc := true }, true), nt], .br false, .reg [nt, (.call { ac := [.c1 (.ptr [.id, .id]), ii], rds := [0], r := .n .i64 r4, sc := true }, true), nt]]) (rr := ii) (by kernel_rfl) (.cons (pure_es1 (eTStructure_pure v_s) : PureEs [[.isl 4 (v_s.fJoints.map eTJoint), .isl 3 (v_s.fMembers.map eTMember)]]) (.cons (impl_hasMember_ok v_s v_k r1 h2) (.cons (Sc.b _ : Sc (.b r1)) (.cons (not_t h3) (.cons (pure_es1 (eTStructure_pure v_s) : PureEs [[.isl 4 (v_s.fJoints.map eTJoint), .isl 3 (v_s.fMembers.map eTMember)]]) (.cons (impl_Structure_length_ok v_s v_k r4 h5) (.cons (Sc.n _ _ : Sc (.n .i64 r4)) .nil)))))))))
    (fun h3 =>
    .ret (runF_con0 hmix (tape := [.reg [nt, nt], .reg [nt, (.call { ac := [.c1 (.ptr [.id, .id]), ii], rds := [0], r := .b r1, sc := true }, true), nt], .br true, .reg [nt]]) (rr := ii) (by kernel_rfl) (.cons (pure_es1 (eTStructure_pure v_s) : PureEs [[.isl 4 (v_s.fJoints.map eTJoint), .isl 3 (v_s.fMembers.map eTMember)]]) (.cons (impl_hasMember_ok v_s v_k r1 h2) (.cons (Sc.b _ : Sc (.b r1)) (.cons (not_f h3) .nil))))))

def laws_FnExactLengthOf (v_aS : TStructure) (v_aK : Int) : Option Bool :=
  laws_szStructure v_aS 1048576 >>= fun r1 =>
  if (decide (r1 < (0 : Int))) = true then
    some true
  else
    laws_toStructure v_aS >>= fun r4 =>
    spec_LengthOf r4 v_aK >>= fun r6 =>
    impl_LengthOf r4 v_aK >>= fun r8 =>
    if (r8 != r6) = true then
      some false
    else
      laws_eqStructure r4 r4 >>= fun r11 =>
      if r11 = true then
        some true
      else
        some false

theorem laws_FnExactLengthOf_ok (v_aS : TStructure) (v_aK : Int) : Wp (laws_FnExactLengthOf v_aS v_aK) (fun r => Con PP 6 [.agg [.isl 4 (v_aS.fJoints.map eTJoint), .isl 3 (v_aS.fMembers.map eTMember)], .n .i64 v_aK] [] (.b r) []) := by
  unfold laws_FnExactLengthOf
  exact .bnd fun r1 h2 =>
    .ite (fun h3 =>
    .ret (runF_con0 hmix (tape := [.reg [nt, nt], .reg [nt], .reg [nt, nt, (.call { ac := [ii, ii], r := .n .i64 r1, sc := true }, true), nt], .reg [nt, nt], .br true, .reg [nt]]) (rr := ii) (by kernel_rfl) (.cons (laws_szStructure_ok v_aS 1048576 r1 h2) (.cons (Sc.n _ _ : Sc (.n .i64 r1)) (.cons h3 .nil)))))
    (fun h3 =>
    .bnd fun r4 h5 =>
     .bnd fun r6 h7 =>
     .bnd fun r8 h9 =>
     .ite (fun h10 =>
     .ret (runF_con0 hmix (tape := [.reg [nt, nt], .reg [nt], .reg [nt, nt, (.call { ac := [ii, ii], r := .n .i64 r1, sc := true }, true), nt], .reg [nt, nt], .br false, .reg [nt, (.call { ac := [ii], r := .agg [.isl 4 (r4.fJoints.map eTJoint), .isl 3 (r4.fMembers.map eTMember)], sc := false }, true), nt, (.call { ac := [ii, ii], r := .n .i64 r6, sc := true }, true), nt], .reg [nt, (.call { ac := [ii], r := .agg [.isl 4 (r4.fJoints.map eTJoint), .isl 3 (r4.fMembers.map eTMember)], sc := false }, true), nt, nt], .reg [nt, nt, (.call { ac := [ii, ii], r := .n .i64 r8, sc := true }, true), nt], .reg [nt, nt, nt], .br true, .reg [nt]]) (rr := ii) (by kernel_rfl) (.cons (laws_szStructure_ok v_aS 1048576 r1 h2) (.cons (Sc.n _ _ : Sc (.n .i64 r1)) (.cons h3 (.cons (laws_toStructure_ok v_aS r4 h5) (.cons (spec_LengthOf_ok r4 v_aK r6 h7) (.cons (Sc.n _ _ : Sc (.n .i64 r6)) (.cons (laws_toStructure_ok v_aS r4 h5) (.cons (impl_LengthOf_ok r4 v_aK r8 h9) (.cons (Sc.n _ _ : Sc (.n .i64 r8)) (.cons h10 .nil))))))))))))
     (fun h10 =>
     .bnd fun r11 h12 =>
      .ite (fun h13 =>
      .ret (runF_con0 hmix (tape := [.reg [nt, nt], .reg [nt], .reg [nt, nt, (.call { ac := [ii, ii], r := .n .i64 r1, sc := true }, true), nt], .reg [nt, nt], .br false, .reg [nt, (.call { ac := [ii], r := .agg [.isl 4 (r4.fJoints.map eTJoint), .isl 3 (r4.fMembers.map eTMember)], sc := false }, true), nt, (.call { ac := [ii, ii], r := .n .i64 r6, sc := true }, true), nt], .reg [nt, (.call { ac := [ii], r := .agg [.isl 4 (r4.fJoints.map eTJoint), .isl 3 (r4.fMembers.map eTMember)], sc := false }, true), nt, nt], .reg [nt, nt, (.call { ac := [ii, ii], r := .n .i64 r8, sc := true }, true), nt], .reg [nt, nt, nt], .br false, .reg [nt, nt, (.call { ac := [ii], r := .agg [.isl 4 (r4.fJoints.map eTJoint), .isl 3 (r4.fMembers.map eTMember)], sc := false }, true), (.call { ac := [ii, ii], r := .b r11, sc := true }, true), nt], .br false, .reg [nt]]) (rr := ii) (by kernel_rfl) (.cons (laws_szStructure_ok v_aS 1048576 r1 h2) (.cons (Sc.n _ _ : Sc (.n .i64 r1)) (.cons h3 (.cons (laws_toStructure_ok v_aS r4 h5) (.cons (spec_LengthOf_ok r4 v_aK r6 h7) (.cons (Sc.n _ _ : Sc (.n .i64 r6)) (.cons (laws_toStructure_ok v_aS r4 h5) (.cons (impl_LengthOf_ok r4 v_aK r8 h9) (.cons (Sc.n _ _ : Sc (.n .i64 r8)) (.cons h10 (.cons (laws_toStructure_ok v_aS r4 h5) (.cons (laws_eqStructure_ok r4 r4 r11 h12) (.cons (Sc.b _ : Sc (.b r11)) (.cons (not_t h13) .nil))))))))))))))))
      (fun h13 =>
      .ret (runF_con0 hmix (tape := [.reg [nt, nt], .reg [nt], .reg [nt, nt, (.call { ac := [ii, ii], r := .n .i64 r1, sc := true }, true), nt], .reg [nt, nt], .br false, .reg [nt, (.call { ac := [ii], r := .agg [.isl 4 (r4.fJoints.map eTJoint), .isl 3 (r4.fMembers.map eTMember)], sc := false }, true), nt, (.call { ac := [ii, ii], r := .n .i64 r6, sc := true }, true), nt], .reg [nt, (.call { ac := [ii], r := .agg [.isl 4 (r4.fJoints.map eTJoint), .isl 3 (r4.fMembers.map eTMember)], sc := false }, true), nt, nt], .reg [nt, nt, (.call { ac := [ii, ii], r := .n .i64 r8, sc := true }, true), nt], .reg [nt, nt, nt], .br false, .reg [nt, nt, (.call { ac := [ii], r := .agg [.isl 4 (r4.fJoints.map eTJoint), .isl 3 (r4.fMembers.map eTMember)], sc := false }, true), (.call { ac := [ii, ii], r := .b r11, sc := true }, true), nt], .br true, .reg [nt]]) (rr := ii) (by kernel_rfl) (.cons (laws_szStructure_ok v_aS 1048576 r1 h2) (.cons (Sc.n _ _ : Sc (.n .i64 r1)) (.cons h3 (.cons (laws_toStructure_ok v_aS r4 h5) (.cons (spec_LengthOf_ok r4 v_aK r6 h7) (.cons (Sc.n _ _ : Sc (.n .i64 r6)) (.cons (laws_toStructure_ok v_aS r4 h5) (.cons (impl_LengthOf_ok r4 v_aK r8 h9) (.cons (Sc.n _ _ : Sc (.n .i64 r8)) (.cons h10 (.cons (laws_toStructure_ok v_aS r4 h5) (.cons (laws_eqStructure_ok r4 r4 r11 h12) (.cons (Sc.b _ : Sc (.b r11)) (.cons (not_f h13) .nil))))))))))))))))))

end Go.Proofs.Ytjgnmimfihhphaa
