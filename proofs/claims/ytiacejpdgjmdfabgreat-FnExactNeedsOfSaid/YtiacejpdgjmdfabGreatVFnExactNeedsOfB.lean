/- Plain functions for the program's functions, and that calls come to them: printed by a program. No condition. -/
import Derived.Test.YtiacejpdgjmdfabGreatVFnExactNeedsOfA
namespace Go.Proofs.YtiacejpdgjmdfabGreat
set_option linter.unusedVariables false
set_option linter.unusedSimpArgs false
open Go Go.VL

def impl_Structure_memberOk (v_s : TStructure) (v_m : TMember) : Option Bool :=
  if (decide (v_m.fA < (0 : Int))) = true then
    some false
  else
    if (decide ((len_ eTJoint v_s.fJoints) ≤ v_m.fA)) = true then
      some false
    else
      if (decide (v_m.fB < (0 : Int))) = true then
        some false
      else
        if (decide ((len_ eTJoint v_s.fJoints) ≤ v_m.fB)) = true then
          some false
        else
          if (decide (v_m.fKind < (1 : Int))) = true then
            some false
          else
            if (decide ((3 : Int) < v_m.fKind)) = true then
              some false
            else
              if 0 ≤ v_m.fA ∧ v_m.fA < v_s.fJoints.length then
              v_s.fJoints[v_m.fA.toNat]? >>= fun x8 =>
              if 0 ≤ v_m.fB ∧ v_m.fB < v_s.fJoints.length then
              v_s.fJoints[v_m.fB.toNat]? >>= fun x11 =>
              if (x8.fX != x11.fX) = true then
                if x8.fFixed = true then
                  some (!x11.fFixed)
                else
                  some true
              else
                if (x8.fY != x11.fY) = true then
                  if x8.fFixed = true then
                    some (!x11.fFixed)
                  else
                    some true
                else
                  some false
              else none
              else none

theorem impl_Structure_memberOk_ok (v_s : TStructure) (v_m : TMember) : Wp (impl_Structure_memberOk v_s v_m) (fun r => Con PP 83 [.ipt 2 [[.isl 4 (v_s.fJoints.map eTJoint), .isl 3 (v_s.fMembers.map eTMember)]] 0 0, .agg [.n .i64 v_m.fA, .n .i64 v_m.fB, .n .i64 v_m.fKind]] [] (.b r) []) := by
  unfold impl_Structure_memberOk
  exact (let t1 : List TE := [.reg [nt, nt], .reg [nt, nt, nt, nt, nt, nt]];
    .ite (fun h1 =>
    .ret (runF_con0 hmix (tape := t1 ++ ([.reg [nt, nt, nt, nt, nf, nf, nf, nf, (.br true, true), nt, nf, nf, nf, nt, nt, nf, nf, nf, nf, nt, nt, nf, nf, nf, nt, nt, nf, nf, nf, nt], .br true, .reg [nt]] : List TE)) (rr := ii) (by kernel_rfl) (.c h1 (.c h1 (.c h1 (.c h1 (.c h1 (.c (rfl : true = true) (.c (rfl : true = true) (.c (rfl : true = true) (.c (rfl : true = true) (.c (rfl : true = true) (.c (rfl : true = true) (.c (rfl : true = true) (.c (rfl : true = true) (.c (rfl : true = true) (.c (rfl : true = true) (.c (rfl : true = true) (.c (rfl : true = true) (.c (rfl : true = true) (.c (rfl : true = true) .nil)))))))))))))))))))))
    (fun h1 =>
    .ite (fun h2 =>
    .ret (runF_con0 hmix (tape := t1 ++ ([.reg [nt, nt, nt, nt, nt, nt, nt, nt, (.br false, true), nt, nf, nf, nf, (.br true, true), nt, nf, nf, nf, nf, nt, nt, nf, nf, nf, nt, nt, nf, nf, nf, nt], .br true, .reg [nt]] : List TE)) (rr := ii) (by kernel_rfl) (.c h1 (.c h1 (.c h1 (.c h1 (.c h1 (.c h2 (.c h2 (.c h2 (.c h2 (.c (rfl : true = true) (.c (rfl : true = true) (.c (rfl : true = true) (.c (rfl : true = true) (.c (rfl : true = true) (.c (rfl : true = true) (.c (rfl : true = true) (.c (rfl : true = true) (.c (rfl : true = true) (.c (rfl : true = true) (.c (rfl : true = true) .nil))))))))))))))))))))))
    (fun h2 =>
    (have o2 := ((.c h1 (.c h1 (.c h1 (.c h1 (.c h1 (.c h2 (.c h2 (.c h2 (.c h2 .nil))))))))) : AllP _);
    .ite (fun h3 =>
    .ret (runF_con0 hmix (tape := t1 ++ ([.reg [nt, nt, nt, nt, nt, nt, nt, nt, (.br false, true), nt, nt, nt, nt, (.br false, true), nt, nf, nf, nf, nf, (.br true, true), nt, nf, nf, nf, nt, nt, nf, nf, nf, nt], .br true, .reg [nt]] : List TE)) (rr := ii) (by kernel_rfl) (o2.app (.c h3 (.c h3 (.c h3 (.c h3 (.c h3 (.c (rfl : true = true) (.c (rfl : true = true) (.c (rfl : true = true) (.c (rfl : true = true) (.c (rfl : true = true) (.c (rfl : true = true) (.c (rfl : true = true) .nil)))))))))))))))
    (fun h3 =>
    .ite (fun h4 =>
    .ret (runF_con0 hmix (tape := t1 ++ ([.reg [nt, nt, nt, nt, nt, nt, nt, nt, (.br false, true), nt, nt, nt, nt, (.br false, true), nt, nt, nt, nt, nt, (.br false, true), nt, nf, nf, nf, (.br true, true), nt, nf, nf, nf, nt], .br true, .reg [nt]] : List TE)) (rr := ii) (by kernel_rfl) (o2.app (.c h3 (.c h3 (.c h3 (.c h3 (.c h3 (.c h4 (.c h4 (.c h4 (.c h4 (.c (rfl : true = true) (.c (rfl : true = true) (.c (rfl : true = true) (.c (rfl : true = true) .nil))))))))))))))))
    (fun h4 =>
    (have o3 := o2.app (.c h3 (.c h3 (.c h3 (.c h3 (.c h3 (.c h4 (.c h4 (.c h4 (.c h4 .nil)))))))));
    .ite (fun h5 =>
    .ret (runF_con0 hmix (tape := t1 ++ ([.reg [nt, nt, nt, nt, nt, nt, nt, nt, (.br false, true), nt, nt, nt, nt, (.br false, true), nt, nt, nt, nt, nt, (.br false, true), nt, nt, nt, nt, (.br false, true), nt, nf, nf, nf, (.br true, true)], .br true, .reg [nt]] : List TE)) (rr := ii) (by kernel_rfl) (o3.app (.c h5 (.c h5 (.c h5 (.c h5 (.c (rfl : true = true) .nil))))))))
    (fun h5 =>
    (let t4 : List TE := t1 ++ ([.reg [nt, nt, nt, nt, nt, nt, nt, nt, (.br false, true), nt, nt, nt, nt, (.br false, true), nt, nt, nt, nt, nt, (.br false, true), nt, nt, nt, nt, (.br false, true), nt, nt, nt, nt, (.br false, true)]] : List TE);
    .ite (fun h6 =>
    .ret (runF_con0 hmix (tape := t4 ++ ([.br true, .reg [nt]] : List TE)) (rr := ii) (by kernel_rfl) (o3.app (.c h5 (.c h5 (.c h5 (.c h5 (.c h6 .nil))))))))
    (fun h6 =>
    .grd fun h7 =>
    .bnd fun x8 h9 =>
    .grd fun h10 =>
    .bnd fun x11 h12 =>
    (let t5 : List TE := t4 ++ ([.br false, .reg [nt, nt, nt, nt, nt, nt, nt, (.el (eTJoint x8), true), nt, nt, nt, nt, nt, nt, nt, (.el (eTJoint x11), true), nt, nt, nt, nt]] : List TE);
    have o6 := o3.app (.c h5 (.c h5 (.c h5 (.c h5 (.c h6 (.c ((h7).1) (.c (lt_mapI (h7).2 : v_m.fA < ((v_s.fJoints.map eTJoint).length : Nat)) (.c (map_get h9 : (v_s.fJoints.map eTJoint)[v_m.fA.toNat]? = some (eTJoint x8)) (.c ((h10).1) (.c (lt_mapI (h10).2 : v_m.fB < ((v_s.fJoints.map eTJoint).length : Nat)) (.c (map_get h12 : (v_s.fJoints.map eTJoint)[v_m.fB.toNat]? = some (eTJoint x11)) .nil)))))))))));
    .ite (fun h13 =>
    (have o7 := o6.app (.c h13 (.c h13 (.c h13 (.c h13 (.c h13 (.c h13 (.c (rfl : true = true) (.c (rfl : true = true) (.c (rfl : true = true) .nil)))))))));
    .ite (fun h14 =>
    .ret (runF_con0 hmix (tape := t5 ++ ([.reg [nt, nt, nt, nt, nt, nt, nf, nf, nf, nf, nf, (.br true, true), nt, nt, nt, nt, nt, nt, (.br true, true), nt, nt, nt]] : List TE)) (rr := ii) (by kernel_rfl) (o7.app (.c h14 (.c h14 (.c (rfl : true = true) (.c h14 (.c (rfl : true = true) .nil))))))))
    (fun h14 =>
    .ret (runF_con0 hmix (tape := t5 ++ ([.reg [nt, nt, nt, nt, nt, nt, nf, nf, nf, nf, nf, (.br true, true), nt, nt, nt, nt, nf, nf, (.br false, true), nt, nt, nt]] : List TE)) (rr := ii) (by kernel_rfl) (o7.app (.c h14 (.c h14 (.c (rfl : true = true) (.c h14 (.c (rfl : true = true) .nil))))))))))
    (fun h13 =>
    .ite (fun h14 =>
    (have o7 := o6.app (.c h13 (.c h13 (.c h13 (.c h13 (.c h13 (.c h13 (.c h14 (.c h14 (.c h14 .nil)))))))));
    .ite (fun h15 =>
    .ret (runF_con0 hmix (tape := t5 ++ ([.reg [nt, nt, nt, nt, nt, nt, nt, nt, nt, nt, nt, (.br false, true), nt, nt, nt, nt, nt, nt, (.br true, true), nt, (.br true, true), nt]] : List TE)) (rr := ii) (by kernel_rfl) (o7.app (.c h15 (.c h15 (.c h14 (.c h15 (.c h14 (.c h14 .nil)))))))))
    (fun h15 =>
    .ret (runF_con0 hmix (tape := t5 ++ ([.reg [nt, nt, nt, nt, nt, nt, nt, nt, nt, nt, nt, (.br false, true), nt, nt, nt, nt, nf, nf, (.br false, true), nt, (.br true, true), nt]] : List TE)) (rr := ii) (by kernel_rfl) (o7.app (.c h15 (.c h15 (.c h14 (.c h15 (.c h14 (.c h14 .nil)))))))))))
    (fun h14 =>
    .ret (runF_con0 hmix (tape := t5 ++ ([.reg [nt, nt, nt, nt, nt, nt, nt, nt, nt, nt, nt, (.br false, true), nt, nf, nf, nf, nt, nt, nf, nf, (.br false, true), nt]] : List TE)) (rr := ii) (by kernel_rfl) (o6.app (.c h13 (.c h13 (.c h13 (.c h13 (.c h13 (.c h13 (.c h14 (.c h14 (.c h14 (.c h14 (.c h14 (.c h14 .nil)))))))))))))))))))))))))))

def impl_StructureOk_1 (v_m : TMember) (c0 : TStructure) : Option Bool :=
  impl_Structure_memberOk c0 v_m >>= fun r1 =>
  some (!r1)

theorem impl_StructureOk_1_ok (v_m : TMember) (c0 : TStructure) : Wp (impl_StructureOk_1 v_m c0) (fun r => Con PP 82 [.agg [.n .i64 v_m.fA, .n .i64 v_m.fB, .n .i64 v_m.fKind], .ipt 2 [[.isl 4 (c0.fJoints.map eTJoint), .isl 3 (c0.fMembers.map eTMember)]] 0 0] [] (.b r) []) := by
  unfold impl_StructureOk_1
  exact .bnd fun r1 h2 =>
    .ret (runF_con0 hmix (tape := [.reg [nt, nt], .reg [nt, (.call { ac := [ii, ii], r := .b r1, sc := true }, true), nt, nt]]) (rr := ii) (by kernel_rfl) (.c (impl_Structure_memberOk_ok c0 v_m r1 h2) (.c (Sc.b _ : Sc (.b r1)) .nil)))

def s_IndexFunc_impl_StructureOk_1_L1_head (v_s : (List TMember)) (v_f__ : (List TJoint)) (v_f__' : (List TMember)) (v_t7 : Int) (v_t8 : Int) : S := mkS [(0, .isl 3 (v_s.map eTMember)), (1, .fn 82 [.ipt 2 [[.isl 4 (v_f__.map eTJoint), .isl 3 (v_f__'.map eTMember)]] 0 0]), (7, .n .i64 v_t7), (8, .n .i64 v_t8)] []

def s_IndexFunc_impl_StructureOk_1_L1_ex : ((Unit) ⊕ (Int)) → Exit
  | .inl _ => .exit 0
  | .inr _ => .ret

def s_IndexFunc_impl_StructureOk_1_L1_out (v_s : (List TMember)) (v_f__ : (List TJoint)) (v_f__' : (List TMember)) (v_t7 : Int) : ((Unit) ⊕ (Int)) → S
  | .inl a => mkS [] []
  | .inr a => mkS [(4, .n .i64 a)] []

abbrev s_IndexFunc_impl_StructureOk_1_L1_V := VEx PP 19 0 (nodeAt (bodyOf PP 101) [1, 0, 1, 0, 0])

def s_IndexFunc_impl_StructureOk_1_L1_body (v_s : (List TMember)) (v_f__ : (List TJoint)) (v_f__' : (List TMember)) (v_t7 : Int) (v_t8 : Int) : Option ((Int) ⊕ ((Unit) ⊕ (Int))) :=
  if (decide (v_t8 < v_t7)) = true then
    if 0 ≤ v_t8 ∧ v_t8 < v_s.length then
    v_s[v_t8.toNat]? >>= fun x3 =>
    impl_StructureOk_1 x3 (⟨v_f__, v_f__'⟩ : TStructure) >>= fun r5 =>
    if r5 = true then
      some (.inr (.inr v_t8))
    else
      some (.inl (w64 (v_t8 + (1 : Int))))
    else none
  else
    some (.inr (.inl ()))

def s_IndexFunc_impl_StructureOk_1_L1 (v_s : (List TMember)) (v_f__ : (List TJoint)) (v_f__' : (List TMember)) (v_t7 : Int) (v_t8 : Int) : Option ((Unit) ⊕ (Int)) := iter (fun w : Int => s_IndexFunc_impl_StructureOk_1_L1_body v_s v_f__ v_f__' v_t7 w) v_t8

theorem s_IndexFunc_impl_StructureOk_1_L1_body_ok (v_s : (List TMember)) (v_f__ : (List TJoint)) (v_f__' : (List TMember)) (v_t7 : Int) (v_t8 : Int) : Wp (s_IndexFunc_impl_StructureOk_1_L1_body v_s v_f__ v_f__' v_t7 v_t8) (Sum.elim
    (fun w => s_IndexFunc_impl_StructureOk_1_L1_V .normal (s_IndexFunc_impl_StructureOk_1_L1_head v_s v_f__ v_f__' v_t7 v_t8) (s_IndexFunc_impl_StructureOk_1_L1_head v_s v_f__ v_f__' v_t7 w))
    (fun r => s_IndexFunc_impl_StructureOk_1_L1_V (s_IndexFunc_impl_StructureOk_1_L1_ex r) (s_IndexFunc_impl_StructureOk_1_L1_head v_s v_f__ v_f__' v_t7 v_t8) (s_IndexFunc_impl_StructureOk_1_L1_out v_s v_f__ v_f__' v_t7 r))) := by
  unfold s_IndexFunc_impl_StructureOk_1_L1_body
  exact .ite (fun h1 =>
    .grd fun h2 =>
    .bnd fun x3 h4 =>
    .bnd fun r5 h6 =>
    (let t1 : List TE := [.reg [nt], .br true, .reg [nt, nt], .reg [nt, nt, nt, nt, (.el (eTMember x3), true), (.call { ac := [ii, ii], r := .b r5, sc := true }, true)]];
    have o2 := ((.c h1 (.c ((h2).1) (.c (lt_mapI (h2).2 : v_t8 < ((v_s.map eTMember).length : Nat)) (.c (map_get h4 : (v_s.map eTMember)[v_t8.toNat]? = some (eTMember x3)) (.c (impl_StructureOk_1_ok x3 (⟨v_f__, v_f__'⟩ : TStructure) r5 h6) (.c (Sc.b _ : Sc (.b r5)) .nil)))))) : AllP _);
    .ite (fun h7 =>
    .ret ((okC_sound hmix (tape := t1 ++ ([.br true, .reg [nt, nt], .rst [] [] [(4, ii)]] : List TE)) (nr := 0) (by kernel_rfl) (o2.app (.c h7 .nil)) (mkS_free _ _) : s_IndexFunc_impl_StructureOk_1_L1_V (.ret) (s_IndexFunc_impl_StructureOk_1_L1_head v_s v_f__ v_f__' v_t7 v_t8) (s_IndexFunc_impl_StructureOk_1_L1_out v_s v_f__ v_f__' v_t7 (.inr v_t8)))))
    (fun h7 =>
    .ret ((okC_sound hmix (tape := t1 ++ ([.br false, .reg [nt, nt], .rst [] [] [(0, ii), (1, .comp [.c0 .id]), (7, ii), (8, ii)]] : List TE)) (nr := 0) (by kernel_rfl) (o2.app (.c h7 .nil)) (mkS_free _ _) : s_IndexFunc_impl_StructureOk_1_L1_V .normal (s_IndexFunc_impl_StructureOk_1_L1_head v_s v_f__ v_f__' v_t7 v_t8) (s_IndexFunc_impl_StructureOk_1_L1_head v_s v_f__ v_f__' v_t7 (w64 (v_t8 + (1 : Int)))))))))
    (fun h1 =>
    .ret ((okC_sound hmix (tape := [.reg [nt], .br false, .rst [] [] []]) (nr := 0) (by kernel_rfl) (.c h1 .nil) (mkS_free _ _) : s_IndexFunc_impl_StructureOk_1_L1_V (.exit 0) (s_IndexFunc_impl_StructureOk_1_L1_head v_s v_f__ v_f__' v_t7 v_t8) (s_IndexFunc_impl_StructureOk_1_L1_out v_s v_f__ v_f__' v_t7 (.inl ())))))

theorem s_IndexFunc_impl_StructureOk_1_L1_ok (v_s : (List TMember)) (v_f__ : (List TJoint)) (v_f__' : (List TMember)) (v_t7 : Int) (v_t8 : Int) : ∀ r, s_IndexFunc_impl_StructureOk_1_L1 v_s v_f__ v_f__' v_t7 v_t8 = some r → VLoop PP 19 0 (nodeAt (bodyOf PP 101) [1, 0, 1, 0, 0]) (s_IndexFunc_impl_StructureOk_1_L1_ex r) (s_IndexFunc_impl_StructureOk_1_L1_head v_s v_f__ v_f__' v_t7 v_t8) (s_IndexFunc_impl_StructureOk_1_L1_out v_s v_f__ v_f__' v_t7 r) := fun r h =>
  iter_ok (head := fun w : Int => s_IndexFunc_impl_StructureOk_1_L1_head v_s v_f__ v_f__' v_t7 w) (ex := s_IndexFunc_impl_StructureOk_1_L1_ex) (out := s_IndexFunc_impl_StructureOk_1_L1_out v_s v_f__ v_f__' v_t7) (by intro r; unfold s_IndexFunc_impl_StructureOk_1_L1_ex; split <;> simp) (fun w => s_IndexFunc_impl_StructureOk_1_L1_body_ok v_s v_f__ v_f__' v_t7 w) v_t8 r h

def s_IndexFunc_impl_StructureOk_1 (v_s : (List TMember)) (v_f_c0 : TStructure) : Option Int :=
  s_IndexFunc_impl_StructureOk_1_L1 v_s v_f_c0.fJoints v_f_c0.fMembers (len_ eTMember v_s) 0 >>= fun r1 =>
  match r1 with
  | .inl a3 => (some (-1))
  | .inr a3 => (some a3)

theorem s_IndexFunc_impl_StructureOk_1_ok (v_s : (List TMember)) (v_f_c0 : TStructure) : Wp (s_IndexFunc_impl_StructureOk_1 v_s v_f_c0) (fun r => Con PP 101 [.isl 3 (v_s.map eTMember), .fn 82 [.ipt 2 [[.isl 4 (v_f_c0.fJoints.map eTJoint), .isl 3 (v_f_c0.fMembers.map eTMember)]] 0 0]] [] (.n .i64 r) []) := by
  unfold s_IndexFunc_impl_StructureOk_1
  exact .bnd fun r1 h2 =>
    (let t1 : List TE := [.reg [nt], .reg [nt, nt, nt]];
    (by
    rcases r1 with a3 | a3
    · exact (.ret (runF_con0 hmix (tape := t1 ++ ([.rst [] [] [(0, ii), (1, .comp [.c0 .id]), (7, ii), (8, ii)], .sub (.exit 0) [] [], .reg [nt]] : List TE)) (rr := ii) (by kernel_rfl) (.c ((s_IndexFunc_impl_StructureOk_1_L1_ok v_s v_f_c0.fJoints v_f_c0.fMembers (len_ eTMember v_s) 0 (.inl a3) h2).vex) .nil)))
    · exact (.ret (runF_con0 hmix (tape := t1 ++ ([.rst [] [] [(0, ii), (1, .comp [.c0 .id]), (7, ii), (8, ii)], .sub (.ret) [(4, .n .i64 a3)] []] : List TE)) (rr := ii) (by kernel_rfl) (.c ((s_IndexFunc_impl_StructureOk_1_L1_ok v_s v_f_c0.fJoints v_f_c0.fMembers (len_ eTMember v_s) 0 (.inr a3) h2).vex) .nil)))))

def s_ContainsFunc_impl_StructureOk_1 (v_s : (List TMember)) (v_f_c0 : TStructure) : Option Bool :=
  s_IndexFunc_impl_StructureOk_1 v_s v_f_c0 >>= fun r1 =>
  some (decide ((0 : Int) ≤ r1))

theorem s_ContainsFunc_impl_StructureOk_1_ok (v_s : (List TMember)) (v_f_c0 : TStructure) : Wp (s_ContainsFunc_impl_StructureOk_1 v_s v_f_c0) (fun r => Con PP 81 [.isl 3 (v_s.map eTMember), .fn 82 [.ipt 2 [[.isl 4 (v_f_c0.fJoints.map eTJoint), .isl 3 (v_f_c0.fMembers.map eTMember)]] 0 0]] [] (.b r) []) := by
  unfold s_ContainsFunc_impl_StructureOk_1
  exact .bnd fun r1 h2 =>
    .ret (runF_con0 hmix (tape := [.reg [nt], .reg [nt, nt, (.call { ac := [ii, ii], r := .n .i64 r1, sc := true }, true), nt, nt]]) (rr := ii) (by kernel_rfl) (.c (s_IndexFunc_impl_StructureOk_1_ok v_s v_f_c0 r1 h2) (.c (Sc.n _ _ : Sc (.n .i64 r1)) .nil)))

def impl_StructureOk_L1_head (v_t16 : (List TJoint)) (v_t17 : Int) (box0_' : (List TMember)) (v_t18 : Int) : S := mkS [(1, .ref 0 0 0 0), (16, .isl 4 (v_t16.map eTJoint)), (17, .n .i64 v_t17), (18, .n .i64 v_t18)] [[Ob.mk 2 [[.isl 4 (v_t16.map eTJoint), .isl 3 (box0_'.map eTMember)]] .live]]

def impl_StructureOk_L1_ex : ((Unit) ⊕ (Unit)) → Exit
  | .inl _ => .exit 0
  | .inr _ => .ret

def impl_StructureOk_L1_out (v_t16 : (List TJoint)) (v_t17 : Int) (box0_' : (List TMember)) : ((Unit) ⊕ (Unit)) → S
  | .inl a => mkS [(1, .ref 0 0 0 0)] [[Ob.mk 2 [[.isl 4 (v_t16.map eTJoint), .isl 3 (box0_'.map eTMember)]] .live]]
  | .inr a => mkS [(2, .b false)] []

abbrev impl_StructureOk_L1_V := VEx PP 40 0 (nodeAt (bodyOf PP 64) [1, 1, 0, 1, 0, 0])

def impl_StructureOk_L1_body (v_t16 : (List TJoint)) (v_t17 : Int) (box0_' : (List TMember)) (v_t18 : Int) : Option ((Int) ⊕ ((Unit) ⊕ (Unit))) :=
  if (decide (v_t18 < v_t17)) = true then
    if 0 ≤ v_t18 ∧ v_t18 < v_t16.length then
    v_t16[v_t18.toNat]? >>= fun x3 =>
    impl_JointOk x3 >>= fun r5 =>
    if r5 = true then
      impl_JointNamed (⟨v_t16, box0_'⟩ : TStructure) x3.fName >>= fun r8 =>
      if (r8 != v_t18) = true then
        some (.inr (.inr ()))
      else
        some (.inl (w64 (v_t18 + (1 : Int))))
    else
      some (.inr (.inr ()))
    else none
  else
    some (.inr (.inl ()))

def impl_StructureOk_L1 (v_t16 : (List TJoint)) (v_t17 : Int) (box0_' : (List TMember)) (v_t18 : Int) : Option ((Unit) ⊕ (Unit)) := iter (fun w : Int => impl_StructureOk_L1_body v_t16 v_t17 box0_' w) v_t18

theorem impl_StructureOk_L1_body_ok (v_t16 : (List TJoint)) (v_t17 : Int) (box0_' : (List TMember)) (v_t18 : Int) : Wp (impl_StructureOk_L1_body v_t16 v_t17 box0_' v_t18) (Sum.elim
    (fun w => impl_StructureOk_L1_V .normal (impl_StructureOk_L1_head v_t16 v_t17 box0_' v_t18) (impl_StructureOk_L1_head v_t16 v_t17 box0_' w))
    (fun r => impl_StructureOk_L1_V (impl_StructureOk_L1_ex r) (impl_StructureOk_L1_head v_t16 v_t17 box0_' v_t18) (impl_StructureOk_L1_out v_t16 v_t17 box0_' r))) := by
  unfold impl_StructureOk_L1_body
  exact .ite (fun h1 =>
    .grd fun h2 =>
    .bnd fun x3 h4 =>
    .bnd fun r5 h6 =>
    (let t1 : List TE := [.reg [nt], .br true, .reg [nt, nt, (.el (eTJoint x3), true), nt, nt, nt]];
    have o2 := ((.c h1 (.c ((h2).1) (.c (lt_mapI (h2).2 : v_t18 < ((v_t16.map eTJoint).length : Nat)) (.c (map_get h4 : (v_t16.map eTJoint)[v_t18.toNat]? = some (eTJoint x3)) (.c (impl_JointOk_ok x3 r5 h6) (.c (Sc.b _ : Sc (.b r5)) .nil)))))) : AllP _);
    .ite (fun h7 =>
    .bnd fun r8 h9 =>
    (let t3 : List TE := t1 ++ ([.reg [nt, (.call { ac := [ii], r := .b r5, sc := true }, true), nt, nt, nt, nt, nt, (.call { ac := [ii, ii], r := .n .i64 r8, sc := true }, true), nt, nt, (.br false, true)]] : List TE);
    have o4 := o2.app (.c (not_t h7) (.c (not_t h7) (.c (not_t h7) (.c (not_t h7) (.c (impl_JointNamed_ok (⟨v_t16, box0_'⟩ : TStructure) x3.fName r8 h9) (.c (Sc.n _ _ : Sc (.n .i64 r8)) (.c (not_t h7) (.c (not_t h7) (.c (not_t h7) .nil)))))))));
    .ite (fun h10 =>
    .ret ((okC_sound hmix (tape := t3 ++ ([.br true, .reg [nt], .rst [] [] [(2, ii)]] : List TE)) (nr := 1) (by kernel_rfl) (o4.app (.c h10 .nil)) (mkS_free _ _) : impl_StructureOk_L1_V (.ret) (impl_StructureOk_L1_head v_t16 v_t17 box0_' v_t18) (impl_StructureOk_L1_out v_t16 v_t17 box0_' (.inr ())))))
    (fun h10 =>
    .ret ((okC_sound hmix (tape := t3 ++ ([.br false, .reg [nt, nt], .rst [0] [.box [.id, .id]] [(1, ii), (16, ii), (17, ii), (18, ii)]] : List TE)) (nr := 1) (by kernel_rfl) (o4.app (.c h10 .nil)) (mkS_free _ _) : impl_StructureOk_L1_V .normal (impl_StructureOk_L1_head v_t16 v_t17 box0_' v_t18) (impl_StructureOk_L1_head v_t16 v_t17 box0_' (w64 (v_t18 + (1 : Int)))))))))
    (fun h7 =>
    .ret ((okC_sound hmix (tape := t1 ++ ([.reg [nt, (.call { ac := [ii], r := .b r5, sc := true }, true), nt, nt, nf, nf, nf, nf, nf, nf, (.br true, true)], .br true, .reg [nt], .rst [] [] [(2, ii)]] : List TE)) (nr := 1) (by kernel_rfl) (o2.app (.c (not_f h7) (.c (not_f h7) (.c (not_f h7) (.c (not_f h7) (.c (not_f h7) (.c (not_f h7) (.c (not_f h7) (.c (rfl : true = true) .nil))))))))) (mkS_free _ _) : impl_StructureOk_L1_V (.ret) (impl_StructureOk_L1_head v_t16 v_t17 box0_' v_t18) (impl_StructureOk_L1_out v_t16 v_t17 box0_' (.inr ())))))))
    (fun h1 =>
    .ret ((okC_sound hmix (tape := [.reg [nt], .br false, .rst [0] [.box [.id, .id]] [(1, ii)]]) (nr := 1) (by kernel_rfl) (.c h1 .nil) (mkS_free _ _) : impl_StructureOk_L1_V (.exit 0) (impl_StructureOk_L1_head v_t16 v_t17 box0_' v_t18) (impl_StructureOk_L1_out v_t16 v_t17 box0_' (.inl ())))))

theorem impl_StructureOk_L1_ok (v_t16 : (List TJoint)) (v_t17 : Int) (box0_' : (List TMember)) (v_t18 : Int) : ∀ r, impl_StructureOk_L1 v_t16 v_t17 box0_' v_t18 = some r → VLoop PP 40 0 (nodeAt (bodyOf PP 64) [1, 1, 0, 1, 0, 0]) (impl_StructureOk_L1_ex r) (impl_StructureOk_L1_head v_t16 v_t17 box0_' v_t18) (impl_StructureOk_L1_out v_t16 v_t17 box0_' r) := fun r h =>
  iter_ok (head := fun w : Int => impl_StructureOk_L1_head v_t16 v_t17 box0_' w) (ex := impl_StructureOk_L1_ex) (out := impl_StructureOk_L1_out v_t16 v_t17 box0_') (by intro r; unfold impl_StructureOk_L1_ex; split <;> simp) (fun w => impl_StructureOk_L1_body_ok v_t16 v_t17 box0_' w) v_t18 r h

def impl_StructureOk (v_s : TStructure) : Option Bool :=
  if (decide ((6 : Int) < (len_ eTJoint v_s.fJoints))) = true then
    some false
  else
    if (decide ((8 : Int) < (len_ eTMember v_s.fMembers))) = true then
      some false
    else
      impl_StructureOk_L1 v_s.fJoints (len_ eTJoint v_s.fJoints) v_s.fMembers 0 >>= fun r3 =>
      match r3 with
      | .inl a5 => (s_ContainsFunc_impl_StructureOk_1 v_s.fMembers v_s >>= fun r6 =>
        some (!r6))
      | .inr a5 => (some false)

theorem impl_StructureOk_ok (v_s : TStructure) : Wp (impl_StructureOk v_s) (fun r => Con PP 64 [.agg [.isl 4 (v_s.fJoints.map eTJoint), .isl 3 (v_s.fMembers.map eTMember)]] [] (.b r) []) := by
  unfold impl_StructureOk
  exact (let t1 : List TE := [.reg [nt, nt]];
    .ite (fun h1 =>
    .ret (runF_con0 hmix (tape := t1 ++ ([.reg [nt, nt, nt, nt, nt, nf, nf, nf, nf, (.br true, true)], .br true, .reg [nt]] : List TE)) (rr := ii) (by kernel_rfl) (.c h1 (.c h1 (.c h1 (.c h1 (.c h1 (.c (rfl : true = true) .nil))))))))
    (fun h1 =>
    (let t2 : List TE := t1 ++ ([.reg [nt, nt, nt, nt, nt, nt, nt, nt, nt, (.br false, true)]] : List TE);
    .ite (fun h2 =>
    .ret (runF_con0 hmix (tape := t2 ++ ([.br true, .reg [nt]] : List TE)) (rr := ii) (by kernel_rfl) (.c h1 (.c h1 (.c h1 (.c h1 (.c h1 (.c h2 .nil))))))))
    (fun h2 =>
    .bnd fun r3 h4 =>
    (let t3 : List TE := t2 ++ ([.br false, .reg [nt, nt, nt, nt]] : List TE);
    (by
    rcases r3 with a5 | a5
    · exact (.bnd fun r6 h7 =>
    .ret (runF_con0 hmix (tape := t3 ++ ([.rst [0] [.box [.id, .id]] [(1, ii), (16, ii), (17, ii), (18, ii)], .sub (.exit 0) [(1, .ref 0 0 0 0)] [[Ob.mk 2 [[.isl 4 (v_s.fJoints.map eTJoint), .isl 3 (v_s.fMembers.map eTMember)]] .live]], .reg [nt, nt, nt, (.call { ac := [ii, .comp [.ptr [.id, .id]]], rds := [0], r := .b r6, sc := true }, true), nt, nt]] : List TE)) (rr := ii) (by kernel_rfl) (.c h1 (.c h1 (.c h1 (.c h1 (.c h1 (.c h2 (.c ((impl_StructureOk_L1_ok v_s.fJoints (len_ eTJoint v_s.fJoints) v_s.fMembers 0 (.inl a5) h4).vex) (.c (pure_es1 (eTStructure_pure v_s) : PureEs [[.isl 4 (v_s.fJoints.map eTJoint), .isl 3 (v_s.fMembers.map eTMember)]]) (.c (s_ContainsFunc_impl_StructureOk_1_ok v_s.fMembers v_s r6 h7) (.c (Sc.b _ : Sc (.b r6)) .nil))))))))))))
    · exact (.ret (runF_con0 hmix (tape := t3 ++ ([.rst [0] [.box [.id, .id]] [(1, ii), (16, ii), (17, ii), (18, ii)], .sub (.ret) [(2, .b false)] []] : List TE)) (rr := ii) (by kernel_rfl) (.c h1 (.c h1 (.c h1 (.c h1 (.c h1 (.c h2 (.c ((impl_StructureOk_L1_ok v_s.fJoints (len_ eTJoint v_s.fJoints) v_s.fMembers 0 (.inr a5) h4).vex) .nil)))))))))))))))

def impl_NatOk_1 (v_n : Int) : Option Bool :=
  if (decide (v_n < (0 : Int))) = true then
    some true
  else
    some (decide ((1000000000 : Int) ≤ v_n))

theorem impl_NatOk_1_ok (v_n : Int) : Wp (impl_NatOk_1 v_n) (fun r => Con PP 116 [.n .i64 v_n] [] (.b r) []) := by
  unfold impl_NatOk_1
  exact .ite (fun h1 =>
    .ret (runF_con0 hmix (tape := [.reg [nt], .reg [nt, nt, nt, nf, nf, (.br true, true), nt]]) (rr := ii) (by kernel_rfl) (.c h1 (.c h1 (.c h1 .nil)))))
    (fun h1 =>
    .ret (runF_con0 hmix (tape := [.reg [nt], .reg [nt, nt, nt, nt, nt, (.br false, true), nt]]) (rr := ii) (by kernel_rfl) (.c h1 (.c h1 (.c h1 .nil)))))

def s_IndexFunc_impl_NatOk_1_L1_head (v_s : (List Int)) (v_t7 : Int) (v_t8 : Int) : S := mkS [(0, .isl 1 (v_s.map eI)), (1, .fn 116 []), (7, .n .i64 v_t7), (8, .n .i64 v_t8)] []

def s_IndexFunc_impl_NatOk_1_L1_ex : ((Unit) ⊕ (Int)) → Exit
  | .inl _ => .exit 0
  | .inr _ => .ret

def s_IndexFunc_impl_NatOk_1_L1_out (v_s : (List Int)) (v_t7 : Int) : ((Unit) ⊕ (Int)) → S
  | .inl a => mkS [] []
  | .inr a => mkS [(4, .n .i64 a)] []

abbrev s_IndexFunc_impl_NatOk_1_L1_V := VEx PP 19 0 (nodeAt (bodyOf PP 121) [1, 0, 1, 0, 0])

def s_IndexFunc_impl_NatOk_1_L1_body (v_s : (List Int)) (v_t7 : Int) (v_t8 : Int) : Option ((Int) ⊕ ((Unit) ⊕ (Int))) :=
  if (decide (v_t8 < v_t7)) = true then
    if 0 ≤ v_t8 ∧ v_t8 < v_s.length then
    v_s[v_t8.toNat]? >>= fun x3 =>
    impl_NatOk_1 x3 >>= fun r5 =>
    if r5 = true then
      some (.inr (.inr v_t8))
    else
      some (.inl (w64 (v_t8 + (1 : Int))))
    else none
  else
    some (.inr (.inl ()))

def s_IndexFunc_impl_NatOk_1_L1 (v_s : (List Int)) (v_t7 : Int) (v_t8 : Int) : Option ((Unit) ⊕ (Int)) := iter (fun w : Int => s_IndexFunc_impl_NatOk_1_L1_body v_s v_t7 w) v_t8

theorem s_IndexFunc_impl_NatOk_1_L1_body_ok (v_s : (List Int)) (v_t7 : Int) (v_t8 : Int) : Wp (s_IndexFunc_impl_NatOk_1_L1_body v_s v_t7 v_t8) (Sum.elim
    (fun w => s_IndexFunc_impl_NatOk_1_L1_V .normal (s_IndexFunc_impl_NatOk_1_L1_head v_s v_t7 v_t8) (s_IndexFunc_impl_NatOk_1_L1_head v_s v_t7 w))
    (fun r => s_IndexFunc_impl_NatOk_1_L1_V (s_IndexFunc_impl_NatOk_1_L1_ex r) (s_IndexFunc_impl_NatOk_1_L1_head v_s v_t7 v_t8) (s_IndexFunc_impl_NatOk_1_L1_out v_s v_t7 r))) := by
  unfold s_IndexFunc_impl_NatOk_1_L1_body
  exact .ite (fun h1 =>
    .grd fun h2 =>
    .bnd fun x3 h4 =>
    .bnd fun r5 h6 =>
    (let t1 : List TE := [.reg [nt], .br true, .reg [nt, nt], .reg [nt, nt, nt, nt, (.el (eI x3), true), (.call { ac := [ii], r := .b r5, sc := true }, true)]];
    have o2 := ((.c h1 (.c ((h2).1) (.c (lt_mapI (h2).2 : v_t8 < ((v_s.map eI).length : Nat)) (.c (map_get h4 : (v_s.map eI)[v_t8.toNat]? = some (eI x3)) (.c (impl_NatOk_1_ok x3 r5 h6) (.c (Sc.b _ : Sc (.b r5)) .nil)))))) : AllP _);
    .ite (fun h7 =>
    .ret ((okC_sound hmix (tape := t1 ++ ([.br true, .reg [nt, nt], .rst [] [] [(4, ii)]] : List TE)) (nr := 0) (by kernel_rfl) (o2.app (.c h7 .nil)) (mkS_free _ _) : s_IndexFunc_impl_NatOk_1_L1_V (.ret) (s_IndexFunc_impl_NatOk_1_L1_head v_s v_t7 v_t8) (s_IndexFunc_impl_NatOk_1_L1_out v_s v_t7 (.inr v_t8)))))
    (fun h7 =>
    .ret ((okC_sound hmix (tape := t1 ++ ([.br false, .reg [nt, nt], .rst [] [] [(0, ii), (1, ii), (7, ii), (8, ii)]] : List TE)) (nr := 0) (by kernel_rfl) (o2.app (.c h7 .nil)) (mkS_free _ _) : s_IndexFunc_impl_NatOk_1_L1_V .normal (s_IndexFunc_impl_NatOk_1_L1_head v_s v_t7 v_t8) (s_IndexFunc_impl_NatOk_1_L1_head v_s v_t7 (w64 (v_t8 + (1 : Int)))))))))
    (fun h1 =>
    .ret ((okC_sound hmix (tape := [.reg [nt], .br false, .rst [] [] []]) (nr := 0) (by kernel_rfl) (.c h1 .nil) (mkS_free _ _) : s_IndexFunc_impl_NatOk_1_L1_V (.exit 0) (s_IndexFunc_impl_NatOk_1_L1_head v_s v_t7 v_t8) (s_IndexFunc_impl_NatOk_1_L1_out v_s v_t7 (.inl ())))))

theorem s_IndexFunc_impl_NatOk_1_L1_ok (v_s : (List Int)) (v_t7 : Int) (v_t8 : Int) : ∀ r, s_IndexFunc_impl_NatOk_1_L1 v_s v_t7 v_t8 = some r → VLoop PP 19 0 (nodeAt (bodyOf PP 121) [1, 0, 1, 0, 0]) (s_IndexFunc_impl_NatOk_1_L1_ex r) (s_IndexFunc_impl_NatOk_1_L1_head v_s v_t7 v_t8) (s_IndexFunc_impl_NatOk_1_L1_out v_s v_t7 r) := fun r h =>
  iter_ok (head := fun w : Int => s_IndexFunc_impl_NatOk_1_L1_head v_s v_t7 w) (ex := s_IndexFunc_impl_NatOk_1_L1_ex) (out := s_IndexFunc_impl_NatOk_1_L1_out v_s v_t7) (by intro r; unfold s_IndexFunc_impl_NatOk_1_L1_ex; split <;> simp) (fun w => s_IndexFunc_impl_NatOk_1_L1_body_ok v_s v_t7 w) v_t8 r h

def s_IndexFunc_impl_NatOk_1 (v_s : (List Int)) : Option Int :=
  s_IndexFunc_impl_NatOk_1_L1 v_s (len_ eI v_s) 0 >>= fun r1 =>
  match r1 with
  | .inl a3 => (some (-1))
  | .inr a3 => (some a3)

theorem s_IndexFunc_impl_NatOk_1_ok (v_s : (List Int)) : Wp (s_IndexFunc_impl_NatOk_1 v_s) (fun r => Con PP 121 [.isl 1 (v_s.map eI), .fn 116 []] [] (.n .i64 r) []) := by
  unfold s_IndexFunc_impl_NatOk_1
  exact .bnd fun r1 h2 =>
    (let t1 : List TE := [.reg [nt], .reg [nt, nt, nt]];
    (by
    rcases r1 with a3 | a3
    · exact (.ret (runF_con0 hmix (tape := t1 ++ ([.rst [] [] [(0, ii), (1, ii), (7, ii), (8, ii)], .sub (.exit 0) [] [], .reg [nt]] : List TE)) (rr := ii) (by kernel_rfl) (.c ((s_IndexFunc_impl_NatOk_1_L1_ok v_s (len_ eI v_s) 0 (.inl a3) h2).vex) .nil)))
    · exact (.ret (runF_con0 hmix (tape := t1 ++ ([.rst [] [] [(0, ii), (1, ii), (7, ii), (8, ii)], .sub (.ret) [(4, .n .i64 a3)] []] : List TE)) (rr := ii) (by kernel_rfl) (.c ((s_IndexFunc_impl_NatOk_1_L1_ok v_s (len_ eI v_s) 0 (.inr a3) h2).vex) .nil)))))

def s_ContainsFunc_impl_NatOk_1 (v_s : (List Int)) : Option Bool :=
  s_IndexFunc_impl_NatOk_1 v_s >>= fun r1 =>
  some (decide ((0 : Int) ≤ r1))

theorem s_ContainsFunc_impl_NatOk_1_ok (v_s : (List Int)) : Wp (s_ContainsFunc_impl_NatOk_1 v_s) (fun r => Con PP 115 [.isl 1 (v_s.map eI), .fn 116 []] [] (.b r) []) := by
  unfold s_ContainsFunc_impl_NatOk_1
  exact .bnd fun r1 h2 =>
    .ret (runF_con0 hmix (tape := [.reg [nt], .reg [nt, nt, (.call { ac := [ii, ii], r := .n .i64 r1, sc := true }, true), nt, nt]]) (rr := ii) (by kernel_rfl) (.c (s_IndexFunc_impl_NatOk_1_ok v_s r1 h2) (.c (Sc.n _ _ : Sc (.n .i64 r1)) .nil)))

def impl_NatOk (v_a : (List Int)) : Option Bool :=
  if (decide ((60 : Int) < (len_ eI v_a))) = true then
    some false
  else
    if (decide ((0 : Int) < (len_ eI v_a))) = true then
      if 0 ≤ (w64 ((len_ eI v_a) - (1 : Int))) ∧ (w64 ((len_ eI v_a) - (1 : Int))) < v_a.length then
      v_a[(w64 ((len_ eI v_a) - (1 : Int))).toNat]? >>= fun x4 =>
      if (x4 == (0 : Int)) = true then
        some false
      else
        s_ContainsFunc_impl_NatOk_1 v_a >>= fun r7 =>
        some (!r7)
      else none
    else
      s_ContainsFunc_impl_NatOk_1 v_a >>= fun r3 =>
      some (!r3)

theorem impl_NatOk_ok (v_a : (List Int)) : Wp (impl_NatOk v_a) (fun r => Con PP 112 [.isl 1 (v_a.map eI)] [] (.b r) []) := by
  unfold impl_NatOk
  exact .ite (fun h1 =>
    .ret (runF_con0 hmix (tape := [.reg [nt], .reg [nt, nt, nt, nt, nf, nf, nf, nf, nt, nt, nt, nt, nt, nt, nt, nf, (.br true, true)], .br true, .reg [nt]]) (rr := ii) (by kernel_rfl) (.c h1 (.c h1 (.c h1 (.c h1 (.c h1 (.c h1 (.c (rfl : true = true) .nil)))))))))
    (fun h1 =>
    .ite (fun h2 =>
    .grd fun h3 =>
    .bnd fun x4 h5 =>
    (let t1 : List TE := [.reg [nt], .reg [nt, nt, nt, nt, nt, nt, nt, nt, nt, nt, nt, nt, nt, (.el (eI x4), true), nt, (.br true, true), (.br false, true)]];
    have o2 := ((.c h1 (.c h1 (.c h1 (.c h1 (.c h2 (.c h2 (.c h2 (.c h2 (.c h2 (.c ((h3).1) (.c (lt_mapI (h3).2 : (w64 ((len_ eI v_a) - (1 : Int))) < ((v_a.map eI).length : Nat)) (.c h2 (.c (map_get h5 : (v_a.map eI)[(w64 ((len_ eI v_a) - (1 : Int))).toNat]? = some (eI x4)) (.c h2 (.c h1 (.c h2 (.c h1 .nil))))))))))))))))) : AllP _);
    .ite (fun h6 =>
    .ret (runF_con0 hmix (tape := t1 ++ ([.br true, .reg [nt]] : List TE)) (rr := ii) (by kernel_rfl) (o2.app (.c h6 .nil))))
    (fun h6 =>
    .bnd fun r7 h8 =>
    .ret (runF_con0 hmix (tape := t1 ++ ([.br false, .reg [nt, (.call { ac := [ii, ii], r := .b r7, sc := true }, true), nt, nt]] : List TE)) (rr := ii) (by kernel_rfl) (o2.app (.c h6 (.c (s_ContainsFunc_impl_NatOk_1_ok v_a r7 h8) (.c (Sc.b _ : Sc (.b r7)) .nil))))))))
    (fun h2 =>
    .bnd fun r3 h4 =>
    .ret (runF_con0 hmix (tape := [.reg [nt], .reg [nt, nt, nt, nt, nt, nt, nt, nt, nf, nf, nf, nf, nf, nf, nf, (.br false, true), (.br false, true)], .br false, .reg [nt, (.call { ac := [ii, ii], r := .b r3, sc := true }, true), nt, nt]]) (rr := ii) (by kernel_rfl) (.c h1 (.c h1 (.c h1 (.c h1 (.c h2 (.c h2 (.c h2 (.c h2 (.c h2 (.c h2 (.c h2 (.c h1 (.c h2 (.c h1 (.c (rfl : false = false) (.c (s_ContainsFunc_impl_NatOk_1_ok v_a r3 h4) (.c (Sc.b _ : Sc (.b r3)) .nil))))))))))))))))))))

def impl_BigIntOk (v_x : TBigInt) : Option Bool :=
  impl_NatOk v_x.fMag >>= fun r1 =>
  if r1 = true then
    if v_x.fNeg = true then
      some (!((len_ eI v_x.fMag) == (0 : Int)))
    else
      some true
  else
    some false

theorem impl_BigIntOk_ok (v_x : TBigInt) : Wp (impl_BigIntOk v_x) (fun r => Con PP 111 [.agg [.b v_x.fNeg, .isl 1 (v_x.fMag.map eI)]] [] (.b r) []) := by
  unfold impl_BigIntOk
  exact .bnd fun r1 h2 =>
    (let t1 : List TE := [.reg [nt, nt]];
    have o2 := ((.c (impl_NatOk_ok v_x.fMag r1 h2) (.c (Sc.b _ : Sc (.b r1)) .nil)) : AllP _);
    .ite (fun h3 =>
    .ite (fun h4 =>
    .ret (runF_con0 hmix (tape := t1 ++ ([.reg [nt, nt, (.call { ac := [ii], r := .b r1, sc := true }, true), nt, nt, nt, nt, nt, nt, nt, nt, (.br true, true), nt, (.br true, true), nt]] : List TE)) (rr := ii) (by kernel_rfl) (o2.app (.c h3 (.c h3 (.c h3 (.c h4 (.c h4 (.c h4 (.c h4 (.c h3 (.c h4 (.c h3 (.c h3 .nil))))))))))))))
    (fun h4 =>
    .ret (runF_con0 hmix (tape := t1 ++ ([.reg [nt, nt, (.call { ac := [ii], r := .b r1, sc := true }, true), nt, nt, nt, nt, nf, nf, nf, nf, (.br false, true), nt, (.br true, true), nt]] : List TE)) (rr := ii) (by kernel_rfl) (o2.app (.c h3 (.c h3 (.c h3 (.c h4 (.c h4 (.c h4 (.c h4 (.c h3 (.c h4 (.c h3 (.c h3 .nil)))))))))))))))
    (fun h3 =>
    .ret (runF_con0 hmix (tape := t1 ++ ([.reg [nt, nt, (.call { ac := [ii], r := .b r1, sc := true }, true), nt, nf, nf, nf, nt, nt, nt, nt, nf, nf, (.br false, true), nt]] : List TE)) (rr := ii) (by kernel_rfl) (o2.app (.c h3 (.c h3 (.c h3 (.c h3 (.c h3 (.c h3 .nil))))))))))

def impl_compare_L1_head (v_a : (List Int)) (v_b : (List Int)) (v_i : Int) : S := mkS [(0, .isl 1 (v_a.map eI)), (1, .isl 1 (v_b.map eI)), (5, .n .i64 v_i)] []

def impl_compare_L1_ex : ((Unit) ⊕ (Int)) → Exit
  | .inl _ => .exit 0
  | .inr _ => .ret

def impl_compare_L1_out (v_a : (List Int)) (v_b : (List Int)) : ((Unit) ⊕ (Int)) → S
  | .inl a => mkS [] []
  | .inr a => mkS [(4, .n .i64 a)] []

abbrev impl_compare_L1_V := VEx PP 43 0 (nodeAt (bodyOf PP 90) [1, 1, 0, 1, 0, 0])

def impl_compare_L1_body (v_a : (List Int)) (v_b : (List Int)) (v_i : Int) : Option ((Int) ⊕ ((Unit) ⊕ (Int))) :=
  if (decide ((0 : Int) ≤ v_i)) = true then
    if 0 ≤ v_i ∧ v_i < v_a.length then
    v_a[v_i.toNat]? >>= fun x3 =>
    if 0 ≤ v_i ∧ v_i < v_b.length then
    v_b[v_i.toNat]? >>= fun x6 =>
    if (decide (x3 < x6)) = true then
      some (.inr (.inr (-1)))
    else
      if (decide (x6 < x3)) = true then
        some (.inr (.inr 1))
      else
        some (.inl (w64 (v_i - (1 : Int))))
    else none
    else none
  else
    some (.inr (.inl ()))

def impl_compare_L1 (v_a : (List Int)) (v_b : (List Int)) (v_i : Int) : Option ((Unit) ⊕ (Int)) := iter (fun w : Int => impl_compare_L1_body v_a v_b w) v_i

theorem impl_compare_L1_body_ok (v_a : (List Int)) (v_b : (List Int)) (v_i : Int) : Wp (impl_compare_L1_body v_a v_b v_i) (Sum.elim
    (fun w => impl_compare_L1_V .normal (impl_compare_L1_head v_a v_b v_i) (impl_compare_L1_head v_a v_b w))
    (fun r => impl_compare_L1_V (impl_compare_L1_ex r) (impl_compare_L1_head v_a v_b v_i) (impl_compare_L1_out v_a v_b r))) := by
  unfold impl_compare_L1_body
  exact (let t1 : List TE := [.reg [nt, nt]];
    .ite (fun h1 =>
    .grd fun h2 =>
    .bnd fun x3 h4 =>
    .grd fun h5 =>
    .bnd fun x6 h7 =>
    (let t2 : List TE := t1 ++ ([.br true, .reg [nt, nt, nt, (.el (eI x3), true), nt, nt, nt, (.el (eI x6), true), nt, nt]] : List TE);
    have o3 := ((.c h1 (.c ((h2).1) (.c (lt_mapI (h2).2 : v_i < ((v_a.map eI).length : Nat)) (.c (map_get h4 : (v_a.map eI)[v_i.toNat]? = some (eI x3)) (.c ((h5).1) (.c (lt_mapI (h5).2 : v_i < ((v_b.map eI).length : Nat)) (.c (map_get h7 : (v_b.map eI)[v_i.toNat]? = some (eI x6)) .nil))))))) : AllP _);
    .ite (fun h8 =>
    .ret ((okC_sound hmix (tape := t2 ++ ([.br true, .reg [nt], .rst [] [] [(4, ii)]] : List TE)) (nr := 0) (by kernel_rfl) (o3.app (.c h8 .nil)) (mkS_free _ _) : impl_compare_L1_V (.ret) (impl_compare_L1_head v_a v_b v_i) (impl_compare_L1_out v_a v_b (.inr (-1))))))
    (fun h8 =>
    (let t4 : List TE := t2 ++ ([.br false, .reg [nt, nt, nt, (.el (eI x3), true), nt, nt, nt, (.el (eI x6), true), nt, nt]] : List TE);
    have o5 := o3.app (.c h8 (.c ((h2).1) (.c (lt_mapI (h2).2 : v_i < ((v_a.map eI).length : Nat)) (.c (map_get h4 : (v_a.map eI)[v_i.toNat]? = some (eI x3)) (.c ((h5).1) (.c (lt_mapI (h5).2 : v_i < ((v_b.map eI).length : Nat)) (.c (map_get h7 : (v_b.map eI)[v_i.toNat]? = some (eI x6)) .nil)))))));
    .ite (fun h9 =>
    .ret ((okC_sound hmix (tape := t4 ++ ([.br true, .reg [nt], .rst [] [] [(4, ii)]] : List TE)) (nr := 0) (by kernel_rfl) (o5.app (.c h9 .nil)) (mkS_free _ _) : impl_compare_L1_V (.ret) (impl_compare_L1_head v_a v_b v_i) (impl_compare_L1_out v_a v_b (.inr 1)))))
    (fun h9 =>
    .ret ((okC_sound hmix (tape := t4 ++ ([.br false, .reg [nt, nt, nt], .rst [] [] [(0, ii), (1, ii), (5, ii)]] : List TE)) (nr := 0) (by kernel_rfl) (o5.app (.c h9 .nil)) (mkS_free _ _) : impl_compare_L1_V .normal (impl_compare_L1_head v_a v_b v_i) (impl_compare_L1_head v_a v_b (w64 (v_i - (1 : Int)))))))))))
    (fun h1 =>
    .ret ((okC_sound hmix (tape := t1 ++ ([.br false, .rst [] [] []] : List TE)) (nr := 0) (by kernel_rfl) (.c h1 .nil) (mkS_free _ _) : impl_compare_L1_V (.exit 0) (impl_compare_L1_head v_a v_b v_i) (impl_compare_L1_out v_a v_b (.inl ()))))))

theorem impl_compare_L1_ok (v_a : (List Int)) (v_b : (List Int)) (v_i : Int) : ∀ r, impl_compare_L1 v_a v_b v_i = some r → VLoop PP 43 0 (nodeAt (bodyOf PP 90) [1, 1, 0, 1, 0, 0]) (impl_compare_L1_ex r) (impl_compare_L1_head v_a v_b v_i) (impl_compare_L1_out v_a v_b r) := fun r h =>
  iter_ok (head := fun w : Int => impl_compare_L1_head v_a v_b w) (ex := impl_compare_L1_ex) (out := impl_compare_L1_out v_a v_b) (by intro r; unfold impl_compare_L1_ex; split <;> simp) (fun w => impl_compare_L1_body_ok v_a v_b w) v_i r h

def impl_compare (v_a : (List Int)) (v_b : (List Int)) : Option Int :=
  if ((len_ eI v_a) != (len_ eI v_b)) = true then
    if (decide ((len_ eI v_a) < (len_ eI v_b))) = true then
      some (-1)
    else
      some 1
  else
    impl_compare_L1 v_a v_b (w64 ((len_ eI v_a) - (1 : Int))) >>= fun r2 =>
    match r2 with
    | .inl a4 => (some 0)
    | .inr a4 => (some a4)

theorem impl_compare_ok (v_a : (List Int)) (v_b : (List Int)) : Wp (impl_compare v_a v_b) (fun r => Con PP 90 [.isl 1 (v_a.map eI), .isl 1 (v_b.map eI)] [] (.n .i64 r) []) := by
  unfold impl_compare
  exact (let t1 : List TE := [.reg [nt], .reg [nt, nt, nt, nt, nt]];
    .ite (fun h1 =>
    (let t2 : List TE := t1 ++ ([.br true, .reg [nt, nt, nt, nt, nt]] : List TE);
    .ite (fun h2 =>
    .ret (runF_con0 hmix (tape := t2 ++ ([.br true, .reg [nt]] : List TE)) (rr := ii) (by kernel_rfl) (.c h1 (.c h2 .nil))))
    (fun h2 =>
    .ret (runF_con0 hmix (tape := t2 ++ ([.br false, .reg [nt]] : List TE)) (rr := ii) (by kernel_rfl) (.c h1 (.c h2 .nil))))))
    (fun h1 =>
    .bnd fun r2 h3 =>
    (let t2 : List TE := t1 ++ ([.br false, .reg [nt, nt, nt, nt]] : List TE);
    (by
    rcases r2 with a4 | a4
    · exact (.ret (runF_con0 hmix (tape := t2 ++ ([.rst [] [] [(0, ii), (1, ii), (5, ii)], .sub (.exit 0) [] [], .reg [nt]] : List TE)) (rr := ii) (by kernel_rfl) (.c h1 (.c ((impl_compare_L1_ok v_a v_b (w64 ((len_ eI v_a) - (1 : Int))) (.inl a4) h3).vex) .nil))))
    · exact (.ret (runF_con0 hmix (tape := t2 ++ ([.rst [] [] [(0, ii), (1, ii), (5, ii)], .sub (.ret) [(4, .n .i64 a4)] []] : List TE)) (rr := ii) (by kernel_rfl) (.c h1 (.c ((impl_compare_L1_ok v_a v_b (w64 ((len_ eI v_a) - (1 : Int))) (.inr a4) h3).vex) .nil))))))))

def s_Clone (v_s : (List Int)) : Option (List Int) :=
  if v_s.length * 8 ≤ 140737488355328 then some v_s else none

theorem s_Clone_a   : Con PP 117 [.nils] [] (.isl 1 (([] : List Int).map eI)) [] := runF_con0 hmix (tape := [.reg [nt], .reg [nt, nt], .br true, .reg [nt]]) (rr := .c1 (.c0 (.nl 1))) (by kernel_rfl) (.c (rfl : true = true) .nil)

theorem s_Clone_b   : Con PP 117 [.esl] [] (.isl 1 (([] : List Int).map eI)) [] := (by
  have h := fun (h1 : (([] : List Int) ++ ([] : List Int)).length * 8 ≤ 140737488355328) => (runF_con0 hmix (tape := [.reg [nt], .reg [nt, nt], .br false, .reg [nt, nt, (.app ((([] : List Int) ++ ([] : List Int)).length), true), nt]]) (rr := .c1 (.c0 (.sl ((([] : List Int) ++ ([] : List Int)).map eI)))) (by kernel_rfl) (.c (rfl : false = false) (.c (le_full (show [] = (([] : List Int)).map eI from rfl) (show 0 = ([] : List Int).length from rfl)) (.c (len_app (show 0 = ([] : List Int).length from rfl) (show ([] : List (List AV)) = ([] : List Int).map eI from rfl) : (([] : List Int) ++ ([] : List Int)).length = 0 + ([] : List (List AV)).length) (.c h1 (.c (snap_full (app_full (show [] = (([] : List Int)).map eI from rfl) (show 0 = ([] : List Int).length from rfl) (show ([] : List (List AV)) = ([] : List Int).map eI from rfl)) (show (([] : List Int) ++ ([] : List Int)).length = (([] : List Int) ++ ([] : List Int)).length from rfl)) (.c (fit_full (app_full (show [] = (([] : List Int)).map eI from rfl) (show 0 = ([] : List Int).length from rfl) (show ([] : List (List AV)) = ([] : List Int).map eI from rfl)) (show (([] : List Int) ++ ([] : List Int)).length = (([] : List Int) ++ ([] : List Int)).length from rfl)) (.c (pure_map eI_pure (([] : List Int) ++ ([] : List Int))) .nil))))))) : Con PP 117 [.esl] [] (.isl 1 ((([] : List Int) ++ ([] : List Int)).map eI)) [])
  exact h (by decide))

theorem s_Clone_c (x : Int) (l : List Int) (h1 : (([] : List Int) ++ (x :: l)).length * 8 ≤ 140737488355328) : Con PP 117 [.isl 1 ((x :: l).map eI)] [] (.isl 1 ((([] : List Int) ++ (x :: l)).map eI)) [] := runF_con0 hmix (tape := [.reg [nt], .reg [nt, (.bd, true)], .br false, .reg [nt, nt, (.app ((([] : List Int) ++ (x :: l)).length), true), nt]]) (rr := .c1 (.c0 (.sl ((([] : List Int) ++ (x :: l)).map eI)))) (by kernel_rfl) (.c (by simp : (x :: l).map eI ≠ []) (.c (rfl : false = false) (.c (le_full (show [] = (([] : List Int)).map eI from rfl) (show 0 = ([] : List Int).length from rfl)) (.c (len_app (show 0 = ([] : List Int).length from rfl) (show ((x :: l).map eI) = ((x :: l).map eI) from rfl) : (([] : List Int) ++ (x :: l)).length = 0 + ((x :: l).map eI).length) (.c h1 (.c (snap_full (app_full (show [] = (([] : List Int)).map eI from rfl) (show 0 = ([] : List Int).length from rfl) (show ((x :: l).map eI) = ((x :: l).map eI) from rfl)) (show (([] : List Int) ++ (x :: l)).length = (([] : List Int) ++ (x :: l)).length from rfl)) (.c (fit_full (app_full (show [] = (([] : List Int)).map eI from rfl) (show 0 = ([] : List Int).length from rfl) (show ((x :: l).map eI) = ((x :: l).map eI) from rfl)) (show (([] : List Int) ++ (x :: l)).length = (([] : List Int) ++ (x :: l)).length from rfl)) (.c (pure_map eI_pure (([] : List Int) ++ (x :: l))) .nil))))))))

theorem s_Clone_ok (v_s : (List Int)) : Wp (s_Clone v_s) (fun r => Con PP 117 [.isl 1 (v_s.map eI)] [] (.isl 1 (r.map eI)) []) := by
  unfold s_Clone
  refine .grd fun h => .ret ?_
  cases v_s with
  | nil => exact .isl0 s_Clone_a s_Clone_b
  | cons x l =>
    have h2 := s_Clone_c x l (by simpa using h)
    simpa using h2

def impl_trim_L1_head  (v_a : (List Int)) : S := mkS [(0, .isl 1 (v_a.map eI))] []

def impl_trim_L1_ex : (List Int) → Exit
  | _ => .exit 0

def impl_trim_L1_out  : (List Int) → S
  | a => mkS [(0, .isl 1 (a.map eI))] []

abbrev impl_trim_L1_V := VEx PP 21 0 (nodeAt (bodyOf PP 105) [1, 0, 0, 0])

def impl_trim_L1_body  (v_a : (List Int)) : Option (((List Int)) ⊕ ((List Int))) :=
  if (decide ((0 : Int) < (len_ eI v_a))) = true then
    if 0 ≤ (w64 ((len_ eI v_a) - (1 : Int))) ∧ (w64 ((len_ eI v_a) - (1 : Int))) < v_a.length then
    v_a[(w64 ((len_ eI v_a) - (1 : Int))).toNat]? >>= fun x3 =>
    if (x3 == (0 : Int)) = true then
      if 0 ≤ (w64 ((len_ eI v_a) - (1 : Int))) then
      if 0 ≤ (w64 ((len_ eI v_a) - (1 : Int))).toNat ∧ (w64 ((len_ eI v_a) - (1 : Int))).toNat ≤ v_a.length then
      some (.inl ((v_a.drop 0).take ((w64 ((len_ eI v_a) - (1 : Int))).toNat - 0)))
      else none
      else none
    else
      some (.inr v_a)
    else none
  else
    some (.inr v_a)

def impl_trim_L1  (v_a : (List Int)) : Option ((List Int)) := iter (fun w : (List Int) => impl_trim_L1_body  w) v_a

theorem impl_trim_L1_body_ok  (v_a : (List Int)) : Wp (impl_trim_L1_body  v_a) (Sum.elim
    (fun w => impl_trim_L1_V .normal (impl_trim_L1_head  v_a) (impl_trim_L1_head  w))
    (fun r => impl_trim_L1_V (impl_trim_L1_ex r) (impl_trim_L1_head  v_a) (impl_trim_L1_out  r))) := by
  unfold impl_trim_L1_body
  exact .ite (fun h1 =>
    .grd fun h2 =>
    .bnd fun x3 h4 =>
    (let t1 : List TE := [.reg [nt, nt, nt, nt, nt, nt, nt, nt, nt, (.el (eI x3), true), nt, (.br true, true)]];
    have o2 := ((.c h1 (.c h1 (.c h1 (.c h1 (.c h1 (.c ((h2).1) (.c (lt_mapI (h2).2 : (w64 ((len_ eI v_a) - (1 : Int))) < ((v_a.map eI).length : Nat)) (.c h1 (.c (map_get h4 : (v_a.map eI)[(w64 ((len_ eI v_a) - (1 : Int))).toNat]? = some (eI x3)) (.c h1 (.c h1 .nil))))))))))) : AllP _);
    .ite (fun h5 =>
    .grd fun h6 =>
    .grd fun h7 =>
    .ret ((okC_sound hmix (tape := t1 ++ ([.br true, .reg [nt, nt, nt, nt, nt, nt], .rst [] [] [(0, .c1 (.c0 (.as (.isl 1 (((v_a.drop 0).take ((w64 ((len_ eI v_a) - (1 : Int))).toNat - 0)).map eI)))))]] : List TE)) (nr := 0) (by kernel_rfl) (o2.app (.c h5 (.c h6 (.c ((h7).1) (.c (fit_prf (show (v_a.map eI) = (v_a.map eI) from rfl) (h7).2) (.c (congrArg (AV.isl 1) (sub_prf (show (v_a.map eI) = (v_a.map eI) from rfl) 0 ((w64 ((len_ eI v_a) - (1 : Int))).toNat - 0)) : (.isl 1 (((v_a.map eI).drop 0).take ((w64 ((len_ eI v_a) - (1 : Int))).toNat - 0)) : AV) = .isl 1 (((v_a.drop 0).take ((w64 ((len_ eI v_a) - (1 : Int))).toNat - 0)).map eI)) .nil)))))) (mkS_free _ _) : impl_trim_L1_V .normal (impl_trim_L1_head  v_a) (impl_trim_L1_head  ((v_a.drop 0).take ((w64 ((len_ eI v_a) - (1 : Int))).toNat - 0))))))
    (fun h5 =>
    .ret ((okC_sound hmix (tape := t1 ++ ([.br false, .rst [] [] [(0, ii)]] : List TE)) (nr := 0) (by kernel_rfl) (o2.app (.c h5 .nil)) (mkS_free _ _) : impl_trim_L1_V (.exit 0) (impl_trim_L1_head  v_a) (impl_trim_L1_out  v_a))))))
    (fun h1 =>
    .ret ((okC_sound hmix (tape := [.reg [nt, nt, nt, nt, nf, nf, nf, nf, nf, nf, nf, (.br false, true)], .br false, .rst [] [] [(0, ii)]]) (nr := 0) (by kernel_rfl) (.c h1 (.c h1 (.c h1 (.c h1 (.c h1 (.c h1 (.c h1 (.c h1 (.c (rfl : false = false) .nil))))))))) (mkS_free _ _) : impl_trim_L1_V (.exit 0) (impl_trim_L1_head  v_a) (impl_trim_L1_out  v_a))))

theorem impl_trim_L1_ok  (v_a : (List Int)) : ∀ r, impl_trim_L1  v_a = some r → VLoop PP 21 0 (nodeAt (bodyOf PP 105) [1, 0, 0, 0]) (impl_trim_L1_ex r) (impl_trim_L1_head  v_a) (impl_trim_L1_out  r) := fun r h =>
  iter_ok (head := fun w : (List Int) => impl_trim_L1_head  w) (ex := impl_trim_L1_ex) (out := impl_trim_L1_out ) (by intro r; unfold impl_trim_L1_ex; split <;> simp) (fun w => impl_trim_L1_body_ok  w) v_a r h

def impl_trim (v_a : (List Int)) : Option (List Int) :=
  impl_trim_L1 v_a >>= fun r1 =>
  some r1

theorem impl_trim_ok (v_a : (List Int)) : Wp (impl_trim v_a) (fun r => Con PP 105 [.isl 1 (v_a.map eI)] [] (.isl 1 (r.map eI)) []) := by
  unfold impl_trim
  exact .bnd fun r1 h2 =>
    .ret (runF_con0 hmix (tape := [.reg [nt], .rst [] [] [(0, ii)], .sub (.exit 0) [(0, .isl 1 (r1.map eI))] [], .reg [nt, nt]]) (rr := ii) (by kernel_rfl) (.c ((impl_trim_L1_ok v_a r1 h2).vex) .nil))

def impl_overSmall_L1_head (v_a : (List Int)) (v_b : Int) (v_rest : Int) (v_i : Int) (row0 : (List Int)) : S := mkS [(0, .isl 1 (v_a.map eI)), (1, .n .i64 v_b), (6, .osl 0 0 0 row0.length), (7, .n .i64 v_rest), (8, .n .i64 v_i)] [[Ob.mk 1 (row0.map eI) .live]]

def impl_overSmall_L1_ex : (Int × (List Int)) → Exit
  | _ => .exit 0

def impl_overSmall_L1_out (v_a : (List Int)) (v_b : Int) : (Int × (List Int)) → S
  | a => mkS [(6, .osl 0 0 0 a.2.length), (7, .n .i64 a.1)] [[Ob.mk 1 (a.2.map eI) .live]]

abbrev impl_overSmall_L1_V := VEx PP 39 0 (nodeAt (bodyOf PP 118) [1, 1, 1, 0, 1, 0, 0])

def impl_overSmall_L1_body (v_a : (List Int)) (v_b : Int) (v_rest : Int) (v_i : Int) (row0 : (List Int)) : Option ((Int × Int × (List Int)) ⊕ (Int × (List Int))) :=
  if (decide ((0 : Int) ≤ v_i)) = true then
    if 0 ≤ v_i ∧ v_i < v_a.length then
    v_a[v_i.toNat]? >>= fun x3 =>
    if v_b ≠ 0 then
    if 0 ≤ v_i ∧ v_i < (row0.length : Nat) then
    if (0 + v_i.toNat) < row0.length then
    some (.inl ((w64 ((w64 (v_rest * (1000000000 : Int))) + x3)).tmod v_b, w64 (v_i - (1 : Int)), row0.set (0 + v_i.toNat) (w64 ((w64 ((w64 (v_rest * (1000000000 : Int))) + x3)).tdiv v_b))))
    else none
    else none
    else none
    else none
  else
    some (.inr (v_rest, row0))

def impl_overSmall_L1 (v_a : (List Int)) (v_b : Int) (v_rest : Int) (v_i : Int) (row0 : (List Int)) : Option (Int × (List Int)) := iter (fun w : Int × Int × (List Int) => impl_overSmall_L1_body v_a v_b w.1 w.2.1 w.2.2) (v_rest, v_i, row0)

theorem impl_overSmall_L1_body_ok (v_a : (List Int)) (v_b : Int) (v_rest : Int) (v_i : Int) (row0 : (List Int)) : Wp (impl_overSmall_L1_body v_a v_b v_rest v_i row0) (Sum.elim
    (fun w => impl_overSmall_L1_V .normal (impl_overSmall_L1_head v_a v_b v_rest v_i row0) (impl_overSmall_L1_head v_a v_b w.1 w.2.1 w.2.2))
    (fun r => impl_overSmall_L1_V (impl_overSmall_L1_ex r) (impl_overSmall_L1_head v_a v_b v_rest v_i row0) (impl_overSmall_L1_out v_a v_b r))) := by
  unfold impl_overSmall_L1_body
  exact (let t1 : List TE := [.reg [nt, nt]];
    .ite (fun h1 =>
    .grd fun h2 =>
    .bnd fun x3 h4 =>
    .grd fun h5 =>
    .grd fun h6 =>
    .grd fun h7 =>
    .ret ((okC_sound hmix (tape := t1 ++ ([.br true, .reg [nt, nt, nt, nt, nt, (.el (eI x3), true), nt, nt], .reg [nt, nt, nt, nt, nt, nt, nt, nt, nt, (.bd, true), nt], .reg [nt, nt, nt], .rst [0] [.as [Ob.mk 1 ((row0.set (0 + v_i.toNat) (w64 ((w64 ((w64 (v_rest * (1000000000 : Int))) + x3)).tdiv v_b))).map eI) .live]] [(0, ii), (1, ii), (6, .c1 (.c0 (.len ((row0.set (0 + v_i.toNat) (w64 ((w64 ((w64 (v_rest * (1000000000 : Int))) + x3)).tdiv v_b))).length)))), (7, ii), (8, ii)]] : List TE)) (nr := 1) (by kernel_rfl) (.c h1 (.c ((h2).1) (.c (lt_mapI (h2).2 : v_i < ((v_a.map eI).length : Nat)) (.c (map_get h4 : (v_a.map eI)[v_i.toNat]? = some (eI x3)) (.c h5 (.c h5 (.c ((h6).1) (.c ((h6).2) (.c (lt_map h7 : (0 + v_i.toNat) < (row0.map eI).length) (.c (rfl : 1 = 1) (.c (row_prf (set_prf (show (row0.map eI) = (row0.map eI) from rfl) (0 + v_i.toNat) (w64 ((w64 ((w64 (v_rest * (1000000000 : Int))) + x3)).tdiv v_b))) : [Ob.mk 1 ((row0.map eI).set (0 + v_i.toNat) [.n .i64 (w64 ((w64 ((w64 (v_rest * (1000000000 : Int))) + x3)).tdiv v_b))]) .live] = [Ob.mk 1 ((row0.set (0 + v_i.toNat) (w64 ((w64 ((w64 (v_rest * (1000000000 : Int))) + x3)).tdiv v_b))).map eI) .live]) (.c (pure_row eI_pure (row0.set (0 + v_i.toNat) (w64 ((w64 ((w64 (v_rest * (1000000000 : Int))) + x3)).tdiv v_b))) : PureRow [Ob.mk 1 ((row0.set (0 + v_i.toNat) (w64 ((w64 ((w64 (v_rest * (1000000000 : Int))) + x3)).tdiv v_b))).map eI) .live]) (.c (len_set (show row0.length = row0.length from rfl) (0 + v_i.toNat) (w64 ((w64 ((w64 (v_rest * (1000000000 : Int))) + x3)).tdiv v_b))) .nil))))))))))))) (mkS_free _ _) : impl_overSmall_L1_V .normal (impl_overSmall_L1_head v_a v_b v_rest v_i row0) (impl_overSmall_L1_head v_a v_b ((w64 ((w64 (v_rest * (1000000000 : Int))) + x3)).tmod v_b) (w64 (v_i - (1 : Int))) (row0.set (0 + v_i.toNat) (w64 ((w64 ((w64 (v_rest * (1000000000 : Int))) + x3)).tdiv v_b)))))))
    (fun h1 =>
    .ret ((okC_sound hmix (tape := t1 ++ ([.br false, .rst [0] [.pure] [(6, ii), (7, ii)]] : List TE)) (nr := 1) (by kernel_rfl) (.c h1 (.c (pure_row eI_pure row0 : PureRow [Ob.mk 1 (row0.map eI) .live]) .nil)) (mkS_free _ _) : impl_overSmall_L1_V (.exit 0) (impl_overSmall_L1_head v_a v_b v_rest v_i row0) (impl_overSmall_L1_out v_a v_b (v_rest, row0))))))

theorem impl_overSmall_L1_ok (v_a : (List Int)) (v_b : Int) (v_rest : Int) (v_i : Int) (row0 : (List Int)) : ∀ r, impl_overSmall_L1 v_a v_b v_rest v_i row0 = some r → VLoop PP 39 0 (nodeAt (bodyOf PP 118) [1, 1, 1, 0, 1, 0, 0]) (impl_overSmall_L1_ex r) (impl_overSmall_L1_head v_a v_b v_rest v_i row0) (impl_overSmall_L1_out v_a v_b r) := fun r h =>
  iter_ok (head := fun w : Int × Int × (List Int) => impl_overSmall_L1_head v_a v_b w.1 w.2.1 w.2.2) (ex := impl_overSmall_L1_ex) (out := impl_overSmall_L1_out v_a v_b) (by intro r; unfold impl_overSmall_L1_ex; split <;> simp) (fun w => impl_overSmall_L1_body_ok v_a v_b w.1 w.2.1 w.2.2) (v_rest, v_i, row0) r h

def impl_overSmall (v_a : (List Int)) (v_b : Int) : Option ((List Int) × Int) :=
  if 0 ≤ (len_ eI v_a) ∧ (8 : Int) * (len_ eI v_a) ≤ 281474976710656 ∧ (len_ eI v_a) < 9223372036854775808 then
  impl_overSmall_L1 v_a v_b 0 (w64 ((len_ eI v_a) - (1 : Int))) (List.replicate (len_ eI v_a).toNat 0 : List Int) >>= fun r2 =>
  impl_trim r2.2 >>= fun r4 =>
  some (r4, r2.1)
  else none

theorem impl_overSmall_ok (v_a : (List Int)) (v_b : Int) : Wp (impl_overSmall v_a v_b) (fun r => Con PP 118 [.isl 1 (v_a.map eI), .n .i64 v_b] [] (.tup [.isl 1 (r.1.map eI), .n .i64 r.2]) []) := by
  unfold impl_overSmall
  exact .grd fun h1 =>
    .bnd fun r2 h3 =>
    .bnd fun r4 h5 =>
    .ret (runF_con0 hmix (tape := [.reg [nt, nt], .reg [nt, nt, nt, nt], .reg [nt], .reg [nt, nt, nt, nt], .rst [4] [.as [Ob.mk 1 ((List.replicate (len_ eI v_a).toNat 0 : List Int).map eI) .live]] [(0, ii), (1, ii), (6, .c1 (.c0 (.len ((List.replicate (len_ eI v_a).toNat 0 : List Int).length)))), (7, ii), (8, ii)], .sub (.exit 0) [(6, .osl 0 0 0 r2.2.length), (7, .n .i64 r2.1)] [[Ob.mk 1 (r2.2.map eI) .live]], .frz 0, .reg [nt, (.call { ac := [.c1 (.c0 (.sl (r2.2.map eI)))], rds := [0], r := .isl 1 (r4.map eI), sc := false }, true), nt, nt, nt]]) (rr := ii) (by kernel_rfl) (.c ((h1).1) (.c (Int.le_refl (len_ eI v_a)) (.c ((h1).2.1) (.c ((h1).2.2) (.c (row_prf (rep_prf eI (len_ eI v_a).toNat 0) : [Ob.mk 1 (List.replicate (len_ eI v_a).toNat [.n .i64 (0 : Int)]) .live] = [Ob.mk 1 ((List.replicate (len_ eI v_a).toNat 0 : List Int).map eI) .live]) (.c (pure_row eI_pure (List.replicate (len_ eI v_a).toNat 0 : List Int) : PureRow [Ob.mk 1 ((List.replicate (len_ eI v_a).toNat 0 : List Int).map eI) .live]) (.c (len_rep (len_ eI v_a).toNat (0 : Int)) (.c ((impl_overSmall_L1_ok v_a v_b 0 (w64 ((len_ eI v_a) - (1 : Int))) (List.replicate (len_ eI v_a).toNat 0 : List Int) r2 h3).vex) (.c (snap_full (show (r2.2.map eI) = (r2.2.map eI) from rfl) (show r2.2.length = r2.2.length from rfl)) (.c (fit_full (show (r2.2.map eI) = (r2.2.map eI) from rfl) (show r2.2.length = r2.2.length from rfl)) (.c (pure_map eI_pure r2.2) (.c (impl_trim_ok r2.2 r4 h5) .nil)))))))))))))

def impl_limbsOf_L1_head  (v_n : Int) (row0 : (List Int)) : S := mkS [(0, .n .u64 v_n), (3, .osl 0 0 0 row0.length)] [[Ob.mk 1 (row0.map eI) .live]]

def impl_limbsOf_L1_ex : (List Int) → Exit
  | _ => .exit 0

def impl_limbsOf_L1_out  : (List Int) → S
  | a => mkS [(3, .osl 0 0 0 a.length)] [[Ob.mk 1 (a.map eI) .live]]

abbrev impl_limbsOf_L1_V := VEx PP 15 0 (nodeAt (bodyOf PP 88) [1, 1, 0, 0, 0])

def impl_limbsOf_L1_body  (v_n : Int) (row0 : (List Int)) : Option ((Int × (List Int)) ⊕ ((List Int))) :=
  if (decide ((0 : Int) < v_n)) = true then
    if (row0 ++ ([IntKind.wrap .i64 (v_n.tmod (1000000000 : Int))] : List Int)).length * 8 ≤ 140737488355328 then
    some (.inl (IntKind.wrap .u64 (v_n.tdiv (1000000000 : Int)), row0 ++ ([IntKind.wrap .i64 (v_n.tmod (1000000000 : Int))] : List Int)))
    else none
  else
    some (.inr row0)

def impl_limbsOf_L1  (v_n : Int) (row0 : (List Int)) : Option ((List Int)) := iter (fun w : Int × (List Int) => impl_limbsOf_L1_body  w.1 w.2) (v_n, row0)

theorem impl_limbsOf_L1_body_ok  (v_n : Int) (row0 : (List Int)) : Wp (impl_limbsOf_L1_body  v_n row0) (Sum.elim
    (fun w => impl_limbsOf_L1_V .normal (impl_limbsOf_L1_head  v_n row0) (impl_limbsOf_L1_head  w.1 w.2))
    (fun r => impl_limbsOf_L1_V (impl_limbsOf_L1_ex r) (impl_limbsOf_L1_head  v_n row0) (impl_limbsOf_L1_out  r))) := by
  unfold impl_limbsOf_L1_body
  exact (let t1 : List TE := [.reg [nt, nt]];
    .ite (fun h1 =>
    .grd fun h2 =>
    .ret ((okC_sound hmix (tape := t1 ++ ([.br true, .reg [nt, nt, nt, nt, nt, (.app ((row0 ++ ([IntKind.wrap .i64 (v_n.tmod (1000000000 : Int))] : List Int)).length), true), nt], .reg [nt, nt, nt], .rst [8] [.as [Ob.mk 1 ((row0 ++ ([IntKind.wrap .i64 (v_n.tmod (1000000000 : Int))] : List Int)).map eI) .live]] [(0, ii), (3, ii)]] : List TE)) (nr := 1) (by kernel_rfl) (.c h1 (.c (by decide : (1000000000 : Int) ≠ 0) (.c (fit_full (show [[.n .i64 (IntKind.wrap .i64 (v_n.tmod (1000000000 : Int)))]] = (([IntKind.wrap .i64 (v_n.tmod (1000000000 : Int))] : List Int)).map eI from rfl) (show 1 = ([IntKind.wrap .i64 (v_n.tmod (1000000000 : Int))] : List Int).length from rfl)) (.c (le_full (show (row0.map eI) = (row0.map eI) from rfl) (show row0.length = row0.length from rfl)) (.c (len_app (show row0.length = row0.length from rfl) (tk_prf (show [[.n .i64 (IntKind.wrap .i64 (v_n.tmod (1000000000 : Int)))]] = (([IntKind.wrap .i64 (v_n.tmod (1000000000 : Int))] : List Int)).map eI from rfl) (show 1 = ([IntKind.wrap .i64 (v_n.tmod (1000000000 : Int))] : List Int).length from rfl)) : (row0 ++ ([IntKind.wrap .i64 (v_n.tmod (1000000000 : Int))] : List Int)).length = row0.length + (([[.n .i64 (IntKind.wrap .i64 (v_n.tmod (1000000000 : Int)))]].drop 0).take 1).length) (.c h2 (.c (by decide : (1000000000 : Int) ≠ 0) (.c (row_prf (app_full (show (row0.map eI) = (row0.map eI) from rfl) (show row0.length = row0.length from rfl) (tk_prf (show [[.n .i64 (IntKind.wrap .i64 (v_n.tmod (1000000000 : Int)))]] = (([IntKind.wrap .i64 (v_n.tmod (1000000000 : Int))] : List Int)).map eI from rfl) (show 1 = ([IntKind.wrap .i64 (v_n.tmod (1000000000 : Int))] : List Int).length from rfl))) : [Ob.mk 1 ((row0.map eI).take row0.length ++ (([[.n .i64 (IntKind.wrap .i64 (v_n.tmod (1000000000 : Int)))]].drop 0).take 1)) .live] = [Ob.mk 1 ((row0 ++ ([IntKind.wrap .i64 (v_n.tmod (1000000000 : Int))] : List Int)).map eI) .live]) (.c (pure_row eI_pure (row0 ++ ([IntKind.wrap .i64 (v_n.tmod (1000000000 : Int))] : List Int)) : PureRow [Ob.mk 1 ((row0 ++ ([IntKind.wrap .i64 (v_n.tmod (1000000000 : Int))] : List Int)).map eI) .live]) .nil))))))))) (mkS_free _ _) : impl_limbsOf_L1_V .normal (impl_limbsOf_L1_head  v_n row0) (impl_limbsOf_L1_head  (IntKind.wrap .u64 (v_n.tdiv (1000000000 : Int))) (row0 ++ ([IntKind.wrap .i64 (v_n.tmod (1000000000 : Int))] : List Int))))))
    (fun h1 =>
    .ret ((okC_sound hmix (tape := t1 ++ ([.br false, .rst [0] [.pure] [(3, ii)]] : List TE)) (nr := 1) (by kernel_rfl) (.c h1 (.c (pure_row eI_pure row0 : PureRow [Ob.mk 1 (row0.map eI) .live]) .nil)) (mkS_free _ _) : impl_limbsOf_L1_V (.exit 0) (impl_limbsOf_L1_head  v_n row0) (impl_limbsOf_L1_out  row0)))))

theorem impl_limbsOf_L1_ok  (v_n : Int) (row0 : (List Int)) : ∀ r, impl_limbsOf_L1  v_n row0 = some r → VLoop PP 15 0 (nodeAt (bodyOf PP 88) [1, 1, 0, 0, 0]) (impl_limbsOf_L1_ex r) (impl_limbsOf_L1_head  v_n row0) (impl_limbsOf_L1_out  r) := fun r h =>
  iter_ok (head := fun w : Int × (List Int) => impl_limbsOf_L1_head  w.1 w.2) (ex := impl_limbsOf_L1_ex) (out := impl_limbsOf_L1_out ) (by intro r; unfold impl_limbsOf_L1_ex; split <;> simp) (fun w => impl_limbsOf_L1_body_ok  w.1 w.2) (v_n, row0) r h

def impl_limbsOf (v_n : Int) : Option (List Int) :=
  impl_limbsOf_L1 v_n ([] : List Int) >>= fun r1 =>
  some r1

theorem impl_limbsOf_ok (v_n : Int) : Wp (impl_limbsOf v_n) (fun r => Con PP 88 [.n .u64 v_n] [] (.isl 1 (r.map eI)) []) := by
  unfold impl_limbsOf
  exact .bnd fun r1 h2 =>
    .ret (runF_con0 hmix (tape := [.reg [nt], .reg [nt], .virt 3 1, .rst [2] [.as [Ob.mk 1 (([] : List Int).map eI) .live]] [(0, ii), (3, .c1 (.c0 (.len (([] : List Int).length))))], .sub (.exit 0) [(3, .osl 0 0 0 r1.length)] [[Ob.mk 1 (r1.map eI) .live]], .reg [nt, nt]]) (rr := .c1 (.c0 (.sl (r1.map eI)))) (by kernel_rfl) (.c (row_prf (show ([] : List (List AV)) = ([] : List Int).map eI from rfl) : [Ob.mk 1 ([] : List (List AV)) .live] = [Ob.mk 1 (([] : List Int).map eI) .live]) (.c (pure_row eI_pure ([] : List Int) : PureRow [Ob.mk 1 (([] : List Int).map eI) .live]) (.c (show 0 = ([] : List Int).length from rfl) (.c ((impl_limbsOf_L1_ok v_n ([] : List Int) r1 h2).vex) (.c (snap_full (show (r1.map eI) = (r1.map eI) from rfl) (show r1.length = r1.length from rfl)) (.c (fit_full (show (r1.map eI) = (r1.map eI) from rfl) (show r1.length = r1.length from rfl)) (.c (pure_map eI_pure r1) .nil))))))))

def impl_trim_o_L1_head (row0 : (List Int)) (v_a_len : Nat) : S := mkS [(0, .osl 0 0 0 v_a_len)] [[Ob.mk 1 (row0.map eI) .live]]

def impl_trim_o_L1_ex : Nat → Exit
  | _ => .exit 0

def impl_trim_o_L1_out (row0 : (List Int)) : Nat → S
  | a => mkS [(0, .osl 0 0 0 a)] [[Ob.mk 1 (row0.map eI) .live]]

abbrev impl_trim_o_L1_V := VEx PP 21 1 (nodeAt (bodyOf PP 105) [1, 0, 0, 0])

def impl_trim_o_L1_body (row0 : (List Int)) (v_a_len : Nat) : Option ((Nat) ⊕ (Nat)) :=
  if (decide ((0 : Int) < ((v_a_len : Nat) : Int))) = true then
    if 0 ≤ (w64 (((v_a_len : Nat) : Int) - (1 : Int))) ∧ (w64 (((v_a_len : Nat) : Int) - (1 : Int))) < (v_a_len : Nat) then
    row0[(0 + (w64 (((v_a_len : Nat) : Int) - (1 : Int))).toNat)]? >>= fun x3 =>
    if (x3 == (0 : Int)) = true then
      if 0 ≤ (w64 (((v_a_len : Nat) : Int) - (1 : Int))) then
      if 0 ≤ (w64 (((v_a_len : Nat) : Int) - (1 : Int))).toNat ∧ (w64 (((v_a_len : Nat) : Int) - (1 : Int))).toNat ≤ v_a_len then
      some (.inl ((w64 (((v_a_len : Nat) : Int) - (1 : Int))).toNat - 0))
      else none
      else none
    else
      some (.inr v_a_len)
    else none
  else
    some (.inr v_a_len)

def impl_trim_o_L1 (row0 : (List Int)) (v_a_len : Nat) : Option (Nat) := iter (fun w : Nat => impl_trim_o_L1_body row0 w) v_a_len

theorem impl_trim_o_L1_body_ok (row0 : (List Int)) (v_a_len : Nat) : Wp (impl_trim_o_L1_body row0 v_a_len) (Sum.elim
    (fun w => impl_trim_o_L1_V .normal (impl_trim_o_L1_head row0 v_a_len) (impl_trim_o_L1_head row0 w))
    (fun r => impl_trim_o_L1_V (impl_trim_o_L1_ex r) (impl_trim_o_L1_head row0 v_a_len) (impl_trim_o_L1_out row0 r))) := by
  unfold impl_trim_o_L1_body
  exact .ite (fun h1 =>
    .grd fun h2 =>
    .bnd fun x3 h4 =>
    (let t1 : List TE := [.reg [nt, nt, nt, nt, nt, nt, nt, nt, nt, (.el (eI x3), true), nt, (.br true, true)]];
    have o2 := ((.c h1 (.c h1 (.c h1 (.c h1 (.c h1 (.c ((h2).1) (.c ((h2).2) (.c h1 (.c (map_get h4 : (row0.map eI)[(0 + (w64 (((v_a_len : Nat) : Int) - (1 : Int))).toNat)]? = some (eI x3)) (.c h1 (.c h1 .nil))))))))))) : AllP _);
    .ite (fun h5 =>
    .grd fun h6 =>
    .grd fun h7 =>
    .ret ((okC_sound hmix (tape := t1 ++ ([.br true, .reg [nt, nt, nt, nt, nt, nt], .rst [0] [.pure] [(0, ii)]] : List TE)) (nr := 1) (by kernel_rfl) (o2.app (.c h5 (.c h6 (.c ((h7).1) (.c ((h7).2) (.c (pure_row eI_pure row0 : PureRow [Ob.mk 1 (row0.map eI) .live]) .nil)))))) (mkS_free _ _) : impl_trim_o_L1_V .normal (impl_trim_o_L1_head row0 v_a_len) (impl_trim_o_L1_head row0 ((w64 (((v_a_len : Nat) : Int) - (1 : Int))).toNat - 0)))))
    (fun h5 =>
    .ret ((okC_sound hmix (tape := t1 ++ ([.br false, .rst [0] [.pure] [(0, ii)]] : List TE)) (nr := 1) (by kernel_rfl) (o2.app (.c h5 (.c (pure_row eI_pure row0 : PureRow [Ob.mk 1 (row0.map eI) .live]) .nil))) (mkS_free _ _) : impl_trim_o_L1_V (.exit 0) (impl_trim_o_L1_head row0 v_a_len) (impl_trim_o_L1_out row0 v_a_len))))))
    (fun h1 =>
    .ret ((okC_sound hmix (tape := [.reg [nt, nt, nt, nt, nf, nf, nf, nf, nf, nf, nf, (.br false, true)], .br false, .rst [0] [.pure] [(0, ii)]]) (nr := 1) (by kernel_rfl) (.c h1 (.c h1 (.c h1 (.c h1 (.c h1 (.c h1 (.c h1 (.c h1 (.c (rfl : false = false) (.c (pure_row eI_pure row0 : PureRow [Ob.mk 1 (row0.map eI) .live]) .nil)))))))))) (mkS_free _ _) : impl_trim_o_L1_V (.exit 0) (impl_trim_o_L1_head row0 v_a_len) (impl_trim_o_L1_out row0 v_a_len))))

theorem impl_trim_o_L1_ok (row0 : (List Int)) (v_a_len : Nat) : ∀ r, impl_trim_o_L1 row0 v_a_len = some r → VLoop PP 21 1 (nodeAt (bodyOf PP 105) [1, 0, 0, 0]) (impl_trim_o_L1_ex r) (impl_trim_o_L1_head row0 v_a_len) (impl_trim_o_L1_out row0 r) := fun r h =>
  iter_ok (head := fun w : Nat => impl_trim_o_L1_head row0 w) (ex := impl_trim_o_L1_ex) (out := impl_trim_o_L1_out row0) (by intro r; unfold impl_trim_o_L1_ex; split <;> simp) (fun w => impl_trim_o_L1_body_ok row0 w) v_a_len r h

def impl_trim_o (rw0 : (List Int)) : Option Nat :=
  impl_trim_o_L1 rw0 rw0.length >>= fun r1 =>
  some r1

theorem impl_trim_o_ok (rw0 : (List Int)) : Wp (impl_trim_o rw0) (fun a => Con PP 105 [.osl 0 0 0 rw0.length] [[Ob.mk 1 (rw0.map eI) .live]] (.osl 0 0 0 a) [[Ob.mk 1 (rw0.map eI) .live]]) := by
  unfold impl_trim_o
  exact .bnd fun r1 h2 =>
    .ret (runF_con hmix (tape := [.reg [nt], .rst [0] [.pure] [(0, ii)], .sub (.exit 0) [(0, .osl 0 0 0 r1)] [[Ob.mk 1 (rw0.map eI) .live]], .reg [nt, nt]]) (mv := [0]) (rc := [.pure]) (rr := ii) (by kernel_rfl) (.c (pure_row eI_pure rw0 : PureRow [Ob.mk 1 (rw0.map eI) .live]) (.c ((impl_trim_o_L1_ok rw0 rw0.length r1 h2).vex) (.c (pure_row eI_pure rw0 : PureRow [Ob.mk 1 (rw0.map eI) .live]) .nil))))

def impl_times_o_L2_head (v_b : (List Int)) (v_i : Int) (v_n : Int) (v_t26 : (List Int)) (v_t27 : Int) (v_t34 : Int) (v_carry : Int) (v_t35 : Int) (row0 : (List Int)) : S := mkS [(1, .isl 1 (v_b.map eI)), (5, .osl 0 0 0 row0.length), (6, .n .i64 v_i), (7, .n .i64 v_n), (8, .n .i64 v_carry), (26, .isl 1 (v_t26.map eI)), (27, .n .i64 v_t27), (28, .n .i64 v_i), (33, .isl 1 (v_b.map eI)), (34, .n .i64 v_t34), (35, .n .i64 v_t35)] [[Ob.mk 1 (row0.map eI) .live]]

def impl_times_o_L2_ex : (Int × (List Int)) → Exit
  | _ => .exit 2

def impl_times_o_L2_out (v_b : (List Int)) (v_i : Int) (v_n : Int) (v_t26 : (List Int)) (v_t27 : Int) (v_t34 : Int) : (Int × (List Int)) → S
  | a => mkS [(1, .isl 1 (v_b.map eI)), (5, .osl 0 0 0 a.2.length), (6, .n .i64 v_i), (8, .n .i64 a.1), (26, .isl 1 (v_t26.map eI)), (27, .n .i64 v_t27), (28, .n .i64 v_i)] [[Ob.mk 1 (a.2.map eI) .live]]

abbrev impl_times_o_L2_V := VEx PP 72 0 (nodeAt (bodyOf PP 89) [1, 1, 1, 0, 1, 0, 0, 1, 1, 0, 0, 1, 1, 0, 1, 0, 0])

def impl_times_o_L2_body (v_b : (List Int)) (v_i : Int) (v_n : Int) (v_t26 : (List Int)) (v_t27 : Int) (v_t34 : Int) (v_carry : Int) (v_t35 : Int) (row0 : (List Int)) : Option ((Int × Int × (List Int)) ⊕ (Int × (List Int))) :=
  if (decide (v_t35 < v_t34)) = true then
    if 0 ≤ v_t35 ∧ v_t35 < v_b.length then
    v_b[v_t35.toNat]? >>= fun x3 =>
    if 0 ≤ (w64 (v_i + v_t35)) ∧ (w64 (v_i + v_t35)) < (row0.length : Nat) then
    row0[(0 + (w64 (v_i + v_t35)).toNat)]? >>= fun x6 =>
    if (0 + (w64 (v_i + v_t35)).toNat) < row0.length then
    some (.inl (w64 ((w64 ((w64 (x6 + (w64 (v_n * x3)))) + v_carry)).tdiv (1000000000 : Int)), w64 (v_t35 + (1 : Int)), row0.set (0 + (w64 (v_i + v_t35)).toNat) ((w64 ((w64 (x6 + (w64 (v_n * x3)))) + v_carry)).tmod (1000000000 : Int))))
    else none
    else none
    else none
  else
    some (.inr (v_carry, row0))

def impl_times_o_L2 (v_b : (List Int)) (v_i : Int) (v_n : Int) (v_t26 : (List Int)) (v_t27 : Int) (v_t34 : Int) (v_carry : Int) (v_t35 : Int) (row0 : (List Int)) : Option (Int × (List Int)) := iter (fun w : Int × Int × (List Int) => impl_times_o_L2_body v_b v_i v_n v_t26 v_t27 v_t34 w.1 w.2.1 w.2.2) (v_carry, v_t35, row0)

theorem impl_times_o_L2_body_ok (v_b : (List Int)) (v_i : Int) (v_n : Int) (v_t26 : (List Int)) (v_t27 : Int) (v_t34 : Int) (v_carry : Int) (v_t35 : Int) (row0 : (List Int)) : Wp (impl_times_o_L2_body v_b v_i v_n v_t26 v_t27 v_t34 v_carry v_t35 row0) (Sum.elim
    (fun w => impl_times_o_L2_V .normal (impl_times_o_L2_head v_b v_i v_n v_t26 v_t27 v_t34 v_carry v_t35 row0) (impl_times_o_L2_head v_b v_i v_n v_t26 v_t27 v_t34 w.1 w.2.1 w.2.2))
    (fun r => impl_times_o_L2_V (impl_times_o_L2_ex r) (impl_times_o_L2_head v_b v_i v_n v_t26 v_t27 v_t34 v_carry v_t35 row0) (impl_times_o_L2_out v_b v_i v_n v_t26 v_t27 v_t34 r))) := by
  unfold impl_times_o_L2_body
  exact .ite (fun h1 =>
    .grd fun h2 =>
    .bnd fun x3 h4 =>
    .grd fun h5 =>
    .bnd fun x6 h7 =>
    .grd fun h8 =>
    .ret ((okC_sound hmix (tape := [.reg [nt], .br true, .reg [nt, nt, (.el (eI x3), true), nt, nt], .reg [nt, nt, nt, nt, nt, (.el (eI x6), true), nt, nt, nt, nt, nt, nt, nt], .reg [nt, nt, nt, nt, nt, nt, nt, nt, nt, (.bd, true), nt], .reg [nt, nt], .rst [0] [.as [Ob.mk 1 ((row0.set (0 + (w64 (v_i + v_t35)).toNat) ((w64 ((w64 (x6 + (w64 (v_n * x3)))) + v_carry)).tmod (1000000000 : Int))).map eI) .live]] [(1, ii), (5, .c1 (.c0 (.len ((row0.set (0 + (w64 (v_i + v_t35)).toNat) ((w64 ((w64 (x6 + (w64 (v_n * x3)))) + v_carry)).tmod (1000000000 : Int))).length)))), (6, ii), (7, ii), (8, ii), (26, ii), (27, ii), (28, ii), (33, ii), (34, ii), (35, ii)]]) (nr := 1) (by kernel_rfl) (.c h1 (.c ((h2).1) (.c (lt_mapI (h2).2 : v_t35 < ((v_b.map eI).length : Nat)) (.c (map_get h4 : (v_b.map eI)[v_t35.toNat]? = some (eI x3)) (.c ((h5).1) (.c ((h5).2) (.c (map_get h7 : (row0.map eI)[(0 + (w64 (v_i + v_t35)).toNat)]? = some (eI x6)) (.c (by decide : (1000000000 : Int) ≠ 0) (.c (by decide : (1000000000 : Int) ≠ 0) (.c ((h5).1) (.c ((h5).2) (.c (lt_map h8 : (0 + (w64 (v_i + v_t35)).toNat) < (row0.map eI).length) (.c (rfl : 1 = 1) (.c (row_prf (set_prf (show (row0.map eI) = (row0.map eI) from rfl) (0 + (w64 (v_i + v_t35)).toNat) ((w64 ((w64 (x6 + (w64 (v_n * x3)))) + v_carry)).tmod (1000000000 : Int))) : [Ob.mk 1 ((row0.map eI).set (0 + (w64 (v_i + v_t35)).toNat) [.n .i64 ((w64 ((w64 (x6 + (w64 (v_n * x3)))) + v_carry)).tmod (1000000000 : Int))]) .live] = [Ob.mk 1 ((row0.set (0 + (w64 (v_i + v_t35)).toNat) ((w64 ((w64 (x6 + (w64 (v_n * x3)))) + v_carry)).tmod (1000000000 : Int))).map eI) .live]) (.c (pure_row eI_pure (row0.set (0 + (w64 (v_i + v_t35)).toNat) ((w64 ((w64 (x6 + (w64 (v_n * x3)))) + v_carry)).tmod (1000000000 : Int))) : PureRow [Ob.mk 1 ((row0.set (0 + (w64 (v_i + v_t35)).toNat) ((w64 ((w64 (x6 + (w64 (v_n * x3)))) + v_carry)).tmod (1000000000 : Int))).map eI) .live]) (.c (len_set (show row0.length = row0.length from rfl) (0 + (w64 (v_i + v_t35)).toNat) ((w64 ((w64 (x6 + (w64 (v_n * x3)))) + v_carry)).tmod (1000000000 : Int))) .nil)))))))))))))))) (mkS_free _ _) : impl_times_o_L2_V .normal (impl_times_o_L2_head v_b v_i v_n v_t26 v_t27 v_t34 v_carry v_t35 row0) (impl_times_o_L2_head v_b v_i v_n v_t26 v_t27 v_t34 (w64 ((w64 ((w64 (x6 + (w64 (v_n * x3)))) + v_carry)).tdiv (1000000000 : Int))) (w64 (v_t35 + (1 : Int))) (row0.set (0 + (w64 (v_i + v_t35)).toNat) ((w64 ((w64 (x6 + (w64 (v_n * x3)))) + v_carry)).tmod (1000000000 : Int)))))))
    (fun h1 =>
    .ret ((okC_sound hmix (tape := [.reg [nt], .br false, .rst [0] [.pure] [(1, ii), (5, ii), (6, ii), (8, ii), (26, ii), (27, ii), (28, ii)]]) (nr := 1) (by kernel_rfl) (.c h1 (.c (pure_row eI_pure row0 : PureRow [Ob.mk 1 (row0.map eI) .live]) .nil)) (mkS_free _ _) : impl_times_o_L2_V (.exit 2) (impl_times_o_L2_head v_b v_i v_n v_t26 v_t27 v_t34 v_carry v_t35 row0) (impl_times_o_L2_out v_b v_i v_n v_t26 v_t27 v_t34 (v_carry, row0)))))

theorem impl_times_o_L2_ok (v_b : (List Int)) (v_i : Int) (v_n : Int) (v_t26 : (List Int)) (v_t27 : Int) (v_t34 : Int) (v_carry : Int) (v_t35 : Int) (row0 : (List Int)) : ∀ r, impl_times_o_L2 v_b v_i v_n v_t26 v_t27 v_t34 v_carry v_t35 row0 = some r → VLoop PP 72 0 (nodeAt (bodyOf PP 89) [1, 1, 1, 0, 1, 0, 0, 1, 1, 0, 0, 1, 1, 0, 1, 0, 0]) (impl_times_o_L2_ex r) (impl_times_o_L2_head v_b v_i v_n v_t26 v_t27 v_t34 v_carry v_t35 row0) (impl_times_o_L2_out v_b v_i v_n v_t26 v_t27 v_t34 r) := fun r h =>
  iter_ok (head := fun w : Int × Int × (List Int) => impl_times_o_L2_head v_b v_i v_n v_t26 v_t27 v_t34 w.1 w.2.1 w.2.2) (ex := impl_times_o_L2_ex) (out := impl_times_o_L2_out v_b v_i v_n v_t26 v_t27 v_t34) (by intro r; unfold impl_times_o_L2_ex; split <;> simp) (fun w => impl_times_o_L2_body_ok v_b v_i v_n v_t26 v_t27 v_t34 w.1 w.2.1 w.2.2) (v_carry, v_t35, row0) r h

def impl_times_o_L3_head (v_b : (List Int)) (v_t26 : (List Int)) (v_t27 : Int) (v_t28 : Int) (row0 : (List Int)) : S := mkS [(1, .isl 1 (v_b.map eI)), (5, .osl 0 0 0 row0.length), (26, .isl 1 (v_t26.map eI)), (27, .n .i64 v_t27), (28, .n .i64 v_t28)] [[Ob.mk 1 (row0.map eI) .live]]

def impl_times_o_L3_ex : (List Int) → Exit
  | _ => .exit 0

def impl_times_o_L3_out (v_b : (List Int)) (v_t26 : (List Int)) (v_t27 : Int) : (List Int) → S
  | a => mkS [(5, .osl 0 0 0 a.length)] [[Ob.mk 1 (a.map eI) .live]]

abbrev impl_times_o_L3_V := VEx PP 72 0 (nodeAt (bodyOf PP 89) [1, 1, 1, 0, 1, 0, 0])

def impl_times_o_L3_body (v_b : (List Int)) (v_t26 : (List Int)) (v_t27 : Int) (v_t28 : Int) (row0 : (List Int)) : Option ((Int × (List Int)) ⊕ ((List Int))) :=
  if (decide (v_t28 < v_t27)) = true then
    if 0 ≤ v_t28 ∧ v_t28 < v_t26.length then
    v_t26[v_t28.toNat]? >>= fun x3 =>
    impl_times_o_L2 v_b v_t28 x3 v_t26 v_t27 (len_ eI v_b) 0 0 row0 >>= fun r5 =>
    if 0 ≤ (w64 (v_t28 + (len_ eI v_b))) ∧ (w64 (v_t28 + (len_ eI v_b))) < (r5.2.length : Nat) then
    if (0 + (w64 (v_t28 + (len_ eI v_b))).toNat) < r5.2.length then
    some (.inl (w64 (v_t28 + (1 : Int)), r5.2.set (0 + (w64 (v_t28 + (len_ eI v_b))).toNat) r5.1))
    else none
    else none
    else none
  else
    some (.inr row0)

def impl_times_o_L3 (v_b : (List Int)) (v_t26 : (List Int)) (v_t27 : Int) (v_t28 : Int) (row0 : (List Int)) : Option ((List Int)) := iter (fun w : Int × (List Int) => impl_times_o_L3_body v_b v_t26 v_t27 w.1 w.2) (v_t28, row0)

theorem impl_times_o_L3_body_ok (v_b : (List Int)) (v_t26 : (List Int)) (v_t27 : Int) (v_t28 : Int) (row0 : (List Int)) : Wp (impl_times_o_L3_body v_b v_t26 v_t27 v_t28 row0) (Sum.elim
    (fun w => impl_times_o_L3_V .normal (impl_times_o_L3_head v_b v_t26 v_t27 v_t28 row0) (impl_times_o_L3_head v_b v_t26 v_t27 w.1 w.2))
    (fun r => impl_times_o_L3_V (impl_times_o_L3_ex r) (impl_times_o_L3_head v_b v_t26 v_t27 v_t28 row0) (impl_times_o_L3_out v_b v_t26 v_t27 r))) := by
  unfold impl_times_o_L3_body
  exact .ite (fun h1 =>
    .grd fun h2 =>
    .bnd fun x3 h4 =>
    .bnd fun r5 h6 =>
    .grd fun h7 =>
    .grd fun h8 =>
    .ret ((okC_sound hmix (tape := [.reg [nt], .br true, .reg [nt, nt, (.el (eI x3), true), nt, nt], .reg [nt], .reg [nt, nt, nt], .rst [0] [.pure] [(1, ii), (5, ii), (6, ii), (7, ii), (8, ii), (26, ii), (27, ii), (28, ii), (33, ii), (34, ii), (35, ii)], .sub (.exit 2) [(1, .isl 1 (v_b.map eI)), (5, .osl 0 0 0 r5.2.length), (6, .n .i64 v_t28), (8, .n .i64 r5.1), (26, .isl 1 (v_t26.map eI)), (27, .n .i64 v_t27), (28, .n .i64 v_t28)] [[Ob.mk 1 (r5.2.map eI) .live]], .reg [nt, nt, nt, nt, nt, nt, nt, (.bd, true)], .reg [nt, nt], .rst [0] [.as [Ob.mk 1 ((r5.2.set (0 + (w64 (v_t28 + (len_ eI v_b))).toNat) r5.1).map eI) .live]] [(1, ii), (5, .c1 (.c0 (.len ((r5.2.set (0 + (w64 (v_t28 + (len_ eI v_b))).toNat) r5.1).length)))), (26, ii), (27, ii), (28, ii)]]) (nr := 1) (by kernel_rfl) (.c h1 (.c ((h2).1) (.c (lt_mapI (h2).2 : v_t28 < ((v_t26.map eI).length : Nat)) (.c (map_get h4 : (v_t26.map eI)[v_t28.toNat]? = some (eI x3)) (.c (pure_row eI_pure row0 : PureRow [Ob.mk 1 (row0.map eI) .live]) (.c ((impl_times_o_L2_ok v_b v_t28 x3 v_t26 v_t27 (len_ eI v_b) 0 0 row0 r5 h6).vex) (.c ((h7).1) (.c ((h7).2) (.c (lt_map h8 : (0 + (w64 (v_t28 + (len_ eI v_b))).toNat) < (r5.2.map eI).length) (.c (rfl : 1 = 1) (.c (row_prf (set_prf (show (r5.2.map eI) = (r5.2.map eI) from rfl) (0 + (w64 (v_t28 + (len_ eI v_b))).toNat) r5.1) : [Ob.mk 1 ((r5.2.map eI).set (0 + (w64 (v_t28 + (len_ eI v_b))).toNat) [.n .i64 r5.1]) .live] = [Ob.mk 1 ((r5.2.set (0 + (w64 (v_t28 + (len_ eI v_b))).toNat) r5.1).map eI) .live]) (.c (pure_row eI_pure (r5.2.set (0 + (w64 (v_t28 + (len_ eI v_b))).toNat) r5.1) : PureRow [Ob.mk 1 ((r5.2.set (0 + (w64 (v_t28 + (len_ eI v_b))).toNat) r5.1).map eI) .live]) (.c (len_set (show r5.2.length = r5.2.length from rfl) (0 + (w64 (v_t28 + (len_ eI v_b))).toNat) r5.1) .nil))))))))))))) (mkS_free _ _) : impl_times_o_L3_V .normal (impl_times_o_L3_head v_b v_t26 v_t27 v_t28 row0) (impl_times_o_L3_head v_b v_t26 v_t27 (w64 (v_t28 + (1 : Int))) (r5.2.set (0 + (w64 (v_t28 + (len_ eI v_b))).toNat) r5.1)))))
    (fun h1 =>
    .ret ((okC_sound hmix (tape := [.reg [nt], .br false, .rst [0] [.pure] [(5, ii)]]) (nr := 1) (by kernel_rfl) (.c h1 (.c (pure_row eI_pure row0 : PureRow [Ob.mk 1 (row0.map eI) .live]) .nil)) (mkS_free _ _) : impl_times_o_L3_V (.exit 0) (impl_times_o_L3_head v_b v_t26 v_t27 v_t28 row0) (impl_times_o_L3_out v_b v_t26 v_t27 row0))))

theorem impl_times_o_L3_ok (v_b : (List Int)) (v_t26 : (List Int)) (v_t27 : Int) (v_t28 : Int) (row0 : (List Int)) : ∀ r, impl_times_o_L3 v_b v_t26 v_t27 v_t28 row0 = some r → VLoop PP 72 0 (nodeAt (bodyOf PP 89) [1, 1, 1, 0, 1, 0, 0]) (impl_times_o_L3_ex r) (impl_times_o_L3_head v_b v_t26 v_t27 v_t28 row0) (impl_times_o_L3_out v_b v_t26 v_t27 r) := fun r h =>
  iter_ok (head := fun w : Int × (List Int) => impl_times_o_L3_head v_b v_t26 v_t27 w.1 w.2) (ex := impl_times_o_L3_ex) (out := impl_times_o_L3_out v_b v_t26 v_t27) (by intro r; unfold impl_times_o_L3_ex; split <;> simp) (fun w => impl_times_o_L3_body_ok v_b v_t26 v_t27 w.1 w.2) (v_t28, row0) r h

def impl_times_o (v_a : (List Int)) (v_b : (List Int)) : Option (Nat × (List Int)) :=
  if ((len_ eI v_a) == (0 : Int)) = true then
    none
  else
    if ((len_ eI v_b) == (0 : Int)) = true then
      none
    else
      if 0 ≤ (w64 ((len_ eI v_a) + (len_ eI v_b))) ∧ (8 : Int) * (w64 ((len_ eI v_a) + (len_ eI v_b))) ≤ 281474976710656 ∧ (w64 ((len_ eI v_a) + (len_ eI v_b))) < 9223372036854775808 then
      impl_times_o_L3 v_b v_a (len_ eI v_a) 0 (List.replicate (w64 ((len_ eI v_a) + (len_ eI v_b))).toNat 0 : List Int) >>= fun r4 =>
      impl_trim_o r4 >>= fun r6 =>
      some (r6, r4)
      else none

theorem impl_times_o_ok (v_a : (List Int)) (v_b : (List Int)) : Wp (impl_times_o v_a v_b) (fun a => Con PP 89 [.isl 1 (v_a.map eI), .isl 1 (v_b.map eI)] [] (.osl 0 0 0 a.1) [[Ob.mk 1 (a.2.map eI) .live]]) := by
  unfold impl_times_o
  exact .ite (fun h1 =>
    .nix)
    (fun h1 =>
    .ite (fun h2 =>
    .nix)
    (fun h2 =>
    .grd fun h3 =>
    .bnd fun r4 h5 =>
    .bnd fun r6 h7 =>
    .ret (runF_con hmix (tape := [.reg [nt], .reg [nt, nt, nt, nt, nt, nt, nt, (.br false, true)], .br false, .reg [nt, nt, nt, nt, nt, nt, nt], .reg [nt, nt, nt], .rst [14] [.as [Ob.mk 1 ((List.replicate (w64 ((len_ eI v_a) + (len_ eI v_b))).toNat 0 : List Int).map eI) .live]] [(1, ii), (5, .c1 (.c0 (.len ((List.replicate (w64 ((len_ eI v_a) + (len_ eI v_b))).toNat 0 : List Int).length)))), (26, ii), (27, ii), (28, ii)], .sub (.exit 0) [(5, .osl 0 0 0 r4.length)] [[Ob.mk 1 (r4.map eI) .live]], .reg [nt, (.call { mv := [.row 0], rc := [.pure], ac := [ii], r := .osl 0 0 0 r6, T1 := [[Ob.mk 1 (r4.map eI) .live]], rr := ii, rrc := [.pure], rds := [0], sc := false }, true), nt]]) (mv := [0]) (rc := [.pure]) (rr := ii) (by kernel_rfl) (.c h1 (.c h1 (.c h1 (.c h1 (.c h2 (.c ((h3).1) (.c (Int.le_refl (w64 ((len_ eI v_a) + (len_ eI v_b)))) (.c ((h3).2.1) (.c ((h3).2.2) (.c (row_prf (rep_prf eI (w64 ((len_ eI v_a) + (len_ eI v_b))).toNat 0) : [Ob.mk 1 (List.replicate (w64 ((len_ eI v_a) + (len_ eI v_b))).toNat [.n .i64 (0 : Int)]) .live] = [Ob.mk 1 ((List.replicate (w64 ((len_ eI v_a) + (len_ eI v_b))).toNat 0 : List Int).map eI) .live]) (.c (pure_row eI_pure (List.replicate (w64 ((len_ eI v_a) + (len_ eI v_b))).toNat 0 : List Int) : PureRow [Ob.mk 1 ((List.replicate (w64 ((len_ eI v_a) + (len_ eI v_b))).toNat 0 : List Int).map eI) .live]) (.c (len_rep (w64 ((len_ eI v_a) + (len_ eI v_b))).toNat (0 : Int)) (.c ((impl_times_o_L3_ok v_b v_a (len_ eI v_a) 0 (List.replicate (w64 ((len_ eI v_a) + (len_ eI v_b))).toNat 0 : List Int) r4 h5).vex) (.c (pure_live eI_pure r4 : PureLive [Ob.mk 1 (r4.map eI) .live]) (.c (pure_live eI_pure r4 : PureLive [Ob.mk 1 (r4.map eI) .live]) (.c (impl_trim_o_ok r4 r6 h7) (.c (pure_row eI_pure r4 : PureRow [Ob.mk 1 (r4.map eI) .live]) .nil))))))))))))))))))))

def impl_take_o_L1_head (v_u_lo : Nat) (v_u_len : Nat) (v_v : (List Int)) (v_by : Int) (v_t12 : Int) (v_carry : Int) (v_t13 : Int) (row0 : (List Int)) : S := mkS [(0, .osl 0 0 v_u_lo v_u_len), (1, .isl 1 (v_v.map eI)), (2, .n .i64 v_by), (7, .n .i64 v_carry), (11, .isl 1 (v_v.map eI)), (12, .n .i64 v_t12), (13, .n .i64 v_t13)] [[Ob.mk 1 (row0.map eI) .live]]

def impl_take_o_L1_ex : (Int × (List Int)) → Exit
  | _ => .exit 0

def impl_take_o_L1_out (v_u_lo : Nat) (v_u_len : Nat) (v_v : (List Int)) (v_by : Int) (v_t12 : Int) : (Int × (List Int)) → S
  | a => mkS [(0, .osl 0 0 v_u_lo v_u_len), (1, .isl 1 (v_v.map eI)), (7, .n .i64 a.1)] [[Ob.mk 1 (a.2.map eI) .live]]

abbrev impl_take_o_L1_V := VEx PP 56 1 (nodeAt (bodyOf PP 119) [1, 1, 0, 1, 0, 0])

def impl_take_o_L1_body (v_u_lo : Nat) (v_u_len : Nat) (v_v : (List Int)) (v_by : Int) (v_t12 : Int) (v_carry : Int) (v_t13 : Int) (row0 : (List Int)) : Option ((Int × Int × (List Int)) ⊕ (Int × (List Int))) :=
  if (decide (v_t13 < v_t12)) = true then
    if 0 ≤ v_t13 ∧ v_t13 < v_v.length then
    v_v[v_t13.toNat]? >>= fun x3 =>
    if 0 ≤ v_t13 ∧ v_t13 < (v_u_len : Nat) then
    row0[(v_u_lo + v_t13.toNat)]? >>= fun x6 =>
    if (decide ((w64 ((w64 (x6 - (w64 (v_by * x3)))) - v_carry)) < (0 : Int))) = true then
      if (v_u_lo + v_t13.toNat) < row0.length then
      some (.inl (w64 ((w64 ((999999999 : Int) - (w64 ((w64 (x6 - (w64 (v_by * x3)))) - v_carry)))).tdiv (1000000000 : Int)), w64 (v_t13 + (1 : Int)), row0.set (v_u_lo + v_t13.toNat) (w64 ((w64 ((w64 (x6 - (w64 (v_by * x3)))) - v_carry)) + (w64 ((w64 ((w64 ((999999999 : Int) - (w64 ((w64 (x6 - (w64 (v_by * x3)))) - v_carry)))).tdiv (1000000000 : Int))) * (1000000000 : Int)))))))
      else none
    else
      if (v_u_lo + v_t13.toNat) < row0.length then
      some (.inl (0, w64 (v_t13 + (1 : Int)), row0.set (v_u_lo + v_t13.toNat) (w64 ((w64 (x6 - (w64 (v_by * x3)))) - v_carry))))
      else none
    else none
    else none
  else
    some (.inr (v_carry, row0))

def impl_take_o_L1 (v_u_lo : Nat) (v_u_len : Nat) (v_v : (List Int)) (v_by : Int) (v_t12 : Int) (v_carry : Int) (v_t13 : Int) (row0 : (List Int)) : Option (Int × (List Int)) := iter (fun w : Int × Int × (List Int) => impl_take_o_L1_body v_u_lo v_u_len v_v v_by v_t12 w.1 w.2.1 w.2.2) (v_carry, v_t13, row0)

theorem impl_take_o_L1_body_ok (v_u_lo : Nat) (v_u_len : Nat) (v_v : (List Int)) (v_by : Int) (v_t12 : Int) (v_carry : Int) (v_t13 : Int) (row0 : (List Int)) : Wp (impl_take_o_L1_body v_u_lo v_u_len v_v v_by v_t12 v_carry v_t13 row0) (Sum.elim
    (fun w => impl_take_o_L1_V .normal (impl_take_o_L1_head v_u_lo v_u_len v_v v_by v_t12 v_carry v_t13 row0) (impl_take_o_L1_head v_u_lo v_u_len v_v v_by v_t12 w.1 w.2.1 w.2.2))
    (fun r => impl_take_o_L1_V (impl_take_o_L1_ex r) (impl_take_o_L1_head v_u_lo v_u_len v_v v_by v_t12 v_carry v_t13 row0) (impl_take_o_L1_out v_u_lo v_u_len v_v v_by v_t12 r))) := by
  unfold impl_take_o_L1_body
  exact .ite (fun h1 =>
    .grd fun h2 =>
    .bnd fun x3 h4 =>
    .grd fun h5 =>
    .bnd fun x6 h7 =>
    (let t1 : List TE := [.reg [nt], .br true, .reg [nt, nt, (.el (eI x3), true), nt, nt], .reg [nt, nt, nt, (.el (eI x6), true), nt, nt, nt, nt, nt, nt, nt], .reg [nt], .reg [nt, nt]];
    have o2 := ((.c h1 (.c ((h2).1) (.c (lt_mapI (h2).2 : v_t13 < ((v_v.map eI).length : Nat)) (.c (map_get h4 : (v_v.map eI)[v_t13.toNat]? = some (eI x3)) (.c ((h5).1) (.c ((h5).2) (.c (map_get h7 : (row0.map eI)[(v_u_lo + v_t13.toNat)]? = some (eI x6)) .nil))))))) : AllP _);
    .ite (fun h8 =>
    .grd fun h9 =>
    .ret ((okC_sound hmix (tape := t1 ++ ([.br true, .reg [nt, nt, nt, nt], .reg [nt, nt, nt, nt, nt], .reg [nt, nt, nt, nt, (.bd, true)], .reg [nt, nt], .rst [0] [.as [Ob.mk 1 ((row0.set (v_u_lo + v_t13.toNat) (w64 ((w64 ((w64 (x6 - (w64 (v_by * x3)))) - v_carry)) + (w64 ((w64 ((w64 ((999999999 : Int) - (w64 ((w64 (x6 - (w64 (v_by * x3)))) - v_carry)))).tdiv (1000000000 : Int))) * (1000000000 : Int)))))).map eI) .live]] [(0, ii), (1, ii), (2, ii), (7, ii), (11, ii), (12, ii), (13, ii)]] : List TE)) (nr := 1) (by kernel_rfl) (o2.app (.c h8 (.c (by decide : (1000000000 : Int) ≠ 0) (.c ((h5).1) (.c ((h5).2) (.c (lt_map h9 : (v_u_lo + v_t13.toNat) < (row0.map eI).length) (.c (rfl : 1 = 1) (.c (row_prf (set_prf (show (row0.map eI) = (row0.map eI) from rfl) (v_u_lo + v_t13.toNat) (w64 ((w64 ((w64 (x6 - (w64 (v_by * x3)))) - v_carry)) + (w64 ((w64 ((w64 ((999999999 : Int) - (w64 ((w64 (x6 - (w64 (v_by * x3)))) - v_carry)))).tdiv (1000000000 : Int))) * (1000000000 : Int)))))) : [Ob.mk 1 ((row0.map eI).set (v_u_lo + v_t13.toNat) [.n .i64 (w64 ((w64 ((w64 (x6 - (w64 (v_by * x3)))) - v_carry)) + (w64 ((w64 ((w64 ((999999999 : Int) - (w64 ((w64 (x6 - (w64 (v_by * x3)))) - v_carry)))).tdiv (1000000000 : Int))) * (1000000000 : Int)))))]) .live] = [Ob.mk 1 ((row0.set (v_u_lo + v_t13.toNat) (w64 ((w64 ((w64 (x6 - (w64 (v_by * x3)))) - v_carry)) + (w64 ((w64 ((w64 ((999999999 : Int) - (w64 ((w64 (x6 - (w64 (v_by * x3)))) - v_carry)))).tdiv (1000000000 : Int))) * (1000000000 : Int)))))).map eI) .live]) (.c (pure_row eI_pure (row0.set (v_u_lo + v_t13.toNat) (w64 ((w64 ((w64 (x6 - (w64 (v_by * x3)))) - v_carry)) + (w64 ((w64 ((w64 ((999999999 : Int) - (w64 ((w64 (x6 - (w64 (v_by * x3)))) - v_carry)))).tdiv (1000000000 : Int))) * (1000000000 : Int)))))) : PureRow [Ob.mk 1 ((row0.set (v_u_lo + v_t13.toNat) (w64 ((w64 ((w64 (x6 - (w64 (v_by * x3)))) - v_carry)) + (w64 ((w64 ((w64 ((999999999 : Int) - (w64 ((w64 (x6 - (w64 (v_by * x3)))) - v_carry)))).tdiv (1000000000 : Int))) * (1000000000 : Int)))))).map eI) .live]) .nil))))))))) (mkS_free _ _) : impl_take_o_L1_V .normal (impl_take_o_L1_head v_u_lo v_u_len v_v v_by v_t12 v_carry v_t13 row0) (impl_take_o_L1_head v_u_lo v_u_len v_v v_by v_t12 (w64 ((w64 ((999999999 : Int) - (w64 ((w64 (x6 - (w64 (v_by * x3)))) - v_carry)))).tdiv (1000000000 : Int))) (w64 (v_t13 + (1 : Int))) (row0.set (v_u_lo + v_t13.toNat) (w64 ((w64 ((w64 (x6 - (w64 (v_by * x3)))) - v_carry)) + (w64 ((w64 ((w64 ((999999999 : Int) - (w64 ((w64 (x6 - (w64 (v_by * x3)))) - v_carry)))).tdiv (1000000000 : Int))) * (1000000000 : Int))))))))))
    (fun h8 =>
    .grd fun h9 =>
    .ret ((okC_sound hmix (tape := t1 ++ ([.br false, .reg [nt, nt, nt, nt, (.bd, true)], .reg [nt, nt], .rst [0] [.as [Ob.mk 1 ((row0.set (v_u_lo + v_t13.toNat) (w64 ((w64 (x6 - (w64 (v_by * x3)))) - v_carry))).map eI) .live]] [(0, ii), (1, ii), (2, ii), (7, ii), (11, ii), (12, ii), (13, ii)]] : List TE)) (nr := 1) (by kernel_rfl) (o2.app (.c h8 (.c ((h5).1) (.c ((h5).2) (.c (lt_map h9 : (v_u_lo + v_t13.toNat) < (row0.map eI).length) (.c (rfl : 1 = 1) (.c (row_prf (set_prf (show (row0.map eI) = (row0.map eI) from rfl) (v_u_lo + v_t13.toNat) (w64 ((w64 (x6 - (w64 (v_by * x3)))) - v_carry))) : [Ob.mk 1 ((row0.map eI).set (v_u_lo + v_t13.toNat) [.n .i64 (w64 ((w64 (x6 - (w64 (v_by * x3)))) - v_carry))]) .live] = [Ob.mk 1 ((row0.set (v_u_lo + v_t13.toNat) (w64 ((w64 (x6 - (w64 (v_by * x3)))) - v_carry))).map eI) .live]) (.c (pure_row eI_pure (row0.set (v_u_lo + v_t13.toNat) (w64 ((w64 (x6 - (w64 (v_by * x3)))) - v_carry))) : PureRow [Ob.mk 1 ((row0.set (v_u_lo + v_t13.toNat) (w64 ((w64 (x6 - (w64 (v_by * x3)))) - v_carry))).map eI) .live]) .nil)))))))) (mkS_free _ _) : impl_take_o_L1_V .normal (impl_take_o_L1_head v_u_lo v_u_len v_v v_by v_t12 v_carry v_t13 row0) (impl_take_o_L1_head v_u_lo v_u_len v_v v_by v_t12 0 (w64 (v_t13 + (1 : Int))) (row0.set (v_u_lo + v_t13.toNat) (w64 ((w64 (x6 - (w64 (v_by * x3)))) - v_carry)))))))))
    (fun h1 =>
    .ret ((okC_sound hmix (tape := [.reg [nt], .br false, .rst [0] [.pure] [(0, ii), (1, ii), (7, ii)]]) (nr := 1) (by kernel_rfl) (.c h1 (.c (pure_row eI_pure row0 : PureRow [Ob.mk 1 (row0.map eI) .live]) .nil)) (mkS_free _ _) : impl_take_o_L1_V (.exit 0) (impl_take_o_L1_head v_u_lo v_u_len v_v v_by v_t12 v_carry v_t13 row0) (impl_take_o_L1_out v_u_lo v_u_len v_v v_by v_t12 (v_carry, row0)))))

theorem impl_take_o_L1_ok (v_u_lo : Nat) (v_u_len : Nat) (v_v : (List Int)) (v_by : Int) (v_t12 : Int) (v_carry : Int) (v_t13 : Int) (row0 : (List Int)) : ∀ r, impl_take_o_L1 v_u_lo v_u_len v_v v_by v_t12 v_carry v_t13 row0 = some r → VLoop PP 56 1 (nodeAt (bodyOf PP 119) [1, 1, 0, 1, 0, 0]) (impl_take_o_L1_ex r) (impl_take_o_L1_head v_u_lo v_u_len v_v v_by v_t12 v_carry v_t13 row0) (impl_take_o_L1_out v_u_lo v_u_len v_v v_by v_t12 r) := fun r h =>
  iter_ok (head := fun w : Int × Int × (List Int) => impl_take_o_L1_head v_u_lo v_u_len v_v v_by v_t12 w.1 w.2.1 w.2.2) (ex := impl_take_o_L1_ex) (out := impl_take_o_L1_out v_u_lo v_u_len v_v v_by v_t12) (by intro r; unfold impl_take_o_L1_ex; split <;> simp) (fun w => impl_take_o_L1_body_ok v_u_lo v_u_len v_v v_by v_t12 w.1 w.2.1 w.2.2) (v_carry, v_t13, row0) r h

def impl_take_o (v_v : (List Int)) (v_by : Int) (v_u_lo : Nat) (v_u_len : Nat) (rw0 : (List Int)) : Option (Bool × (List Int)) :=
  impl_take_o_L1 v_u_lo v_u_len v_v v_by (len_ eI v_v) 0 0 rw0 >>= fun r1 =>
  if 0 ≤ (len_ eI v_v) ∧ (len_ eI v_v) < (v_u_len : Nat) then
  r1.2[(v_u_lo + (len_ eI v_v).toNat)]? >>= fun x4 =>
  if (v_u_lo + (len_ eI v_v).toNat) < r1.2.length then
  (r1.2.set (v_u_lo + (len_ eI v_v).toNat) (w64 (x4 - r1.1)))[(v_u_lo + (len_ eI v_v).toNat)]? >>= fun x7 =>
  some ((decide (x7 < (0 : Int))), r1.2.set (v_u_lo + (len_ eI v_v).toNat) (w64 (x4 - r1.1)))
  else none
  else none

theorem impl_take_o_ok (v_v : (List Int)) (v_by : Int) (v_u_lo : Nat) (v_u_len : Nat) (rw0 : (List Int)) : Wp (impl_take_o v_v v_by v_u_lo v_u_len rw0) (fun a => Con PP 119 [.osl 0 0 v_u_lo v_u_len, .isl 1 (v_v.map eI), .n .i64 v_by] [[Ob.mk 1 (rw0.map eI) .live]] (.b a.1) [[Ob.mk 1 (a.2.map eI) .live]]) := by
  unfold impl_take_o
  exact .bnd fun r1 h2 =>
    .grd fun h3 =>
    .bnd fun x4 h5 =>
    .grd fun h6 =>
    .bnd fun x7 h8 =>
    .ret (runF_con hmix (tape := [.reg [nt], .reg [nt], .reg [nt, nt, nt], .rst [0] [.pure] [(0, ii), (1, ii), (2, ii), (7, ii), (11, ii), (12, ii), (13, ii)], .sub (.exit 0) [(0, .osl 0 0 v_u_lo v_u_len), (1, .isl 1 (v_v.map eI)), (7, .n .i64 r1.1)] [[Ob.mk 1 (r1.2.map eI) .live]], .reg [nt, nt, nt, nt, (.el (eI x4), true), nt, nt, nt, (.bd, true)], .reg [nt, nt, nt, nt, (.el (eI x7), true), nt, nt]]) (mv := [0]) (rc := [.as [Ob.mk 1 ((r1.2.set (v_u_lo + (len_ eI v_v).toNat) (w64 (x4 - r1.1))).map eI) .live]]) (rr := ii) (by kernel_rfl) (.c (pure_row eI_pure rw0 : PureRow [Ob.mk 1 (rw0.map eI) .live]) (.c ((impl_take_o_L1_ok v_u_lo v_u_len v_v v_by (len_ eI v_v) 0 0 rw0 r1 h2).vex) (.c ((h3).1) (.c ((h3).2) (.c (map_get h5 : (r1.2.map eI)[(v_u_lo + (len_ eI v_v).toNat)]? = some (eI x4)) (.c ((h3).1) (.c ((h3).2) (.c (lt_map h6 : (v_u_lo + (len_ eI v_v).toNat) < (r1.2.map eI).length) (.c (rfl : 1 = 1) (.c ((h3).1) (.c ((h3).2) (.c (get_prf (set_prf (show (r1.2.map eI) = (r1.2.map eI) from rfl) (v_u_lo + (len_ eI v_v).toNat) (w64 (x4 - r1.1))) h8) (.c (row_prf (set_prf (show (r1.2.map eI) = (r1.2.map eI) from rfl) (v_u_lo + (len_ eI v_v).toNat) (w64 (x4 - r1.1))) : [Ob.mk 1 ((r1.2.map eI).set (v_u_lo + (len_ eI v_v).toNat) [.n .i64 (w64 (x4 - r1.1))]) .live] = [Ob.mk 1 ((r1.2.set (v_u_lo + (len_ eI v_v).toNat) (w64 (x4 - r1.1))).map eI) .live]) (.c (pure_row eI_pure (r1.2.set (v_u_lo + (len_ eI v_v).toNat) (w64 (x4 - r1.1))) : PureRow [Ob.mk 1 ((r1.2.set (v_u_lo + (len_ eI v_v).toNat) (w64 (x4 - r1.1))).map eI) .live]) .nil)))))))))))))))

def impl_give_o_L1_head (v_u_lo : Nat) (v_u_len : Nat) (v_v : (List Int)) (v_t9 : Int) (v_carry : Int) (v_t10 : Int) (row0 : (List Int)) : S := mkS [(0, .osl 0 0 v_u_lo v_u_len), (1, .isl 1 (v_v.map eI)), (4, .n .i64 v_carry), (8, .isl 1 (v_v.map eI)), (9, .n .i64 v_t9), (10, .n .i64 v_t10)] [[Ob.mk 1 (row0.map eI) .live]]

def impl_give_o_L1_ex : (Int × (List Int)) → Exit
  | _ => .exit 0

def impl_give_o_L1_out (v_u_lo : Nat) (v_u_len : Nat) (v_v : (List Int)) (v_t9 : Int) : (Int × (List Int)) → S
  | a => mkS [(0, .osl 0 0 v_u_lo v_u_len), (1, .isl 1 (v_v.map eI)), (4, .n .i64 a.1)] [[Ob.mk 1 (a.2.map eI) .live]]

abbrev impl_give_o_L1_V := VEx PP 39 1 (nodeAt (bodyOf PP 120) [1, 0, 1, 0, 0])

def impl_give_o_L1_body (v_u_lo : Nat) (v_u_len : Nat) (v_v : (List Int)) (v_t9 : Int) (v_carry : Int) (v_t10 : Int) (row0 : (List Int)) : Option ((Int × Int × (List Int)) ⊕ (Int × (List Int))) :=
  if (decide (v_t10 < v_t9)) = true then
    if 0 ≤ v_t10 ∧ v_t10 < v_v.length then
    v_v[v_t10.toNat]? >>= fun x3 =>
    if 0 ≤ v_t10 ∧ v_t10 < (v_u_len : Nat) then
    row0[(v_u_lo + v_t10.toNat)]? >>= fun x6 =>
    if (v_u_lo + v_t10.toNat) < row0.length then
    some (.inl (w64 ((w64 ((w64 (x6 + x3)) + v_carry)).tdiv (1000000000 : Int)), w64 (v_t10 + (1 : Int)), row0.set (v_u_lo + v_t10.toNat) ((w64 ((w64 (x6 + x3)) + v_carry)).tmod (1000000000 : Int))))
    else none
    else none
    else none
  else
    some (.inr (v_carry, row0))

def impl_give_o_L1 (v_u_lo : Nat) (v_u_len : Nat) (v_v : (List Int)) (v_t9 : Int) (v_carry : Int) (v_t10 : Int) (row0 : (List Int)) : Option (Int × (List Int)) := iter (fun w : Int × Int × (List Int) => impl_give_o_L1_body v_u_lo v_u_len v_v v_t9 w.1 w.2.1 w.2.2) (v_carry, v_t10, row0)

theorem impl_give_o_L1_body_ok (v_u_lo : Nat) (v_u_len : Nat) (v_v : (List Int)) (v_t9 : Int) (v_carry : Int) (v_t10 : Int) (row0 : (List Int)) : Wp (impl_give_o_L1_body v_u_lo v_u_len v_v v_t9 v_carry v_t10 row0) (Sum.elim
    (fun w => impl_give_o_L1_V .normal (impl_give_o_L1_head v_u_lo v_u_len v_v v_t9 v_carry v_t10 row0) (impl_give_o_L1_head v_u_lo v_u_len v_v v_t9 w.1 w.2.1 w.2.2))
    (fun r => impl_give_o_L1_V (impl_give_o_L1_ex r) (impl_give_o_L1_head v_u_lo v_u_len v_v v_t9 v_carry v_t10 row0) (impl_give_o_L1_out v_u_lo v_u_len v_v v_t9 r))) := by
  unfold impl_give_o_L1_body
  exact .ite (fun h1 =>
    .grd fun h2 =>
    .bnd fun x3 h4 =>
    .grd fun h5 =>
    .bnd fun x6 h7 =>
    .grd fun h8 =>
    .ret ((okC_sound hmix (tape := [.reg [nt], .br true, .reg [nt, nt, (.el (eI x3), true), nt, nt], .reg [nt, nt, nt, (.el (eI x6), true), nt, nt, nt, nt, nt], .reg [nt, nt, nt, nt, nt, nt, nt, (.bd, true), nt], .reg [nt, nt], .rst [0] [.as [Ob.mk 1 ((row0.set (v_u_lo + v_t10.toNat) ((w64 ((w64 (x6 + x3)) + v_carry)).tmod (1000000000 : Int))).map eI) .live]] [(0, ii), (1, ii), (4, ii), (8, ii), (9, ii), (10, ii)]]) (nr := 1) (by kernel_rfl) (.c h1 (.c ((h2).1) (.c (lt_mapI (h2).2 : v_t10 < ((v_v.map eI).length : Nat)) (.c (map_get h4 : (v_v.map eI)[v_t10.toNat]? = some (eI x3)) (.c ((h5).1) (.c ((h5).2) (.c (map_get h7 : (row0.map eI)[(v_u_lo + v_t10.toNat)]? = some (eI x6)) (.c (by decide : (1000000000 : Int) ≠ 0) (.c (by decide : (1000000000 : Int) ≠ 0) (.c ((h5).1) (.c ((h5).2) (.c (lt_map h8 : (v_u_lo + v_t10.toNat) < (row0.map eI).length) (.c (rfl : 1 = 1) (.c (row_prf (set_prf (show (row0.map eI) = (row0.map eI) from rfl) (v_u_lo + v_t10.toNat) ((w64 ((w64 (x6 + x3)) + v_carry)).tmod (1000000000 : Int))) : [Ob.mk 1 ((row0.map eI).set (v_u_lo + v_t10.toNat) [.n .i64 ((w64 ((w64 (x6 + x3)) + v_carry)).tmod (1000000000 : Int))]) .live] = [Ob.mk 1 ((row0.set (v_u_lo + v_t10.toNat) ((w64 ((w64 (x6 + x3)) + v_carry)).tmod (1000000000 : Int))).map eI) .live]) (.c (pure_row eI_pure (row0.set (v_u_lo + v_t10.toNat) ((w64 ((w64 (x6 + x3)) + v_carry)).tmod (1000000000 : Int))) : PureRow [Ob.mk 1 ((row0.set (v_u_lo + v_t10.toNat) ((w64 ((w64 (x6 + x3)) + v_carry)).tmod (1000000000 : Int))).map eI) .live]) .nil))))))))))))))) (mkS_free _ _) : impl_give_o_L1_V .normal (impl_give_o_L1_head v_u_lo v_u_len v_v v_t9 v_carry v_t10 row0) (impl_give_o_L1_head v_u_lo v_u_len v_v v_t9 (w64 ((w64 ((w64 (x6 + x3)) + v_carry)).tdiv (1000000000 : Int))) (w64 (v_t10 + (1 : Int))) (row0.set (v_u_lo + v_t10.toNat) ((w64 ((w64 (x6 + x3)) + v_carry)).tmod (1000000000 : Int)))))))
    (fun h1 =>
    .ret ((okC_sound hmix (tape := [.reg [nt], .br false, .rst [0] [.pure] [(0, ii), (1, ii), (4, ii)]]) (nr := 1) (by kernel_rfl) (.c h1 (.c (pure_row eI_pure row0 : PureRow [Ob.mk 1 (row0.map eI) .live]) .nil)) (mkS_free _ _) : impl_give_o_L1_V (.exit 0) (impl_give_o_L1_head v_u_lo v_u_len v_v v_t9 v_carry v_t10 row0) (impl_give_o_L1_out v_u_lo v_u_len v_v v_t9 (v_carry, row0)))))

theorem impl_give_o_L1_ok (v_u_lo : Nat) (v_u_len : Nat) (v_v : (List Int)) (v_t9 : Int) (v_carry : Int) (v_t10 : Int) (row0 : (List Int)) : ∀ r, impl_give_o_L1 v_u_lo v_u_len v_v v_t9 v_carry v_t10 row0 = some r → VLoop PP 39 1 (nodeAt (bodyOf PP 120) [1, 0, 1, 0, 0]) (impl_give_o_L1_ex r) (impl_give_o_L1_head v_u_lo v_u_len v_v v_t9 v_carry v_t10 row0) (impl_give_o_L1_out v_u_lo v_u_len v_v v_t9 r) := fun r h =>
  iter_ok (head := fun w : Int × Int × (List Int) => impl_give_o_L1_head v_u_lo v_u_len v_v v_t9 w.1 w.2.1 w.2.2) (ex := impl_give_o_L1_ex) (out := impl_give_o_L1_out v_u_lo v_u_len v_v v_t9) (by intro r; unfold impl_give_o_L1_ex; split <;> simp) (fun w => impl_give_o_L1_body_ok v_u_lo v_u_len v_v v_t9 w.1 w.2.1 w.2.2) (v_carry, v_t10, row0) r h

def impl_give_o (v_v : (List Int)) (v_u_lo : Nat) (v_u_len : Nat) (rw0 : (List Int)) : Option (List Int) :=
  impl_give_o_L1 v_u_lo v_u_len v_v (len_ eI v_v) 0 0 rw0 >>= fun r1 =>
  if 0 ≤ (len_ eI v_v) ∧ (len_ eI v_v) < (v_u_len : Nat) then
  r1.2[(v_u_lo + (len_ eI v_v).toNat)]? >>= fun x4 =>
  if (v_u_lo + (len_ eI v_v).toNat) < r1.2.length then
  some (r1.2.set (v_u_lo + (len_ eI v_v).toNat) (w64 (x4 + r1.1)))
  else none
  else none

theorem impl_give_o_ok (v_v : (List Int)) (v_u_lo : Nat) (v_u_len : Nat) (rw0 : (List Int)) : Wp (impl_give_o v_v v_u_lo v_u_len rw0) (fun a => Con PP 120 [.osl 0 0 v_u_lo v_u_len, .isl 1 (v_v.map eI)] [[Ob.mk 1 (rw0.map eI) .live]] (.tup []) [[Ob.mk 1 (a.map eI) .live]]) := by
  unfold impl_give_o
  exact .bnd fun r1 h2 =>
    .grd fun h3 =>
    .bnd fun x4 h5 =>
    .grd fun h6 =>
    .ret (runF_con hmix (tape := [.reg [nt], .reg [nt, nt, nt], .rst [0] [.pure] [(0, ii), (1, ii), (4, ii), (8, ii), (9, ii), (10, ii)], .sub (.exit 0) [(0, .osl 0 0 v_u_lo v_u_len), (1, .isl 1 (v_v.map eI)), (4, .n .i64 r1.1)] [[Ob.mk 1 (r1.2.map eI) .live]], .reg [nt, nt, nt, nt, (.el (eI x4), true), nt, nt, nt, (.bd, true)]]) (mv := [0]) (rc := [.as [Ob.mk 1 ((r1.2.set (v_u_lo + (len_ eI v_v).toNat) (w64 (x4 + r1.1))).map eI) .live]]) (rr := ii) (by kernel_rfl) (.c (pure_row eI_pure rw0 : PureRow [Ob.mk 1 (rw0.map eI) .live]) (.c ((impl_give_o_L1_ok v_u_lo v_u_len v_v (len_ eI v_v) 0 0 rw0 r1 h2).vex) (.c ((h3).1) (.c ((h3).2) (.c (map_get h5 : (r1.2.map eI)[(v_u_lo + (len_ eI v_v).toNat)]? = some (eI x4)) (.c ((h3).1) (.c ((h3).2) (.c (lt_map h6 : (v_u_lo + (len_ eI v_v).toNat) < (r1.2.map eI).length) (.c (rfl : 1 = 1) (.c (row_prf (set_prf (show (r1.2.map eI) = (r1.2.map eI) from rfl) (v_u_lo + (len_ eI v_v).toNat) (w64 (x4 + r1.1))) : [Ob.mk 1 ((r1.2.map eI).set (v_u_lo + (len_ eI v_v).toNat) [.n .i64 (w64 (x4 + r1.1))]) .live] = [Ob.mk 1 ((r1.2.set (v_u_lo + (len_ eI v_v).toNat) (w64 (x4 + r1.1))).map eI) .live]) (.c (pure_row eI_pure (r1.2.set (v_u_lo + (len_ eI v_v).toNat) (w64 (x4 + r1.1))) : PureRow [Ob.mk 1 ((r1.2.set (v_u_lo + (len_ eI v_v).toNat) (w64 (x4 + r1.1))).map eI) .live]) .nil))))))))))))

def impl_over_L1_head (v_a : (List Int)) (v_v_len : Nat) (row0 : (List Int)) (row2 : (List Int)) (row1 : (List Int)) : S := mkS [(0, .isl 1 (v_a.map eI)), (8, .osl 0 0 0 row0.length), (9, .osl 1 0 0 row1.length), (10, .osl 2 0 0 v_v_len)] [[Ob.mk 1 (row0.map eI) .live], [Ob.mk 1 (row1.map eI) .live], [Ob.mk 1 (row2.map eI) .live]]

def impl_over_L1_ex : (List Int) → Exit
  | _ => .exit 0

def impl_over_L1_out (v_a : (List Int)) (v_v_len : Nat) (row0 : (List Int)) (row2 : (List Int)) : (List Int) → S
  | a => mkS [(8, .osl 0 0 0 row0.length), (9, .osl 1 0 0 a.length), (10, .osl 2 0 0 v_v_len)] [[Ob.mk 1 (row0.map eI) .live], [Ob.mk 1 (a.map eI) .live], [Ob.mk 1 (row2.map eI) .live]]

abbrev impl_over_L1_V := VEx PP 172 0 (nodeAt (bodyOf PP 114) [1, 1, 1, 1, 1, 0, 0, 0])

def impl_over_L1_body (v_a : (List Int)) (v_v_len : Nat) (row0 : (List Int)) (row2 : (List Int)) (row1 : (List Int)) : Option (((List Int)) ⊕ ((List Int))) :=
  if (decide (((row1.length : Nat) : Int) ≤ (len_ eI v_a))) = true then
    if (row1 ++ ([0] : List Int)).length * 8 ≤ 140737488355328 then
    some (.inl (row1 ++ ([0] : List Int)))
    else none
  else
    some (.inr row1)

def impl_over_L1 (v_a : (List Int)) (v_v_len : Nat) (row0 : (List Int)) (row2 : (List Int)) (row1 : (List Int)) : Option ((List Int)) := iter (fun w : (List Int) => impl_over_L1_body v_a v_v_len row0 row2 w) row1

theorem impl_over_L1_body_ok (v_a : (List Int)) (v_v_len : Nat) (row0 : (List Int)) (row2 : (List Int)) (row1 : (List Int)) : Wp (impl_over_L1_body v_a v_v_len row0 row2 row1) (Sum.elim
    (fun w => impl_over_L1_V .normal (impl_over_L1_head v_a v_v_len row0 row2 row1) (impl_over_L1_head v_a v_v_len row0 row2 w))
    (fun r => impl_over_L1_V (impl_over_L1_ex r) (impl_over_L1_head v_a v_v_len row0 row2 row1) (impl_over_L1_out v_a v_v_len row0 row2 r))) := by
  unfold impl_over_L1_body
  exact (let t1 : List TE := [.reg [nt, nt, nt, nt, nt]];
    .ite (fun h1 =>
    .grd fun h2 =>
    .ret ((okC_sound hmix (tape := t1 ++ ([.br true, .reg [nt, nt, (.app ((row1 ++ ([0] : List Int)).length), true), nt], .rst [0, 10, 2] [.pure, .as [Ob.mk 1 ((row1 ++ ([0] : List Int)).map eI) .live], .pure] [(0, ii), (8, ii), (9, ii), (10, ii)]] : List TE)) (nr := 3) (by kernel_rfl) (.c h1 (.c (fit_full (show [[.n .i64 (0 : Int)]] = (([0] : List Int)).map eI from rfl) (show 1 = ([0] : List Int).length from rfl)) (.c (le_full (show (row1.map eI) = (row1.map eI) from rfl) (show row1.length = row1.length from rfl)) (.c (len_app (show row1.length = row1.length from rfl) (tk_prf (show [[.n .i64 (0 : Int)]] = (([0] : List Int)).map eI from rfl) (show 1 = ([0] : List Int).length from rfl)) : (row1 ++ ([0] : List Int)).length = row1.length + (([[.n .i64 (0 : Int)]].drop 0).take 1).length) (.c h2 (.c (pure_row eI_pure row0 : PureRow [Ob.mk 1 (row0.map eI) .live]) (.c (row_prf (app_full (show (row1.map eI) = (row1.map eI) from rfl) (show row1.length = row1.length from rfl) (tk_prf (show [[.n .i64 (0 : Int)]] = (([0] : List Int)).map eI from rfl) (show 1 = ([0] : List Int).length from rfl))) : [Ob.mk 1 ((row1.map eI).take row1.length ++ (([[.n .i64 (0 : Int)]].drop 0).take 1)) .live] = [Ob.mk 1 ((row1 ++ ([0] : List Int)).map eI) .live]) (.c (pure_row eI_pure (row1 ++ ([0] : List Int)) : PureRow [Ob.mk 1 ((row1 ++ ([0] : List Int)).map eI) .live]) (.c (pure_row eI_pure row2 : PureRow [Ob.mk 1 (row2.map eI) .live]) .nil))))))))) (mkS_free _ _) : impl_over_L1_V .normal (impl_over_L1_head v_a v_v_len row0 row2 row1) (impl_over_L1_head v_a v_v_len row0 row2 (row1 ++ ([0] : List Int))))))
    (fun h1 =>
    .ret ((okC_sound hmix (tape := t1 ++ ([.br false, .rst [0, 1, 2] [.pure, .pure, .pure] [(8, ii), (9, ii), (10, ii)]] : List TE)) (nr := 3) (by kernel_rfl) (.c h1 (.c (pure_row eI_pure row0 : PureRow [Ob.mk 1 (row0.map eI) .live]) (.c (pure_row eI_pure row1 : PureRow [Ob.mk 1 (row1.map eI) .live]) (.c (pure_row eI_pure row2 : PureRow [Ob.mk 1 (row2.map eI) .live]) .nil)))) (mkS_free _ _) : impl_over_L1_V (.exit 0) (impl_over_L1_head v_a v_v_len row0 row2 row1) (impl_over_L1_out v_a v_v_len row0 row2 row1)))))

theorem impl_over_L1_ok (v_a : (List Int)) (v_v_len : Nat) (row0 : (List Int)) (row2 : (List Int)) (row1 : (List Int)) : ∀ r, impl_over_L1 v_a v_v_len row0 row2 row1 = some r → VLoop PP 172 0 (nodeAt (bodyOf PP 114) [1, 1, 1, 1, 1, 0, 0, 0]) (impl_over_L1_ex r) (impl_over_L1_head v_a v_v_len row0 row2 row1) (impl_over_L1_out v_a v_v_len row0 row2 r) := fun r h =>
  iter_ok (head := fun w : (List Int) => impl_over_L1_head v_a v_v_len row0 row2 w) (ex := impl_over_L1_ex) (out := impl_over_L1_out v_a v_v_len row0 row2) (by intro r; unfold impl_over_L1_ex; split <;> simp) (fun w => impl_over_L1_body_ok v_a v_v_len row0 row2 w) row1 r h

def impl_over_L2_head (v_u_len : Nat) (v_v_len : Nat) (v_n : Int) (v_j : Int) (row0 : (List Int)) (row1 : (List Int)) (row2 : (List Int)) (row3 : (List Int)) (v_guess : Int) (v_rest : Int) : S := mkS [(8, .osl 0 0 0 row0.length), (9, .osl 1 0 0 v_u_len), (10, .osl 2 0 0 v_v_len), (11, .n .i64 v_n), (12, .osl 3 0 0 row3.length), (13, .n .i64 v_j), (15, .n .i64 v_guess), (16, .n .i64 v_rest)] [[Ob.mk 1 (row0.map eI) .live], [Ob.mk 1 (row1.map eI) .live], [Ob.mk 1 (row2.map eI) .frz], [Ob.mk 1 (row3.map eI) .live]]

def impl_over_L2_ex : Int → Exit
  | _ => .exit 4

def impl_over_L2_out (v_u_len : Nat) (v_v_len : Nat) (v_n : Int) (v_j : Int) (row0 : (List Int)) (row1 : (List Int)) (row2 : (List Int)) (row3 : (List Int)) : Int → S
  | a => mkS [(8, .osl 0 0 0 row0.length), (9, .osl 1 0 0 v_u_len), (10, .osl 2 0 0 v_v_len), (11, .n .i64 v_n), (12, .osl 3 0 0 row3.length), (13, .n .i64 v_j), (15, .n .i64 a)] [[Ob.mk 1 (row0.map eI) .live], [Ob.mk 1 (row1.map eI) .live], [Ob.mk 1 (row2.map eI) .frz], [Ob.mk 1 (row3.map eI) .live]]

abbrev impl_over_L2_V := VEx PP 172 0 (nodeAt (bodyOf PP 114) [1, 1, 1, 1, 1, 1, 1, 1, 0, 1, 0, 0, 1, 0, 0, 1, 1, 0, 0, 0])

def impl_over_L2_body (v_u_len : Nat) (v_v_len : Nat) (v_n : Int) (v_j : Int) (row0 : (List Int)) (row1 : (List Int)) (row2 : (List Int)) (row3 : (List Int)) (v_guess : Int) (v_rest : Int) : Option ((Int × Int) ⊕ (Int)) :=
  if (decide ((1000000000 : Int) ≤ v_guess)) = true then
    if 0 ≤ (w64 (v_n - (1 : Int))) ∧ (w64 (v_n - (1 : Int))) < (v_v_len : Nat) then
    row2[(0 + (w64 (v_n - (1 : Int))).toNat)]? >>= fun x3 =>
    if (decide ((1000000000 : Int) ≤ (w64 (v_rest + x3)))) = true then
      some (.inr (w64 (v_guess - (1 : Int))))
    else
      some (.inl (w64 (v_guess - (1 : Int)), w64 (v_rest + x3)))
    else none
  else
    if 0 ≤ (w64 (v_n - (2 : Int))) ∧ (w64 (v_n - (2 : Int))) < (v_v_len : Nat) then
    row2[(0 + (w64 (v_n - (2 : Int))).toNat)]? >>= fun x3 =>
    if 0 ≤ (w64 ((w64 (v_j + v_n)) - (2 : Int))) ∧ (w64 ((w64 (v_j + v_n)) - (2 : Int))) < (v_u_len : Nat) then
    row1[(0 + (w64 ((w64 (v_j + v_n)) - (2 : Int))).toNat)]? >>= fun x6 =>
    if (decide ((w64 ((w64 (v_rest * (1000000000 : Int))) + x6)) < (w64 (v_guess * x3)))) = true then
      if 0 ≤ (w64 (v_n - (1 : Int))) ∧ (w64 (v_n - (1 : Int))) < (v_v_len : Nat) then
      row2[(0 + (w64 (v_n - (1 : Int))).toNat)]? >>= fun x10 =>
      if (decide ((1000000000 : Int) ≤ (w64 (v_rest + x10)))) = true then
        some (.inr (w64 (v_guess - (1 : Int))))
      else
        some (.inl (w64 (v_guess - (1 : Int)), w64 (v_rest + x10)))
      else none
    else
      some (.inr v_guess)
    else none
    else none

def impl_over_L2 (v_u_len : Nat) (v_v_len : Nat) (v_n : Int) (v_j : Int) (row0 : (List Int)) (row1 : (List Int)) (row2 : (List Int)) (row3 : (List Int)) (v_guess : Int) (v_rest : Int) : Option (Int) := iter (fun w : Int × Int => impl_over_L2_body v_u_len v_v_len v_n v_j row0 row1 row2 row3 w.1 w.2) (v_guess, v_rest)

theorem impl_over_L2_body_ok (v_u_len : Nat) (v_v_len : Nat) (v_n : Int) (v_j : Int) (row0 : (List Int)) (row1 : (List Int)) (row2 : (List Int)) (row3 : (List Int)) (v_guess : Int) (v_rest : Int) : Wp (impl_over_L2_body v_u_len v_v_len v_n v_j row0 row1 row2 row3 v_guess v_rest) (Sum.elim
    (fun w => impl_over_L2_V .normal (impl_over_L2_head v_u_len v_v_len v_n v_j row0 row1 row2 row3 v_guess v_rest) (impl_over_L2_head v_u_len v_v_len v_n v_j row0 row1 row2 row3 w.1 w.2))
    (fun r => impl_over_L2_V (impl_over_L2_ex r) (impl_over_L2_head v_u_len v_v_len v_n v_j row0 row1 row2 row3 v_guess v_rest) (impl_over_L2_out v_u_len v_v_len v_n v_j row0 row1 row2 row3 r))) := by
  unfold impl_over_L2_body
  exact .ite (fun h1 =>
    .grd fun h2 =>
    .bnd fun x3 h4 =>
    (let t1 : List TE := [.reg [nt, nt, nt, nf, nf, nf, nf, nf, nf, nf, nf, nf, nf, nf, nf, nf, nf, nf, nf, nf, nf, (.br true, true)], .br true, .reg [nt, nt, nt], .reg [nt, nt, nt, nt, nt, (.el (eI x3), true), nt, nt], .reg [nt, nt]];
    have o2 := ((.c h1 (.c h1 (.c h1 (.c h1 (.c h1 (.c h1 (.c h1 (.c h1 (.c h1 (.c h1 (.c h1 (.c h1 (.c h1 (.c h1 (.c h1 (.c h1 (.c h1 (.c h1 (.c h1 (.c (rfl : true = true) (.c ((h2).1) (.c ((h2).2) (.c (map_get h4 : (row2.map eI)[(0 + (w64 (v_n - (1 : Int))).toNat)]? = some (eI x3)) .nil))))))))))))))))))))))) : AllP _);
    .ite (fun h5 =>
    .ret ((okC_sound hmix (tape := t1 ++ ([.br true, .rst [0, 1, 2, 3] [.pure, .pure, .pure, .pure] [(8, ii), (9, ii), (10, ii), (11, ii), (12, ii), (13, ii), (15, ii)]] : List TE)) (nr := 4) (by kernel_rfl) (o2.app (.c h5 (.c (pure_row eI_pure row0 : PureRow [Ob.mk 1 (row0.map eI) .live]) (.c (pure_row eI_pure row1 : PureRow [Ob.mk 1 (row1.map eI) .live]) (.c (pure_row eI_pure row2 : PureRow [Ob.mk 1 (row2.map eI) .frz]) (.c (pure_row eI_pure row3 : PureRow [Ob.mk 1 (row3.map eI) .live]) .nil)))))) (mkS_free _ _) : impl_over_L2_V (.exit 4) (impl_over_L2_head v_u_len v_v_len v_n v_j row0 row1 row2 row3 v_guess v_rest) (impl_over_L2_out v_u_len v_v_len v_n v_j row0 row1 row2 row3 (w64 (v_guess - (1 : Int)))))))
    (fun h5 =>
    .ret ((okC_sound hmix (tape := t1 ++ ([.br false, .rst [0, 1, 2, 3] [.pure, .pure, .pure, .pure] [(8, ii), (9, ii), (10, ii), (11, ii), (12, ii), (13, ii), (15, ii), (16, ii)]] : List TE)) (nr := 4) (by kernel_rfl) (o2.app (.c h5 (.c (pure_row eI_pure row0 : PureRow [Ob.mk 1 (row0.map eI) .live]) (.c (pure_row eI_pure row1 : PureRow [Ob.mk 1 (row1.map eI) .live]) (.c (pure_row eI_pure row2 : PureRow [Ob.mk 1 (row2.map eI) .frz]) (.c (pure_row eI_pure row3 : PureRow [Ob.mk 1 (row3.map eI) .live]) .nil)))))) (mkS_free _ _) : impl_over_L2_V .normal (impl_over_L2_head v_u_len v_v_len v_n v_j row0 row1 row2 row3 v_guess v_rest) (impl_over_L2_head v_u_len v_v_len v_n v_j row0 row1 row2 row3 (w64 (v_guess - (1 : Int))) (w64 (v_rest + x3))))))))
    (fun h1 =>
    .grd fun h2 =>
    .bnd fun x3 h4 =>
    .grd fun h5 =>
    .bnd fun x6 h7 =>
    (let t1 : List TE := [.reg [nt, nt, nt, nt, nt, nt, nt, nt, (.el (eI x3), true), nt, nt, nt, nt, nt, nt, nt, nt, nt, (.el (eI x6), true), nt, nt, (.br false, true)]];
    have o2 := ((.c h1 (.c h1 (.c h1 (.c h1 (.c h1 (.c ((h2).1) (.c ((h2).2) (.c h1 (.c (map_get h4 : (row2.map eI)[(0 + (w64 (v_n - (2 : Int))).toNat)]? = some (eI x3)) (.c h1 (.c h1 (.c h1 (.c h1 (.c h1 (.c h1 (.c h1 (.c h1 (.c h1 (.c ((h5).1) (.c ((h5).2) (.c h1 (.c (map_get h7 : (row1.map eI)[(0 + (w64 ((w64 (v_j + v_n)) - (2 : Int))).toNat)]? = some (eI x6)) (.c h1 (.c h1 (.c h1 .nil))))))))))))))))))))))))) : AllP _);
    .ite (fun h8 =>
    .grd fun h9 =>
    .bnd fun x10 h11 =>
    (let t3 : List TE := t1 ++ ([.br true, .reg [nt, nt, nt], .reg [nt, nt, nt, nt, nt, (.el (eI x10), true), nt, nt], .reg [nt, nt]] : List TE);
    have o4 := o2.app (.c h8 (.c ((h9).1) (.c ((h9).2) (.c (map_get h11 : (row2.map eI)[(0 + (w64 (v_n - (1 : Int))).toNat)]? = some (eI x10)) .nil))));
    .ite (fun h12 =>
    .ret ((okC_sound hmix (tape := t3 ++ ([.br true, .rst [0, 1, 2, 3] [.pure, .pure, .pure, .pure] [(8, ii), (9, ii), (10, ii), (11, ii), (12, ii), (13, ii), (15, ii)]] : List TE)) (nr := 4) (by kernel_rfl) (o4.app (.c h12 (.c (pure_row eI_pure row0 : PureRow [Ob.mk 1 (row0.map eI) .live]) (.c (pure_row eI_pure row1 : PureRow [Ob.mk 1 (row1.map eI) .live]) (.c (pure_row eI_pure row2 : PureRow [Ob.mk 1 (row2.map eI) .frz]) (.c (pure_row eI_pure row3 : PureRow [Ob.mk 1 (row3.map eI) .live]) .nil)))))) (mkS_free _ _) : impl_over_L2_V (.exit 4) (impl_over_L2_head v_u_len v_v_len v_n v_j row0 row1 row2 row3 v_guess v_rest) (impl_over_L2_out v_u_len v_v_len v_n v_j row0 row1 row2 row3 (w64 (v_guess - (1 : Int)))))))
    (fun h12 =>
    .ret ((okC_sound hmix (tape := t3 ++ ([.br false, .rst [0, 1, 2, 3] [.pure, .pure, .pure, .pure] [(8, ii), (9, ii), (10, ii), (11, ii), (12, ii), (13, ii), (15, ii), (16, ii)]] : List TE)) (nr := 4) (by kernel_rfl) (o4.app (.c h12 (.c (pure_row eI_pure row0 : PureRow [Ob.mk 1 (row0.map eI) .live]) (.c (pure_row eI_pure row1 : PureRow [Ob.mk 1 (row1.map eI) .live]) (.c (pure_row eI_pure row2 : PureRow [Ob.mk 1 (row2.map eI) .frz]) (.c (pure_row eI_pure row3 : PureRow [Ob.mk 1 (row3.map eI) .live]) .nil)))))) (mkS_free _ _) : impl_over_L2_V .normal (impl_over_L2_head v_u_len v_v_len v_n v_j row0 row1 row2 row3 v_guess v_rest) (impl_over_L2_head v_u_len v_v_len v_n v_j row0 row1 row2 row3 (w64 (v_guess - (1 : Int))) (w64 (v_rest + x10))))))))
    (fun h8 =>
    .ret ((okC_sound hmix (tape := t1 ++ ([.br false, .rst [0, 1, 2, 3] [.pure, .pure, .pure, .pure] [(8, ii), (9, ii), (10, ii), (11, ii), (12, ii), (13, ii), (15, ii)]] : List TE)) (nr := 4) (by kernel_rfl) (o2.app (.c h8 (.c (pure_row eI_pure row0 : PureRow [Ob.mk 1 (row0.map eI) .live]) (.c (pure_row eI_pure row1 : PureRow [Ob.mk 1 (row1.map eI) .live]) (.c (pure_row eI_pure row2 : PureRow [Ob.mk 1 (row2.map eI) .frz]) (.c (pure_row eI_pure row3 : PureRow [Ob.mk 1 (row3.map eI) .live]) .nil)))))) (mkS_free _ _) : impl_over_L2_V (.exit 4) (impl_over_L2_head v_u_len v_v_len v_n v_j row0 row1 row2 row3 v_guess v_rest) (impl_over_L2_out v_u_len v_v_len v_n v_j row0 row1 row2 row3 v_guess))))))

theorem impl_over_L2_ok (v_u_len : Nat) (v_v_len : Nat) (v_n : Int) (v_j : Int) (row0 : (List Int)) (row1 : (List Int)) (row2 : (List Int)) (row3 : (List Int)) (v_guess : Int) (v_rest : Int) : ∀ r, impl_over_L2 v_u_len v_v_len v_n v_j row0 row1 row2 row3 v_guess v_rest = some r → VLoop PP 172 0 (nodeAt (bodyOf PP 114) [1, 1, 1, 1, 1, 1, 1, 1, 0, 1, 0, 0, 1, 0, 0, 1, 1, 0, 0, 0]) (impl_over_L2_ex r) (impl_over_L2_head v_u_len v_v_len v_n v_j row0 row1 row2 row3 v_guess v_rest) (impl_over_L2_out v_u_len v_v_len v_n v_j row0 row1 row2 row3 r) := fun r h =>
  iter_ok (head := fun w : Int × Int => impl_over_L2_head v_u_len v_v_len v_n v_j row0 row1 row2 row3 w.1 w.2) (ex := impl_over_L2_ex) (out := impl_over_L2_out v_u_len v_v_len v_n v_j row0 row1 row2 row3) (by intro r; unfold impl_over_L2_ex; split <;> simp) (fun w => impl_over_L2_body_ok v_u_len v_v_len v_n v_j row0 row1 row2 row3 w.1 w.2) (v_guess, v_rest) r h

def impl_over_L3_head (v_u_len : Nat) (v_v_len : Nat) (v_n : Int) (row0 : (List Int)) (row2 : (List Int)) (v_j : Int) (row1 : (List Int)) (row3 : (List Int)) : S := mkS [(8, .osl 0 0 0 row0.length), (9, .osl 1 0 0 v_u_len), (10, .osl 2 0 0 v_v_len), (11, .n .i64 v_n), (12, .osl 3 0 0 row3.length), (13, .n .i64 v_j)] [[Ob.mk 1 (row0.map eI) .live], [Ob.mk 1 (row1.map eI) .live], [Ob.mk 1 (row2.map eI) .frz], [Ob.mk 1 (row3.map eI) .live]]

def impl_over_L3_ex : ((List Int) × (List Int)) → Exit
  | _ => .exit 2

def impl_over_L3_out (v_u_len : Nat) (v_v_len : Nat) (v_n : Int) (row0 : (List Int)) (row2 : (List Int)) : ((List Int) × (List Int)) → S
  | a => mkS [(8, .osl 0 0 0 row0.length), (9, .osl 1 0 0 v_u_len), (12, .osl 2 0 0 a.2.length)] [[Ob.mk 1 (row0.map eI) .live], [Ob.mk 1 (a.1.map eI) .live], [Ob.mk 1 (a.2.map eI) .live]]

abbrev impl_over_L3_V := VEx PP 172 0 (nodeAt (bodyOf PP 114) [1, 1, 1, 1, 1, 1, 1, 1, 0, 1, 0, 0])

def impl_over_L3_body (v_u_len : Nat) (v_v_len : Nat) (v_n : Int) (row0 : (List Int)) (row2 : (List Int)) (v_j : Int) (row1 : (List Int)) (row3 : (List Int)) : Option ((Int × (List Int) × (List Int)) ⊕ ((List Int) × (List Int))) :=
  if (decide ((0 : Int) ≤ v_j)) = true then
    if 0 ≤ (w64 (v_j + v_n)) ∧ (w64 (v_j + v_n)) < (v_u_len : Nat) then
    row1[(0 + (w64 (v_j + v_n)).toNat)]? >>= fun x3 =>
    if 0 ≤ (w64 ((w64 (v_j + v_n)) - (1 : Int))) ∧ (w64 ((w64 (v_j + v_n)) - (1 : Int))) < (v_u_len : Nat) then
    row1[(0 + (w64 ((w64 (v_j + v_n)) - (1 : Int))).toNat)]? >>= fun x6 =>
    if 0 ≤ (w64 (v_n - (1 : Int))) ∧ (w64 (v_n - (1 : Int))) < (v_v_len : Nat) then
    row2[(0 + (w64 (v_n - (1 : Int))).toNat)]? >>= fun x9 =>
    if x9 ≠ 0 then
    impl_over_L2 v_u_len v_v_len v_n v_j row0 row1 row2 row3 (w64 ((w64 ((w64 (x3 * (1000000000 : Int))) + x6)).tdiv x9)) ((w64 ((w64 (x3 * (1000000000 : Int))) + x6)).tmod x9) >>= fun r12 =>
    if 0 ≤ v_j then
    if v_j.toNat ≤ v_u_len then
    if 0 + v_v_len ≤ row2.length then
    impl_take_o ((row2.drop 0).take v_v_len) r12 (0 + v_j.toNat) (v_u_len - v_j.toNat) row1 >>= fun r17 =>
    if r17.1 = true then
      impl_give_o ((row2.drop 0).take v_v_len) (0 + v_j.toNat) (v_u_len - v_j.toNat) r17.2 >>= fun r20 =>
      if 0 ≤ v_j ∧ v_j < (row3.length : Nat) then
      if (0 + v_j.toNat) < row3.length then
      some (.inl (w64 (v_j - (1 : Int)), r20, row3.set (0 + v_j.toNat) (w64 (r12 - (1 : Int)))))
      else none
      else none
    else
      if 0 ≤ v_j ∧ v_j < (row3.length : Nat) then
      if (0 + v_j.toNat) < row3.length then
      some (.inl (w64 (v_j - (1 : Int)), r17.2, row3.set (0 + v_j.toNat) r12))
      else none
      else none
    else none
    else none
    else none
    else none
    else none
    else none
    else none
  else
    some (.inr (row1, row3))

def impl_over_L3 (v_u_len : Nat) (v_v_len : Nat) (v_n : Int) (row0 : (List Int)) (row2 : (List Int)) (v_j : Int) (row1 : (List Int)) (row3 : (List Int)) : Option ((List Int) × (List Int)) := iter (fun w : Int × (List Int) × (List Int) => impl_over_L3_body v_u_len v_v_len v_n row0 row2 w.1 w.2.1 w.2.2) (v_j, row1, row3)

theorem impl_over_L3_body_ok (v_u_len : Nat) (v_v_len : Nat) (v_n : Int) (row0 : (List Int)) (row2 : (List Int)) (v_j : Int) (row1 : (List Int)) (row3 : (List Int)) : Wp (impl_over_L3_body v_u_len v_v_len v_n row0 row2 v_j row1 row3) (Sum.elim
    (fun w => impl_over_L3_V .normal (impl_over_L3_head v_u_len v_v_len v_n row0 row2 v_j row1 row3) (impl_over_L3_head v_u_len v_v_len v_n row0 row2 w.1 w.2.1 w.2.2))
    (fun r => impl_over_L3_V (impl_over_L3_ex r) (impl_over_L3_head v_u_len v_v_len v_n row0 row2 v_j row1 row3) (impl_over_L3_out v_u_len v_v_len v_n row0 row2 r))) := by
  unfold impl_over_L3_body
  exact (let t1 : List TE := [.reg [nt, nt]];
    .ite (fun h1 =>
    .grd fun h2 =>
    .bnd fun x3 h4 =>
    .grd fun h5 =>
    .bnd fun x6 h7 =>
    .grd fun h8 =>
    .bnd fun x9 h10 =>
    .grd fun h11 =>
    .bnd fun r12 h13 =>
    .grd fun h14 =>
    .grd fun h15 =>
    .grd fun h16 =>
    .bnd fun r17 h18 =>
    (let t2 : List TE := t1 ++ ([.br true, .reg [nt, nt, nt, nt, nt, (.el (eI x3), true), nt, nt, nt, nt, nt, nt, nt, (.el (eI x6), true), nt, nt], .reg [nt, nt, nt, nt, nt, (.el (eI x9), true), nt, nt, nt, nt, nt, nt, (.el (eI x9), true), nt, nt, nt], .rst [0, 1, 2, 3] [.pure, .pure, .pure, .pure] [(8, ii), (9, ii), (10, ii), (11, ii), (12, ii), (13, ii), (15, ii), (16, ii)], .sub (.exit 4) [(8, .osl 0 0 0 row0.length), (9, .osl 1 0 0 v_u_len), (10, .osl 2 0 0 v_v_len), (11, .n .i64 v_n), (12, .osl 3 0 0 row3.length), (13, .n .i64 v_j), (15, .n .i64 r12)] [[Ob.mk 1 (row0.map eI) .live], [Ob.mk 1 (row1.map eI) .live], [Ob.mk 1 (row2.map eI) .frz], [Ob.mk 1 (row3.map eI) .live]], .reg [nt, nt, nt, nt, nt, (.call { mv := [.row 1], rc := [.pure], ac := [ii, .c1 (.c0 (.sl (((row2.drop 0).take v_v_len).map eI))), ii], r := .b r17.1, T1 := [[Ob.mk 1 (r17.2.map eI) .live]], rr := ii, rrc := [.pure], rds := [1, 2], sc := false }, true)]] : List TE);
    have o3 := ((.c h1 (.c ((h2).1) (.c ((h2).2) (.c (map_get h4 : (row1.map eI)[(0 + (w64 (v_j + v_n)).toNat)]? = some (eI x3)) (.c ((h5).1) (.c ((h5).2) (.c (map_get h7 : (row1.map eI)[(0 + (w64 ((w64 (v_j + v_n)) - (1 : Int))).toNat)]? = some (eI x6)) (.c ((h8).1) (.c ((h8).2) (.c (map_get h10 : (row2.map eI)[(0 + (w64 (v_n - (1 : Int))).toNat)]? = some (eI x9)) (.c h11 (.c ((h8).1) (.c ((h8).2) (.c (map_get h10 : (row2.map eI)[(0 + (w64 (v_n - (1 : Int))).toNat)]? = some (eI x9)) (.c h11 (.c (pure_row eI_pure row0 : PureRow [Ob.mk 1 (row0.map eI) .live]) (.c (pure_row eI_pure row1 : PureRow [Ob.mk 1 (row1.map eI) .live]) (.c (pure_row eI_pure row2 : PureRow [Ob.mk 1 (row2.map eI) .frz]) (.c (pure_row eI_pure row3 : PureRow [Ob.mk 1 (row3.map eI) .live]) (.c ((impl_over_L2_ok v_u_len v_v_len v_n v_j row0 row1 row2 row3 (w64 ((w64 ((w64 (x3 * (1000000000 : Int))) + x6)).tdiv x9)) ((w64 ((w64 (x3 * (1000000000 : Int))) + x6)).tmod x9) r12 h13).vex) (.c h14 (.c h15 (.c (Nat.le_refl v_u_len) (.c (snap_prf (show (row2.map eI) = (row2.map eI) from rfl) 0 v_v_len) (.c (fit_prf (show (row2.map eI) = (row2.map eI) from rfl) h16) (.c (pure_map eI_pure ((row2.drop 0).take v_v_len)) (.c (pure_live eI_pure row1 : PureLive [Ob.mk 1 (row1.map eI) .live]) (.c (pure_live eI_pure r17.2 : PureLive [Ob.mk 1 (r17.2.map eI) .live]) (.c (impl_take_o_ok ((row2.drop 0).take v_v_len) r12 (0 + v_j.toNat) (v_u_len - v_j.toNat) row1 r17 h18) .nil))))))))))))))))))))))))))))) : AllP _);
    .ite (fun h19 =>
    .bnd fun r20 h21 =>
    .grd fun h22 =>
    .grd fun h23 =>
    .ret ((okC_sound hmix (tape := t2 ++ ([.br true, .reg [nt, nt, nt], .reg [nt, nt, nt, nt, (.call { mv := [.row 1], rc := [.pure], ac := [ii, .c1 (.c0 (.sl (((row2.drop 0).take v_v_len).map eI)))], r := .tup [], T1 := [[Ob.mk 1 (r20.map eI) .live]], rr := ii, rrc := [.pure], rds := [1, 2], sc := false }, true)], .reg [nt, nt, nt, nt, (.bd, true)], .reg [nt, nt, nt], .rst [0, 1, 2, 3] [.pure, .pure, .pure, .as [Ob.mk 1 ((row3.set (0 + v_j.toNat) (w64 (r12 - (1 : Int)))).map eI) .live]] [(8, ii), (9, ii), (10, ii), (11, ii), (12, .c1 (.c0 (.len ((row3.set (0 + v_j.toNat) (w64 (r12 - (1 : Int)))).length)))), (13, ii)]] : List TE)) (nr := 4) (by kernel_rfl) (o3.app (.c h19 (.c h14 (.c h15 (.c (Nat.le_refl v_u_len) (.c (snap_prf (show (row2.map eI) = (row2.map eI) from rfl) 0 v_v_len) (.c (fit_prf (show (row2.map eI) = (row2.map eI) from rfl) h16) (.c (pure_map eI_pure ((row2.drop 0).take v_v_len)) (.c (pure_live eI_pure r17.2 : PureLive [Ob.mk 1 (r17.2.map eI) .live]) (.c (pure_live eI_pure r20 : PureLive [Ob.mk 1 (r20.map eI) .live]) (.c (impl_give_o_ok ((row2.drop 0).take v_v_len) (0 + v_j.toNat) (v_u_len - v_j.toNat) r17.2 r20 h21) (.c ((h22).1) (.c ((h22).2) (.c (lt_map h23 : (0 + v_j.toNat) < (row3.map eI).length) (.c (rfl : 1 = 1) (.c (pure_row eI_pure row0 : PureRow [Ob.mk 1 (row0.map eI) .live]) (.c (pure_row eI_pure r20 : PureRow [Ob.mk 1 (r20.map eI) .live]) (.c (pure_row eI_pure row2 : PureRow [Ob.mk 1 (row2.map eI) .frz]) (.c (row_prf (set_prf (show (row3.map eI) = (row3.map eI) from rfl) (0 + v_j.toNat) (w64 (r12 - (1 : Int)))) : [Ob.mk 1 ((row3.map eI).set (0 + v_j.toNat) [.n .i64 (w64 (r12 - (1 : Int)))]) .live] = [Ob.mk 1 ((row3.set (0 + v_j.toNat) (w64 (r12 - (1 : Int)))).map eI) .live]) (.c (pure_row eI_pure (row3.set (0 + v_j.toNat) (w64 (r12 - (1 : Int)))) : PureRow [Ob.mk 1 ((row3.set (0 + v_j.toNat) (w64 (r12 - (1 : Int)))).map eI) .live]) (.c (len_set (show row3.length = row3.length from rfl) (0 + v_j.toNat) (w64 (r12 - (1 : Int)))) .nil))))))))))))))))))))) (mkS_free _ _) : impl_over_L3_V .normal (impl_over_L3_head v_u_len v_v_len v_n row0 row2 v_j row1 row3) (impl_over_L3_head v_u_len v_v_len v_n row0 row2 (w64 (v_j - (1 : Int))) r20 (row3.set (0 + v_j.toNat) (w64 (r12 - (1 : Int))))))))
    (fun h19 =>
    .grd fun h20 =>
    .grd fun h21 =>
    .ret ((okC_sound hmix (tape := t2 ++ ([.br false, .reg [nt, nt, nt, nt, (.bd, true)], .reg [nt, nt, nt], .rst [0, 1, 2, 3] [.pure, .pure, .pure, .as [Ob.mk 1 ((row3.set (0 + v_j.toNat) r12).map eI) .live]] [(8, ii), (9, ii), (10, ii), (11, ii), (12, .c1 (.c0 (.len ((row3.set (0 + v_j.toNat) r12).length)))), (13, ii)]] : List TE)) (nr := 4) (by kernel_rfl) (o3.app (.c h19 (.c ((h20).1) (.c ((h20).2) (.c (lt_map h21 : (0 + v_j.toNat) < (row3.map eI).length) (.c (rfl : 1 = 1) (.c (pure_row eI_pure row0 : PureRow [Ob.mk 1 (row0.map eI) .live]) (.c (pure_row eI_pure r17.2 : PureRow [Ob.mk 1 (r17.2.map eI) .live]) (.c (pure_row eI_pure row2 : PureRow [Ob.mk 1 (row2.map eI) .frz]) (.c (row_prf (set_prf (show (row3.map eI) = (row3.map eI) from rfl) (0 + v_j.toNat) r12) : [Ob.mk 1 ((row3.map eI).set (0 + v_j.toNat) [.n .i64 r12]) .live] = [Ob.mk 1 ((row3.set (0 + v_j.toNat) r12).map eI) .live]) (.c (pure_row eI_pure (row3.set (0 + v_j.toNat) r12) : PureRow [Ob.mk 1 ((row3.set (0 + v_j.toNat) r12).map eI) .live]) (.c (len_set (show row3.length = row3.length from rfl) (0 + v_j.toNat) r12) .nil)))))))))))) (mkS_free _ _) : impl_over_L3_V .normal (impl_over_L3_head v_u_len v_v_len v_n row0 row2 v_j row1 row3) (impl_over_L3_head v_u_len v_v_len v_n row0 row2 (w64 (v_j - (1 : Int))) r17.2 (row3.set (0 + v_j.toNat) r12)))))))
    (fun h1 =>
    .ret ((okC_sound hmix (tape := t1 ++ ([.br false, .rst [0, 1, 3] [.pure, .pure, .pure] [(8, ii), (9, ii), (12, ii)]] : List TE)) (nr := 4) (by kernel_rfl) (.c h1 (.c (pure_row eI_pure row0 : PureRow [Ob.mk 1 (row0.map eI) .live]) (.c (pure_row eI_pure row1 : PureRow [Ob.mk 1 (row1.map eI) .live]) (.c (pure_row eI_pure row3 : PureRow [Ob.mk 1 (row3.map eI) .live]) .nil)))) (mkS_free _ _) : impl_over_L3_V (.exit 2) (impl_over_L3_head v_u_len v_v_len v_n row0 row2 v_j row1 row3) (impl_over_L3_out v_u_len v_v_len v_n row0 row2 (row1, row3))))))

theorem impl_over_L3_ok (v_u_len : Nat) (v_v_len : Nat) (v_n : Int) (row0 : (List Int)) (row2 : (List Int)) (v_j : Int) (row1 : (List Int)) (row3 : (List Int)) : ∀ r, impl_over_L3 v_u_len v_v_len v_n row0 row2 v_j row1 row3 = some r → VLoop PP 172 0 (nodeAt (bodyOf PP 114) [1, 1, 1, 1, 1, 1, 1, 1, 0, 1, 0, 0]) (impl_over_L3_ex r) (impl_over_L3_head v_u_len v_v_len v_n row0 row2 v_j row1 row3) (impl_over_L3_out v_u_len v_v_len v_n row0 row2 r) := fun r h =>
  iter_ok (head := fun w : Int × (List Int) × (List Int) => impl_over_L3_head v_u_len v_v_len v_n row0 row2 w.1 w.2.1 w.2.2) (ex := impl_over_L3_ex) (out := impl_over_L3_out v_u_len v_v_len v_n row0 row2) (by intro r; unfold impl_over_L3_ex; split <;> simp) (fun w => impl_over_L3_body_ok v_u_len v_v_len v_n row0 row2 w.1 w.2.1 w.2.2) (v_j, row1, row3) r h

def impl_over (v_a : (List Int)) (v_b : (List Int)) : Option ((List Int) × (List Int)) :=
  impl_compare v_a v_b >>= fun r1 =>
  if (decide (r1 < (0 : Int))) = true then
    s_Clone v_a >>= fun r4 =>
    some (([] : List Int), r4)
  else
    if ((len_ eI v_b) == (1 : Int)) = true then
      if 0 ≤ (0 : Int) ∧ (0 : Int) < v_b.length then
      v_b[0]? >>= fun x6 =>
      impl_overSmall v_a x6 >>= fun r8 =>
      impl_limbsOf (IntKind.wrap .u64 r8.2) >>= fun r10 =>
      some (r8.1, r10)
      else none
    else
      if 0 ≤ (w64 ((len_ eI v_b) - (1 : Int))) ∧ (w64 ((len_ eI v_b) - (1 : Int))) < v_b.length then
      v_b[(w64 ((len_ eI v_b) - (1 : Int))).toNat]? >>= fun x6 =>
      if (w64 (x6 + (1 : Int))) ≠ 0 then
      impl_times_o v_a ([w64 ((1000000000 : Int).tdiv (w64 (x6 + (1 : Int))))] : List Int) >>= fun r9 =>
      if r9.1 ≤ r9.2.length then
      if (r9.2.take r9.1 ++ ([0] : List Int)).length * 8 ≤ 140737488355328 then
      impl_times_o v_b ([w64 ((1000000000 : Int).tdiv (w64 (x6 + (1 : Int))))] : List Int) >>= fun r13 =>
      impl_over_L1 v_a r13.1 ([w64 ((1000000000 : Int).tdiv (w64 (x6 + (1 : Int))))] : List Int) r13.2 (r9.2.take r9.1 ++ ([0] : List Int)) >>= fun r15 =>
      if 0 ≤ (w64 (((r15.length : Nat) : Int) - ((r13.1 : Nat) : Int))) ∧ (8 : Int) * (w64 (((r15.length : Nat) : Int) - ((r13.1 : Nat) : Int))) ≤ 281474976710656 ∧ (w64 (((r15.length : Nat) : Int) - ((r13.1 : Nat) : Int))) < 9223372036854775808 then
      impl_over_L3 r15.length r13.1 ((r13.1 : Nat) : Int) ([w64 ((1000000000 : Int).tdiv (w64 (x6 + (1 : Int))))] : List Int) r13.2 (w64 ((w64 (((r15.length : Nat) : Int) - ((r13.1 : Nat) : Int))) - (1 : Int))) r15 (List.replicate (w64 (((r15.length : Nat) : Int) - ((r13.1 : Nat) : Int))).toNat 0 : List Int) >>= fun r18 =>
      if 0 + r15.length ≤ r18.1.length then
      impl_trim ((r18.1.drop 0).take r15.length) >>= fun r21 =>
      if 0 ≤ (0 : Int) ∧ (0 : Int) < (([w64 ((1000000000 : Int).tdiv (w64 (x6 + (1 : Int))))] : List Int).length : Nat) then
      ([w64 ((1000000000 : Int).tdiv (w64 (x6 + (1 : Int))))] : List Int)[0]? >>= fun x24 =>
      impl_overSmall r21 x24 >>= fun r26 =>
      impl_trim r18.2 >>= fun r28 =>
      some (r28, r26.1)
      else none
      else none
      else none
      else none
      else none
      else none
      else none

theorem impl_over_ok (v_a : (List Int)) (v_b : (List Int)) : Wp (impl_over v_a v_b) (fun r => Con PP 114 [.isl 1 (v_a.map eI), .isl 1 (v_b.map eI)] [] (.tup [.isl 1 (r.1.map eI), .isl 1 (r.2.map eI)]) []) := by
  unfold impl_over
  exact .bnd fun r1 h2 =>
    (let t1 : List TE := [.reg [nt, nt], .reg [nt, nt, (.call { ac := [ii, ii], r := .n .i64 r1, sc := true }, true), nt]];
    have o2 := ((.c (impl_compare_ok v_a v_b r1 h2) (.c (Sc.n _ _ : Sc (.n .i64 r1)) .nil)) : AllP _);
    .ite (fun h3 =>
    .bnd fun r4 h5 =>
    .ret (runF_con0 hmix (tape := t1 ++ ([.br true, .reg [nt, (.call { ac := [ii], r := .isl 1 (r4.map eI), sc := false }, true), nt, nt]] : List TE)) (rr := .comp [.c0 (.nl 1), .c0 .id]) (by kernel_rfl) (o2.app (.c h3 (.c (s_Clone_ok v_a r4 h5) .nil)))))
    (fun h3 =>
    (let t3 : List TE := t1 ++ ([.br false, .reg [nt, nt, nt]] : List TE);
    .ite (fun h4 =>
    .grd fun h5 =>
    .bnd fun x6 h7 =>
    .bnd fun r8 h9 =>
    .bnd fun r10 h11 =>
    .ret (runF_con0 hmix (tape := t3 ++ ([.br true, .reg [nt, nt, nt, (.el (eI x6), true), (.call { ac := [ii, ii], r := .tup [.isl 1 (r8.1.map eI), .n .i64 r8.2], sc := false }, true), nt, nt, nt, nt, nt], .reg [nt, nt, nt, (.call { ac := [ii], r := .isl 1 (r10.map eI), sc := false }, true), nt, nt]] : List TE)) (rr := ii) (by kernel_rfl) (o2.app (.c h3 (.c h4 (.c ((h5).1) (.c (lt_mapI (h5).2 : (0 : Int) < ((v_b.map eI).length : Nat)) (.c (map_get h7 : (v_b.map eI)[0]? = some (eI x6)) (.c (impl_overSmall_ok v_a x6 r8 h9) (.c (impl_limbsOf_ok (IntKind.wrap .u64 r8.2) r10 h11) .nil))))))))))
    (fun h4 =>
    .grd fun h5 =>
    .bnd fun x6 h7 =>
    .grd fun h8 =>
    .bnd fun r9 h10 =>
    .grd fun h11 =>
    .grd fun h12 =>
    .bnd fun r13 h14 =>
    .bnd fun r15 h16 =>
    .grd fun h17 =>
    .bnd fun r18 h19 =>
    .grd fun h20 =>
    .bnd fun r21 h22 =>
    .grd fun h23 =>
    .bnd fun x24 h25 =>
    .bnd fun r26 h27 =>
    .bnd fun r28 h29 =>
    .ret (runF_con0 hmix (tape := t3 ++ ([.br false, .reg [nt, nt, nt, nt, nt, (.el (eI x6), true), nt, nt, nt, nt], .reg [nt, nt, (.call { mv := [], rc := [], ac := [ii, .c1 (.c0 (.sl (([w64 ((1000000000 : Int).tdiv (w64 (x6 + (1 : Int))))] : List Int).map eI)))], r := .osl 0 0 0 r9.1, T1 := [[Ob.mk 1 (r9.2.map eI) .live]], rr := ii, rrc := [.pure], rds := [17], sc := true }, true), nt, (.app ((r9.2.take r9.1 ++ ([0] : List Int)).length), true), nt, nt, (.call { mv := [], rc := [], ac := [ii, .c1 (.c0 (.sl (([w64 ((1000000000 : Int).tdiv (w64 (x6 + (1 : Int))))] : List Int).map eI)))], r := .osl 0 0 0 r13.1, T1 := [[Ob.mk 1 (r13.2.map eI) .live]], rr := ii, rrc := [.pure], rds := [17], sc := true }, true), nt, nt], .rst [17, 23, 26] [.as [Ob.mk 1 (([w64 ((1000000000 : Int).tdiv (w64 (x6 + (1 : Int))))] : List Int).map eI) .live], .as [Ob.mk 1 ((r9.2.take r9.1 ++ ([0] : List Int)).map eI) .live], .pure] [(0, ii), (8, .c1 (.c0 (.len (([w64 ((1000000000 : Int).tdiv (w64 (x6 + (1 : Int))))] : List Int).length)))), (9, ii), (10, ii)], .sub (.exit 0) [(8, .osl 0 0 0 (([w64 ((1000000000 : Int).tdiv (w64 (x6 + (1 : Int))))] : List Int).length)), (9, .osl 1 0 0 r15.length), (10, .osl 2 0 0 r13.1)] [[Ob.mk 1 (([w64 ((1000000000 : Int).tdiv (w64 (x6 + (1 : Int))))] : List Int).map eI) .live], [Ob.mk 1 (r15.map eI) .live], [Ob.mk 1 (r13.2.map eI) .live]], .reg [nt, nt, nt], .reg [nt, nt, nt, nt, nt, nt], .reg [nt, nt, nt, nt, nt, nt], .rst [0, 1, 2, 10] [.pure, .pure, .pure, .as [Ob.mk 1 ((List.replicate (w64 (((r15.length : Nat) : Int) - ((r13.1 : Nat) : Int))).toNat 0 : List Int).map eI) .live]] [(8, ii), (9, ii), (10, ii), (11, ii), (12, .c1 (.c0 (.len ((List.replicate (w64 (((r15.length : Nat) : Int) - ((r13.1 : Nat) : Int))).toNat 0 : List Int).length)))), (13, ii)], .frz 2, .rst [0, 1, 2, 3] [.pure, .pure, .pure, .pure] [(8, ii), (9, ii), (10, ii), (11, ii), (12, ii), (13, ii)], .sub (.exit 2) [(8, .osl 0 0 0 (([w64 ((1000000000 : Int).tdiv (w64 (x6 + (1 : Int))))] : List Int).length)), (9, .osl 1 0 0 r15.length), (12, .osl 2 0 0 r18.2.length)] [[Ob.mk 1 (([w64 ((1000000000 : Int).tdiv (w64 (x6 + (1 : Int))))] : List Int).map eI) .live], [Ob.mk 1 (r18.1.map eI) .live], [Ob.mk 1 (r18.2.map eI) .live]], .frz 1, .reg [nt, (.call { ac := [.c1 (.c0 (.sl (((r18.1.drop 0).take r15.length).map eI)))], rds := [1], r := .isl 1 (r21.map eI), sc := false }, true), nt, nt, (.el (eI x24), true), (.call { ac := [ii, ii], r := .tup [.isl 1 (r26.1.map eI), .n .i64 r26.2], sc := false }, true), nt, nt, nt, nt, nt], .frz 2, .reg [nt, (.call { ac := [.c1 (.c0 (.sl (r18.2.map eI)))], rds := [2], r := .isl 1 (r28.map eI), sc := false }, true), nt, nt, nt]] : List TE)) (rr := ii) (by kernel_rfl) (o2.app (.c h3 (.c h4 (.c ((h5).1) (.c (lt_mapI (h5).2 : (w64 ((len_ eI v_b) - (1 : Int))) < ((v_b.map eI).length : Nat)) (.c (map_get h7 : (v_b.map eI)[(w64 ((len_ eI v_b) - (1 : Int))).toNat]? = some (eI x6)) (.c h8 (.c (snap_full (show [[.n .i64 (w64 ((1000000000 : Int).tdiv (w64 (x6 + (1 : Int)))))]] = (([w64 ((1000000000 : Int).tdiv (w64 (x6 + (1 : Int))))] : List Int)).map eI from rfl) (show 1 = ([w64 ((1000000000 : Int).tdiv (w64 (x6 + (1 : Int))))] : List Int).length from rfl)) (.c (fit_full (show [[.n .i64 (w64 ((1000000000 : Int).tdiv (w64 (x6 + (1 : Int)))))]] = (([w64 ((1000000000 : Int).tdiv (w64 (x6 + (1 : Int))))] : List Int)).map eI from rfl) (show 1 = ([w64 ((1000000000 : Int).tdiv (w64 (x6 + (1 : Int))))] : List Int).length from rfl)) (.c (pure_map eI_pure ([w64 ((1000000000 : Int).tdiv (w64 (x6 + (1 : Int))))] : List Int)) (.c (pure_live eI_pure r9.2 : PureLive [Ob.mk 1 (r9.2.map eI) .live]) (.c (impl_times_o_ok v_a ([w64 ((1000000000 : Int).tdiv (w64 (x6 + (1 : Int))))] : List Int) r9 h10) (.c (Sc.osl _ _ _ _ : Sc (.osl 0 0 0 r9.1)) (.c ((scT_cons (scR_cons (scO_es eI_sc) scR_nil) scT_nil) : ScT [[Ob.mk 1 (r9.2.map eI) .live]]) (.c (fit_full (show [[.n .i64 (0 : Int)]] = (([0] : List Int)).map eI from rfl) (show 1 = ([0] : List Int).length from rfl)) (.c (fit_prf (show (r9.2.map eI) = (r9.2.map eI) from rfl) h11) (.c (len_appp h11 (tk_prf (show [[.n .i64 (0 : Int)]] = (([0] : List Int)).map eI from rfl) (show 1 = ([0] : List Int).length from rfl)) : (r9.2.take r9.1 ++ ([0] : List Int)).length = r9.1 + (([[.n .i64 (0 : Int)]].drop 0).take 1).length) (.c h12 (.c (snap_full (show [[.n .i64 (w64 ((1000000000 : Int).tdiv (w64 (x6 + (1 : Int)))))]] = (([w64 ((1000000000 : Int).tdiv (w64 (x6 + (1 : Int))))] : List Int)).map eI from rfl) (show 1 = ([w64 ((1000000000 : Int).tdiv (w64 (x6 + (1 : Int))))] : List Int).length from rfl)) (.c (fit_full (show [[.n .i64 (w64 ((1000000000 : Int).tdiv (w64 (x6 + (1 : Int)))))]] = (([w64 ((1000000000 : Int).tdiv (w64 (x6 + (1 : Int))))] : List Int)).map eI from rfl) (show 1 = ([w64 ((1000000000 : Int).tdiv (w64 (x6 + (1 : Int))))] : List Int).length from rfl)) (.c (pure_map eI_pure ([w64 ((1000000000 : Int).tdiv (w64 (x6 + (1 : Int))))] : List Int)) (.c (pure_live eI_pure r13.2 : PureLive [Ob.mk 1 (r13.2.map eI) .live]) (.c (impl_times_o_ok v_b ([w64 ((1000000000 : Int).tdiv (w64 (x6 + (1 : Int))))] : List Int) r13 h14) (.c (Sc.osl _ _ _ _ : Sc (.osl 0 0 0 r13.1)) (.c ((scT_cons (scR_cons (scO_es eI_sc) scR_nil) scT_nil) : ScT [[Ob.mk 1 (r13.2.map eI) .live]]) (.c (row_prf (show [[.n .i64 (w64 ((1000000000 : Int).tdiv (w64 (x6 + (1 : Int)))))]] = (([w64 ((1000000000 : Int).tdiv (w64 (x6 + (1 : Int))))] : List Int)).map eI from rfl) : [Ob.mk 1 [[.n .i64 (w64 ((1000000000 : Int).tdiv (w64 (x6 + (1 : Int)))))]] .live] = [Ob.mk 1 (([w64 ((1000000000 : Int).tdiv (w64 (x6 + (1 : Int))))] : List Int).map eI) .live]) (.c (pure_row eI_pure ([w64 ((1000000000 : Int).tdiv (w64 (x6 + (1 : Int))))] : List Int) : PureRow [Ob.mk 1 (([w64 ((1000000000 : Int).tdiv (w64 (x6 + (1 : Int))))] : List Int).map eI) .live]) (.c (row_prf (app_part (show (r9.2.map eI) = (r9.2.map eI) from rfl) r9.1 (tk_prf (show [[.n .i64 (0 : Int)]] = (([0] : List Int)).map eI from rfl) (show 1 = ([0] : List Int).length from rfl))) : [Ob.mk 1 ((r9.2.map eI).take r9.1 ++ (([[.n .i64 (0 : Int)]].drop 0).take 1)) .live] = [Ob.mk 1 ((r9.2.take r9.1 ++ ([0] : List Int)).map eI) .live]) (.c (pure_row eI_pure (r9.2.take r9.1 ++ ([0] : List Int)) : PureRow [Ob.mk 1 ((r9.2.take r9.1 ++ ([0] : List Int)).map eI) .live]) (.c (pure_row eI_pure r13.2 : PureRow [Ob.mk 1 (r13.2.map eI) .live]) (.c (show 1 = ([w64 ((1000000000 : Int).tdiv (w64 (x6 + (1 : Int))))] : List Int).length from rfl) (.c ((impl_over_L1_ok v_a r13.1 ([w64 ((1000000000 : Int).tdiv (w64 (x6 + (1 : Int))))] : List Int) r13.2 (r9.2.take r9.1 ++ ([0] : List Int)) r15 h16).vex) (.c ((h17).1) (.c (Int.le_refl (w64 (((r15.length : Nat) : Int) - ((r13.1 : Nat) : Int)))) (.c ((h17).2.1) (.c ((h17).2.2) (.c (pure_row eI_pure ([w64 ((1000000000 : Int).tdiv (w64 (x6 + (1 : Int))))] : List Int) : PureRow [Ob.mk 1 (([w64 ((1000000000 : Int).tdiv (w64 (x6 + (1 : Int))))] : List Int).map eI) .live]) (.c (pure_row eI_pure r15 : PureRow [Ob.mk 1 (r15.map eI) .live]) (.c (pure_row eI_pure r13.2 : PureRow [Ob.mk 1 (r13.2.map eI) .live]) (.c (row_prf (rep_prf eI (w64 (((r15.length : Nat) : Int) - ((r13.1 : Nat) : Int))).toNat 0) : [Ob.mk 1 (List.replicate (w64 (((r15.length : Nat) : Int) - ((r13.1 : Nat) : Int))).toNat [.n .i64 (0 : Int)]) .live] = [Ob.mk 1 ((List.replicate (w64 (((r15.length : Nat) : Int) - ((r13.1 : Nat) : Int))).toNat 0 : List Int).map eI) .live]) (.c (pure_row eI_pure (List.replicate (w64 (((r15.length : Nat) : Int) - ((r13.1 : Nat) : Int))).toNat 0 : List Int) : PureRow [Ob.mk 1 ((List.replicate (w64 (((r15.length : Nat) : Int) - ((r13.1 : Nat) : Int))).toNat 0 : List Int).map eI) .live]) (.c (len_rep (w64 (((r15.length : Nat) : Int) - ((r13.1 : Nat) : Int))).toNat (0 : Int)) (.c (pure_row eI_pure ([w64 ((1000000000 : Int).tdiv (w64 (x6 + (1 : Int))))] : List Int) : PureRow [Ob.mk 1 (([w64 ((1000000000 : Int).tdiv (w64 (x6 + (1 : Int))))] : List Int).map eI) .live]) (.c (pure_row eI_pure r15 : PureRow [Ob.mk 1 (r15.map eI) .live]) (.c (pure_row eI_pure r13.2 : PureRow [Ob.mk 1 (r13.2.map eI) .frz]) (.c (pure_row eI_pure (List.replicate (w64 (((r15.length : Nat) : Int) - ((r13.1 : Nat) : Int))).toNat 0 : List Int) : PureRow [Ob.mk 1 ((List.replicate (w64 (((r15.length : Nat) : Int) - ((r13.1 : Nat) : Int))).toNat 0 : List Int).map eI) .live]) (.c ((impl_over_L3_ok r15.length r13.1 ((r13.1 : Nat) : Int) ([w64 ((1000000000 : Int).tdiv (w64 (x6 + (1 : Int))))] : List Int) r13.2 (w64 ((w64 (((r15.length : Nat) : Int) - ((r13.1 : Nat) : Int))) - (1 : Int))) r15 (List.replicate (w64 (((r15.length : Nat) : Int) - ((r13.1 : Nat) : Int))).toNat 0 : List Int) r18 h19).vex) (.c (snap_prf (show (r18.1.map eI) = (r18.1.map eI) from rfl) 0 r15.length) (.c (fit_prf (show (r18.1.map eI) = (r18.1.map eI) from rfl) h20) (.c (pure_map eI_pure ((r18.1.drop 0).take r15.length)) (.c (impl_trim_ok ((r18.1.drop 0).take r15.length) r21 h22) (.c ((h23).1) (.c ((h23).2) (.c (map_get h25 : (([w64 ((1000000000 : Int).tdiv (w64 (x6 + (1 : Int))))] : List Int).map eI)[0]? = some (eI x24)) (.c (impl_overSmall_ok r21 x24 r26 h27) (.c (snap_full (show (r18.2.map eI) = (r18.2.map eI) from rfl) (show r18.2.length = r18.2.length from rfl)) (.c (fit_full (show (r18.2.map eI) = (r18.2.map eI) from rfl) (show r18.2.length = r18.2.length from rfl)) (.c (pure_map eI_pure r18.2) (.c (impl_trim_ok r18.2 r28 h29) .nil))))))))))))))))))))))))))))))))))))))))))))))))))))))))))))))))

def impl_divisor_L1_head  (v_a : (List Int)) (v_b : (List Int)) : S := mkS [(0, .isl 1 (v_a.map eI)), (1, .isl 1 (v_b.map eI))] []

def impl_divisor_L1_ex : (List Int) → Exit
  | _ => .exit 0

def impl_divisor_L1_out  : (List Int) → S
  | a => mkS [(0, .isl 1 (a.map eI))] []

abbrev impl_divisor_L1_V := VEx PP 19 0 (nodeAt (bodyOf PP 113) [1, 0, 0, 0])

def impl_divisor_L1_body  (v_a : (List Int)) (v_b : (List Int)) : Option (((List Int) × (List Int)) ⊕ ((List Int))) :=
  if (decide ((0 : Int) < (len_ eI v_b))) = true then
    impl_over v_a v_b >>= fun r2 =>
    some (.inl (v_b, r2.2))
  else
    some (.inr v_a)

def impl_divisor_L1  (v_a : (List Int)) (v_b : (List Int)) : Option ((List Int)) := iter (fun w : (List Int) × (List Int) => impl_divisor_L1_body  w.1 w.2) (v_a, v_b)

theorem impl_divisor_L1_body_ok  (v_a : (List Int)) (v_b : (List Int)) : Wp (impl_divisor_L1_body  v_a v_b) (Sum.elim
    (fun w => impl_divisor_L1_V .normal (impl_divisor_L1_head  v_a v_b) (impl_divisor_L1_head  w.1 w.2))
    (fun r => impl_divisor_L1_V (impl_divisor_L1_ex r) (impl_divisor_L1_head  v_a v_b) (impl_divisor_L1_out  r))) := by
  unfold impl_divisor_L1_body
  exact (let t1 : List TE := [.reg [nt, nt, nt]];
    .ite (fun h1 =>
    .bnd fun r2 h3 =>
    .ret ((okC_sound hmix (tape := t1 ++ ([.br true, .reg [nt, nt, (.call { ac := [ii, ii], r := .tup [.isl 1 (r2.1.map eI), .isl 1 (r2.2.map eI)], sc := false }, true), nt, nt, nt, nt, nt], .reg [nt, nt, nt, nt], .rst [] [] [(0, ii), (1, ii)]] : List TE)) (nr := 0) (by kernel_rfl) (.c h1 (.c (impl_over_ok v_a v_b r2 h3) .nil)) (mkS_free _ _) : impl_divisor_L1_V .normal (impl_divisor_L1_head  v_a v_b) (impl_divisor_L1_head  v_b r2.2))))
    (fun h1 =>
    .ret ((okC_sound hmix (tape := t1 ++ ([.br false, .rst [] [] [(0, ii)]] : List TE)) (nr := 0) (by kernel_rfl) (.c h1 .nil) (mkS_free _ _) : impl_divisor_L1_V (.exit 0) (impl_divisor_L1_head  v_a v_b) (impl_divisor_L1_out  v_a)))))

theorem impl_divisor_L1_ok  (v_a : (List Int)) (v_b : (List Int)) : ∀ r, impl_divisor_L1  v_a v_b = some r → VLoop PP 19 0 (nodeAt (bodyOf PP 113) [1, 0, 0, 0]) (impl_divisor_L1_ex r) (impl_divisor_L1_head  v_a v_b) (impl_divisor_L1_out  r) := fun r h =>
  iter_ok (head := fun w : (List Int) × (List Int) => impl_divisor_L1_head  w.1 w.2) (ex := impl_divisor_L1_ex) (out := impl_divisor_L1_out ) (by intro r; unfold impl_divisor_L1_ex; split <;> simp) (fun w => impl_divisor_L1_body_ok  w.1 w.2) (v_a, v_b) r h

def impl_divisor (v_a : (List Int)) (v_b : (List Int)) : Option (List Int) :=
  impl_divisor_L1 v_a v_b >>= fun r1 =>
  some r1

theorem impl_divisor_ok (v_a : (List Int)) (v_b : (List Int)) : Wp (impl_divisor v_a v_b) (fun r => Con PP 113 [.isl 1 (v_a.map eI), .isl 1 (v_b.map eI)] [] (.isl 1 (r.map eI)) []) := by
  unfold impl_divisor
  exact .bnd fun r1 h2 =>
    .ret (runF_con0 hmix (tape := [.reg [nt], .rst [] [] [(0, ii), (1, ii)], .sub (.exit 0) [(0, .isl 1 (r1.map eI))] [], .reg [nt, nt]]) (rr := ii) (by kernel_rfl) (.c ((impl_divisor_L1_ok v_a v_b r1 h2).vex) .nil))

def impl_RatOk (v_r : TRat) : Option Bool :=
  impl_BigIntOk v_r.fNum >>= fun r1 =>
  if r1 = true then
    impl_NatOk v_r.fDen >>= fun r4 =>
    if r4 = true then
      if ((len_ eI v_r.fDen) == (0 : Int)) = true then
        some false
      else
        if (decide ((24 : Int) < (len_ eI v_r.fNum.fMag))) = true then
          some false
        else
          if (decide ((24 : Int) < (len_ eI v_r.fDen))) = true then
            some false
          else
            impl_divisor v_r.fNum.fMag v_r.fDen >>= fun r10 =>
            impl_compare r10 ([1] : List Int) >>= fun r12 =>
            some (r12 == (0 : Int))
    else
      some false
  else
    some false

theorem impl_RatOk_ok (v_r : TRat) : Wp (impl_RatOk v_r) (fun r => Con PP 102 [.agg [.b v_r.fNum.fNeg, .isl 1 (v_r.fNum.fMag.map eI), .isl 1 (v_r.fDen.map eI)]] [] (.b r) []) := by
  unfold impl_RatOk
  exact .bnd fun r1 h2 =>
    (let t1 : List TE := [.reg [nt, nt]];
    have o2 := ((.c (impl_BigIntOk_ok v_r.fNum r1 h2) (.c (Sc.b _ : Sc (.b r1)) .nil)) : AllP _);
    .ite (fun h3 =>
    .bnd fun r4 h5 =>
    (have o3 := o2.app (.c (not_t h3) (.c (not_t h3) (.c (not_t h3) (.c (impl_NatOk_ok v_r.fDen r4 h5) (.c (Sc.b _ : Sc (.b r4)) (.c (not_t h3) (.c (not_t h3) .nil)))))));
    .ite (fun h6 =>
    (have o4 := o3.app (.c (not_t h6) (.c (not_t h6) (.c (not_t h6) (.c (not_t h6) (.c (not_t h6) .nil)))));
    .ite (fun h7 =>
    .ret (runF_con0 hmix (tape := t1 ++ ([.reg [nt, nt, (.call { ac := [ii], r := .b r1, sc := true }, true), nt, nt, nt, nt, (.call { ac := [ii], r := .b r4, sc := true }, true), nt, (.br false, true), nt, nt, nt, nt, nt, (.br false, true), nt, nf, nf, nf, nf, nf, (.br true, true), nt, nf, nf, nf, nf, nt], .br true, .reg [nt]] : List TE)) (rr := ii) (by kernel_rfl) (o4.app (.c h7 (.c h7 (.c h7 (.c h7 (.c h7 (.c h7 (.c (rfl : true = true) (.c (rfl : true = true) (.c (rfl : true = true) (.c (rfl : true = true) (.c (rfl : true = true) .nil))))))))))))))
    (fun h7 =>
    .ite (fun h8 =>
    .ret (runF_con0 hmix (tape := t1 ++ ([.reg [nt, nt, (.call { ac := [ii], r := .b r1, sc := true }, true), nt, nt, nt, nt, (.call { ac := [ii], r := .b r4, sc := true }, true), nt, (.br false, true), nt, nt, nt, nt, nt, (.br false, true), nt, nt, nt, nt, nt, nt, (.br false, true), nt, nf, nf, nf, nf, (.br true, true)], .br true, .reg [nt]] : List TE)) (rr := ii) (by kernel_rfl) (o4.app (.c h7 (.c h7 (.c h7 (.c h7 (.c h7 (.c h7 (.c h8 (.c h8 (.c h8 (.c h8 (.c h8 (.c (rfl : true = true) .nil)))))))))))))))
    (fun h8 =>
    (let t5 : List TE := t1 ++ ([.reg [nt, nt, (.call { ac := [ii], r := .b r1, sc := true }, true), nt, nt, nt, nt, (.call { ac := [ii], r := .b r4, sc := true }, true), nt, (.br false, true), nt, nt, nt, nt, nt, (.br false, true), nt, nt, nt, nt, nt, nt, (.br false, true), nt, nt, nt, nt, nt, (.br false, true)]] : List TE);
    have o6 := o4.app (.c h7 (.c h7 (.c h7 (.c h7 (.c h7 (.c h7 (.c h8 (.c h8 (.c h8 (.c h8 (.c h8 .nil)))))))))));
    .ite (fun h9 =>
    .ret (runF_con0 hmix (tape := t5 ++ ([.br true, .reg [nt]] : List TE)) (rr := ii) (by kernel_rfl) (o6.app (.c h9 .nil))))
    (fun h9 =>
    .bnd fun r10 h11 =>
    .bnd fun r12 h13 =>
    .ret (runF_con0 hmix (tape := t5 ++ ([.br false, .reg [nt, nt, nt, nt, nt, (.call { ac := [ii, ii], r := .isl 1 (r10.map eI), sc := false }, true), nt, (.call { ac := [ii, .c1 (.c0 (.sl (([1] : List Int).map eI)))], rds := [37], r := .n .i64 r12, sc := true }, true), nt, nt]] : List TE)) (rr := ii) (by kernel_rfl) (o6.app (.c h9 (.c (impl_divisor_ok v_r.fNum.fMag v_r.fDen r10 h11) (.c (snap_full (show [[.n .i64 (1 : Int)]] = (([1] : List Int)).map eI from rfl) (show 1 = ([1] : List Int).length from rfl)) (.c (fit_full (show [[.n .i64 (1 : Int)]] = (([1] : List Int)).map eI from rfl) (show 1 = ([1] : List Int).length from rfl)) (.c (pure_map eI_pure ([1] : List Int)) (.c (impl_compare_ok r10 ([1] : List Int) r12 h13) (.c (Sc.n _ _ : Sc (.n .i64 r12)) .nil)))))))))))))))
    (fun h6 =>
    .ret (runF_con0 hmix (tape := t1 ++ ([.reg [nt, nt, (.call { ac := [ii], r := .b r1, sc := true }, true), nt, nt, nt, nt, (.call { ac := [ii], r := .b r4, sc := true }, true), nt, (.br false, true), nt, nf, nf, nf, nf, (.br true, true), nt, nf, nf, nf, nf, nf, nt, nt, nf, nf, nf, nf, nt], .br true, .reg [nt]] : List TE)) (rr := ii) (by kernel_rfl) (o3.app (.c (not_f h6) (.c (not_f h6) (.c (not_f h6) (.c (not_f h6) (.c (not_f h6) (.c (rfl : true = true) (.c (rfl : true = true) (.c (rfl : true = true) (.c (rfl : true = true) (.c (rfl : true = true) (.c (rfl : true = true) (.c (rfl : true = true) (.c (rfl : true = true) (.c (rfl : true = true) (.c (rfl : true = true) .nil))))))))))))))))))))
    (fun h3 =>
    .ret (runF_con0 hmix (tape := t1 ++ ([.reg [nt, nt, (.call { ac := [ii], r := .b r1, sc := true }, true), nt, nt, nf, nf, nf, nf, (.br true, true), nt, nf, nf, nf, nf, nt, nt, nf, nf, nf, nf, nf, nt, nt, nf, nf, nf, nf, nt], .br true, .reg [nt]] : List TE)) (rr := ii) (by kernel_rfl) (o2.app (.c (not_f h3) (.c (not_f h3) (.c (not_f h3) (.c (not_f h3) (.c (not_f h3) (.c (rfl : true = true) (.c (rfl : true = true) (.c (rfl : true = true) (.c (rfl : true = true) (.c (rfl : true = true) (.c (rfl : true = true) (.c (rfl : true = true) (.c (rfl : true = true) (.c (rfl : true = true) (.c (rfl : true = true) (.c (rfl : true = true) (.c (rfl : true = true) (.c (rfl : true = true) (.c (rfl : true = true) .nil)))))))))))))))))))))))

def impl_load (v_r : TRat) : Option (Option TRatio_) :=
  impl_RatOk v_r >>= fun r1 =>
  if r1 = true then
    some (some (⟨v_r.fNum, v_r.fDen⟩ : TRatio_))
  else
    some (none : (Option TRatio_))

theorem impl_load_ok (v_r : TRat) : Wp (impl_load v_r) (fun r => Con PP 84 [.agg [.b v_r.fNum.fNeg, .isl 1 (v_r.fNum.fMag.map eI), .isl 1 (v_r.fDen.map eI)]] [] (aO 3 eTRatio_ r) []) := by
  unfold impl_load
  exact .bnd fun r1 h2 =>
    (let t1 : List TE := [.reg [nt, nt], .reg [nt, (.call { ac := [ii], r := .b r1, sc := true }, true), nt]];
    have o2 := ((.c (impl_RatOk_ok v_r r1 h2) (.c (Sc.b _ : Sc (.b r1)) .nil)) : AllP _);
    .ite (fun h3 =>
    .ret (runF_con0 hmix (tape := t1 ++ ([.br false, .reg [nt, nt, nt, nt, nt, nt, nt]] : List TE)) (rr := .c1 (.ptro [.id, .id, .id])) (by kernel_rfl) (o2.app (.c (not_t h3) (.c (pure_es1 (eTRatio__pure (⟨v_r.fNum, v_r.fDen⟩ : TRatio_)) : PureEs [[.b v_r.fNum.fNeg, .isl 1 (v_r.fNum.fMag.map eI), .isl 1 (v_r.fDen.map eI)]]) .nil)))))
    (fun h3 =>
    .ret (runF_con0 hmix (tape := t1 ++ ([.br true, .reg [nt]] : List TE)) (rr := .c1 (.c0 (.po 3))) (by kernel_rfl) (o2.app (.c (not_f h3) .nil)))))

def impl_loads_L1_head (v_t10 : (List TRat)) (v_t11 : Int) (v_t12 : Int) (row0 : (List (Option TRatio_))) : S := mkS [(4, .osl 0 0 0 row0.length), (10, .isl 3 (v_t10.map eTRat)), (11, .n .i64 v_t11), (12, .n .i64 v_t12)] [[Ob.mk 1 (row0.map (eO 3 eTRatio_)) .live]]

def impl_loads_L1_ex : (((List (Option TRatio_))) ⊕ (Unit)) → Exit
  | .inl _ => .exit 0
  | .inr _ => .ret

def impl_loads_L1_out (v_t10 : (List TRat)) (v_t11 : Int) : (((List (Option TRatio_))) ⊕ (Unit)) → S
  | .inl a => mkS [(4, .osl 0 0 0 a.length)] [[Ob.mk 1 (a.map (eO 3 eTRatio_)) .live]]
  | .inr a => mkS [(2, .nils), (3, .b false)] []

abbrev impl_loads_L1_V := VEx PP 29 0 (nodeAt (bodyOf PP 65) [1, 1, 0, 1, 0, 0])

def impl_loads_L1_body (v_t10 : (List TRat)) (v_t11 : Int) (v_t12 : Int) (row0 : (List (Option TRatio_))) : Option ((Int × (List (Option TRatio_))) ⊕ (((List (Option TRatio_))) ⊕ (Unit))) :=
  if (decide (v_t12 < v_t11)) = true then
    if 0 ≤ v_t12 ∧ v_t12 < v_t10.length then
    v_t10[v_t12.toNat]? >>= fun x3 =>
    impl_load x3 >>= fun r5 =>
    if 0 ≤ v_t12 ∧ v_t12 < (row0.length : Nat) then
    if (0 + v_t12.toNat) < row0.length then
    (row0.set (0 + v_t12.toNat) r5)[(0 + v_t12.toNat)]? >>= fun x9 =>
    x9.elim
    (some (.inr (.inr ())))
    fun y12 =>
    some (.inl (w64 (v_t12 + (1 : Int)), row0.set (0 + v_t12.toNat) r5))
    else none
    else none
    else none
  else
    some (.inr (.inl row0))

def impl_loads_L1 (v_t10 : (List TRat)) (v_t11 : Int) (v_t12 : Int) (row0 : (List (Option TRatio_))) : Option (((List (Option TRatio_))) ⊕ (Unit)) := iter (fun w : Int × (List (Option TRatio_)) => impl_loads_L1_body v_t10 v_t11 w.1 w.2) (v_t12, row0)

theorem impl_loads_L1_body_ok (v_t10 : (List TRat)) (v_t11 : Int) (v_t12 : Int) (row0 : (List (Option TRatio_))) : Wp (impl_loads_L1_body v_t10 v_t11 v_t12 row0) (Sum.elim
    (fun w => impl_loads_L1_V .normal (impl_loads_L1_head v_t10 v_t11 v_t12 row0) (impl_loads_L1_head v_t10 v_t11 w.1 w.2))
    (fun r => impl_loads_L1_V (impl_loads_L1_ex r) (impl_loads_L1_head v_t10 v_t11 v_t12 row0) (impl_loads_L1_out v_t10 v_t11 r))) := by
  unfold impl_loads_L1_body
  exact .ite (fun h1 =>
    .grd fun h2 =>
    .bnd fun x3 h4 =>
    .bnd fun r5 h6 =>
    .grd fun h7 =>
    .grd fun h8 =>
    .bnd fun x9 h10 =>
    (let t1 : List TE := [.reg [nt], .br true, .reg [nt, nt, (.el (eTRat x3), true), nt, nt, nt], .reg [nt, nt, nt, (.call { ac := [ii], r := aO 3 eTRatio_ r5, sc := false }, true), nt, (.bd, true)]];
    have o2 := ((.c h1 (.c ((h2).1) (.c (lt_mapI (h2).2 : v_t12 < ((v_t10.map eTRat).length : Nat)) (.c (map_get h4 : (v_t10.map eTRat)[v_t12.toNat]? = some (eTRat x3)) (.c (impl_load_ok x3 r5 h6) (.c ((h7).1) (.c ((h7).2) (.c (lt_map h8 : (0 + v_t12.toNat) < (row0.map (eO 3 eTRatio_)).length) (.c (rfl : 1 = 1) (.c ((h7).1) (.c ((h7).2) (.c (get_prf (set_prf (show (row0.map (eO 3 eTRatio_)) = (row0.map (eO 3 eTRatio_)) from rfl) (0 + v_t12.toNat) r5) h10) .nil)))))))))))) : AllP _);
    .opt (fun h11 =>
    .ret ((okC_sound hmix (tape := t1 ++ ([.reg [nt, nt, nt, (.el ((eO 3 eTRatio_) x9), true), (.re 25 (.ipo 3 none) .bd, true)], .br true, .reg [nt, nt], .rst [] [] [(2, ii), (3, ii)]] : List TE)) (nr := 1) (by kernel_rfl) (o2.app (.c (re_eq (aO_none h11 : aO 3 eTRatio_ x9 = .ipo 3 none)) (.c (rfl : true = true) .nil))) (mkS_free _ _) : impl_loads_L1_V (.ret) (impl_loads_L1_head v_t10 v_t11 v_t12 row0) (impl_loads_L1_out v_t10 v_t11 (.inr ())))))
    (fun y12 h11 =>
    .ret ((okC_sound hmix (tape := t1 ++ ([.reg [nt, nt, nt, (.el ((eO 3 eTRatio_) x9), true), (.re 25 (.ipo 3 (some (eTRatio_ y12))) .bd, true)], .br false, .reg [nt, nt], .rst [0] [.as [Ob.mk 1 ((row0.set (0 + v_t12.toNat) r5).map (eO 3 eTRatio_)) .live]] [(4, .c1 (.c0 (.len ((row0.set (0 + v_t12.toNat) r5).length)))), (10, ii), (11, ii), (12, ii)]] : List TE)) (nr := 1) (by kernel_rfl) (o2.app (.c (re_eq (aO_some h11 : aO 3 eTRatio_ x9 = .ipo 3 (some (eTRatio_ y12)))) (.c (rfl : false = false) (.c (row_prf (set_prf (show (row0.map (eO 3 eTRatio_)) = (row0.map (eO 3 eTRatio_)) from rfl) (0 + v_t12.toNat) r5) : [Ob.mk 1 ((row0.map (eO 3 eTRatio_)).set (0 + v_t12.toNat) [aO 3 eTRatio_ r5]) .live] = [Ob.mk 1 ((row0.set (0 + v_t12.toNat) r5).map (eO 3 eTRatio_)) .live]) (.c (pure_row (eO_pure (sz := 3) eTRatio__pure) (row0.set (0 + v_t12.toNat) r5) : PureRow [Ob.mk 1 ((row0.set (0 + v_t12.toNat) r5).map (eO 3 eTRatio_)) .live]) (.c (len_set (show row0.length = row0.length from rfl) (0 + v_t12.toNat) r5) .nil)))))) (mkS_free _ _) : impl_loads_L1_V .normal (impl_loads_L1_head v_t10 v_t11 v_t12 row0) (impl_loads_L1_head v_t10 v_t11 (w64 (v_t12 + (1 : Int))) (row0.set (0 + v_t12.toNat) r5)))))))
    (fun h1 =>
    .ret ((okC_sound hmix (tape := [.reg [nt], .br false, .rst [0] [.pure] [(4, ii)]]) (nr := 1) (by kernel_rfl) (.c h1 (.c (pure_row (eO_pure (sz := 3) eTRatio__pure) row0 : PureRow [Ob.mk 1 (row0.map (eO 3 eTRatio_)) .live]) .nil)) (mkS_free _ _) : impl_loads_L1_V (.exit 0) (impl_loads_L1_head v_t10 v_t11 v_t12 row0) (impl_loads_L1_out v_t10 v_t11 (.inl row0)))))

theorem impl_loads_L1_ok (v_t10 : (List TRat)) (v_t11 : Int) (v_t12 : Int) (row0 : (List (Option TRatio_))) : ∀ r, impl_loads_L1 v_t10 v_t11 v_t12 row0 = some r → VLoop PP 29 0 (nodeAt (bodyOf PP 65) [1, 1, 0, 1, 0, 0]) (impl_loads_L1_ex r) (impl_loads_L1_head v_t10 v_t11 v_t12 row0) (impl_loads_L1_out v_t10 v_t11 r) := fun r h =>
  iter_ok (head := fun w : Int × (List (Option TRatio_)) => impl_loads_L1_head v_t10 v_t11 w.1 w.2) (ex := impl_loads_L1_ex) (out := impl_loads_L1_out v_t10 v_t11) (by intro r; unfold impl_loads_L1_ex; split <;> simp) (fun w => impl_loads_L1_body_ok v_t10 v_t11 w.1 w.2) (v_t12, row0) r h

def impl_loads (v_v : (List TRat)) : Option ((List (Option TRatio_)) × Bool) :=
  if 0 ≤ (len_ eTRat v_v) ∧ (8 : Int) * (len_ eTRat v_v) ≤ 281474976710656 ∧ (len_ eTRat v_v) < 9223372036854775808 then
  impl_loads_L1 v_v (len_ eTRat v_v) 0 (List.replicate (len_ eTRat v_v).toNat (none : (Option TRatio_)) : List (Option TRatio_)) >>= fun r2 =>
  match r2 with
  | .inl a4 => (some (a4, true))
  | .inr a4 => (some (([] : List (Option TRatio_)), false))
  else none

theorem impl_loads_ok (v_v : (List TRat)) : Wp (impl_loads v_v) (fun r => Con PP 65 [.isl 3 (v_v.map eTRat)] [] (.tup [.isl 1 (r.1.map (eO 3 eTRatio_)), .b r.2]) []) := by
  unfold impl_loads
  exact .grd fun h1 =>
    .bnd fun r2 h3 =>
    (let t1 : List TE := [.reg [nt, nt], .reg [nt, nt, (.el [aO 3 eTRatio_ (none : (Option TRatio_))], true), nt], .reg [nt, nt, nt]];
    have o2 := ((.c ((h1).1) (.c (Int.le_refl (len_ eTRat v_v)) (.c ((h1).2.1) (.c ((h1).2.2) .nil)))) : AllP _);
    (by
    rcases r2 with a4 | a4
    · exact (.ret (runF_con0 hmix (tape := t1 ++ ([.rst [4] [.as [Ob.mk 1 ((List.replicate (len_ eTRat v_v).toNat (none : (Option TRatio_)) : List (Option TRatio_)).map (eO 3 eTRatio_)) .live]] [(4, .c1 (.c0 (.len ((List.replicate (len_ eTRat v_v).toNat (none : (Option TRatio_)) : List (Option TRatio_)).length)))), (10, ii), (11, ii), (12, ii)], .sub (.exit 0) [(4, .osl 0 0 0 a4.length)] [[Ob.mk 1 (a4.map (eO 3 eTRatio_)) .live]], .reg [nt, nt, nt]] : List TE)) (rr := .comp [.c0 (.sl (a4.map (eO 3 eTRatio_))), .c0 .id]) (by kernel_rfl) (o2.app (.c (row_prf (rep_prf (eO 3 eTRatio_) (len_ eTRat v_v).toNat (none : (Option TRatio_))) : [Ob.mk 1 (List.replicate (len_ eTRat v_v).toNat [aO 3 eTRatio_ (none : (Option TRatio_))]) .live] = [Ob.mk 1 ((List.replicate (len_ eTRat v_v).toNat (none : (Option TRatio_)) : List (Option TRatio_)).map (eO 3 eTRatio_)) .live]) (.c (pure_row (eO_pure (sz := 3) eTRatio__pure) (List.replicate (len_ eTRat v_v).toNat (none : (Option TRatio_)) : List (Option TRatio_)) : PureRow [Ob.mk 1 ((List.replicate (len_ eTRat v_v).toNat (none : (Option TRatio_)) : List (Option TRatio_)).map (eO 3 eTRatio_)) .live]) (.c (len_rep (len_ eTRat v_v).toNat ((none : (Option TRatio_)) : (Option TRatio_))) (.c ((impl_loads_L1_ok v_v (len_ eTRat v_v) 0 (List.replicate (len_ eTRat v_v).toNat (none : (Option TRatio_)) : List (Option TRatio_)) (.inl a4) h3).vex) (.c (snap_full (show (a4.map (eO 3 eTRatio_)) = (a4.map (eO 3 eTRatio_)) from rfl) (show a4.length = a4.length from rfl)) (.c (fit_full (show (a4.map (eO 3 eTRatio_)) = (a4.map (eO 3 eTRatio_)) from rfl) (show a4.length = a4.length from rfl)) (.c (pure_map (eO_pure (sz := 3) eTRatio__pure) a4) .nil))))))))))
    · exact (.ret (runF_con0 hmix (tape := t1 ++ ([.rst [4] [.as [Ob.mk 1 ((List.replicate (len_ eTRat v_v).toNat (none : (Option TRatio_)) : List (Option TRatio_)).map (eO 3 eTRatio_)) .live]] [(4, .c1 (.c0 (.len ((List.replicate (len_ eTRat v_v).toNat (none : (Option TRatio_)) : List (Option TRatio_)).length)))), (10, ii), (11, ii), (12, ii)], .sub (.ret) [(2, .nils), (3, .b false)] []] : List TE)) (rr := .comp [.c0 (.nl 1), .c0 .id]) (by kernel_rfl) (o2.app (.c (row_prf (rep_prf (eO 3 eTRatio_) (len_ eTRat v_v).toNat (none : (Option TRatio_))) : [Ob.mk 1 (List.replicate (len_ eTRat v_v).toNat [aO 3 eTRatio_ (none : (Option TRatio_))]) .live] = [Ob.mk 1 ((List.replicate (len_ eTRat v_v).toNat (none : (Option TRatio_)) : List (Option TRatio_)).map (eO 3 eTRatio_)) .live]) (.c (pure_row (eO_pure (sz := 3) eTRatio__pure) (List.replicate (len_ eTRat v_v).toNat (none : (Option TRatio_)) : List (Option TRatio_)) : PureRow [Ob.mk 1 ((List.replicate (len_ eTRat v_v).toNat (none : (Option TRatio_)) : List (Option TRatio_)).map (eO 3 eTRatio_)) .live]) (.c (len_rep (len_ eTRat v_v).toNat ((none : (Option TRatio_)) : (Option TRatio_))) (.c ((impl_loads_L1_ok v_v (len_ eTRat v_v) 0 (List.replicate (len_ eTRat v_v).toNat (none : (Option TRatio_)) : List (Option TRatio_)) (.inr a4) h3).vex) .nil)))))))))

def impl_densities (v_s : TStructure) (v_q : (List TRat)) : Option ((List (Option TRatio_)) × Bool) :=
  if ((len_ eTRat v_q) != (len_ eTMember v_s.fMembers)) = true then
    some (([] : List (Option TRatio_)), false)
  else
    impl_StructureOk v_s >>= fun r2 =>
    if r2 = true then
      impl_loads v_q >>= fun r5 =>
      some (r5.1, r5.2)
    else
      some (([] : List (Option TRatio_)), false)

theorem impl_densities_ok (v_s : TStructure) (v_q : (List TRat)) : Wp (impl_densities v_s v_q) (fun r => Con PP 46 [.ipt 2 [[.isl 4 (v_s.fJoints.map eTJoint), .isl 3 (v_s.fMembers.map eTMember)]] 0 0, .isl 3 (v_q.map eTRat)] [] (.tup [.isl 1 (r.1.map (eO 3 eTRatio_)), .b r.2]) []) := by
  unfold impl_densities
  exact (let t1 : List TE := [.reg [nt, nt]];
    .ite (fun h1 =>
    .ret (runF_con0 hmix (tape := t1 ++ ([.reg [nt, nt, nt, nt, nt, nt, nt, nt, nt, nf, nf, nf, nf, nf, (.br true, true)], .br true, .reg [nt, nt]] : List TE)) (rr := .comp [.c0 (.nl 1), .c0 .id]) (by kernel_rfl) (.c h1 (.c h1 (.c h1 (.c h1 (.c h1 (.c h1 (.c (rfl : true = true) .nil)))))))))
    (fun h1 =>
    .bnd fun r2 h3 =>
    (let t2 : List TE := t1 ++ ([.reg [nt, nt, nt, nt, nt, nt, nt, nt, nt, nt, nt, nt, (.call { ac := [ii], r := .b r2, sc := true }, true), nt, (.br false, true)]] : List TE);
    have o3 := ((.c h1 (.c h1 (.c h1 (.c h1 (.c (impl_StructureOk_ok v_s r2 h3) (.c (Sc.b _ : Sc (.b r2)) (.c h1 (.c h1 .nil)))))))) : AllP _);
    .ite (fun h4 =>
    .bnd fun r5 h6 =>
    .ret (runF_con0 hmix (tape := t2 ++ ([.br false, .reg [nt, (.call { ac := [ii], r := .tup [.isl 1 (r5.1.map (eO 3 eTRatio_)), .b r5.2], sc := false }, true), nt, nt, nt, nt]] : List TE)) (rr := ii) (by kernel_rfl) (o3.app (.c (not_t h4) (.c (impl_loads_ok v_q r5 h6) .nil)))))
    (fun h4 =>
    .ret (runF_con0 hmix (tape := t2 ++ ([.br true, .reg [nt, nt]] : List TE)) (rr := .comp [.c0 (.nl 1), .c0 .id]) (by kernel_rfl) (o3.app (.c (not_f h4) .nil)))))))

def impl_Structure_vector (v_s : TStructure) (v_k : Int) : Option (Int × Int) :=
  if 0 ≤ v_k ∧ v_k < v_s.fMembers.length then
  v_s.fMembers[v_k.toNat]? >>= fun x2 =>
  if 0 ≤ x2.fB ∧ x2.fB < v_s.fJoints.length then
  v_s.fJoints[x2.fB.toNat]? >>= fun x5 =>
  if 0 ≤ x2.fA ∧ x2.fA < v_s.fJoints.length then
  v_s.fJoints[x2.fA.toNat]? >>= fun x8 =>
  some (w64 (x5.fX - x8.fX), w64 (x5.fY - x8.fY))
  else none
  else none
  else none

theorem impl_Structure_vector_ok (v_s : TStructure) (v_k : Int) : Wp (impl_Structure_vector v_s v_k) (fun r => Con PP 66 [.ipt 2 [[.isl 4 (v_s.fJoints.map eTJoint), .isl 3 (v_s.fMembers.map eTMember)]] 0 0, .n .i64 v_k] [] (.tup [.n .i64 r.1, .n .i64 r.2]) []) := by
  unfold impl_Structure_vector
  exact .grd fun h1 =>
    .bnd fun x2 h3 =>
    .grd fun h4 =>
    .bnd fun x5 h6 =>
    .grd fun h7 =>
    .bnd fun x8 h9 =>
    .ret (runF_con0 hmix (tape := [.reg [nt, nt], .reg [nt, nt, nt, nt, nt, nt, (.el (eTMember x2), true), nt, nt], .reg [nt, nt, nt, nt, nt, nt, nt, nt, (.el (eTJoint x5), true), nt, nt, nt, nt, nt, nt, nt, nt, (.el (eTJoint x8), true), nt, nt, nt, nt, nt, nt, nt, nt, nt, (.el (eTJoint x5), true), nt, nt, nt, nt, nt, nt, nt, nt, (.el (eTJoint x8), true), nt, nt, nt]]) (rr := ii) (by kernel_rfl) (.c ((h1).1) (.c (lt_mapI (h1).2 : v_k < ((v_s.fMembers.map eTMember).length : Nat)) (.c (map_get h3 : (v_s.fMembers.map eTMember)[v_k.toNat]? = some (eTMember x2)) (.c ((h4).1) (.c (lt_mapI (h4).2 : x2.fB < ((v_s.fJoints.map eTJoint).length : Nat)) (.c (map_get h6 : (v_s.fJoints.map eTJoint)[x2.fB.toNat]? = some (eTJoint x5)) (.c ((h7).1) (.c (lt_mapI (h7).2 : x2.fA < ((v_s.fJoints.map eTJoint).length : Nat)) (.c (map_get h9 : (v_s.fJoints.map eTJoint)[x2.fA.toNat]? = some (eTJoint x8)) (.c ((h4).1) (.c (lt_mapI (h4).2 : x2.fB < ((v_s.fJoints.map eTJoint).length : Nat)) (.c (map_get h6 : (v_s.fJoints.map eTJoint)[x2.fB.toNat]? = some (eTJoint x5)) (.c ((h7).1) (.c (lt_mapI (h7).2 : x2.fA < ((v_s.fJoints.map eTJoint).length : Nat)) (.c (map_get h9 : (v_s.fJoints.map eTJoint)[x2.fA.toNat]? = some (eTJoint x8)) .nil))))))))))))))))

def impl_times_L2_head (v_b : (List Int)) (v_i : Int) (v_n : Int) (v_t26 : (List Int)) (v_t27 : Int) (v_t34 : Int) (v_carry : Int) (v_t35 : Int) (row0 : (List Int)) : S := mkS [(1, .isl 1 (v_b.map eI)), (5, .osl 0 0 0 row0.length), (6, .n .i64 v_i), (7, .n .i64 v_n), (8, .n .i64 v_carry), (26, .isl 1 (v_t26.map eI)), (27, .n .i64 v_t27), (28, .n .i64 v_i), (33, .isl 1 (v_b.map eI)), (34, .n .i64 v_t34), (35, .n .i64 v_t35)] [[Ob.mk 1 (row0.map eI) .live]]

def impl_times_L2_ex : (Int × (List Int)) → Exit
  | _ => .exit 2

def impl_times_L2_out (v_b : (List Int)) (v_i : Int) (v_n : Int) (v_t26 : (List Int)) (v_t27 : Int) (v_t34 : Int) : (Int × (List Int)) → S
  | a => mkS [(1, .isl 1 (v_b.map eI)), (5, .osl 0 0 0 a.2.length), (6, .n .i64 v_i), (8, .n .i64 a.1), (26, .isl 1 (v_t26.map eI)), (27, .n .i64 v_t27), (28, .n .i64 v_i)] [[Ob.mk 1 (a.2.map eI) .live]]

abbrev impl_times_L2_V := VEx PP 72 0 (nodeAt (bodyOf PP 89) [1, 1, 1, 0, 1, 0, 0, 1, 1, 0, 0, 1, 1, 0, 1, 0, 0])

def impl_times_L2_body (v_b : (List Int)) (v_i : Int) (v_n : Int) (v_t26 : (List Int)) (v_t27 : Int) (v_t34 : Int) (v_carry : Int) (v_t35 : Int) (row0 : (List Int)) : Option ((Int × Int × (List Int)) ⊕ (Int × (List Int))) :=
  if (decide (v_t35 < v_t34)) = true then
    if 0 ≤ v_t35 ∧ v_t35 < v_b.length then
    v_b[v_t35.toNat]? >>= fun x3 =>
    if 0 ≤ (w64 (v_i + v_t35)) ∧ (w64 (v_i + v_t35)) < (row0.length : Nat) then
    row0[(0 + (w64 (v_i + v_t35)).toNat)]? >>= fun x6 =>
    if (0 + (w64 (v_i + v_t35)).toNat) < row0.length then
    some (.inl (w64 ((w64 ((w64 (x6 + (w64 (v_n * x3)))) + v_carry)).tdiv (1000000000 : Int)), w64 (v_t35 + (1 : Int)), row0.set (0 + (w64 (v_i + v_t35)).toNat) ((w64 ((w64 (x6 + (w64 (v_n * x3)))) + v_carry)).tmod (1000000000 : Int))))
    else none
    else none
    else none
  else
    some (.inr (v_carry, row0))

def impl_times_L2 (v_b : (List Int)) (v_i : Int) (v_n : Int) (v_t26 : (List Int)) (v_t27 : Int) (v_t34 : Int) (v_carry : Int) (v_t35 : Int) (row0 : (List Int)) : Option (Int × (List Int)) := iter (fun w : Int × Int × (List Int) => impl_times_L2_body v_b v_i v_n v_t26 v_t27 v_t34 w.1 w.2.1 w.2.2) (v_carry, v_t35, row0)

theorem impl_times_L2_body_ok (v_b : (List Int)) (v_i : Int) (v_n : Int) (v_t26 : (List Int)) (v_t27 : Int) (v_t34 : Int) (v_carry : Int) (v_t35 : Int) (row0 : (List Int)) : Wp (impl_times_L2_body v_b v_i v_n v_t26 v_t27 v_t34 v_carry v_t35 row0) (Sum.elim
    (fun w => impl_times_L2_V .normal (impl_times_L2_head v_b v_i v_n v_t26 v_t27 v_t34 v_carry v_t35 row0) (impl_times_L2_head v_b v_i v_n v_t26 v_t27 v_t34 w.1 w.2.1 w.2.2))
    (fun r => impl_times_L2_V (impl_times_L2_ex r) (impl_times_L2_head v_b v_i v_n v_t26 v_t27 v_t34 v_carry v_t35 row0) (impl_times_L2_out v_b v_i v_n v_t26 v_t27 v_t34 r))) := by
  unfold impl_times_L2_body
  exact .ite (fun h1 =>
    .grd fun h2 =>
    .bnd fun x3 h4 =>
    .grd fun h5 =>
    .bnd fun x6 h7 =>
    .grd fun h8 =>
    .ret ((okC_sound hmix (tape := [.reg [nt], .br true, .reg [nt, nt, (.el (eI x3), true), nt, nt], .reg [nt, nt, nt, nt, nt, (.el (eI x6), true), nt, nt, nt, nt, nt, nt, nt], .reg [nt, nt, nt, nt, nt, nt, nt, nt, nt, (.bd, true), nt], .reg [nt, nt], .rst [0] [.as [Ob.mk 1 ((row0.set (0 + (w64 (v_i + v_t35)).toNat) ((w64 ((w64 (x6 + (w64 (v_n * x3)))) + v_carry)).tmod (1000000000 : Int))).map eI) .live]] [(1, ii), (5, .c1 (.c0 (.len ((row0.set (0 + (w64 (v_i + v_t35)).toNat) ((w64 ((w64 (x6 + (w64 (v_n * x3)))) + v_carry)).tmod (1000000000 : Int))).length)))), (6, ii), (7, ii), (8, ii), (26, ii), (27, ii), (28, ii), (33, ii), (34, ii), (35, ii)]]) (nr := 1) (by kernel_rfl) (.c h1 (.c ((h2).1) (.c (lt_mapI (h2).2 : v_t35 < ((v_b.map eI).length : Nat)) (.c (map_get h4 : (v_b.map eI)[v_t35.toNat]? = some (eI x3)) (.c ((h5).1) (.c ((h5).2) (.c (map_get h7 : (row0.map eI)[(0 + (w64 (v_i + v_t35)).toNat)]? = some (eI x6)) (.c (by decide : (1000000000 : Int) ≠ 0) (.c (by decide : (1000000000 : Int) ≠ 0) (.c ((h5).1) (.c ((h5).2) (.c (lt_map h8 : (0 + (w64 (v_i + v_t35)).toNat) < (row0.map eI).length) (.c (rfl : 1 = 1) (.c (row_prf (set_prf (show (row0.map eI) = (row0.map eI) from rfl) (0 + (w64 (v_i + v_t35)).toNat) ((w64 ((w64 (x6 + (w64 (v_n * x3)))) + v_carry)).tmod (1000000000 : Int))) : [Ob.mk 1 ((row0.map eI).set (0 + (w64 (v_i + v_t35)).toNat) [.n .i64 ((w64 ((w64 (x6 + (w64 (v_n * x3)))) + v_carry)).tmod (1000000000 : Int))]) .live] = [Ob.mk 1 ((row0.set (0 + (w64 (v_i + v_t35)).toNat) ((w64 ((w64 (x6 + (w64 (v_n * x3)))) + v_carry)).tmod (1000000000 : Int))).map eI) .live]) (.c (pure_row eI_pure (row0.set (0 + (w64 (v_i + v_t35)).toNat) ((w64 ((w64 (x6 + (w64 (v_n * x3)))) + v_carry)).tmod (1000000000 : Int))) : PureRow [Ob.mk 1 ((row0.set (0 + (w64 (v_i + v_t35)).toNat) ((w64 ((w64 (x6 + (w64 (v_n * x3)))) + v_carry)).tmod (1000000000 : Int))).map eI) .live]) (.c (len_set (show row0.length = row0.length from rfl) (0 + (w64 (v_i + v_t35)).toNat) ((w64 ((w64 (x6 + (w64 (v_n * x3)))) + v_carry)).tmod (1000000000 : Int))) .nil)))))))))))))))) (mkS_free _ _) : impl_times_L2_V .normal (impl_times_L2_head v_b v_i v_n v_t26 v_t27 v_t34 v_carry v_t35 row0) (impl_times_L2_head v_b v_i v_n v_t26 v_t27 v_t34 (w64 ((w64 ((w64 (x6 + (w64 (v_n * x3)))) + v_carry)).tdiv (1000000000 : Int))) (w64 (v_t35 + (1 : Int))) (row0.set (0 + (w64 (v_i + v_t35)).toNat) ((w64 ((w64 (x6 + (w64 (v_n * x3)))) + v_carry)).tmod (1000000000 : Int)))))))
    (fun h1 =>
    .ret ((okC_sound hmix (tape := [.reg [nt], .br false, .rst [0] [.pure] [(1, ii), (5, ii), (6, ii), (8, ii), (26, ii), (27, ii), (28, ii)]]) (nr := 1) (by kernel_rfl) (.c h1 (.c (pure_row eI_pure row0 : PureRow [Ob.mk 1 (row0.map eI) .live]) .nil)) (mkS_free _ _) : impl_times_L2_V (.exit 2) (impl_times_L2_head v_b v_i v_n v_t26 v_t27 v_t34 v_carry v_t35 row0) (impl_times_L2_out v_b v_i v_n v_t26 v_t27 v_t34 (v_carry, row0)))))

theorem impl_times_L2_ok (v_b : (List Int)) (v_i : Int) (v_n : Int) (v_t26 : (List Int)) (v_t27 : Int) (v_t34 : Int) (v_carry : Int) (v_t35 : Int) (row0 : (List Int)) : ∀ r, impl_times_L2 v_b v_i v_n v_t26 v_t27 v_t34 v_carry v_t35 row0 = some r → VLoop PP 72 0 (nodeAt (bodyOf PP 89) [1, 1, 1, 0, 1, 0, 0, 1, 1, 0, 0, 1, 1, 0, 1, 0, 0]) (impl_times_L2_ex r) (impl_times_L2_head v_b v_i v_n v_t26 v_t27 v_t34 v_carry v_t35 row0) (impl_times_L2_out v_b v_i v_n v_t26 v_t27 v_t34 r) := fun r h =>
  iter_ok (head := fun w : Int × Int × (List Int) => impl_times_L2_head v_b v_i v_n v_t26 v_t27 v_t34 w.1 w.2.1 w.2.2) (ex := impl_times_L2_ex) (out := impl_times_L2_out v_b v_i v_n v_t26 v_t27 v_t34) (by intro r; unfold impl_times_L2_ex; split <;> simp) (fun w => impl_times_L2_body_ok v_b v_i v_n v_t26 v_t27 v_t34 w.1 w.2.1 w.2.2) (v_carry, v_t35, row0) r h

def impl_times_L3_head (v_b : (List Int)) (v_t26 : (List Int)) (v_t27 : Int) (v_t28 : Int) (row0 : (List Int)) : S := mkS [(1, .isl 1 (v_b.map eI)), (5, .osl 0 0 0 row0.length), (26, .isl 1 (v_t26.map eI)), (27, .n .i64 v_t27), (28, .n .i64 v_t28)] [[Ob.mk 1 (row0.map eI) .live]]

def impl_times_L3_ex : (List Int) → Exit
  | _ => .exit 0

def impl_times_L3_out (v_b : (List Int)) (v_t26 : (List Int)) (v_t27 : Int) : (List Int) → S
  | a => mkS [(5, .osl 0 0 0 a.length)] [[Ob.mk 1 (a.map eI) .live]]

abbrev impl_times_L3_V := VEx PP 72 0 (nodeAt (bodyOf PP 89) [1, 1, 1, 0, 1, 0, 0])

def impl_times_L3_body (v_b : (List Int)) (v_t26 : (List Int)) (v_t27 : Int) (v_t28 : Int) (row0 : (List Int)) : Option ((Int × (List Int)) ⊕ ((List Int))) :=
  if (decide (v_t28 < v_t27)) = true then
    if 0 ≤ v_t28 ∧ v_t28 < v_t26.length then
    v_t26[v_t28.toNat]? >>= fun x3 =>
    impl_times_L2 v_b v_t28 x3 v_t26 v_t27 (len_ eI v_b) 0 0 row0 >>= fun r5 =>
    if 0 ≤ (w64 (v_t28 + (len_ eI v_b))) ∧ (w64 (v_t28 + (len_ eI v_b))) < (r5.2.length : Nat) then
    if (0 + (w64 (v_t28 + (len_ eI v_b))).toNat) < r5.2.length then
    some (.inl (w64 (v_t28 + (1 : Int)), r5.2.set (0 + (w64 (v_t28 + (len_ eI v_b))).toNat) r5.1))
    else none
    else none
    else none
  else
    some (.inr row0)

def impl_times_L3 (v_b : (List Int)) (v_t26 : (List Int)) (v_t27 : Int) (v_t28 : Int) (row0 : (List Int)) : Option ((List Int)) := iter (fun w : Int × (List Int) => impl_times_L3_body v_b v_t26 v_t27 w.1 w.2) (v_t28, row0)

theorem impl_times_L3_body_ok (v_b : (List Int)) (v_t26 : (List Int)) (v_t27 : Int) (v_t28 : Int) (row0 : (List Int)) : Wp (impl_times_L3_body v_b v_t26 v_t27 v_t28 row0) (Sum.elim
    (fun w => impl_times_L3_V .normal (impl_times_L3_head v_b v_t26 v_t27 v_t28 row0) (impl_times_L3_head v_b v_t26 v_t27 w.1 w.2))
    (fun r => impl_times_L3_V (impl_times_L3_ex r) (impl_times_L3_head v_b v_t26 v_t27 v_t28 row0) (impl_times_L3_out v_b v_t26 v_t27 r))) := by
  unfold impl_times_L3_body
  exact .ite (fun h1 =>
    .grd fun h2 =>
    .bnd fun x3 h4 =>
    .bnd fun r5 h6 =>
    .grd fun h7 =>
    .grd fun h8 =>
    .ret ((okC_sound hmix (tape := [.reg [nt], .br true, .reg [nt, nt, (.el (eI x3), true), nt, nt], .reg [nt], .reg [nt, nt, nt], .rst [0] [.pure] [(1, ii), (5, ii), (6, ii), (7, ii), (8, ii), (26, ii), (27, ii), (28, ii), (33, ii), (34, ii), (35, ii)], .sub (.exit 2) [(1, .isl 1 (v_b.map eI)), (5, .osl 0 0 0 r5.2.length), (6, .n .i64 v_t28), (8, .n .i64 r5.1), (26, .isl 1 (v_t26.map eI)), (27, .n .i64 v_t27), (28, .n .i64 v_t28)] [[Ob.mk 1 (r5.2.map eI) .live]], .reg [nt, nt, nt, nt, nt, nt, nt, (.bd, true)], .reg [nt, nt], .rst [0] [.as [Ob.mk 1 ((r5.2.set (0 + (w64 (v_t28 + (len_ eI v_b))).toNat) r5.1).map eI) .live]] [(1, ii), (5, .c1 (.c0 (.len ((r5.2.set (0 + (w64 (v_t28 + (len_ eI v_b))).toNat) r5.1).length)))), (26, ii), (27, ii), (28, ii)]]) (nr := 1) (by kernel_rfl) (.c h1 (.c ((h2).1) (.c (lt_mapI (h2).2 : v_t28 < ((v_t26.map eI).length : Nat)) (.c (map_get h4 : (v_t26.map eI)[v_t28.toNat]? = some (eI x3)) (.c (pure_row eI_pure row0 : PureRow [Ob.mk 1 (row0.map eI) .live]) (.c ((impl_times_L2_ok v_b v_t28 x3 v_t26 v_t27 (len_ eI v_b) 0 0 row0 r5 h6).vex) (.c ((h7).1) (.c ((h7).2) (.c (lt_map h8 : (0 + (w64 (v_t28 + (len_ eI v_b))).toNat) < (r5.2.map eI).length) (.c (rfl : 1 = 1) (.c (row_prf (set_prf (show (r5.2.map eI) = (r5.2.map eI) from rfl) (0 + (w64 (v_t28 + (len_ eI v_b))).toNat) r5.1) : [Ob.mk 1 ((r5.2.map eI).set (0 + (w64 (v_t28 + (len_ eI v_b))).toNat) [.n .i64 r5.1]) .live] = [Ob.mk 1 ((r5.2.set (0 + (w64 (v_t28 + (len_ eI v_b))).toNat) r5.1).map eI) .live]) (.c (pure_row eI_pure (r5.2.set (0 + (w64 (v_t28 + (len_ eI v_b))).toNat) r5.1) : PureRow [Ob.mk 1 ((r5.2.set (0 + (w64 (v_t28 + (len_ eI v_b))).toNat) r5.1).map eI) .live]) (.c (len_set (show r5.2.length = r5.2.length from rfl) (0 + (w64 (v_t28 + (len_ eI v_b))).toNat) r5.1) .nil))))))))))))) (mkS_free _ _) : impl_times_L3_V .normal (impl_times_L3_head v_b v_t26 v_t27 v_t28 row0) (impl_times_L3_head v_b v_t26 v_t27 (w64 (v_t28 + (1 : Int))) (r5.2.set (0 + (w64 (v_t28 + (len_ eI v_b))).toNat) r5.1)))))
    (fun h1 =>
    .ret ((okC_sound hmix (tape := [.reg [nt], .br false, .rst [0] [.pure] [(5, ii)]]) (nr := 1) (by kernel_rfl) (.c h1 (.c (pure_row eI_pure row0 : PureRow [Ob.mk 1 (row0.map eI) .live]) .nil)) (mkS_free _ _) : impl_times_L3_V (.exit 0) (impl_times_L3_head v_b v_t26 v_t27 v_t28 row0) (impl_times_L3_out v_b v_t26 v_t27 row0))))

theorem impl_times_L3_ok (v_b : (List Int)) (v_t26 : (List Int)) (v_t27 : Int) (v_t28 : Int) (row0 : (List Int)) : ∀ r, impl_times_L3 v_b v_t26 v_t27 v_t28 row0 = some r → VLoop PP 72 0 (nodeAt (bodyOf PP 89) [1, 1, 1, 0, 1, 0, 0]) (impl_times_L3_ex r) (impl_times_L3_head v_b v_t26 v_t27 v_t28 row0) (impl_times_L3_out v_b v_t26 v_t27 r) := fun r h =>
  iter_ok (head := fun w : Int × (List Int) => impl_times_L3_head v_b v_t26 v_t27 w.1 w.2) (ex := impl_times_L3_ex) (out := impl_times_L3_out v_b v_t26 v_t27) (by intro r; unfold impl_times_L3_ex; split <;> simp) (fun w => impl_times_L3_body_ok v_b v_t26 v_t27 w.1 w.2) (v_t28, row0) r h

def impl_times (v_a : (List Int)) (v_b : (List Int)) : Option (List Int) :=
  if ((len_ eI v_a) == (0 : Int)) = true then
    some ([] : List Int)
  else
    if ((len_ eI v_b) == (0 : Int)) = true then
      some ([] : List Int)
    else
      if 0 ≤ (w64 ((len_ eI v_a) + (len_ eI v_b))) ∧ (8 : Int) * (w64 ((len_ eI v_a) + (len_ eI v_b))) ≤ 281474976710656 ∧ (w64 ((len_ eI v_a) + (len_ eI v_b))) < 9223372036854775808 then
      impl_times_L3 v_b v_a (len_ eI v_a) 0 (List.replicate (w64 ((len_ eI v_a) + (len_ eI v_b))).toNat 0 : List Int) >>= fun r4 =>
      impl_trim r4 >>= fun r6 =>
      some r6
      else none

theorem impl_times_ok (v_a : (List Int)) (v_b : (List Int)) : Wp (impl_times v_a v_b) (fun r => Con PP 89 [.isl 1 (v_a.map eI), .isl 1 (v_b.map eI)] [] (.isl 1 (r.map eI)) []) := by
  unfold impl_times
  exact .ite (fun h1 =>
    .ret (runF_con0 hmix (tape := [.reg [nt], .reg [nt, nt, nt, nt, nf, nf, nf, (.br true, true)], .br true, .reg [nt]]) (rr := .c1 (.c0 (.nl 1))) (by kernel_rfl) (.c h1 (.c h1 (.c h1 (.c h1 (.c (rfl : true = true) .nil)))))))
    (fun h1 =>
    (let t1 : List TE := [.reg [nt], .reg [nt, nt, nt, nt, nt, nt, nt, (.br false, true)]];
    .ite (fun h2 =>
    .ret (runF_con0 hmix (tape := t1 ++ ([.br true, .reg [nt]] : List TE)) (rr := .c1 (.c0 (.nl 1))) (by kernel_rfl) (.c h1 (.c h1 (.c h1 (.c h1 (.c h2 .nil)))))))
    (fun h2 =>
    .grd fun h3 =>
    .bnd fun r4 h5 =>
    .bnd fun r6 h7 =>
    .ret (runF_con0 hmix (tape := t1 ++ ([.br false, .reg [nt, nt, nt, nt, nt, nt, nt], .reg [nt, nt, nt], .rst [14] [.as [Ob.mk 1 ((List.replicate (w64 ((len_ eI v_a) + (len_ eI v_b))).toNat 0 : List Int).map eI) .live]] [(1, ii), (5, .c1 (.c0 (.len ((List.replicate (w64 ((len_ eI v_a) + (len_ eI v_b))).toNat 0 : List Int).length)))), (26, ii), (27, ii), (28, ii)], .sub (.exit 0) [(5, .osl 0 0 0 r4.length)] [[Ob.mk 1 (r4.map eI) .live]], .frz 0, .reg [nt, (.call { ac := [.c1 (.c0 (.sl (r4.map eI)))], rds := [0], r := .isl 1 (r6.map eI), sc := false }, true), nt]] : List TE)) (rr := ii) (by kernel_rfl) (.c h1 (.c h1 (.c h1 (.c h1 (.c h2 (.c ((h3).1) (.c (Int.le_refl (w64 ((len_ eI v_a) + (len_ eI v_b)))) (.c ((h3).2.1) (.c ((h3).2.2) (.c (row_prf (rep_prf eI (w64 ((len_ eI v_a) + (len_ eI v_b))).toNat 0) : [Ob.mk 1 (List.replicate (w64 ((len_ eI v_a) + (len_ eI v_b))).toNat [.n .i64 (0 : Int)]) .live] = [Ob.mk 1 ((List.replicate (w64 ((len_ eI v_a) + (len_ eI v_b))).toNat 0 : List Int).map eI) .live]) (.c (pure_row eI_pure (List.replicate (w64 ((len_ eI v_a) + (len_ eI v_b))).toNat 0 : List Int) : PureRow [Ob.mk 1 ((List.replicate (w64 ((len_ eI v_a) + (len_ eI v_b))).toNat 0 : List Int).map eI) .live]) (.c (len_rep (w64 ((len_ eI v_a) + (len_ eI v_b))).toNat (0 : Int)) (.c ((impl_times_L3_ok v_b v_a (len_ eI v_a) 0 (List.replicate (w64 ((len_ eI v_a) + (len_ eI v_b))).toNat 0 : List Int) r4 h5).vex) (.c (snap_full (show (r4.map eI) = (r4.map eI) from rfl) (show r4.length = r4.length from rfl)) (.c (fit_full (show (r4.map eI) = (r4.map eI) from rfl) (show r4.length = r4.length from rfl)) (.c (pure_map eI_pure r4) (.c (impl_trim_ok r4 r6 h7) .nil)))))))))))))))))))))

def impl_signed (v_neg : Bool) (v_mag : (List Int)) : Option TBigInt :=
  if v_neg = true then
    some (⟨(decide ((0 : Int) < (len_ eI v_mag))), v_mag⟩ : TBigInt)
  else
    some (⟨false, v_mag⟩ : TBigInt)

theorem impl_signed_ok (v_neg : Bool) (v_mag : (List Int)) : Wp (impl_signed v_neg v_mag) (fun r => Con PP 87 [.b v_neg, .isl 1 (v_mag.map eI)] [] (.agg [.b r.fNeg, .isl 1 (r.fMag.map eI)]) []) := by
  unfold impl_signed
  exact .ite (fun h1 =>
    .ret (runF_con0 hmix (tape := [.reg [nt], .reg [nt, nt, nt, nt, nt, (.br true, true), nt, nt, nt]]) (rr := ii) (by kernel_rfl) (.c h1 (.c h1 (.c h1 (.c h1 .nil))))))
    (fun h1 =>
    .ret (runF_con0 hmix (tape := [.reg [nt], .reg [nt, nt, nf, nf, nf, (.br false, true), nt, nt, nt]]) (rr := ii) (by kernel_rfl) (.c h1 (.c h1 (.c h1 (.c h1 .nil))))))

def impl_BigInt_times (v_x : TBigInt) (v_y : TBigInt) : Option TBigInt :=
  impl_times v_x.fMag v_y.fMag >>= fun r1 =>
  impl_signed (!(v_x.fNeg == v_y.fNeg)) r1 >>= fun r3 =>
  some r3

theorem impl_BigInt_times_ok (v_x : TBigInt) (v_y : TBigInt) : Wp (impl_BigInt_times v_x v_y) (fun r => Con PP 104 [.agg [.b v_x.fNeg, .isl 1 (v_x.fMag.map eI)], .agg [.b v_y.fNeg, .isl 1 (v_y.fMag.map eI)]] [] (.agg [.b r.fNeg, .isl 1 (r.fMag.map eI)]) []) := by
  unfold impl_BigInt_times
  exact .bnd fun r1 h2 =>
    .bnd fun r3 h4 =>
    .ret (runF_con0 hmix (tape := [.reg [nt, nt, nt], .reg [nt, nt, nt, nt, nt, nt, nt, nt, nt, (.call { ac := [ii, ii], r := .isl 1 (r1.map eI), sc := false }, true), (.call { ac := [ii, ii], r := .agg [.b r3.fNeg, .isl 1 (r3.fMag.map eI)], sc := false }, true), nt]]) (rr := ii) (by kernel_rfl) (.c (impl_times_ok v_x.fMag v_y.fMag r1 h2) (.c (impl_signed_ok (!(v_x.fNeg == v_y.fNeg)) r1 r3 h4) .nil)))

def impl_lowest (v_num : TBigInt) (v_den : (List Int)) : Option (Option TRatio_) :=
  if ((len_ eI v_num.fMag) == (0 : Int)) = true then
    some (some (⟨(⟨false, ([] : List Int)⟩ : TBigInt), ([1] : List Int)⟩ : TRatio_))
  else
    impl_divisor v_num.fMag v_den >>= fun r2 =>
    impl_compare r2 ([1] : List Int) >>= fun r4 =>
    if (r4 == (0 : Int)) = true then
      some (some (⟨v_num, v_den⟩ : TRatio_))
    else
      impl_over v_num.fMag r2 >>= fun r7 =>
      impl_over v_den r2 >>= fun r9 =>
      impl_signed v_num.fNeg r7.1 >>= fun r11 =>
      some (some (⟨r11, r9.1⟩ : TRatio_))

theorem impl_lowest_ok (v_num : TBigInt) (v_den : (List Int)) : Wp (impl_lowest v_num v_den) (fun r => Con PP 103 [.agg [.b v_num.fNeg, .isl 1 (v_num.fMag.map eI)], .isl 1 (v_den.map eI)] [] (aO 3 eTRatio_ r) []) := by
  unfold impl_lowest
  exact (let t1 : List TE := [.reg [nt, nt], .reg [nt, nt, nt, nt]];
    .ite (fun h1 =>
    .ret (runF_con0 hmix (tape := t1 ++ ([.br true, .reg [nt, nt, nt, nt]] : List TE)) (rr := .c1 (.ptro [.id, .nl 1, .sl (([1] : List Int).map eI)])) (by kernel_rfl) (.c h1 (.c (snap_full (show [[.n .i64 (1 : Int)]] = (([1] : List Int)).map eI from rfl) (show 1 = ([1] : List Int).length from rfl)) (.c (fit_full (show [[.n .i64 (1 : Int)]] = (([1] : List Int)).map eI from rfl) (show 1 = ([1] : List Int).length from rfl)) (.c (pure_map eI_pure ([1] : List Int)) (.c (pure_es1 (eTRatio__pure (⟨(⟨false, ([] : List Int)⟩ : TBigInt), ([1] : List Int)⟩ : TRatio_)) : PureEs [[.b false, .isl 1 (([] : List Int).map eI), .isl 1 (([1] : List Int).map eI)]]) .nil)))))))
    (fun h1 =>
    .bnd fun r2 h3 =>
    .bnd fun r4 h5 =>
    (let t2 : List TE := t1 ++ ([.br false, .reg [nt, nt, nt, (.call { ac := [ii, ii], r := .isl 1 (r2.map eI), sc := false }, true), nt], .reg [nt, nt, (.call { ac := [ii, .c1 (.c0 (.sl (([1] : List Int).map eI)))], rds := [12], r := .n .i64 r4, sc := true }, true), nt]] : List TE);
    have o3 := ((.c h1 (.c (impl_divisor_ok v_num.fMag v_den r2 h3) (.c (snap_full (show [[.n .i64 (1 : Int)]] = (([1] : List Int)).map eI from rfl) (show 1 = ([1] : List Int).length from rfl)) (.c (fit_full (show [[.n .i64 (1 : Int)]] = (([1] : List Int)).map eI from rfl) (show 1 = ([1] : List Int).length from rfl)) (.c (pure_map eI_pure ([1] : List Int)) (.c (impl_compare_ok r2 ([1] : List Int) r4 h5) (.c (Sc.n _ _ : Sc (.n .i64 r4)) .nil))))))) : AllP _);
    .ite (fun h6 =>
    .ret (runF_con0 hmix (tape := t2 ++ ([.br true, .reg [nt, nt, nt, nt, nt]] : List TE)) (rr := .c1 (.ptro [.id, .id, .id])) (by kernel_rfl) (o3.app (.c h6 (.c (pure_es1 (eTRatio__pure (⟨v_num, v_den⟩ : TRatio_)) : PureEs [[.b v_num.fNeg, .isl 1 (v_num.fMag.map eI), .isl 1 (v_den.map eI)]]) .nil)))))
    (fun h6 =>
    .bnd fun r7 h8 =>
    .bnd fun r9 h10 =>
    .bnd fun r11 h12 =>
    .ret (runF_con0 hmix (tape := t2 ++ ([.br false, .reg [nt, nt, nt, (.call { ac := [ii, ii], r := .tup [.isl 1 (r7.1.map eI), .isl 1 (r7.2.map eI)], sc := false }, true), nt, nt, nt, nt, nt], .reg [nt, nt, (.call { ac := [ii, ii], r := .tup [.isl 1 (r9.1.map eI), .isl 1 (r9.2.map eI)], sc := false }, true), nt, nt, nt, nt, nt], .reg [nt, nt, nt, (.call { ac := [ii, ii], r := .agg [.b r11.fNeg, .isl 1 (r11.fMag.map eI)], sc := false }, true), nt, nt, nt, nt]] : List TE)) (rr := .c1 (.ptro [.id, .id, .id])) (by kernel_rfl) (o3.app (.c h6 (.c (impl_over_ok v_num.fMag r2 r7 h8) (.c (impl_over_ok v_den r2 r9 h10) (.c (impl_signed_ok v_num.fNeg r7.1 r11 h12) (.c (pure_es1 (eTRatio__pure (⟨r11, r9.1⟩ : TRatio_)) : PureEs [[.b r11.fNeg, .isl 1 (r11.fMag.map eI), .isl 1 (r9.1.map eI)]]) .nil)))))))))))

def impl_ratio_times (v_x : (Option TRatio_)) (v_y : (Option TRatio_)) : Option (Option TRatio_) :=
  v_x >>= fun y1 =>
  v_y >>= fun y3 =>
  impl_BigInt_times y1.gNum y3.gNum >>= fun r5 =>
  impl_times y1.gDen y3.gDen >>= fun r7 =>
  impl_lowest r5 r7 >>= fun r9 =>
  some r9

theorem impl_ratio_times_ok (v_x : (Option TRatio_)) (v_y : (Option TRatio_)) : Wp (impl_ratio_times v_x v_y) (fun r => Con PP 86 [aO 3 eTRatio_ v_x, aO 3 eTRatio_ v_y] [] (aO 3 eTRatio_ r) []) := by
  unfold impl_ratio_times
  exact .bnd fun y1 h2 =>
    .bnd fun y3 h4 =>
    .bnd fun r5 h6 =>
    .bnd fun r7 h8 =>
    .bnd fun r9 h10 =>
    .ret (runF_con0 hmix (tape := [.reg [nt], .reg [nt, (.re 5 (.ipo 3 (some (eTRatio_ y1))) .bd, true), nt, nt, nt, (.re 9 (.ipo 3 (some (eTRatio_ y3))) .bd, true), nt, nt, (.call { ac := [ii, ii], r := .agg [.b r5.fNeg, .isl 1 (r5.fMag.map eI)], sc := false }, true), nt, (.re 14 (.ipo 3 (some (eTRatio_ y1))) .bd, true), nt, nt, nt, (.re 18 (.ipo 3 (some (eTRatio_ y3))) .bd, true), nt, nt, (.call { ac := [ii, ii], r := .isl 1 (r7.map eI), sc := false }, true), (.call { ac := [ii, ii], r := aO 3 eTRatio_ r9, sc := false }, true), nt]]) (rr := ii) (by kernel_rfl) (.c (re_eq (aO_some h2 : aO 3 eTRatio_ v_x = .ipo 3 (some (eTRatio_ y1)))) (.c (re_eq (aO_some h4 : aO 3 eTRatio_ v_y = .ipo 3 (some (eTRatio_ y3)))) (.c (impl_BigInt_times_ok y1.gNum y3.gNum r5 h6) (.c (re_eq (aO_some h2 : aO 3 eTRatio_ v_x = .ipo 3 (some (eTRatio_ y1)))) (.c (re_eq (aO_some h4 : aO 3 eTRatio_ v_y = .ipo 3 (some (eTRatio_ y3)))) (.c (impl_times_ok y1.gDen y3.gDen r7 h8) (.c (impl_lowest_ok r5 r7 r9 h10) .nil))))))))

def impl_fit (v_x : (Option TRatio_)) : Option (Option TRatio_) :=
  v_x >>= fun y1 =>
  if (decide ((24 : Int) < (len_ eI y1.gNum.fMag))) = true then
    some (none : (Option TRatio_))
  else
    if (decide ((24 : Int) < (len_ eI y1.gDen))) = true then
      some (none : (Option TRatio_))
    else
      some v_x

theorem impl_fit_ok (v_x : (Option TRatio_)) : Wp (impl_fit v_x) (fun r => Con PP 85 [aO 3 eTRatio_ v_x] [] (aO 3 eTRatio_ r) []) := by
  unfold impl_fit
  exact .bnd fun y1 h2 =>
    (have o1 := ((.c (re_eq (aO_some h2 : aO 3 eTRatio_ v_x = .ipo 3 (some (eTRatio_ y1)))) .nil) : AllP _);
    .ite (fun h3 =>
    .ret (runF_con0 hmix (tape := [.reg [nt], .reg [nt, (.re 3 (.ipo 3 (some (eTRatio_ y1))) .bd, true), nt, nt, nt, nt, nt, nt, nf, nf, nf, nf, nf, nf, (.br true, true)], .br true, .reg [nt]]) (rr := .c1 (.c0 (.po 3))) (by kernel_rfl) (o1.app (.c h3 (.c h3 (.c h3 (.c h3 (.c h3 (.c h3 (.c h3 (.c (rfl : true = true) .nil)))))))))))
    (fun h3 =>
    (let t2 : List TE := [.reg [nt], .reg [nt, (.re 3 (.ipo 3 (some (eTRatio_ y1))) .bd, true), nt, nt, nt, nt, nt, nt, nt, (.re 11 (.ipo 3 (some (eTRatio_ y1))) .bd, true), nt, nt, nt, nt, (.br false, true)]];
    have o3 := o1.app (.c h3 (.c h3 (.c (re_eq (aO_some h2 : aO 3 eTRatio_ v_x = .ipo 3 (some (eTRatio_ y1)))) (.c h3 (.c h3 (.c h3 (.c h3 (.c h3 .nil))))))));
    .ite (fun h4 =>
    .ret (runF_con0 hmix (tape := t2 ++ ([.br true, .reg [nt]] : List TE)) (rr := .c1 (.c0 (.po 3))) (by kernel_rfl) (o3.app (.c h4 .nil))))
    (fun h4 =>
    .ret (runF_con0 hmix (tape := t2 ++ ([.br false, .reg [nt, nt]] : List TE)) (rr := ii) (by kernel_rfl) (o3.app (.c h4 .nil)))))))

def impl_mul (v_a : (Option TRatio_)) (v_b : (Option TRatio_)) : Option (Option TRatio_) :=
  v_a.elim
  (some (none : (Option TRatio_)))
  fun y2 =>
  v_b.elim
  (some (none : (Option TRatio_)))
  fun y4 =>
  impl_ratio_times v_a v_b >>= fun r5 =>
  impl_fit r5 >>= fun r7 =>
  some r7

theorem impl_mul_ok (v_a : (Option TRatio_)) (v_b : (Option TRatio_)) : Wp (impl_mul v_a v_b) (fun r => Con PP 67 [aO 3 eTRatio_ v_a, aO 3 eTRatio_ v_b] [] (aO 3 eTRatio_ r) []) := by
  unfold impl_mul
  exact .opt (fun h1 =>
    .ret (runF_con0 hmix (tape := [.reg [nt], .reg [nt, (.re 5 (.ipo 3 none) .bd, true), nt, nf, nf, nt], .br true, .reg [nt]]) (rr := .c1 (.c0 (.po 3))) (by kernel_rfl) (.c (re_eq (aO_none h1 : aO 3 eTRatio_ v_a = .ipo 3 none)) (.c (rfl : true = true) (.c (rfl : true = true) (.c (rfl : true = true) .nil))))))
    (fun y2 h1 =>
    (have o1 := ((.c (re_eq (aO_some h1 : aO 3 eTRatio_ v_a = .ipo 3 (some (eTRatio_ y2)))) (.c (rfl : false = false) .nil)) : AllP _);
    .opt (fun h3 =>
    .ret (runF_con0 hmix (tape := [.reg [nt], .reg [nt, (.re 5 (.ipo 3 (some (eTRatio_ y2))) .bd, true), nt, nt, (.re 8 (.ipo 3 none) .bd, true), nt], .br true, .reg [nt]]) (rr := .c1 (.c0 (.po 3))) (by kernel_rfl) (o1.app (.c (rfl : false = false) (.c (re_eq (aO_none h3 : aO 3 eTRatio_ v_b = .ipo 3 none)) (.c (rfl : true = true) .nil))))))
    (fun y4 h3 =>
    .bnd fun r5 h6 =>
    .bnd fun r7 h8 =>
    .ret (runF_con0 hmix (tape := [.reg [nt], .reg [nt, (.re 5 (.ipo 3 (some (eTRatio_ y2))) .bd, true), nt, nt, (.re 8 (.ipo 3 (some (eTRatio_ y4))) .bd, true), nt], .br false, .reg [nt, nt, (.call { ac := [ii, ii], r := aO 3 eTRatio_ r5, sc := false }, true), (.call { ac := [ii], r := aO 3 eTRatio_ r7, sc := false }, true), nt]]) (rr := ii) (by kernel_rfl) (o1.app (.c (rfl : false = false) (.c (re_eq (aO_some h3 : aO 3 eTRatio_ v_b = .ipo 3 (some (eTRatio_ y4)))) (.c (rfl : false = false) (.c (impl_ratio_times_ok v_a v_b r5 h6) (.c (impl_fit_ok r5 r7 h8) .nil))))))))))

def impl_integer (v_n : Int) : Option TBigInt :=
  if (decide (v_n < (0 : Int))) = true then
    impl_limbsOf (IntKind.wrap .u64 ((IntKind.wrap .u64 (w64 (0 - (w64 (v_n + (1 : Int)))))) + (1 : Int))) >>= fun r2 =>
    impl_signed true r2 >>= fun r4 =>
    some r4
  else
    impl_limbsOf (IntKind.wrap .u64 v_n) >>= fun r2 =>
    impl_signed false r2 >>= fun r4 =>
    some r4

theorem impl_integer_ok (v_n : Int) : Wp (impl_integer v_n) (fun r => Con PP 68 [.n .i64 v_n] [] (.agg [.b r.fNeg, .isl 1 (r.fMag.map eI)]) []) := by
  unfold impl_integer
  exact (let t1 : List TE := [.reg [nt], .reg [nt, nt]];
    .ite (fun h1 =>
    .bnd fun r2 h3 =>
    .bnd fun r4 h5 =>
    .ret (runF_con0 hmix (tape := t1 ++ ([.br true, .reg [nt, nt, nt, nt, nt, (.call { ac := [ii], r := .isl 1 (r2.map eI), sc := false }, true), (.call { ac := [ii, ii], r := .agg [.b r4.fNeg, .isl 1 (r4.fMag.map eI)], sc := false }, true), nt]] : List TE)) (rr := ii) (by kernel_rfl) (.c h1 (.c (impl_limbsOf_ok (IntKind.wrap .u64 ((IntKind.wrap .u64 (w64 (0 - (w64 (v_n + (1 : Int)))))) + (1 : Int))) r2 h3) (.c (impl_signed_ok true r2 r4 h5) .nil)))))
    (fun h1 =>
    .bnd fun r2 h3 =>
    .bnd fun r4 h5 =>
    .ret (runF_con0 hmix (tape := t1 ++ ([.br false, .reg [nt, nt, (.call { ac := [ii], r := .isl 1 (r2.map eI), sc := false }, true), (.call { ac := [ii, ii], r := .agg [.b r4.fNeg, .isl 1 (r4.fMag.map eI)], sc := false }, true), nt]] : List TE)) (rr := ii) (by kernel_rfl) (.c h1 (.c (impl_limbsOf_ok (IntKind.wrap .u64 v_n) r2 h3) (.c (impl_signed_ok false r2 r4 h5) .nil))))))

def impl_whole (v_n : Int) : Option (Option TRatio_) :=
  impl_integer v_n >>= fun r1 =>
  some (some (⟨r1, ([1] : List Int)⟩ : TRatio_))

theorem impl_whole_ok (v_n : Int) : Wp (impl_whole v_n) (fun r => Con PP 48 [.n .i64 v_n] [] (aO 3 eTRatio_ r) []) := by
  unfold impl_whole
  exact .bnd fun r1 h2 =>
    .ret (runF_con0 hmix (tape := [.reg [nt], .reg [nt, (.call { ac := [ii], r := .agg [.b r1.fNeg, .isl 1 (r1.fMag.map eI)], sc := false }, true), nt, nt, nt, nt]]) (rr := .c1 (.ptro [.id, .id, .sl (([1] : List Int).map eI)])) (by kernel_rfl) (.c (impl_integer_ok v_n r1 h2) (.c (snap_full (show [[.n .i64 (1 : Int)]] = (([1] : List Int)).map eI from rfl) (show 1 = ([1] : List Int).length from rfl)) (.c (fit_full (show [[.n .i64 (1 : Int)]] = (([1] : List Int)).map eI from rfl) (show 1 = ([1] : List Int).length from rfl)) (.c (pure_map eI_pure ([1] : List Int)) (.c (pure_es1 (eTRatio__pure (⟨r1, ([1] : List Int)⟩ : TRatio_)) : PureEs [[.b r1.fNeg, .isl 1 (r1.fMag.map eI), .isl 1 (([1] : List Int).map eI)]]) .nil))))))

def impl_Structure_forceSquare (v_s : TStructure) (v_q : (List (Option TRatio_))) (v_k : Int) : Option (Option TRatio_) :=
  impl_Structure_vector v_s v_k >>= fun r1 =>
  if 0 ≤ v_k ∧ v_k < v_q.length then
  v_q[v_k.toNat]? >>= fun x4 =>
  impl_mul x4 x4 >>= fun r6 =>
  impl_whole (w64 ((w64 (r1.1 * r1.1)) + (w64 (r1.2 * r1.2)))) >>= fun r8 =>
  impl_mul r6 r8 >>= fun r10 =>
  some r10
  else none

theorem impl_Structure_forceSquare_ok (v_s : TStructure) (v_q : (List (Option TRatio_))) (v_k : Int) : Wp (impl_Structure_forceSquare v_s v_q v_k) (fun r => Con PP 47 [.ipt 2 [[.isl 4 (v_s.fJoints.map eTJoint), .isl 3 (v_s.fMembers.map eTMember)]] 0 0, .isl 1 (v_q.map (eO 3 eTRatio_)), .n .i64 v_k] [] (aO 3 eTRatio_ r) []) := by
  unfold impl_Structure_forceSquare
  exact .bnd fun r1 h2 =>
    .grd fun h3 =>
    .bnd fun x4 h5 =>
    .bnd fun r6 h7 =>
    .bnd fun r8 h9 =>
    .bnd fun r10 h11 =>
    .ret (runF_con0 hmix (tape := [.reg [nt], .reg [nt, nt, (.call { ac := [ii, ii], r := .tup [.n .i64 r1.1, .n .i64 r1.2], sc := true }, true), nt, nt, nt, nt, nt], .reg [nt, nt, nt, (.el ((eO 3 eTRatio_) x4), true), nt, nt, nt, (.el ((eO 3 eTRatio_) x4), true), (.call { ac := [ii, ii], r := aO 3 eTRatio_ r6, sc := false }, true), nt, nt, nt, nt, nt, nt, nt, (.call { ac := [ii], r := aO 3 eTRatio_ r8, sc := false }, true), (.call { ac := [ii, ii], r := aO 3 eTRatio_ r10, sc := false }, true), nt]]) (rr := ii) (by kernel_rfl) (.c (impl_Structure_vector_ok v_s v_k r1 h2) (.c (sc_tup (sc_cons (Sc.n _ _ : Sc (.n .i64 r1.1)) (sc_cons (Sc.n _ _ : Sc (.n .i64 r1.2)) sc_nil)) : Sc (.tup [.n .i64 r1.1, .n .i64 r1.2])) (.c ((h3).1) (.c (lt_mapI (h3).2 : v_k < ((v_q.map (eO 3 eTRatio_)).length : Nat)) (.c (map_get h5 : (v_q.map (eO 3 eTRatio_))[v_k.toNat]? = some ((eO 3 eTRatio_) x4)) (.c ((h3).1) (.c (lt_mapI (h3).2 : v_k < ((v_q.map (eO 3 eTRatio_)).length : Nat)) (.c (map_get h5 : (v_q.map (eO 3 eTRatio_))[v_k.toNat]? = some ((eO 3 eTRatio_) x4)) (.c (impl_mul_ok x4 x4 r6 h7) (.c (impl_whole_ok (w64 ((w64 (r1.1 * r1.1)) + (w64 (r1.2 * r1.2)))) r8 h9) (.c (impl_mul_ok r6 r8 r10 h11) .nil))))))))))))

def impl_forceSquares_L1_head (v_s_ : (List TJoint)) (v_s_' : (List TMember)) (v_list : (List (Option TRatio_))) (v_t22 : Int) (v_t23 : Int) (row0 : (List (Option TRatio_))) : S := mkS [(0, .ipt 2 [[.isl 4 (v_s_.map eTJoint), .isl 3 (v_s_'.map eTMember)]] 0 0), (6, .isl 1 (v_list.map (eO 3 eTRatio_))), (8, .osl 0 0 0 row0.length), (22, .n .i64 v_t22), (23, .n .i64 v_t23)] [[Ob.mk 1 (row0.map (eO 3 eTRatio_)) .live]]

def impl_forceSquares_L1_ex : (((List (Option TRatio_))) ⊕ (Unit)) → Exit
  | .inl _ => .exit 0
  | .inr _ => .ret

def impl_forceSquares_L1_out (v_s_ : (List TJoint)) (v_s_' : (List TMember)) (v_list : (List (Option TRatio_))) (v_t22 : Int) : (((List (Option TRatio_))) ⊕ (Unit)) → S
  | .inl a => mkS [(8, .osl 0 0 0 a.length)] [[Ob.mk 1 (a.map (eO 3 eTRatio_)) .live]]
  | .inr a => mkS [(4, .nils), (5, .b false)] []

abbrev impl_forceSquares_L1_V := VEx PP 40 0 (nodeAt (bodyOf PP 26) [1, 1, 1, 1, 0, 1, 0, 0])

def impl_forceSquares_L1_body (v_s_ : (List TJoint)) (v_s_' : (List TMember)) (v_list : (List (Option TRatio_))) (v_t22 : Int) (v_t23 : Int) (row0 : (List (Option TRatio_))) : Option ((Int × (List (Option TRatio_))) ⊕ (((List (Option TRatio_))) ⊕ (Unit))) :=
  if (decide (v_t23 < v_t22)) = true then
    impl_Structure_forceSquare (⟨v_s_, v_s_'⟩ : TStructure) v_list v_t23 >>= fun r2 =>
    if 0 ≤ v_t23 ∧ v_t23 < (row0.length : Nat) then
    if (0 + v_t23.toNat) < row0.length then
    (row0.set (0 + v_t23.toNat) r2)[(0 + v_t23.toNat)]? >>= fun x6 =>
    x6.elim
    (some (.inr (.inr ())))
    fun y9 =>
    some (.inl (w64 (v_t23 + (1 : Int)), row0.set (0 + v_t23.toNat) r2))
    else none
    else none
  else
    some (.inr (.inl row0))

def impl_forceSquares_L1 (v_s_ : (List TJoint)) (v_s_' : (List TMember)) (v_list : (List (Option TRatio_))) (v_t22 : Int) (v_t23 : Int) (row0 : (List (Option TRatio_))) : Option (((List (Option TRatio_))) ⊕ (Unit)) := iter (fun w : Int × (List (Option TRatio_)) => impl_forceSquares_L1_body v_s_ v_s_' v_list v_t22 w.1 w.2) (v_t23, row0)

theorem impl_forceSquares_L1_body_ok (v_s_ : (List TJoint)) (v_s_' : (List TMember)) (v_list : (List (Option TRatio_))) (v_t22 : Int) (v_t23 : Int) (row0 : (List (Option TRatio_))) : Wp (impl_forceSquares_L1_body v_s_ v_s_' v_list v_t22 v_t23 row0) (Sum.elim
    (fun w => impl_forceSquares_L1_V .normal (impl_forceSquares_L1_head v_s_ v_s_' v_list v_t22 v_t23 row0) (impl_forceSquares_L1_head v_s_ v_s_' v_list v_t22 w.1 w.2))
    (fun r => impl_forceSquares_L1_V (impl_forceSquares_L1_ex r) (impl_forceSquares_L1_head v_s_ v_s_' v_list v_t22 v_t23 row0) (impl_forceSquares_L1_out v_s_ v_s_' v_list v_t22 r))) := by
  unfold impl_forceSquares_L1_body
  exact .ite (fun h1 =>
    .bnd fun r2 h3 =>
    .grd fun h4 =>
    .grd fun h5 =>
    .bnd fun x6 h7 =>
    (let t1 : List TE := [.reg [nt], .br true, .reg [nt, nt], .reg [nt, nt, nt, nt, nt, (.call { ac := [ii, ii, ii], r := aO 3 eTRatio_ r2, sc := false }, true), nt, (.bd, true)]];
    have o2 := ((.c h1 (.c (impl_Structure_forceSquare_ok (⟨v_s_, v_s_'⟩ : TStructure) v_list v_t23 r2 h3) (.c ((h4).1) (.c ((h4).2) (.c (lt_map h5 : (0 + v_t23.toNat) < (row0.map (eO 3 eTRatio_)).length) (.c (rfl : 1 = 1) (.c ((h4).1) (.c ((h4).2) (.c (get_prf (set_prf (show (row0.map (eO 3 eTRatio_)) = (row0.map (eO 3 eTRatio_)) from rfl) (0 + v_t23.toNat) r2) h7) .nil))))))))) : AllP _);
    .opt (fun h8 =>
    .ret ((okC_sound hmix (tape := t1 ++ ([.reg [nt, nt, nt, (.el ((eO 3 eTRatio_) x6), true), (.re 36 (.ipo 3 none) .bd, true)], .br true, .reg [nt, nt], .rst [] [] [(4, ii), (5, ii)]] : List TE)) (nr := 1) (by kernel_rfl) (o2.app (.c (re_eq (aO_none h8 : aO 3 eTRatio_ x6 = .ipo 3 none)) (.c (rfl : true = true) .nil))) (mkS_free _ _) : impl_forceSquares_L1_V (.ret) (impl_forceSquares_L1_head v_s_ v_s_' v_list v_t22 v_t23 row0) (impl_forceSquares_L1_out v_s_ v_s_' v_list v_t22 (.inr ())))))
    (fun y9 h8 =>
    .ret ((okC_sound hmix (tape := t1 ++ ([.reg [nt, nt, nt, (.el ((eO 3 eTRatio_) x6), true), (.re 36 (.ipo 3 (some (eTRatio_ y9))) .bd, true)], .br false, .reg [nt, nt], .rst [0] [.as [Ob.mk 1 ((row0.set (0 + v_t23.toNat) r2).map (eO 3 eTRatio_)) .live]] [(0, ii), (6, ii), (8, .c1 (.c0 (.len ((row0.set (0 + v_t23.toNat) r2).length)))), (22, ii), (23, ii)]] : List TE)) (nr := 1) (by kernel_rfl) (o2.app (.c (re_eq (aO_some h8 : aO 3 eTRatio_ x6 = .ipo 3 (some (eTRatio_ y9)))) (.c (rfl : false = false) (.c (row_prf (set_prf (show (row0.map (eO 3 eTRatio_)) = (row0.map (eO 3 eTRatio_)) from rfl) (0 + v_t23.toNat) r2) : [Ob.mk 1 ((row0.map (eO 3 eTRatio_)).set (0 + v_t23.toNat) [aO 3 eTRatio_ r2]) .live] = [Ob.mk 1 ((row0.set (0 + v_t23.toNat) r2).map (eO 3 eTRatio_)) .live]) (.c (pure_row (eO_pure (sz := 3) eTRatio__pure) (row0.set (0 + v_t23.toNat) r2) : PureRow [Ob.mk 1 ((row0.set (0 + v_t23.toNat) r2).map (eO 3 eTRatio_)) .live]) (.c (len_set (show row0.length = row0.length from rfl) (0 + v_t23.toNat) r2) .nil)))))) (mkS_free _ _) : impl_forceSquares_L1_V .normal (impl_forceSquares_L1_head v_s_ v_s_' v_list v_t22 v_t23 row0) (impl_forceSquares_L1_head v_s_ v_s_' v_list v_t22 (w64 (v_t23 + (1 : Int))) (row0.set (0 + v_t23.toNat) r2)))))))
    (fun h1 =>
    .ret ((okC_sound hmix (tape := [.reg [nt], .br false, .rst [0] [.pure] [(8, ii)]]) (nr := 1) (by kernel_rfl) (.c h1 (.c (pure_row (eO_pure (sz := 3) eTRatio__pure) row0 : PureRow [Ob.mk 1 (row0.map (eO 3 eTRatio_)) .live]) .nil)) (mkS_free _ _) : impl_forceSquares_L1_V (.exit 0) (impl_forceSquares_L1_head v_s_ v_s_' v_list v_t22 v_t23 row0) (impl_forceSquares_L1_out v_s_ v_s_' v_list v_t22 (.inl row0)))))

theorem impl_forceSquares_L1_ok (v_s_ : (List TJoint)) (v_s_' : (List TMember)) (v_list : (List (Option TRatio_))) (v_t22 : Int) (v_t23 : Int) (row0 : (List (Option TRatio_))) : ∀ r, impl_forceSquares_L1 v_s_ v_s_' v_list v_t22 v_t23 row0 = some r → VLoop PP 40 0 (nodeAt (bodyOf PP 26) [1, 1, 1, 1, 0, 1, 0, 0]) (impl_forceSquares_L1_ex r) (impl_forceSquares_L1_head v_s_ v_s_' v_list v_t22 v_t23 row0) (impl_forceSquares_L1_out v_s_ v_s_' v_list v_t22 r) := fun r h =>
  iter_ok (head := fun w : Int × (List (Option TRatio_)) => impl_forceSquares_L1_head v_s_ v_s_' v_list v_t22 w.1 w.2) (ex := impl_forceSquares_L1_ex) (out := impl_forceSquares_L1_out v_s_ v_s_' v_list v_t22) (by intro r; unfold impl_forceSquares_L1_ex; split <;> simp) (fun w => impl_forceSquares_L1_body_ok v_s_ v_s_' v_list v_t22 w.1 w.2) (v_t23, row0) r h

def impl_forceSquares (v_s : TStructure) (v_q : (List TRat)) : Option ((List (Option TRatio_)) × Bool) :=
  impl_densities v_s v_q >>= fun r1 =>
  if r1.2 = true then
    if 0 ≤ (len_ (eO 3 eTRatio_) r1.1) ∧ (8 : Int) * (len_ (eO 3 eTRatio_) r1.1) ≤ 281474976710656 ∧ (len_ (eO 3 eTRatio_) r1.1) < 9223372036854775808 then
    impl_forceSquares_L1 v_s.fJoints v_s.fMembers r1.1 (len_ (eO 3 eTRatio_) r1.1) 0 (List.replicate (len_ (eO 3 eTRatio_) r1.1).toNat (none : (Option TRatio_)) : List (Option TRatio_)) >>= fun r5 =>
    match r5 with
    | .inl a7 => (some (a7, true))
    | .inr a7 => (some (([] : List (Option TRatio_)), false))
    else none
  else
    some (([] : List (Option TRatio_)), false)

theorem impl_forceSquares_ok (v_s : TStructure) (v_q : (List TRat)) : Wp (impl_forceSquares v_s v_q) (fun r => Con PP 26 [.ipt 2 [[.isl 4 (v_s.fJoints.map eTJoint), .isl 3 (v_s.fMembers.map eTMember)]] 0 0, .isl 3 (v_q.map eTRat)] [] (.tup [.isl 1 (r.1.map (eO 3 eTRatio_)), .b r.2]) []) := by
  unfold impl_forceSquares
  exact .bnd fun r1 h2 =>
    (let t1 : List TE := [.reg [nt, nt], .reg [nt, nt, (.call { ac := [ii, ii], r := .tup [.isl 1 (r1.1.map (eO 3 eTRatio_)), .b r1.2], sc := false }, true), nt, nt, nt, nt, nt], .reg [nt, nt]];
    have o2 := ((.c (impl_densities_ok v_s v_q r1 h2) .nil) : AllP _);
    .ite (fun h3 =>
    .grd fun h4 =>
    .bnd fun r5 h6 =>
    (let t3 : List TE := t1 ++ ([.br false, .reg [nt, nt, (.el [aO 3 eTRatio_ (none : (Option TRatio_))], true), nt], .reg [nt, nt, nt]] : List TE);
    have o4 := o2.app (.c (not_t h3) (.c ((h4).1) (.c (Int.le_refl (len_ (eO 3 eTRatio_) r1.1)) (.c ((h4).2.1) (.c ((h4).2.2) .nil)))));
    (by
    rcases r5 with a7 | a7
    · exact (.ret (runF_con0 hmix (tape := t3 ++ ([.rst [14] [.as [Ob.mk 1 ((List.replicate (len_ (eO 3 eTRatio_) r1.1).toNat (none : (Option TRatio_)) : List (Option TRatio_)).map (eO 3 eTRatio_)) .live]] [(0, ii), (6, ii), (8, .c1 (.c0 (.len ((List.replicate (len_ (eO 3 eTRatio_) r1.1).toNat (none : (Option TRatio_)) : List (Option TRatio_)).length)))), (22, ii), (23, ii)], .sub (.exit 0) [(8, .osl 0 0 0 a7.length)] [[Ob.mk 1 (a7.map (eO 3 eTRatio_)) .live]], .reg [nt, nt, nt]] : List TE)) (rr := .comp [.c0 (.sl (a7.map (eO 3 eTRatio_))), .c0 .id]) (by kernel_rfl) (o4.app (.c (row_prf (rep_prf (eO 3 eTRatio_) (len_ (eO 3 eTRatio_) r1.1).toNat (none : (Option TRatio_))) : [Ob.mk 1 (List.replicate (len_ (eO 3 eTRatio_) r1.1).toNat [aO 3 eTRatio_ (none : (Option TRatio_))]) .live] = [Ob.mk 1 ((List.replicate (len_ (eO 3 eTRatio_) r1.1).toNat (none : (Option TRatio_)) : List (Option TRatio_)).map (eO 3 eTRatio_)) .live]) (.c (pure_row (eO_pure (sz := 3) eTRatio__pure) (List.replicate (len_ (eO 3 eTRatio_) r1.1).toNat (none : (Option TRatio_)) : List (Option TRatio_)) : PureRow [Ob.mk 1 ((List.replicate (len_ (eO 3 eTRatio_) r1.1).toNat (none : (Option TRatio_)) : List (Option TRatio_)).map (eO 3 eTRatio_)) .live]) (.c (len_rep (len_ (eO 3 eTRatio_) r1.1).toNat ((none : (Option TRatio_)) : (Option TRatio_))) (.c ((impl_forceSquares_L1_ok v_s.fJoints v_s.fMembers r1.1 (len_ (eO 3 eTRatio_) r1.1) 0 (List.replicate (len_ (eO 3 eTRatio_) r1.1).toNat (none : (Option TRatio_)) : List (Option TRatio_)) (.inl a7) h6).vex) (.c (snap_full (show (a7.map (eO 3 eTRatio_)) = (a7.map (eO 3 eTRatio_)) from rfl) (show a7.length = a7.length from rfl)) (.c (fit_full (show (a7.map (eO 3 eTRatio_)) = (a7.map (eO 3 eTRatio_)) from rfl) (show a7.length = a7.length from rfl)) (.c (pure_map (eO_pure (sz := 3) eTRatio__pure) a7) .nil))))))))))
    · exact (.ret (runF_con0 hmix (tape := t3 ++ ([.rst [14] [.as [Ob.mk 1 ((List.replicate (len_ (eO 3 eTRatio_) r1.1).toNat (none : (Option TRatio_)) : List (Option TRatio_)).map (eO 3 eTRatio_)) .live]] [(0, ii), (6, ii), (8, .c1 (.c0 (.len ((List.replicate (len_ (eO 3 eTRatio_) r1.1).toNat (none : (Option TRatio_)) : List (Option TRatio_)).length)))), (22, ii), (23, ii)], .sub (.ret) [(4, .nils), (5, .b false)] []] : List TE)) (rr := .comp [.c0 (.nl 1), .c0 .id]) (by kernel_rfl) (o4.app (.c (row_prf (rep_prf (eO 3 eTRatio_) (len_ (eO 3 eTRatio_) r1.1).toNat (none : (Option TRatio_))) : [Ob.mk 1 (List.replicate (len_ (eO 3 eTRatio_) r1.1).toNat [aO 3 eTRatio_ (none : (Option TRatio_))]) .live] = [Ob.mk 1 ((List.replicate (len_ (eO 3 eTRatio_) r1.1).toNat (none : (Option TRatio_)) : List (Option TRatio_)).map (eO 3 eTRatio_)) .live]) (.c (pure_row (eO_pure (sz := 3) eTRatio__pure) (List.replicate (len_ (eO 3 eTRatio_) r1.1).toNat (none : (Option TRatio_)) : List (Option TRatio_)) : PureRow [Ob.mk 1 ((List.replicate (len_ (eO 3 eTRatio_) r1.1).toNat (none : (Option TRatio_)) : List (Option TRatio_)).map (eO 3 eTRatio_)) .live]) (.c (len_rep (len_ (eO 3 eTRatio_) r1.1).toNat ((none : (Option TRatio_)) : (Option TRatio_))) (.c ((impl_forceSquares_L1_ok v_s.fJoints v_s.fMembers r1.1 (len_ (eO 3 eTRatio_) r1.1) 0 (List.replicate (len_ (eO 3 eTRatio_) r1.1).toNat (none : (Option TRatio_)) : List (Option TRatio_)) (.inr a7) h6).vex) .nil))))))))))
    (fun h3 =>
    .ret (runF_con0 hmix (tape := t1 ++ ([.br true, .reg [nt, nt]] : List TE)) (rr := .comp [.c0 (.nl 1), .c0 .id]) (by kernel_rfl) (o2.app (.c (not_f h3) .nil)))))

def impl_ratio_scaled (v_x : (Option TRatio_)) (v_by : (List Int)) : Option TBigInt :=
  v_x >>= fun y1 =>
  impl_times y1.gNum.fMag v_by >>= fun r3 =>
  impl_signed y1.gNum.fNeg r3 >>= fun r5 =>
  some r5

theorem impl_ratio_scaled_ok (v_x : (Option TRatio_)) (v_by : (List Int)) : Wp (impl_ratio_scaled v_x v_by) (fun r => Con PP 69 [aO 3 eTRatio_ v_x, .isl 1 (v_by.map eI)] [] (.agg [.b r.fNeg, .isl 1 (r.fMag.map eI)]) []) := by
  unfold impl_ratio_scaled
  exact .bnd fun y1 h2 =>
    .bnd fun r3 h4 =>
    .bnd fun r5 h6 =>
    .ret (runF_con0 hmix (tape := [.reg [nt], .reg [nt, (.re 5 (.ipo 3 (some (eTRatio_ y1))) .bd, true), nt, nt, nt, nt, (.re 10 (.ipo 3 (some (eTRatio_ y1))) .bd, true), nt, nt, nt, nt, (.call { ac := [ii, ii], r := .isl 1 (r3.map eI), sc := false }, true), (.call { ac := [ii, ii], r := .agg [.b r5.fNeg, .isl 1 (r5.fMag.map eI)], sc := false }, true), nt]]) (rr := ii) (by kernel_rfl) (.c (re_eq (aO_some h2 : aO 3 eTRatio_ v_x = .ipo 3 (some (eTRatio_ y1)))) (.c (re_eq (aO_some h2 : aO 3 eTRatio_ v_x = .ipo 3 (some (eTRatio_ y1)))) (.c (impl_times_ok y1.gNum.fMag v_by r3 h4) (.c (impl_signed_ok y1.gNum.fNeg r3 r5 h6) .nil)))))

def impl_BigInt_compare (v_x : TBigInt) (v_y : TBigInt) : Option Int :=
  if (v_x.fNeg == v_y.fNeg) = true then
    if v_x.fNeg = true then
      impl_compare v_y.fMag v_x.fMag >>= fun r3 =>
      some r3
    else
      impl_compare v_x.fMag v_y.fMag >>= fun r3 =>
      some r3
  else
    if v_x.fNeg = true then
      some (-1)
    else
      some 1

theorem impl_BigInt_compare_ok (v_x : TBigInt) (v_y : TBigInt) : Wp (impl_BigInt_compare v_x v_y) (fun r => Con PP 70 [.agg [.b v_x.fNeg, .isl 1 (v_x.fMag.map eI)], .agg [.b v_y.fNeg, .isl 1 (v_y.fMag.map eI)]] [] (.n .i64 r) []) := by
  unfold impl_BigInt_compare
  exact (let t1 : List TE := [.reg [nt, nt, nt]];
    .ite (fun h1 =>
    (let t2 : List TE := t1 ++ ([.reg [nt, nt, nt, nt, nt, nt, nf, nf, (.br false, true), nt], .br false, .reg [nt, nt, nt, nt, nt, nt], .br false, .reg [nt, nt, nt]] : List TE);
    have o3 := ((.c (not_t h1) (.c (not_t h1) (.c (not_t h1) (.c (rfl : false = false) (.c (not_t h1) .nil))))) : AllP _);
    .ite (fun h2 =>
    .bnd fun r3 h4 =>
    .ret (runF_con0 hmix (tape := t2 ++ ([.br true, .reg [nt, nt, nt, nt, (.call { ac := [ii, ii], r := .n .i64 r3, sc := true }, true), nt]] : List TE)) (rr := ii) (by kernel_rfl) (o3.app (.c h2 (.c (impl_compare_ok v_y.fMag v_x.fMag r3 h4) (.c (Sc.n _ _ : Sc (.n .i64 r3)) .nil))))))
    (fun h2 =>
    .bnd fun r3 h4 =>
    .ret (runF_con0 hmix (tape := t2 ++ ([.br false, .reg [nt, nt, nt, nt, (.call { ac := [ii, ii], r := .n .i64 r3, sc := true }, true), nt]] : List TE)) (rr := ii) (by kernel_rfl) (o3.app (.c h2 (.c (impl_compare_ok v_x.fMag v_y.fMag r3 h4) (.c (Sc.n _ _ : Sc (.n .i64 r3)) .nil))))))))
    (fun h1 =>
    (let t2 : List TE := t1 ++ ([.reg [nt, nt, nt, nt, nt, nt, nt, nt, (.br true, true), nt]] : List TE);
    have o3 := ((.c (not_f h1) (.c (not_f h1) (.c (not_f h1) .nil))) : AllP _);
    .ite (fun h2 =>
    .ret (runF_con0 hmix (tape := t2 ++ ([.br true, .reg [nt]] : List TE)) (rr := ii) (by kernel_rfl) (o3.app (.c h2 .nil))))
    (fun h2 =>
    .ret (runF_con0 hmix (tape := t2 ++ ([.br false, .reg [nt, nt, nt, nt, nt, nt], .br true, .reg [nt]] : List TE)) (rr := ii) (by kernel_rfl) (o3.app (.c h2 (.c (not_f h1) .nil))))))))

def impl_ratio_Cmp (v_x : (Option TRatio_)) (v_y : (Option TRatio_)) : Option Int :=
  v_y >>= fun y1 =>
  impl_ratio_scaled v_x y1.gDen >>= fun r3 =>
  v_x >>= fun y5 =>
  impl_ratio_scaled v_y y5.gDen >>= fun r7 =>
  impl_BigInt_compare r3 r7 >>= fun r9 =>
  some r9

theorem impl_ratio_Cmp_ok (v_x : (Option TRatio_)) (v_y : (Option TRatio_)) : Wp (impl_ratio_Cmp v_x v_y) (fun r => Con PP 49 [aO 3 eTRatio_ v_x, aO 3 eTRatio_ v_y] [] (.n .i64 r) []) := by
  unfold impl_ratio_Cmp
  exact .bnd fun y1 h2 =>
    .bnd fun r3 h4 =>
    .bnd fun y5 h6 =>
    .bnd fun r7 h8 =>
    .bnd fun r9 h10 =>
    .ret (runF_con0 hmix (tape := [.reg [nt], .reg [nt, nt, (.re 6 (.ipo 3 (some (eTRatio_ y1))) .bd, true), nt, nt, (.call { ac := [ii, ii], r := .agg [.b r3.fNeg, .isl 1 (r3.fMag.map eI)], sc := false }, true), nt, nt, (.re 12 (.ipo 3 (some (eTRatio_ y5))) .bd, true), nt, nt, (.call { ac := [ii, ii], r := .agg [.b r7.fNeg, .isl 1 (r7.fMag.map eI)], sc := false }, true), (.call { ac := [ii, ii], r := .n .i64 r9, sc := true }, true), nt]]) (rr := ii) (by kernel_rfl) (.c (re_eq (aO_some h2 : aO 3 eTRatio_ v_y = .ipo 3 (some (eTRatio_ y1)))) (.c (impl_ratio_scaled_ok v_x y1.gDen r3 h4) (.c (re_eq (aO_some h6 : aO 3 eTRatio_ v_x = .ipo 3 (some (eTRatio_ y5)))) (.c (impl_ratio_scaled_ok v_y y5.gDen r7 h8) (.c (impl_BigInt_compare_ok r3 r7 r9 h10) (.c (Sc.n _ _ : Sc (.n .i64 r9)) .nil)))))))

def impl_needOf_L1_head (v_x : (Option TRatio_)) (v_t5 : Int) : S := mkS [(0, aO 3 eTRatio_ v_x), (5, .n .i64 v_t5)] []

def impl_needOf_L1_ex : ((Unit) ⊕ (Int)) → Exit
  | .inl _ => .exit 0
  | .inr _ => .ret

def impl_needOf_L1_out (v_x : (Option TRatio_)) : ((Unit) ⊕ (Int)) → S
  | .inl a => mkS [] []
  | .inr a => mkS [(2, .n .i64 a), (3, .b true)] []

abbrev impl_needOf_L1_V := VEx PP 17 0 (nodeAt (bodyOf PP 27) [1, 0, 1, 0, 0])

def impl_needOf_L1_body (v_x : (Option TRatio_)) (v_t5 : Int) : Option ((Int) ⊕ ((Unit) ⊕ (Int))) :=
  if (decide (v_t5 < (1001 : Int))) = true then
    impl_whole (w64 (v_t5 * v_t5)) >>= fun r2 =>
    impl_ratio_Cmp r2 v_x >>= fun r4 =>
    if (decide ((0 : Int) ≤ r4)) = true then
      some (.inr (.inr v_t5))
    else
      some (.inl (w64 (v_t5 + (1 : Int))))
  else
    some (.inr (.inl ()))

def impl_needOf_L1 (v_x : (Option TRatio_)) (v_t5 : Int) : Option ((Unit) ⊕ (Int)) := iter (fun w : Int => impl_needOf_L1_body v_x w) v_t5

theorem impl_needOf_L1_body_ok (v_x : (Option TRatio_)) (v_t5 : Int) : Wp (impl_needOf_L1_body v_x v_t5) (Sum.elim
    (fun w => impl_needOf_L1_V .normal (impl_needOf_L1_head v_x v_t5) (impl_needOf_L1_head v_x w))
    (fun r => impl_needOf_L1_V (impl_needOf_L1_ex r) (impl_needOf_L1_head v_x v_t5) (impl_needOf_L1_out v_x r))) := by
  unfold impl_needOf_L1_body
  exact .ite (fun h1 =>
    .bnd fun r2 h3 =>
    .bnd fun r4 h5 =>
    (let t1 : List TE := [.reg [nt], .br true, .reg [nt, nt], .reg [nt, nt, nt, (.call { ac := [ii], r := aO 3 eTRatio_ r2, sc := false }, true), nt, (.call { ac := [ii, ii], r := .n .i64 r4, sc := true }, true), nt]];
    have o2 := ((.c h1 (.c (impl_whole_ok (w64 (v_t5 * v_t5)) r2 h3) (.c (impl_ratio_Cmp_ok r2 v_x r4 h5) (.c (Sc.n _ _ : Sc (.n .i64 r4)) .nil)))) : AllP _);
    .ite (fun h6 =>
    .ret ((okC_sound hmix (tape := t1 ++ ([.br true, .reg [nt, nt, nt], .rst [] [] [(2, ii), (3, ii)]] : List TE)) (nr := 0) (by kernel_rfl) (o2.app (.c h6 .nil)) (mkS_free _ _) : impl_needOf_L1_V (.ret) (impl_needOf_L1_head v_x v_t5) (impl_needOf_L1_out v_x (.inr v_t5)))))
    (fun h6 =>
    .ret ((okC_sound hmix (tape := t1 ++ ([.br false, .reg [nt, nt], .rst [] [] [(0, ii), (5, ii)]] : List TE)) (nr := 0) (by kernel_rfl) (o2.app (.c h6 .nil)) (mkS_free _ _) : impl_needOf_L1_V .normal (impl_needOf_L1_head v_x v_t5) (impl_needOf_L1_head v_x (w64 (v_t5 + (1 : Int)))))))))
    (fun h1 =>
    .ret ((okC_sound hmix (tape := [.reg [nt], .br false, .rst [] [] []]) (nr := 0) (by kernel_rfl) (.c h1 .nil) (mkS_free _ _) : impl_needOf_L1_V (.exit 0) (impl_needOf_L1_head v_x v_t5) (impl_needOf_L1_out v_x (.inl ())))))

theorem impl_needOf_L1_ok (v_x : (Option TRatio_)) (v_t5 : Int) : ∀ r, impl_needOf_L1 v_x v_t5 = some r → VLoop PP 17 0 (nodeAt (bodyOf PP 27) [1, 0, 1, 0, 0]) (impl_needOf_L1_ex r) (impl_needOf_L1_head v_x v_t5) (impl_needOf_L1_out v_x r) := fun r h =>
  iter_ok (head := fun w : Int => impl_needOf_L1_head v_x w) (ex := impl_needOf_L1_ex) (out := impl_needOf_L1_out v_x) (by intro r; unfold impl_needOf_L1_ex; split <;> simp) (fun w => impl_needOf_L1_body_ok v_x w) v_t5 r h

def impl_needOf (v_x : (Option TRatio_)) : Option (Int × Bool) :=
  impl_needOf_L1 v_x 0 >>= fun r1 =>
  match r1 with
  | .inl a3 => (some (0, false))
  | .inr a3 => (some (a3, true))

theorem impl_needOf_ok (v_x : (Option TRatio_)) : Wp (impl_needOf v_x) (fun r => Con PP 27 [aO 3 eTRatio_ v_x] [] (.tup [.n .i64 r.1, .b r.2]) []) := by
  unfold impl_needOf
  exact .bnd fun r1 h2 =>
    (let t1 : List TE := [.reg [nt, nt], .reg [nt]];
    (by
    rcases r1 with a3 | a3
    · exact (.ret (runF_con0 hmix (tape := t1 ++ ([.rst [] [] [(0, ii), (5, ii)], .sub (.exit 0) [] [], .reg [nt, nt]] : List TE)) (rr := ii) (by kernel_rfl) (.c ((impl_needOf_L1_ok v_x 0 (.inl a3) h2).vex) .nil)))
    · exact (.ret (runF_con0 hmix (tape := t1 ++ ([.rst [] [] [(0, ii), (5, ii)], .sub (.ret) [(2, .n .i64 a3), (3, .b true)] []] : List TE)) (rr := ii) (by kernel_rfl) (.c ((impl_needOf_L1_ok v_x 0 (.inr a3) h2).vex) .nil)))))

def impl_NeedsOf_o_L1_head (v_t21 : (List (Option TRatio_))) (v_t22 : Int) (v_t23 : Int) (row0 : (List Int)) : S := mkS [(8, .osl 0 0 0 row0.length), (21, .isl 1 (v_t21.map (eO 3 eTRatio_))), (22, .n .i64 v_t22), (23, .n .i64 v_t23)] [[Ob.mk 1 (row0.map eI) .live]]

def impl_NeedsOf_o_L1_ex : (((List Int)) ⊕ (Unit)) → Exit
  | .inl _ => .exit 0
  | .inr _ => .ret

def impl_NeedsOf_o_L1_out (v_t21 : (List (Option TRatio_))) (v_t22 : Int) : (((List Int)) ⊕ (Unit)) → S
  | .inl a => mkS [(8, .osl 0 0 0 a.length)] [[Ob.mk 1 (a.map eI) .live]]
  | .inr a => mkS [(4, .nils), (5, .b false)] []

abbrev impl_NeedsOf_o_L1_V := VEx PP 40 0 (nodeAt (bodyOf PP 9) [1, 1, 1, 1, 0, 1, 0, 0])

def impl_NeedsOf_o_L1_body (v_t21 : (List (Option TRatio_))) (v_t22 : Int) (v_t23 : Int) (row0 : (List Int)) : Option ((Int × (List Int)) ⊕ (((List Int)) ⊕ (Unit))) :=
  if (decide (v_t23 < v_t22)) = true then
    if 0 ≤ v_t23 ∧ v_t23 < v_t21.length then
    v_t21[v_t23.toNat]? >>= fun x3 =>
    impl_needOf x3 >>= fun r5 =>
    if 0 ≤ v_t23 ∧ v_t23 < (row0.length : Nat) then
    if (0 + v_t23.toNat) < row0.length then
    if r5.2 = true then
      some (.inl (w64 (v_t23 + (1 : Int)), row0.set (0 + v_t23.toNat) r5.1))
    else
      some (.inr (.inr ()))
    else none
    else none
    else none
  else
    some (.inr (.inl row0))

def impl_NeedsOf_o_L1 (v_t21 : (List (Option TRatio_))) (v_t22 : Int) (v_t23 : Int) (row0 : (List Int)) : Option (((List Int)) ⊕ (Unit)) := iter (fun w : Int × (List Int) => impl_NeedsOf_o_L1_body v_t21 v_t22 w.1 w.2) (v_t23, row0)

theorem impl_NeedsOf_o_L1_body_ok (v_t21 : (List (Option TRatio_))) (v_t22 : Int) (v_t23 : Int) (row0 : (List Int)) : Wp (impl_NeedsOf_o_L1_body v_t21 v_t22 v_t23 row0) (Sum.elim
    (fun w => impl_NeedsOf_o_L1_V .normal (impl_NeedsOf_o_L1_head v_t21 v_t22 v_t23 row0) (impl_NeedsOf_o_L1_head v_t21 v_t22 w.1 w.2))
    (fun r => impl_NeedsOf_o_L1_V (impl_NeedsOf_o_L1_ex r) (impl_NeedsOf_o_L1_head v_t21 v_t22 v_t23 row0) (impl_NeedsOf_o_L1_out v_t21 v_t22 r))) := by
  unfold impl_NeedsOf_o_L1_body
  exact .ite (fun h1 =>
    .grd fun h2 =>
    .bnd fun x3 h4 =>
    .bnd fun r5 h6 =>
    .grd fun h7 =>
    .grd fun h8 =>
    (let t1 : List TE := [.reg [nt], .br true, .reg [nt, nt, (.el ((eO 3 eTRatio_) x3), true), nt, nt], .reg [nt, nt, nt, (.call { ac := [ii], r := .tup [.n .i64 r5.1, .b r5.2], sc := true }, true), nt, nt, nt, nt, (.bd, true), nt], .reg [nt, nt]];
    have o2 := ((.c h1 (.c ((h2).1) (.c (lt_mapI (h2).2 : v_t23 < ((v_t21.map (eO 3 eTRatio_)).length : Nat)) (.c (map_get h4 : (v_t21.map (eO 3 eTRatio_))[v_t23.toNat]? = some ((eO 3 eTRatio_) x3)) (.c (impl_needOf_ok x3 r5 h6) (.c (sc_tup (sc_cons (Sc.n _ _ : Sc (.n .i64 r5.1)) (sc_cons (Sc.b _ : Sc (.b r5.2)) sc_nil)) : Sc (.tup [.n .i64 r5.1, .b r5.2])) (.c ((h7).1) (.c ((h7).2) (.c (lt_map h8 : (0 + v_t23.toNat) < (row0.map eI).length) (.c (rfl : 1 = 1) .nil)))))))))) : AllP _);
    .ite (fun h9 =>
    .ret ((okC_sound hmix (tape := t1 ++ ([.br false, .reg [nt, nt], .rst [0] [.as [Ob.mk 1 ((row0.set (0 + v_t23.toNat) r5.1).map eI) .live]] [(8, .c1 (.c0 (.len ((row0.set (0 + v_t23.toNat) r5.1).length)))), (21, ii), (22, ii), (23, ii)]] : List TE)) (nr := 1) (by kernel_rfl) (o2.app (.c (not_t h9) (.c (row_prf (set_prf (show (row0.map eI) = (row0.map eI) from rfl) (0 + v_t23.toNat) r5.1) : [Ob.mk 1 ((row0.map eI).set (0 + v_t23.toNat) [.n .i64 r5.1]) .live] = [Ob.mk 1 ((row0.set (0 + v_t23.toNat) r5.1).map eI) .live]) (.c (pure_row eI_pure (row0.set (0 + v_t23.toNat) r5.1) : PureRow [Ob.mk 1 ((row0.set (0 + v_t23.toNat) r5.1).map eI) .live]) (.c (len_set (show row0.length = row0.length from rfl) (0 + v_t23.toNat) r5.1) .nil))))) (mkS_free _ _) : impl_NeedsOf_o_L1_V .normal (impl_NeedsOf_o_L1_head v_t21 v_t22 v_t23 row0) (impl_NeedsOf_o_L1_head v_t21 v_t22 (w64 (v_t23 + (1 : Int))) (row0.set (0 + v_t23.toNat) r5.1)))))
    (fun h9 =>
    .ret ((okC_sound hmix (tape := t1 ++ ([.br true, .reg [nt, nt], .rst [] [] [(4, ii), (5, ii)]] : List TE)) (nr := 1) (by kernel_rfl) (o2.app (.c (not_f h9) .nil)) (mkS_free _ _) : impl_NeedsOf_o_L1_V (.ret) (impl_NeedsOf_o_L1_head v_t21 v_t22 v_t23 row0) (impl_NeedsOf_o_L1_out v_t21 v_t22 (.inr ())))))))
    (fun h1 =>
    .ret ((okC_sound hmix (tape := [.reg [nt], .br false, .rst [0] [.pure] [(8, ii)]]) (nr := 1) (by kernel_rfl) (.c h1 (.c (pure_row eI_pure row0 : PureRow [Ob.mk 1 (row0.map eI) .live]) .nil)) (mkS_free _ _) : impl_NeedsOf_o_L1_V (.exit 0) (impl_NeedsOf_o_L1_head v_t21 v_t22 v_t23 row0) (impl_NeedsOf_o_L1_out v_t21 v_t22 (.inl row0)))))

theorem impl_NeedsOf_o_L1_ok (v_t21 : (List (Option TRatio_))) (v_t22 : Int) (v_t23 : Int) (row0 : (List Int)) : ∀ r, impl_NeedsOf_o_L1 v_t21 v_t22 v_t23 row0 = some r → VLoop PP 40 0 (nodeAt (bodyOf PP 9) [1, 1, 1, 1, 0, 1, 0, 0]) (impl_NeedsOf_o_L1_ex r) (impl_NeedsOf_o_L1_head v_t21 v_t22 v_t23 row0) (impl_NeedsOf_o_L1_out v_t21 v_t22 r) := fun r h =>
  iter_ok (head := fun w : Int × (List Int) => impl_NeedsOf_o_L1_head v_t21 v_t22 w.1 w.2) (ex := impl_NeedsOf_o_L1_ex) (out := impl_NeedsOf_o_L1_out v_t21 v_t22) (by intro r; unfold impl_NeedsOf_o_L1_ex; split <;> simp) (fun w => impl_NeedsOf_o_L1_body_ok v_t21 v_t22 w.1 w.2) (v_t23, row0) r h

def impl_NeedsOf_o (v_s : TStructure) (v_q : (List TRat)) : Option (((List Int)) ⊕ (Unit)) :=
  impl_forceSquares v_s v_q >>= fun r1 =>
  if r1.2 = true then
    if 0 ≤ (len_ (eO 3 eTRatio_) r1.1) ∧ (8 : Int) * (len_ (eO 3 eTRatio_) r1.1) ≤ 281474976710656 ∧ (len_ (eO 3 eTRatio_) r1.1) < 9223372036854775808 then
    impl_NeedsOf_o_L1 r1.1 (len_ (eO 3 eTRatio_) r1.1) 0 (List.replicate (len_ (eO 3 eTRatio_) r1.1).toNat 0 : List Int) >>= fun r5 =>
    match r5 with
    | .inl a7 => (some (.inl a7))
    | .inr a7 => (some (.inr ()))
    else none
  else
    some (.inr ())

theorem impl_NeedsOf_o_ok (v_s : TStructure) (v_q : (List TRat)) : Wp (impl_NeedsOf_o v_s v_q) (Sum.elim (fun a => Con PP 9 [.agg [.isl 4 (v_s.fJoints.map eTJoint), .isl 3 (v_s.fMembers.map eTMember)], .isl 3 (v_q.map eTRat)] [] (.tup [.osl 0 0 0 a.length, .b true]) [[Ob.mk 1 (a.map eI) .live]]) (fun a => Con PP 9 [.agg [.isl 4 (v_s.fJoints.map eTJoint), .isl 3 (v_s.fMembers.map eTMember)], .isl 3 (v_q.map eTRat)] [] (.tup [.nils, .b false]) [])) := by
  unfold impl_NeedsOf_o
  exact .bnd fun r1 h2 =>
    (let t1 : List TE := [.reg [nt, nt, nt], .frz 0, .reg [nt, (.call { ac := [.c1 (.ptr [.id, .id]), ii], rds := [0], r := .tup [.isl 1 (r1.1.map (eO 3 eTRatio_)), .b r1.2], sc := false }, true), nt, nt, nt, nt, nt], .reg [nt, nt]];
    have o2 := ((.c (pure_es1 (eTStructure_pure v_s) : PureEs [[.isl 4 (v_s.fJoints.map eTJoint), .isl 3 (v_s.fMembers.map eTMember)]]) (.c (impl_forceSquares_ok v_s v_q r1 h2) .nil)) : AllP _);
    .ite (fun h3 =>
    .grd fun h4 =>
    .bnd fun r5 h6 =>
    (let t3 : List TE := t1 ++ ([.br false, .reg [nt, nt, nt, nt], .reg [nt, nt, nt]] : List TE);
    have o4 := o2.app (.c (not_t h3) (.c ((h4).1) (.c (Int.le_refl (len_ (eO 3 eTRatio_) r1.1)) (.c ((h4).2.1) (.c ((h4).2.2) .nil)))));
    (by
    rcases r5 with a7 | a7
    · exact (.ret (runF_con hmix (tape := t3 ++ ([.rst [14] [.as [Ob.mk 1 ((List.replicate (len_ (eO 3 eTRatio_) r1.1).toNat 0 : List Int).map eI) .live]] [(8, .c1 (.c0 (.len ((List.replicate (len_ (eO 3 eTRatio_) r1.1).toNat 0 : List Int).length)))), (21, ii), (22, ii), (23, ii)], .sub (.exit 0) [(8, .osl 0 0 0 a7.length)] [[Ob.mk 1 (a7.map eI) .live]], .reg [nt, nt, nt]] : List TE)) (mv := [0]) (rc := [.pure]) (rr := .comp [.c0 .id, .c0 .id]) (by kernel_rfl) (o4.app (.c (row_prf (rep_prf eI (len_ (eO 3 eTRatio_) r1.1).toNat 0) : [Ob.mk 1 (List.replicate (len_ (eO 3 eTRatio_) r1.1).toNat [.n .i64 (0 : Int)]) .live] = [Ob.mk 1 ((List.replicate (len_ (eO 3 eTRatio_) r1.1).toNat 0 : List Int).map eI) .live]) (.c (pure_row eI_pure (List.replicate (len_ (eO 3 eTRatio_) r1.1).toNat 0 : List Int) : PureRow [Ob.mk 1 ((List.replicate (len_ (eO 3 eTRatio_) r1.1).toNat 0 : List Int).map eI) .live]) (.c (len_rep (len_ (eO 3 eTRatio_) r1.1).toNat (0 : Int)) (.c ((impl_NeedsOf_o_L1_ok r1.1 (len_ (eO 3 eTRatio_) r1.1) 0 (List.replicate (len_ (eO 3 eTRatio_) r1.1).toNat 0 : List Int) (.inl a7) h6).vex) (.c (pure_row eI_pure a7 : PureRow [Ob.mk 1 (a7.map eI) .live]) .nil))))))))
    · exact (.ret (runF_con hmix (tape := t3 ++ ([.rst [14] [.as [Ob.mk 1 ((List.replicate (len_ (eO 3 eTRatio_) r1.1).toNat 0 : List Int).map eI) .live]] [(8, .c1 (.c0 (.len ((List.replicate (len_ (eO 3 eTRatio_) r1.1).toNat 0 : List Int).length)))), (21, ii), (22, ii), (23, ii)], .sub (.ret) [(4, .nils), (5, .b false)] []] : List TE)) (mv := []) (rc := []) (rr := ii) (by kernel_rfl) (o4.app (.c (row_prf (rep_prf eI (len_ (eO 3 eTRatio_) r1.1).toNat 0) : [Ob.mk 1 (List.replicate (len_ (eO 3 eTRatio_) r1.1).toNat [.n .i64 (0 : Int)]) .live] = [Ob.mk 1 ((List.replicate (len_ (eO 3 eTRatio_) r1.1).toNat 0 : List Int).map eI) .live]) (.c (pure_row eI_pure (List.replicate (len_ (eO 3 eTRatio_) r1.1).toNat 0 : List Int) : PureRow [Ob.mk 1 ((List.replicate (len_ (eO 3 eTRatio_) r1.1).toNat 0 : List Int).map eI) .live]) (.c (len_rep (len_ (eO 3 eTRatio_) r1.1).toNat (0 : Int)) (.c ((impl_NeedsOf_o_L1_ok r1.1 (len_ (eO 3 eTRatio_) r1.1) 0 (List.replicate (len_ (eO 3 eTRatio_) r1.1).toNat 0 : List Int) (.inr a7) h6).vex) .nil))))))))))
    (fun h3 =>
    .ret (runF_con hmix (tape := t1 ++ ([.br true, .reg [nt, nt]] : List TE)) (mv := []) (rc := []) (rr := ii) (by kernel_rfl) (o2.app (.c (not_f h3) .nil)))))

def laws_eqIntS_L1_head (v_a : (List Int)) (v_b : (List Int)) (v_i : Int) : S := mkS [(0, .isl 1 (v_a.map eI)), (1, .isl 1 (v_b.map eI)), (5, .n .i64 v_i)] []

def laws_eqIntS_L1_ex : ((Unit) ⊕ (Unit)) → Exit
  | .inl _ => .exit 0
  | .inr _ => .ret

def laws_eqIntS_L1_out (v_a : (List Int)) (v_b : (List Int)) : ((Unit) ⊕ (Unit)) → S
  | .inl a => mkS [] []
  | .inr a => mkS [(4, .b false)] []

abbrev laws_eqIntS_L1_V := VEx PP 26 0 (nodeAt (bodyOf PP 10) [1, 1, 0, 1, 0, 0])

def laws_eqIntS_L1_body (v_a : (List Int)) (v_b : (List Int)) (v_i : Int) : Option ((Int) ⊕ ((Unit) ⊕ (Unit))) :=
  if (decide (v_i < (len_ eI v_a))) = true then
    if 0 ≤ v_i ∧ v_i < v_a.length then
    v_a[v_i.toNat]? >>= fun x3 =>
    if 0 ≤ v_i ∧ v_i < v_b.length then
    v_b[v_i.toNat]? >>= fun x6 =>
    if (x3 != x6) = true then
      some (.inr (.inr ()))
    else
      some (.inl (w64 (v_i + (1 : Int))))
    else none
    else none
  else
    some (.inr (.inl ()))

def laws_eqIntS_L1 (v_a : (List Int)) (v_b : (List Int)) (v_i : Int) : Option ((Unit) ⊕ (Unit)) := iter (fun w : Int => laws_eqIntS_L1_body v_a v_b w) v_i

theorem laws_eqIntS_L1_body_ok (v_a : (List Int)) (v_b : (List Int)) (v_i : Int) : Wp (laws_eqIntS_L1_body v_a v_b v_i) (Sum.elim
    (fun w => laws_eqIntS_L1_V .normal (laws_eqIntS_L1_head v_a v_b v_i) (laws_eqIntS_L1_head v_a v_b w))
    (fun r => laws_eqIntS_L1_V (laws_eqIntS_L1_ex r) (laws_eqIntS_L1_head v_a v_b v_i) (laws_eqIntS_L1_out v_a v_b r))) := by
  unfold laws_eqIntS_L1_body
  exact (let t1 : List TE := [.reg [nt, nt, nt, nt]];
    .ite (fun h1 =>
    .grd fun h2 =>
    .bnd fun x3 h4 =>
    .grd fun h5 =>
    .bnd fun x6 h7 =>
    (let t2 : List TE := t1 ++ ([.br true, .reg [nt, nt, nt, (.el (eI x3), true), nt, nt, nt, (.el (eI x6), true), nt]] : List TE);
    have o3 := ((.c h1 (.c ((h2).1) (.c (lt_mapI (h2).2 : v_i < ((v_a.map eI).length : Nat)) (.c (map_get h4 : (v_a.map eI)[v_i.toNat]? = some (eI x3)) (.c ((h5).1) (.c (lt_mapI (h5).2 : v_i < ((v_b.map eI).length : Nat)) (.c (map_get h7 : (v_b.map eI)[v_i.toNat]? = some (eI x6)) .nil))))))) : AllP _);
    .ite (fun h8 =>
    .ret ((okC_sound hmix (tape := t2 ++ ([.br true, .reg [nt], .rst [] [] [(4, ii)]] : List TE)) (nr := 0) (by kernel_rfl) (o3.app (.c h8 .nil)) (mkS_free _ _) : laws_eqIntS_L1_V (.ret) (laws_eqIntS_L1_head v_a v_b v_i) (laws_eqIntS_L1_out v_a v_b (.inr ())))))
    (fun h8 =>
    .ret ((okC_sound hmix (tape := t2 ++ ([.br false, .reg [nt, nt, nt], .rst [] [] [(0, ii), (1, ii), (5, ii)]] : List TE)) (nr := 0) (by kernel_rfl) (o3.app (.c h8 .nil)) (mkS_free _ _) : laws_eqIntS_L1_V .normal (laws_eqIntS_L1_head v_a v_b v_i) (laws_eqIntS_L1_head v_a v_b (w64 (v_i + (1 : Int)))))))))
    (fun h1 =>
    .ret ((okC_sound hmix (tape := t1 ++ ([.br false, .rst [] [] []] : List TE)) (nr := 0) (by kernel_rfl) (.c h1 .nil) (mkS_free _ _) : laws_eqIntS_L1_V (.exit 0) (laws_eqIntS_L1_head v_a v_b v_i) (laws_eqIntS_L1_out v_a v_b (.inl ()))))))

theorem laws_eqIntS_L1_ok (v_a : (List Int)) (v_b : (List Int)) (v_i : Int) : ∀ r, laws_eqIntS_L1 v_a v_b v_i = some r → VLoop PP 26 0 (nodeAt (bodyOf PP 10) [1, 1, 0, 1, 0, 0]) (laws_eqIntS_L1_ex r) (laws_eqIntS_L1_head v_a v_b v_i) (laws_eqIntS_L1_out v_a v_b r) := fun r h =>
  iter_ok (head := fun w : Int => laws_eqIntS_L1_head v_a v_b w) (ex := laws_eqIntS_L1_ex) (out := laws_eqIntS_L1_out v_a v_b) (by intro r; unfold laws_eqIntS_L1_ex; split <;> simp) (fun w => laws_eqIntS_L1_body_ok v_a v_b w) v_i r h

def laws_eqIntS (v_a : (List Int)) (v_b : (List Int)) : Option Bool :=
  if ((len_ eI v_a) != (len_ eI v_b)) = true then
    some false
  else
    laws_eqIntS_L1 v_a v_b 0 >>= fun r2 =>
    match r2 with
    | .inl a4 => (some true)
    | .inr a4 => (some false)

theorem laws_eqIntS_ok (v_a : (List Int)) (v_b : (List Int)) : Wp (laws_eqIntS v_a v_b) (fun r => Con PP 10 [.isl 1 (v_a.map eI), .isl 1 (v_b.map eI)] [] (.b r) []) := by
  unfold laws_eqIntS
  exact (let t1 : List TE := [.reg [nt], .reg [nt, nt, nt, nt, nt]];
    .ite (fun h1 =>
    .ret (runF_con0 hmix (tape := t1 ++ ([.br true, .reg [nt]] : List TE)) (rr := ii) (by kernel_rfl) (.c h1 .nil)))
    (fun h1 =>
    .bnd fun r2 h3 =>
    (let t2 : List TE := t1 ++ ([.br false, .reg [nt]] : List TE);
    (by
    rcases r2 with a4 | a4
    · exact (.ret (runF_con0 hmix (tape := t2 ++ ([.rst [] [] [(0, ii), (1, ii), (5, ii)], .sub (.exit 0) [] [], .reg [nt]] : List TE)) (rr := ii) (by kernel_rfl) (.c h1 (.c ((laws_eqIntS_L1_ok v_a v_b 0 (.inl a4) h3).vex) .nil))))
    · exact (.ret (runF_con0 hmix (tape := t2 ++ ([.rst [] [] [(0, ii), (1, ii), (5, ii)], .sub (.ret) [(4, .b false)] []] : List TE)) (rr := ii) (by kernel_rfl) (.c h1 (.c ((laws_eqIntS_L1_ok v_a v_b 0 (.inr a4) h3).vex) .nil))))))))

def laws_eqJoint (v_a : TJoint) (v_b : TJoint) : Option Bool :=
  if (!(v_a.fName.toList == v_b.fName.toList)) = true then
    some false
  else
    if (v_a.fX != v_b.fX) = true then
      some false
    else
      if (v_a.fY != v_b.fY) = true then
        some false
      else
        if (v_a.fFixed == v_b.fFixed) = true then
          some true
        else
          some false

theorem laws_eqJoint_ok (v_a : TJoint) (v_b : TJoint) : Wp (laws_eqJoint v_a v_b) (fun r => Con PP 50 [.agg [.s v_a.fName, .n .i64 v_a.fX, .n .i64 v_a.fY, .b v_a.fFixed], .agg [.s v_b.fName, .n .i64 v_b.fX, .n .i64 v_b.fY, .b v_b.fFixed]] [] (.b r) []) := by
  unfold laws_eqJoint
  exact (let t1 : List TE := [.reg [nt, nt, nt], .reg [nt, nt, nt, nt, nt]];
    .ite (fun h1 =>
    .ret (runF_con0 hmix (tape := t1 ++ ([.br true, .reg [nt]] : List TE)) (rr := ii) (by kernel_rfl) (.c h1 .nil)))
    (fun h1 =>
    (let t2 : List TE := t1 ++ ([.br false, .reg [nt, nt, nt, nt, nt]] : List TE);
    .ite (fun h2 =>
    .ret (runF_con0 hmix (tape := t2 ++ ([.br true, .reg [nt]] : List TE)) (rr := ii) (by kernel_rfl) (.c h1 (.c h2 .nil))))
    (fun h2 =>
    (let t3 : List TE := t2 ++ ([.br false, .reg [nt, nt, nt, nt, nt]] : List TE);
    .ite (fun h3 =>
    .ret (runF_con0 hmix (tape := t3 ++ ([.br true, .reg [nt]] : List TE)) (rr := ii) (by kernel_rfl) (.c h1 (.c h2 (.c h3 .nil)))))
    (fun h3 =>
    (let t4 : List TE := t3 ++ ([.br false, .reg [nt, nt, nt, nt, nt]] : List TE);
    .ite (fun h4 =>
    .ret (runF_con0 hmix (tape := t4 ++ ([.br false, .reg [nt]] : List TE)) (rr := ii) (by kernel_rfl) (.c h1 (.c h2 (.c h3 (.c (not_t h4) .nil))))))
    (fun h4 =>
    .ret (runF_con0 hmix (tape := t4 ++ ([.br true, .reg [nt]] : List TE)) (rr := ii) (by kernel_rfl) (.c h1 (.c h2 (.c h3 (.c (not_f h4) .nil)))))))))))))

def laws_eqJointS_L1_head (v_a : (List TJoint)) (v_b : (List TJoint)) (v_i : Int) : S := mkS [(0, .isl 4 (v_a.map eTJoint)), (1, .isl 4 (v_b.map eTJoint)), (5, .n .i64 v_i)] []

def laws_eqJointS_L1_ex : ((Unit) ⊕ (Unit)) → Exit
  | .inl _ => .exit 0
  | .inr _ => .ret

def laws_eqJointS_L1_out (v_a : (List TJoint)) (v_b : (List TJoint)) : ((Unit) ⊕ (Unit)) → S
  | .inl a => mkS [] []
  | .inr a => mkS [(4, .b false)] []

abbrev laws_eqJointS_L1_V := VEx PP 27 0 (nodeAt (bodyOf PP 28) [1, 1, 0, 1, 0, 0])

def laws_eqJointS_L1_body (v_a : (List TJoint)) (v_b : (List TJoint)) (v_i : Int) : Option ((Int) ⊕ ((Unit) ⊕ (Unit))) :=
  if (decide (v_i < (len_ eTJoint v_a))) = true then
    if 0 ≤ v_i ∧ v_i < v_a.length then
    v_a[v_i.toNat]? >>= fun x3 =>
    if 0 ≤ v_i ∧ v_i < v_b.length then
    v_b[v_i.toNat]? >>= fun x6 =>
    laws_eqJoint x3 x6 >>= fun r8 =>
    if r8 = true then
      some (.inl (w64 (v_i + (1 : Int))))
    else
      some (.inr (.inr ()))
    else none
    else none
  else
    some (.inr (.inl ()))

def laws_eqJointS_L1 (v_a : (List TJoint)) (v_b : (List TJoint)) (v_i : Int) : Option ((Unit) ⊕ (Unit)) := iter (fun w : Int => laws_eqJointS_L1_body v_a v_b w) v_i

theorem laws_eqJointS_L1_body_ok (v_a : (List TJoint)) (v_b : (List TJoint)) (v_i : Int) : Wp (laws_eqJointS_L1_body v_a v_b v_i) (Sum.elim
    (fun w => laws_eqJointS_L1_V .normal (laws_eqJointS_L1_head v_a v_b v_i) (laws_eqJointS_L1_head v_a v_b w))
    (fun r => laws_eqJointS_L1_V (laws_eqJointS_L1_ex r) (laws_eqJointS_L1_head v_a v_b v_i) (laws_eqJointS_L1_out v_a v_b r))) := by
  unfold laws_eqJointS_L1_body
  exact (let t1 : List TE := [.reg [nt, nt, nt, nt]];
    .ite (fun h1 =>
    .grd fun h2 =>
    .bnd fun x3 h4 =>
    .grd fun h5 =>
    .bnd fun x6 h7 =>
    .bnd fun r8 h9 =>
    (let t2 : List TE := t1 ++ ([.br true, .reg [nt, nt, nt, (.el (eTJoint x3), true), nt, nt, nt, (.el (eTJoint x6), true), (.call { ac := [ii, ii], r := .b r8, sc := true }, true), nt]] : List TE);
    have o3 := ((.c h1 (.c ((h2).1) (.c (lt_mapI (h2).2 : v_i < ((v_a.map eTJoint).length : Nat)) (.c (map_get h4 : (v_a.map eTJoint)[v_i.toNat]? = some (eTJoint x3)) (.c ((h5).1) (.c (lt_mapI (h5).2 : v_i < ((v_b.map eTJoint).length : Nat)) (.c (map_get h7 : (v_b.map eTJoint)[v_i.toNat]? = some (eTJoint x6)) (.c (laws_eqJoint_ok x3 x6 r8 h9) (.c (Sc.b _ : Sc (.b r8)) .nil))))))))) : AllP _);
    .ite (fun h10 =>
    .ret ((okC_sound hmix (tape := t2 ++ ([.br false, .reg [nt, nt, nt], .rst [] [] [(0, ii), (1, ii), (5, ii)]] : List TE)) (nr := 0) (by kernel_rfl) (o3.app (.c (not_t h10) .nil)) (mkS_free _ _) : laws_eqJointS_L1_V .normal (laws_eqJointS_L1_head v_a v_b v_i) (laws_eqJointS_L1_head v_a v_b (w64 (v_i + (1 : Int)))))))
    (fun h10 =>
    .ret ((okC_sound hmix (tape := t2 ++ ([.br true, .reg [nt], .rst [] [] [(4, ii)]] : List TE)) (nr := 0) (by kernel_rfl) (o3.app (.c (not_f h10) .nil)) (mkS_free _ _) : laws_eqJointS_L1_V (.ret) (laws_eqJointS_L1_head v_a v_b v_i) (laws_eqJointS_L1_out v_a v_b (.inr ())))))))
    (fun h1 =>
    .ret ((okC_sound hmix (tape := t1 ++ ([.br false, .rst [] [] []] : List TE)) (nr := 0) (by kernel_rfl) (.c h1 .nil) (mkS_free _ _) : laws_eqJointS_L1_V (.exit 0) (laws_eqJointS_L1_head v_a v_b v_i) (laws_eqJointS_L1_out v_a v_b (.inl ()))))))

theorem laws_eqJointS_L1_ok (v_a : (List TJoint)) (v_b : (List TJoint)) (v_i : Int) : ∀ r, laws_eqJointS_L1 v_a v_b v_i = some r → VLoop PP 27 0 (nodeAt (bodyOf PP 28) [1, 1, 0, 1, 0, 0]) (laws_eqJointS_L1_ex r) (laws_eqJointS_L1_head v_a v_b v_i) (laws_eqJointS_L1_out v_a v_b r) := fun r h =>
  iter_ok (head := fun w : Int => laws_eqJointS_L1_head v_a v_b w) (ex := laws_eqJointS_L1_ex) (out := laws_eqJointS_L1_out v_a v_b) (by intro r; unfold laws_eqJointS_L1_ex; split <;> simp) (fun w => laws_eqJointS_L1_body_ok v_a v_b w) v_i r h

def laws_eqJointS (v_a : (List TJoint)) (v_b : (List TJoint)) : Option Bool :=
  if ((len_ eTJoint v_a) != (len_ eTJoint v_b)) = true then
    some false
  else
    laws_eqJointS_L1 v_a v_b 0 >>= fun r2 =>
    match r2 with
    | .inl a4 => (some true)
    | .inr a4 => (some false)

theorem laws_eqJointS_ok (v_a : (List TJoint)) (v_b : (List TJoint)) : Wp (laws_eqJointS v_a v_b) (fun r => Con PP 28 [.isl 4 (v_a.map eTJoint), .isl 4 (v_b.map eTJoint)] [] (.b r) []) := by
  unfold laws_eqJointS
  exact (let t1 : List TE := [.reg [nt], .reg [nt, nt, nt, nt, nt]];
    .ite (fun h1 =>
    .ret (runF_con0 hmix (tape := t1 ++ ([.br true, .reg [nt]] : List TE)) (rr := ii) (by kernel_rfl) (.c h1 .nil)))
    (fun h1 =>
    .bnd fun r2 h3 =>
    (let t2 : List TE := t1 ++ ([.br false, .reg [nt]] : List TE);
    (by
    rcases r2 with a4 | a4
    · exact (.ret (runF_con0 hmix (tape := t2 ++ ([.rst [] [] [(0, ii), (1, ii), (5, ii)], .sub (.exit 0) [] [], .reg [nt]] : List TE)) (rr := ii) (by kernel_rfl) (.c h1 (.c ((laws_eqJointS_L1_ok v_a v_b 0 (.inl a4) h3).vex) .nil))))
    · exact (.ret (runF_con0 hmix (tape := t2 ++ ([.rst [] [] [(0, ii), (1, ii), (5, ii)], .sub (.ret) [(4, .b false)] []] : List TE)) (rr := ii) (by kernel_rfl) (.c h1 (.c ((laws_eqJointS_L1_ok v_a v_b 0 (.inr a4) h3).vex) .nil))))))))

def laws_eqMember (v_a : TMember) (v_b : TMember) : Option Bool :=
  if (v_a.fA != v_b.fA) = true then
    some false
  else
    if (v_a.fB != v_b.fB) = true then
      some false
    else
      if (v_a.fKind != v_b.fKind) = true then
        some false
      else
        some true

theorem laws_eqMember_ok (v_a : TMember) (v_b : TMember) : Wp (laws_eqMember v_a v_b) (fun r => Con PP 51 [.agg [.n .i64 v_a.fA, .n .i64 v_a.fB, .n .i64 v_a.fKind], .agg [.n .i64 v_b.fA, .n .i64 v_b.fB, .n .i64 v_b.fKind]] [] (.b r) []) := by
  unfold laws_eqMember
  exact (let t1 : List TE := [.reg [nt, nt, nt], .reg [nt, nt, nt, nt, nt]];
    .ite (fun h1 =>
    .ret (runF_con0 hmix (tape := t1 ++ ([.br true, .reg [nt]] : List TE)) (rr := ii) (by kernel_rfl) (.c h1 .nil)))
    (fun h1 =>
    (let t2 : List TE := t1 ++ ([.br false, .reg [nt, nt, nt, nt, nt]] : List TE);
    .ite (fun h2 =>
    .ret (runF_con0 hmix (tape := t2 ++ ([.br true, .reg [nt]] : List TE)) (rr := ii) (by kernel_rfl) (.c h1 (.c h2 .nil))))
    (fun h2 =>
    (let t3 : List TE := t2 ++ ([.br false, .reg [nt, nt, nt, nt, nt]] : List TE);
    .ite (fun h3 =>
    .ret (runF_con0 hmix (tape := t3 ++ ([.br true, .reg [nt]] : List TE)) (rr := ii) (by kernel_rfl) (.c h1 (.c h2 (.c h3 .nil)))))
    (fun h3 =>
    .ret (runF_con0 hmix (tape := t3 ++ ([.br false, .reg [nt]] : List TE)) (rr := ii) (by kernel_rfl) (.c h1 (.c h2 (.c h3 .nil))))))))))

def laws_eqMemberS_L1_head (v_a : (List TMember)) (v_b : (List TMember)) (v_i : Int) : S := mkS [(0, .isl 3 (v_a.map eTMember)), (1, .isl 3 (v_b.map eTMember)), (5, .n .i64 v_i)] []

def laws_eqMemberS_L1_ex : ((Unit) ⊕ (Unit)) → Exit
  | .inl _ => .exit 0
  | .inr _ => .ret

def laws_eqMemberS_L1_out (v_a : (List TMember)) (v_b : (List TMember)) : ((Unit) ⊕ (Unit)) → S
  | .inl a => mkS [] []
  | .inr a => mkS [(4, .b false)] []

abbrev laws_eqMemberS_L1_V := VEx PP 27 0 (nodeAt (bodyOf PP 29) [1, 1, 0, 1, 0, 0])

def laws_eqMemberS_L1_body (v_a : (List TMember)) (v_b : (List TMember)) (v_i : Int) : Option ((Int) ⊕ ((Unit) ⊕ (Unit))) :=
  if (decide (v_i < (len_ eTMember v_a))) = true then
    if 0 ≤ v_i ∧ v_i < v_a.length then
    v_a[v_i.toNat]? >>= fun x3 =>
    if 0 ≤ v_i ∧ v_i < v_b.length then
    v_b[v_i.toNat]? >>= fun x6 =>
    laws_eqMember x3 x6 >>= fun r8 =>
    if r8 = true then
      some (.inl (w64 (v_i + (1 : Int))))
    else
      some (.inr (.inr ()))
    else none
    else none
  else
    some (.inr (.inl ()))

def laws_eqMemberS_L1 (v_a : (List TMember)) (v_b : (List TMember)) (v_i : Int) : Option ((Unit) ⊕ (Unit)) := iter (fun w : Int => laws_eqMemberS_L1_body v_a v_b w) v_i

theorem laws_eqMemberS_L1_body_ok (v_a : (List TMember)) (v_b : (List TMember)) (v_i : Int) : Wp (laws_eqMemberS_L1_body v_a v_b v_i) (Sum.elim
    (fun w => laws_eqMemberS_L1_V .normal (laws_eqMemberS_L1_head v_a v_b v_i) (laws_eqMemberS_L1_head v_a v_b w))
    (fun r => laws_eqMemberS_L1_V (laws_eqMemberS_L1_ex r) (laws_eqMemberS_L1_head v_a v_b v_i) (laws_eqMemberS_L1_out v_a v_b r))) := by
  unfold laws_eqMemberS_L1_body
  exact (let t1 : List TE := [.reg [nt, nt, nt, nt]];
    .ite (fun h1 =>
    .grd fun h2 =>
    .bnd fun x3 h4 =>
    .grd fun h5 =>
    .bnd fun x6 h7 =>
    .bnd fun r8 h9 =>
    (let t2 : List TE := t1 ++ ([.br true, .reg [nt, nt, nt, (.el (eTMember x3), true), nt, nt, nt, (.el (eTMember x6), true), (.call { ac := [ii, ii], r := .b r8, sc := true }, true), nt]] : List TE);
    have o3 := ((.c h1 (.c ((h2).1) (.c (lt_mapI (h2).2 : v_i < ((v_a.map eTMember).length : Nat)) (.c (map_get h4 : (v_a.map eTMember)[v_i.toNat]? = some (eTMember x3)) (.c ((h5).1) (.c (lt_mapI (h5).2 : v_i < ((v_b.map eTMember).length : Nat)) (.c (map_get h7 : (v_b.map eTMember)[v_i.toNat]? = some (eTMember x6)) (.c (laws_eqMember_ok x3 x6 r8 h9) (.c (Sc.b _ : Sc (.b r8)) .nil))))))))) : AllP _);
    .ite (fun h10 =>
    .ret ((okC_sound hmix (tape := t2 ++ ([.br false, .reg [nt, nt, nt], .rst [] [] [(0, ii), (1, ii), (5, ii)]] : List TE)) (nr := 0) (by kernel_rfl) (o3.app (.c (not_t h10) .nil)) (mkS_free _ _) : laws_eqMemberS_L1_V .normal (laws_eqMemberS_L1_head v_a v_b v_i) (laws_eqMemberS_L1_head v_a v_b (w64 (v_i + (1 : Int)))))))
    (fun h10 =>
    .ret ((okC_sound hmix (tape := t2 ++ ([.br true, .reg [nt], .rst [] [] [(4, ii)]] : List TE)) (nr := 0) (by kernel_rfl) (o3.app (.c (not_f h10) .nil)) (mkS_free _ _) : laws_eqMemberS_L1_V (.ret) (laws_eqMemberS_L1_head v_a v_b v_i) (laws_eqMemberS_L1_out v_a v_b (.inr ())))))))
    (fun h1 =>
    .ret ((okC_sound hmix (tape := t1 ++ ([.br false, .rst [] [] []] : List TE)) (nr := 0) (by kernel_rfl) (.c h1 .nil) (mkS_free _ _) : laws_eqMemberS_L1_V (.exit 0) (laws_eqMemberS_L1_head v_a v_b v_i) (laws_eqMemberS_L1_out v_a v_b (.inl ()))))))

theorem laws_eqMemberS_L1_ok (v_a : (List TMember)) (v_b : (List TMember)) (v_i : Int) : ∀ r, laws_eqMemberS_L1 v_a v_b v_i = some r → VLoop PP 27 0 (nodeAt (bodyOf PP 29) [1, 1, 0, 1, 0, 0]) (laws_eqMemberS_L1_ex r) (laws_eqMemberS_L1_head v_a v_b v_i) (laws_eqMemberS_L1_out v_a v_b r) := fun r h =>
  iter_ok (head := fun w : Int => laws_eqMemberS_L1_head v_a v_b w) (ex := laws_eqMemberS_L1_ex) (out := laws_eqMemberS_L1_out v_a v_b) (by intro r; unfold laws_eqMemberS_L1_ex; split <;> simp) (fun w => laws_eqMemberS_L1_body_ok v_a v_b w) v_i r h

def laws_eqMemberS (v_a : (List TMember)) (v_b : (List TMember)) : Option Bool :=
  if ((len_ eTMember v_a) != (len_ eTMember v_b)) = true then
    some false
  else
    laws_eqMemberS_L1 v_a v_b 0 >>= fun r2 =>
    match r2 with
    | .inl a4 => (some true)
    | .inr a4 => (some false)

theorem laws_eqMemberS_ok (v_a : (List TMember)) (v_b : (List TMember)) : Wp (laws_eqMemberS v_a v_b) (fun r => Con PP 29 [.isl 3 (v_a.map eTMember), .isl 3 (v_b.map eTMember)] [] (.b r) []) := by
  unfold laws_eqMemberS
  exact (let t1 : List TE := [.reg [nt], .reg [nt, nt, nt, nt, nt]];
    .ite (fun h1 =>
    .ret (runF_con0 hmix (tape := t1 ++ ([.br true, .reg [nt]] : List TE)) (rr := ii) (by kernel_rfl) (.c h1 .nil)))
    (fun h1 =>
    .bnd fun r2 h3 =>
    (let t2 : List TE := t1 ++ ([.br false, .reg [nt]] : List TE);
    (by
    rcases r2 with a4 | a4
    · exact (.ret (runF_con0 hmix (tape := t2 ++ ([.rst [] [] [(0, ii), (1, ii), (5, ii)], .sub (.exit 0) [] [], .reg [nt]] : List TE)) (rr := ii) (by kernel_rfl) (.c h1 (.c ((laws_eqMemberS_L1_ok v_a v_b 0 (.inl a4) h3).vex) .nil))))
    · exact (.ret (runF_con0 hmix (tape := t2 ++ ([.rst [] [] [(0, ii), (1, ii), (5, ii)], .sub (.ret) [(4, .b false)] []] : List TE)) (rr := ii) (by kernel_rfl) (.c h1 (.c ((laws_eqMemberS_L1_ok v_a v_b 0 (.inr a4) h3).vex) .nil))))))))

def laws_eqStructure (v_a : TStructure) (v_b : TStructure) : Option Bool :=
  laws_eqJointS v_a.fJoints v_b.fJoints >>= fun r1 =>
  if r1 = true then
    laws_eqMemberS v_a.fMembers v_b.fMembers >>= fun r4 =>
    if r4 = true then
      some true
    else
      some false
  else
    some false

theorem laws_eqStructure_ok (v_a : TStructure) (v_b : TStructure) : Wp (laws_eqStructure v_a v_b) (fun r => Con PP 11 [.agg [.isl 4 (v_a.fJoints.map eTJoint), .isl 3 (v_a.fMembers.map eTMember)], .agg [.isl 4 (v_b.fJoints.map eTJoint), .isl 3 (v_b.fMembers.map eTMember)]] [] (.b r) []) := by
  unfold laws_eqStructure
  exact .bnd fun r1 h2 =>
    (let t1 : List TE := [.reg [nt, nt, nt], .reg [nt, nt, nt, nt, (.call { ac := [ii, ii], r := .b r1, sc := true }, true), nt]];
    have o2 := ((.c (laws_eqJointS_ok v_a.fJoints v_b.fJoints r1 h2) (.c (Sc.b _ : Sc (.b r1)) .nil)) : AllP _);
    .ite (fun h3 =>
    .bnd fun r4 h5 =>
    (let t3 : List TE := t1 ++ ([.br false, .reg [nt, nt, nt, nt, (.call { ac := [ii, ii], r := .b r4, sc := true }, true), nt]] : List TE);
    have o4 := o2.app (.c (not_t h3) (.c (laws_eqMemberS_ok v_a.fMembers v_b.fMembers r4 h5) (.c (Sc.b _ : Sc (.b r4)) .nil)));
    .ite (fun h6 =>
    .ret (runF_con0 hmix (tape := t3 ++ ([.br false, .reg [nt]] : List TE)) (rr := ii) (by kernel_rfl) (o4.app (.c (not_t h6) .nil))))
    (fun h6 =>
    .ret (runF_con0 hmix (tape := t3 ++ ([.br true, .reg [nt]] : List TE)) (rr := ii) (by kernel_rfl) (o4.app (.c (not_f h6) .nil))))))
    (fun h3 =>
    .ret (runF_con0 hmix (tape := t1 ++ ([.br true, .reg [nt]] : List TE)) (rr := ii) (by kernel_rfl) (o2.app (.c (not_f h3) .nil)))))

def laws_eqBigInt (v_a : TBigInt) (v_b : TBigInt) : Option Bool :=
  if (v_a.fNeg == v_b.fNeg) = true then
    laws_eqIntS v_a.fMag v_b.fMag >>= fun r2 =>
    if r2 = true then
      some true
    else
      some false
  else
    some false

theorem laws_eqBigInt_ok (v_a : TBigInt) (v_b : TBigInt) : Wp (laws_eqBigInt v_a v_b) (fun r => Con PP 52 [.agg [.b v_a.fNeg, .isl 1 (v_a.fMag.map eI)], .agg [.b v_b.fNeg, .isl 1 (v_b.fMag.map eI)]] [] (.b r) []) := by
  unfold laws_eqBigInt
  exact (let t1 : List TE := [.reg [nt, nt, nt], .reg [nt, nt, nt, nt, nt]];
    .ite (fun h1 =>
    .bnd fun r2 h3 =>
    (let t2 : List TE := t1 ++ ([.br false, .reg [nt, nt, nt, nt, (.call { ac := [ii, ii], r := .b r2, sc := true }, true), nt]] : List TE);
    have o3 := ((.c (not_t h1) (.c (laws_eqIntS_ok v_a.fMag v_b.fMag r2 h3) (.c (Sc.b _ : Sc (.b r2)) .nil))) : AllP _);
    .ite (fun h4 =>
    .ret (runF_con0 hmix (tape := t2 ++ ([.br false, .reg [nt]] : List TE)) (rr := ii) (by kernel_rfl) (o3.app (.c (not_t h4) .nil))))
    (fun h4 =>
    .ret (runF_con0 hmix (tape := t2 ++ ([.br true, .reg [nt]] : List TE)) (rr := ii) (by kernel_rfl) (o3.app (.c (not_f h4) .nil))))))
    (fun h1 =>
    .ret (runF_con0 hmix (tape := t1 ++ ([.br true, .reg [nt]] : List TE)) (rr := ii) (by kernel_rfl) (.c (not_f h1) .nil))))

def laws_eqRat (v_a : TRat) (v_b : TRat) : Option Bool :=
  laws_eqBigInt v_a.fNum v_b.fNum >>= fun r1 =>
  if r1 = true then
    laws_eqIntS v_a.fDen v_b.fDen >>= fun r4 =>
    if r4 = true then
      some true
    else
      some false
  else
    some false

theorem laws_eqRat_ok (v_a : TRat) (v_b : TRat) : Wp (laws_eqRat v_a v_b) (fun r => Con PP 30 [.agg [.b v_a.fNum.fNeg, .isl 1 (v_a.fNum.fMag.map eI), .isl 1 (v_a.fDen.map eI)], .agg [.b v_b.fNum.fNeg, .isl 1 (v_b.fNum.fMag.map eI), .isl 1 (v_b.fDen.map eI)]] [] (.b r) []) := by
  unfold laws_eqRat
  exact .bnd fun r1 h2 =>
    (let t1 : List TE := [.reg [nt, nt, nt], .reg [nt, nt, nt, nt, (.call { ac := [ii, ii], r := .b r1, sc := true }, true), nt]];
    have o2 := ((.c (laws_eqBigInt_ok v_a.fNum v_b.fNum r1 h2) (.c (Sc.b _ : Sc (.b r1)) .nil)) : AllP _);
    .ite (fun h3 =>
    .bnd fun r4 h5 =>
    (let t3 : List TE := t1 ++ ([.br false, .reg [nt, nt, nt, nt, (.call { ac := [ii, ii], r := .b r4, sc := true }, true), nt]] : List TE);
    have o4 := o2.app (.c (not_t h3) (.c (laws_eqIntS_ok v_a.fDen v_b.fDen r4 h5) (.c (Sc.b _ : Sc (.b r4)) .nil)));
    .ite (fun h6 =>
    .ret (runF_con0 hmix (tape := t3 ++ ([.br false, .reg [nt]] : List TE)) (rr := ii) (by kernel_rfl) (o4.app (.c (not_t h6) .nil))))
    (fun h6 =>
    .ret (runF_con0 hmix (tape := t3 ++ ([.br true, .reg [nt]] : List TE)) (rr := ii) (by kernel_rfl) (o4.app (.c (not_f h6) .nil))))))
    (fun h3 =>
    .ret (runF_con0 hmix (tape := t1 ++ ([.br true, .reg [nt]] : List TE)) (rr := ii) (by kernel_rfl) (o2.app (.c (not_f h3) .nil)))))

def laws_eqRatS_L1_head (v_a : (List TRat)) (v_b : (List TRat)) (v_i : Int) : S := mkS [(0, .isl 3 (v_a.map eTRat)), (1, .isl 3 (v_b.map eTRat)), (5, .n .i64 v_i)] []

def laws_eqRatS_L1_ex : ((Unit) ⊕ (Unit)) → Exit
  | .inl _ => .exit 0
  | .inr _ => .ret

def laws_eqRatS_L1_out (v_a : (List TRat)) (v_b : (List TRat)) : ((Unit) ⊕ (Unit)) → S
  | .inl a => mkS [] []
  | .inr a => mkS [(4, .b false)] []

abbrev laws_eqRatS_L1_V := VEx PP 27 0 (nodeAt (bodyOf PP 12) [1, 1, 0, 1, 0, 0])

def laws_eqRatS_L1_body (v_a : (List TRat)) (v_b : (List TRat)) (v_i : Int) : Option ((Int) ⊕ ((Unit) ⊕ (Unit))) :=
  if (decide (v_i < (len_ eTRat v_a))) = true then
    if 0 ≤ v_i ∧ v_i < v_a.length then
    v_a[v_i.toNat]? >>= fun x3 =>
    if 0 ≤ v_i ∧ v_i < v_b.length then
    v_b[v_i.toNat]? >>= fun x6 =>
    laws_eqRat x3 x6 >>= fun r8 =>
    if r8 = true then
      some (.inl (w64 (v_i + (1 : Int))))
    else
      some (.inr (.inr ()))
    else none
    else none
  else
    some (.inr (.inl ()))

def laws_eqRatS_L1 (v_a : (List TRat)) (v_b : (List TRat)) (v_i : Int) : Option ((Unit) ⊕ (Unit)) := iter (fun w : Int => laws_eqRatS_L1_body v_a v_b w) v_i

theorem laws_eqRatS_L1_body_ok (v_a : (List TRat)) (v_b : (List TRat)) (v_i : Int) : Wp (laws_eqRatS_L1_body v_a v_b v_i) (Sum.elim
    (fun w => laws_eqRatS_L1_V .normal (laws_eqRatS_L1_head v_a v_b v_i) (laws_eqRatS_L1_head v_a v_b w))
    (fun r => laws_eqRatS_L1_V (laws_eqRatS_L1_ex r) (laws_eqRatS_L1_head v_a v_b v_i) (laws_eqRatS_L1_out v_a v_b r))) := by
  unfold laws_eqRatS_L1_body
  exact (let t1 : List TE := [.reg [nt, nt, nt, nt]];
    .ite (fun h1 =>
    .grd fun h2 =>
    .bnd fun x3 h4 =>
    .grd fun h5 =>
    .bnd fun x6 h7 =>
    .bnd fun r8 h9 =>
    (let t2 : List TE := t1 ++ ([.br true, .reg [nt, nt, nt, (.el (eTRat x3), true), nt, nt, nt, (.el (eTRat x6), true), (.call { ac := [ii, ii], r := .b r8, sc := true }, true), nt]] : List TE);
    have o3 := ((.c h1 (.c ((h2).1) (.c (lt_mapI (h2).2 : v_i < ((v_a.map eTRat).length : Nat)) (.c (map_get h4 : (v_a.map eTRat)[v_i.toNat]? = some (eTRat x3)) (.c ((h5).1) (.c (lt_mapI (h5).2 : v_i < ((v_b.map eTRat).length : Nat)) (.c (map_get h7 : (v_b.map eTRat)[v_i.toNat]? = some (eTRat x6)) (.c (laws_eqRat_ok x3 x6 r8 h9) (.c (Sc.b _ : Sc (.b r8)) .nil))))))))) : AllP _);
    .ite (fun h10 =>
    .ret ((okC_sound hmix (tape := t2 ++ ([.br false, .reg [nt, nt, nt], .rst [] [] [(0, ii), (1, ii), (5, ii)]] : List TE)) (nr := 0) (by kernel_rfl) (o3.app (.c (not_t h10) .nil)) (mkS_free _ _) : laws_eqRatS_L1_V .normal (laws_eqRatS_L1_head v_a v_b v_i) (laws_eqRatS_L1_head v_a v_b (w64 (v_i + (1 : Int)))))))
    (fun h10 =>
    .ret ((okC_sound hmix (tape := t2 ++ ([.br true, .reg [nt], .rst [] [] [(4, ii)]] : List TE)) (nr := 0) (by kernel_rfl) (o3.app (.c (not_f h10) .nil)) (mkS_free _ _) : laws_eqRatS_L1_V (.ret) (laws_eqRatS_L1_head v_a v_b v_i) (laws_eqRatS_L1_out v_a v_b (.inr ())))))))
    (fun h1 =>
    .ret ((okC_sound hmix (tape := t1 ++ ([.br false, .rst [] [] []] : List TE)) (nr := 0) (by kernel_rfl) (.c h1 .nil) (mkS_free _ _) : laws_eqRatS_L1_V (.exit 0) (laws_eqRatS_L1_head v_a v_b v_i) (laws_eqRatS_L1_out v_a v_b (.inl ()))))))

theorem laws_eqRatS_L1_ok (v_a : (List TRat)) (v_b : (List TRat)) (v_i : Int) : ∀ r, laws_eqRatS_L1 v_a v_b v_i = some r → VLoop PP 27 0 (nodeAt (bodyOf PP 12) [1, 1, 0, 1, 0, 0]) (laws_eqRatS_L1_ex r) (laws_eqRatS_L1_head v_a v_b v_i) (laws_eqRatS_L1_out v_a v_b r) := fun r h =>
  iter_ok (head := fun w : Int => laws_eqRatS_L1_head v_a v_b w) (ex := laws_eqRatS_L1_ex) (out := laws_eqRatS_L1_out v_a v_b) (by intro r; unfold laws_eqRatS_L1_ex; split <;> simp) (fun w => laws_eqRatS_L1_body_ok v_a v_b w) v_i r h

def laws_eqRatS (v_a : (List TRat)) (v_b : (List TRat)) : Option Bool :=
  if ((len_ eTRat v_a) != (len_ eTRat v_b)) = true then
    some false
  else
    laws_eqRatS_L1 v_a v_b 0 >>= fun r2 =>
    match r2 with
    | .inl a4 => (some true)
    | .inr a4 => (some false)

theorem laws_eqRatS_ok (v_a : (List TRat)) (v_b : (List TRat)) : Wp (laws_eqRatS v_a v_b) (fun r => Con PP 12 [.isl 3 (v_a.map eTRat), .isl 3 (v_b.map eTRat)] [] (.b r) []) := by
  unfold laws_eqRatS
  exact (let t1 : List TE := [.reg [nt], .reg [nt, nt, nt, nt, nt]];
    .ite (fun h1 =>
    .ret (runF_con0 hmix (tape := t1 ++ ([.br true, .reg [nt]] : List TE)) (rr := ii) (by kernel_rfl) (.c h1 .nil)))
    (fun h1 =>
    .bnd fun r2 h3 =>
    (let t2 : List TE := t1 ++ ([.br false, .reg [nt]] : List TE);
    (by
    rcases r2 with a4 | a4
    · exact (.ret (runF_con0 hmix (tape := t2 ++ ([.rst [] [] [(0, ii), (1, ii), (5, ii)], .sub (.exit 0) [] [], .reg [nt]] : List TE)) (rr := ii) (by kernel_rfl) (.c h1 (.c ((laws_eqRatS_L1_ok v_a v_b 0 (.inl a4) h3).vex) .nil))))
    · exact (.ret (runF_con0 hmix (tape := t2 ++ ([.rst [] [] [(0, ii), (1, ii), (5, ii)], .sub (.ret) [(4, .b false)] []] : List TE)) (rr := ii) (by kernel_rfl) (.c h1 (.c ((laws_eqRatS_L1_ok v_a v_b 0 (.inr a4) h3).vex) .nil))))))))

def laws_markText_L1_head  (v_k : Int) (v_out : ByteArray) : S := mkS [(0, .n .i64 v_k), (3, .s v_out)] []

def laws_markText_L1_ex : ByteArray → Exit
  | _ => .exit 0

def laws_markText_L1_out  : ByteArray → S
  | a => mkS [(3, .s a)] []

abbrev laws_markText_L1_V := VEx PP 20 0 (nodeAt (bodyOf PP 53) [1, 1, 1, 0, 0, 0])

def laws_markText_L1_body  (v_k : Int) (v_out : ByteArray) : Option ((Int × ByteArray) ⊕ (ByteArray)) :=
  if (decide ((0 : Int) < v_k)) = true then
    if (bstr [(IntKind.wrap .u8 (w64 ((48 : Int) + (v_k.tmod (10 : Int)))))]).size + v_out.size < 9223372036854775808 then
    some (.inl (w64 (v_k.tdiv (10 : Int)), (bstr [(IntKind.wrap .u8 (w64 ((48 : Int) + (v_k.tmod (10 : Int)))))]) ++ v_out))
    else none
  else
    some (.inr v_out)

def laws_markText_L1  (v_k : Int) (v_out : ByteArray) : Option (ByteArray) := iter (fun w : Int × ByteArray => laws_markText_L1_body  w.1 w.2) (v_k, v_out)

theorem laws_markText_L1_body_ok  (v_k : Int) (v_out : ByteArray) : Wp (laws_markText_L1_body  v_k v_out) (Sum.elim
    (fun w => laws_markText_L1_V .normal (laws_markText_L1_head  v_k v_out) (laws_markText_L1_head  w.1 w.2))
    (fun r => laws_markText_L1_V (laws_markText_L1_ex r) (laws_markText_L1_head  v_k v_out) (laws_markText_L1_out  r))) := by
  unfold laws_markText_L1_body
  exact (let t1 : List TE := [.reg [nt, nt]];
    .ite (fun h1 =>
    .grd fun h2 =>
    .ret ((okC_sound hmix (tape := t1 ++ ([.br true, .reg [nt, nt, nt, nt, nt, nt, nt, nt, nt], .reg [nt, nt, nt], .rst [] [] [(0, ii), (3, ii)]] : List TE)) (nr := 0) (by kernel_rfl) (.c h1 (.c (by decide : (10 : Int) ≠ 0) (.c h2 (.c (by decide : (10 : Int) ≠ 0) .nil)))) (mkS_free _ _) : laws_markText_L1_V .normal (laws_markText_L1_head  v_k v_out) (laws_markText_L1_head  (w64 (v_k.tdiv (10 : Int))) ((bstr [(IntKind.wrap .u8 (w64 ((48 : Int) + (v_k.tmod (10 : Int)))))]) ++ v_out)))))
    (fun h1 =>
    .ret ((okC_sound hmix (tape := t1 ++ ([.br false, .rst [] [] [(3, ii)]] : List TE)) (nr := 0) (by kernel_rfl) (.c h1 .nil) (mkS_free _ _) : laws_markText_L1_V (.exit 0) (laws_markText_L1_head  v_k v_out) (laws_markText_L1_out  v_out)))))

theorem laws_markText_L1_ok  (v_k : Int) (v_out : ByteArray) : ∀ r, laws_markText_L1  v_k v_out = some r → VLoop PP 20 0 (nodeAt (bodyOf PP 53) [1, 1, 1, 0, 0, 0]) (laws_markText_L1_ex r) (laws_markText_L1_head  v_k v_out) (laws_markText_L1_out  r) := fun r h =>
  iter_ok (head := fun w : Int × ByteArray => laws_markText_L1_head  w.1 w.2) (ex := laws_markText_L1_ex) (out := laws_markText_L1_out ) (by intro r; unfold laws_markText_L1_ex; split <;> simp) (fun w => laws_markText_L1_body_ok  w.1 w.2) (v_k, v_out) r h

def laws_markText (v_k : Int) : Option ByteArray :=
  if (decide (v_k ≤ (0 : Int))) = true then
    some (⟨#[109, 48]⟩ : ByteArray)
  else
    laws_markText_L1 v_k (⟨#[]⟩ : ByteArray) >>= fun r2 =>
    if (⟨#[109]⟩ : ByteArray).size + r2.size < 9223372036854775808 then
    some ((⟨#[109]⟩ : ByteArray) ++ r2)
    else none

theorem laws_markText_ok (v_k : Int) : Wp (laws_markText v_k) (fun r => Con PP 53 [.n .i64 v_k] [] (.s r) []) := by
  unfold laws_markText
  exact (let t1 : List TE := [.reg [nt], .reg [nt, nt]];
    .ite (fun h1 =>
    .ret (runF_con0 hmix (tape := t1 ++ ([.br true, .reg [nt]] : List TE)) (rr := ii) (by kernel_rfl) (.c h1 .nil)))
    (fun h1 =>
    .bnd fun r2 h3 =>
    .grd fun h4 =>
    .ret (runF_con0 hmix (tape := t1 ++ ([.br false, .reg [nt], .rst [] [] [(0, ii), (3, ii)], .sub (.exit 0) [(3, .s r2)] [], .reg [nt, nt, nt]] : List TE)) (rr := ii) (by kernel_rfl) (.c h1 (.c ((laws_markText_L1_ok v_k (⟨#[]⟩ : ByteArray) r2 h3).vex) (.c h4 .nil))))))

def laws_markJointS_o_L1_head  (v_k : Int) (v_i : Int) (row0 : (List TJoint)) : S := mkS [(0, .osl 0 0 0 row0.length), (1, .n .i64 v_k), (5, .n .i64 v_i)] [[Ob.mk 4 (row0.map eTJoint) .live]]

def laws_markJointS_o_L1_ex : (Int × (List TJoint)) → Exit
  | _ => .exit 0

def laws_markJointS_o_L1_out  : (Int × (List TJoint)) → S
  | a => mkS [(1, .n .i64 a.1)] [[Ob.mk 4 (a.2.map eTJoint) .live]]

abbrev laws_markJointS_o_L1_V := VEx PP 44 1 (nodeAt (bodyOf PP 31) [1, 0, 1, 0, 0])

def laws_markJointS_o_L1_body  (v_k : Int) (v_i : Int) (row0 : (List TJoint)) : Option ((Int × Int × (List TJoint)) ⊕ (Int × (List TJoint))) :=
  if (decide (v_i < ((row0.length : Nat) : Int))) = true then
    laws_markText v_k >>= fun r2 =>
    if 0 ≤ v_i ∧ v_i < (row0.length : Nat) then
    row0[(0 + v_i.toNat)]? >>= fun x5 =>
    (row0.set (0 + v_i.toNat) (⟨r2, x5.fX, x5.fY, x5.fFixed⟩ : TJoint))[(0 + v_i.toNat)]? >>= fun x7 =>
    ((row0.set (0 + v_i.toNat) (⟨r2, x5.fX, x5.fY, x5.fFixed⟩ : TJoint)).set (0 + v_i.toNat) (⟨x7.fName, w64 (v_k + (1 : Int)), x7.fY, x7.fFixed⟩ : TJoint))[(0 + v_i.toNat)]? >>= fun x9 =>
    (((row0.set (0 + v_i.toNat) (⟨r2, x5.fX, x5.fY, x5.fFixed⟩ : TJoint)).set (0 + v_i.toNat) (⟨x7.fName, w64 (v_k + (1 : Int)), x7.fY, x7.fFixed⟩ : TJoint)).set (0 + v_i.toNat) (⟨x9.fName, x9.fX, w64 ((w64 (v_k + (1 : Int))) + (1 : Int)), x9.fFixed⟩ : TJoint))[(0 + v_i.toNat)]? >>= fun x11 =>
    some (.inl (w64 ((w64 ((w64 ((w64 (v_k + (1 : Int))) + (1 : Int))) + (1 : Int))) + (1 : Int)), w64 (v_i + (1 : Int)), (((row0.set (0 + v_i.toNat) (⟨r2, x5.fX, x5.fY, x5.fFixed⟩ : TJoint)).set (0 + v_i.toNat) (⟨x7.fName, w64 (v_k + (1 : Int)), x7.fY, x7.fFixed⟩ : TJoint)).set (0 + v_i.toNat) (⟨x9.fName, x9.fX, w64 ((w64 (v_k + (1 : Int))) + (1 : Int)), x9.fFixed⟩ : TJoint)).set (0 + v_i.toNat) (⟨x11.fName, x11.fX, x11.fY, (((w64 ((w64 ((w64 (v_k + (1 : Int))) + (1 : Int))) + (1 : Int))).tmod (3 : Int)) == (0 : Int))⟩ : TJoint)))
    else none
  else
    some (.inr (v_k, row0))

def laws_markJointS_o_L1  (v_k : Int) (v_i : Int) (row0 : (List TJoint)) : Option (Int × (List TJoint)) := iter (fun w : Int × Int × (List TJoint) => laws_markJointS_o_L1_body  w.1 w.2.1 w.2.2) (v_k, v_i, row0)

theorem laws_markJointS_o_L1_body_ok  (v_k : Int) (v_i : Int) (row0 : (List TJoint)) : Wp (laws_markJointS_o_L1_body  v_k v_i row0) (Sum.elim
    (fun w => laws_markJointS_o_L1_V .normal (laws_markJointS_o_L1_head  v_k v_i row0) (laws_markJointS_o_L1_head  w.1 w.2.1 w.2.2))
    (fun r => laws_markJointS_o_L1_V (laws_markJointS_o_L1_ex r) (laws_markJointS_o_L1_head  v_k v_i row0) (laws_markJointS_o_L1_out  r))) := by
  unfold laws_markJointS_o_L1_body
  exact (let t1 : List TE := [.reg [nt, nt, nt, nt]];
    .ite (fun h1 =>
    .bnd fun r2 h3 =>
    .grd fun h4 =>
    .bnd fun x5 h6 =>
    .bnd fun x7 h8 =>
    .bnd fun x9 h10 =>
    .bnd fun x11 h12 =>
    .ret ((okC_sound hmix (tape := t1 ++ ([.br true, .reg [nt, nt, nt, (.call { ac := [ii], r := .s r2, sc := true }, true), nt, (.el (eTJoint x5), true), (.el (eTJoint x5), true)], .reg [nt, nt, nt], .reg [nt, nt, nt, nt, (.el (eTJoint x7), true), (.el (eTJoint x7), true)], .reg [nt, nt, nt], .reg [nt, nt, nt, nt, (.el (eTJoint x9), true), (.el (eTJoint x9), true)], .reg [nt, nt, nt], .reg [nt, nt, nt, nt, nt, nt, (.el (eTJoint x11), true), (.el (eTJoint x11), true)], .reg [nt, nt, nt], .reg [nt, nt, nt], .rst [0] [.as [Ob.mk 4 (((((row0.set (0 + v_i.toNat) (⟨r2, x5.fX, x5.fY, x5.fFixed⟩ : TJoint)).set (0 + v_i.toNat) (⟨x7.fName, w64 (v_k + (1 : Int)), x7.fY, x7.fFixed⟩ : TJoint)).set (0 + v_i.toNat) (⟨x9.fName, x9.fX, w64 ((w64 (v_k + (1 : Int))) + (1 : Int)), x9.fFixed⟩ : TJoint)).set (0 + v_i.toNat) (⟨x11.fName, x11.fX, x11.fY, (((w64 ((w64 ((w64 (v_k + (1 : Int))) + (1 : Int))) + (1 : Int))).tmod (3 : Int)) == (0 : Int))⟩ : TJoint)).map eTJoint) .live]] [(0, .c1 (.c0 (.len (((((row0.set (0 + v_i.toNat) (⟨r2, x5.fX, x5.fY, x5.fFixed⟩ : TJoint)).set (0 + v_i.toNat) (⟨x7.fName, w64 (v_k + (1 : Int)), x7.fY, x7.fFixed⟩ : TJoint)).set (0 + v_i.toNat) (⟨x9.fName, x9.fX, w64 ((w64 (v_k + (1 : Int))) + (1 : Int)), x9.fFixed⟩ : TJoint)).set (0 + v_i.toNat) (⟨x11.fName, x11.fX, x11.fY, (((w64 ((w64 ((w64 (v_k + (1 : Int))) + (1 : Int))) + (1 : Int))).tmod (3 : Int)) == (0 : Int))⟩ : TJoint)).length)))), (1, ii), (5, ii)]] : List TE)) (nr := 1) (by kernel_rfl) (.c h1 (.c (laws_markText_ok v_k r2 h3) (.c (Sc.s _ : Sc (.s r2)) (.c ((h4).1) (.c ((h4).2) (.c (map_get h6 : (row0.map eTJoint)[(0 + v_i.toNat)]? = some (eTJoint x5)) (.c (map_get h6 : (row0.map eTJoint)[(0 + v_i.toNat)]? = some (eTJoint x5)) (.c ((h4).1) (.c ((h4).2) (.c (get_prf (set_prf2 (show (row0.map eTJoint) = (row0.map eTJoint) from rfl) (0 + v_i.toNat) (⟨r2, x5.fX, x5.fY, x5.fFixed⟩ : TJoint) (rfl : (setCells (eTJoint x5) 0 [.s r2]) = eTJoint (⟨r2, x5.fX, x5.fY, x5.fFixed⟩ : TJoint))) h8) (.c (get_prf (set_prf2 (show (row0.map eTJoint) = (row0.map eTJoint) from rfl) (0 + v_i.toNat) (⟨r2, x5.fX, x5.fY, x5.fFixed⟩ : TJoint) (rfl : (setCells (eTJoint x5) 0 [.s r2]) = eTJoint (⟨r2, x5.fX, x5.fY, x5.fFixed⟩ : TJoint))) h8) (.c ((h4).1) (.c ((h4).2) (.c (get_prf (set_prf2 (set_prf2 (show (row0.map eTJoint) = (row0.map eTJoint) from rfl) (0 + v_i.toNat) (⟨r2, x5.fX, x5.fY, x5.fFixed⟩ : TJoint) (rfl : (setCells (eTJoint x5) 0 [.s r2]) = eTJoint (⟨r2, x5.fX, x5.fY, x5.fFixed⟩ : TJoint))) (0 + v_i.toNat) (⟨x7.fName, w64 (v_k + (1 : Int)), x7.fY, x7.fFixed⟩ : TJoint) (rfl : (setCells (eTJoint x7) 1 [.n .i64 (w64 (v_k + (1 : Int)))]) = eTJoint (⟨x7.fName, w64 (v_k + (1 : Int)), x7.fY, x7.fFixed⟩ : TJoint))) h10) (.c (get_prf (set_prf2 (set_prf2 (show (row0.map eTJoint) = (row0.map eTJoint) from rfl) (0 + v_i.toNat) (⟨r2, x5.fX, x5.fY, x5.fFixed⟩ : TJoint) (rfl : (setCells (eTJoint x5) 0 [.s r2]) = eTJoint (⟨r2, x5.fX, x5.fY, x5.fFixed⟩ : TJoint))) (0 + v_i.toNat) (⟨x7.fName, w64 (v_k + (1 : Int)), x7.fY, x7.fFixed⟩ : TJoint) (rfl : (setCells (eTJoint x7) 1 [.n .i64 (w64 (v_k + (1 : Int)))]) = eTJoint (⟨x7.fName, w64 (v_k + (1 : Int)), x7.fY, x7.fFixed⟩ : TJoint))) h10) (.c (by decide : (3 : Int) ≠ 0) (.c ((h4).1) (.c ((h4).2) (.c (get_prf (set_prf2 (set_prf2 (set_prf2 (show (row0.map eTJoint) = (row0.map eTJoint) from rfl) (0 + v_i.toNat) (⟨r2, x5.fX, x5.fY, x5.fFixed⟩ : TJoint) (rfl : (setCells (eTJoint x5) 0 [.s r2]) = eTJoint (⟨r2, x5.fX, x5.fY, x5.fFixed⟩ : TJoint))) (0 + v_i.toNat) (⟨x7.fName, w64 (v_k + (1 : Int)), x7.fY, x7.fFixed⟩ : TJoint) (rfl : (setCells (eTJoint x7) 1 [.n .i64 (w64 (v_k + (1 : Int)))]) = eTJoint (⟨x7.fName, w64 (v_k + (1 : Int)), x7.fY, x7.fFixed⟩ : TJoint))) (0 + v_i.toNat) (⟨x9.fName, x9.fX, w64 ((w64 (v_k + (1 : Int))) + (1 : Int)), x9.fFixed⟩ : TJoint) (rfl : (setCells (eTJoint x9) 2 [.n .i64 (w64 ((w64 (v_k + (1 : Int))) + (1 : Int)))]) = eTJoint (⟨x9.fName, x9.fX, w64 ((w64 (v_k + (1 : Int))) + (1 : Int)), x9.fFixed⟩ : TJoint))) h12) (.c (get_prf (set_prf2 (set_prf2 (set_prf2 (show (row0.map eTJoint) = (row0.map eTJoint) from rfl) (0 + v_i.toNat) (⟨r2, x5.fX, x5.fY, x5.fFixed⟩ : TJoint) (rfl : (setCells (eTJoint x5) 0 [.s r2]) = eTJoint (⟨r2, x5.fX, x5.fY, x5.fFixed⟩ : TJoint))) (0 + v_i.toNat) (⟨x7.fName, w64 (v_k + (1 : Int)), x7.fY, x7.fFixed⟩ : TJoint) (rfl : (setCells (eTJoint x7) 1 [.n .i64 (w64 (v_k + (1 : Int)))]) = eTJoint (⟨x7.fName, w64 (v_k + (1 : Int)), x7.fY, x7.fFixed⟩ : TJoint))) (0 + v_i.toNat) (⟨x9.fName, x9.fX, w64 ((w64 (v_k + (1 : Int))) + (1 : Int)), x9.fFixed⟩ : TJoint) (rfl : (setCells (eTJoint x9) 2 [.n .i64 (w64 ((w64 (v_k + (1 : Int))) + (1 : Int)))]) = eTJoint (⟨x9.fName, x9.fX, w64 ((w64 (v_k + (1 : Int))) + (1 : Int)), x9.fFixed⟩ : TJoint))) h12) (.c (row_prf (set_prf2 (set_prf2 (set_prf2 (set_prf2 (show (row0.map eTJoint) = (row0.map eTJoint) from rfl) (0 + v_i.toNat) (⟨r2, x5.fX, x5.fY, x5.fFixed⟩ : TJoint) (rfl : (setCells (eTJoint x5) 0 [.s r2]) = eTJoint (⟨r2, x5.fX, x5.fY, x5.fFixed⟩ : TJoint))) (0 + v_i.toNat) (⟨x7.fName, w64 (v_k + (1 : Int)), x7.fY, x7.fFixed⟩ : TJoint) (rfl : (setCells (eTJoint x7) 1 [.n .i64 (w64 (v_k + (1 : Int)))]) = eTJoint (⟨x7.fName, w64 (v_k + (1 : Int)), x7.fY, x7.fFixed⟩ : TJoint))) (0 + v_i.toNat) (⟨x9.fName, x9.fX, w64 ((w64 (v_k + (1 : Int))) + (1 : Int)), x9.fFixed⟩ : TJoint) (rfl : (setCells (eTJoint x9) 2 [.n .i64 (w64 ((w64 (v_k + (1 : Int))) + (1 : Int)))]) = eTJoint (⟨x9.fName, x9.fX, w64 ((w64 (v_k + (1 : Int))) + (1 : Int)), x9.fFixed⟩ : TJoint))) (0 + v_i.toNat) (⟨x11.fName, x11.fX, x11.fY, (((w64 ((w64 ((w64 (v_k + (1 : Int))) + (1 : Int))) + (1 : Int))).tmod (3 : Int)) == (0 : Int))⟩ : TJoint) (rfl : (setCells (eTJoint x11) 3 [.b (((w64 ((w64 ((w64 (v_k + (1 : Int))) + (1 : Int))) + (1 : Int))).tmod (3 : Int)) == (0 : Int))]) = eTJoint (⟨x11.fName, x11.fX, x11.fY, (((w64 ((w64 ((w64 (v_k + (1 : Int))) + (1 : Int))) + (1 : Int))).tmod (3 : Int)) == (0 : Int))⟩ : TJoint))) : [Ob.mk 4 (((((row0.map eTJoint).set (0 + v_i.toNat) (setCells (eTJoint x5) 0 [.s r2])).set (0 + v_i.toNat) (setCells (eTJoint x7) 1 [.n .i64 (w64 (v_k + (1 : Int)))])).set (0 + v_i.toNat) (setCells (eTJoint x9) 2 [.n .i64 (w64 ((w64 (v_k + (1 : Int))) + (1 : Int)))])).set (0 + v_i.toNat) (setCells (eTJoint x11) 3 [.b (((w64 ((w64 ((w64 (v_k + (1 : Int))) + (1 : Int))) + (1 : Int))).tmod (3 : Int)) == (0 : Int))])) .live] = [Ob.mk 4 (((((row0.set (0 + v_i.toNat) (⟨r2, x5.fX, x5.fY, x5.fFixed⟩ : TJoint)).set (0 + v_i.toNat) (⟨x7.fName, w64 (v_k + (1 : Int)), x7.fY, x7.fFixed⟩ : TJoint)).set (0 + v_i.toNat) (⟨x9.fName, x9.fX, w64 ((w64 (v_k + (1 : Int))) + (1 : Int)), x9.fFixed⟩ : TJoint)).set (0 + v_i.toNat) (⟨x11.fName, x11.fX, x11.fY, (((w64 ((w64 ((w64 (v_k + (1 : Int))) + (1 : Int))) + (1 : Int))).tmod (3 : Int)) == (0 : Int))⟩ : TJoint)).map eTJoint) .live]) (.c (pure_row eTJoint_pure ((((row0.set (0 + v_i.toNat) (⟨r2, x5.fX, x5.fY, x5.fFixed⟩ : TJoint)).set (0 + v_i.toNat) (⟨x7.fName, w64 (v_k + (1 : Int)), x7.fY, x7.fFixed⟩ : TJoint)).set (0 + v_i.toNat) (⟨x9.fName, x9.fX, w64 ((w64 (v_k + (1 : Int))) + (1 : Int)), x9.fFixed⟩ : TJoint)).set (0 + v_i.toNat) (⟨x11.fName, x11.fX, x11.fY, (((w64 ((w64 ((w64 (v_k + (1 : Int))) + (1 : Int))) + (1 : Int))).tmod (3 : Int)) == (0 : Int))⟩ : TJoint)) : PureRow [Ob.mk 4 (((((row0.set (0 + v_i.toNat) (⟨r2, x5.fX, x5.fY, x5.fFixed⟩ : TJoint)).set (0 + v_i.toNat) (⟨x7.fName, w64 (v_k + (1 : Int)), x7.fY, x7.fFixed⟩ : TJoint)).set (0 + v_i.toNat) (⟨x9.fName, x9.fX, w64 ((w64 (v_k + (1 : Int))) + (1 : Int)), x9.fFixed⟩ : TJoint)).set (0 + v_i.toNat) (⟨x11.fName, x11.fX, x11.fY, (((w64 ((w64 ((w64 (v_k + (1 : Int))) + (1 : Int))) + (1 : Int))).tmod (3 : Int)) == (0 : Int))⟩ : TJoint)).map eTJoint) .live]) (.c (len_set (len_set (len_set (len_set (show row0.length = row0.length from rfl) (0 + v_i.toNat) (⟨r2, x5.fX, x5.fY, x5.fFixed⟩ : TJoint)) (0 + v_i.toNat) (⟨x7.fName, w64 (v_k + (1 : Int)), x7.fY, x7.fFixed⟩ : TJoint)) (0 + v_i.toNat) (⟨x9.fName, x9.fX, w64 ((w64 (v_k + (1 : Int))) + (1 : Int)), x9.fFixed⟩ : TJoint)) (0 + v_i.toNat) (⟨x11.fName, x11.fX, x11.fY, (((w64 ((w64 ((w64 (v_k + (1 : Int))) + (1 : Int))) + (1 : Int))).tmod (3 : Int)) == (0 : Int))⟩ : TJoint)) .nil))))))))))))))))))))))) (mkS_free _ _) : laws_markJointS_o_L1_V .normal (laws_markJointS_o_L1_head  v_k v_i row0) (laws_markJointS_o_L1_head  (w64 ((w64 ((w64 ((w64 (v_k + (1 : Int))) + (1 : Int))) + (1 : Int))) + (1 : Int))) (w64 (v_i + (1 : Int))) ((((row0.set (0 + v_i.toNat) (⟨r2, x5.fX, x5.fY, x5.fFixed⟩ : TJoint)).set (0 + v_i.toNat) (⟨x7.fName, w64 (v_k + (1 : Int)), x7.fY, x7.fFixed⟩ : TJoint)).set (0 + v_i.toNat) (⟨x9.fName, x9.fX, w64 ((w64 (v_k + (1 : Int))) + (1 : Int)), x9.fFixed⟩ : TJoint)).set (0 + v_i.toNat) (⟨x11.fName, x11.fX, x11.fY, (((w64 ((w64 ((w64 (v_k + (1 : Int))) + (1 : Int))) + (1 : Int))).tmod (3 : Int)) == (0 : Int))⟩ : TJoint))))))
    (fun h1 =>
    .ret ((okC_sound hmix (tape := t1 ++ ([.br false, .rst [0] [.pure] [(1, ii)]] : List TE)) (nr := 1) (by kernel_rfl) (.c h1 (.c (pure_row eTJoint_pure row0 : PureRow [Ob.mk 4 (row0.map eTJoint) .live]) .nil)) (mkS_free _ _) : laws_markJointS_o_L1_V (.exit 0) (laws_markJointS_o_L1_head  v_k v_i row0) (laws_markJointS_o_L1_out  (v_k, row0))))))

theorem laws_markJointS_o_L1_ok  (v_k : Int) (v_i : Int) (row0 : (List TJoint)) : ∀ r, laws_markJointS_o_L1  v_k v_i row0 = some r → VLoop PP 44 1 (nodeAt (bodyOf PP 31) [1, 0, 1, 0, 0]) (laws_markJointS_o_L1_ex r) (laws_markJointS_o_L1_head  v_k v_i row0) (laws_markJointS_o_L1_out  r) := fun r h =>
  iter_ok (head := fun w : Int × Int × (List TJoint) => laws_markJointS_o_L1_head  w.1 w.2.1 w.2.2) (ex := laws_markJointS_o_L1_ex) (out := laws_markJointS_o_L1_out ) (by intro r; unfold laws_markJointS_o_L1_ex; split <;> simp) (fun w => laws_markJointS_o_L1_body_ok  w.1 w.2.1 w.2.2) (v_k, v_i, row0) r h

def laws_markJointS_o (v_k : Int) (rw0 : (List TJoint)) : Option (Int × (List TJoint)) :=
  laws_markJointS_o_L1 v_k 0 rw0 >>= fun r1 =>
  some (r1.1, r1.2)

theorem laws_markJointS_o_ok (v_k : Int) (rw0 : (List TJoint)) : Wp (laws_markJointS_o v_k rw0) (fun a => Con PP 31 [.osl 0 0 0 rw0.length, .n .i64 v_k] [[Ob.mk 4 (rw0.map eTJoint) .live]] (.n .i64 a.1) [[Ob.mk 4 (a.2.map eTJoint) .live]]) := by
  unfold laws_markJointS_o
  exact .bnd fun r1 h2 =>
    .ret (runF_con hmix (tape := [.reg [nt], .reg [nt], .rst [0] [.pure] [(0, ii), (1, ii), (5, ii)], .sub (.exit 0) [(1, .n .i64 r1.1)] [[Ob.mk 4 (r1.2.map eTJoint) .live]], .reg [nt, nt]]) (mv := [0]) (rc := [.pure]) (rr := ii) (by kernel_rfl) (.c (pure_row eTJoint_pure rw0 : PureRow [Ob.mk 4 (rw0.map eTJoint) .live]) (.c ((laws_markJointS_o_L1_ok v_k 0 rw0 r1 h2).vex) (.c (pure_row eTJoint_pure r1.2 : PureRow [Ob.mk 4 (r1.2.map eTJoint) .live]) .nil))))

def laws_markMemberS_o_L1_head  (v_k : Int) (v_i : Int) (row0 : (List TMember)) : S := mkS [(0, .osl 0 0 0 row0.length), (1, .n .i64 v_k), (5, .n .i64 v_i)] [[Ob.mk 3 (row0.map eTMember) .live]]

def laws_markMemberS_o_L1_ex : (Int × (List TMember)) → Exit
  | _ => .exit 0

def laws_markMemberS_o_L1_out  : (Int × (List TMember)) → S
  | a => mkS [(1, .n .i64 a.1)] [[Ob.mk 3 (a.2.map eTMember) .live]]

abbrev laws_markMemberS_o_L1_V := VEx PP 34 1 (nodeAt (bodyOf PP 32) [1, 0, 1, 0, 0])

def laws_markMemberS_o_L1_body  (v_k : Int) (v_i : Int) (row0 : (List TMember)) : Option ((Int × Int × (List TMember)) ⊕ (Int × (List TMember))) :=
  if (decide (v_i < ((row0.length : Nat) : Int))) = true then
    if 0 ≤ v_i ∧ v_i < (row0.length : Nat) then
    row0[(0 + v_i.toNat)]? >>= fun x3 =>
    (row0.set (0 + v_i.toNat) (⟨v_k, x3.fB, x3.fKind⟩ : TMember))[(0 + v_i.toNat)]? >>= fun x5 =>
    ((row0.set (0 + v_i.toNat) (⟨v_k, x3.fB, x3.fKind⟩ : TMember)).set (0 + v_i.toNat) (⟨x5.fA, w64 (v_k + (1 : Int)), x5.fKind⟩ : TMember))[(0 + v_i.toNat)]? >>= fun x7 =>
    some (.inl (w64 ((w64 ((w64 (v_k + (1 : Int))) + (1 : Int))) + (1 : Int)), w64 (v_i + (1 : Int)), ((row0.set (0 + v_i.toNat) (⟨v_k, x3.fB, x3.fKind⟩ : TMember)).set (0 + v_i.toNat) (⟨x5.fA, w64 (v_k + (1 : Int)), x5.fKind⟩ : TMember)).set (0 + v_i.toNat) (⟨x7.fA, x7.fB, w64 ((w64 (v_k + (1 : Int))) + (1 : Int))⟩ : TMember)))
    else none
  else
    some (.inr (v_k, row0))

def laws_markMemberS_o_L1  (v_k : Int) (v_i : Int) (row0 : (List TMember)) : Option (Int × (List TMember)) := iter (fun w : Int × Int × (List TMember) => laws_markMemberS_o_L1_body  w.1 w.2.1 w.2.2) (v_k, v_i, row0)

theorem laws_markMemberS_o_L1_body_ok  (v_k : Int) (v_i : Int) (row0 : (List TMember)) : Wp (laws_markMemberS_o_L1_body  v_k v_i row0) (Sum.elim
    (fun w => laws_markMemberS_o_L1_V .normal (laws_markMemberS_o_L1_head  v_k v_i row0) (laws_markMemberS_o_L1_head  w.1 w.2.1 w.2.2))
    (fun r => laws_markMemberS_o_L1_V (laws_markMemberS_o_L1_ex r) (laws_markMemberS_o_L1_head  v_k v_i row0) (laws_markMemberS_o_L1_out  r))) := by
  unfold laws_markMemberS_o_L1_body
  exact (let t1 : List TE := [.reg [nt, nt, nt, nt]];
    .ite (fun h1 =>
    .grd fun h2 =>
    .bnd fun x3 h4 =>
    .bnd fun x5 h6 =>
    .bnd fun x7 h8 =>
    .ret ((okC_sound hmix (tape := t1 ++ ([.br true, .reg [nt, nt, nt, nt, (.el (eTMember x3), true), (.el (eTMember x3), true)], .reg [nt, nt, nt], .reg [nt, nt, nt, nt, (.el (eTMember x5), true), (.el (eTMember x5), true)], .reg [nt, nt, nt], .reg [nt, nt, nt, nt, (.el (eTMember x7), true), (.el (eTMember x7), true)], .reg [nt, nt, nt], .reg [nt, nt, nt], .rst [0] [.as [Ob.mk 3 ((((row0.set (0 + v_i.toNat) (⟨v_k, x3.fB, x3.fKind⟩ : TMember)).set (0 + v_i.toNat) (⟨x5.fA, w64 (v_k + (1 : Int)), x5.fKind⟩ : TMember)).set (0 + v_i.toNat) (⟨x7.fA, x7.fB, w64 ((w64 (v_k + (1 : Int))) + (1 : Int))⟩ : TMember)).map eTMember) .live]] [(0, .c1 (.c0 (.len ((((row0.set (0 + v_i.toNat) (⟨v_k, x3.fB, x3.fKind⟩ : TMember)).set (0 + v_i.toNat) (⟨x5.fA, w64 (v_k + (1 : Int)), x5.fKind⟩ : TMember)).set (0 + v_i.toNat) (⟨x7.fA, x7.fB, w64 ((w64 (v_k + (1 : Int))) + (1 : Int))⟩ : TMember)).length)))), (1, ii), (5, ii)]] : List TE)) (nr := 1) (by kernel_rfl) (.c h1 (.c ((h2).1) (.c ((h2).2) (.c (map_get h4 : (row0.map eTMember)[(0 + v_i.toNat)]? = some (eTMember x3)) (.c (map_get h4 : (row0.map eTMember)[(0 + v_i.toNat)]? = some (eTMember x3)) (.c ((h2).1) (.c ((h2).2) (.c (get_prf (set_prf2 (show (row0.map eTMember) = (row0.map eTMember) from rfl) (0 + v_i.toNat) (⟨v_k, x3.fB, x3.fKind⟩ : TMember) (rfl : (setCells (eTMember x3) 0 [.n .i64 v_k]) = eTMember (⟨v_k, x3.fB, x3.fKind⟩ : TMember))) h6) (.c (get_prf (set_prf2 (show (row0.map eTMember) = (row0.map eTMember) from rfl) (0 + v_i.toNat) (⟨v_k, x3.fB, x3.fKind⟩ : TMember) (rfl : (setCells (eTMember x3) 0 [.n .i64 v_k]) = eTMember (⟨v_k, x3.fB, x3.fKind⟩ : TMember))) h6) (.c ((h2).1) (.c ((h2).2) (.c (get_prf (set_prf2 (set_prf2 (show (row0.map eTMember) = (row0.map eTMember) from rfl) (0 + v_i.toNat) (⟨v_k, x3.fB, x3.fKind⟩ : TMember) (rfl : (setCells (eTMember x3) 0 [.n .i64 v_k]) = eTMember (⟨v_k, x3.fB, x3.fKind⟩ : TMember))) (0 + v_i.toNat) (⟨x5.fA, w64 (v_k + (1 : Int)), x5.fKind⟩ : TMember) (rfl : (setCells (eTMember x5) 1 [.n .i64 (w64 (v_k + (1 : Int)))]) = eTMember (⟨x5.fA, w64 (v_k + (1 : Int)), x5.fKind⟩ : TMember))) h8) (.c (get_prf (set_prf2 (set_prf2 (show (row0.map eTMember) = (row0.map eTMember) from rfl) (0 + v_i.toNat) (⟨v_k, x3.fB, x3.fKind⟩ : TMember) (rfl : (setCells (eTMember x3) 0 [.n .i64 v_k]) = eTMember (⟨v_k, x3.fB, x3.fKind⟩ : TMember))) (0 + v_i.toNat) (⟨x5.fA, w64 (v_k + (1 : Int)), x5.fKind⟩ : TMember) (rfl : (setCells (eTMember x5) 1 [.n .i64 (w64 (v_k + (1 : Int)))]) = eTMember (⟨x5.fA, w64 (v_k + (1 : Int)), x5.fKind⟩ : TMember))) h8) (.c (row_prf (set_prf2 (set_prf2 (set_prf2 (show (row0.map eTMember) = (row0.map eTMember) from rfl) (0 + v_i.toNat) (⟨v_k, x3.fB, x3.fKind⟩ : TMember) (rfl : (setCells (eTMember x3) 0 [.n .i64 v_k]) = eTMember (⟨v_k, x3.fB, x3.fKind⟩ : TMember))) (0 + v_i.toNat) (⟨x5.fA, w64 (v_k + (1 : Int)), x5.fKind⟩ : TMember) (rfl : (setCells (eTMember x5) 1 [.n .i64 (w64 (v_k + (1 : Int)))]) = eTMember (⟨x5.fA, w64 (v_k + (1 : Int)), x5.fKind⟩ : TMember))) (0 + v_i.toNat) (⟨x7.fA, x7.fB, w64 ((w64 (v_k + (1 : Int))) + (1 : Int))⟩ : TMember) (rfl : (setCells (eTMember x7) 2 [.n .i64 (w64 ((w64 (v_k + (1 : Int))) + (1 : Int)))]) = eTMember (⟨x7.fA, x7.fB, w64 ((w64 (v_k + (1 : Int))) + (1 : Int))⟩ : TMember))) : [Ob.mk 3 ((((row0.map eTMember).set (0 + v_i.toNat) (setCells (eTMember x3) 0 [.n .i64 v_k])).set (0 + v_i.toNat) (setCells (eTMember x5) 1 [.n .i64 (w64 (v_k + (1 : Int)))])).set (0 + v_i.toNat) (setCells (eTMember x7) 2 [.n .i64 (w64 ((w64 (v_k + (1 : Int))) + (1 : Int)))])) .live] = [Ob.mk 3 ((((row0.set (0 + v_i.toNat) (⟨v_k, x3.fB, x3.fKind⟩ : TMember)).set (0 + v_i.toNat) (⟨x5.fA, w64 (v_k + (1 : Int)), x5.fKind⟩ : TMember)).set (0 + v_i.toNat) (⟨x7.fA, x7.fB, w64 ((w64 (v_k + (1 : Int))) + (1 : Int))⟩ : TMember)).map eTMember) .live]) (.c (pure_row eTMember_pure (((row0.set (0 + v_i.toNat) (⟨v_k, x3.fB, x3.fKind⟩ : TMember)).set (0 + v_i.toNat) (⟨x5.fA, w64 (v_k + (1 : Int)), x5.fKind⟩ : TMember)).set (0 + v_i.toNat) (⟨x7.fA, x7.fB, w64 ((w64 (v_k + (1 : Int))) + (1 : Int))⟩ : TMember)) : PureRow [Ob.mk 3 ((((row0.set (0 + v_i.toNat) (⟨v_k, x3.fB, x3.fKind⟩ : TMember)).set (0 + v_i.toNat) (⟨x5.fA, w64 (v_k + (1 : Int)), x5.fKind⟩ : TMember)).set (0 + v_i.toNat) (⟨x7.fA, x7.fB, w64 ((w64 (v_k + (1 : Int))) + (1 : Int))⟩ : TMember)).map eTMember) .live]) (.c (len_set (len_set (len_set (show row0.length = row0.length from rfl) (0 + v_i.toNat) (⟨v_k, x3.fB, x3.fKind⟩ : TMember)) (0 + v_i.toNat) (⟨x5.fA, w64 (v_k + (1 : Int)), x5.fKind⟩ : TMember)) (0 + v_i.toNat) (⟨x7.fA, x7.fB, w64 ((w64 (v_k + (1 : Int))) + (1 : Int))⟩ : TMember)) .nil)))))))))))))))) (mkS_free _ _) : laws_markMemberS_o_L1_V .normal (laws_markMemberS_o_L1_head  v_k v_i row0) (laws_markMemberS_o_L1_head  (w64 ((w64 ((w64 (v_k + (1 : Int))) + (1 : Int))) + (1 : Int))) (w64 (v_i + (1 : Int))) (((row0.set (0 + v_i.toNat) (⟨v_k, x3.fB, x3.fKind⟩ : TMember)).set (0 + v_i.toNat) (⟨x5.fA, w64 (v_k + (1 : Int)), x5.fKind⟩ : TMember)).set (0 + v_i.toNat) (⟨x7.fA, x7.fB, w64 ((w64 (v_k + (1 : Int))) + (1 : Int))⟩ : TMember))))))
    (fun h1 =>
    .ret ((okC_sound hmix (tape := t1 ++ ([.br false, .rst [0] [.pure] [(1, ii)]] : List TE)) (nr := 1) (by kernel_rfl) (.c h1 (.c (pure_row eTMember_pure row0 : PureRow [Ob.mk 3 (row0.map eTMember) .live]) .nil)) (mkS_free _ _) : laws_markMemberS_o_L1_V (.exit 0) (laws_markMemberS_o_L1_head  v_k v_i row0) (laws_markMemberS_o_L1_out  (v_k, row0))))))

theorem laws_markMemberS_o_L1_ok  (v_k : Int) (v_i : Int) (row0 : (List TMember)) : ∀ r, laws_markMemberS_o_L1  v_k v_i row0 = some r → VLoop PP 34 1 (nodeAt (bodyOf PP 32) [1, 0, 1, 0, 0]) (laws_markMemberS_o_L1_ex r) (laws_markMemberS_o_L1_head  v_k v_i row0) (laws_markMemberS_o_L1_out  r) := fun r h =>
  iter_ok (head := fun w : Int × Int × (List TMember) => laws_markMemberS_o_L1_head  w.1 w.2.1 w.2.2) (ex := laws_markMemberS_o_L1_ex) (out := laws_markMemberS_o_L1_out ) (by intro r; unfold laws_markMemberS_o_L1_ex; split <;> simp) (fun w => laws_markMemberS_o_L1_body_ok  w.1 w.2.1 w.2.2) (v_k, v_i, row0) r h

def laws_markMemberS_o (v_k : Int) (rw0 : (List TMember)) : Option (Int × (List TMember)) :=
  laws_markMemberS_o_L1 v_k 0 rw0 >>= fun r1 =>
  some (r1.1, r1.2)

theorem laws_markMemberS_o_ok (v_k : Int) (rw0 : (List TMember)) : Wp (laws_markMemberS_o v_k rw0) (fun a => Con PP 32 [.osl 0 0 0 rw0.length, .n .i64 v_k] [[Ob.mk 3 (rw0.map eTMember) .live]] (.n .i64 a.1) [[Ob.mk 3 (a.2.map eTMember) .live]]) := by
  unfold laws_markMemberS_o
  exact .bnd fun r1 h2 =>
    .ret (runF_con hmix (tape := [.reg [nt], .reg [nt], .rst [0] [.pure] [(0, ii), (1, ii), (5, ii)], .sub (.exit 0) [(1, .n .i64 r1.1)] [[Ob.mk 3 (r1.2.map eTMember) .live]], .reg [nt, nt]]) (mv := [0]) (rc := [.pure]) (rr := ii) (by kernel_rfl) (.c (pure_row eTMember_pure rw0 : PureRow [Ob.mk 3 (rw0.map eTMember) .live]) (.c ((laws_markMemberS_o_L1_ok v_k 0 rw0 r1 h2).vex) (.c (pure_row eTMember_pure r1.2 : PureRow [Ob.mk 3 (r1.2.map eTMember) .live]) .nil))))

end Go.Proofs.YtiacejpdgjmdfabGreat
