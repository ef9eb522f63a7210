/- Plain functions for the program's functions, and that calls come to them: printed by a program. No condition. -/
import Derived.Test.YtjgnmimfihhphaaV0
import Derived.Test.YtjgnmimfihhphaaVFnExactLimitsOkA
import Derived.Test.YtjgnmimfihhphaaVFnExactBlockOkA
namespace Go.Proofs.Ytjgnmimfihhphaa
open Go Go.VL

def laws_szBlockS (v_a : (List TBlock)) (v_left : Int) : Option Int :=
  if (decide ((w64 (v_left - (len_ eTBlock v_a))) < (0 : Int))) = true then
    some (-1)
  else
    some (w64 (v_left - (len_ eTBlock v_a)))

theorem laws_szBlockS_ok (v_a : (List TBlock)) (v_left : Int) : Wp (laws_szBlockS v_a v_left) (fun r => Con PP 35 [.isl 4 (v_a.map eTBlock), .n .i64 v_left] [] (.n .i64 r) []) := by
  unfold laws_szBlockS
  exact .ite (fun h1 =>
    .ret (runF_con0 hmix (tape := [.reg [nt], .reg [nt, nt, nt, nt, nt], .reg [nt, nt], .br true, .reg [nt]]) (rr := ii) (by kernel_rfl) (.cons h1 .nil)))
    (fun h1 =>
    .ret (runF_con0 hmix (tape := [.reg [nt], .reg [nt, nt, nt, nt, nt], .reg [nt, nt], .br false, .reg [nt, nt]]) (rr := ii) (by kernel_rfl) (.cons h1 .nil)))

def laws_toBlockS_L1_head (v_a : (List TBlock)) (v_out_len : Nat) (v_i : Int) (row0 : (List TBlock)) : S := mkS [(0, .isl 4 (v_a.map eTBlock)), (3, .osl 0 0 0 v_out_len), (4, .n .i64 v_i)] [[Ob.mk 4 (row0.map eTBlock) .live]]

def laws_toBlockS_L1_ex : (List TBlock) → Exit
  | _ => .exit 0

def laws_toBlockS_L1_out (v_a : (List TBlock)) (v_out_len : Nat) : (List TBlock) → S
  | a => mkS [(3, .osl 0 0 0 v_out_len)] [[Ob.mk 4 (a.map eTBlock) .live]]

def laws_toBlockS_L1_body (v_a : (List TBlock)) (v_out_len : Nat) (v_i : Int) (row0 : (List TBlock)) : Option ((Int × (List TBlock)) ⊕ ((List TBlock))) :=
  if (decide (v_i < (len_ eTBlock v_a))) = true then
    if 0 ≤ v_i ∧ v_i < v_a.length then
    v_a[v_i.toNat]? >>= fun x3 =>
    laws_toBlock x3 >>= fun r5 =>
    if 0 ≤ v_i ∧ v_i < (v_out_len : Nat) then
    if (0 + v_i.toNat) < row0.length then
    some (.inl (w64 (v_i + (1 : Int)), row0.set (0 + v_i.toNat) r5))
    else none
    else none
    else none
  else
    some (.inr row0)

def laws_toBlockS_L1 (v_a : (List TBlock)) (v_out_len : Nat) (v_i : Int) (row0 : (List TBlock)) : Option ((List TBlock)) := iter (fun w : Int × (List TBlock) => laws_toBlockS_L1_body v_a v_out_len w.1 w.2) (v_i, row0)

theorem laws_toBlockS_L1_body_ok (v_a : (List TBlock)) (v_out_len : Nat) (v_i : Int) (row0 : (List TBlock)) : Wp (laws_toBlockS_L1_body v_a v_out_len v_i row0) (Sum.elim
    (fun w => VEx PP 23 0 (nodeAt (bodyOf PP 37) [1, 1, 0, 1, 0, 0]) .normal (laws_toBlockS_L1_head v_a v_out_len v_i row0) (laws_toBlockS_L1_head v_a v_out_len w.1 w.2))
    (fun r => VEx PP 23 0 (nodeAt (bodyOf PP 37) [1, 1, 0, 1, 0, 0]) (laws_toBlockS_L1_ex r) (laws_toBlockS_L1_head v_a v_out_len v_i row0) (laws_toBlockS_L1_out v_a v_out_len r))) := by
  unfold laws_toBlockS_L1_body
  exact .ite (fun h1 =>
      .grd fun h2 =>
       .bnd fun x3 h4 =>
       .bnd fun r5 h6 =>
       .grd fun h7 =>
       .grd fun h8 =>
       .ret ((okC_sound hmix (tape := [.reg [nt, nt, nt, nt], .br true, .reg [nt, nt, nt, nt, nt, (.el (eTBlock x3), true), (.call { ac := [ii], r := .agg [.n .i64 r5.fA, .n .i64 r5.fB, .n .i64 r5.fNum, .n .i64 r5.fDen], sc := false }, true), nt, (.bd, true)], .reg [nt, nt, nt], .rst [0] [.as [Ob.mk 4 ((row0.set (0 + v_i.toNat) r5).map eTBlock) .live]] [(0, ii), (3, ii), (4, ii)]]) (nr := 1) (by kernel_rfl) (.cons h1 (.cons ((h2).1) (.cons (lt_mapI (h2).2 : v_i < ((v_a.map eTBlock).length : Nat)) (.cons (map_get h4 : (v_a.map eTBlock)[v_i.toNat]? = some (eTBlock x3)) (.cons (laws_toBlock_ok x3 r5 h6) (.cons ((h7).1) (.cons ((h7).2) (.cons (lt_map h8 : (0 + v_i.toNat) < (row0.map eTBlock).length) (.cons (rfl : 4 = 4) (.cons (row_prf (set_prf (rfl : (row0.map eTBlock) = (row0.map eTBlock)) (0 + v_i.toNat) r5) : [Ob.mk 4 ((row0.map eTBlock).set (0 + v_i.toNat) [.n .i64 r5.fA, .n .i64 r5.fB, .n .i64 r5.fNum, .n .i64 r5.fDen]) .live] = [Ob.mk 4 ((row0.set (0 + v_i.toNat) r5).map eTBlock) .live]) (.cons (pure_row eTBlock_pure (row0.set (0 + v_i.toNat) r5) : PureRow [Ob.mk 4 ((row0.set (0 + v_i.toNat) r5).map eTBlock) .live]) .nil))))))))))) (mkS_free _ _) : VEx PP 23 0 (nodeAt (bodyOf PP 37) [1, 1, 0, 1, 0, 0]) .normal (laws_toBlockS_L1_head v_a v_out_len v_i row0) (laws_toBlockS_L1_head v_a v_out_len (w64 (v_i + (1 : Int))) (row0.set (0 + v_i.toNat) r5)))))
      (fun h1 =>
      .ret ((okC_sound hmix (tape := [.reg [nt, nt, nt, nt], .br false, .rst [0] [.pure] [(3, ii)]]) (nr := 1) (by kernel_rfl) (.cons h1 (.cons (pure_row eTBlock_pure row0 : PureRow [Ob.mk 4 (row0.map eTBlock) .live]) .nil)) (mkS_free _ _) : VEx PP 23 0 (nodeAt (bodyOf PP 37) [1, 1, 0, 1, 0, 0]) (.exit 0) (laws_toBlockS_L1_head v_a v_out_len v_i row0) (laws_toBlockS_L1_out v_a v_out_len row0))))

theorem laws_toBlockS_L1_ok (v_a : (List TBlock)) (v_out_len : Nat) (v_i : Int) (row0 : (List TBlock)) : ∀ r, laws_toBlockS_L1 v_a v_out_len v_i row0 = some r → VLoop PP 23 0 (nodeAt (bodyOf PP 37) [1, 1, 0, 1, 0, 0]) (laws_toBlockS_L1_ex r) (laws_toBlockS_L1_head v_a v_out_len v_i row0) (laws_toBlockS_L1_out v_a v_out_len r) := fun r h =>
  iter_ok (head := fun w : Int × (List TBlock) => laws_toBlockS_L1_head v_a v_out_len w.1 w.2) (ex := laws_toBlockS_L1_ex) (out := laws_toBlockS_L1_out v_a v_out_len) (by intro r; unfold laws_toBlockS_L1_ex; split <;> simp) (fun w => laws_toBlockS_L1_body_ok v_a v_out_len w.1 w.2) (v_i, row0) r h

def laws_toBlockS (v_a : (List TBlock)) : Option (List TBlock) :=
  if 0 ≤ (len_ eTBlock v_a) ∧ (32 : Int) * (len_ eTBlock v_a) ≤ 281474976710656 ∧ (len_ eTBlock v_a) < 9223372036854775808 then
  laws_toBlockS_L1 v_a ((len_ eTBlock v_a).toNat) 0 (List.replicate (len_ eTBlock v_a).toNat (⟨0, 0, 0, 0⟩ : TBlock)) >>= fun r2 =>
  if 0 + (len_ eTBlock v_a).toNat ≤ r2.length then
  some ((r2.drop 0).take ((len_ eTBlock v_a).toNat))
  else none
  else none

theorem laws_toBlockS_ok (v_a : (List TBlock)) : Wp (laws_toBlockS v_a) (fun r => Con PP 37 [.isl 4 (v_a.map eTBlock)] [] (.isl 4 (r.map eTBlock)) []) := by
  unfold laws_toBlockS
  exact .grd fun h1 =>
    .bnd fun r2 h3 =>
    .grd fun h4 =>
    .ret (runF_con0 hmix (tape := [.reg [nt], .reg [nt, nt, nt, nt], .reg [nt], .rst [3] [.as [Ob.mk 4 ((List.replicate (len_ eTBlock v_a).toNat (⟨0, 0, 0, 0⟩ : TBlock)).map eTBlock) .live]] [(0, ii), (3, ii), (4, ii)], .sub (.exit 0) [(3, .osl 0 0 0 ((len_ eTBlock v_a).toNat))] [[Ob.mk 4 (r2.map eTBlock) .live]], .reg [nt, nt]]) (rr := .c1 (.c0 (.sl (((r2.drop 0).take ((len_ eTBlock v_a).toNat)).map eTBlock)))) (by kernel_rfl) (.cons ((h1).1) (.cons (Int.le_refl (len_ eTBlock v_a)) (.cons ((h1).2.1) (.cons ((h1).2.2) (.cons (row_prf (rep_prf eTBlock (len_ eTBlock v_a).toNat (⟨0, 0, 0, 0⟩ : TBlock)) : [Ob.mk 4 (List.replicate (len_ eTBlock v_a).toNat [.n .i64 (0 : Int), .n .i64 (0 : Int), .n .i64 (0 : Int), .n .i64 (0 : Int)]) .live] = [Ob.mk 4 ((List.replicate (len_ eTBlock v_a).toNat (⟨0, 0, 0, 0⟩ : TBlock)).map eTBlock) .live]) (.cons (pure_row eTBlock_pure (List.replicate (len_ eTBlock v_a).toNat (⟨0, 0, 0, 0⟩ : TBlock)) : PureRow [Ob.mk 4 ((List.replicate (len_ eTBlock v_a).toNat (⟨0, 0, 0, 0⟩ : TBlock)).map eTBlock) .live]) (.cons ((laws_toBlockS_L1_ok v_a ((len_ eTBlock v_a).toNat) 0 (List.replicate (len_ eTBlock v_a).toNat (⟨0, 0, 0, 0⟩ : TBlock)) r2 h3).vex) (.cons (snap_prf (rfl : (r2.map eTBlock) = (r2.map eTBlock)) 0 ((len_ eTBlock v_a).toNat)) (.cons (fit_prf (rfl : (r2.map eTBlock) = (r2.map eTBlock)) h4) (.cons (pure_map eTBlock_pure ((r2.drop 0).take ((len_ eTBlock v_a).toNat))) .nil)))))))))))

def spec_BlocksOk_L1_head (v_t15 : (List TBlock)) (v_t16 : Int) (box0_ : (List TJoint)) (box0_' : (List TMember)) (v_t17 : Int) : S := mkS [(2, .ref 0 0 0 0), (15, .isl 4 (v_t15.map eTBlock)), (16, .n .i64 v_t16), (17, .n .i64 v_t17)] [[Ob.mk 2 [[.isl 4 (box0_.map eTJoint), .isl 3 (box0_'.map eTMember)]] .live]]

def spec_BlocksOk_L1_ex : ((Unit) ⊕ (Unit)) → Exit
  | .inl _ => .exit 0
  | .inr _ => .ret

def spec_BlocksOk_L1_out (v_t15 : (List TBlock)) (v_t16 : Int) (box0_ : (List TJoint)) (box0_' : (List TMember)) : ((Unit) ⊕ (Unit)) → S
  | .inl a => mkS [] []
  | .inr a => mkS [(4, .b false)] []

def spec_BlocksOk_L1_body (v_t15 : (List TBlock)) (v_t16 : Int) (box0_ : (List TJoint)) (box0_' : (List TMember)) (v_t17 : Int) : Option ((Int) ⊕ ((Unit) ⊕ (Unit))) :=
  if (decide (v_t17 < v_t16)) = true then
    if 0 ≤ v_t17 ∧ v_t17 < v_t15.length then
    v_t15[v_t17.toNat]? >>= fun x3 =>
    spec_BlockOk (⟨box0_, box0_'⟩ : TStructure) x3 >>= fun r5 =>
    if r5 = true then
      some (.inl (w64 (v_t17 + (1 : Int))))
    else
      some (.inr (.inr ()))
    else none
  else
    some (.inr (.inl ()))

def spec_BlocksOk_L1 (v_t15 : (List TBlock)) (v_t16 : Int) (box0_ : (List TJoint)) (box0_' : (List TMember)) (v_t17 : Int) : Option ((Unit) ⊕ (Unit)) := iter (fun w : Int => spec_BlocksOk_L1_body v_t15 v_t16 box0_ box0_' w) v_t17

theorem spec_BlocksOk_L1_body_ok (v_t15 : (List TBlock)) (v_t16 : Int) (box0_ : (List TJoint)) (box0_' : (List TMember)) (v_t17 : Int) : Wp (spec_BlocksOk_L1_body v_t15 v_t16 box0_ box0_' v_t17) (Sum.elim
    (fun w => VEx PP 26 0 (nodeAt (bodyOf PP 36) [1, 1, 0, 1, 0, 0]) .normal (spec_BlocksOk_L1_head v_t15 v_t16 box0_ box0_' v_t17) (spec_BlocksOk_L1_head v_t15 v_t16 box0_ box0_' w))
    (fun r => VEx PP 26 0 (nodeAt (bodyOf PP 36) [1, 1, 0, 1, 0, 0]) (spec_BlocksOk_L1_ex r) (spec_BlocksOk_L1_head v_t15 v_t16 box0_ box0_' v_t17) (spec_BlocksOk_L1_out v_t15 v_t16 box0_ box0_' r))) := by
  unfold spec_BlocksOk_L1_body
  exact .ite (fun h1 =>
      .grd fun h2 =>
       .bnd fun x3 h4 =>
       .bnd fun r5 h6 =>
       .ite (fun h7 =>
       .ret ((okC_sound hmix (tape := [.reg [nt], .br true, .reg [nt, (.el (eTBlock x3), true), nt, nt], .reg [nt, nt, (.call { ac := [ii, ii], r := .b r5, sc := true }, true), nt], .br false, .reg [nt, nt], .rst [0] [.box [.id, .id]] [(2, ii), (15, ii), (16, ii), (17, ii)]]) (nr := 1) (by kernel_rfl) (.cons h1 (.cons ((h2).1) (.cons (lt_mapI (h2).2 : v_t17 < ((v_t15.map eTBlock).length : Nat)) (.cons (map_get h4 : (v_t15.map eTBlock)[v_t17.toNat]? = some (eTBlock x3)) (.cons (spec_BlockOk_ok (⟨box0_, box0_'⟩ : TStructure) x3 r5 h6) (.cons (Sc.b _ : Sc (.b r5)) (.cons (not_t h7) .nil))))))) (mkS_free _ _) : VEx PP 26 0 (nodeAt (bodyOf PP 36) [1, 1, 0, 1, 0, 0]) .normal (spec_BlocksOk_L1_head v_t15 v_t16 box0_ box0_' v_t17) (spec_BlocksOk_L1_head v_t15 v_t16 box0_ box0_' (w64 (v_t17 + (1 : Int)))))))
       (fun h7 =>
       .ret ((okC_sound hmix (tape := [.reg [nt], .br true, .reg [nt, (.el (eTBlock x3), true), nt, nt], .reg [nt, nt, (.call { ac := [ii, ii], r := .b r5, sc := true }, true), nt], .br true, .reg [nt], .rst [] [] [(4, ii)]]) (nr := 1) (by kernel_rfl) (.cons h1 (.cons ((h2).1) (.cons (lt_mapI (h2).2 : v_t17 < ((v_t15.map eTBlock).length : Nat)) (.cons (map_get h4 : (v_t15.map eTBlock)[v_t17.toNat]? = some (eTBlock x3)) (.cons (spec_BlockOk_ok (⟨box0_, box0_'⟩ : TStructure) x3 r5 h6) (.cons (Sc.b _ : Sc (.b r5)) (.cons (not_f h7) .nil))))))) (mkS_free _ _) : VEx PP 26 0 (nodeAt (bodyOf PP 36) [1, 1, 0, 1, 0, 0]) (.ret) (spec_BlocksOk_L1_head v_t15 v_t16 box0_ box0_' v_t17) (spec_BlocksOk_L1_out v_t15 v_t16 box0_ box0_' (.inr ()))))))
      (fun h1 =>
      .ret ((okC_sound hmix (tape := [.reg [nt], .br false, .rst [] [] []]) (nr := 1) (by kernel_rfl) (.cons h1 .nil) (mkS_free _ _) : VEx PP 26 0 (nodeAt (bodyOf PP 36) [1, 1, 0, 1, 0, 0]) (.exit 0) (spec_BlocksOk_L1_head v_t15 v_t16 box0_ box0_' v_t17) (spec_BlocksOk_L1_out v_t15 v_t16 box0_ box0_' (.inl ())))))

theorem spec_BlocksOk_L1_ok (v_t15 : (List TBlock)) (v_t16 : Int) (box0_ : (List TJoint)) (box0_' : (List TMember)) (v_t17 : Int) : ∀ r, spec_BlocksOk_L1 v_t15 v_t16 box0_ box0_' v_t17 = some r → VLoop PP 26 0 (nodeAt (bodyOf PP 36) [1, 1, 0, 1, 0, 0]) (spec_BlocksOk_L1_ex r) (spec_BlocksOk_L1_head v_t15 v_t16 box0_ box0_' v_t17) (spec_BlocksOk_L1_out v_t15 v_t16 box0_ box0_' r) := fun r h =>
  iter_ok (head := fun w : Int => spec_BlocksOk_L1_head v_t15 v_t16 box0_ box0_' w) (ex := spec_BlocksOk_L1_ex) (out := spec_BlocksOk_L1_out v_t15 v_t16 box0_ box0_') (by intro r; unfold spec_BlocksOk_L1_ex; split <;> simp) (fun w => spec_BlocksOk_L1_body_ok v_t15 v_t16 box0_ box0_' w) v_t17 r h

def spec_BlocksOk (v_s : TStructure) (v_list : (List TBlock)) : Option Bool :=
  spec_StructureOk v_s >>= fun r1 =>
  if r1 = true then
    if (decide ((3 : Int) < (len_ eTBlock v_list))) = true then
      some false
    else
      spec_BlocksOk_L1 v_list (len_ eTBlock v_list) v_s.fJoints v_s.fMembers 0 >>= fun r5 =>
      match r5 with
      | .inl a7 => (some true)
      | .inr a7 => (some false)
  else
    some false

theorem spec_BlocksOk_ok (v_s : TStructure) (v_list : (List TBlock)) : Wp (spec_BlocksOk v_s v_list) (fun r => Con PP 36 [.agg [.isl 4 (v_s.fJoints.map eTJoint), .isl 3 (v_s.fMembers.map eTMember)], .isl 4 (v_list.map eTBlock)] [] (.b r) []) := by
  unfold spec_BlocksOk
  exact .bnd fun r1 h2 =>
    .ite (fun h3 =>
    .ite (fun h4 =>
     .ret (runF_con0 hmix (tape := [.reg [nt, nt], .reg [nt, (.call { ac := [ii], r := .b r1, sc := true }, true), nt, nt, nt, nt, nt, (.br false, true)], .br true, .reg [nt]]) (rr := ii) (by kernel_rfl) (.cons (spec_StructureOk_ok v_s r1 h2) (.cons (Sc.b _ : Sc (.b r1)) (.cons (not_t h3) (.cons (not_t h3) (.cons (not_t h3) (.cons (not_t h3) (.cons h4 .nil)))))))))
     (fun h4 =>
     .bnd fun r5 h6 =>
      match r5, h6 with
      | .inl a7, h6 => (.ret (runF_con0 hmix (tape := [.reg [nt, nt], .reg [nt, (.call { ac := [ii], r := .b r1, sc := true }, true), nt, nt, nt, nt, nt, (.br false, true)], .br false, .reg [nt, nt, nt], .rst [0] [.box [.id, .id]] [(2, ii), (15, ii), (16, ii), (17, ii)], .sub (.exit 0) [] [], .reg [nt]]) (rr := ii) (by kernel_rfl) (.cons (spec_StructureOk_ok v_s r1 h2) (.cons (Sc.b _ : Sc (.b r1)) (.cons (not_t h3) (.cons (not_t h3) (.cons (not_t h3) (.cons (not_t h3) (.cons h4 (.cons ((spec_BlocksOk_L1_ok v_list (len_ eTBlock v_list) v_s.fJoints v_s.fMembers 0 (.inl a7) h6).vex) .nil))))))))))
      | .inr a7, h6 => (.ret (runF_con0 hmix (tape := [.reg [nt, nt], .reg [nt, (.call { ac := [ii], r := .b r1, sc := true }, true), nt, nt, nt, nt, nt, (.br false, true)], .br false, .reg [nt, nt, nt], .rst [0] [.box [.id, .id]] [(2, ii), (15, ii), (16, ii), (17, ii)], .sub (.ret) [(4, .b false)] []]) (rr := ii) (by kernel_rfl) (.cons (spec_StructureOk_ok v_s r1 h2) (.cons (Sc.b _ : Sc (.b r1)) (.cons (not_t h3) (.cons (not_t h3) (.cons (not_t h3) (.cons (not_t h3) (.cons h4 (.cons ((spec_BlocksOk_L1_ok v_list (len_ eTBlock v_list) v_s.fJoints v_s.fMembers 0 (.inr a7) h6).vex) .nil))))))))))))
    (fun h3 =>
    .ret (runF_con0 hmix (tape := [.reg [nt, nt], .reg [nt, (.call { ac := [ii], r := .b r1, sc := true }, true), nt, nt, nf, nf, nf, (.br true, true)], .br true, .reg [nt]]) (rr := ii) (by kernel_rfl) (.cons (spec_StructureOk_ok v_s r1 h2) (.cons (Sc.b _ : Sc (.b r1)) (.cons (not_f h3) (.cons (not_f h3) (.cons (not_f h3) (.cons (not_f h3) (.cons (rfl : true = true) .nil)))))))))

def impl_BlocksOk_L1_head (v_t15 : (List TBlock)) (v_t16 : Int) (box0_ : (List TJoint)) (box0_' : (List TMember)) (v_t17 : Int) : S := mkS [(2, .ref 0 0 0 0), (15, .isl 4 (v_t15.map eTBlock)), (16, .n .i64 v_t16), (17, .n .i64 v_t17)] [[Ob.mk 2 [[.isl 4 (box0_.map eTJoint), .isl 3 (box0_'.map eTMember)]] .live]]

def impl_BlocksOk_L1_ex : ((Unit) ⊕ (Unit)) → Exit
  | .inl _ => .exit 0
  | .inr _ => .ret

def impl_BlocksOk_L1_out (v_t15 : (List TBlock)) (v_t16 : Int) (box0_ : (List TJoint)) (box0_' : (List TMember)) : ((Unit) ⊕ (Unit)) → S
  | .inl a => mkS [] []
  | .inr a => mkS [(4, .b false)] []

def impl_BlocksOk_L1_body (v_t15 : (List TBlock)) (v_t16 : Int) (box0_ : (List TJoint)) (box0_' : (List TMember)) (v_t17 : Int) : Option ((Int) ⊕ ((Unit) ⊕ (Unit))) :=
  if (decide (v_t17 < v_t16)) = true then
    if 0 ≤ v_t17 ∧ v_t17 < v_t15.length then
    v_t15[v_t17.toNat]? >>= fun x3 =>
    impl_BlockOk (⟨box0_, box0_'⟩ : TStructure) x3 >>= fun r5 =>
    if r5 = true then
      some (.inl (w64 (v_t17 + (1 : Int))))
    else
      some (.inr (.inr ()))
    else none
  else
    some (.inr (.inl ()))

def impl_BlocksOk_L1 (v_t15 : (List TBlock)) (v_t16 : Int) (box0_ : (List TJoint)) (box0_' : (List TMember)) (v_t17 : Int) : Option ((Unit) ⊕ (Unit)) := iter (fun w : Int => impl_BlocksOk_L1_body v_t15 v_t16 box0_ box0_' w) v_t17

theorem impl_BlocksOk_L1_body_ok (v_t15 : (List TBlock)) (v_t16 : Int) (box0_ : (List TJoint)) (box0_' : (List TMember)) (v_t17 : Int) : Wp (impl_BlocksOk_L1_body v_t15 v_t16 box0_ box0_' v_t17) (Sum.elim
    (fun w => VEx PP 26 0 (nodeAt (bodyOf PP 38) [1, 1, 0, 1, 0, 0]) .normal (impl_BlocksOk_L1_head v_t15 v_t16 box0_ box0_' v_t17) (impl_BlocksOk_L1_head v_t15 v_t16 box0_ box0_' w))
    (fun r => VEx PP 26 0 (nodeAt (bodyOf PP 38) [1, 1, 0, 1, 0, 0]) (impl_BlocksOk_L1_ex r) (impl_BlocksOk_L1_head v_t15 v_t16 box0_ box0_' v_t17) (impl_BlocksOk_L1_out v_t15 v_t16 box0_ box0_' r))) := by
  unfold impl_BlocksOk_L1_body
  exact .ite (fun h1 =>
      .grd fun h2 =>
       .bnd fun x3 h4 =>
       .bnd fun r5 h6 =>
       .ite (fun h7 =>
       .ret ((okC_sound hmix (tape := [.reg [nt], .br true, .reg [nt, (.el (eTBlock x3), true), nt, nt], .reg [nt, nt, (.call { ac := [ii, ii], r := .b r5, sc := true }, true), nt], .br false, .reg [nt, nt], .rst [0] [.box [.id, .id]] [(2, ii), (15, ii), (16, ii), (17, ii)]]) (nr := 1) (by kernel_rfl) (.cons h1 (.cons ((h2).1) (.cons (lt_mapI (h2).2 : v_t17 < ((v_t15.map eTBlock).length : Nat)) (.cons (map_get h4 : (v_t15.map eTBlock)[v_t17.toNat]? = some (eTBlock x3)) (.cons (impl_BlockOk_ok (⟨box0_, box0_'⟩ : TStructure) x3 r5 h6) (.cons (Sc.b _ : Sc (.b r5)) (.cons (not_t h7) .nil))))))) (mkS_free _ _) : VEx PP 26 0 (nodeAt (bodyOf PP 38) [1, 1, 0, 1, 0, 0]) .normal (impl_BlocksOk_L1_head v_t15 v_t16 box0_ box0_' v_t17) (impl_BlocksOk_L1_head v_t15 v_t16 box0_ box0_' (w64 (v_t17 + (1 : Int)))))))
       (fun h7 =>
       .ret ((okC_sound hmix (tape := [.reg [nt], .br true, .reg [nt, (.el (eTBlock x3), true), nt, nt], .reg [nt, nt, (.call { ac := [ii, ii], r := .b r5, sc := true }, true), nt], .br true, .reg [nt], .rst [] [] [(4, ii)]]) (nr := 1) (by kernel_rfl) (.cons h1 (.cons ((h2).1) (.cons (lt_mapI (h2).2 : v_t17 < ((v_t15.map eTBlock).length : Nat)) (.cons (map_get h4 : (v_t15.map eTBlock)[v_t17.toNat]? = some (eTBlock x3)) (.cons (impl_BlockOk_ok (⟨box0_, box0_'⟩ : TStructure) x3 r5 h6) (.cons (Sc.b _ : Sc (.b r5)) (.cons (not_f h7) .nil))))))) (mkS_free _ _) : VEx PP 26 0 (nodeAt (bodyOf PP 38) [1, 1, 0, 1, 0, 0]) (.ret) (impl_BlocksOk_L1_head v_t15 v_t16 box0_ box0_' v_t17) (impl_BlocksOk_L1_out v_t15 v_t16 box0_ box0_' (.inr ()))))))
      (fun h1 =>
      .ret ((okC_sound hmix (tape := [.reg [nt], .br false, .rst [] [] []]) (nr := 1) (by kernel_rfl) (.cons h1 .nil) (mkS_free _ _) : VEx PP 26 0 (nodeAt (bodyOf PP 38) [1, 1, 0, 1, 0, 0]) (.exit 0) (impl_BlocksOk_L1_head v_t15 v_t16 box0_ box0_' v_t17) (impl_BlocksOk_L1_out v_t15 v_t16 box0_ box0_' (.inl ())))))

theorem impl_BlocksOk_L1_ok (v_t15 : (List TBlock)) (v_t16 : Int) (box0_ : (List TJoint)) (box0_' : (List TMember)) (v_t17 : Int) : ∀ r, impl_BlocksOk_L1 v_t15 v_t16 box0_ box0_' v_t17 = some r → VLoop PP 26 0 (nodeAt (bodyOf PP 38) [1, 1, 0, 1, 0, 0]) (impl_BlocksOk_L1_ex r) (impl_BlocksOk_L1_head v_t15 v_t16 box0_ box0_' v_t17) (impl_BlocksOk_L1_out v_t15 v_t16 box0_ box0_' r) := fun r h =>
  iter_ok (head := fun w : Int => impl_BlocksOk_L1_head v_t15 v_t16 box0_ box0_' w) (ex := impl_BlocksOk_L1_ex) (out := impl_BlocksOk_L1_out v_t15 v_t16 box0_ box0_') (by intro r; unfold impl_BlocksOk_L1_ex; split <;> simp) (fun w => impl_BlocksOk_L1_body_ok v_t15 v_t16 box0_ box0_' w) v_t17 r h

def impl_BlocksOk (v_s : TStructure) (v_list : (List TBlock)) : Option Bool :=
  if (decide ((3 : Int) < (len_ eTBlock v_list))) = true then
    some false
  else
    impl_StructureOk v_s >>= fun r2 =>
    if r2 = true then
      impl_BlocksOk_L1 v_list (len_ eTBlock v_list) v_s.fJoints v_s.fMembers 0 >>= fun r5 =>
      match r5 with
      | .inl a7 => (some true)
      | .inr a7 => (some false)
    else
      some false

theorem impl_BlocksOk_ok (v_s : TStructure) (v_list : (List TBlock)) : Wp (impl_BlocksOk v_s v_list) (fun r => Con PP 38 [.agg [.isl 4 (v_s.fJoints.map eTJoint), .isl 3 (v_s.fMembers.map eTMember)], .isl 4 (v_list.map eTBlock)] [] (.b r) []) := by
  unfold impl_BlocksOk
  exact .ite (fun h1 =>
    .ret (runF_con0 hmix (tape := [.reg [nt, nt], .reg [nt, nt, nt, nt, nf, nf, nf, (.br true, true)], .br true, .reg [nt]]) (rr := ii) (by kernel_rfl) (.cons h1 (.cons h1 (.cons h1 (.cons h1 (.cons (rfl : true = true) .nil)))))))
    (fun h1 =>
    .bnd fun r2 h3 =>
     .ite (fun h4 =>
     .bnd fun r5 h6 =>
      match r5, h6 with
      | .inl a7, h6 => (.ret (runF_con0 hmix (tape := [.reg [nt, nt], .reg [nt, nt, nt, nt, nt, (.call { ac := [ii], r := .b r2, sc := true }, true), nt, (.br false, true)], .br false, .reg [nt, nt, nt], .rst [0] [.box [.id, .id]] [(2, ii), (15, ii), (16, ii), (17, ii)], .sub (.exit 0) [] [], .reg [nt]]) (rr := ii) (by kernel_rfl) (.cons h1 (.cons h1 (.cons (impl_StructureOk_ok v_s r2 h3) (.cons (Sc.b _ : Sc (.b r2)) (.cons h1 (.cons h1 (.cons (not_t h4) (.cons ((impl_BlocksOk_L1_ok v_list (len_ eTBlock v_list) v_s.fJoints v_s.fMembers 0 (.inl a7) h6).vex) .nil))))))))))
      | .inr a7, h6 => (.ret (runF_con0 hmix (tape := [.reg [nt, nt], .reg [nt, nt, nt, nt, nt, (.call { ac := [ii], r := .b r2, sc := true }, true), nt, (.br false, true)], .br false, .reg [nt, nt, nt], .rst [0] [.box [.id, .id]] [(2, ii), (15, ii), (16, ii), (17, ii)], .sub (.ret) [(4, .b false)] []]) (rr := ii) (by kernel_rfl) (.cons h1 (.cons h1 (.cons (impl_StructureOk_ok v_s r2 h3) (.cons (Sc.b _ : Sc (.b r2)) (.cons h1 (.cons h1 (.cons (not_t h4) (.cons ((impl_BlocksOk_L1_ok v_list (len_ eTBlock v_list) v_s.fJoints v_s.fMembers 0 (.inr a7) h6).vex) .nil)))))))))))
     (fun h4 =>
     .ret (runF_con0 hmix (tape := [.reg [nt, nt], .reg [nt, nt, nt, nt, nt, (.call { ac := [ii], r := .b r2, sc := true }, true), nt, (.br false, true)], .br true, .reg [nt]]) (rr := ii) (by kernel_rfl) (.cons h1 (.cons h1 (.cons (impl_StructureOk_ok v_s r2 h3) (.cons (Sc.b _ : Sc (.b r2)) (.cons h1 (.cons h1 (.cons (not_f h4) .nil))))))))))

def laws_eqBlock (v_a : TBlock) (v_b : TBlock) : Option Bool :=
  if (v_a.fA != v_b.fA) = true then
    some false
  else
    if (v_a.fB != v_b.fB) = true then
      some false
    else
      if (v_a.fNum != v_b.fNum) = true then
        some false
      else
        if (v_a.fDen != v_b.fDen) = true then
          some false
        else
          some true

theorem laws_eqBlock_ok (v_a : TBlock) (v_b : TBlock) : Wp (laws_eqBlock v_a v_b) (fun r => Con PP 80 [.agg [.n .i64 v_a.fA, .n .i64 v_a.fB, .n .i64 v_a.fNum, .n .i64 v_a.fDen], .agg [.n .i64 v_b.fA, .n .i64 v_b.fB, .n .i64 v_b.fNum, .n .i64 v_b.fDen]] [] (.b r) []) := by
  unfold laws_eqBlock
  exact .ite (fun h1 =>
    .ret (runF_con0 hmix (tape := [.reg [nt, nt, nt], .reg [nt, nt, nt, nt, nt], .br true, .reg [nt]]) (rr := ii) (by kernel_rfl) (.cons h1 .nil)))
    (fun h1 =>
    .ite (fun h2 =>
     .ret (runF_con0 hmix (tape := [.reg [nt, nt, nt], .reg [nt, nt, nt, nt, nt], .br false, .reg [nt, nt, nt, nt, nt], .br true, .reg [nt]]) (rr := ii) (by kernel_rfl) (.cons h1 (.cons h2 .nil))))
     (fun h2 =>
     .ite (fun h3 =>
      .ret (runF_con0 hmix (tape := [.reg [nt, nt, nt], .reg [nt, nt, nt, nt, nt], .br false, .reg [nt, nt, nt, nt, nt], .br false, .reg [nt, nt, nt, nt, nt], .br true, .reg [nt]]) (rr := ii) (by kernel_rfl) (.cons h1 (.cons h2 (.cons h3 .nil)))))
      (fun h3 =>
      .ite (fun h4 =>
       .ret (runF_con0 hmix (tape := [.reg [nt, nt, nt], .reg [nt, nt, nt, nt, nt], .br false, .reg [nt, nt, nt, nt, nt], .br false, .reg [nt, nt, nt, nt, nt], .br false, .reg [nt, nt, nt, nt, nt], .br true, .reg [nt]]) (rr := ii) (by kernel_rfl) (.cons h1 (.cons h2 (.cons h3 (.cons h4 .nil))))))
       (fun h4 =>
       .ret (runF_con0 hmix (tape := [.reg [nt, nt, nt], .reg [nt, nt, nt, nt, nt], .br false, .reg [nt, nt, nt, nt, nt], .br false, .reg [nt, nt, nt, nt, nt], .br false, .reg [nt, nt, nt, nt, nt], .br false, .reg [nt]]) (rr := ii) (by kernel_rfl) (.cons h1 (.cons h2 (.cons h3 (.cons h4 .nil)))))))))

def laws_eqBlockS_L1_head (v_a : (List TBlock)) (v_b : (List TBlock)) (v_i : Int) : S := mkS [(0, .isl 4 (v_a.map eTBlock)), (1, .isl 4 (v_b.map eTBlock)), (5, .n .i64 v_i)] []

def laws_eqBlockS_L1_ex : ((Unit) ⊕ (Unit)) → Exit
  | .inl _ => .exit 0
  | .inr _ => .ret

def laws_eqBlockS_L1_out (v_a : (List TBlock)) (v_b : (List TBlock)) : ((Unit) ⊕ (Unit)) → S
  | .inl a => mkS [] []
  | .inr a => mkS [(4, .b false)] []

def laws_eqBlockS_L1_body (v_a : (List TBlock)) (v_b : (List TBlock)) (v_i : Int) : Option ((Int) ⊕ ((Unit) ⊕ (Unit))) :=
  if (decide (v_i < (len_ eTBlock v_a))) = true then
    if 0 ≤ v_i ∧ v_i < v_a.length then
    v_a[v_i.toNat]? >>= fun x3 =>
    if 0 ≤ v_i ∧ v_i < v_b.length then
    v_b[v_i.toNat]? >>= fun x6 =>
    laws_eqBlock x3 x6 >>= fun r8 =>
    if r8 = true then
      some (.inl (w64 (v_i + (1 : Int))))
    else
      some (.inr (.inr ()))
    else none
    else none
  else
    some (.inr (.inl ()))

def laws_eqBlockS_L1 (v_a : (List TBlock)) (v_b : (List TBlock)) (v_i : Int) : Option ((Unit) ⊕ (Unit)) := iter (fun w : Int => laws_eqBlockS_L1_body v_a v_b w) v_i

theorem laws_eqBlockS_L1_body_ok (v_a : (List TBlock)) (v_b : (List TBlock)) (v_i : Int) : Wp (laws_eqBlockS_L1_body v_a v_b v_i) (Sum.elim
    (fun w => VEx PP 27 0 (nodeAt (bodyOf PP 39) [1, 1, 0, 1, 0, 0]) .normal (laws_eqBlockS_L1_head v_a v_b v_i) (laws_eqBlockS_L1_head v_a v_b w))
    (fun r => VEx PP 27 0 (nodeAt (bodyOf PP 39) [1, 1, 0, 1, 0, 0]) (laws_eqBlockS_L1_ex r) (laws_eqBlockS_L1_head v_a v_b v_i) (laws_eqBlockS_L1_out v_a v_b r))) := by
  unfold laws_eqBlockS_L1_body
  exact .ite (fun h1 =>
      .grd fun h2 =>
       .bnd fun x3 h4 =>
       .grd fun h5 =>
       .bnd fun x6 h7 =>
       .bnd fun r8 h9 =>
       .ite (fun h10 =>
       .ret ((okC_sound hmix (tape := [.reg [nt, nt, nt, nt], .br true, .reg [nt, nt, nt, (.el (eTBlock x3), true), nt, nt, nt, (.el (eTBlock x6), true), (.call { ac := [ii, ii], r := .b r8, sc := true }, true), nt], .br false, .reg [nt, nt, nt], .rst [] [] [(0, ii), (1, ii), (5, ii)]]) (nr := 0) (by kernel_rfl) (.cons h1 (.cons ((h2).1) (.cons (lt_mapI (h2).2 : v_i < ((v_a.map eTBlock).length : Nat)) (.cons (map_get h4 : (v_a.map eTBlock)[v_i.toNat]? = some (eTBlock x3)) (.cons ((h5).1) (.cons (lt_mapI (h5).2 : v_i < ((v_b.map eTBlock).length : Nat)) (.cons (map_get h7 : (v_b.map eTBlock)[v_i.toNat]? = some (eTBlock x6)) (.cons (laws_eqBlock_ok x3 x6 r8 h9) (.cons (Sc.b _ : Sc (.b r8)) (.cons (not_t h10) .nil)))))))))) (mkS_free _ _) : VEx PP 27 0 (nodeAt (bodyOf PP 39) [1, 1, 0, 1, 0, 0]) .normal (laws_eqBlockS_L1_head v_a v_b v_i) (laws_eqBlockS_L1_head v_a v_b (w64 (v_i + (1 : Int)))))))
       (fun h10 =>
       .ret ((okC_sound hmix (tape := [.reg [nt, nt, nt, nt], .br true, .reg [nt, nt, nt, (.el (eTBlock x3), true), nt, nt, nt, (.el (eTBlock x6), true), (.call { ac := [ii, ii], r := .b r8, sc := true }, true), nt], .br true, .reg [nt], .rst [] [] [(4, ii)]]) (nr := 0) (by kernel_rfl) (.cons h1 (.cons ((h2).1) (.cons (lt_mapI (h2).2 : v_i < ((v_a.map eTBlock).length : Nat)) (.cons (map_get h4 : (v_a.map eTBlock)[v_i.toNat]? = some (eTBlock x3)) (.cons ((h5).1) (.cons (lt_mapI (h5).2 : v_i < ((v_b.map eTBlock).length : Nat)) (.cons (map_get h7 : (v_b.map eTBlock)[v_i.toNat]? = some (eTBlock x6)) (.cons (laws_eqBlock_ok x3 x6 r8 h9) (.cons (Sc.b _ : Sc (.b r8)) (.cons (not_f h10) .nil)))))))))) (mkS_free _ _) : VEx PP 27 0 (nodeAt (bodyOf PP 39) [1, 1, 0, 1, 0, 0]) (.ret) (laws_eqBlockS_L1_head v_a v_b v_i) (laws_eqBlockS_L1_out v_a v_b (.inr ()))))))
      (fun h1 =>
      .ret ((okC_sound hmix (tape := [.reg [nt, nt, nt, nt], .br false, .rst [] [] []]) (nr := 0) (by kernel_rfl) (.cons h1 .nil) (mkS_free _ _) : VEx PP 27 0 (nodeAt (bodyOf PP 39) [1, 1, 0, 1, 0, 0]) (.exit 0) (laws_eqBlockS_L1_head v_a v_b v_i) (laws_eqBlockS_L1_out v_a v_b (.inl ())))))

theorem laws_eqBlockS_L1_ok (v_a : (List TBlock)) (v_b : (List TBlock)) (v_i : Int) : ∀ r, laws_eqBlockS_L1 v_a v_b v_i = some r → VLoop PP 27 0 (nodeAt (bodyOf PP 39) [1, 1, 0, 1, 0, 0]) (laws_eqBlockS_L1_ex r) (laws_eqBlockS_L1_head v_a v_b v_i) (laws_eqBlockS_L1_out v_a v_b r) := fun r h =>
  iter_ok (head := fun w : Int => laws_eqBlockS_L1_head v_a v_b w) (ex := laws_eqBlockS_L1_ex) (out := laws_eqBlockS_L1_out v_a v_b) (by intro r; unfold laws_eqBlockS_L1_ex; split <;> simp) (fun w => laws_eqBlockS_L1_body_ok v_a v_b w) v_i r h

def laws_eqBlockS (v_a : (List TBlock)) (v_b : (List TBlock)) : Option Bool :=
  if ((len_ eTBlock v_a) != (len_ eTBlock v_b)) = true then
    some false
  else
    laws_eqBlockS_L1 v_a v_b 0 >>= fun r2 =>
    match r2 with
    | .inl a4 => (some true)
    | .inr a4 => (some false)

theorem laws_eqBlockS_ok (v_a : (List TBlock)) (v_b : (List TBlock)) : Wp (laws_eqBlockS v_a v_b) (fun r => Con PP 39 [.isl 4 (v_a.map eTBlock), .isl 4 (v_b.map eTBlock)] [] (.b r) []) := by
  unfold laws_eqBlockS
  exact .ite (fun h1 =>
    .ret (runF_con0 hmix (tape := [.reg [nt], .reg [nt, nt, nt, nt, nt], .br true, .reg [nt]]) (rr := ii) (by kernel_rfl) (.cons h1 .nil)))
    (fun h1 =>
    .bnd fun r2 h3 =>
     match r2, h3 with
     | .inl a4, h3 => (.ret (runF_con0 hmix (tape := [.reg [nt], .reg [nt, nt, nt, nt, nt], .br false, .reg [nt], .rst [] [] [(0, ii), (1, ii), (5, ii)], .sub (.exit 0) [] [], .reg [nt]]) (rr := ii) (by kernel_rfl) (.cons h1 (.cons ((laws_eqBlockS_L1_ok v_a v_b 0 (.inl a4) h3).vex) .nil))))
     | .inr a4, h3 => (.ret (runF_con0 hmix (tape := [.reg [nt], .reg [nt, nt, nt, nt, nt], .br false, .reg [nt], .rst [] [] [(0, ii), (1, ii), (5, ii)], .sub (.ret) [(4, .b false)] []]) (rr := ii) (by kernel_rfl) (.cons h1 (.cons ((laws_eqBlockS_L1_ok v_a v_b 0 (.inr a4) h3).vex) .nil)))))

def laws_FnExactBlocksOk (v_aS : TStructure) (v_aList : (List TBlock)) : Option Bool :=
  laws_szStructure v_aS 1048576 >>= fun r1 =>
  if (decide (r1 < (0 : Int))) = true then
    some true
  else
    laws_szBlockS v_aList r1 >>= fun r4 =>
    if (decide (r4 < (0 : Int))) = true then
      some true
    else
      laws_toStructure v_aS >>= fun r7 =>
      laws_toBlockS v_aList >>= fun r9 =>
      spec_BlocksOk r7 r9 >>= fun r11 =>
      impl_BlocksOk r7 r9 >>= fun r13 =>
      if (r13 == r11) = true then
        laws_eqStructure r7 r7 >>= fun r16 =>
        if r16 = true then
          laws_eqBlockS r9 r9 >>= fun r19 =>
          if r19 = true then
            some true
          else
            some false
        else
          some false
      else
        some false

theorem laws_FnExactBlocksOk_ok (v_aS : TStructure) (v_aList : (List TBlock)) : Wp (laws_FnExactBlocksOk v_aS v_aList) (fun r => Con PP 9 [.agg [.isl 4 (v_aS.fJoints.map eTJoint), .isl 3 (v_aS.fMembers.map eTMember)], .isl 4 (v_aList.map eTBlock)] [] (.b r) []) := by
  unfold laws_FnExactBlocksOk
  exact .bnd fun r1 h2 =>
    .ite (fun h3 =>
    .ret (runF_con0 hmix (tape := [.reg [nt, nt], .reg [nt], .reg [nt, nt, (.call { ac := [ii, ii], r := .n .i64 r1, sc := true }, true), nt], .reg [nt, nt], .br true, .reg [nt]]) (rr := ii) (by kernel_rfl) (.cons (laws_szStructure_ok v_aS 1048576 r1 h2) (.cons (Sc.n _ _ : Sc (.n .i64 r1)) (.cons h3 .nil)))))
    (fun h3 =>
    .bnd fun r4 h5 =>
     .ite (fun h6 =>
     .ret (runF_con0 hmix (tape := [.reg [nt, nt], .reg [nt], .reg [nt, nt, (.call { ac := [ii, ii], r := .n .i64 r1, sc := true }, true), nt], .reg [nt, nt], .br false, .reg [nt, nt, (.call { ac := [ii, ii], r := .n .i64 r4, sc := true }, true), nt], .reg [nt, nt], .br true, .reg [nt]]) (rr := ii) (by kernel_rfl) (.cons (laws_szStructure_ok v_aS 1048576 r1 h2) (.cons (Sc.n _ _ : Sc (.n .i64 r1)) (.cons h3 (.cons (laws_szBlockS_ok v_aList r1 r4 h5) (.cons (Sc.n _ _ : Sc (.n .i64 r4)) (.cons h6 .nil))))))))
     (fun h6 =>
     .bnd fun r7 h8 =>
      .bnd fun r9 h10 =>
      .bnd fun r11 h12 =>
      .bnd fun r13 h14 =>
      .ite (fun h15 =>
      .bnd fun r16 h17 =>
       .ite (fun h18 =>
       .bnd fun r19 h20 =>
        .ite (fun h21 =>
        .ret (runF_con0 hmix (tape := [.reg [nt, nt], .reg [nt], .reg [nt, nt, (.call { ac := [ii, ii], r := .n .i64 r1, sc := true }, true), nt], .reg [nt, nt], .br false, .reg [nt, nt, (.call { ac := [ii, ii], r := .n .i64 r4, sc := true }, true), nt], .reg [nt, nt], .br false, .reg [nt, (.call { ac := [ii], r := .agg [.isl 4 (r7.fJoints.map eTJoint), .isl 3 (r7.fMembers.map eTMember)], sc := false }, true), nt, (.call { ac := [ii], r := .isl 4 (r9.map eTBlock), sc := false }, true), (.call { ac := [ii, ii], r := .b r11, sc := true }, true), nt], .reg [nt, (.call { ac := [ii], r := .agg [.isl 4 (r7.fJoints.map eTJoint), .isl 3 (r7.fMembers.map eTMember)], sc := false }, true), nt, nt], .reg [nt, (.call { ac := [ii], r := .isl 4 (r9.map eTBlock), sc := false }, true), nt], .reg [nt, nt, (.call { ac := [ii, ii], r := .b r13, sc := true }, true), nt], .reg [nt, nt, nt], .br false, .reg [nt, nt, (.call { ac := [ii], r := .agg [.isl 4 (r7.fJoints.map eTJoint), .isl 3 (r7.fMembers.map eTMember)], sc := false }, true), (.call { ac := [ii, ii], r := .b r16, sc := true }, true), nt], .br false, .reg [nt, nt, (.call { ac := [ii], r := .isl 4 (r9.map eTBlock), sc := false }, true), (.call { ac := [ii, ii], r := .b r19, sc := true }, true), nt], .br false, .reg [nt]]) (rr := ii) (by kernel_rfl) (.cons (laws_szStructure_ok v_aS 1048576 r1 h2) (.cons (Sc.n _ _ : Sc (.n .i64 r1)) (.cons h3 (.cons (laws_szBlockS_ok v_aList r1 r4 h5) (.cons (Sc.n _ _ : Sc (.n .i64 r4)) (.cons h6 (.cons (laws_toStructure_ok v_aS r7 h8) (.cons (laws_toBlockS_ok v_aList r9 h10) (.cons (spec_BlocksOk_ok r7 r9 r11 h12) (.cons (Sc.b _ : Sc (.b r11)) (.cons (laws_toStructure_ok v_aS r7 h8) (.cons (laws_toBlockS_ok v_aList r9 h10) (.cons (impl_BlocksOk_ok r7 r9 r13 h14) (.cons (Sc.b _ : Sc (.b r13)) (.cons (not_t h15) (.cons (laws_toStructure_ok v_aS r7 h8) (.cons (laws_eqStructure_ok r7 r7 r16 h17) (.cons (Sc.b _ : Sc (.b r16)) (.cons (not_t h18) (.cons (laws_toBlockS_ok v_aList r9 h10) (.cons (laws_eqBlockS_ok r9 r9 r19 h20) (.cons (Sc.b _ : Sc (.b r19)) (.cons (not_t h21) .nil)))))))))))))))))))))))))
        (fun h21 =>
        .ret (runF_con0 hmix (tape := [.reg [nt, nt], .reg [nt], .reg [nt, nt, (.call { ac := [ii, ii], r := .n .i64 r1, sc := true }, true), nt], .reg [nt, nt], .br false, .reg [nt, nt, (.call { ac := [ii, ii], r := .n .i64 r4, sc := true }, true), nt], .reg [nt, nt], .br false, .reg [nt, (.call { ac := [ii], r := .agg [.isl 4 (r7.fJoints.map eTJoint), .isl 3 (r7.fMembers.map eTMember)], sc := false }, true), nt, (.call { ac := [ii], r := .isl 4 (r9.map eTBlock), sc := false }, true), (.call { ac := [ii, ii], r := .b r11, sc := true }, true), nt], .reg [nt, (.call { ac := [ii], r := .agg [.isl 4 (r7.fJoints.map eTJoint), .isl 3 (r7.fMembers.map eTMember)], sc := false }, true), nt, nt], .reg [nt, (.call { ac := [ii], r := .isl 4 (r9.map eTBlock), sc := false }, true), nt], .reg [nt, nt, (.call { ac := [ii, ii], r := .b r13, sc := true }, true), nt], .reg [nt, nt, nt], .br false, .reg [nt, nt, (.call { ac := [ii], r := .agg [.isl 4 (r7.fJoints.map eTJoint), .isl 3 (r7.fMembers.map eTMember)], sc := false }, true), (.call { ac := [ii, ii], r := .b r16, sc := true }, true), nt], .br false, .reg [nt, nt, (.call { ac := [ii], r := .isl 4 (r9.map eTBlock), sc := false }, true), (.call { ac := [ii, ii], r := .b r19, sc := true }, true), nt], .br true, .reg [nt]]) (rr := ii) (by kernel_rfl) (.cons (laws_szStructure_ok v_aS 1048576 r1 h2) (.cons (Sc.n _ _ : Sc (.n .i64 r1)) (.cons h3 (.cons (laws_szBlockS_ok v_aList r1 r4 h5) (.cons (Sc.n _ _ : Sc (.n .i64 r4)) (.cons h6 (.cons (laws_toStructure_ok v_aS r7 h8) (.cons (laws_toBlockS_ok v_aList r9 h10) (.cons (spec_BlocksOk_ok r7 r9 r11 h12) (.cons (Sc.b _ : Sc (.b r11)) (.cons (laws_toStructure_ok v_aS r7 h8) (.cons (laws_toBlockS_ok v_aList r9 h10) (.cons (impl_BlocksOk_ok r7 r9 r13 h14) (.cons (Sc.b _ : Sc (.b r13)) (.cons (not_t h15) (.cons (laws_toStructure_ok v_aS r7 h8) (.cons (laws_eqStructure_ok r7 r7 r16 h17) (.cons (Sc.b _ : Sc (.b r16)) (.cons (not_t h18) (.cons (laws_toBlockS_ok v_aList r9 h10) (.cons (laws_eqBlockS_ok r9 r9 r19 h20) (.cons (Sc.b _ : Sc (.b r19)) (.cons (not_f h21) .nil))))))))))))))))))))))))))
       (fun h18 =>
       .ret (runF_con0 hmix (tape := [.reg [nt, nt], .reg [nt], .reg [nt, nt, (.call { ac := [ii, ii], r := .n .i64 r1, sc := true }, true), nt], .reg [nt, nt], .br false, .reg [nt, nt, (.call { ac := [ii, ii], r := .n .i64 r4, sc := true }, true), nt], .reg [nt, nt], .br false, .reg [nt, (.call { ac := [ii], r := .agg [.isl 4 (r7.fJoints.map eTJoint), .isl 3 (r7.fMembers.map eTMember)], sc := false }, true), nt, (.call { ac := [ii], r := .isl 4 (r9.map eTBlock), sc := false }, true), (.call { ac := [ii, ii], r := .b r11, sc := true }, true), nt], .reg [nt, (.call { ac := [ii], r := .agg [.isl 4 (r7.fJoints.map eTJoint), .isl 3 (r7.fMembers.map eTMember)], sc := false }, true), nt, nt], .reg [nt, (.call { ac := [ii], r := .isl 4 (r9.map eTBlock), sc := false }, true), nt], .reg [nt, nt, (.call { ac := [ii, ii], r := .b r13, sc := true }, true), nt], .reg [nt, nt, nt], .br false, .reg [nt, nt, (.call { ac := [ii], r := .agg [.isl 4 (r7.fJoints.map eTJoint), .isl 3 (r7.fMembers.map eTMember)], sc := false }, true), (.call { ac := [ii, ii], r := .b r16, sc := true }, true), nt], .br true, .reg [nt]]) (rr := ii) (by kernel_rfl) (.cons (laws_szStructure_ok v_aS 1048576 r1 h2) (.cons (Sc.n _ _ : Sc (.n .i64 r1)) (.cons h3 (.cons (laws_szBlockS_ok v_aList r1 r4 h5) (.cons (Sc.n _ _ : Sc (.n .i64 r4)) (.cons h6 (.cons (laws_toStructure_ok v_aS r7 h8) (.cons (laws_toBlockS_ok v_aList r9 h10) (.cons (spec_BlocksOk_ok r7 r9 r11 h12) (.cons (Sc.b _ : Sc (.b r11)) (.cons (laws_toStructure_ok v_aS r7 h8) (.cons (laws_toBlockS_ok v_aList r9 h10) (.cons (impl_BlocksOk_ok r7 r9 r13 h14) (.cons (Sc.b _ : Sc (.b r13)) (.cons (not_t h15) (.cons (laws_toStructure_ok v_aS r7 h8) (.cons (laws_eqStructure_ok r7 r7 r16 h17) (.cons (Sc.b _ : Sc (.b r16)) (.cons (not_f h18) .nil))))))))))))))))))))))
      (fun h15 =>
      .ret (runF_con0 hmix (tape := [.reg [nt, nt], .reg [nt], .reg [nt, nt, (.call { ac := [ii, ii], r := .n .i64 r1, sc := true }, true), nt], .reg [nt, nt], .br false, .reg [nt, nt, (.call { ac := [ii, ii], r := .n .i64 r4, sc := true }, true), nt], .reg [nt, nt], .br false, .reg [nt, (.call { ac := [ii], r := .agg [.isl 4 (r7.fJoints.map eTJoint), .isl 3 (r7.fMembers.map eTMember)], sc := false }, true), nt, (.call { ac := [ii], r := .isl 4 (r9.map eTBlock), sc := false }, true), (.call { ac := [ii, ii], r := .b r11, sc := true }, true), nt], .reg [nt, (.call { ac := [ii], r := .agg [.isl 4 (r7.fJoints.map eTJoint), .isl 3 (r7.fMembers.map eTMember)], sc := false }, true), nt, nt], .reg [nt, (.call { ac := [ii], r := .isl 4 (r9.map eTBlock), sc := false }, true), nt], .reg [nt, nt, (.call { ac := [ii, ii], r := .b r13, sc := true }, true), nt], .reg [nt, nt, nt], .br true, .reg [nt]]) (rr := ii) (by kernel_rfl) (.cons (laws_szStructure_ok v_aS 1048576 r1 h2) (.cons (Sc.n _ _ : Sc (.n .i64 r1)) (.cons h3 (.cons (laws_szBlockS_ok v_aList r1 r4 h5) (.cons (Sc.n _ _ : Sc (.n .i64 r4)) (.cons h6 (.cons (laws_toStructure_ok v_aS r7 h8) (.cons (laws_toBlockS_ok v_aList r9 h10) (.cons (spec_BlocksOk_ok r7 r9 r11 h12) (.cons (Sc.b _ : Sc (.b r11)) (.cons (laws_toStructure_ok v_aS r7 h8) (.cons (laws_toBlockS_ok v_aList r9 h10) (.cons (impl_BlocksOk_ok r7 r9 r13 h14) (.cons (Sc.b _ : Sc (.b r13)) (.cons (not_f h15) .nil)))))))))))))))))))

end Go.Proofs.Ytjgnmimfihhphaa
