/- Plain functions for the program's functions, and that calls come to them: printed by a program. No condition. -/
import Derived.Test.YtfhmbogcjcgchaaGreatV0
import Derived.Test.YtfhmbogcjcgchaaGreatVFnExactIsWithinC
namespace Go.Proofs.YtfhmbogcjcgchaaGreat
open Go Go.VL

def spec_RatSign (v_r : TRat) : Option Int :=
  spec_RatOk v_r >>= fun r1 =>
  if r1 = true then
    if ((len_ eI v_r.fNum.fMag) == (0 : Int)) = true then
      some 0
    else
      if v_r.fNum.fNeg = true then
        some (-1)
      else
        some 1
  else
    some 0

theorem spec_RatSign_ok (v_r : TRat) : Wp (spec_RatSign v_r) (fun r => Con PP 90 [.agg [.b v_r.fNum.fNeg, .isl 1 (v_r.fNum.fMag.map eI), .isl 1 (v_r.fDen.map eI)]] [] (.n .i64 r) []) := by
  unfold spec_RatSign
  exact .bnd fun r1 h2 =>
    .ite (fun h3 =>
    .ite (fun h4 =>
     .ret (runF_con0 hmix (tape := [.reg [nt, nt], .reg [nt, (.call { ac := [ii], r := .b r1, sc := true }, true), nt, nt, nt, nt, nt, nt, nt, (.br false, true), nt], .br true, .reg [nt]]) (rr := ii) (by kernel_rfl) (.cons (spec_RatOk_ok v_r r1 h2) (.cons (Sc.b _ : Sc (.b r1)) (.cons (not_t h3) (.cons (not_t h3) (.cons (not_t h3) (.cons (not_t h3) (.cons (not_t h3) (.cons (not_t h3) (.cons h4 .nil)))))))))))
     (fun h4 =>
     .ite (fun h5 =>
      .ret (runF_con0 hmix (tape := [.reg [nt, nt], .reg [nt, (.call { ac := [ii], r := .b r1, sc := true }, true), nt, nt, nt, nt, nt, nt, nt, (.br false, true), nt], .br false, .reg [nt, nt, nt, nt], .br true, .reg [nt]]) (rr := ii) (by kernel_rfl) (.cons (spec_RatOk_ok v_r r1 h2) (.cons (Sc.b _ : Sc (.b r1)) (.cons (not_t h3) (.cons (not_t h3) (.cons (not_t h3) (.cons (not_t h3) (.cons (not_t h3) (.cons (not_t h3) (.cons h4 (.cons h5 .nil))))))))))))
      (fun h5 =>
      .ret (runF_con0 hmix (tape := [.reg [nt, nt], .reg [nt, (.call { ac := [ii], r := .b r1, sc := true }, true), nt, nt, nt, nt, nt, nt, nt, (.br false, true), nt], .br false, .reg [nt, nt, nt, nt], .br false, .reg [nt]]) (rr := ii) (by kernel_rfl) (.cons (spec_RatOk_ok v_r r1 h2) (.cons (Sc.b _ : Sc (.b r1)) (.cons (not_t h3) (.cons (not_t h3) (.cons (not_t h3) (.cons (not_t h3) (.cons (not_t h3) (.cons (not_t h3) (.cons h4 (.cons h5 .nil))))))))))))))
    (fun h3 =>
    .ret (runF_con0 hmix (tape := [.reg [nt, nt], .reg [nt, (.call { ac := [ii], r := .b r1, sc := true }, true), nt, nt, nf, nf, nf, nf, nf, (.br true, true), nt], .br true, .reg [nt]]) (rr := ii) (by kernel_rfl) (.cons (spec_RatOk_ok v_r r1 h2) (.cons (Sc.b _ : Sc (.b r1)) (.cons (not_f h3) (.cons (not_f h3) (.cons (not_f h3) (.cons (not_f h3) (.cons (not_f h3) (.cons (not_f h3) (.cons (rfl : true = true) .nil)))))))))))

def spec_l20Cmp (v_a : TRat) (v_v : Int) (v_b : TRat) (v_w : Int) : Option Int :=
  spec_l02Mul v_a.fNum.fMag v_b.fDen >>= fun r1 =>
  spec_NatOf (w64 (v_w * v_w)) >>= fun r3 =>
  spec_l02Mul r1 r3 >>= fun r5 =>
  spec_l02Mul v_b.fNum.fMag v_a.fDen >>= fun r7 =>
  spec_NatOf (w64 (v_v * v_v)) >>= fun r9 =>
  spec_l02Mul r7 r9 >>= fun r11 =>
  spec_l03Make false r5 >>= fun r13 =>
  spec_l03Make false r11 >>= fun r15 =>
  spec_l03Cmp r13 r15 >>= fun r17 =>
  some r17

theorem spec_l20Cmp_ok (v_a : TRat) (v_v : Int) (v_b : TRat) (v_w : Int) : Wp (spec_l20Cmp v_a v_v v_b v_w) (fun r => Con PP 183 [.agg [.b v_a.fNum.fNeg, .isl 1 (v_a.fNum.fMag.map eI), .isl 1 (v_a.fDen.map eI)], .n .i64 v_v, .agg [.b v_b.fNum.fNeg, .isl 1 (v_b.fNum.fMag.map eI), .isl 1 (v_b.fDen.map eI)], .n .i64 v_w] [] (.n .i64 r) []) := by
  unfold spec_l20Cmp
  exact .bnd fun r1 h2 =>
    .bnd fun r3 h4 =>
    .bnd fun r5 h6 =>
    .bnd fun r7 h8 =>
    .bnd fun r9 h10 =>
    .bnd fun r11 h12 =>
    .bnd fun r13 h14 =>
    .bnd fun r15 h16 =>
    .bnd fun r17 h18 =>
    .ret (runF_con0 hmix (tape := [.reg [nt, nt, nt], .reg [nt, nt, nt, nt, nt, (.call { ac := [ii, ii], r := .isl 1 (r1.map eI), sc := false }, true), nt, nt, nt, (.call { ac := [ii], r := .isl 1 (r3.map eI), sc := false }, true), (.call { ac := [ii, ii], r := .isl 1 (r5.map eI), sc := false }, true), nt], .reg [nt, nt, nt, nt, nt, (.call { ac := [ii, ii], r := .isl 1 (r7.map eI), sc := false }, true), nt, nt, nt, (.call { ac := [ii], r := .isl 1 (r9.map eI), sc := false }, true), (.call { ac := [ii, ii], r := .isl 1 (r11.map eI), sc := false }, true), nt], .reg [nt, (.call { ac := [ii, ii], r := .agg [.b r13.fNeg, .isl 1 (r13.fMag.map eI)], sc := false }, true), nt, (.call { ac := [ii, ii], r := .agg [.b r15.fNeg, .isl 1 (r15.fMag.map eI)], sc := false }, true), (.call { ac := [ii, ii], r := .n .i64 r17, sc := true }, true), nt]]) (rr := ii) (by kernel_rfl) (.cons (spec_l02Mul_ok v_a.fNum.fMag v_b.fDen r1 h2) (.cons (spec_NatOf_ok (w64 (v_w * v_w)) r3 h4) (.cons (spec_l02Mul_ok r1 r3 r5 h6) (.cons (spec_l02Mul_ok v_b.fNum.fMag v_a.fDen r7 h8) (.cons (spec_NatOf_ok (w64 (v_v * v_v)) r9 h10) (.cons (spec_l02Mul_ok r7 r9 r11 h12) (.cons (spec_l03Make_ok false r5 r13 h14) (.cons (spec_l03Make_ok false r11 r15 h16) (.cons (spec_l03Cmp_ok r13 r15 r17 h18) (.cons (Sc.n _ _ : Sc (.n .i64 r17)) .nil)))))))))))

def spec_l20Worse (v_a : TRat) (v_v : Int) (v_b : TRat) (v_w : Int) : Option Bool :=
  if (v_v == (0 : Int)) = true then
    spec_RatSign v_a >>= fun r2 =>
    if (decide ((0 : Int) < r2)) = true then
      if (v_w != (0 : Int)) = true then
        some true
      else
        spec_RatSign v_b >>= fun r6 =>
        some (r6 == (0 : Int))
    else
      if (v_w == (0 : Int)) = true then
        spec_RatSign v_b >>= fun r6 =>
        if (decide ((0 : Int) < r6)) = true then
          some false
        else
          some false
      else
        some false
  else
    if (v_w == (0 : Int)) = true then
      spec_RatSign v_b >>= fun r3 =>
      if (decide ((0 : Int) < r3)) = true then
        some false
      else
        spec_RatSign v_a >>= fun r6 =>
        some (decide ((0 : Int) < r6))
    else
      spec_l20Cmp v_a v_v v_b v_w >>= fun r3 =>
      some (decide ((0 : Int) < r3))

theorem spec_l20Worse_ok (v_a : TRat) (v_v : Int) (v_b : TRat) (v_w : Int) : Wp (spec_l20Worse v_a v_v v_b v_w) (fun r => Con PP 84 [.agg [.b v_a.fNum.fNeg, .isl 1 (v_a.fNum.fMag.map eI), .isl 1 (v_a.fDen.map eI)], .n .i64 v_v, .agg [.b v_b.fNum.fNeg, .isl 1 (v_b.fNum.fMag.map eI), .isl 1 (v_b.fDen.map eI)], .n .i64 v_w] [] (.b r) []) := by
  unfold spec_l20Worse
  exact .ite (fun h1 =>
    .bnd fun r2 h3 =>
     .ite (fun h4 =>
     .ite (fun h5 =>
      .ret (runF_con0 hmix (tape := [.reg [nt, nt, nt], .reg [nt, nt, nt, nt, (.call { ac := [ii], r := .n .i64 r2, sc := true }, true), nt, (.br true, true), nt], .br true, .reg [nt, nt, nt, nf, nf, nf, (.br true, true), nt]]) (rr := ii) (by kernel_rfl) (.cons h1 (.cons h1 (.cons (spec_RatSign_ok v_a r2 h3) (.cons (Sc.n _ _ : Sc (.n .i64 r2)) (.cons h1 (.cons h1 (.cons h4 (.cons h5 (.cons h5 (.cons h5 (.cons h5 .nil)))))))))))))
      (fun h5 =>
      .bnd fun r6 h7 =>
       .ret (runF_con0 hmix (tape := [.reg [nt, nt, nt], .reg [nt, nt, nt, nt, (.call { ac := [ii], r := .n .i64 r2, sc := true }, true), nt, (.br true, true), nt], .br true, .reg [nt, nt, nt, nt, (.call { ac := [ii], r := .n .i64 r6, sc := true }, true), nt, (.br false, true), nt]]) (rr := ii) (by kernel_rfl) (.cons h1 (.cons h1 (.cons (spec_RatSign_ok v_a r2 h3) (.cons (Sc.n _ _ : Sc (.n .i64 r2)) (.cons h1 (.cons h1 (.cons h4 (.cons h5 (.cons h5 (.cons (spec_RatSign_ok v_b r6 h7) (.cons (Sc.n _ _ : Sc (.n .i64 r6)) (.cons h5 (.cons h5 .nil))))))))))))))))
     (fun h4 =>
     .ite (fun h5 =>
      .bnd fun r6 h7 =>
       .ite (fun h8 =>
       .ret (runF_con0 hmix (tape := [.reg [nt, nt, nt], .reg [nt, nt, nt, nt, (.call { ac := [ii], r := .n .i64 r2, sc := true }, true), nt, (.br true, true), nt], .br false, .reg [nt, nt, nt, nt, (.call { ac := [ii], r := .n .i64 r6, sc := true }, true), nt, (.br true, true), nt, nf, nf, (.br true, true), nt], .br true, .reg [nt]]) (rr := ii) (by kernel_rfl) (.cons h1 (.cons h1 (.cons (spec_RatSign_ok v_a r2 h3) (.cons (Sc.n _ _ : Sc (.n .i64 r2)) (.cons h1 (.cons h1 (.cons h4 (.cons h5 (.cons h5 (.cons (spec_RatSign_ok v_b r6 h7) (.cons (Sc.n _ _ : Sc (.n .i64 r6)) (.cons h5 (.cons h5 (.cons h8 (.cons h8 (.cons h8 (.cons (rfl : true = true) .nil)))))))))))))))))))
       (fun h8 =>
       .ret (runF_con0 hmix (tape := [.reg [nt, nt, nt], .reg [nt, nt, nt, nt, (.call { ac := [ii], r := .n .i64 r2, sc := true }, true), nt, (.br true, true), nt], .br false, .reg [nt, nt, nt, nt, (.call { ac := [ii], r := .n .i64 r6, sc := true }, true), nt, (.br true, true), nt, nt, nt, (.br false, true), nt], .br true, .reg [nt]]) (rr := ii) (by kernel_rfl) (.cons h1 (.cons h1 (.cons (spec_RatSign_ok v_a r2 h3) (.cons (Sc.n _ _ : Sc (.n .i64 r2)) (.cons h1 (.cons h1 (.cons h4 (.cons h5 (.cons h5 (.cons (spec_RatSign_ok v_b r6 h7) (.cons (Sc.n _ _ : Sc (.n .i64 r6)) (.cons h5 (.cons h5 (.cons h8 (.cons h8 (.cons h8 (.cons h1 .nil))))))))))))))))))))
      (fun h5 =>
      .ret (runF_con0 hmix (tape := [.reg [nt, nt, nt], .reg [nt, nt, nt, nt, (.call { ac := [ii], r := .n .i64 r2, sc := true }, true), nt, (.br true, true), nt], .br false, .reg [nt, nt, nt, nf, nf, nf, (.br false, true), nt, nt, nt, nt, nt], .br true, .reg [nt]]) (rr := ii) (by kernel_rfl) (.cons h1 (.cons h1 (.cons (spec_RatSign_ok v_a r2 h3) (.cons (Sc.n _ _ : Sc (.n .i64 r2)) (.cons h1 (.cons h1 (.cons h4 (.cons h5 (.cons h5 (.cons h5 (.cons h5 (.cons (rfl : false = false) (.cons (rfl : false = false) (.cons h1 .nil))))))))))))))))))
    (fun h1 =>
    .ite (fun h2 =>
     .bnd fun r3 h4 =>
      .ite (fun h5 =>
      .ret (runF_con0 hmix (tape := [.reg [nt, nt, nt], .reg [nt, nt, nt, nf, nf, nf, (.br false, true), nt], .br false, .reg [nt, nt, nt, nt, (.call { ac := [ii], r := .n .i64 r3, sc := true }, true), nt, (.br true, true), nt, nf, nf, (.br true, true), nt], .br true, .reg [nt]]) (rr := ii) (by kernel_rfl) (.cons h1 (.cons h1 (.cons h1 (.cons h1 (.cons (rfl : false = false) (.cons h2 (.cons h2 (.cons (spec_RatSign_ok v_b r3 h4) (.cons (Sc.n _ _ : Sc (.n .i64 r3)) (.cons h2 (.cons h2 (.cons h5 (.cons h5 (.cons h5 (.cons (rfl : true = true) .nil)))))))))))))))))
      (fun h5 =>
      .bnd fun r6 h7 =>
       .ret (runF_con0 hmix (tape := [.reg [nt, nt, nt], .reg [nt, nt, nt, nf, nf, nf, (.br false, true), nt], .br false, .reg [nt, nt, nt, nt, (.call { ac := [ii], r := .n .i64 r3, sc := true }, true), nt, (.br true, true), nt, nt, nt, (.br false, true), nt], .br false, .reg [nt, nt, nt], .br true, .reg [nt, (.call { ac := [ii], r := .n .i64 r6, sc := true }, true), nt, nt]]) (rr := ii) (by kernel_rfl) (.cons h1 (.cons h1 (.cons h1 (.cons h1 (.cons (rfl : false = false) (.cons h2 (.cons h2 (.cons (spec_RatSign_ok v_b r3 h4) (.cons (Sc.n _ _ : Sc (.n .i64 r3)) (.cons h2 (.cons h2 (.cons h5 (.cons h5 (.cons h5 (.cons h1 (.cons h2 (.cons (spec_RatSign_ok v_a r6 h7) (.cons (Sc.n _ _ : Sc (.n .i64 r6)) .nil)))))))))))))))))))))
     (fun h2 =>
     .bnd fun r3 h4 =>
      .ret (runF_con0 hmix (tape := [.reg [nt, nt, nt], .reg [nt, nt, nt, nf, nf, nf, (.br false, true), nt], .br false, .reg [nt, nt, nt, nf, nf, nf, (.br false, true), nt, nt, nt, nt, nt], .br false, .reg [nt, nt, nt], .br false, .reg [nt, nt, nt, nt, (.call { ac := [ii, ii, ii, ii], r := .n .i64 r3, sc := true }, true), nt, nt]]) (rr := ii) (by kernel_rfl) (.cons h1 (.cons h1 (.cons h1 (.cons h1 (.cons (rfl : false = false) (.cons h2 (.cons h2 (.cons h2 (.cons h2 (.cons (rfl : false = false) (.cons (rfl : false = false) (.cons h1 (.cons h2 (.cons (spec_l20Cmp_ok v_a v_v v_b v_w r3 h4) (.cons (Sc.n _ _ : Sc (.n .i64 r3)) .nil))))))))))))))))))

def spec_WorstMember_L1_head (v_w : (List Int)) (v_f : (List TRat)) (v_t31 : Int) (v_best : Int) (v_t32 : Int) : S := mkS [(2, .isl 1 (v_w.map eI)), (7, .isl 3 (v_f.map eTRat)), (9, .n .i64 v_best), (31, .n .i64 v_t31), (32, .n .i64 v_t32)] []

def spec_WorstMember_L1_ex : Int → Exit
  | _ => .exit 0

def spec_WorstMember_L1_out (v_w : (List Int)) (v_f : (List TRat)) (v_t31 : Int) : Int → S
  | a => mkS [(9, .n .i64 a)] []

def spec_WorstMember_L1_body (v_w : (List Int)) (v_f : (List TRat)) (v_t31 : Int) (v_best : Int) (v_t32 : Int) : Option ((Int × Int) ⊕ (Int)) :=
  if (decide (v_t32 < v_t31)) = true then
    if 0 ≤ v_t32 ∧ v_t32 < v_f.length then
    v_f[v_t32.toNat]? >>= fun x3 =>
    if 0 ≤ v_t32 ∧ v_t32 < v_w.length then
    v_w[v_t32.toNat]? >>= fun x6 =>
    if 0 ≤ v_best ∧ v_best < v_f.length then
    v_f[v_best.toNat]? >>= fun x9 =>
    if 0 ≤ v_best ∧ v_best < v_w.length then
    v_w[v_best.toNat]? >>= fun x12 =>
    spec_l20Worse x3 x6 x9 x12 >>= fun r14 =>
    if r14 = true then
      some (.inl (v_t32, w64 (v_t32 + (1 : Int))))
    else
      some (.inl (v_best, w64 (v_t32 + (1 : Int))))
    else none
    else none
    else none
    else none
  else
    some (.inr v_best)

def spec_WorstMember_L1 (v_w : (List Int)) (v_f : (List TRat)) (v_t31 : Int) (v_best : Int) (v_t32 : Int) : Option (Int) := iter (fun w : Int × Int => spec_WorstMember_L1_body v_w v_f v_t31 w.1 w.2) (v_best, v_t32)

theorem spec_WorstMember_L1_body_ok (v_w : (List Int)) (v_f : (List TRat)) (v_t31 : Int) (v_best : Int) (v_t32 : Int) : Wp (spec_WorstMember_L1_body v_w v_f v_t31 v_best v_t32) (Sum.elim
    (fun w => VEx PP 55 0 (nodeAt (bodyOf PP 28) [1, 1, 1, 1, 0, 1, 0, 0]) .normal (spec_WorstMember_L1_head v_w v_f v_t31 v_best v_t32) (spec_WorstMember_L1_head v_w v_f v_t31 w.1 w.2))
    (fun r => VEx PP 55 0 (nodeAt (bodyOf PP 28) [1, 1, 1, 1, 0, 1, 0, 0]) (spec_WorstMember_L1_ex r) (spec_WorstMember_L1_head v_w v_f v_t31 v_best v_t32) (spec_WorstMember_L1_out v_w v_f v_t31 r))) := by
  unfold spec_WorstMember_L1_body
  exact .ite (fun h1 =>
      .grd fun h2 =>
       .bnd fun x3 h4 =>
       .grd fun h5 =>
       .bnd fun x6 h7 =>
       .grd fun h8 =>
       .bnd fun x9 h10 =>
       .grd fun h11 =>
       .bnd fun x12 h13 =>
       .bnd fun r14 h15 =>
       .ite (fun h16 =>
       .ret ((okC_sound hmix (tape := [.reg [nt], .br true, .reg [nt, nt], .reg [nt, nt, nt, (.el (eTRat x3), true), nt, nt, nt, (.el (eI x6), true), nt, nt, nt, (.el (eTRat x9), true), nt, nt, nt, (.el (eI x12), true), (.call { ac := [ii, ii, ii, ii], r := .b r14, sc := true }, true)], .br true, .reg [nt, nt], .reg [nt, nt], .rst [] [] [(2, ii), (7, ii), (9, ii), (31, ii), (32, ii)]]) (nr := 0) (by kernel_rfl) (.cons h1 (.cons ((h2).1) (.cons (lt_mapI (h2).2 : v_t32 < ((v_f.map eTRat).length : Nat)) (.cons (map_get h4 : (v_f.map eTRat)[v_t32.toNat]? = some (eTRat x3)) (.cons ((h5).1) (.cons (lt_mapI (h5).2 : v_t32 < ((v_w.map eI).length : Nat)) (.cons (map_get h7 : (v_w.map eI)[v_t32.toNat]? = some (eI x6)) (.cons ((h8).1) (.cons (lt_mapI (h8).2 : v_best < ((v_f.map eTRat).length : Nat)) (.cons (map_get h10 : (v_f.map eTRat)[v_best.toNat]? = some (eTRat x9)) (.cons ((h11).1) (.cons (lt_mapI (h11).2 : v_best < ((v_w.map eI).length : Nat)) (.cons (map_get h13 : (v_w.map eI)[v_best.toNat]? = some (eI x12)) (.cons (spec_l20Worse_ok x3 x6 x9 x12 r14 h15) (.cons (Sc.b _ : Sc (.b r14)) (.cons h16 .nil)))))))))))))))) (mkS_free _ _) : VEx PP 55 0 (nodeAt (bodyOf PP 28) [1, 1, 1, 1, 0, 1, 0, 0]) .normal (spec_WorstMember_L1_head v_w v_f v_t31 v_best v_t32) (spec_WorstMember_L1_head v_w v_f v_t31 v_t32 (w64 (v_t32 + (1 : Int)))))))
       (fun h16 =>
       .ret ((okC_sound hmix (tape := [.reg [nt], .br true, .reg [nt, nt], .reg [nt, nt, nt, (.el (eTRat x3), true), nt, nt, nt, (.el (eI x6), true), nt, nt, nt, (.el (eTRat x9), true), nt, nt, nt, (.el (eI x12), true), (.call { ac := [ii, ii, ii, ii], r := .b r14, sc := true }, true)], .br false, .reg [nt, nt], .rst [] [] [(2, ii), (7, ii), (9, ii), (31, ii), (32, ii)]]) (nr := 0) (by kernel_rfl) (.cons h1 (.cons ((h2).1) (.cons (lt_mapI (h2).2 : v_t32 < ((v_f.map eTRat).length : Nat)) (.cons (map_get h4 : (v_f.map eTRat)[v_t32.toNat]? = some (eTRat x3)) (.cons ((h5).1) (.cons (lt_mapI (h5).2 : v_t32 < ((v_w.map eI).length : Nat)) (.cons (map_get h7 : (v_w.map eI)[v_t32.toNat]? = some (eI x6)) (.cons ((h8).1) (.cons (lt_mapI (h8).2 : v_best < ((v_f.map eTRat).length : Nat)) (.cons (map_get h10 : (v_f.map eTRat)[v_best.toNat]? = some (eTRat x9)) (.cons ((h11).1) (.cons (lt_mapI (h11).2 : v_best < ((v_w.map eI).length : Nat)) (.cons (map_get h13 : (v_w.map eI)[v_best.toNat]? = some (eI x12)) (.cons (spec_l20Worse_ok x3 x6 x9 x12 r14 h15) (.cons (Sc.b _ : Sc (.b r14)) (.cons h16 .nil)))))))))))))))) (mkS_free _ _) : VEx PP 55 0 (nodeAt (bodyOf PP 28) [1, 1, 1, 1, 0, 1, 0, 0]) .normal (spec_WorstMember_L1_head v_w v_f v_t31 v_best v_t32) (spec_WorstMember_L1_head v_w v_f v_t31 v_best (w64 (v_t32 + (1 : Int))))))))
      (fun h1 =>
      .ret ((okC_sound hmix (tape := [.reg [nt], .br false, .rst [] [] [(9, ii)]]) (nr := 0) (by kernel_rfl) (.cons h1 .nil) (mkS_free _ _) : VEx PP 55 0 (nodeAt (bodyOf PP 28) [1, 1, 1, 1, 0, 1, 0, 0]) (.exit 0) (spec_WorstMember_L1_head v_w v_f v_t31 v_best v_t32) (spec_WorstMember_L1_out v_w v_f v_t31 v_best))))

theorem spec_WorstMember_L1_ok (v_w : (List Int)) (v_f : (List TRat)) (v_t31 : Int) (v_best : Int) (v_t32 : Int) : ∀ r, spec_WorstMember_L1 v_w v_f v_t31 v_best v_t32 = some r → VLoop PP 55 0 (nodeAt (bodyOf PP 28) [1, 1, 1, 1, 0, 1, 0, 0]) (spec_WorstMember_L1_ex r) (spec_WorstMember_L1_head v_w v_f v_t31 v_best v_t32) (spec_WorstMember_L1_out v_w v_f v_t31 r) := fun r h =>
  iter_ok (head := fun w : Int × Int => spec_WorstMember_L1_head v_w v_f v_t31 w.1 w.2) (ex := spec_WorstMember_L1_ex) (out := spec_WorstMember_L1_out v_w v_f v_t31) (by intro r; unfold spec_WorstMember_L1_ex; split <;> simp) (fun w => spec_WorstMember_L1_body_ok v_w v_f v_t31 w.1 w.2) (v_best, v_t32) r h

def spec_WorstMember (v_s : TStructure) (v_q : (List TRat)) (v_w : (List Int)) : Option Int :=
  spec_l20Squares v_s v_q >>= fun r1 =>
  if r1.2 = true then
    spec_LimitsOk v_s v_w >>= fun r4 =>
    if r4 = true then
      if ((len_ eTRat r1.1) == (0 : Int)) = true then
        some (-1)
      else
        spec_WorstMember_L1 v_w r1.1 (len_ eTRat r1.1) 0 0 >>= fun r8 =>
        some r8
    else
      some (-1)
  else
    some (-1)

theorem spec_WorstMember_ok (v_s : TStructure) (v_q : (List TRat)) (v_w : (List Int)) : Wp (spec_WorstMember v_s v_q v_w) (fun r => Con PP 28 [.agg [.isl 4 (v_s.fJoints.map eTJoint), .isl 3 (v_s.fMembers.map eTMember)], .isl 3 (v_q.map eTRat), .isl 1 (v_w.map eI)] [] (.n .i64 r) []) := by
  unfold spec_WorstMember
  exact .bnd fun r1 h2 =>
    .ite (fun h3 =>
    .bnd fun r4 h5 =>
     .ite (fun h6 =>
     .ite (fun h7 =>
      .ret (runF_con0 hmix (tape := [.reg [nt, nt], .reg [nt, nt, (.call { ac := [ii, ii], r := .tup [.isl 3 (r1.1.map eTRat), .b r1.2], sc := false }, true), nt, nt, nt, nt, nt], .reg [nt, nt, nt, nt, nt, (.call { ac := [ii, ii], r := .b r4, sc := true }, true), nt, (.br false, true), nt, nt, nt, nt, (.br false, true)], .br true, .reg [nt]]) (rr := ii) (by kernel_rfl) (.cons (spec_l20Squares_ok v_s v_q r1 h2) (.cons (not_t h3) (.cons (not_t h3) (.cons (not_t h3) (.cons (spec_LimitsOk_ok v_s v_w r4 h5) (.cons (Sc.b _ : Sc (.b r4)) (.cons (not_t h3) (.cons (not_t h3) (.cons (not_t h6) (.cons (not_t h6) (.cons (not_t h6) (.cons (not_t h6) (.cons h7 .nil)))))))))))))))
      (fun h7 =>
      .bnd fun r8 h9 =>
       .ret (runF_con0 hmix (tape := [.reg [nt, nt], .reg [nt, nt, (.call { ac := [ii, ii], r := .tup [.isl 3 (r1.1.map eTRat), .b r1.2], sc := false }, true), nt, nt, nt, nt, nt], .reg [nt, nt, nt, nt, nt, (.call { ac := [ii, ii], r := .b r4, sc := true }, true), nt, (.br false, true), nt, nt, nt, nt, (.br false, true)], .br false, .reg [nt], .reg [nt, nt, nt], .rst [] [] [(2, ii), (7, ii), (9, ii), (31, ii), (32, ii)], .sub (.exit 0) [(9, .n .i64 r8)] [], .reg [nt, nt]]) (rr := ii) (by kernel_rfl) (.cons (spec_l20Squares_ok v_s v_q r1 h2) (.cons (not_t h3) (.cons (not_t h3) (.cons (not_t h3) (.cons (spec_LimitsOk_ok v_s v_w r4 h5) (.cons (Sc.b _ : Sc (.b r4)) (.cons (not_t h3) (.cons (not_t h3) (.cons (not_t h6) (.cons (not_t h6) (.cons (not_t h6) (.cons (not_t h6) (.cons h7 (.cons ((spec_WorstMember_L1_ok v_w r1.1 (len_ eTRat r1.1) 0 0 r8 h9).vex) .nil)))))))))))))))))
     (fun h6 =>
     .ret (runF_con0 hmix (tape := [.reg [nt, nt], .reg [nt, nt, (.call { ac := [ii, ii], r := .tup [.isl 3 (r1.1.map eTRat), .b r1.2], sc := false }, true), nt, nt, nt, nt, nt], .reg [nt, nt, nt, nt, nt, (.call { ac := [ii, ii], r := .b r4, sc := true }, true), nt, (.br false, true), nt, nf, nf, nf, (.br true, true)], .br true, .reg [nt]]) (rr := ii) (by kernel_rfl) (.cons (spec_l20Squares_ok v_s v_q r1 h2) (.cons (not_t h3) (.cons (not_t h3) (.cons (not_t h3) (.cons (spec_LimitsOk_ok v_s v_w r4 h5) (.cons (Sc.b _ : Sc (.b r4)) (.cons (not_t h3) (.cons (not_t h3) (.cons (not_f h6) (.cons (not_f h6) (.cons (not_f h6) (.cons (not_f h6) (.cons (rfl : true = true) .nil))))))))))))))))
    (fun h3 =>
    .ret (runF_con0 hmix (tape := [.reg [nt, nt], .reg [nt, nt, (.call { ac := [ii, ii], r := .tup [.isl 3 (r1.1.map eTRat), .b r1.2], sc := false }, true), nt, nt, nt, nt, nt], .reg [nt, nt, nt, nf, nf, nf, nf, (.br true, true), nt, nf, nf, nf, nt], .br true, .reg [nt]]) (rr := ii) (by kernel_rfl) (.cons (spec_l20Squares_ok v_s v_q r1 h2) (.cons (not_f h3) (.cons (not_f h3) (.cons (not_f h3) (.cons (not_f h3) (.cons (not_f h3) (.cons (rfl : true = true) (.cons (rfl : true = true) (.cons (rfl : true = true) (.cons (rfl : true = true) .nil))))))))))))

def impl_BigInt_sign (v_x : TBigInt) : Option Int :=
  if ((len_ eI v_x.fMag) == (0 : Int)) = true then
    some 0
  else
    if v_x.fNeg = true then
      some (-1)
    else
      some 1

theorem impl_BigInt_sign_ok (v_x : TBigInt) : Wp (impl_BigInt_sign v_x) (fun r => Con PP 202 [.agg [.b v_x.fNeg, .isl 1 (v_x.fMag.map eI)]] [] (.n .i64 r) []) := by
  unfold impl_BigInt_sign
  exact .ite (fun h1 =>
    .ret (runF_con0 hmix (tape := [.reg [nt, nt], .reg [nt, nt, nt, nt, nt], .br true, .reg [nt]]) (rr := ii) (by kernel_rfl) (.cons h1 .nil)))
    (fun h1 =>
    .ite (fun h2 =>
     .ret (runF_con0 hmix (tape := [.reg [nt, nt], .reg [nt, nt, nt, nt, nt], .br false, .reg [nt, nt, nt], .br true, .reg [nt]]) (rr := ii) (by kernel_rfl) (.cons h1 (.cons h2 .nil))))
     (fun h2 =>
     .ret (runF_con0 hmix (tape := [.reg [nt, nt], .reg [nt, nt, nt, nt, nt], .br false, .reg [nt, nt, nt], .br false, .reg [nt]]) (rr := ii) (by kernel_rfl) (.cons h1 (.cons h2 .nil)))))

def impl_ratio_Sign (v_x : (Option TRatio_)) : Option Int :=
  v_x >>= fun y1 =>
  impl_BigInt_sign y1.gNum >>= fun r3 =>
  some r3

theorem impl_ratio_Sign_ok (v_x : (Option TRatio_)) : Wp (impl_ratio_Sign v_x) (fun r => Con PP 98 [aO 3 eTRatio_ v_x] [] (.n .i64 r) []) := by
  unfold impl_ratio_Sign
  exact .bnd fun y1 h2 =>
    .bnd fun r3 h4 =>
    .ret (runF_con0 hmix (tape := [.reg [nt], .reg [nt, (.re 3 (.ipo 3 (some (eTRatio_ y1))) .bd, true), nt, nt, (.call { ac := [ii], r := .n .i64 r3, sc := true }, true), nt]]) (rr := ii) (by kernel_rfl) (.cons (aO_some h2 : aO 3 eTRatio_ v_x = .ipo 3 (some (eTRatio_ y1))) (.cons (impl_BigInt_sign_ok y1.gNum r3 h4) (.cons (Sc.n _ _ : Sc (.n .i64 r3)) .nil))))

def impl_isMore_1 (v_x : (Option TRatio_)) (v_w : Int) : Option Bool :=
  if (v_w == (0 : Int)) = true then
    impl_ratio_Sign v_x >>= fun r2 =>
    some (r2 != (0 : Int))
  else
    some false

theorem impl_isMore_1_ok (v_x : (Option TRatio_)) (v_w : Int) : Wp (impl_isMore_1 v_x v_w) (fun r => Con PP 187 [aO 3 eTRatio_ v_x, .n .i64 v_w] [] (.b r) []) := by
  unfold impl_isMore_1
  exact .ite (fun h1 =>
    .bnd fun r2 h3 =>
     .ret (runF_con0 hmix (tape := [.reg [nt], .reg [nt, nt, nt, nt, (.call { ac := [ii], r := .n .i64 r2, sc := true }, true), nt, (.br true, true), nt]]) (rr := ii) (by kernel_rfl) (.cons h1 (.cons h1 (.cons (impl_ratio_Sign_ok v_x r2 h3) (.cons (Sc.n _ _ : Sc (.n .i64 r2)) (.cons h1 (.cons h1 .nil))))))))
    (fun h1 =>
    .ret (runF_con0 hmix (tape := [.reg [nt], .reg [nt, nt, nt, nf, nf, nf, (.br false, true), nt]]) (rr := ii) (by kernel_rfl) (.cons h1 (.cons h1 (.cons h1 (.cons h1 .nil))))))

def impl_ratio_by (v_x : (Option TRatio_)) (v_y : (Option TRatio_)) : Option (Option TRatio_) :=
  v_x >>= fun y1 =>
  v_y >>= fun y3 =>
  impl_times y1.gNum.fMag y3.gDen >>= fun r5 =>
  impl_signed (!(y1.gNum.fNeg == y3.gNum.fNeg)) r5 >>= fun r7 =>
  impl_times y1.gDen y3.gNum.fMag >>= fun r9 =>
  impl_lowest r7 r9 >>= fun r11 =>
  some r11

theorem impl_ratio_by_ok (v_x : (Option TRatio_)) (v_y : (Option TRatio_)) : Wp (impl_ratio_by v_x v_y) (fun r => Con PP 189 [aO 3 eTRatio_ v_x, aO 3 eTRatio_ v_y] [] (aO 3 eTRatio_ r) []) := by
  unfold impl_ratio_by
  exact .bnd fun y1 h2 =>
    .bnd fun y3 h4 =>
    .bnd fun r5 h6 =>
    .bnd fun r7 h8 =>
    .bnd fun r9 h10 =>
    .bnd fun r11 h12 =>
    .ret (runF_con0 hmix (tape := [.reg [nt], .reg [nt, (.re 5 (.ipo 3 (some (eTRatio_ y1))) .bd, true), nt, nt, nt, nt, (.re 10 (.ipo 3 (some (eTRatio_ y3))) .bd, true), nt, nt, nt, nt, nt, (.re 16 (.ipo 3 (some (eTRatio_ y1))) .bd, true), nt, nt, nt, nt, (.re 21 (.ipo 3 (some (eTRatio_ y3))) .bd, true), nt, nt, (.call { ac := [ii, ii], r := .isl 1 (r5.map eI), sc := false }, true), (.call { ac := [ii, ii], r := .agg [.b r7.fNeg, .isl 1 (r7.fMag.map eI)], sc := false }, true), nt, (.re 27 (.ipo 3 (some (eTRatio_ y1))) .bd, true), nt, nt, nt, (.re 31 (.ipo 3 (some (eTRatio_ y3))) .bd, true), nt, nt, nt, (.call { ac := [ii, ii], r := .isl 1 (r9.map eI), sc := false }, true), (.call { ac := [ii, ii], r := aO 3 eTRatio_ r11, sc := false }, true), nt]]) (rr := ii) (by kernel_rfl) (.cons (aO_some h2 : aO 3 eTRatio_ v_x = .ipo 3 (some (eTRatio_ y1))) (.cons (aO_some h4 : aO 3 eTRatio_ v_y = .ipo 3 (some (eTRatio_ y3))) (.cons (aO_some h2 : aO 3 eTRatio_ v_x = .ipo 3 (some (eTRatio_ y1))) (.cons (aO_some h4 : aO 3 eTRatio_ v_y = .ipo 3 (some (eTRatio_ y3))) (.cons (impl_times_ok y1.gNum.fMag y3.gDen r5 h6) (.cons (impl_signed_ok (!(y1.gNum.fNeg == y3.gNum.fNeg)) r5 r7 h8) (.cons (aO_some h2 : aO 3 eTRatio_ v_x = .ipo 3 (some (eTRatio_ y1))) (.cons (aO_some h4 : aO 3 eTRatio_ v_y = .ipo 3 (some (eTRatio_ y3))) (.cons (impl_times_ok y1.gDen y3.gNum.fMag r9 h10) (.cons (impl_lowest_ok r7 r9 r11 h12) .nil)))))))))))

def impl_isMore_2 (v_x : (Option TRatio_)) (v_w : Int) : Option (Option TRatio_) :=
  if (v_w == (0 : Int)) = true then
    impl_whole 0 >>= fun r2 =>
    some r2
  else
    impl_whole (w64 (v_w * v_w)) >>= fun r2 =>
    impl_ratio_by v_x r2 >>= fun r4 =>
    some r4

theorem impl_isMore_2_ok (v_x : (Option TRatio_)) (v_w : Int) : Wp (impl_isMore_2 v_x v_w) (fun r => Con PP 188 [aO 3 eTRatio_ v_x, .n .i64 v_w] [] (aO 3 eTRatio_ r) []) := by
  unfold impl_isMore_2
  exact .ite (fun h1 =>
    .bnd fun r2 h3 =>
     .ret (runF_con0 hmix (tape := [.reg [nt], .reg [nt, nt], .br true, .reg [(.call { ac := [ii], r := aO 3 eTRatio_ r2, sc := false }, true), nt]]) (rr := ii) (by kernel_rfl) (.cons h1 (.cons (impl_whole_ok 0 r2 h3) .nil))))
    (fun h1 =>
    .bnd fun r2 h3 =>
     .bnd fun r4 h5 =>
     .ret (runF_con0 hmix (tape := [.reg [nt], .reg [nt, nt], .br false, .reg [nt, nt, nt, nt, (.call { ac := [ii], r := aO 3 eTRatio_ r2, sc := false }, true), (.call { ac := [ii, ii], r := aO 3 eTRatio_ r4, sc := false }, true), nt]]) (rr := ii) (by kernel_rfl) (.cons h1 (.cons (impl_whole_ok (w64 (v_w * v_w)) r2 h3) (.cons (impl_ratio_by_ok v_x r2 r4 h5) .nil)))))

def impl_isMore (v_x : (Option TRatio_)) (v_v : Int) (v_y : (Option TRatio_)) (v_w : Int) : Option Bool :=
  impl_isMore_1 v_x v_v >>= fun r1 =>
  if r1 = true then
    impl_isMore_1 v_y v_w >>= fun r4 =>
    some (!r4)
  else
    impl_isMore_1 v_y v_w >>= fun r4 =>
    if r4 = true then
      some false
    else
      impl_isMore_2 v_x v_v >>= fun r7 =>
      impl_isMore_2 v_y v_w >>= fun r9 =>
      impl_ratio_Cmp r7 r9 >>= fun r11 =>
      some (decide ((0 : Int) < r11))

theorem impl_isMore_ok (v_x : (Option TRatio_)) (v_v : Int) (v_y : (Option TRatio_)) (v_w : Int) : Wp (impl_isMore v_x v_v v_y v_w) (fun r => Con PP 87 [aO 3 eTRatio_ v_x, .n .i64 v_v, aO 3 eTRatio_ v_y, .n .i64 v_w] [] (.b r) []) := by
  unfold impl_isMore
  exact .bnd fun r1 h2 =>
    .ite (fun h3 =>
    .bnd fun r4 h5 =>
     .ret (runF_con0 hmix (tape := [.reg [nt], .reg [nt], .reg [nt, nt, nt, (.call { ac := [ii, ii], r := .b r1, sc := true }, true), nt, nf, nf, nf, nf, (.br true, true)], .br true, .reg [nt, nt, nt, (.call { ac := [ii, ii], r := .b r1, sc := true }, true), nt, nt, nt, nt, (.call { ac := [ii, ii], r := .b r4, sc := true }, true), nt, (.br true, true), nt]]) (rr := ii) (by kernel_rfl) (.cons (impl_isMore_1_ok v_x v_v r1 h2) (.cons (Sc.b _ : Sc (.b r1)) (.cons h3 (.cons h3 (.cons h3 (.cons h3 (.cons h3 (.cons (rfl : true = true) (.cons (impl_isMore_1_ok v_x v_v r1 h2) (.cons (Sc.b _ : Sc (.b r1)) (.cons h3 (.cons h3 (.cons h3 (.cons h3 (.cons (impl_isMore_1_ok v_y v_w r4 h5) (.cons (Sc.b _ : Sc (.b r4)) (.cons h3 (.cons h3 .nil))))))))))))))))))))
    (fun h3 =>
    .bnd fun r4 h5 =>
     .ite (fun h6 =>
     .ret (runF_con0 hmix (tape := [.reg [nt], .reg [nt], .reg [nt, nt, nt, (.call { ac := [ii, ii], r := .b r1, sc := true }, true), nt, nt, nt, nt, (.call { ac := [ii, ii], r := .b r4, sc := true }, true), (.br false, true)], .br true, .reg [nt, nt, nt, (.call { ac := [ii, ii], r := .b r1, sc := true }, true), nt, nf, nf, nf, nf, nf, (.br false, true), nt]]) (rr := ii) (by kernel_rfl) (.cons (impl_isMore_1_ok v_x v_v r1 h2) (.cons (Sc.b _ : Sc (.b r1)) (.cons h3 (.cons h3 (.cons h3 (.cons h3 (.cons (impl_isMore_1_ok v_y v_w r4 h5) (.cons (Sc.b _ : Sc (.b r4)) (.cons h3 (.cons h6 (.cons (impl_isMore_1_ok v_x v_v r1 h2) (.cons (Sc.b _ : Sc (.b r1)) (.cons h3 (.cons h3 (.cons h3 (.cons h3 (.cons h3 (.cons h3 .nil))))))))))))))))))))
     (fun h6 =>
     .bnd fun r7 h8 =>
      .bnd fun r9 h10 =>
      .bnd fun r11 h12 =>
      .ret (runF_con0 hmix (tape := [.reg [nt], .reg [nt], .reg [nt, nt, nt, (.call { ac := [ii, ii], r := .b r1, sc := true }, true), nt, nt, nt, nt, (.call { ac := [ii, ii], r := .b r4, sc := true }, true), (.br false, true)], .br false, .reg [nt], .reg [nt, nt, nt, (.call { ac := [ii, ii], r := aO 3 eTRatio_ r7, sc := false }, true), nt, nt, nt, (.call { ac := [ii, ii], r := aO 3 eTRatio_ r9, sc := false }, true), (.call { ac := [ii, ii], r := .n .i64 r11, sc := true }, true), nt, nt]]) (rr := ii) (by kernel_rfl) (.cons (impl_isMore_1_ok v_x v_v r1 h2) (.cons (Sc.b _ : Sc (.b r1)) (.cons h3 (.cons h3 (.cons h3 (.cons h3 (.cons (impl_isMore_1_ok v_y v_w r4 h5) (.cons (Sc.b _ : Sc (.b r4)) (.cons h3 (.cons h6 (.cons (impl_isMore_2_ok v_x v_v r7 h8) (.cons (impl_isMore_2_ok v_y v_w r9 h10) (.cons (impl_ratio_Cmp_ok r7 r9 r11 h12) (.cons (Sc.n _ _ : Sc (.n .i64 r11)) .nil)))))))))))))))))

def impl_WorstMember_L1_head (v_w : (List Int)) (v_list : (List (Option TRatio_))) (v_t25 : Int) (v_worst : Int) (v_t26 : Int) : S := mkS [(2, .isl 1 (v_w.map eI)), (7, .isl 1 (v_list.map (eO 3 eTRatio_))), (9, .n .i64 v_worst), (24, .isl 1 (v_list.map (eO 3 eTRatio_))), (25, .n .i64 v_t25), (26, .n .i64 v_t26)] []

def impl_WorstMember_L1_ex : Int → Exit
  | _ => .exit 0

def impl_WorstMember_L1_out (v_w : (List Int)) (v_list : (List (Option TRatio_))) (v_t25 : Int) : Int → S
  | a => mkS [(9, .n .i64 a)] []

def impl_WorstMember_L1_body (v_w : (List Int)) (v_list : (List (Option TRatio_))) (v_t25 : Int) (v_worst : Int) (v_t26 : Int) : Option ((Int × Int) ⊕ (Int)) :=
  if (decide (v_t26 < v_t25)) = true then
    if 0 ≤ v_t26 ∧ v_t26 < v_list.length then
    v_list[v_t26.toNat]? >>= fun x3 =>
    if (decide (v_worst < (0 : Int))) = true then
      some (.inl (v_t26, w64 (v_t26 + (1 : Int))))
    else
      if 0 ≤ v_t26 ∧ v_t26 < v_w.length then
      v_w[v_t26.toNat]? >>= fun x7 =>
      if 0 ≤ v_worst ∧ v_worst < v_list.length then
      v_list[v_worst.toNat]? >>= fun x10 =>
      if 0 ≤ v_worst ∧ v_worst < v_w.length then
      v_w[v_worst.toNat]? >>= fun x13 =>
      impl_isMore x3 x7 x10 x13 >>= fun r15 =>
      if r15 = true then
        some (.inl (v_t26, w64 (v_t26 + (1 : Int))))
      else
        some (.inl (v_worst, w64 (v_t26 + (1 : Int))))
      else none
      else none
      else none
    else none
  else
    some (.inr v_worst)

def impl_WorstMember_L1 (v_w : (List Int)) (v_list : (List (Option TRatio_))) (v_t25 : Int) (v_worst : Int) (v_t26 : Int) : Option (Int) := iter (fun w : Int × Int => impl_WorstMember_L1_body v_w v_list v_t25 w.1 w.2) (v_worst, v_t26)

theorem impl_WorstMember_L1_body_ok (v_w : (List Int)) (v_list : (List (Option TRatio_))) (v_t25 : Int) (v_worst : Int) (v_t26 : Int) : Wp (impl_WorstMember_L1_body v_w v_list v_t25 v_worst v_t26) (Sum.elim
    (fun w => VEx PP 52 0 (nodeAt (bodyOf PP 29) [1, 1, 1, 1, 0, 1, 0, 0]) .normal (impl_WorstMember_L1_head v_w v_list v_t25 v_worst v_t26) (impl_WorstMember_L1_head v_w v_list v_t25 w.1 w.2))
    (fun r => VEx PP 52 0 (nodeAt (bodyOf PP 29) [1, 1, 1, 1, 0, 1, 0, 0]) (impl_WorstMember_L1_ex r) (impl_WorstMember_L1_head v_w v_list v_t25 v_worst v_t26) (impl_WorstMember_L1_out v_w v_list v_t25 r))) := by
  unfold impl_WorstMember_L1_body
  exact .ite (fun h1 =>
      .grd fun h2 =>
       .bnd fun x3 h4 =>
       .ite (fun h5 =>
       .ret ((okC_sound hmix (tape := [.reg [nt], .br true, .reg [nt, nt, (.el ((eO 3 eTRatio_) x3), true), nt, nt], .reg [nt, nt, nt, nf, nf, nf, nf, nf, nf, nf, nf, nf, nf, nf, nf, nf, nf, (.br true, true)], .br true, .reg [nt, nt], .reg [nt, nt], .rst [] [] [(2, ii), (7, ii), (9, ii), (24, ii), (25, ii), (26, ii)]]) (nr := 0) (by kernel_rfl) (.cons h1 (.cons ((h2).1) (.cons (lt_mapI (h2).2 : v_t26 < ((v_list.map (eO 3 eTRatio_)).length : Nat)) (.cons (map_get h4 : (v_list.map (eO 3 eTRatio_))[v_t26.toNat]? = some ((eO 3 eTRatio_) x3)) (.cons h5 (.cons h5 (.cons h5 (.cons h5 (.cons h5 (.cons h5 (.cons h5 (.cons h5 (.cons h5 (.cons h5 (.cons h5 (.cons h5 (.cons h5 (.cons h5 (.cons h5 (.cons (rfl : true = true) .nil)))))))))))))))))))) (mkS_free _ _) : VEx PP 52 0 (nodeAt (bodyOf PP 29) [1, 1, 1, 1, 0, 1, 0, 0]) .normal (impl_WorstMember_L1_head v_w v_list v_t25 v_worst v_t26) (impl_WorstMember_L1_head v_w v_list v_t25 v_t26 (w64 (v_t26 + (1 : Int)))))))
       (fun h5 =>
       .grd fun h6 =>
        .bnd fun x7 h8 =>
        .grd fun h9 =>
        .bnd fun x10 h11 =>
        .grd fun h12 =>
        .bnd fun x13 h14 =>
        .bnd fun r15 h16 =>
        .ite (fun h17 =>
        .ret ((okC_sound hmix (tape := [.reg [nt], .br true, .reg [nt, nt, (.el ((eO 3 eTRatio_) x3), true), nt, nt], .reg [nt, nt, nt, nt, nt, nt, nt, (.el (eI x7), true), nt, nt, nt, (.el ((eO 3 eTRatio_) x10), true), nt, nt, nt, (.el (eI x13), true), (.call { ac := [ii, ii, ii, ii], r := .b r15, sc := true }, true), (.br false, true)], .br true, .reg [nt, nt], .reg [nt, nt], .rst [] [] [(2, ii), (7, ii), (9, ii), (24, ii), (25, ii), (26, ii)]]) (nr := 0) (by kernel_rfl) (.cons h1 (.cons ((h2).1) (.cons (lt_mapI (h2).2 : v_t26 < ((v_list.map (eO 3 eTRatio_)).length : Nat)) (.cons (map_get h4 : (v_list.map (eO 3 eTRatio_))[v_t26.toNat]? = some ((eO 3 eTRatio_) x3)) (.cons h5 (.cons h5 (.cons h5 (.cons h5 (.cons ((h6).1) (.cons (lt_mapI (h6).2 : v_t26 < ((v_w.map eI).length : Nat)) (.cons h5 (.cons (map_get h8 : (v_w.map eI)[v_t26.toNat]? = some (eI x7)) (.cons h5 (.cons h5 (.cons h5 (.cons ((h9).1) (.cons (lt_mapI (h9).2 : v_worst < ((v_list.map (eO 3 eTRatio_)).length : Nat)) (.cons h5 (.cons (map_get h11 : (v_list.map (eO 3 eTRatio_))[v_worst.toNat]? = some ((eO 3 eTRatio_) x10)) (.cons h5 (.cons h5 (.cons h5 (.cons ((h12).1) (.cons (lt_mapI (h12).2 : v_worst < ((v_w.map eI).length : Nat)) (.cons h5 (.cons (map_get h14 : (v_w.map eI)[v_worst.toNat]? = some (eI x13)) (.cons h5 (.cons (impl_isMore_ok x3 x7 x10 x13 r15 h16) (.cons (Sc.b _ : Sc (.b r15)) (.cons h5 (.cons h17 .nil))))))))))))))))))))))))))))))) (mkS_free _ _) : VEx PP 52 0 (nodeAt (bodyOf PP 29) [1, 1, 1, 1, 0, 1, 0, 0]) .normal (impl_WorstMember_L1_head v_w v_list v_t25 v_worst v_t26) (impl_WorstMember_L1_head v_w v_list v_t25 v_t26 (w64 (v_t26 + (1 : Int)))))))
        (fun h17 =>
        .ret ((okC_sound hmix (tape := [.reg [nt], .br true, .reg [nt, nt, (.el ((eO 3 eTRatio_) x3), true), nt, nt], .reg [nt, nt, nt, nt, nt, nt, nt, (.el (eI x7), true), nt, nt, nt, (.el ((eO 3 eTRatio_) x10), true), nt, nt, nt, (.el (eI x13), true), (.call { ac := [ii, ii, ii, ii], r := .b r15, sc := true }, true), (.br false, true)], .br false, .reg [nt, nt], .rst [] [] [(2, ii), (7, ii), (9, ii), (24, ii), (25, ii), (26, ii)]]) (nr := 0) (by kernel_rfl) (.cons h1 (.cons ((h2).1) (.cons (lt_mapI (h2).2 : v_t26 < ((v_list.map (eO 3 eTRatio_)).length : Nat)) (.cons (map_get h4 : (v_list.map (eO 3 eTRatio_))[v_t26.toNat]? = some ((eO 3 eTRatio_) x3)) (.cons h5 (.cons h5 (.cons h5 (.cons h5 (.cons ((h6).1) (.cons (lt_mapI (h6).2 : v_t26 < ((v_w.map eI).length : Nat)) (.cons h5 (.cons (map_get h8 : (v_w.map eI)[v_t26.toNat]? = some (eI x7)) (.cons h5 (.cons h5 (.cons h5 (.cons ((h9).1) (.cons (lt_mapI (h9).2 : v_worst < ((v_list.map (eO 3 eTRatio_)).length : Nat)) (.cons h5 (.cons (map_get h11 : (v_list.map (eO 3 eTRatio_))[v_worst.toNat]? = some ((eO 3 eTRatio_) x10)) (.cons h5 (.cons h5 (.cons h5 (.cons ((h12).1) (.cons (lt_mapI (h12).2 : v_worst < ((v_w.map eI).length : Nat)) (.cons h5 (.cons (map_get h14 : (v_w.map eI)[v_worst.toNat]? = some (eI x13)) (.cons h5 (.cons (impl_isMore_ok x3 x7 x10 x13 r15 h16) (.cons (Sc.b _ : Sc (.b r15)) (.cons h5 (.cons h17 .nil))))))))))))))))))))))))))))))) (mkS_free _ _) : VEx PP 52 0 (nodeAt (bodyOf PP 29) [1, 1, 1, 1, 0, 1, 0, 0]) .normal (impl_WorstMember_L1_head v_w v_list v_t25 v_worst v_t26) (impl_WorstMember_L1_head v_w v_list v_t25 v_worst (w64 (v_t26 + (1 : Int)))))))))
      (fun h1 =>
      .ret ((okC_sound hmix (tape := [.reg [nt], .br false, .rst [] [] [(9, ii)]]) (nr := 0) (by kernel_rfl) (.cons h1 .nil) (mkS_free _ _) : VEx PP 52 0 (nodeAt (bodyOf PP 29) [1, 1, 1, 1, 0, 1, 0, 0]) (.exit 0) (impl_WorstMember_L1_head v_w v_list v_t25 v_worst v_t26) (impl_WorstMember_L1_out v_w v_list v_t25 v_worst))))

theorem impl_WorstMember_L1_ok (v_w : (List Int)) (v_list : (List (Option TRatio_))) (v_t25 : Int) (v_worst : Int) (v_t26 : Int) : ∀ r, impl_WorstMember_L1 v_w v_list v_t25 v_worst v_t26 = some r → VLoop PP 52 0 (nodeAt (bodyOf PP 29) [1, 1, 1, 1, 0, 1, 0, 0]) (impl_WorstMember_L1_ex r) (impl_WorstMember_L1_head v_w v_list v_t25 v_worst v_t26) (impl_WorstMember_L1_out v_w v_list v_t25 r) := fun r h =>
  iter_ok (head := fun w : Int × Int => impl_WorstMember_L1_head v_w v_list v_t25 w.1 w.2) (ex := impl_WorstMember_L1_ex) (out := impl_WorstMember_L1_out v_w v_list v_t25) (by intro r; unfold impl_WorstMember_L1_ex; split <;> simp) (fun w => impl_WorstMember_L1_body_ok v_w v_list v_t25 w.1 w.2) (v_worst, v_t26) r h

def impl_WorstMember (v_s : TStructure) (v_q : (List TRat)) (v_w : (List Int)) : Option Int :=
  impl_forceSquares v_s v_q >>= fun r1 =>
  if r1.2 = true then
    impl_fitsLimits v_s v_w >>= fun r4 =>
    if r4 = true then
      impl_WorstMember_L1 v_w r1.1 (len_ (eO 3 eTRatio_) r1.1) (-1) 0 >>= fun r7 =>
      some r7
    else
      some (-1)
  else
    some (-1)

theorem impl_WorstMember_ok (v_s : TStructure) (v_q : (List TRat)) (v_w : (List Int)) : Wp (impl_WorstMember v_s v_q v_w) (fun r => Con PP 29 [.agg [.isl 4 (v_s.fJoints.map eTJoint), .isl 3 (v_s.fMembers.map eTMember)], .isl 3 (v_q.map eTRat), .isl 1 (v_w.map eI)] [] (.n .i64 r) []) := by
  unfold impl_WorstMember
  exact .bnd fun r1 h2 =>
    .ite (fun h3 =>
    .bnd fun r4 h5 =>
     .ite (fun h6 =>
     .bnd fun r7 h8 =>
      .ret (runF_con0 hmix (tape := [.reg [nt, nt], .frz 0, .reg [nt, (.call { ac := [.c1 (.ptr [.id, .id]), ii], rds := [0], r := .tup [.isl 1 (r1.1.map (eO 3 eTRatio_)), .b r1.2], sc := false }, true), nt, nt, nt, nt, nt], .reg [nt, nt, nt, nt, (.call { ac := [.c1 (.ptr [.id, .id]), ii], rds := [0], r := .b r4, sc := true }, true), nt, (.br false, true)], .br false, .reg [nt], .reg [nt, nt, nt], .rst [] [] [(2, ii), (7, ii), (9, ii), (24, ii), (25, ii), (26, ii)], .sub (.exit 0) [(9, .n .i64 r7)] [], .reg [nt, nt]]) (rr := ii) (by kernel_rfl) (.cons (pure_es1 (eTStructure_pure v_s) : PureEs [[.isl 4 (v_s.fJoints.map eTJoint), .isl 3 (v_s.fMembers.map eTMember)]]) (.cons (impl_forceSquares_ok v_s v_q r1 h2) (.cons (not_t h3) (.cons (not_t h3) (.cons (pure_es1 (eTStructure_pure v_s) : PureEs [[.isl 4 (v_s.fJoints.map eTJoint), .isl 3 (v_s.fMembers.map eTMember)]]) (.cons (impl_fitsLimits_ok v_s v_w r4 h5) (.cons (Sc.b _ : Sc (.b r4)) (.cons (not_t h3) (.cons (not_t h3) (.cons (not_t h6) (.cons ((impl_WorstMember_L1_ok v_w r1.1 (len_ (eO 3 eTRatio_) r1.1) (-1) 0 r7 h8).vex) .nil)))))))))))))
     (fun h6 =>
     .ret (runF_con0 hmix (tape := [.reg [nt, nt], .frz 0, .reg [nt, (.call { ac := [.c1 (.ptr [.id, .id]), ii], rds := [0], r := .tup [.isl 1 (r1.1.map (eO 3 eTRatio_)), .b r1.2], sc := false }, true), nt, nt, nt, nt, nt], .reg [nt, nt, nt, nt, (.call { ac := [.c1 (.ptr [.id, .id]), ii], rds := [0], r := .b r4, sc := true }, true), nt, (.br false, true)], .br true, .reg [nt]]) (rr := ii) (by kernel_rfl) (.cons (pure_es1 (eTStructure_pure v_s) : PureEs [[.isl 4 (v_s.fJoints.map eTJoint), .isl 3 (v_s.fMembers.map eTMember)]]) (.cons (impl_forceSquares_ok v_s v_q r1 h2) (.cons (not_t h3) (.cons (not_t h3) (.cons (pure_es1 (eTStructure_pure v_s) : PureEs [[.isl 4 (v_s.fJoints.map eTJoint), .isl 3 (v_s.fMembers.map eTMember)]]) (.cons (impl_fitsLimits_ok v_s v_w r4 h5) (.cons (Sc.b _ : Sc (.b r4)) (.cons (not_t h3) (.cons (not_t h3) (.cons (not_f h6) .nil)))))))))))))
    (fun h3 =>
    .ret (runF_con0 hmix (tape := [.reg [nt, nt], .frz 0, .reg [nt, (.call { ac := [.c1 (.ptr [.id, .id]), ii], rds := [0], r := .tup [.isl 1 (r1.1.map (eO 3 eTRatio_)), .b r1.2], sc := false }, true), nt, nt, nt, nt, nt], .reg [nt, nt, nt, nf, nf, nf, (.br true, true)], .br true, .reg [nt]]) (rr := ii) (by kernel_rfl) (.cons (pure_es1 (eTStructure_pure v_s) : PureEs [[.isl 4 (v_s.fJoints.map eTJoint), .isl 3 (v_s.fMembers.map eTMember)]]) (.cons (impl_forceSquares_ok v_s v_q r1 h2) (.cons (not_f h3) (.cons (not_f h3) (.cons (not_f h3) (.cons (not_f h3) (.cons (rfl : true = true) .nil)))))))))

def laws_FnExactWorstMember (v_aS : TStructure) (v_aQ : (List TRat)) (v_aW : (List Int)) : Option Bool :=
  if (decide ((1048576 : Int) < (len_ eI v_aW))) = true then
    some true
  else
    laws_szStructure v_aS 1048576 >>= fun r2 =>
    if (decide (r2 < (0 : Int))) = true then
      some true
    else
      laws_szRatS v_aQ r2 >>= fun r5 =>
      if (decide (r5 < (0 : Int))) = true then
        some true
      else
        laws_toStructure v_aS >>= fun r8 =>
        laws_toRatS v_aQ >>= fun r10 =>
        laws_toIntS v_aW >>= fun r12 =>
        spec_WorstMember r8 r10 r12 >>= fun r14 =>
        impl_WorstMember r8 r10 r12 >>= fun r16 =>
        if (r16 != r14) = true then
          some false
        else
          laws_eqStructure r8 r8 >>= fun r19 =>
          if r19 = true then
            laws_eqRatS r10 r10 >>= fun r22 =>
            if r22 = true then
              laws_eqIntS r12 r12 >>= fun r25 =>
              if r25 = true then
                some true
              else
                some false
            else
              some false
          else
            some false

theorem laws_FnExactWorstMember_ok (v_aS : TStructure) (v_aQ : (List TRat)) (v_aW : (List Int)) : Wp (laws_FnExactWorstMember v_aS v_aQ v_aW) (fun r => Con PP 4 [.agg [.isl 4 (v_aS.fJoints.map eTJoint), .isl 3 (v_aS.fMembers.map eTMember)], .isl 3 (v_aQ.map eTRat), .isl 1 (v_aW.map eI)] [] (.b r) []) := by
  unfold laws_FnExactWorstMember
  exact .ite (fun h1 =>
    .ret (runF_con0 hmix (tape := [.reg [nt, nt], .reg [nt, nt, nt], .br true, .reg [nt]]) (rr := ii) (by kernel_rfl) (.cons h1 .nil)))
    (fun h1 =>
    .bnd fun r2 h3 =>
     .ite (fun h4 =>
     .ret (runF_con0 hmix (tape := [.reg [nt, nt], .reg [nt, nt, nt], .br false, .reg [nt], .reg [nt, nt, (.call { ac := [ii, ii], r := .n .i64 r2, sc := true }, true), nt], .reg [nt, nt], .br true, .reg [nt]]) (rr := ii) (by kernel_rfl) (.cons h1 (.cons (laws_szStructure_ok v_aS 1048576 r2 h3) (.cons (Sc.n _ _ : Sc (.n .i64 r2)) (.cons h4 .nil))))))
     (fun h4 =>
     .bnd fun r5 h6 =>
      .ite (fun h7 =>
      .ret (runF_con0 hmix (tape := [.reg [nt, nt], .reg [nt, nt, nt], .br false, .reg [nt], .reg [nt, nt, (.call { ac := [ii, ii], r := .n .i64 r2, sc := true }, true), nt], .reg [nt, nt], .br false, .reg [nt, nt, (.call { ac := [ii, ii], r := .n .i64 r5, sc := true }, true), nt], .reg [nt, nt], .br true, .reg [nt]]) (rr := ii) (by kernel_rfl) (.cons h1 (.cons (laws_szStructure_ok v_aS 1048576 r2 h3) (.cons (Sc.n _ _ : Sc (.n .i64 r2)) (.cons h4 (.cons (laws_szRatS_ok v_aQ r2 r5 h6) (.cons (Sc.n _ _ : Sc (.n .i64 r5)) (.cons h7 .nil)))))))))
      (fun h7 =>
      .bnd fun r8 h9 =>
       .bnd fun r10 h11 =>
       .bnd fun r12 h13 =>
       .bnd fun r14 h15 =>
       .bnd fun r16 h17 =>
       .ite (fun h18 =>
       .ret (runF_con0 hmix (tape := [.reg [nt, nt], .reg [nt, nt, nt], .br false, .reg [nt], .reg [nt, nt, (.call { ac := [ii, ii], r := .n .i64 r2, sc := true }, true), nt], .reg [nt, nt], .br false, .reg [nt, nt, (.call { ac := [ii, ii], r := .n .i64 r5, sc := true }, true), nt], .reg [nt, nt], .br false, .reg [nt, (.call { ac := [ii], r := .agg [.isl 4 (r8.fJoints.map eTJoint), .isl 3 (r8.fMembers.map eTMember)], sc := false }, true), nt, (.call { ac := [ii], r := .isl 3 (r10.map eTRat), sc := false }, true), nt, (.call { ac := [ii], r := .isl 1 (r12.map eI), sc := false }, true), (.call { ac := [ii, ii, ii], r := .n .i64 r14, sc := true }, true), nt], .reg [nt, (.call { ac := [ii], r := .agg [.isl 4 (r8.fJoints.map eTJoint), .isl 3 (r8.fMembers.map eTMember)], sc := false }, true), nt, nt], .reg [nt, (.call { ac := [ii], r := .isl 3 (r10.map eTRat), sc := false }, true), nt], .reg [nt, (.call { ac := [ii], r := .isl 1 (r12.map eI), sc := false }, true), nt], .reg [nt, nt, nt, (.call { ac := [ii, ii, ii], r := .n .i64 r16, sc := true }, true), nt], .reg [nt, nt, nt], .br true, .reg [nt]]) (rr := ii) (by kernel_rfl) (.cons h1 (.cons (laws_szStructure_ok v_aS 1048576 r2 h3) (.cons (Sc.n _ _ : Sc (.n .i64 r2)) (.cons h4 (.cons (laws_szRatS_ok v_aQ r2 r5 h6) (.cons (Sc.n _ _ : Sc (.n .i64 r5)) (.cons h7 (.cons (laws_toStructure_ok v_aS r8 h9) (.cons (laws_toRatS_ok v_aQ r10 h11) (.cons (laws_toIntS_ok v_aW r12 h13) (.cons (spec_WorstMember_ok r8 r10 r12 r14 h15) (.cons (Sc.n _ _ : Sc (.n .i64 r14)) (.cons (laws_toStructure_ok v_aS r8 h9) (.cons (laws_toRatS_ok v_aQ r10 h11) (.cons (laws_toIntS_ok v_aW r12 h13) (.cons (impl_WorstMember_ok r8 r10 r12 r16 h17) (.cons (Sc.n _ _ : Sc (.n .i64 r16)) (.cons h18 .nil))))))))))))))))))))
       (fun h18 =>
       .bnd fun r19 h20 =>
        .ite (fun h21 =>
        .bnd fun r22 h23 =>
         .ite (fun h24 =>
         .bnd fun r25 h26 =>
          .ite (fun h27 =>
          .ret (runF_con0 hmix (tape := [.reg [nt, nt], .reg [nt, nt, nt], .br false, .reg [nt], .reg [nt, nt, (.call { ac := [ii, ii], r := .n .i64 r2, sc := true }, true), nt], .reg [nt, nt], .br false, .reg [nt, nt, (.call { ac := [ii, ii], r := .n .i64 r5, sc := true }, true), nt], .reg [nt, nt], .br false, .reg [nt, (.call { ac := [ii], r := .agg [.isl 4 (r8.fJoints.map eTJoint), .isl 3 (r8.fMembers.map eTMember)], sc := false }, true), nt, (.call { ac := [ii], r := .isl 3 (r10.map eTRat), sc := false }, true), nt, (.call { ac := [ii], r := .isl 1 (r12.map eI), sc := false }, true), (.call { ac := [ii, ii, ii], r := .n .i64 r14, sc := true }, true), nt], .reg [nt, (.call { ac := [ii], r := .agg [.isl 4 (r8.fJoints.map eTJoint), .isl 3 (r8.fMembers.map eTMember)], sc := false }, true), nt, nt], .reg [nt, (.call { ac := [ii], r := .isl 3 (r10.map eTRat), sc := false }, true), nt], .reg [nt, (.call { ac := [ii], r := .isl 1 (r12.map eI), sc := false }, true), nt], .reg [nt, nt, nt, (.call { ac := [ii, ii, ii], r := .n .i64 r16, sc := true }, true), nt], .reg [nt, nt, nt], .br false, .reg [nt, nt, (.call { ac := [ii], r := .agg [.isl 4 (r8.fJoints.map eTJoint), .isl 3 (r8.fMembers.map eTMember)], sc := false }, true), (.call { ac := [ii, ii], r := .b r19, sc := true }, true), nt], .br false, .reg [nt, nt, (.call { ac := [ii], r := .isl 3 (r10.map eTRat), sc := false }, true), (.call { ac := [ii, ii], r := .b r22, sc := true }, true), nt], .br false, .reg [nt, nt, (.call { ac := [ii], r := .isl 1 (r12.map eI), sc := false }, true), (.call { ac := [ii, ii], r := .b r25, sc := true }, true), nt], .br false, .reg [nt]]) (rr := ii) (by kernel_rfl) (.cons h1 (.cons (laws_szStructure_ok v_aS 1048576 r2 h3) (.cons (Sc.n _ _ : Sc (.n .i64 r2)) (.cons h4 (.cons (laws_szRatS_ok v_aQ r2 r5 h6) (.cons (Sc.n _ _ : Sc (.n .i64 r5)) (.cons h7 (.cons (laws_toStructure_ok v_aS r8 h9) (.cons (laws_toRatS_ok v_aQ r10 h11) (.cons (laws_toIntS_ok v_aW r12 h13) (.cons (spec_WorstMember_ok r8 r10 r12 r14 h15) (.cons (Sc.n _ _ : Sc (.n .i64 r14)) (.cons (laws_toStructure_ok v_aS r8 h9) (.cons (laws_toRatS_ok v_aQ r10 h11) (.cons (laws_toIntS_ok v_aW r12 h13) (.cons (impl_WorstMember_ok r8 r10 r12 r16 h17) (.cons (Sc.n _ _ : Sc (.n .i64 r16)) (.cons h18 (.cons (laws_toStructure_ok v_aS r8 h9) (.cons (laws_eqStructure_ok r8 r8 r19 h20) (.cons (Sc.b _ : Sc (.b r19)) (.cons (not_t h21) (.cons (laws_toRatS_ok v_aQ r10 h11) (.cons (laws_eqRatS_ok r10 r10 r22 h23) (.cons (Sc.b _ : Sc (.b r22)) (.cons (not_t h24) (.cons (laws_toIntS_ok v_aW r12 h13) (.cons (laws_eqIntS_ok r12 r12 r25 h26) (.cons (Sc.b _ : Sc (.b r25)) (.cons (not_t h27) .nil))))))))))))))))))))))))))))))))
          (fun h27 =>
          .ret (runF_con0 hmix (tape := [.reg [nt, nt], .reg [nt, nt, nt], .br false, .reg [nt], .reg [nt, nt, (.call { ac := [ii, ii], r := .n .i64 r2, sc := true }, true), nt], .reg [nt, nt], .br false, .reg [nt, nt, (.call { ac := [ii, ii], r := .n .i64 r5, sc := true }, true), nt], .reg [nt, nt], .br false, .reg [nt, (.call { ac := [ii], r := .agg [.isl 4 (r8.fJoints.map eTJoint), .isl 3 (r8.fMembers.map eTMember)], sc := false }, true), nt, (.call { ac := [ii], r := .isl 3 (r10.map eTRat), sc := false }, true), nt, (.call { ac := [ii], r := .isl 1 (r12.map eI), sc := false }, true), (.call { ac := [ii, ii, ii], r := .n .i64 r14, sc := true }, true), nt], .reg [nt, (.call { ac := [ii], r := .agg [.isl 4 (r8.fJoints.map eTJoint), .isl 3 (r8.fMembers.map eTMember)], sc := false }, true), nt, nt], .reg [nt, (.call { ac := [ii], r := .isl 3 (r10.map eTRat), sc := false }, true), nt], .reg [nt, (.call { ac := [ii], r := .isl 1 (r12.map eI), sc := false }, true), nt], .reg [nt, nt, nt, (.call { ac := [ii, ii, ii], r := .n .i64 r16, sc := true }, true), nt], .reg [nt, nt, nt], .br false, .reg [nt, nt, (.call { ac := [ii], r := .agg [.isl 4 (r8.fJoints.map eTJoint), .isl 3 (r8.fMembers.map eTMember)], sc := false }, true), (.call { ac := [ii, ii], r := .b r19, sc := true }, true), nt], .br false, .reg [nt, nt, (.call { ac := [ii], r := .isl 3 (r10.map eTRat), sc := false }, true), (.call { ac := [ii, ii], r := .b r22, sc := true }, true), nt], .br false, .reg [nt, nt, (.call { ac := [ii], r := .isl 1 (r12.map eI), sc := false }, true), (.call { ac := [ii, ii], r := .b r25, sc := true }, true), nt], .br true, .reg [nt]]) (rr := ii) (by kernel_rfl) (.cons h1 (.cons (laws_szStructure_ok v_aS 1048576 r2 h3) (.cons (Sc.n _ _ : Sc (.n .i64 r2)) (.cons h4 (.cons (laws_szRatS_ok v_aQ r2 r5 h6) (.cons (Sc.n _ _ : Sc (.n .i64 r5)) (.cons h7 (.cons (laws_toStructure_ok v_aS r8 h9) (.cons (laws_toRatS_ok v_aQ r10 h11) (.cons (laws_toIntS_ok v_aW r12 h13) (.cons (spec_WorstMember_ok r8 r10 r12 r14 h15) (.cons (Sc.n _ _ : Sc (.n .i64 r14)) (.cons (laws_toStructure_ok v_aS r8 h9) (.cons (laws_toRatS_ok v_aQ r10 h11) (.cons (laws_toIntS_ok v_aW r12 h13) (.cons (impl_WorstMember_ok r8 r10 r12 r16 h17) (.cons (Sc.n _ _ : Sc (.n .i64 r16)) (.cons h18 (.cons (laws_toStructure_ok v_aS r8 h9) (.cons (laws_eqStructure_ok r8 r8 r19 h20) (.cons (Sc.b _ : Sc (.b r19)) (.cons (not_t h21) (.cons (laws_toRatS_ok v_aQ r10 h11) (.cons (laws_eqRatS_ok r10 r10 r22 h23) (.cons (Sc.b _ : Sc (.b r22)) (.cons (not_t h24) (.cons (laws_toIntS_ok v_aW r12 h13) (.cons (laws_eqIntS_ok r12 r12 r25 h26) (.cons (Sc.b _ : Sc (.b r25)) (.cons (not_f h27) .nil)))))))))))))))))))))))))))))))))
         (fun h24 =>
         .ret (runF_con0 hmix (tape := [.reg [nt, nt], .reg [nt, nt, nt], .br false, .reg [nt], .reg [nt, nt, (.call { ac := [ii, ii], r := .n .i64 r2, sc := true }, true), nt], .reg [nt, nt], .br false, .reg [nt, nt, (.call { ac := [ii, ii], r := .n .i64 r5, sc := true }, true), nt], .reg [nt, nt], .br false, .reg [nt, (.call { ac := [ii], r := .agg [.isl 4 (r8.fJoints.map eTJoint), .isl 3 (r8.fMembers.map eTMember)], sc := false }, true), nt, (.call { ac := [ii], r := .isl 3 (r10.map eTRat), sc := false }, true), nt, (.call { ac := [ii], r := .isl 1 (r12.map eI), sc := false }, true), (.call { ac := [ii, ii, ii], r := .n .i64 r14, sc := true }, true), nt], .reg [nt, (.call { ac := [ii], r := .agg [.isl 4 (r8.fJoints.map eTJoint), .isl 3 (r8.fMembers.map eTMember)], sc := false }, true), nt, nt], .reg [nt, (.call { ac := [ii], r := .isl 3 (r10.map eTRat), sc := false }, true), nt], .reg [nt, (.call { ac := [ii], r := .isl 1 (r12.map eI), sc := false }, true), nt], .reg [nt, nt, nt, (.call { ac := [ii, ii, ii], r := .n .i64 r16, sc := true }, true), nt], .reg [nt, nt, nt], .br false, .reg [nt, nt, (.call { ac := [ii], r := .agg [.isl 4 (r8.fJoints.map eTJoint), .isl 3 (r8.fMembers.map eTMember)], sc := false }, true), (.call { ac := [ii, ii], r := .b r19, sc := true }, true), nt], .br false, .reg [nt, nt, (.call { ac := [ii], r := .isl 3 (r10.map eTRat), sc := false }, true), (.call { ac := [ii, ii], r := .b r22, sc := true }, true), nt], .br true, .reg [nt]]) (rr := ii) (by kernel_rfl) (.cons h1 (.cons (laws_szStructure_ok v_aS 1048576 r2 h3) (.cons (Sc.n _ _ : Sc (.n .i64 r2)) (.cons h4 (.cons (laws_szRatS_ok v_aQ r2 r5 h6) (.cons (Sc.n _ _ : Sc (.n .i64 r5)) (.cons h7 (.cons (laws_toStructure_ok v_aS r8 h9) (.cons (laws_toRatS_ok v_aQ r10 h11) (.cons (laws_toIntS_ok v_aW r12 h13) (.cons (spec_WorstMember_ok r8 r10 r12 r14 h15) (.cons (Sc.n _ _ : Sc (.n .i64 r14)) (.cons (laws_toStructure_ok v_aS r8 h9) (.cons (laws_toRatS_ok v_aQ r10 h11) (.cons (laws_toIntS_ok v_aW r12 h13) (.cons (impl_WorstMember_ok r8 r10 r12 r16 h17) (.cons (Sc.n _ _ : Sc (.n .i64 r16)) (.cons h18 (.cons (laws_toStructure_ok v_aS r8 h9) (.cons (laws_eqStructure_ok r8 r8 r19 h20) (.cons (Sc.b _ : Sc (.b r19)) (.cons (not_t h21) (.cons (laws_toRatS_ok v_aQ r10 h11) (.cons (laws_eqRatS_ok r10 r10 r22 h23) (.cons (Sc.b _ : Sc (.b r22)) (.cons (not_f h24) .nil)))))))))))))))))))))))))))))
        (fun h21 =>
        .ret (runF_con0 hmix (tape := [.reg [nt, nt], .reg [nt, nt, nt], .br false, .reg [nt], .reg [nt, nt, (.call { ac := [ii, ii], r := .n .i64 r2, sc := true }, true), nt], .reg [nt, nt], .br false, .reg [nt, nt, (.call { ac := [ii, ii], r := .n .i64 r5, sc := true }, true), nt], .reg [nt, nt], .br false, .reg [nt, (.call { ac := [ii], r := .agg [.isl 4 (r8.fJoints.map eTJoint), .isl 3 (r8.fMembers.map eTMember)], sc := false }, true), nt, (.call { ac := [ii], r := .isl 3 (r10.map eTRat), sc := false }, true), nt, (.call { ac := [ii], r := .isl 1 (r12.map eI), sc := false }, true), (.call { ac := [ii, ii, ii], r := .n .i64 r14, sc := true }, true), nt], .reg [nt, (.call { ac := [ii], r := .agg [.isl 4 (r8.fJoints.map eTJoint), .isl 3 (r8.fMembers.map eTMember)], sc := false }, true), nt, nt], .reg [nt, (.call { ac := [ii], r := .isl 3 (r10.map eTRat), sc := false }, true), nt], .reg [nt, (.call { ac := [ii], r := .isl 1 (r12.map eI), sc := false }, true), nt], .reg [nt, nt, nt, (.call { ac := [ii, ii, ii], r := .n .i64 r16, sc := true }, true), nt], .reg [nt, nt, nt], .br false, .reg [nt, nt, (.call { ac := [ii], r := .agg [.isl 4 (r8.fJoints.map eTJoint), .isl 3 (r8.fMembers.map eTMember)], sc := false }, true), (.call { ac := [ii, ii], r := .b r19, sc := true }, true), nt], .br true, .reg [nt]]) (rr := ii) (by kernel_rfl) (.cons h1 (.cons (laws_szStructure_ok v_aS 1048576 r2 h3) (.cons (Sc.n _ _ : Sc (.n .i64 r2)) (.cons h4 (.cons (laws_szRatS_ok v_aQ r2 r5 h6) (.cons (Sc.n _ _ : Sc (.n .i64 r5)) (.cons h7 (.cons (laws_toStructure_ok v_aS r8 h9) (.cons (laws_toRatS_ok v_aQ r10 h11) (.cons (laws_toIntS_ok v_aW r12 h13) (.cons (spec_WorstMember_ok r8 r10 r12 r14 h15) (.cons (Sc.n _ _ : Sc (.n .i64 r14)) (.cons (laws_toStructure_ok v_aS r8 h9) (.cons (laws_toRatS_ok v_aQ r10 h11) (.cons (laws_toIntS_ok v_aW r12 h13) (.cons (impl_WorstMember_ok r8 r10 r12 r16 h17) (.cons (Sc.n _ _ : Sc (.n .i64 r16)) (.cons h18 (.cons (laws_toStructure_ok v_aS r8 h9) (.cons (laws_eqStructure_ok r8 r8 r19 h20) (.cons (Sc.b _ : Sc (.b r19)) (.cons (not_f h21) .nil))))))))))))))))))))))))))))

end Go.Proofs.YtfhmbogcjcgchaaGreat
