/- Plain functions for the program's functions, and that calls come to them: printed by a program. No condition. -/
import Derived.Test.YtjgnmimfihhphaaV0
namespace Go.Proofs.Ytjgnmimfihhphaa
open Go Go.VL

def spec_l01In (v_n : Int) (v_lo : Int) (v_hi : Int) : Option Bool :=
  if (decide (v_lo ≤ v_n)) = true then
    some (decide (v_n ≤ v_hi))
  else
    some false

theorem spec_l01In_ok (v_n : Int) (v_lo : Int) (v_hi : Int) : Wp (spec_l01In v_n v_lo v_hi) (fun r => Con PP 56 [.n .i64 v_n, .n .i64 v_lo, .n .i64 v_hi] [] (.b r) []) := by
  unfold spec_l01In
  exact .ite (fun h1 =>
    .ret (runF_con0 hmix (tape := [.reg [nt], .reg [nt, nt, nt, nt, nt, nt, nt, (.br true, true), nt]]) (rr := ii) (by kernel_rfl) (.cons h1 (.cons h1 (.cons h1 (.cons h1 .nil))))))
    (fun h1 =>
    .ret (runF_con0 hmix (tape := [.reg [nt], .reg [nt, nt, nt, nt, nf, nf, nf, (.br false, true), nt]]) (rr := ii) (by kernel_rfl) (.cons h1 (.cons h1 (.cons h1 (.cons h1 .nil))))))

def spec_IsSteep (v_half : Int) (v_height : Int) (v_num : Int) (v_den : Int) : Option Bool :=
  spec_l01In v_half 0 1000 >>= fun r1 =>
  if r1 = true then
    spec_l01In v_height 1 1000 >>= fun r4 =>
    if r4 = true then
      spec_l01In v_num 0 1000 >>= fun r7 =>
      if r7 = true then
        spec_l01In v_den 1 1000 >>= fun r10 =>
        if r10 = true then
          some (decide ((w64 (v_half * v_den)) ≤ (w64 (v_num * v_height))))
        else
          some false
      else
        some false
    else
      some false
  else
    some false

theorem spec_IsSteep_ok (v_half : Int) (v_height : Int) (v_num : Int) (v_den : Int) : Wp (spec_IsSteep v_half v_height v_num v_den) (fun r => Con PP 13 [.n .i64 v_half, .n .i64 v_height, .n .i64 v_num, .n .i64 v_den] [] (.b r) []) := by
  unfold spec_IsSteep
  exact .bnd fun r1 h2 =>
    .ite (fun h3 =>
    .bnd fun r4 h5 =>
     .ite (fun h6 =>
     .bnd fun r7 h8 =>
      .ite (fun h9 =>
      .bnd fun r10 h11 =>
       .ite (fun h12 =>
       .ret (runF_con0 hmix (tape := [.reg [nt], .reg [nt, (.call { ac := [ii, ii, ii], r := .b r1, sc := true }, true), nt, nt, (.call { ac := [ii, ii, ii], r := .b r4, sc := true }, true), (.br true, true), nt, nt, (.call { ac := [ii, ii, ii], r := .b r7, sc := true }, true), (.br true, true), nt, nt, (.call { ac := [ii, ii, ii], r := .b r10, sc := true }, true), (.br true, true), nt, nt, nt, nt, nt, nt, nt, nt, (.br true, true), nt]]) (rr := ii) (by kernel_rfl) (.cons (spec_l01In_ok v_half 0 1000 r1 h2) (.cons (Sc.b _ : Sc (.b r1)) (.cons h3 (.cons h3 (.cons (spec_l01In_ok v_height 1 1000 r4 h5) (.cons (Sc.b _ : Sc (.b r4)) (.cons h3 (.cons h6 (.cons h6 (.cons (spec_l01In_ok v_num 0 1000 r7 h8) (.cons (Sc.b _ : Sc (.b r7)) (.cons h6 (.cons h9 (.cons h9 (.cons (spec_l01In_ok v_den 1 1000 r10 h11) (.cons (Sc.b _ : Sc (.b r10)) (.cons h9 (.cons h12 (.cons h12 (.cons h12 (.cons h12 (.cons h12 (.cons h12 (.cons h12 (.cons h12 .nil)))))))))))))))))))))))))))
       (fun h12 =>
       .ret (runF_con0 hmix (tape := [.reg [nt], .reg [nt, (.call { ac := [ii, ii, ii], r := .b r1, sc := true }, true), nt, nt, (.call { ac := [ii, ii, ii], r := .b r4, sc := true }, true), (.br true, true), nt, nt, (.call { ac := [ii, ii, ii], r := .b r7, sc := true }, true), (.br true, true), nt, nt, (.call { ac := [ii, ii, ii], r := .b r10, sc := true }, true), (.br true, true), nt, nf, nf, nf, nf, nf, nf, nf, (.br false, true), nt]]) (rr := ii) (by kernel_rfl) (.cons (spec_l01In_ok v_half 0 1000 r1 h2) (.cons (Sc.b _ : Sc (.b r1)) (.cons h3 (.cons h3 (.cons (spec_l01In_ok v_height 1 1000 r4 h5) (.cons (Sc.b _ : Sc (.b r4)) (.cons h3 (.cons h6 (.cons h6 (.cons (spec_l01In_ok v_num 0 1000 r7 h8) (.cons (Sc.b _ : Sc (.b r7)) (.cons h6 (.cons h9 (.cons h9 (.cons (spec_l01In_ok v_den 1 1000 r10 h11) (.cons (Sc.b _ : Sc (.b r10)) (.cons h9 (.cons h12 (.cons h12 (.cons h12 (.cons h12 (.cons h12 (.cons h12 (.cons h12 (.cons h12 .nil))))))))))))))))))))))))))))
      (fun h9 =>
      .ret (runF_con0 hmix (tape := [.reg [nt], .reg [nt, (.call { ac := [ii, ii, ii], r := .b r1, sc := true }, true), nt, nt, (.call { ac := [ii, ii, ii], r := .b r4, sc := true }, true), (.br true, true), nt, nt, (.call { ac := [ii, ii, ii], r := .b r7, sc := true }, true), (.br true, true), nt, nf, nf, (.br false, true), nt, nf, nf, nf, nf, nf, nf, nf, nt, nt]]) (rr := ii) (by kernel_rfl) (.cons (spec_l01In_ok v_half 0 1000 r1 h2) (.cons (Sc.b _ : Sc (.b r1)) (.cons h3 (.cons h3 (.cons (spec_l01In_ok v_height 1 1000 r4 h5) (.cons (Sc.b _ : Sc (.b r4)) (.cons h3 (.cons h6 (.cons h6 (.cons (spec_l01In_ok v_num 0 1000 r7 h8) (.cons (Sc.b _ : Sc (.b r7)) (.cons h6 (.cons h9 (.cons h9 (.cons h9 (.cons (rfl : false = false) (.cons (rfl : false = false) (.cons (rfl : false = false) (.cons (rfl : false = false) (.cons (rfl : false = false) (.cons (rfl : false = false) (.cons (rfl : false = false) .nil)))))))))))))))))))))))))
     (fun h6 =>
     .ret (runF_con0 hmix (tape := [.reg [nt], .reg [nt, (.call { ac := [ii, ii, ii], r := .b r1, sc := true }, true), nt, nt, (.call { ac := [ii, ii, ii], r := .b r4, sc := true }, true), (.br true, true), nt, nf, nf, (.br false, true), nt, nf, nf, nt, nt, nf, nf, nf, nf, nf, nf, nf, nt, nt]]) (rr := ii) (by kernel_rfl) (.cons (spec_l01In_ok v_half 0 1000 r1 h2) (.cons (Sc.b _ : Sc (.b r1)) (.cons h3 (.cons h3 (.cons (spec_l01In_ok v_height 1 1000 r4 h5) (.cons (Sc.b _ : Sc (.b r4)) (.cons h3 (.cons h6 (.cons h6 (.cons h6 (.cons (rfl : false = false) (.cons (rfl : false = false) (.cons (rfl : false = false) (.cons (rfl : false = false) (.cons (rfl : false = false) (.cons (rfl : false = false) (.cons (rfl : false = false) (.cons (rfl : false = false) (.cons (rfl : false = false) .nil))))))))))))))))))))))
    (fun h3 =>
    .ret (runF_con0 hmix (tape := [.reg [nt], .reg [nt, (.call { ac := [ii, ii, ii], r := .b r1, sc := true }, true), nt, nf, nf, (.br false, true), nt, nf, nf, nt, nt, nf, nf, nt, nt, nf, nf, nf, nf, nf, nf, nf, nt, nt]]) (rr := ii) (by kernel_rfl) (.cons (spec_l01In_ok v_half 0 1000 r1 h2) (.cons (Sc.b _ : Sc (.b r1)) (.cons h3 (.cons h3 (.cons h3 (.cons (rfl : false = false) (.cons (rfl : false = false) (.cons (rfl : false = false) (.cons (rfl : false = false) (.cons (rfl : false = false) (.cons (rfl : false = false) (.cons (rfl : false = false) (.cons (rfl : false = false) (.cons (rfl : false = false) (.cons (rfl : false = false) (.cons (rfl : false = false) .nil))))))))))))))))))

def impl_isWidth (v_n : Int) : Option Bool :=
  if (decide ((0 : Int) ≤ v_n)) = true then
    some (decide (v_n ≤ (1000 : Int)))
  else
    some false

theorem impl_isWidth_ok (v_n : Int) : Wp (impl_isWidth v_n) (fun r => Con PP 57 [.n .i64 v_n] [] (.b r) []) := by
  unfold impl_isWidth
  exact .ite (fun h1 =>
    .ret (runF_con0 hmix (tape := [.reg [nt], .reg [nt, nt, nt, nt, nt, (.br true, true), nt]]) (rr := ii) (by kernel_rfl) (.cons h1 (.cons h1 (.cons h1 .nil)))))
    (fun h1 =>
    .ret (runF_con0 hmix (tape := [.reg [nt], .reg [nt, nt, nt, nf, nf, (.br false, true), nt]]) (rr := ii) (by kernel_rfl) (.cons h1 (.cons h1 (.cons h1 .nil)))))

def impl_isHeight (v_n : Int) : Option Bool :=
  if (decide ((1 : Int) ≤ v_n)) = true then
    some (decide (v_n ≤ (1000 : Int)))
  else
    some false

theorem impl_isHeight_ok (v_n : Int) : Wp (impl_isHeight v_n) (fun r => Con PP 58 [.n .i64 v_n] [] (.b r) []) := by
  unfold impl_isHeight
  exact .ite (fun h1 =>
    .ret (runF_con0 hmix (tape := [.reg [nt], .reg [nt, nt, nt, nt, nt, (.br true, true), nt]]) (rr := ii) (by kernel_rfl) (.cons h1 (.cons h1 (.cons h1 .nil)))))
    (fun h1 =>
    .ret (runF_con0 hmix (tape := [.reg [nt], .reg [nt, nt, nt, nf, nf, (.br false, true), nt]]) (rr := ii) (by kernel_rfl) (.cons h1 (.cons h1 (.cons h1 .nil)))))

def impl_IsSteep (v_half : Int) (v_height : Int) (v_num : Int) (v_den : Int) : Option Bool :=
  impl_isWidth v_half >>= fun r1 =>
  if r1 = true then
    impl_isHeight v_height >>= fun r4 =>
    if r4 = true then
      impl_isWidth v_num >>= fun r7 =>
      if r7 = true then
        impl_isHeight v_den >>= fun r10 =>
        if r10 = true then
          some (decide ((w64 (v_half * v_den)) ≤ (w64 (v_num * v_height))))
        else
          some false
      else
        some false
    else
      some false
  else
    some false

theorem impl_IsSteep_ok (v_half : Int) (v_height : Int) (v_num : Int) (v_den : Int) : Wp (impl_IsSteep v_half v_height v_num v_den) (fun r => Con PP 14 [.n .i64 v_half, .n .i64 v_height, .n .i64 v_num, .n .i64 v_den] [] (.b r) []) := by
  unfold impl_IsSteep
  exact .bnd fun r1 h2 =>
    .ite (fun h3 =>
    .bnd fun r4 h5 =>
     .ite (fun h6 =>
     .bnd fun r7 h8 =>
      .ite (fun h9 =>
      .bnd fun r10 h11 =>
       .ite (fun h12 =>
       .ret (runF_con0 hmix (tape := [.reg [nt], .reg [nt, (.call { ac := [ii], r := .b r1, sc := true }, true), nt, nt, (.call { ac := [ii], r := .b r4, sc := true }, true), (.br true, true), nt, nt, (.call { ac := [ii], r := .b r7, sc := true }, true), (.br true, true), nt, nt, (.call { ac := [ii], r := .b r10, sc := true }, true), (.br true, true), nt, nt, nt, nt, nt, nt, nt, nt, (.br true, true), nt]]) (rr := ii) (by kernel_rfl) (.cons (impl_isWidth_ok v_half r1 h2) (.cons (Sc.b _ : Sc (.b r1)) (.cons h3 (.cons h3 (.cons (impl_isHeight_ok v_height r4 h5) (.cons (Sc.b _ : Sc (.b r4)) (.cons h3 (.cons h6 (.cons h6 (.cons (impl_isWidth_ok v_num r7 h8) (.cons (Sc.b _ : Sc (.b r7)) (.cons h6 (.cons h9 (.cons h9 (.cons (impl_isHeight_ok v_den r10 h11) (.cons (Sc.b _ : Sc (.b r10)) (.cons h9 (.cons h12 (.cons h12 (.cons h12 (.cons h12 (.cons h12 (.cons h12 (.cons h12 (.cons h12 .nil)))))))))))))))))))))))))))
       (fun h12 =>
       .ret (runF_con0 hmix (tape := [.reg [nt], .reg [nt, (.call { ac := [ii], r := .b r1, sc := true }, true), nt, nt, (.call { ac := [ii], r := .b r4, sc := true }, true), (.br true, true), nt, nt, (.call { ac := [ii], r := .b r7, sc := true }, true), (.br true, true), nt, nt, (.call { ac := [ii], r := .b r10, sc := true }, true), (.br true, true), nt, nf, nf, nf, nf, nf, nf, nf, (.br false, true), nt]]) (rr := ii) (by kernel_rfl) (.cons (impl_isWidth_ok v_half r1 h2) (.cons (Sc.b _ : Sc (.b r1)) (.cons h3 (.cons h3 (.cons (impl_isHeight_ok v_height r4 h5) (.cons (Sc.b _ : Sc (.b r4)) (.cons h3 (.cons h6 (.cons h6 (.cons (impl_isWidth_ok v_num r7 h8) (.cons (Sc.b _ : Sc (.b r7)) (.cons h6 (.cons h9 (.cons h9 (.cons (impl_isHeight_ok v_den r10 h11) (.cons (Sc.b _ : Sc (.b r10)) (.cons h9 (.cons h12 (.cons h12 (.cons h12 (.cons h12 (.cons h12 (.cons h12 (.cons h12 (.cons h12 .nil))))))))))))))))))))))))))))
      (fun h9 =>
      .ret (runF_con0 hmix (tape := [.reg [nt], .reg [nt, (.call { ac := [ii], r := .b r1, sc := true }, true), nt, nt, (.call { ac := [ii], r := .b r4, sc := true }, true), (.br true, true), nt, nt, (.call { ac := [ii], r := .b r7, sc := true }, true), (.br true, true), nt, nf, nf, (.br false, true), nt, nf, nf, nf, nf, nf, nf, nf, nt, nt]]) (rr := ii) (by kernel_rfl) (.cons (impl_isWidth_ok v_half r1 h2) (.cons (Sc.b _ : Sc (.b r1)) (.cons h3 (.cons h3 (.cons (impl_isHeight_ok v_height r4 h5) (.cons (Sc.b _ : Sc (.b r4)) (.cons h3 (.cons h6 (.cons h6 (.cons (impl_isWidth_ok v_num r7 h8) (.cons (Sc.b _ : Sc (.b r7)) (.cons h6 (.cons h9 (.cons h9 (.cons h9 (.cons (rfl : false = false) (.cons (rfl : false = false) (.cons (rfl : false = false) (.cons (rfl : false = false) (.cons (rfl : false = false) (.cons (rfl : false = false) (.cons (rfl : false = false) .nil)))))))))))))))))))))))))
     (fun h6 =>
     .ret (runF_con0 hmix (tape := [.reg [nt], .reg [nt, (.call { ac := [ii], r := .b r1, sc := true }, true), nt, nt, (.call { ac := [ii], r := .b r4, sc := true }, true), (.br true, true), nt, nf, nf, (.br false, true), nt, nf, nf, nt, nt, nf, nf, nf, nf, nf, nf, nf, nt, nt]]) (rr := ii) (by kernel_rfl) (.cons (impl_isWidth_ok v_half r1 h2) (.cons (Sc.b _ : Sc (.b r1)) (.cons h3 (.cons h3 (.cons (impl_isHeight_ok v_height r4 h5) (.cons (Sc.b _ : Sc (.b r4)) (.cons h3 (.cons h6 (.cons h6 (.cons h6 (.cons (rfl : false = false) (.cons (rfl : false = false) (.cons (rfl : false = false) (.cons (rfl : false = false) (.cons (rfl : false = false) (.cons (rfl : false = false) (.cons (rfl : false = false) (.cons (rfl : false = false) (.cons (rfl : false = false) .nil))))))))))))))))))))))
    (fun h3 =>
    .ret (runF_con0 hmix (tape := [.reg [nt], .reg [nt, (.call { ac := [ii], r := .b r1, sc := true }, true), nt, nf, nf, (.br false, true), nt, nf, nf, nt, nt, nf, nf, nt, nt, nf, nf, nf, nf, nf, nf, nf, nt, nt]]) (rr := ii) (by kernel_rfl) (.cons (impl_isWidth_ok v_half r1 h2) (.cons (Sc.b _ : Sc (.b r1)) (.cons h3 (.cons h3 (.cons h3 (.cons (rfl : false = false) (.cons (rfl : false = false) (.cons (rfl : false = false) (.cons (rfl : false = false) (.cons (rfl : false = false) (.cons (rfl : false = false) (.cons (rfl : false = false) (.cons (rfl : false = false) (.cons (rfl : false = false) (.cons (rfl : false = false) (.cons (rfl : false = false) .nil))))))))))))))))))

def laws_FnExactIsSteep (v_aHalf : Int) (v_aHeight : Int) (v_aNum : Int) (v_aDen : Int) : Option Bool :=
  spec_IsSteep v_aHalf v_aHeight v_aNum v_aDen >>= fun r1 =>
  impl_IsSteep v_aHalf v_aHeight v_aNum v_aDen >>= fun r3 =>
  if (r3 == r1) = true then
    some true
  else
    some false

theorem laws_FnExactIsSteep_ok (v_aHalf : Int) (v_aHeight : Int) (v_aNum : Int) (v_aDen : Int) : Wp (laws_FnExactIsSteep v_aHalf v_aHeight v_aNum v_aDen) (fun r => Con PP 3 [.n .i64 v_aHalf, .n .i64 v_aHeight, .n .i64 v_aNum, .n .i64 v_aDen] [] (.b r) []) := by
  unfold laws_FnExactIsSteep
  exact .bnd fun r1 h2 =>
    .bnd fun r3 h4 =>
    .ite (fun h5 =>
    .ret (runF_con0 hmix (tape := [.reg [nt], .reg [nt, nt, nt, nt, (.call { ac := [ii, ii, ii, ii], r := .b r1, sc := true }, true), nt], .reg [nt, nt, nt, nt, (.call { ac := [ii, ii, ii, ii], r := .b r3, sc := true }, true), nt], .reg [nt, nt, nt], .br false, .reg [nt]]) (rr := ii) (by kernel_rfl) (.cons (spec_IsSteep_ok v_aHalf v_aHeight v_aNum v_aDen r1 h2) (.cons (Sc.b _ : Sc (.b r1)) (.cons (impl_IsSteep_ok v_aHalf v_aHeight v_aNum v_aDen r3 h4) (.cons (Sc.b _ : Sc (.b r3)) (.cons (not_t h5) .nil)))))))
    (fun h5 =>
    .ret (runF_con0 hmix (tape := [.reg [nt], .reg [nt, nt, nt, nt, (.call { ac := [ii, ii, ii, ii], r := .b r1, sc := true }, true), nt], .reg [nt, nt, nt, nt, (.call { ac := [ii, ii, ii, ii], r := .b r3, sc := true }, true), nt], .reg [nt, nt, nt], .br true, .reg [nt]]) (rr := ii) (by kernel_rfl) (.cons (spec_IsSteep_ok v_aHalf v_aHeight v_aNum v_aDen r1 h2) (.cons (Sc.b _ : Sc (.b r1)) (.cons (impl_IsSteep_ok v_aHalf v_aHeight v_aNum v_aDen r3 h4) (.cons (Sc.b _ : Sc (.b r3)) (.cons (not_f h5) .nil)))))))

end Go.Proofs.Ytjgnmimfihhphaa
