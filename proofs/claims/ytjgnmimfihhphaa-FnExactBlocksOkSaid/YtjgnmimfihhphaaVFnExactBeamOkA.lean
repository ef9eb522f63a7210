/- Plain functions for the program's functions, and that calls come to them: printed by a program. No condition. -/
import Derived.Test.YtjgnmimfihhphaaV0
import Derived.Test.YtjgnmimfihhphaaVFnExactIsSteepA
namespace Go.Proofs.Ytjgnmimfihhphaa
open Go Go.VL

def laws_toBeam (v_a : TBeam) : Option TBeam :=
  some v_a

theorem laws_toBeam_ok (v_a : TBeam) : Wp (laws_toBeam v_a) (fun r => Con PP 16 [.agg [.n .i64 v_a.fLeft, .n .i64 v_a.fRight, .n .i64 v_a.fLow, .n .i64 v_a.fHigh, .n .i64 v_a.fWeight]] [] (.agg [.n .i64 r.fLeft, .n .i64 r.fRight, .n .i64 r.fLow, .n .i64 r.fHigh, .n .i64 r.fWeight]) []) := by
  unfold laws_toBeam
  exact .ret (runF_con0 hmix (tape := [.reg [nt, nt], .reg [nt], .reg [nt, nt, nt, nt], .reg [nt, nt, nt, nt], .reg [nt, nt, nt, nt], .reg [nt, nt, nt, nt], .reg [nt, nt, nt, nt], .reg [nt, nt]]) (rr := ii) (by kernel_rfl) .nil)

def spec_BeamOk (v_b : TBeam) : Option Bool :=
  spec_l01In v_b.fLeft (-1000) 1000 >>= fun r1 =>
  if r1 = true then
    spec_l01In v_b.fRight (-1000) 1000 >>= fun r4 =>
    if r4 = true then
      spec_l01In v_b.fLow (-1000) 1000 >>= fun r7 =>
      if r7 = true then
        spec_l01In v_b.fHigh (-1000) 1000 >>= fun r10 =>
        if r10 = true then
          if (decide (v_b.fLeft < v_b.fRight)) = true then
            if (decide (v_b.fLow ≤ v_b.fHigh)) = true then
              spec_l01In v_b.fWeight 0 1000 >>= fun r15 =>
              some r15
            else
              some false
          else
            some false
        else
          some false
      else
        some false
    else
      some false
  else
    some false

theorem spec_BeamOk_ok (v_b : TBeam) : Wp (spec_BeamOk v_b) (fun r => Con PP 15 [.agg [.n .i64 v_b.fLeft, .n .i64 v_b.fRight, .n .i64 v_b.fLow, .n .i64 v_b.fHigh, .n .i64 v_b.fWeight]] [] (.b r) []) := by
  unfold spec_BeamOk
  exact .bnd fun r1 h2 =>
    .ite (fun h3 =>
    .bnd fun r4 h5 =>
     .ite (fun h6 =>
     .bnd fun r7 h8 =>
      .ite (fun h9 =>
      .bnd fun r10 h11 =>
       .ite (fun h12 =>
       .ite (fun h13 =>
        .ite (fun h14 =>
         .bnd fun r15 h16 =>
          .ret (runF_con0 hmix (tape := [.reg [nt, nt], .reg [nt, nt, (.call { ac := [ii, ii, ii], r := .b r1, sc := true }, true), nt, nt, nt, (.call { ac := [ii, ii, ii], r := .b r4, sc := true }, true), (.br true, true), nt, nt, nt, (.call { ac := [ii, ii, ii], r := .b r7, sc := true }, true), (.br true, true), nt, nt, nt, (.call { ac := [ii, ii, ii], r := .b r10, sc := true }, true), (.br true, true), nt, nt, nt, nt, nt, nt, (.br true, true), nt, nt, nt, nt, nt, nt, (.br true, true), nt, nt, nt, (.call { ac := [ii, ii, ii], r := .b r15, sc := true }, true), (.br true, true), nt]]) (rr := ii) (by kernel_rfl) (.cons (spec_l01In_ok v_b.fLeft (-1000) 1000 r1 h2) (.cons (Sc.b _ : Sc (.b r1)) (.cons h3 (.cons h3 (.cons h3 (.cons (spec_l01In_ok v_b.fRight (-1000) 1000 r4 h5) (.cons (Sc.b _ : Sc (.b r4)) (.cons h3 (.cons h6 (.cons h6 (.cons h6 (.cons (spec_l01In_ok v_b.fLow (-1000) 1000 r7 h8) (.cons (Sc.b _ : Sc (.b r7)) (.cons h6 (.cons h9 (.cons h9 (.cons h9 (.cons (spec_l01In_ok v_b.fHigh (-1000) 1000 r10 h11) (.cons (Sc.b _ : Sc (.b r10)) (.cons h9 (.cons h12 (.cons h12 (.cons h12 (.cons h12 (.cons h12 (.cons h12 (.cons h13 (.cons h13 (.cons h13 (.cons h13 (.cons h13 (.cons h13 (.cons h14 (.cons h14 (.cons h14 (.cons (spec_l01In_ok v_b.fWeight 0 1000 r15 h16) (.cons (Sc.b _ : Sc (.b r15)) (.cons h14 .nil))))))))))))))))))))))))))))))))))))))))
         (fun h14 =>
         .ret (runF_con0 hmix (tape := [.reg [nt, nt], .reg [nt, nt, (.call { ac := [ii, ii, ii], r := .b r1, sc := true }, true), nt, nt, nt, (.call { ac := [ii, ii, ii], r := .b r4, sc := true }, true), (.br true, true), nt, nt, nt, (.call { ac := [ii, ii, ii], r := .b r7, sc := true }, true), (.br true, true), nt, nt, nt, (.call { ac := [ii, ii, ii], r := .b r10, sc := true }, true), (.br true, true), nt, nt, nt, nt, nt, nt, (.br true, true), nt, nt, nt, nt, nt, nt, (.br true, true), nt, nf, nf, nf, (.br false, true), nt]]) (rr := ii) (by kernel_rfl) (.cons (spec_l01In_ok v_b.fLeft (-1000) 1000 r1 h2) (.cons (Sc.b _ : Sc (.b r1)) (.cons h3 (.cons h3 (.cons h3 (.cons (spec_l01In_ok v_b.fRight (-1000) 1000 r4 h5) (.cons (Sc.b _ : Sc (.b r4)) (.cons h3 (.cons h6 (.cons h6 (.cons h6 (.cons (spec_l01In_ok v_b.fLow (-1000) 1000 r7 h8) (.cons (Sc.b _ : Sc (.b r7)) (.cons h6 (.cons h9 (.cons h9 (.cons h9 (.cons (spec_l01In_ok v_b.fHigh (-1000) 1000 r10 h11) (.cons (Sc.b _ : Sc (.b r10)) (.cons h9 (.cons h12 (.cons h12 (.cons h12 (.cons h12 (.cons h12 (.cons h12 (.cons h13 (.cons h13 (.cons h13 (.cons h13 (.cons h13 (.cons h13 (.cons h14 (.cons h14 (.cons h14 (.cons h14 .nil)))))))))))))))))))))))))))))))))))))))
        (fun h13 =>
        .ret (runF_con0 hmix (tape := [.reg [nt, nt], .reg [nt, nt, (.call { ac := [ii, ii, ii], r := .b r1, sc := true }, true), nt, nt, nt, (.call { ac := [ii, ii, ii], r := .b r4, sc := true }, true), (.br true, true), nt, nt, nt, (.call { ac := [ii, ii, ii], r := .b r7, sc := true }, true), (.br true, true), nt, nt, nt, (.call { ac := [ii, ii, ii], r := .b r10, sc := true }, true), (.br true, true), nt, nt, nt, nt, nt, nt, (.br true, true), nt, nf, nf, nf, nf, nf, (.br false, true), nt, nf, nf, nf, nt, nt]]) (rr := ii) (by kernel_rfl) (.cons (spec_l01In_ok v_b.fLeft (-1000) 1000 r1 h2) (.cons (Sc.b _ : Sc (.b r1)) (.cons h3 (.cons h3 (.cons h3 (.cons (spec_l01In_ok v_b.fRight (-1000) 1000 r4 h5) (.cons (Sc.b _ : Sc (.b r4)) (.cons h3 (.cons h6 (.cons h6 (.cons h6 (.cons (spec_l01In_ok v_b.fLow (-1000) 1000 r7 h8) (.cons (Sc.b _ : Sc (.b r7)) (.cons h6 (.cons h9 (.cons h9 (.cons h9 (.cons (spec_l01In_ok v_b.fHigh (-1000) 1000 r10 h11) (.cons (Sc.b _ : Sc (.b r10)) (.cons h9 (.cons h12 (.cons h12 (.cons h12 (.cons h12 (.cons h12 (.cons h12 (.cons h13 (.cons h13 (.cons h13 (.cons h13 (.cons h13 (.cons h13 (.cons (rfl : false = false) (.cons (rfl : false = false) (.cons (rfl : false = false) .nil))))))))))))))))))))))))))))))))))))))
       (fun h12 =>
       .ret (runF_con0 hmix (tape := [.reg [nt, nt], .reg [nt, nt, (.call { ac := [ii, ii, ii], r := .b r1, sc := true }, true), nt, nt, nt, (.call { ac := [ii, ii, ii], r := .b r4, sc := true }, true), (.br true, true), nt, nt, nt, (.call { ac := [ii, ii, ii], r := .b r7, sc := true }, true), (.br true, true), nt, nt, nt, (.call { ac := [ii, ii, ii], r := .b r10, sc := true }, true), (.br true, true), nt, nf, nf, nf, nf, nf, (.br false, true), nt, nf, nf, nf, nf, nf, nt, nt, nf, nf, nf, nt, nt]]) (rr := ii) (by kernel_rfl) (.cons (spec_l01In_ok v_b.fLeft (-1000) 1000 r1 h2) (.cons (Sc.b _ : Sc (.b r1)) (.cons h3 (.cons h3 (.cons h3 (.cons (spec_l01In_ok v_b.fRight (-1000) 1000 r4 h5) (.cons (Sc.b _ : Sc (.b r4)) (.cons h3 (.cons h6 (.cons h6 (.cons h6 (.cons (spec_l01In_ok v_b.fLow (-1000) 1000 r7 h8) (.cons (Sc.b _ : Sc (.b r7)) (.cons h6 (.cons h9 (.cons h9 (.cons h9 (.cons (spec_l01In_ok v_b.fHigh (-1000) 1000 r10 h11) (.cons (Sc.b _ : Sc (.b r10)) (.cons h9 (.cons h12 (.cons h12 (.cons h12 (.cons h12 (.cons h12 (.cons h12 (.cons (rfl : false = false) (.cons (rfl : false = false) (.cons (rfl : false = false) (.cons (rfl : false = false) (.cons (rfl : false = false) (.cons (rfl : false = false) (.cons (rfl : false = false) (.cons (rfl : false = false) .nil)))))))))))))))))))))))))))))))))))))
      (fun h9 =>
      .ret (runF_con0 hmix (tape := [.reg [nt, nt], .reg [nt, nt, (.call { ac := [ii, ii, ii], r := .b r1, sc := true }, true), nt, nt, nt, (.call { ac := [ii, ii, ii], r := .b r4, sc := true }, true), (.br true, true), nt, nt, nt, (.call { ac := [ii, ii, ii], r := .b r7, sc := true }, true), (.br true, true), nt, nf, nf, nf, (.br false, true), nt, nf, nf, nf, nf, nf, nt, nt, nf, nf, nf, nf, nf, nt, nt, nf, nf, nf, nt, nt]]) (rr := ii) (by kernel_rfl) (.cons (spec_l01In_ok v_b.fLeft (-1000) 1000 r1 h2) (.cons (Sc.b _ : Sc (.b r1)) (.cons h3 (.cons h3 (.cons h3 (.cons (spec_l01In_ok v_b.fRight (-1000) 1000 r4 h5) (.cons (Sc.b _ : Sc (.b r4)) (.cons h3 (.cons h6 (.cons h6 (.cons h6 (.cons (spec_l01In_ok v_b.fLow (-1000) 1000 r7 h8) (.cons (Sc.b _ : Sc (.b r7)) (.cons h6 (.cons h9 (.cons h9 (.cons h9 (.cons h9 (.cons (rfl : false = false) (.cons (rfl : false = false) (.cons (rfl : false = false) (.cons (rfl : false = false) (.cons (rfl : false = false) (.cons (rfl : false = false) (.cons (rfl : false = false) (.cons (rfl : false = false) (.cons (rfl : false = false) (.cons (rfl : false = false) (.cons (rfl : false = false) (.cons (rfl : false = false) (.cons (rfl : false = false) .nil))))))))))))))))))))))))))))))))))
     (fun h6 =>
     .ret (runF_con0 hmix (tape := [.reg [nt, nt], .reg [nt, nt, (.call { ac := [ii, ii, ii], r := .b r1, sc := true }, true), nt, nt, nt, (.call { ac := [ii, ii, ii], r := .b r4, sc := true }, true), (.br true, true), nt, nf, nf, nf, (.br false, true), nt, nf, nf, nf, nt, nt, nf, nf, nf, nf, nf, nt, nt, nf, nf, nf, nf, nf, nt, nt, nf, nf, nf, nt, nt]]) (rr := ii) (by kernel_rfl) (.cons (spec_l01In_ok v_b.fLeft (-1000) 1000 r1 h2) (.cons (Sc.b _ : Sc (.b r1)) (.cons h3 (.cons h3 (.cons h3 (.cons (spec_l01In_ok v_b.fRight (-1000) 1000 r4 h5) (.cons (Sc.b _ : Sc (.b r4)) (.cons h3 (.cons h6 (.cons h6 (.cons h6 (.cons h6 (.cons (rfl : false = false) (.cons (rfl : false = false) (.cons (rfl : false = false) (.cons (rfl : false = false) (.cons (rfl : false = false) (.cons (rfl : false = false) (.cons (rfl : false = false) (.cons (rfl : false = false) (.cons (rfl : false = false) (.cons (rfl : false = false) (.cons (rfl : false = false) (.cons (rfl : false = false) (.cons (rfl : false = false) (.cons (rfl : false = false) (.cons (rfl : false = false) (.cons (rfl : false = false) .nil)))))))))))))))))))))))))))))))
    (fun h3 =>
    .ret (runF_con0 hmix (tape := [.reg [nt, nt], .reg [nt, nt, (.call { ac := [ii, ii, ii], r := .b r1, sc := true }, true), nt, nf, nf, nf, (.br false, true), nt, nf, nf, nf, nt, nt, nf, nf, nf, nt, nt, nf, nf, nf, nf, nf, nt, nt, nf, nf, nf, nf, nf, nt, nt, nf, nf, nf, nt, nt]]) (rr := ii) (by kernel_rfl) (.cons (spec_l01In_ok v_b.fLeft (-1000) 1000 r1 h2) (.cons (Sc.b _ : Sc (.b r1)) (.cons h3 (.cons h3 (.cons h3 (.cons h3 (.cons (rfl : false = false) (.cons (rfl : false = false) (.cons (rfl : false = false) (.cons (rfl : false = false) (.cons (rfl : false = false) (.cons (rfl : false = false) (.cons (rfl : false = false) (.cons (rfl : false = false) (.cons (rfl : false = false) (.cons (rfl : false = false) (.cons (rfl : false = false) (.cons (rfl : false = false) (.cons (rfl : false = false) (.cons (rfl : false = false) (.cons (rfl : false = false) (.cons (rfl : false = false) (.cons (rfl : false = false) (.cons (rfl : false = false) (.cons (rfl : false = false) .nil)))))))))))))))))))))))))))

def impl_isSpot (v_n : Int) : Option Bool :=
  if (decide ((-1000 : Int) ≤ v_n)) = true then
    some (decide (v_n ≤ (1000 : Int)))
  else
    some false

theorem impl_isSpot_ok (v_n : Int) : Wp (impl_isSpot v_n) (fun r => Con PP 59 [.n .i64 v_n] [] (.b r) []) := by
  unfold impl_isSpot
  exact .ite (fun h1 =>
    .ret (runF_con0 hmix (tape := [.reg [nt], .reg [nt, nt, nt, nt, nt, (.br true, true), nt]]) (rr := ii) (by kernel_rfl) (.cons h1 (.cons h1 (.cons h1 .nil)))))
    (fun h1 =>
    .ret (runF_con0 hmix (tape := [.reg [nt], .reg [nt, nt, nt, nf, nf, (.br false, true), nt]]) (rr := ii) (by kernel_rfl) (.cons h1 (.cons h1 (.cons h1 .nil)))))

def impl_isLimit (v_n : Int) : Option Bool :=
  if (decide ((0 : Int) ≤ v_n)) = true then
    some (decide (v_n ≤ (1000 : Int)))
  else
    some false

theorem impl_isLimit_ok (v_n : Int) : Wp (impl_isLimit v_n) (fun r => Con PP 60 [.n .i64 v_n] [] (.b r) []) := by
  unfold impl_isLimit
  exact .ite (fun h1 =>
    .ret (runF_con0 hmix (tape := [.reg [nt], .reg [nt, nt, nt, nt, nt, (.br true, true), nt]]) (rr := ii) (by kernel_rfl) (.cons h1 (.cons h1 (.cons h1 .nil)))))
    (fun h1 =>
    .ret (runF_con0 hmix (tape := [.reg [nt], .reg [nt, nt, nt, nf, nf, (.br false, true), nt]]) (rr := ii) (by kernel_rfl) (.cons h1 (.cons h1 (.cons h1 .nil)))))

def impl_BeamOk (v_b : TBeam) : Option Bool :=
  impl_isSpot v_b.fLeft >>= fun r1 =>
  if r1 = true then
    impl_isSpot v_b.fRight >>= fun r4 =>
    if r4 = true then
      impl_isSpot v_b.fLow >>= fun r7 =>
      if r7 = true then
        impl_isSpot v_b.fHigh >>= fun r10 =>
        if r10 = true then
          if (decide (v_b.fLeft < v_b.fRight)) = true then
            if (decide (v_b.fLow ≤ v_b.fHigh)) = true then
              impl_isLimit v_b.fWeight >>= fun r15 =>
              some r15
            else
              some false
          else
            some false
        else
          some false
      else
        some false
    else
      some false
  else
    some false

theorem impl_BeamOk_ok (v_b : TBeam) : Wp (impl_BeamOk v_b) (fun r => Con PP 17 [.agg [.n .i64 v_b.fLeft, .n .i64 v_b.fRight, .n .i64 v_b.fLow, .n .i64 v_b.fHigh, .n .i64 v_b.fWeight]] [] (.b r) []) := by
  unfold impl_BeamOk
  exact .bnd fun r1 h2 =>
    .ite (fun h3 =>
    .bnd fun r4 h5 =>
     .ite (fun h6 =>
     .bnd fun r7 h8 =>
      .ite (fun h9 =>
      .bnd fun r10 h11 =>
       .ite (fun h12 =>
       .ite (fun h13 =>
        .ite (fun h14 =>
         .bnd fun r15 h16 =>
          .ret (runF_con0 hmix (tape := [.reg [nt, nt], .reg [nt, nt, (.call { ac := [ii], r := .b r1, sc := true }, true), nt, nt, nt, (.call { ac := [ii], r := .b r4, sc := true }, true), (.br true, true), nt, nt, nt, (.call { ac := [ii], r := .b r7, sc := true }, true), (.br true, true), nt, nt, nt, (.call { ac := [ii], r := .b r10, sc := true }, true), (.br true, true), nt, nt, nt, nt, nt, nt, (.br true, true), nt, nt, nt, nt, nt, nt, (.br true, true), nt, nt, nt, (.call { ac := [ii], r := .b r15, sc := true }, true), (.br true, true), nt]]) (rr := ii) (by kernel_rfl) (.cons (impl_isSpot_ok v_b.fLeft r1 h2) (.cons (Sc.b _ : Sc (.b r1)) (.cons h3 (.cons h3 (.cons h3 (.cons (impl_isSpot_ok v_b.fRight r4 h5) (.cons (Sc.b _ : Sc (.b r4)) (.cons h3 (.cons h6 (.cons h6 (.cons h6 (.cons (impl_isSpot_ok v_b.fLow r7 h8) (.cons (Sc.b _ : Sc (.b r7)) (.cons h6 (.cons h9 (.cons h9 (.cons h9 (.cons (impl_isSpot_ok v_b.fHigh r10 h11) (.cons (Sc.b _ : Sc (.b r10)) (.cons h9 (.cons h12 (.cons h12 (.cons h12 (.cons h12 (.cons h12 (.cons h12 (.cons h13 (.cons h13 (.cons h13 (.cons h13 (.cons h13 (.cons h13 (.cons h14 (.cons h14 (.cons h14 (.cons (impl_isLimit_ok v_b.fWeight r15 h16) (.cons (Sc.b _ : Sc (.b r15)) (.cons h14 .nil))))))))))))))))))))))))))))))))))))))))
         (fun h14 =>
         .ret (runF_con0 hmix (tape := [.reg [nt, nt], .reg [nt, nt, (.call { ac := [ii], r := .b r1, sc := true }, true), nt, nt, nt, (.call { ac := [ii], r := .b r4, sc := true }, true), (.br true, true), nt, nt, nt, (.call { ac := [ii], r := .b r7, sc := true }, true), (.br true, true), nt, nt, nt, (.call { ac := [ii], r := .b r10, sc := true }, true), (.br true, true), nt, nt, nt, nt, nt, nt, (.br true, true), nt, nt, nt, nt, nt, nt, (.br true, true), nt, nf, nf, nf, (.br false, true), nt]]) (rr := ii) (by kernel_rfl) (.cons (impl_isSpot_ok v_b.fLeft r1 h2) (.cons (Sc.b _ : Sc (.b r1)) (.cons h3 (.cons h3 (.cons h3 (.cons (impl_isSpot_ok v_b.fRight r4 h5) (.cons (Sc.b _ : Sc (.b r4)) (.cons h3 (.cons h6 (.cons h6 (.cons h6 (.cons (impl_isSpot_ok v_b.fLow r7 h8) (.cons (Sc.b _ : Sc (.b r7)) (.cons h6 (.cons h9 (.cons h9 (.cons h9 (.cons (impl_isSpot_ok v_b.fHigh r10 h11) (.cons (Sc.b _ : Sc (.b r10)) (.cons h9 (.cons h12 (.cons h12 (.cons h12 (.cons h12 (.cons h12 (.cons h12 (.cons h13 (.cons h13 (.cons h13 (.cons h13 (.cons h13 (.cons h13 (.cons h14 (.cons h14 (.cons h14 (.cons h14 .nil)))))))))))))))))))))))))))))))))))))))
        (fun h13 =>
        .ret (runF_con0 hmix (tape := [.reg [nt, nt], .reg [nt, nt, (.call { ac := [ii], r := .b r1, sc := true }, true), nt, nt, nt, (.call { ac := [ii], r := .b r4, sc := true }, true), (.br true, true), nt, nt, nt, (.call { ac := [ii], r := .b r7, sc := true }, true), (.br true, true), nt, nt, nt, (.call { ac := [ii], r := .b r10, sc := true }, true), (.br true, true), nt, nt, nt, nt, nt, nt, (.br true, true), nt, nf, nf, nf, nf, nf, (.br false, true), nt, nf, nf, nf, nt, nt]]) (rr := ii) (by kernel_rfl) (.cons (impl_isSpot_ok v_b.fLeft r1 h2) (.cons (Sc.b _ : Sc (.b r1)) (.cons h3 (.cons h3 (.cons h3 (.cons (impl_isSpot_ok v_b.fRight r4 h5) (.cons (Sc.b _ : Sc (.b r4)) (.cons h3 (.cons h6 (.cons h6 (.cons h6 (.cons (impl_isSpot_ok v_b.fLow r7 h8) (.cons (Sc.b _ : Sc (.b r7)) (.cons h6 (.cons h9 (.cons h9 (.cons h9 (.cons (impl_isSpot_ok v_b.fHigh r10 h11) (.cons (Sc.b _ : Sc (.b r10)) (.cons h9 (.cons h12 (.cons h12 (.cons h12 (.cons h12 (.cons h12 (.cons h12 (.cons h13 (.cons h13 (.cons h13 (.cons h13 (.cons h13 (.cons h13 (.cons (rfl : false = false) (.cons (rfl : false = false) (.cons (rfl : false = false) .nil))))))))))))))))))))))))))))))))))))))
       (fun h12 =>
       .ret (runF_con0 hmix (tape := [.reg [nt, nt], .reg [nt, nt, (.call { ac := [ii], r := .b r1, sc := true }, true), nt, nt, nt, (.call { ac := [ii], r := .b r4, sc := true }, true), (.br true, true), nt, nt, nt, (.call { ac := [ii], r := .b r7, sc := true }, true), (.br true, true), nt, nt, nt, (.call { ac := [ii], r := .b r10, sc := true }, true), (.br true, true), nt, nf, nf, nf, nf, nf, (.br false, true), nt, nf, nf, nf, nf, nf, nt, nt, nf, nf, nf, nt, nt]]) (rr := ii) (by kernel_rfl) (.cons (impl_isSpot_ok v_b.fLeft r1 h2) (.cons (Sc.b _ : Sc (.b r1)) (.cons h3 (.cons h3 (.cons h3 (.cons (impl_isSpot_ok v_b.fRight r4 h5) (.cons (Sc.b _ : Sc (.b r4)) (.cons h3 (.cons h6 (.cons h6 (.cons h6 (.cons (impl_isSpot_ok v_b.fLow r7 h8) (.cons (Sc.b _ : Sc (.b r7)) (.cons h6 (.cons h9 (.cons h9 (.cons h9 (.cons (impl_isSpot_ok v_b.fHigh r10 h11) (.cons (Sc.b _ : Sc (.b r10)) (.cons h9 (.cons h12 (.cons h12 (.cons h12 (.cons h12 (.cons h12 (.cons h12 (.cons (rfl : false = false) (.cons (rfl : false = false) (.cons (rfl : false = false) (.cons (rfl : false = false) (.cons (rfl : false = false) (.cons (rfl : false = false) (.cons (rfl : false = false) (.cons (rfl : false = false) .nil)))))))))))))))))))))))))))))))))))))
      (fun h9 =>
      .ret (runF_con0 hmix (tape := [.reg [nt, nt], .reg [nt, nt, (.call { ac := [ii], r := .b r1, sc := true }, true), nt, nt, nt, (.call { ac := [ii], r := .b r4, sc := true }, true), (.br true, true), nt, nt, nt, (.call { ac := [ii], r := .b r7, sc := true }, true), (.br true, true), nt, nf, nf, nf, (.br false, true), nt, nf, nf, nf, nf, nf, nt, nt, nf, nf, nf, nf, nf, nt, nt, nf, nf, nf, nt, nt]]) (rr := ii) (by kernel_rfl) (.cons (impl_isSpot_ok v_b.fLeft r1 h2) (.cons (Sc.b _ : Sc (.b r1)) (.cons h3 (.cons h3 (.cons h3 (.cons (impl_isSpot_ok v_b.fRight r4 h5) (.cons (Sc.b _ : Sc (.b r4)) (.cons h3 (.cons h6 (.cons h6 (.cons h6 (.cons (impl_isSpot_ok v_b.fLow r7 h8) (.cons (Sc.b _ : Sc (.b r7)) (.cons h6 (.cons h9 (.cons h9 (.cons h9 (.cons h9 (.cons (rfl : false = false) (.cons (rfl : false = false) (.cons (rfl : false = false) (.cons (rfl : false = false) (.cons (rfl : false = false) (.cons (rfl : false = false) (.cons (rfl : false = false) (.cons (rfl : false = false) (.cons (rfl : false = false) (.cons (rfl : false = false) (.cons (rfl : false = false) (.cons (rfl : false = false) (.cons (rfl : false = false) .nil))))))))))))))))))))))))))))))))))
     (fun h6 =>
     .ret (runF_con0 hmix (tape := [.reg [nt, nt], .reg [nt, nt, (.call { ac := [ii], r := .b r1, sc := true }, true), nt, nt, nt, (.call { ac := [ii], r := .b r4, sc := true }, true), (.br true, true), nt, nf, nf, nf, (.br false, true), nt, nf, nf, nf, nt, nt, nf, nf, nf, nf, nf, nt, nt, nf, nf, nf, nf, nf, nt, nt, nf, nf, nf, nt, nt]]) (rr := ii) (by kernel_rfl) (.cons (impl_isSpot_ok v_b.fLeft r1 h2) (.cons (Sc.b _ : Sc (.b r1)) (.cons h3 (.cons h3 (.cons h3 (.cons (impl_isSpot_ok v_b.fRight r4 h5) (.cons (Sc.b _ : Sc (.b r4)) (.cons h3 (.cons h6 (.cons h6 (.cons h6 (.cons h6 (.cons (rfl : false = false) (.cons (rfl : false = false) (.cons (rfl : false = false) (.cons (rfl : false = false) (.cons (rfl : false = false) (.cons (rfl : false = false) (.cons (rfl : false = false) (.cons (rfl : false = false) (.cons (rfl : false = false) (.cons (rfl : false = false) (.cons (rfl : false = false) (.cons (rfl : false = false) (.cons (rfl : false = false) (.cons (rfl : false = false) (.cons (rfl : false = false) (.cons (rfl : false = false) .nil)))))))))))))))))))))))))))))))
    (fun h3 =>
    .ret (runF_con0 hmix (tape := [.reg [nt, nt], .reg [nt, nt, (.call { ac := [ii], r := .b r1, sc := true }, true), nt, nf, nf, nf, (.br false, true), nt, nf, nf, nf, nt, nt, nf, nf, nf, nt, nt, nf, nf, nf, nf, nf, nt, nt, nf, nf, nf, nf, nf, nt, nt, nf, nf, nf, nt, nt]]) (rr := ii) (by kernel_rfl) (.cons (impl_isSpot_ok v_b.fLeft r1 h2) (.cons (Sc.b _ : Sc (.b r1)) (.cons h3 (.cons h3 (.cons h3 (.cons h3 (.cons (rfl : false = false) (.cons (rfl : false = false) (.cons (rfl : false = false) (.cons (rfl : false = false) (.cons (rfl : false = false) (.cons (rfl : false = false) (.cons (rfl : false = false) (.cons (rfl : false = false) (.cons (rfl : false = false) (.cons (rfl : false = false) (.cons (rfl : false = false) (.cons (rfl : false = false) (.cons (rfl : false = false) (.cons (rfl : false = false) (.cons (rfl : false = false) (.cons (rfl : false = false) (.cons (rfl : false = false) (.cons (rfl : false = false) (.cons (rfl : false = false) .nil)))))))))))))))))))))))))))

def laws_FnExactBeamOk (v_aB : TBeam) : Option Bool :=
  laws_toBeam v_aB >>= fun r1 =>
  spec_BeamOk r1 >>= fun r3 =>
  impl_BeamOk r1 >>= fun r5 =>
  if (r5 == r3) = true then
    some true
  else
    some false

theorem laws_FnExactBeamOk_ok (v_aB : TBeam) : Wp (laws_FnExactBeamOk v_aB) (fun r => Con PP 4 [.agg [.n .i64 v_aB.fLeft, .n .i64 v_aB.fRight, .n .i64 v_aB.fLow, .n .i64 v_aB.fHigh, .n .i64 v_aB.fWeight]] [] (.b r) []) := by
  unfold laws_FnExactBeamOk
  exact .bnd fun r1 h2 =>
    .bnd fun r3 h4 =>
    .bnd fun r5 h6 =>
    .ite (fun h7 =>
    .ret (runF_con0 hmix (tape := [.reg [nt, nt], .reg [nt, (.call { ac := [ii], r := .agg [.n .i64 r1.fLeft, .n .i64 r1.fRight, .n .i64 r1.fLow, .n .i64 r1.fHigh, .n .i64 r1.fWeight], sc := false }, true), (.call { ac := [ii], r := .b r3, sc := true }, true), nt], .reg [nt, (.call { ac := [ii], r := .agg [.n .i64 r1.fLeft, .n .i64 r1.fRight, .n .i64 r1.fLow, .n .i64 r1.fHigh, .n .i64 r1.fWeight], sc := false }, true), (.call { ac := [ii], r := .b r5, sc := true }, true), nt], .reg [nt, nt, nt], .br false, .reg [nt]]) (rr := ii) (by kernel_rfl) (.cons (laws_toBeam_ok v_aB r1 h2) (.cons (spec_BeamOk_ok r1 r3 h4) (.cons (Sc.b _ : Sc (.b r3)) (.cons (laws_toBeam_ok v_aB r1 h2) (.cons (impl_BeamOk_ok r1 r5 h6) (.cons (Sc.b _ : Sc (.b r5)) (.cons (not_t h7) .nil)))))))))
    (fun h7 =>
    .ret (runF_con0 hmix (tape := [.reg [nt, nt], .reg [nt, (.call { ac := [ii], r := .agg [.n .i64 r1.fLeft, .n .i64 r1.fRight, .n .i64 r1.fLow, .n .i64 r1.fHigh, .n .i64 r1.fWeight], sc := false }, true), (.call { ac := [ii], r := .b r3, sc := true }, true), nt], .reg [nt, (.call { ac := [ii], r := .agg [.n .i64 r1.fLeft, .n .i64 r1.fRight, .n .i64 r1.fLow, .n .i64 r1.fHigh, .n .i64 r1.fWeight], sc := false }, true), (.call { ac := [ii], r := .b r5, sc := true }, true), nt], .reg [nt, nt, nt], .br true, .reg [nt]]) (rr := ii) (by kernel_rfl) (.cons (laws_toBeam_ok v_aB r1 h2) (.cons (spec_BeamOk_ok r1 r3 h4) (.cons (Sc.b _ : Sc (.b r3)) (.cons (laws_toBeam_ok v_aB r1 h2) (.cons (impl_BeamOk_ok r1 r5 h6) (.cons (Sc.b _ : Sc (.b r5)) (.cons (not_f h7) .nil)))))))))

end Go.Proofs.Ytjgnmimfihhphaa
