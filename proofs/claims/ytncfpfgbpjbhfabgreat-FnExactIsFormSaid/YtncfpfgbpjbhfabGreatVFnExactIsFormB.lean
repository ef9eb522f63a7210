/- Plain functions for the program's functions, and that calls come to them: printed by a program. No condition. -/
import Derived.Test.YtncfpfgbpjbhfabGreatVFnExactIsFormA
namespace Go.Proofs.YtncfpfgbpjbhfabGreat
set_option linter.unusedVariables false
set_option linter.unusedSimpArgs false
open Go Go.VL

def spec_l04Low (v_neg : Bool) (v_a : (List Int)) (v_b : (List Int)) : Option TRat :=
  spec_l02Trim v_a >>= fun r1 =>
  spec_l02Trim v_b >>= fun r3 =>
  if ((len_ eI r3) == (0 : Int)) = true then
    some (⟨(⟨false, ([] : List Int)⟩ : TBigInt), ([] : List Int)⟩ : TRat)
  else
    spec_l04One r3 >>= fun r6 =>
    if r6 = true then
      if (decide ((24 : Int) < (len_ eI r1))) = true then
        some (⟨(⟨false, ([] : List Int)⟩ : TBigInt), ([] : List Int)⟩ : TRat)
      else
        if (decide ((24 : Int) < (len_ eI r3))) = true then
          some (⟨(⟨false, ([] : List Int)⟩ : TBigInt), ([] : List Int)⟩ : TRat)
        else
          spec_l03Make v_neg r1 >>= fun r11 =>
          if (([] : List Int) ++ r3).length * 8 ≤ 140737488355328 then
          some (⟨r11, ([] : List Int) ++ r3⟩ : TRat)
          else none
    else
      spec_l02Gcd r1 r3 >>= fun r9 =>
      spec_l04One r9 >>= fun r11 =>
      if r11 = true then
        if (decide ((24 : Int) < (len_ eI r1))) = true then
          some (⟨(⟨false, ([] : List Int)⟩ : TBigInt), ([] : List Int)⟩ : TRat)
        else
          if (decide ((24 : Int) < (len_ eI r3))) = true then
            some (⟨(⟨false, ([] : List Int)⟩ : TBigInt), ([] : List Int)⟩ : TRat)
          else
            spec_l03Make v_neg r1 >>= fun r16 =>
            if (([] : List Int) ++ r3).length * 8 ≤ 140737488355328 then
            some (⟨r16, ([] : List Int) ++ r3⟩ : TRat)
            else none
      else
        spec_l02Div r1 r9 >>= fun r14 =>
        spec_l02Div r3 r9 >>= fun r16 =>
        if (decide ((24 : Int) < (len_ eI r14.1))) = true then
          some (⟨(⟨false, ([] : List Int)⟩ : TBigInt), ([] : List Int)⟩ : TRat)
        else
          if (decide ((24 : Int) < (len_ eI r16.1))) = true then
            some (⟨(⟨false, ([] : List Int)⟩ : TBigInt), ([] : List Int)⟩ : TRat)
          else
            spec_l03Make v_neg r14.1 >>= fun r20 =>
            if (([] : List Int) ++ r16.1).length * 8 ≤ 140737488355328 then
            some (⟨r20, ([] : List Int) ++ r16.1⟩ : TRat)
            else none

theorem spec_l04Low_ok (v_neg : Bool) (v_a : (List Int)) (v_b : (List Int)) : Wp (spec_l04Low v_neg v_a v_b) (fun r => Con PP 84 [.b v_neg, .isl 1 (v_a.map eI), .isl 1 (v_b.map eI)] [] (.agg [.b r.fNum.fNeg, .isl 1 (r.fNum.fMag.map eI), .isl 1 (r.fDen.map eI)]) []) := by
  unfold spec_l04Low
  exact .bnd fun r1 h2 =>
    .bnd fun r3 h4 =>
    .ite (fun h5 =>
    .ret (runF_con0 hmix (tape := [.reg [nt], .reg [nt, (.call { ac := [ii], r := .isl 1 (r1.map eI), sc := false }, true), nt], .reg [nt, (.call { ac := [ii], r := .isl 1 (r3.map eI), sc := false }, true), nt], .reg [nt, nt, nt], .br true, .reg [nt, nt]]) (rr := .c1 (.agg [.id, .nl 1, .nl 1])) (by kernel_rfl) (.cons (spec_l02Trim_ok v_a r1 h2) (.cons (spec_l02Trim_ok v_b r3 h4) (.cons h5 .nil)))))
    (fun h5 =>
    .bnd fun r6 h7 =>
     .ite (fun h8 =>
     .ite (fun h9 =>
      .ret (runF_con0 hmix (tape := [.reg [nt], .reg [nt, (.call { ac := [ii], r := .isl 1 (r1.map eI), sc := false }, true), nt], .reg [nt, (.call { ac := [ii], r := .isl 1 (r3.map eI), sc := false }, true), nt], .reg [nt, nt, nt], .br false, .reg [nt, (.call { ac := [ii], r := .b r6, sc := true }, true), nt], .br false, .reg [nt, nt, nt, nt, nf, nf, nf, (.br true, true)], .br true, .reg [nt, nt]]) (rr := .c1 (.agg [.id, .nl 1, .nl 1])) (by kernel_rfl) (.cons (spec_l02Trim_ok v_a r1 h2) (.cons (spec_l02Trim_ok v_b r3 h4) (.cons h5 (.cons (spec_l04One_ok r3 r6 h7) (.cons (Sc.b _ : Sc (.b r6)) (.cons (not_t h8) (.cons h9 (.cons h9 (.cons h9 (.cons h9 (.cons (rfl : true = true) .nil)))))))))))))
      (fun h9 =>
      .ite (fun h10 =>
       .ret (runF_con0 hmix (tape := [.reg [nt], .reg [nt, (.call { ac := [ii], r := .isl 1 (r1.map eI), sc := false }, true), nt], .reg [nt, (.call { ac := [ii], r := .isl 1 (r3.map eI), sc := false }, true), nt], .reg [nt, nt, nt], .br false, .reg [nt, (.call { ac := [ii], r := .b r6, sc := true }, true), nt], .br false, .reg [nt, nt, nt, nt, nt, nt, nt, (.br false, true)], .br true, .reg [nt, nt]]) (rr := .c1 (.agg [.id, .nl 1, .nl 1])) (by kernel_rfl) (.cons (spec_l02Trim_ok v_a r1 h2) (.cons (spec_l02Trim_ok v_b r3 h4) (.cons h5 (.cons (spec_l04One_ok r3 r6 h7) (.cons (Sc.b _ : Sc (.b r6)) (.cons (not_t h8) (.cons h9 (.cons h9 (.cons h9 (.cons h9 (.cons h10 .nil)))))))))))))
       (fun h10 =>
       .bnd fun r11 h12 =>
        .grd fun h13 =>
        .ret (runF_con0 hmix (tape := [.reg [nt], .reg [nt, (.call { ac := [ii], r := .isl 1 (r1.map eI), sc := false }, true), nt], .reg [nt, (.call { ac := [ii], r := .isl 1 (r3.map eI), sc := false }, true), nt], .reg [nt, nt, nt], .br false, .reg [nt, (.call { ac := [ii], r := .b r6, sc := true }, true), nt], .br false, .reg [nt, nt, nt, nt, nt, nt, nt, (.br false, true)], .br false, .reg [nt, nt, (.call { ac := [ii, ii], r := .agg [.b r11.fNeg, .isl 1 (r11.fMag.map eI)], sc := false }, true), nt, nt, (.app ((([] : List Int) ++ r3).length), true), nt, nt]]) (rr := .c1 (.agg [.id, .id, .sl ((([] : List Int) ++ r3).map eI)])) (by kernel_rfl) (.cons (spec_l02Trim_ok v_a r1 h2) (.cons (spec_l02Trim_ok v_b r3 h4) (.cons h5 (.cons (spec_l04One_ok r3 r6 h7) (.cons (Sc.b _ : Sc (.b r6)) (.cons (not_t h8) (.cons h9 (.cons h9 (.cons h9 (.cons h9 (.cons h10 (.cons (spec_l03Make_ok v_neg r1 r11 h12) (.cons (le_full (show [] = (([] : List Int)).map eI from rfl) (show 0 = ([] : List Int).length from rfl)) (.cons (len_app (show 0 = ([] : List Int).length from rfl) (show (r3.map eI) = (r3.map eI) from rfl) : (([] : List Int) ++ r3).length = 0 + (r3.map eI).length) (.cons h13 (.cons (snap_full (app_full (show [] = (([] : List Int)).map eI from rfl) (show 0 = ([] : List Int).length from rfl) (show (r3.map eI) = (r3.map eI) from rfl)) (show (([] : List Int) ++ r3).length = (([] : List Int) ++ r3).length from rfl)) (.cons (fit_full (app_full (show [] = (([] : List Int)).map eI from rfl) (show 0 = ([] : List Int).length from rfl) (show (r3.map eI) = (r3.map eI) from rfl)) (show (([] : List Int) ++ r3).length = (([] : List Int) ++ r3).length from rfl)) (.cons (pure_map eI_pure (([] : List Int) ++ r3)) .nil))))))))))))))))))))))
     (fun h8 =>
     .bnd fun r9 h10 =>
      .bnd fun r11 h12 =>
      .ite (fun h13 =>
      .ite (fun h14 =>
       .ret (runF_con0 hmix (tape := [.reg [nt], .reg [nt, (.call { ac := [ii], r := .isl 1 (r1.map eI), sc := false }, true), nt], .reg [nt, (.call { ac := [ii], r := .isl 1 (r3.map eI), sc := false }, true), nt], .reg [nt, nt, nt], .br false, .reg [nt, (.call { ac := [ii], r := .b r6, sc := true }, true), nt], .br true, .reg [nt, nt, (.call { ac := [ii, ii], r := .isl 1 (r9.map eI), sc := false }, true), nt], .reg [nt, (.call { ac := [ii], r := .b r11, sc := true }, true), nt], .br false, .reg [nt, nt, nt, nt, nf, nf, nf, (.br true, true)], .br true, .reg [nt, nt]]) (rr := .c1 (.agg [.id, .nl 1, .nl 1])) (by kernel_rfl) (.cons (spec_l02Trim_ok v_a r1 h2) (.cons (spec_l02Trim_ok v_b r3 h4) (.cons h5 (.cons (spec_l04One_ok r3 r6 h7) (.cons (Sc.b _ : Sc (.b r6)) (.cons (not_f h8) (.cons (spec_l02Gcd_ok r1 r3 r9 h10) (.cons (spec_l04One_ok r9 r11 h12) (.cons (Sc.b _ : Sc (.b r11)) (.cons (not_t h13) (.cons h14 (.cons h14 (.cons h14 (.cons h14 (.cons (rfl : true = true) .nil)))))))))))))))))
       (fun h14 =>
       .ite (fun h15 =>
        .ret (runF_con0 hmix (tape := [.reg [nt], .reg [nt, (.call { ac := [ii], r := .isl 1 (r1.map eI), sc := false }, true), nt], .reg [nt, (.call { ac := [ii], r := .isl 1 (r3.map eI), sc := false }, true), nt], .reg [nt, nt, nt], .br false, .reg [nt, (.call { ac := [ii], r := .b r6, sc := true }, true), nt], .br true, .reg [nt, nt, (.call { ac := [ii, ii], r := .isl 1 (r9.map eI), sc := false }, true), nt], .reg [nt, (.call { ac := [ii], r := .b r11, sc := true }, true), nt], .br false, .reg [nt, nt, nt, nt, nt, nt, nt, (.br false, true)], .br true, .reg [nt, nt]]) (rr := .c1 (.agg [.id, .nl 1, .nl 1])) (by kernel_rfl) (.cons (spec_l02Trim_ok v_a r1 h2) (.cons (spec_l02Trim_ok v_b r3 h4) (.cons h5 (.cons (spec_l04One_ok r3 r6 h7) (.cons (Sc.b _ : Sc (.b r6)) (.cons (not_f h8) (.cons (spec_l02Gcd_ok r1 r3 r9 h10) (.cons (spec_l04One_ok r9 r11 h12) (.cons (Sc.b _ : Sc (.b r11)) (.cons (not_t h13) (.cons h14 (.cons h14 (.cons h14 (.cons h14 (.cons h15 .nil)))))))))))))))))
        (fun h15 =>
        .bnd fun r16 h17 =>
         .grd fun h18 =>
         .ret (runF_con0 hmix (tape := [.reg [nt], .reg [nt, (.call { ac := [ii], r := .isl 1 (r1.map eI), sc := false }, true), nt], .reg [nt, (.call { ac := [ii], r := .isl 1 (r3.map eI), sc := false }, true), nt], .reg [nt, nt, nt], .br false, .reg [nt, (.call { ac := [ii], r := .b r6, sc := true }, true), nt], .br true, .reg [nt, nt, (.call { ac := [ii, ii], r := .isl 1 (r9.map eI), sc := false }, true), nt], .reg [nt, (.call { ac := [ii], r := .b r11, sc := true }, true), nt], .br false, .reg [nt, nt, nt, nt, nt, nt, nt, (.br false, true)], .br false, .reg [nt, nt, (.call { ac := [ii, ii], r := .agg [.b r16.fNeg, .isl 1 (r16.fMag.map eI)], sc := false }, true), nt, nt, (.app ((([] : List Int) ++ r3).length), true), nt, nt]]) (rr := .c1 (.agg [.id, .id, .sl ((([] : List Int) ++ r3).map eI)])) (by kernel_rfl) (.cons (spec_l02Trim_ok v_a r1 h2) (.cons (spec_l02Trim_ok v_b r3 h4) (.cons h5 (.cons (spec_l04One_ok r3 r6 h7) (.cons (Sc.b _ : Sc (.b r6)) (.cons (not_f h8) (.cons (spec_l02Gcd_ok r1 r3 r9 h10) (.cons (spec_l04One_ok r9 r11 h12) (.cons (Sc.b _ : Sc (.b r11)) (.cons (not_t h13) (.cons h14 (.cons h14 (.cons h14 (.cons h14 (.cons h15 (.cons (spec_l03Make_ok v_neg r1 r16 h17) (.cons (le_full (show [] = (([] : List Int)).map eI from rfl) (show 0 = ([] : List Int).length from rfl)) (.cons (len_app (show 0 = ([] : List Int).length from rfl) (show (r3.map eI) = (r3.map eI) from rfl) : (([] : List Int) ++ r3).length = 0 + (r3.map eI).length) (.cons h18 (.cons (snap_full (app_full (show [] = (([] : List Int)).map eI from rfl) (show 0 = ([] : List Int).length from rfl) (show (r3.map eI) = (r3.map eI) from rfl)) (show (([] : List Int) ++ r3).length = (([] : List Int) ++ r3).length from rfl)) (.cons (fit_full (app_full (show [] = (([] : List Int)).map eI from rfl) (show 0 = ([] : List Int).length from rfl) (show (r3.map eI) = (r3.map eI) from rfl)) (show (([] : List Int) ++ r3).length = (([] : List Int) ++ r3).length from rfl)) (.cons (pure_map eI_pure (([] : List Int) ++ r3)) .nil))))))))))))))))))))))))))
      (fun h13 =>
      .bnd fun r14 h15 =>
       .bnd fun r16 h17 =>
       .ite (fun h18 =>
       .ret (runF_con0 hmix (tape := [.reg [nt], .reg [nt, (.call { ac := [ii], r := .isl 1 (r1.map eI), sc := false }, true), nt], .reg [nt, (.call { ac := [ii], r := .isl 1 (r3.map eI), sc := false }, true), nt], .reg [nt, nt, nt], .br false, .reg [nt, (.call { ac := [ii], r := .b r6, sc := true }, true), nt], .br true, .reg [nt, nt, (.call { ac := [ii, ii], r := .isl 1 (r9.map eI), sc := false }, true), nt], .reg [nt, (.call { ac := [ii], r := .b r11, sc := true }, true), nt], .br true, .reg [nt, nt, (.call { ac := [ii, ii], r := .tup [.isl 1 (r14.1.map eI), .isl 1 (r14.2.map eI)], sc := false }, true), nt, nt, nt, nt], .reg [nt, nt, (.call { ac := [ii, ii], r := .tup [.isl 1 (r16.1.map eI), .isl 1 (r16.2.map eI)], sc := false }, true), nt, nt, nt, nt], .reg [nt, nt, nt, nt, nf, nf, nf, (.br true, true)], .br true, .reg [nt, nt]]) (rr := .c1 (.agg [.id, .nl 1, .nl 1])) (by kernel_rfl) (.cons (spec_l02Trim_ok v_a r1 h2) (.cons (spec_l02Trim_ok v_b r3 h4) (.cons h5 (.cons (spec_l04One_ok r3 r6 h7) (.cons (Sc.b _ : Sc (.b r6)) (.cons (not_f h8) (.cons (spec_l02Gcd_ok r1 r3 r9 h10) (.cons (spec_l04One_ok r9 r11 h12) (.cons (Sc.b _ : Sc (.b r11)) (.cons (not_f h13) (.cons (spec_l02Div_ok r1 r9 r14 h15) (.cons (spec_l02Div_ok r3 r9 r16 h17) (.cons h18 (.cons h18 (.cons h18 (.cons h18 (.cons (rfl : true = true) .nil)))))))))))))))))))
       (fun h18 =>
       .ite (fun h19 =>
        .ret (runF_con0 hmix (tape := [.reg [nt], .reg [nt, (.call { ac := [ii], r := .isl 1 (r1.map eI), sc := false }, true), nt], .reg [nt, (.call { ac := [ii], r := .isl 1 (r3.map eI), sc := false }, true), nt], .reg [nt, nt, nt], .br false, .reg [nt, (.call { ac := [ii], r := .b r6, sc := true }, true), nt], .br true, .reg [nt, nt, (.call { ac := [ii, ii], r := .isl 1 (r9.map eI), sc := false }, true), nt], .reg [nt, (.call { ac := [ii], r := .b r11, sc := true }, true), nt], .br true, .reg [nt, nt, (.call { ac := [ii, ii], r := .tup [.isl 1 (r14.1.map eI), .isl 1 (r14.2.map eI)], sc := false }, true), nt, nt, nt, nt], .reg [nt, nt, (.call { ac := [ii, ii], r := .tup [.isl 1 (r16.1.map eI), .isl 1 (r16.2.map eI)], sc := false }, true), nt, nt, nt, nt], .reg [nt, nt, nt, nt, nt, nt, nt, (.br false, true)], .br true, .reg [nt, nt]]) (rr := .c1 (.agg [.id, .nl 1, .nl 1])) (by kernel_rfl) (.cons (spec_l02Trim_ok v_a r1 h2) (.cons (spec_l02Trim_ok v_b r3 h4) (.cons h5 (.cons (spec_l04One_ok r3 r6 h7) (.cons (Sc.b _ : Sc (.b r6)) (.cons (not_f h8) (.cons (spec_l02Gcd_ok r1 r3 r9 h10) (.cons (spec_l04One_ok r9 r11 h12) (.cons (Sc.b _ : Sc (.b r11)) (.cons (not_f h13) (.cons (spec_l02Div_ok r1 r9 r14 h15) (.cons (spec_l02Div_ok r3 r9 r16 h17) (.cons h18 (.cons h18 (.cons h18 (.cons h18 (.cons h19 .nil)))))))))))))))))))
        (fun h19 =>
        .bnd fun r20 h21 =>
         .grd fun h22 =>
         .ret (runF_con0 hmix (tape := [.reg [nt], .reg [nt, (.call { ac := [ii], r := .isl 1 (r1.map eI), sc := false }, true), nt], .reg [nt, (.call { ac := [ii], r := .isl 1 (r3.map eI), sc := false }, true), nt], .reg [nt, nt, nt], .br false, .reg [nt, (.call { ac := [ii], r := .b r6, sc := true }, true), nt], .br true, .reg [nt, nt, (.call { ac := [ii, ii], r := .isl 1 (r9.map eI), sc := false }, true), nt], .reg [nt, (.call { ac := [ii], r := .b r11, sc := true }, true), nt], .br true, .reg [nt, nt, (.call { ac := [ii, ii], r := .tup [.isl 1 (r14.1.map eI), .isl 1 (r14.2.map eI)], sc := false }, true), nt, nt, nt, nt], .reg [nt, nt, (.call { ac := [ii, ii], r := .tup [.isl 1 (r16.1.map eI), .isl 1 (r16.2.map eI)], sc := false }, true), nt, nt, nt, nt], .reg [nt, nt, nt, nt, nt, nt, nt, (.br false, true)], .br false, .reg [nt, nt, (.call { ac := [ii, ii], r := .agg [.b r20.fNeg, .isl 1 (r20.fMag.map eI)], sc := false }, true), nt, nt, (.app ((([] : List Int) ++ r16.1).length), true), nt, nt]]) (rr := .c1 (.agg [.id, .id, .sl ((([] : List Int) ++ r16.1).map eI)])) (by kernel_rfl) (.cons (spec_l02Trim_ok v_a r1 h2) (.cons (spec_l02Trim_ok v_b r3 h4) (.cons h5 (.cons (spec_l04One_ok r3 r6 h7) (.cons (Sc.b _ : Sc (.b r6)) (.cons (not_f h8) (.cons (spec_l02Gcd_ok r1 r3 r9 h10) (.cons (spec_l04One_ok r9 r11 h12) (.cons (Sc.b _ : Sc (.b r11)) (.cons (not_f h13) (.cons (spec_l02Div_ok r1 r9 r14 h15) (.cons (spec_l02Div_ok r3 r9 r16 h17) (.cons h18 (.cons h18 (.cons h18 (.cons h18 (.cons h19 (.cons (spec_l03Make_ok v_neg r14.1 r20 h21) (.cons (le_full (show [] = (([] : List Int)).map eI from rfl) (show 0 = ([] : List Int).length from rfl)) (.cons (len_app (show 0 = ([] : List Int).length from rfl) (show (r16.1.map eI) = (r16.1.map eI) from rfl) : (([] : List Int) ++ r16.1).length = 0 + (r16.1.map eI).length) (.cons h22 (.cons (snap_full (app_full (show [] = (([] : List Int)).map eI from rfl) (show 0 = ([] : List Int).length from rfl) (show (r16.1.map eI) = (r16.1.map eI) from rfl)) (show (([] : List Int) ++ r16.1).length = (([] : List Int) ++ r16.1).length from rfl)) (.cons (fit_full (app_full (show [] = (([] : List Int)).map eI from rfl) (show 0 = ([] : List Int).length from rfl) (show (r16.1.map eI) = (r16.1.map eI) from rfl)) (show (([] : List Int) ++ r16.1).length = (([] : List Int) ++ r16.1).length from rfl)) (.cons (pure_map eI_pure (([] : List Int) ++ r16.1)) .nil))))))))))))))))))))))))))))))

def spec_l04Add (v_r : TRat) (v_s : TRat) : Option TRat :=
  spec_l04One v_r.fDen >>= fun r1 =>
  if r1 = true then
    spec_l04One v_s.fDen >>= fun r4 =>
    if r4 = true then
      spec_l03Add v_r.fNum v_s.fNum >>= fun r7 =>
      spec_l04Low r7.fNeg r7.fMag ([1] : List Int) >>= fun r9 =>
      some r9
    else
      spec_l02Mul v_r.fNum.fMag v_s.fDen >>= fun r7 =>
      spec_l03Make v_r.fNum.fNeg r7 >>= fun r9 =>
      spec_l02Mul v_s.fNum.fMag v_r.fDen >>= fun r11 =>
      spec_l03Make v_s.fNum.fNeg r11 >>= fun r13 =>
      spec_l03Add r9 r13 >>= fun r15 =>
      spec_l02Mul v_r.fDen v_s.fDen >>= fun r17 =>
      spec_l04Low r15.fNeg r15.fMag r17 >>= fun r19 =>
      some r19
  else
    spec_l02Mul v_r.fNum.fMag v_s.fDen >>= fun r4 =>
    spec_l03Make v_r.fNum.fNeg r4 >>= fun r6 =>
    spec_l02Mul v_s.fNum.fMag v_r.fDen >>= fun r8 =>
    spec_l03Make v_s.fNum.fNeg r8 >>= fun r10 =>
    spec_l03Add r6 r10 >>= fun r12 =>
    spec_l02Mul v_r.fDen v_s.fDen >>= fun r14 =>
    spec_l04Low r12.fNeg r12.fMag r14 >>= fun r16 =>
    some r16

theorem spec_l04Add_ok (v_r : TRat) (v_s : TRat) : Wp (spec_l04Add v_r v_s) (fun r => Con PP 53 [.agg [.b v_r.fNum.fNeg, .isl 1 (v_r.fNum.fMag.map eI), .isl 1 (v_r.fDen.map eI)], .agg [.b v_s.fNum.fNeg, .isl 1 (v_s.fNum.fMag.map eI), .isl 1 (v_s.fDen.map eI)]] [] (.agg [.b r.fNum.fNeg, .isl 1 (r.fNum.fMag.map eI), .isl 1 (r.fDen.map eI)]) []) := by
  unfold spec_l04Add
  exact .bnd fun r1 h2 =>
    .ite (fun h3 =>
    .bnd fun r4 h5 =>
     .ite (fun h6 =>
     .bnd fun r7 h8 =>
      .bnd fun r9 h10 =>
      .ret (runF_con0 hmix (tape := [.reg [nt, nt, nt], .reg [nt, nt, (.call { ac := [ii], r := .b r1, sc := true }, true), nt, nt, nt, (.call { ac := [ii], r := .b r4, sc := true }, true), (.br true, true)], .br true, .reg [nt, nt, nt, nt, (.call { ac := [ii, ii], r := .agg [.b r7.fNeg, .isl 1 (r7.fMag.map eI)], sc := false }, true), nt, nt], .reg [nt, nt, nt, nt, nt, (.fz 22 (.call { ac := [ii, ii, .c1 (.c0 (.sl (([1] : List Int).map eI)))], rds := [22], r := .agg [.b r9.fNum.fNeg, .isl 1 (r9.fNum.fMag.map eI), .isl 1 (r9.fDen.map eI)], sc := false }), true), nt]]) (rr := ii) (by kernel_rfl) (.cons (spec_l04One_ok v_r.fDen r1 h2) (.cons (Sc.b _ : Sc (.b r1)) (.cons h3 (.cons h3 (.cons h3 (.cons (spec_l04One_ok v_s.fDen r4 h5) (.cons (Sc.b _ : Sc (.b r4)) (.cons h3 (.cons h6 (.cons (spec_l03Add_ok v_r.fNum v_s.fNum r7 h8) (.cons (snap_full (show [[.n .i64 (1 : Int)]] = (([1] : List Int)).map eI from rfl) (show 1 = ([1] : List Int).length from rfl)) (.cons (fit_full (show [[.n .i64 (1 : Int)]] = (([1] : List Int)).map eI from rfl) (show 1 = ([1] : List Int).length from rfl)) (.cons (pure_map eI_pure ([1] : List Int)) (.cons (spec_l04Low_ok r7.fNeg r7.fMag ([1] : List Int) r9 h10) .nil))))))))))))))))
     (fun h6 =>
     .bnd fun r7 h8 =>
      .bnd fun r9 h10 =>
      .bnd fun r11 h12 =>
      .bnd fun r13 h14 =>
      .bnd fun r15 h16 =>
      .bnd fun r17 h18 =>
      .bnd fun r19 h20 =>
      .ret (runF_con0 hmix (tape := [.reg [nt, nt, nt], .reg [nt, nt, (.call { ac := [ii], r := .b r1, sc := true }, true), nt, nt, nt, (.call { ac := [ii], r := .b r4, sc := true }, true), (.br true, true)], .br false, .reg [nt, nt, nt, nt, nt, nt, nt, nt, (.call { ac := [ii, ii], r := .isl 1 (r7.map eI), sc := false }, true), (.call { ac := [ii, ii], r := .agg [.b r9.fNeg, .isl 1 (r9.fMag.map eI)], sc := false }, true), nt, nt], .reg [nt, nt, nt, nt, nt, nt, nt, nt, (.call { ac := [ii, ii], r := .isl 1 (r11.map eI), sc := false }, true), (.call { ac := [ii, ii], r := .agg [.b r13.fNeg, .isl 1 (r13.fMag.map eI)], sc := false }, true), nt, nt], .reg [nt, nt, (.call { ac := [ii, ii], r := .agg [.b r15.fNeg, .isl 1 (r15.fMag.map eI)], sc := false }, true), nt, nt], .reg [nt, nt, nt, nt, nt, nt, nt, nt, (.call { ac := [ii, ii], r := .isl 1 (r17.map eI), sc := false }, true), (.call { ac := [ii, ii, ii], r := .agg [.b r19.fNum.fNeg, .isl 1 (r19.fNum.fMag.map eI), .isl 1 (r19.fDen.map eI)], sc := false }, true), nt]]) (rr := ii) (by kernel_rfl) (.cons (spec_l04One_ok v_r.fDen r1 h2) (.cons (Sc.b _ : Sc (.b r1)) (.cons h3 (.cons h3 (.cons h3 (.cons (spec_l04One_ok v_s.fDen r4 h5) (.cons (Sc.b _ : Sc (.b r4)) (.cons h3 (.cons h6 (.cons (spec_l02Mul_ok v_r.fNum.fMag v_s.fDen r7 h8) (.cons (spec_l03Make_ok v_r.fNum.fNeg r7 r9 h10) (.cons (spec_l02Mul_ok v_s.fNum.fMag v_r.fDen r11 h12) (.cons (spec_l03Make_ok v_s.fNum.fNeg r11 r13 h14) (.cons (spec_l03Add_ok r9 r13 r15 h16) (.cons (spec_l02Mul_ok v_r.fDen v_s.fDen r17 h18) (.cons (spec_l04Low_ok r15.fNeg r15.fMag r17 r19 h20) .nil)))))))))))))))))))
    (fun h3 =>
    .bnd fun r4 h5 =>
     .bnd fun r6 h7 =>
     .bnd fun r8 h9 =>
     .bnd fun r10 h11 =>
     .bnd fun r12 h13 =>
     .bnd fun r14 h15 =>
     .bnd fun r16 h17 =>
     .ret (runF_con0 hmix (tape := [.reg [nt, nt, nt], .reg [nt, nt, (.call { ac := [ii], r := .b r1, sc := true }, true), nt, nf, nf, nf, (.br false, true)], .br false, .reg [nt, nt, nt, nt, nt, nt, nt, nt, (.call { ac := [ii, ii], r := .isl 1 (r4.map eI), sc := false }, true), (.call { ac := [ii, ii], r := .agg [.b r6.fNeg, .isl 1 (r6.fMag.map eI)], sc := false }, true), nt, nt], .reg [nt, nt, nt, nt, nt, nt, nt, nt, (.call { ac := [ii, ii], r := .isl 1 (r8.map eI), sc := false }, true), (.call { ac := [ii, ii], r := .agg [.b r10.fNeg, .isl 1 (r10.fMag.map eI)], sc := false }, true), nt, nt], .reg [nt, nt, (.call { ac := [ii, ii], r := .agg [.b r12.fNeg, .isl 1 (r12.fMag.map eI)], sc := false }, true), nt, nt], .reg [nt, nt, nt, nt, nt, nt, nt, nt, (.call { ac := [ii, ii], r := .isl 1 (r14.map eI), sc := false }, true), (.call { ac := [ii, ii, ii], r := .agg [.b r16.fNum.fNeg, .isl 1 (r16.fNum.fMag.map eI), .isl 1 (r16.fDen.map eI)], sc := false }, true), nt]]) (rr := ii) (by kernel_rfl) (.cons (spec_l04One_ok v_r.fDen r1 h2) (.cons (Sc.b _ : Sc (.b r1)) (.cons h3 (.cons h3 (.cons h3 (.cons h3 (.cons (rfl : false = false) (.cons (spec_l02Mul_ok v_r.fNum.fMag v_s.fDen r4 h5) (.cons (spec_l03Make_ok v_r.fNum.fNeg r4 r6 h7) (.cons (spec_l02Mul_ok v_s.fNum.fMag v_r.fDen r8 h9) (.cons (spec_l03Make_ok v_s.fNum.fNeg r8 r10 h11) (.cons (spec_l03Add_ok r6 r10 r12 h13) (.cons (spec_l02Mul_ok v_r.fDen v_s.fDen r14 h15) (.cons (spec_l04Low_ok r12.fNeg r12.fMag r14 r16 h17) .nil))))))))))))))))

def spec_RatSub (v_r : TRat) (v_s : TRat) : Option TRat :=
  spec_RatOk v_r >>= fun r1 =>
  if r1 = true then
    spec_RatOk v_s >>= fun r4 =>
    if r4 = true then
      spec_l04Neg v_s >>= fun r7 =>
      spec_l04Add v_r r7 >>= fun r9 =>
      some r9
    else
      some (⟨(⟨false, ([] : List Int)⟩ : TBigInt), ([] : List Int)⟩ : TRat)
  else
    some (⟨(⟨false, ([] : List Int)⟩ : TBigInt), ([] : List Int)⟩ : TRat)

theorem spec_RatSub_ok (v_r : TRat) (v_s : TRat) : Wp (spec_RatSub v_r v_s) (fun r => Con PP 25 [.agg [.b v_r.fNum.fNeg, .isl 1 (v_r.fNum.fMag.map eI), .isl 1 (v_r.fDen.map eI)], .agg [.b v_s.fNum.fNeg, .isl 1 (v_s.fNum.fMag.map eI), .isl 1 (v_s.fDen.map eI)]] [] (.agg [.b r.fNum.fNeg, .isl 1 (r.fNum.fMag.map eI), .isl 1 (r.fDen.map eI)]) []) := by
  unfold spec_RatSub
  exact .bnd fun r1 h2 =>
    .ite (fun h3 =>
    .bnd fun r4 h5 =>
     .ite (fun h6 =>
     .bnd fun r7 h8 =>
      .bnd fun r9 h10 =>
      .ret (runF_con0 hmix (tape := [.reg [nt, nt, nt], .reg [nt, (.call { ac := [ii], r := .b r1, sc := true }, true), nt, nt, nt, (.call { ac := [ii], r := .b r4, sc := true }, true), nt, (.br false, true)], .br false, .reg [nt, nt, (.call { ac := [ii], r := .agg [.b r7.fNum.fNeg, .isl 1 (r7.fNum.fMag.map eI), .isl 1 (r7.fDen.map eI)], sc := false }, true), (.call { ac := [ii, ii], r := .agg [.b r9.fNum.fNeg, .isl 1 (r9.fNum.fMag.map eI), .isl 1 (r9.fDen.map eI)], sc := false }, true), nt]]) (rr := ii) (by kernel_rfl) (.cons (spec_RatOk_ok v_r r1 h2) (.cons (Sc.b _ : Sc (.b r1)) (.cons (not_t h3) (.cons (not_t h3) (.cons (spec_RatOk_ok v_s r4 h5) (.cons (Sc.b _ : Sc (.b r4)) (.cons (not_t h3) (.cons (not_t h3) (.cons (not_t h6) (.cons (spec_l04Neg_ok v_s r7 h8) (.cons (spec_l04Add_ok v_r r7 r9 h10) .nil)))))))))))))
     (fun h6 =>
     .ret (runF_con0 hmix (tape := [.reg [nt, nt, nt], .reg [nt, (.call { ac := [ii], r := .b r1, sc := true }, true), nt, nt, nt, (.call { ac := [ii], r := .b r4, sc := true }, true), nt, (.br false, true)], .br true, .reg [nt, nt]]) (rr := .c1 (.agg [.id, .nl 1, .nl 1])) (by kernel_rfl) (.cons (spec_RatOk_ok v_r r1 h2) (.cons (Sc.b _ : Sc (.b r1)) (.cons (not_t h3) (.cons (not_t h3) (.cons (spec_RatOk_ok v_s r4 h5) (.cons (Sc.b _ : Sc (.b r4)) (.cons (not_t h3) (.cons (not_t h3) (.cons (not_f h6) .nil))))))))))))
    (fun h3 =>
    .ret (runF_con0 hmix (tape := [.reg [nt, nt, nt], .reg [nt, (.call { ac := [ii], r := .b r1, sc := true }, true), nt, nt, nf, nf, nf, (.br true, true)], .br true, .reg [nt, nt]]) (rr := .c1 (.agg [.id, .nl 1, .nl 1])) (by kernel_rfl) (.cons (spec_RatOk_ok v_r r1 h2) (.cons (Sc.b _ : Sc (.b r1)) (.cons (not_f h3) (.cons (not_f h3) (.cons (not_f h3) (.cons (not_f h3) (.cons (rfl : true = true) .nil)))))))))

def spec_l04Mul (v_r : TRat) (v_s : TRat) : Option TRat :=
  spec_l02Mul v_r.fNum.fMag v_s.fNum.fMag >>= fun r1 =>
  spec_l02Mul v_r.fDen v_s.fDen >>= fun r3 =>
  spec_l04Low (!(v_r.fNum.fNeg == v_s.fNum.fNeg)) r1 r3 >>= fun r5 =>
  some r5

theorem spec_l04Mul_ok (v_r : TRat) (v_s : TRat) : Wp (spec_l04Mul v_r v_s) (fun r => Con PP 54 [.agg [.b v_r.fNum.fNeg, .isl 1 (v_r.fNum.fMag.map eI), .isl 1 (v_r.fDen.map eI)], .agg [.b v_s.fNum.fNeg, .isl 1 (v_s.fNum.fMag.map eI), .isl 1 (v_s.fDen.map eI)]] [] (.agg [.b r.fNum.fNeg, .isl 1 (r.fNum.fMag.map eI), .isl 1 (r.fDen.map eI)]) []) := by
  unfold spec_l04Mul
  exact .bnd fun r1 h2 =>
    .bnd fun r3 h4 =>
    .bnd fun r5 h6 =>
    .ret (runF_con0 hmix (tape := [.reg [nt, nt, nt], .reg [nt, nt, nt, nt, nt, nt, nt, nt, nt, nt, nt, nt, nt, (.call { ac := [ii, ii], r := .isl 1 (r1.map eI), sc := false }, true), nt, nt, nt, nt, (.call { ac := [ii, ii], r := .isl 1 (r3.map eI), sc := false }, true), (.call { ac := [ii, ii, ii], r := .agg [.b r5.fNum.fNeg, .isl 1 (r5.fNum.fMag.map eI), .isl 1 (r5.fDen.map eI)], sc := false }, true), nt]]) (rr := ii) (by kernel_rfl) (.cons (spec_l02Mul_ok v_r.fNum.fMag v_s.fNum.fMag r1 h2) (.cons (spec_l02Mul_ok v_r.fDen v_s.fDen r3 h4) (.cons (spec_l04Low_ok (!(v_r.fNum.fNeg == v_s.fNum.fNeg)) r1 r3 r5 h6) .nil))))

def spec_RatMul (v_r : TRat) (v_s : TRat) : Option TRat :=
  spec_RatOk v_r >>= fun r1 =>
  if r1 = true then
    spec_RatOk v_s >>= fun r4 =>
    if r4 = true then
      spec_l04Mul v_r v_s >>= fun r7 =>
      some r7
    else
      some (⟨(⟨false, ([] : List Int)⟩ : TBigInt), ([] : List Int)⟩ : TRat)
  else
    some (⟨(⟨false, ([] : List Int)⟩ : TBigInt), ([] : List Int)⟩ : TRat)

theorem spec_RatMul_ok (v_r : TRat) (v_s : TRat) : Wp (spec_RatMul v_r v_s) (fun r => Con PP 24 [.agg [.b v_r.fNum.fNeg, .isl 1 (v_r.fNum.fMag.map eI), .isl 1 (v_r.fDen.map eI)], .agg [.b v_s.fNum.fNeg, .isl 1 (v_s.fNum.fMag.map eI), .isl 1 (v_s.fDen.map eI)]] [] (.agg [.b r.fNum.fNeg, .isl 1 (r.fNum.fMag.map eI), .isl 1 (r.fDen.map eI)]) []) := by
  unfold spec_RatMul
  exact .bnd fun r1 h2 =>
    .ite (fun h3 =>
    .bnd fun r4 h5 =>
     .ite (fun h6 =>
     .bnd fun r7 h8 =>
      .ret (runF_con0 hmix (tape := [.reg [nt, nt, nt], .reg [nt, (.call { ac := [ii], r := .b r1, sc := true }, true), nt, nt, nt, (.call { ac := [ii], r := .b r4, sc := true }, true), nt, (.br false, true)], .br false, .reg [nt, nt, (.call { ac := [ii, ii], r := .agg [.b r7.fNum.fNeg, .isl 1 (r7.fNum.fMag.map eI), .isl 1 (r7.fDen.map eI)], sc := false }, true), nt]]) (rr := ii) (by kernel_rfl) (.cons (spec_RatOk_ok v_r r1 h2) (.cons (Sc.b _ : Sc (.b r1)) (.cons (not_t h3) (.cons (not_t h3) (.cons (spec_RatOk_ok v_s r4 h5) (.cons (Sc.b _ : Sc (.b r4)) (.cons (not_t h3) (.cons (not_t h3) (.cons (not_t h6) (.cons (spec_l04Mul_ok v_r v_s r7 h8) .nil))))))))))))
     (fun h6 =>
     .ret (runF_con0 hmix (tape := [.reg [nt, nt, nt], .reg [nt, (.call { ac := [ii], r := .b r1, sc := true }, true), nt, nt, nt, (.call { ac := [ii], r := .b r4, sc := true }, true), nt, (.br false, true)], .br true, .reg [nt, nt]]) (rr := .c1 (.agg [.id, .nl 1, .nl 1])) (by kernel_rfl) (.cons (spec_RatOk_ok v_r r1 h2) (.cons (Sc.b _ : Sc (.b r1)) (.cons (not_t h3) (.cons (not_t h3) (.cons (spec_RatOk_ok v_s r4 h5) (.cons (Sc.b _ : Sc (.b r4)) (.cons (not_t h3) (.cons (not_t h3) (.cons (not_f h6) .nil))))))))))))
    (fun h3 =>
    .ret (runF_con0 hmix (tape := [.reg [nt, nt, nt], .reg [nt, (.call { ac := [ii], r := .b r1, sc := true }, true), nt, nt, nf, nf, nf, (.br true, true)], .br true, .reg [nt, nt]]) (rr := .c1 (.agg [.id, .nl 1, .nl 1])) (by kernel_rfl) (.cons (spec_RatOk_ok v_r r1 h2) (.cons (Sc.b _ : Sc (.b r1)) (.cons (not_f h3) (.cons (not_f h3) (.cons (not_f h3) (.cons (not_f h3) (.cons (rfl : true = true) .nil)))))))))

def spec_RatAdd (v_r : TRat) (v_s : TRat) : Option TRat :=
  spec_RatOk v_r >>= fun r1 =>
  if r1 = true then
    spec_RatOk v_s >>= fun r4 =>
    if r4 = true then
      spec_l04Add v_r v_s >>= fun r7 =>
      some r7
    else
      some (⟨(⟨false, ([] : List Int)⟩ : TBigInt), ([] : List Int)⟩ : TRat)
  else
    some (⟨(⟨false, ([] : List Int)⟩ : TBigInt), ([] : List Int)⟩ : TRat)

theorem spec_RatAdd_ok (v_r : TRat) (v_s : TRat) : Wp (spec_RatAdd v_r v_s) (fun r => Con PP 23 [.agg [.b v_r.fNum.fNeg, .isl 1 (v_r.fNum.fMag.map eI), .isl 1 (v_r.fDen.map eI)], .agg [.b v_s.fNum.fNeg, .isl 1 (v_s.fNum.fMag.map eI), .isl 1 (v_s.fDen.map eI)]] [] (.agg [.b r.fNum.fNeg, .isl 1 (r.fNum.fMag.map eI), .isl 1 (r.fDen.map eI)]) []) := by
  unfold spec_RatAdd
  exact .bnd fun r1 h2 =>
    .ite (fun h3 =>
    .bnd fun r4 h5 =>
     .ite (fun h6 =>
     .bnd fun r7 h8 =>
      .ret (runF_con0 hmix (tape := [.reg [nt, nt, nt], .reg [nt, (.call { ac := [ii], r := .b r1, sc := true }, true), nt, nt, nt, (.call { ac := [ii], r := .b r4, sc := true }, true), nt, (.br false, true)], .br false, .reg [nt, nt, (.call { ac := [ii, ii], r := .agg [.b r7.fNum.fNeg, .isl 1 (r7.fNum.fMag.map eI), .isl 1 (r7.fDen.map eI)], sc := false }, true), nt]]) (rr := ii) (by kernel_rfl) (.cons (spec_RatOk_ok v_r r1 h2) (.cons (Sc.b _ : Sc (.b r1)) (.cons (not_t h3) (.cons (not_t h3) (.cons (spec_RatOk_ok v_s r4 h5) (.cons (Sc.b _ : Sc (.b r4)) (.cons (not_t h3) (.cons (not_t h3) (.cons (not_t h6) (.cons (spec_l04Add_ok v_r v_s r7 h8) .nil))))))))))))
     (fun h6 =>
     .ret (runF_con0 hmix (tape := [.reg [nt, nt, nt], .reg [nt, (.call { ac := [ii], r := .b r1, sc := true }, true), nt, nt, nt, (.call { ac := [ii], r := .b r4, sc := true }, true), nt, (.br false, true)], .br true, .reg [nt, nt]]) (rr := .c1 (.agg [.id, .nl 1, .nl 1])) (by kernel_rfl) (.cons (spec_RatOk_ok v_r r1 h2) (.cons (Sc.b _ : Sc (.b r1)) (.cons (not_t h3) (.cons (not_t h3) (.cons (spec_RatOk_ok v_s r4 h5) (.cons (Sc.b _ : Sc (.b r4)) (.cons (not_t h3) (.cons (not_t h3) (.cons (not_f h6) .nil))))))))))))
    (fun h3 =>
    .ret (runF_con0 hmix (tape := [.reg [nt, nt, nt], .reg [nt, (.call { ac := [ii], r := .b r1, sc := true }, true), nt, nt, nf, nf, nf, (.br true, true)], .br true, .reg [nt, nt]]) (rr := .c1 (.agg [.id, .nl 1, .nl 1])) (by kernel_rfl) (.cons (spec_RatOk_ok v_r r1 h2) (.cons (Sc.b _ : Sc (.b r1)) (.cons (not_f h3) (.cons (not_f h3) (.cons (not_f h3) (.cons (not_f h3) (.cons (rfl : true = true) .nil)))))))))

def spec_RatSign (v_r : TRat) : Option Int :=
  spec_RatOk v_r >>= fun r1 =>
  if r1 = true then
    if ((len_ eI v_r.fNum.fMag) == (0 : Int)) = true then
      some 0
    else
      if v_r.fNum.fNeg = true then
        some (-1)
      else
        some 1
  else
    some 0

theorem spec_RatSign_ok (v_r : TRat) : Wp (spec_RatSign v_r) (fun r => Con PP 27 [.agg [.b v_r.fNum.fNeg, .isl 1 (v_r.fNum.fMag.map eI), .isl 1 (v_r.fDen.map eI)]] [] (.n .i64 r) []) := by
  unfold spec_RatSign
  exact .bnd fun r1 h2 =>
    .ite (fun h3 =>
    .ite (fun h4 =>
     .ret (runF_con0 hmix (tape := [.reg [nt, nt], .reg [nt, (.call { ac := [ii], r := .b r1, sc := true }, true), nt, nt, nt, nt, nt, nt, nt, (.br false, true), nt], .br true, .reg [nt]]) (rr := ii) (by kernel_rfl) (.cons (spec_RatOk_ok v_r r1 h2) (.cons (Sc.b _ : Sc (.b r1)) (.cons (not_t h3) (.cons (not_t h3) (.cons (not_t h3) (.cons (not_t h3) (.cons (not_t h3) (.cons (not_t h3) (.cons h4 .nil)))))))))))
     (fun h4 =>
     .ite (fun h5 =>
      .ret (runF_con0 hmix (tape := [.reg [nt, nt], .reg [nt, (.call { ac := [ii], r := .b r1, sc := true }, true), nt, nt, nt, nt, nt, nt, nt, (.br false, true), nt], .br false, .reg [nt, nt, nt, nt], .br true, .reg [nt]]) (rr := ii) (by kernel_rfl) (.cons (spec_RatOk_ok v_r r1 h2) (.cons (Sc.b _ : Sc (.b r1)) (.cons (not_t h3) (.cons (not_t h3) (.cons (not_t h3) (.cons (not_t h3) (.cons (not_t h3) (.cons (not_t h3) (.cons h4 (.cons h5 .nil))))))))))))
      (fun h5 =>
      .ret (runF_con0 hmix (tape := [.reg [nt, nt], .reg [nt, (.call { ac := [ii], r := .b r1, sc := true }, true), nt, nt, nt, nt, nt, nt, nt, (.br false, true), nt], .br false, .reg [nt, nt, nt, nt], .br false, .reg [nt]]) (rr := ii) (by kernel_rfl) (.cons (spec_RatOk_ok v_r r1 h2) (.cons (Sc.b _ : Sc (.b r1)) (.cons (not_t h3) (.cons (not_t h3) (.cons (not_t h3) (.cons (not_t h3) (.cons (not_t h3) (.cons (not_t h3) (.cons h4 (.cons h5 .nil))))))))))))))
    (fun h3 =>
    .ret (runF_con0 hmix (tape := [.reg [nt, nt], .reg [nt, (.call { ac := [ii], r := .b r1, sc := true }, true), nt, nt, nf, nf, nf, nf, nf, (.br true, true), nt], .br true, .reg [nt]]) (rr := ii) (by kernel_rfl) (.cons (spec_RatOk_ok v_r r1 h2) (.cons (Sc.b _ : Sc (.b r1)) (.cons (not_f h3) (.cons (not_f h3) (.cons (not_f h3) (.cons (not_f h3) (.cons (not_f h3) (.cons (not_f h3) (.cons (rfl : true = true) .nil)))))))))))

def spec_IsForm_L1_head (v_l : (List Int)) (v_q : (List TRat)) (v_places : (List TRat)) (v_t34 : (List TJoint)) (v_t35 : Int) (box0_' : (List TMember)) (v_t36 : Int) : S := mkS [(1, .isl 1 (v_l.map eI)), (2, .isl 3 (v_q.map eTRat)), (3, .isl 3 (v_places.map eTRat)), (4, .ref 0 0 0 0), (34, .isl 4 (v_t34.map eTJoint)), (35, .n .i64 v_t35), (36, .n .i64 v_t36)] [[Ob.mk 2 [[.isl 4 (v_t34.map eTJoint), .isl 3 (box0_'.map eTMember)]] .live]]

def spec_IsForm_L1_ex : ((Unit) ⊕ (Unit)) → Exit
  | .inl _ => .exit 0
  | .inr _ => .ret

def spec_IsForm_L1_out (v_l : (List Int)) (v_q : (List TRat)) (v_places : (List TRat)) (v_t34 : (List TJoint)) (v_t35 : Int) (box0_' : (List TMember)) : ((Unit) ⊕ (Unit)) → S
  | .inl a => mkS [(1, .isl 1 (v_l.map eI)), (2, .isl 3 (v_q.map eTRat)), (3, .isl 3 (v_places.map eTRat)), (4, .ref 0 0 0 0)] [[Ob.mk 2 [[.isl 4 (v_t34.map eTJoint), .isl 3 (box0_'.map eTMember)]] .live]]
  | .inr a => mkS [(8, .b false)] []

def spec_IsForm_L1_body (v_l : (List Int)) (v_q : (List TRat)) (v_places : (List TRat)) (v_t34 : (List TJoint)) (v_t35 : Int) (box0_' : (List TMember)) (v_t36 : Int) : Option ((Int) ⊕ ((Unit) ⊕ (Unit))) :=
  if (decide (v_t36 < v_t35)) = true then
    if 0 ≤ v_t36 ∧ v_t36 < v_t34.length then
    v_t34[v_t36.toNat]? >>= fun x3 =>
    if x3.fFixed = true then
      if 0 ≤ (w64 ((2 : Int) * v_t36)) ∧ (w64 ((2 : Int) * v_t36)) < v_places.length then
      v_places[(w64 ((2 : Int) * v_t36)).toNat]? >>= fun x7 =>
      spec_RatFromInt x3.fX >>= fun r9 =>
      spec_RatEqual x7 r9 >>= fun r11 =>
      if r11 = true then
        if 0 ≤ (w64 ((w64 ((2 : Int) * v_t36)) + (1 : Int))) ∧ (w64 ((w64 ((2 : Int) * v_t36)) + (1 : Int))) < v_places.length then
        v_places[(w64 ((w64 ((2 : Int) * v_t36)) + (1 : Int))).toNat]? >>= fun x15 =>
        spec_RatFromInt x3.fY >>= fun r17 =>
        spec_RatEqual x15 r17 >>= fun r19 =>
        if r19 = true then
          some (.inl (w64 (v_t36 + (1 : Int))))
        else
          some (.inr (.inr ()))
        else none
      else
        some (.inr (.inr ()))
      else none
    else
      some (.inl (w64 (v_t36 + (1 : Int))))
    else none
  else
    some (.inr (.inl ()))

def spec_IsForm_L1 (v_l : (List Int)) (v_q : (List TRat)) (v_places : (List TRat)) (v_t34 : (List TJoint)) (v_t35 : Int) (box0_' : (List TMember)) (v_t36 : Int) : Option ((Unit) ⊕ (Unit)) := iter (fun w : Int => spec_IsForm_L1_body v_l v_q v_places v_t34 v_t35 box0_' w) v_t36

theorem spec_IsForm_L1_body_ok (v_l : (List Int)) (v_q : (List TRat)) (v_places : (List TRat)) (v_t34 : (List TJoint)) (v_t35 : Int) (box0_' : (List TMember)) (v_t36 : Int) : Wp (spec_IsForm_L1_body v_l v_q v_places v_t34 v_t35 box0_' v_t36) (Sum.elim
    (fun w => VEx PP 160 0 (nodeAt (bodyOf PP 6) [1, 1, 0, 1, 0, 0]) .normal (spec_IsForm_L1_head v_l v_q v_places v_t34 v_t35 box0_' v_t36) (spec_IsForm_L1_head v_l v_q v_places v_t34 v_t35 box0_' w))
    (fun r => VEx PP 160 0 (nodeAt (bodyOf PP 6) [1, 1, 0, 1, 0, 0]) (spec_IsForm_L1_ex r) (spec_IsForm_L1_head v_l v_q v_places v_t34 v_t35 box0_' v_t36) (spec_IsForm_L1_out v_l v_q v_places v_t34 v_t35 box0_' r))) := by
  unfold spec_IsForm_L1_body
  exact .ite (fun h1 =>
      .grd fun h2 =>
       .bnd fun x3 h4 =>
       .ite (fun h5 =>
       .grd fun h6 =>
        .bnd fun x7 h8 =>
        .bnd fun r9 h10 =>
        .bnd fun r11 h12 =>
        .ite (fun h13 =>
        .grd fun h14 =>
         .bnd fun x15 h16 =>
         .bnd fun r17 h18 =>
         .bnd fun r19 h20 =>
         .ite (fun h21 =>
         .ret ((okC_sound hmix (tape := [.reg [nt], .br true, .reg [nt, nt, (.el (eTJoint x3), true), nt, nt, nt], .reg [nt, nt, nt, nt, nt, nt, nt, (.el (eTRat x7), true), nt, nt, (.call { ac := [ii], r := .agg [.b r9.fNum.fNeg, .isl 1 (r9.fNum.fMag.map eI), .isl 1 (r9.fDen.map eI)], sc := false }, true), (.call { ac := [ii, ii], r := .b r11, sc := true }, true), nt, nt, nt, nt, nt, nt, nt, (.el (eTRat x15), true), nt, nt, (.call { ac := [ii], r := .agg [.b r17.fNum.fNeg, .isl 1 (r17.fNum.fMag.map eI), .isl 1 (r17.fDen.map eI)], sc := false }, true), (.call { ac := [ii, ii], r := .b r19, sc := true }, true), nt, (.br false, true), (.br true, true)], .br false, .reg [nt, nt], .rst [0] [.box [.id, .id]] [(1, ii), (2, ii), (3, ii), (4, ii), (34, ii), (35, ii), (36, ii)]]) (nr := 1) (by kernel_rfl) (.cons h1 (.cons ((h2).1) (.cons (lt_mapI (h2).2 : v_t36 < ((v_t34.map eTJoint).length : Nat)) (.cons (map_get h4 : (v_t34.map eTJoint)[v_t36.toNat]? = some (eTJoint x3)) (.cons h5 (.cons h5 (.cons h5 (.cons h5 (.cons ((h6).1) (.cons (lt_mapI (h6).2 : (w64 ((2 : Int) * v_t36)) < ((v_places.map eTRat).length : Nat)) (.cons h5 (.cons (map_get h8 : (v_places.map eTRat)[(w64 ((2 : Int) * v_t36)).toNat]? = some (eTRat x7)) (.cons h5 (.cons h5 (.cons h5 (.cons (spec_RatFromInt_ok x3.fX r9 h10) (.cons h5 (.cons (spec_RatEqual_ok x7 r9 r11 h12) (.cons (Sc.b _ : Sc (.b r11)) (.cons h5 (.cons h5 (.cons (not_t h13) (.cons (not_t h13) (.cons (not_t h13) (.cons (not_t h13) (.cons (not_t h13) (.cons ((h14).1) (.cons (lt_mapI (h14).2 : (w64 ((w64 ((2 : Int) * v_t36)) + (1 : Int))) < ((v_places.map eTRat).length : Nat)) (.cons (not_t h13) (.cons (map_get h16 : (v_places.map eTRat)[(w64 ((w64 ((2 : Int) * v_t36)) + (1 : Int))).toNat]? = some (eTRat x15)) (.cons (not_t h13) (.cons (not_t h13) (.cons (not_t h13) (.cons (spec_RatFromInt_ok x3.fY r17 h18) (.cons (not_t h13) (.cons (spec_RatEqual_ok x15 r17 r19 h20) (.cons (Sc.b _ : Sc (.b r19)) (.cons (not_t h13) (.cons h5 (.cons (not_t h13) (.cons h5 (.cons (not_t h21) .nil)))))))))))))))))))))))))))))))))))))))))) (mkS_free _ _) : VEx PP 160 0 (nodeAt (bodyOf PP 6) [1, 1, 0, 1, 0, 0]) .normal (spec_IsForm_L1_head v_l v_q v_places v_t34 v_t35 box0_' v_t36) (spec_IsForm_L1_head v_l v_q v_places v_t34 v_t35 box0_' (w64 (v_t36 + (1 : Int)))))))
         (fun h21 =>
         .ret ((okC_sound hmix (tape := [.reg [nt], .br true, .reg [nt, nt, (.el (eTJoint x3), true), nt, nt, nt], .reg [nt, nt, nt, nt, nt, nt, nt, (.el (eTRat x7), true), nt, nt, (.call { ac := [ii], r := .agg [.b r9.fNum.fNeg, .isl 1 (r9.fNum.fMag.map eI), .isl 1 (r9.fDen.map eI)], sc := false }, true), (.call { ac := [ii, ii], r := .b r11, sc := true }, true), nt, nt, nt, nt, nt, nt, nt, (.el (eTRat x15), true), nt, nt, (.call { ac := [ii], r := .agg [.b r17.fNum.fNeg, .isl 1 (r17.fNum.fMag.map eI), .isl 1 (r17.fDen.map eI)], sc := false }, true), (.call { ac := [ii, ii], r := .b r19, sc := true }, true), nt, (.br false, true), (.br true, true)], .br true, .reg [nt], .rst [] [] [(8, ii)]]) (nr := 1) (by kernel_rfl) (.cons h1 (.cons ((h2).1) (.cons (lt_mapI (h2).2 : v_t36 < ((v_t34.map eTJoint).length : Nat)) (.cons (map_get h4 : (v_t34.map eTJoint)[v_t36.toNat]? = some (eTJoint x3)) (.cons h5 (.cons h5 (.cons h5 (.cons h5 (.cons ((h6).1) (.cons (lt_mapI (h6).2 : (w64 ((2 : Int) * v_t36)) < ((v_places.map eTRat).length : Nat)) (.cons h5 (.cons (map_get h8 : (v_places.map eTRat)[(w64 ((2 : Int) * v_t36)).toNat]? = some (eTRat x7)) (.cons h5 (.cons h5 (.cons h5 (.cons (spec_RatFromInt_ok x3.fX r9 h10) (.cons h5 (.cons (spec_RatEqual_ok x7 r9 r11 h12) (.cons (Sc.b _ : Sc (.b r11)) (.cons h5 (.cons h5 (.cons (not_t h13) (.cons (not_t h13) (.cons (not_t h13) (.cons (not_t h13) (.cons (not_t h13) (.cons ((h14).1) (.cons (lt_mapI (h14).2 : (w64 ((w64 ((2 : Int) * v_t36)) + (1 : Int))) < ((v_places.map eTRat).length : Nat)) (.cons (not_t h13) (.cons (map_get h16 : (v_places.map eTRat)[(w64 ((w64 ((2 : Int) * v_t36)) + (1 : Int))).toNat]? = some (eTRat x15)) (.cons (not_t h13) (.cons (not_t h13) (.cons (not_t h13) (.cons (spec_RatFromInt_ok x3.fY r17 h18) (.cons (not_t h13) (.cons (spec_RatEqual_ok x15 r17 r19 h20) (.cons (Sc.b _ : Sc (.b r19)) (.cons (not_t h13) (.cons h5 (.cons (not_t h13) (.cons h5 (.cons (not_f h21) .nil)))))))))))))))))))))))))))))))))))))))))) (mkS_free _ _) : VEx PP 160 0 (nodeAt (bodyOf PP 6) [1, 1, 0, 1, 0, 0]) (.ret) (spec_IsForm_L1_head v_l v_q v_places v_t34 v_t35 box0_' v_t36) (spec_IsForm_L1_out v_l v_q v_places v_t34 v_t35 box0_' (.inr ()))))))
        (fun h13 =>
        .ret ((okC_sound hmix (tape := [.reg [nt], .br true, .reg [nt, nt, (.el (eTJoint x3), true), nt, nt, nt], .reg [nt, nt, nt, nt, nt, nt, nt, (.el (eTRat x7), true), nt, nt, (.call { ac := [ii], r := .agg [.b r9.fNum.fNeg, .isl 1 (r9.fNum.fMag.map eI), .isl 1 (r9.fDen.map eI)], sc := false }, true), (.call { ac := [ii, ii], r := .b r11, sc := true }, true), nt, nt, nf, nf, nf, nf, nf, nf, nf, nf, nf, nf, nf, (.br true, true), (.br true, true)], .br true, .reg [nt], .rst [] [] [(8, ii)]]) (nr := 1) (by kernel_rfl) (.cons h1 (.cons ((h2).1) (.cons (lt_mapI (h2).2 : v_t36 < ((v_t34.map eTJoint).length : Nat)) (.cons (map_get h4 : (v_t34.map eTJoint)[v_t36.toNat]? = some (eTJoint x3)) (.cons h5 (.cons h5 (.cons h5 (.cons h5 (.cons ((h6).1) (.cons (lt_mapI (h6).2 : (w64 ((2 : Int) * v_t36)) < ((v_places.map eTRat).length : Nat)) (.cons h5 (.cons (map_get h8 : (v_places.map eTRat)[(w64 ((2 : Int) * v_t36)).toNat]? = some (eTRat x7)) (.cons h5 (.cons h5 (.cons h5 (.cons (spec_RatFromInt_ok x3.fX r9 h10) (.cons h5 (.cons (spec_RatEqual_ok x7 r9 r11 h12) (.cons (Sc.b _ : Sc (.b r11)) (.cons h5 (.cons h5 (.cons (not_f h13) (.cons (not_f h13) (.cons (not_f h13) (.cons (not_f h13) (.cons (not_f h13) (.cons (not_f h13) (.cons (not_f h13) (.cons (not_f h13) (.cons (not_f h13) (.cons (not_f h13) (.cons (not_f h13) (.cons h5 (.cons (not_f h13) (.cons h5 (.cons (rfl : true = true) .nil)))))))))))))))))))))))))))))))))))) (mkS_free _ _) : VEx PP 160 0 (nodeAt (bodyOf PP 6) [1, 1, 0, 1, 0, 0]) (.ret) (spec_IsForm_L1_head v_l v_q v_places v_t34 v_t35 box0_' v_t36) (spec_IsForm_L1_out v_l v_q v_places v_t34 v_t35 box0_' (.inr ()))))))
       (fun h5 =>
       .ret ((okC_sound hmix (tape := [.reg [nt], .br true, .reg [nt, nt, (.el (eTJoint x3), true), nt, nt, nt], .reg [nt, nt, nt, nf, nf, nf, nf, nf, nf, nf, nf, nf, nf, nf, nt, nt, nt, nt, nt, nt, nt, nt, nt, nt, nt, nf, (.br false, true)], .br false, .reg [nt, nt], .rst [0] [.box [.id, .id]] [(1, ii), (2, ii), (3, ii), (4, ii), (34, ii), (35, ii), (36, ii)]]) (nr := 1) (by kernel_rfl) (.cons h1 (.cons ((h2).1) (.cons (lt_mapI (h2).2 : v_t36 < ((v_t34.map eTJoint).length : Nat)) (.cons (map_get h4 : (v_t34.map eTJoint)[v_t36.toNat]? = some (eTJoint x3)) (.cons h5 (.cons h5 (.cons h5 (.cons h5 (.cons h5 (.cons h5 (.cons h5 (.cons h5 (.cons h5 (.cons h5 (.cons h5 (.cons h5 (.cons h5 (.cons (rfl : false = false) .nil)))))))))))))))))) (mkS_free _ _) : VEx PP 160 0 (nodeAt (bodyOf PP 6) [1, 1, 0, 1, 0, 0]) .normal (spec_IsForm_L1_head v_l v_q v_places v_t34 v_t35 box0_' v_t36) (spec_IsForm_L1_head v_l v_q v_places v_t34 v_t35 box0_' (w64 (v_t36 + (1 : Int))))))))
      (fun h1 =>
      .ret ((okC_sound hmix (tape := [.reg [nt], .br false, .rst [0] [.box [.id, .id]] [(1, ii), (2, ii), (3, ii), (4, ii)]]) (nr := 1) (by kernel_rfl) (.cons h1 .nil) (mkS_free _ _) : VEx PP 160 0 (nodeAt (bodyOf PP 6) [1, 1, 0, 1, 0, 0]) (.exit 0) (spec_IsForm_L1_head v_l v_q v_places v_t34 v_t35 box0_' v_t36) (spec_IsForm_L1_out v_l v_q v_places v_t34 v_t35 box0_' (.inl ())))))

theorem spec_IsForm_L1_ok (v_l : (List Int)) (v_q : (List TRat)) (v_places : (List TRat)) (v_t34 : (List TJoint)) (v_t35 : Int) (box0_' : (List TMember)) (v_t36 : Int) : ∀ r, spec_IsForm_L1 v_l v_q v_places v_t34 v_t35 box0_' v_t36 = some r → VLoop PP 160 0 (nodeAt (bodyOf PP 6) [1, 1, 0, 1, 0, 0]) (spec_IsForm_L1_ex r) (spec_IsForm_L1_head v_l v_q v_places v_t34 v_t35 box0_' v_t36) (spec_IsForm_L1_out v_l v_q v_places v_t34 v_t35 box0_' r) := fun r h =>
  iter_ok (head := fun w : Int => spec_IsForm_L1_head v_l v_q v_places v_t34 v_t35 box0_' w) (ex := spec_IsForm_L1_ex) (out := spec_IsForm_L1_out v_l v_q v_places v_t34 v_t35 box0_') (by intro r; unfold spec_IsForm_L1_ex; split <;> simp) (fun w => spec_IsForm_L1_body_ok v_l v_q v_places v_t34 v_t35 box0_' w) v_t36 r h

def spec_IsForm_L6_head (v_l : (List Int)) (v_q : (List TRat)) (v_places : (List TRat)) (v_i : Int) (v_axis : Int) (v_t70 : (List Int)) (v_t71 : Int) (v_t72 : Int) (v_t89 : (List TMember)) (v_t90 : Int) (box0_ : (List TJoint)) (v_t91 : Int) (box1_ : Bool) (box1_' : (List Int)) (box1_'' : (List Int)) : S := mkS [(1, .isl 1 (v_l.map eI)), (2, .isl 3 (v_q.map eTRat)), (3, .isl 3 (v_places.map eTRat)), (4, .ref 0 0 0 0), (12, .n .i64 v_i), (13, .n .i64 v_axis), (14, .ref 1 0 0 0), (70, .isl 1 (v_t70.map eI)), (71, .n .i64 v_t71), (72, .n .i64 v_t72), (89, .isl 3 (v_t89.map eTMember)), (90, .n .i64 v_t90), (91, .n .i64 v_t91)] [[Ob.mk 2 [[.isl 4 (box0_.map eTJoint), .isl 3 (v_t89.map eTMember)]] .live], [Ob.mk 3 [[.b box1_, .isl 1 (box1_'.map eI), .isl 1 (box1_''.map eI)]] .live]]

def spec_IsForm_L6_ex : (Bool × (List Int) × (List Int)) → Exit
  | _ => .exit 6

def spec_IsForm_L6_out (v_l : (List Int)) (v_q : (List TRat)) (v_places : (List TRat)) (v_i : Int) (v_axis : Int) (v_t70 : (List Int)) (v_t71 : Int) (v_t72 : Int) (v_t89 : (List TMember)) (v_t90 : Int) (box0_ : (List TJoint)) : (Bool × (List Int) × (List Int)) → S
  | a => mkS [(1, .isl 1 (v_l.map eI)), (2, .isl 3 (v_q.map eTRat)), (3, .isl 3 (v_places.map eTRat)), (4, .ref 0 0 0 0), (12, .n .i64 v_i), (13, .n .i64 v_axis), (14, .ref 1 0 0 0), (70, .isl 1 (v_t70.map eI)), (71, .n .i64 v_t71), (72, .n .i64 v_t72)] [[Ob.mk 2 [[.isl 4 (box0_.map eTJoint), .isl 3 (v_t89.map eTMember)]] .live], [Ob.mk 3 [[.b a.1, .isl 1 (a.2.1.map eI), .isl 1 (a.2.2.map eI)]] .live]]

def spec_IsForm_L6_body (v_l : (List Int)) (v_q : (List TRat)) (v_places : (List TRat)) (v_i : Int) (v_axis : Int) (v_t70 : (List Int)) (v_t71 : Int) (v_t72 : Int) (v_t89 : (List TMember)) (v_t90 : Int) (box0_ : (List TJoint)) (v_t91 : Int) (box1_ : Bool) (box1_' : (List Int)) (box1_'' : (List Int)) : Option ((Int × Bool × (List Int) × (List Int)) ⊕ (Bool × (List Int) × (List Int))) :=
  if (decide (v_t91 < v_t90)) = true then
    if 0 ≤ v_t91 ∧ v_t91 < v_t89.length then
    v_t89[v_t91.toNat]? >>= fun x3 =>
    if (x3.fA == v_i) = true then
      if 0 ≤ v_t91 ∧ v_t91 < v_q.length then
      v_q[v_t91.toNat]? >>= fun x7 =>
      if 0 ≤ (w64 ((w64 ((2 : Int) * x3.fB)) + v_axis)) ∧ (w64 ((w64 ((2 : Int) * x3.fB)) + v_axis)) < v_places.length then
      v_places[(w64 ((w64 ((2 : Int) * x3.fB)) + v_axis)).toNat]? >>= fun x10 =>
      if 0 ≤ (w64 ((w64 ((2 : Int) * v_i)) + v_axis)) ∧ (w64 ((w64 ((2 : Int) * v_i)) + v_axis)) < v_places.length then
      v_places[(w64 ((w64 ((2 : Int) * v_i)) + v_axis)).toNat]? >>= fun x13 =>
      spec_RatSub x10 x13 >>= fun r15 =>
      spec_RatMul x7 r15 >>= fun r17 =>
      spec_RatAdd (⟨(⟨box1_, box1_'⟩ : TBigInt), box1_''⟩ : TRat) r17 >>= fun r19 =>
      some (.inl (w64 (v_t91 + (1 : Int)), r19.fNum.fNeg, r19.fNum.fMag, r19.fDen))
      else none
      else none
      else none
    else
      if (x3.fB == v_i) = true then
        if 0 ≤ v_t91 ∧ v_t91 < v_q.length then
        v_q[v_t91.toNat]? >>= fun x8 =>
        if 0 ≤ (w64 ((w64 ((2 : Int) * x3.fA)) + v_axis)) ∧ (w64 ((w64 ((2 : Int) * x3.fA)) + v_axis)) < v_places.length then
        v_places[(w64 ((w64 ((2 : Int) * x3.fA)) + v_axis)).toNat]? >>= fun x11 =>
        if 0 ≤ (w64 ((w64 ((2 : Int) * v_i)) + v_axis)) ∧ (w64 ((w64 ((2 : Int) * v_i)) + v_axis)) < v_places.length then
        v_places[(w64 ((w64 ((2 : Int) * v_i)) + v_axis)).toNat]? >>= fun x14 =>
        spec_RatSub x11 x14 >>= fun r16 =>
        spec_RatMul x8 r16 >>= fun r18 =>
        spec_RatAdd (⟨(⟨box1_, box1_'⟩ : TBigInt), box1_''⟩ : TRat) r18 >>= fun r20 =>
        some (.inl (w64 (v_t91 + (1 : Int)), r20.fNum.fNeg, r20.fNum.fMag, r20.fDen))
        else none
        else none
        else none
      else
        some (.inl (w64 (v_t91 + (1 : Int)), box1_, box1_', box1_''))
    else none
  else
    some (.inr (box1_, box1_', box1_''))

def spec_IsForm_L6 (v_l : (List Int)) (v_q : (List TRat)) (v_places : (List TRat)) (v_i : Int) (v_axis : Int) (v_t70 : (List Int)) (v_t71 : Int) (v_t72 : Int) (v_t89 : (List TMember)) (v_t90 : Int) (box0_ : (List TJoint)) (v_t91 : Int) (box1_ : Bool) (box1_' : (List Int)) (box1_'' : (List Int)) : Option (Bool × (List Int) × (List Int)) := iter (fun w : Int × Bool × (List Int) × (List Int) => spec_IsForm_L6_body v_l v_q v_places v_i v_axis v_t70 v_t71 v_t72 v_t89 v_t90 box0_ w.1 w.2.1 w.2.2.1 w.2.2.2) (v_t91, box1_, box1_', box1_'')

theorem spec_IsForm_L6_body_ok (v_l : (List Int)) (v_q : (List TRat)) (v_places : (List TRat)) (v_i : Int) (v_axis : Int) (v_t70 : (List Int)) (v_t71 : Int) (v_t72 : Int) (v_t89 : (List TMember)) (v_t90 : Int) (box0_ : (List TJoint)) (v_t91 : Int) (box1_ : Bool) (box1_' : (List Int)) (box1_'' : (List Int)) : Wp (spec_IsForm_L6_body v_l v_q v_places v_i v_axis v_t70 v_t71 v_t72 v_t89 v_t90 box0_ v_t91 box1_ box1_' box1_'') (Sum.elim
    (fun w => VEx PP 160 0 (nodeAt (bodyOf PP 6) [1, 1, 1, 0, 1, 0, 0, 1, 1, 0, 0, 1, 1, 0, 0, 1, 0, 0, 1, 0, 1, 0, 0]) .normal (spec_IsForm_L6_head v_l v_q v_places v_i v_axis v_t70 v_t71 v_t72 v_t89 v_t90 box0_ v_t91 box1_ box1_' box1_'') (spec_IsForm_L6_head v_l v_q v_places v_i v_axis v_t70 v_t71 v_t72 v_t89 v_t90 box0_ w.1 w.2.1 w.2.2.1 w.2.2.2))
    (fun r => VEx PP 160 0 (nodeAt (bodyOf PP 6) [1, 1, 1, 0, 1, 0, 0, 1, 1, 0, 0, 1, 1, 0, 0, 1, 0, 0, 1, 0, 1, 0, 0]) (spec_IsForm_L6_ex r) (spec_IsForm_L6_head v_l v_q v_places v_i v_axis v_t70 v_t71 v_t72 v_t89 v_t90 box0_ v_t91 box1_ box1_' box1_'') (spec_IsForm_L6_out v_l v_q v_places v_i v_axis v_t70 v_t71 v_t72 v_t89 v_t90 box0_ r))) := by
  unfold spec_IsForm_L6_body
  exact .ite (fun h1 =>
      .grd fun h2 =>
       .bnd fun x3 h4 =>
       .ite (fun h5 =>
       .grd fun h6 =>
        .bnd fun x7 h8 =>
        .grd fun h9 =>
        .bnd fun x10 h11 =>
        .grd fun h12 =>
        .bnd fun x13 h14 =>
        .bnd fun r15 h16 =>
        .bnd fun r17 h18 =>
        .bnd fun r19 h20 =>
        .ret ((okC_sound hmix (tape := [.reg [nt], .br true, .reg [nt, nt, (.el (eTMember x3), true), nt, nt, nt], .reg [nt, nt, nt, nt], .br true, .reg [nt, nt, nt, nt, (.el (eTRat x7), true), nt, nt, nt, nt, nt, nt, nt, (.el (eTRat x10), true), nt, nt, nt, nt, nt, nt, (.el (eTRat x13), true), (.call { ac := [ii, ii], r := .agg [.b r15.fNum.fNeg, .isl 1 (r15.fNum.fMag.map eI), .isl 1 (r15.fDen.map eI)], sc := false }, true), (.call { ac := [ii, ii], r := .agg [.b r17.fNum.fNeg, .isl 1 (r17.fNum.fMag.map eI), .isl 1 (r17.fDen.map eI)], sc := false }, true), (.call { ac := [ii, ii], r := .agg [.b r19.fNum.fNeg, .isl 1 (r19.fNum.fMag.map eI), .isl 1 (r19.fDen.map eI)], sc := false }, true), nt], .reg [nt, nt], .rst [0, 1] [.box [.id, .id], .box [.id, .id, .id]] [(1, ii), (2, ii), (3, ii), (4, ii), (12, ii), (13, ii), (14, ii), (70, ii), (71, ii), (72, ii), (89, ii), (90, ii), (91, ii)]]) (nr := 2) (by kernel_rfl) (.cons h1 (.cons ((h2).1) (.cons (lt_mapI (h2).2 : v_t91 < ((v_t89.map eTMember).length : Nat)) (.cons (map_get h4 : (v_t89.map eTMember)[v_t91.toNat]? = some (eTMember x3)) (.cons h5 (.cons ((h6).1) (.cons (lt_mapI (h6).2 : v_t91 < ((v_q.map eTRat).length : Nat)) (.cons (map_get h8 : (v_q.map eTRat)[v_t91.toNat]? = some (eTRat x7)) (.cons ((h9).1) (.cons (lt_mapI (h9).2 : (w64 ((w64 ((2 : Int) * x3.fB)) + v_axis)) < ((v_places.map eTRat).length : Nat)) (.cons (map_get h11 : (v_places.map eTRat)[(w64 ((w64 ((2 : Int) * x3.fB)) + v_axis)).toNat]? = some (eTRat x10)) (.cons ((h12).1) (.cons (lt_mapI (h12).2 : (w64 ((w64 ((2 : Int) * v_i)) + v_axis)) < ((v_places.map eTRat).length : Nat)) (.cons (map_get h14 : (v_places.map eTRat)[(w64 ((w64 ((2 : Int) * v_i)) + v_axis)).toNat]? = some (eTRat x13)) (.cons (spec_RatSub_ok x10 x13 r15 h16) (.cons (spec_RatMul_ok x7 r15 r17 h18) (.cons (spec_RatAdd_ok (⟨(⟨box1_, box1_'⟩ : TBigInt), box1_''⟩ : TRat) r17 r19 h20) .nil))))))))))))))))) (mkS_free _ _) : VEx PP 160 0 (nodeAt (bodyOf PP 6) [1, 1, 1, 0, 1, 0, 0, 1, 1, 0, 0, 1, 1, 0, 0, 1, 0, 0, 1, 0, 1, 0, 0]) .normal (spec_IsForm_L6_head v_l v_q v_places v_i v_axis v_t70 v_t71 v_t72 v_t89 v_t90 box0_ v_t91 box1_ box1_' box1_'') (spec_IsForm_L6_head v_l v_q v_places v_i v_axis v_t70 v_t71 v_t72 v_t89 v_t90 box0_ (w64 (v_t91 + (1 : Int))) r19.fNum.fNeg r19.fNum.fMag r19.fDen))))
       (fun h5 =>
       .ite (fun h6 =>
        .grd fun h7 =>
         .bnd fun x8 h9 =>
         .grd fun h10 =>
         .bnd fun x11 h12 =>
         .grd fun h13 =>
         .bnd fun x14 h15 =>
         .bnd fun r16 h17 =>
         .bnd fun r18 h19 =>
         .bnd fun r20 h21 =>
         .ret ((okC_sound hmix (tape := [.reg [nt], .br true, .reg [nt, nt, (.el (eTMember x3), true), nt, nt, nt], .reg [nt, nt, nt, nt], .br false, .reg [nt, nt, nt, nt], .br true, .reg [nt, nt, nt, nt, (.el (eTRat x8), true), nt, nt, nt, nt, nt, nt, nt, (.el (eTRat x11), true), nt, nt, nt, nt, nt, nt, (.el (eTRat x14), true), (.call { ac := [ii, ii], r := .agg [.b r16.fNum.fNeg, .isl 1 (r16.fNum.fMag.map eI), .isl 1 (r16.fDen.map eI)], sc := false }, true), (.call { ac := [ii, ii], r := .agg [.b r18.fNum.fNeg, .isl 1 (r18.fNum.fMag.map eI), .isl 1 (r18.fDen.map eI)], sc := false }, true), (.call { ac := [ii, ii], r := .agg [.b r20.fNum.fNeg, .isl 1 (r20.fNum.fMag.map eI), .isl 1 (r20.fDen.map eI)], sc := false }, true), nt], .reg [nt, nt], .rst [0, 1] [.box [.id, .id], .box [.id, .id, .id]] [(1, ii), (2, ii), (3, ii), (4, ii), (12, ii), (13, ii), (14, ii), (70, ii), (71, ii), (72, ii), (89, ii), (90, ii), (91, ii)]]) (nr := 2) (by kernel_rfl) (.cons h1 (.cons ((h2).1) (.cons (lt_mapI (h2).2 : v_t91 < ((v_t89.map eTMember).length : Nat)) (.cons (map_get h4 : (v_t89.map eTMember)[v_t91.toNat]? = some (eTMember x3)) (.cons h5 (.cons h6 (.cons ((h7).1) (.cons (lt_mapI (h7).2 : v_t91 < ((v_q.map eTRat).length : Nat)) (.cons (map_get h9 : (v_q.map eTRat)[v_t91.toNat]? = some (eTRat x8)) (.cons ((h10).1) (.cons (lt_mapI (h10).2 : (w64 ((w64 ((2 : Int) * x3.fA)) + v_axis)) < ((v_places.map eTRat).length : Nat)) (.cons (map_get h12 : (v_places.map eTRat)[(w64 ((w64 ((2 : Int) * x3.fA)) + v_axis)).toNat]? = some (eTRat x11)) (.cons ((h13).1) (.cons (lt_mapI (h13).2 : (w64 ((w64 ((2 : Int) * v_i)) + v_axis)) < ((v_places.map eTRat).length : Nat)) (.cons (map_get h15 : (v_places.map eTRat)[(w64 ((w64 ((2 : Int) * v_i)) + v_axis)).toNat]? = some (eTRat x14)) (.cons (spec_RatSub_ok x11 x14 r16 h17) (.cons (spec_RatMul_ok x8 r16 r18 h19) (.cons (spec_RatAdd_ok (⟨(⟨box1_, box1_'⟩ : TBigInt), box1_''⟩ : TRat) r18 r20 h21) .nil)))))))))))))))))) (mkS_free _ _) : VEx PP 160 0 (nodeAt (bodyOf PP 6) [1, 1, 1, 0, 1, 0, 0, 1, 1, 0, 0, 1, 1, 0, 0, 1, 0, 0, 1, 0, 1, 0, 0]) .normal (spec_IsForm_L6_head v_l v_q v_places v_i v_axis v_t70 v_t71 v_t72 v_t89 v_t90 box0_ v_t91 box1_ box1_' box1_'') (spec_IsForm_L6_head v_l v_q v_places v_i v_axis v_t70 v_t71 v_t72 v_t89 v_t90 box0_ (w64 (v_t91 + (1 : Int))) r20.fNum.fNeg r20.fNum.fMag r20.fDen))))
        (fun h6 =>
        .ret ((okC_sound hmix (tape := [.reg [nt], .br true, .reg [nt, nt, (.el (eTMember x3), true), nt, nt, nt], .reg [nt, nt, nt, nt], .br false, .reg [nt, nt, nt, nt], .br false, .reg [nt, nt], .rst [0, 1] [.box [.id, .id], .box [.id, .id, .id]] [(1, ii), (2, ii), (3, ii), (4, ii), (12, ii), (13, ii), (14, ii), (70, ii), (71, ii), (72, ii), (89, ii), (90, ii), (91, ii)]]) (nr := 2) (by kernel_rfl) (.cons h1 (.cons ((h2).1) (.cons (lt_mapI (h2).2 : v_t91 < ((v_t89.map eTMember).length : Nat)) (.cons (map_get h4 : (v_t89.map eTMember)[v_t91.toNat]? = some (eTMember x3)) (.cons h5 (.cons h6 .nil)))))) (mkS_free _ _) : VEx PP 160 0 (nodeAt (bodyOf PP 6) [1, 1, 1, 0, 1, 0, 0, 1, 1, 0, 0, 1, 1, 0, 0, 1, 0, 0, 1, 0, 1, 0, 0]) .normal (spec_IsForm_L6_head v_l v_q v_places v_i v_axis v_t70 v_t71 v_t72 v_t89 v_t90 box0_ v_t91 box1_ box1_' box1_'') (spec_IsForm_L6_head v_l v_q v_places v_i v_axis v_t70 v_t71 v_t72 v_t89 v_t90 box0_ (w64 (v_t91 + (1 : Int))) box1_ box1_' box1_''))))))
      (fun h1 =>
      .ret ((okC_sound hmix (tape := [.reg [nt], .br false, .rst [0, 1] [.box [.id, .id], .box [.id, .id, .id]] [(1, ii), (2, ii), (3, ii), (4, ii), (12, ii), (13, ii), (14, ii), (70, ii), (71, ii), (72, ii)]]) (nr := 2) (by kernel_rfl) (.cons h1 .nil) (mkS_free _ _) : VEx PP 160 0 (nodeAt (bodyOf PP 6) [1, 1, 1, 0, 1, 0, 0, 1, 1, 0, 0, 1, 1, 0, 0, 1, 0, 0, 1, 0, 1, 0, 0]) (.exit 6) (spec_IsForm_L6_head v_l v_q v_places v_i v_axis v_t70 v_t71 v_t72 v_t89 v_t90 box0_ v_t91 box1_ box1_' box1_'') (spec_IsForm_L6_out v_l v_q v_places v_i v_axis v_t70 v_t71 v_t72 v_t89 v_t90 box0_ (box1_, box1_', box1_'')))))

theorem spec_IsForm_L6_ok (v_l : (List Int)) (v_q : (List TRat)) (v_places : (List TRat)) (v_i : Int) (v_axis : Int) (v_t70 : (List Int)) (v_t71 : Int) (v_t72 : Int) (v_t89 : (List TMember)) (v_t90 : Int) (box0_ : (List TJoint)) (v_t91 : Int) (box1_ : Bool) (box1_' : (List Int)) (box1_'' : (List Int)) : ∀ r, spec_IsForm_L6 v_l v_q v_places v_i v_axis v_t70 v_t71 v_t72 v_t89 v_t90 box0_ v_t91 box1_ box1_' box1_'' = some r → VLoop PP 160 0 (nodeAt (bodyOf PP 6) [1, 1, 1, 0, 1, 0, 0, 1, 1, 0, 0, 1, 1, 0, 0, 1, 0, 0, 1, 0, 1, 0, 0]) (spec_IsForm_L6_ex r) (spec_IsForm_L6_head v_l v_q v_places v_i v_axis v_t70 v_t71 v_t72 v_t89 v_t90 box0_ v_t91 box1_ box1_' box1_'') (spec_IsForm_L6_out v_l v_q v_places v_i v_axis v_t70 v_t71 v_t72 v_t89 v_t90 box0_ r) := fun r h =>
  iter_ok (head := fun w : Int × Bool × (List Int) × (List Int) => spec_IsForm_L6_head v_l v_q v_places v_i v_axis v_t70 v_t71 v_t72 v_t89 v_t90 box0_ w.1 w.2.1 w.2.2.1 w.2.2.2) (ex := spec_IsForm_L6_ex) (out := spec_IsForm_L6_out v_l v_q v_places v_i v_axis v_t70 v_t71 v_t72 v_t89 v_t90 box0_) (by intro r; unfold spec_IsForm_L6_ex; split <;> simp) (fun w => spec_IsForm_L6_body_ok v_l v_q v_places v_i v_axis v_t70 v_t71 v_t72 v_t89 v_t90 box0_ w.1 w.2.1 w.2.2.1 w.2.2.2) (v_t91, box1_, box1_', box1_'') r h

def spec_IsForm_L7_head (v_l : (List Int)) (v_q : (List TRat)) (v_places : (List TRat)) (v_i : Int) (v_t70 : (List Int)) (v_t71 : Int) (v_t72 : Int) (box0_ : (List TJoint)) (box0_' : (List TMember)) (v_axis : Int) : S := mkS [(1, .isl 1 (v_l.map eI)), (2, .isl 3 (v_q.map eTRat)), (3, .isl 3 (v_places.map eTRat)), (4, .ref 0 0 0 0), (12, .n .i64 v_i), (13, .n .i64 v_axis), (70, .isl 1 (v_t70.map eI)), (71, .n .i64 v_t71), (72, .n .i64 v_t72)] [[Ob.mk 2 [[.isl 4 (box0_.map eTJoint), .isl 3 (box0_'.map eTMember)]] .live]]

def spec_IsForm_L7_ex : ((Unit) ⊕ (Unit)) → Exit
  | .inl _ => .exit 4
  | .inr _ => .ret

def spec_IsForm_L7_out (v_l : (List Int)) (v_q : (List TRat)) (v_places : (List TRat)) (v_i : Int) (v_t70 : (List Int)) (v_t71 : Int) (v_t72 : Int) (box0_ : (List TJoint)) (box0_' : (List TMember)) : ((Unit) ⊕ (Unit)) → S
  | .inl a => mkS [(1, .isl 1 (v_l.map eI)), (2, .isl 3 (v_q.map eTRat)), (3, .isl 3 (v_places.map eTRat)), (4, .ref 0 0 0 0), (70, .isl 1 (v_t70.map eI)), (71, .n .i64 v_t71), (72, .n .i64 v_t72)] [[Ob.mk 2 [[.isl 4 (box0_.map eTJoint), .isl 3 (box0_'.map eTMember)]] .live]]
  | .inr a => mkS [(8, .b false)] []

def spec_IsForm_L7_body (v_l : (List Int)) (v_q : (List TRat)) (v_places : (List TRat)) (v_i : Int) (v_t70 : (List Int)) (v_t71 : Int) (v_t72 : Int) (box0_ : (List TJoint)) (box0_' : (List TMember)) (v_axis : Int) : Option ((Int) ⊕ ((Unit) ⊕ (Unit))) :=
  if (decide (v_axis < (2 : Int))) = true then
    if 0 ≤ (w64 ((w64 ((2 : Int) * v_i)) + v_axis)) ∧ (w64 ((w64 ((2 : Int) * v_i)) + v_axis)) < v_l.length then
    v_l[(w64 ((w64 ((2 : Int) * v_i)) + v_axis)).toNat]? >>= fun x3 =>
    spec_RatFromInt x3 >>= fun r5 =>
    spec_IsForm_L6 v_l v_q v_places v_i v_axis v_t70 v_t71 v_t72 box0_' (len_ eTMember box0_') box0_ 0 r5.fNum.fNeg r5.fNum.fMag r5.fDen >>= fun r7 =>
    spec_RatOk (⟨(⟨r7.1, r7.2.1⟩ : TBigInt), r7.2.2⟩ : TRat) >>= fun r9 =>
    if r9 = true then
      spec_RatSign (⟨(⟨r7.1, r7.2.1⟩ : TBigInt), r7.2.2⟩ : TRat) >>= fun r12 =>
      if (r12 != (0 : Int)) = true then
        some (.inr (.inr ()))
      else
        some (.inl (w64 (v_axis + (1 : Int))))
    else
      some (.inr (.inr ()))
    else none
  else
    some (.inr (.inl ()))

def spec_IsForm_L7 (v_l : (List Int)) (v_q : (List TRat)) (v_places : (List TRat)) (v_i : Int) (v_t70 : (List Int)) (v_t71 : Int) (v_t72 : Int) (box0_ : (List TJoint)) (box0_' : (List TMember)) (v_axis : Int) : Option ((Unit) ⊕ (Unit)) := iter (fun w : Int => spec_IsForm_L7_body v_l v_q v_places v_i v_t70 v_t71 v_t72 box0_ box0_' w) v_axis

theorem spec_IsForm_L7_body_ok (v_l : (List Int)) (v_q : (List TRat)) (v_places : (List TRat)) (v_i : Int) (v_t70 : (List Int)) (v_t71 : Int) (v_t72 : Int) (box0_ : (List TJoint)) (box0_' : (List TMember)) (v_axis : Int) : Wp (spec_IsForm_L7_body v_l v_q v_places v_i v_t70 v_t71 v_t72 box0_ box0_' v_axis) (Sum.elim
    (fun w => VEx PP 160 0 (nodeAt (bodyOf PP 6) [1, 1, 1, 0, 1, 0, 0, 1, 1, 0, 0, 1, 1, 0, 0]) .normal (spec_IsForm_L7_head v_l v_q v_places v_i v_t70 v_t71 v_t72 box0_ box0_' v_axis) (spec_IsForm_L7_head v_l v_q v_places v_i v_t70 v_t71 v_t72 box0_ box0_' w))
    (fun r => VEx PP 160 0 (nodeAt (bodyOf PP 6) [1, 1, 1, 0, 1, 0, 0, 1, 1, 0, 0, 1, 1, 0, 0]) (spec_IsForm_L7_ex r) (spec_IsForm_L7_head v_l v_q v_places v_i v_t70 v_t71 v_t72 box0_ box0_' v_axis) (spec_IsForm_L7_out v_l v_q v_places v_i v_t70 v_t71 v_t72 box0_ box0_' r))) := by
  unfold spec_IsForm_L7_body
  exact .ite (fun h1 =>
      .grd fun h2 =>
       .bnd fun x3 h4 =>
       .bnd fun r5 h6 =>
       .bnd fun r7 h8 =>
       .bnd fun r9 h10 =>
       .ite (fun h11 =>
       .bnd fun r12 h13 =>
        .ite (fun h14 =>
        .ret ((okC_sound hmix (tape := [.reg [nt, nt], .br true, .reg [nt, nt, nt, nt, nt, nt, (.el (eI x3), true), (.call { ac := [ii], r := .agg [.b r5.fNum.fNeg, .isl 1 (r5.fNum.fMag.map eI), .isl 1 (r5.fDen.map eI)], sc := false }, true), nt, nt], .reg [nt, nt, nt, nt], .rst [0, 11] [.box [.id, .id], .box [.id, .id, .id]] [(1, ii), (2, ii), (3, ii), (4, ii), (12, ii), (13, ii), (14, ii), (70, ii), (71, ii), (72, ii), (89, ii), (90, ii), (91, ii)], .sub (.exit 6) [(1, .isl 1 (v_l.map eI)), (2, .isl 3 (v_q.map eTRat)), (3, .isl 3 (v_places.map eTRat)), (4, .ref 0 0 0 0), (12, .n .i64 v_i), (13, .n .i64 v_axis), (14, .ref 1 0 0 0), (70, .isl 1 (v_t70.map eI)), (71, .n .i64 v_t71), (72, .n .i64 v_t72)] [[Ob.mk 2 [[.isl 4 (box0_.map eTJoint), .isl 3 (box0_'.map eTMember)]] .live], [Ob.mk 3 [[.b r7.1, .isl 1 (r7.2.1.map eI), .isl 1 (r7.2.2.map eI)]] .live]], .reg [nt, (.call { ac := [ii], r := .b r9, sc := true }, true), nt, nt, nt, (.call { ac := [ii], r := .n .i64 r12, sc := true }, true), nt, (.br false, true)], .br true, .reg [nt], .rst [] [] [(8, ii)]]) (nr := 1) (by kernel_rfl) (.cons h1 (.cons ((h2).1) (.cons (lt_mapI (h2).2 : (w64 ((w64 ((2 : Int) * v_i)) + v_axis)) < ((v_l.map eI).length : Nat)) (.cons (map_get h4 : (v_l.map eI)[(w64 ((w64 ((2 : Int) * v_i)) + v_axis)).toNat]? = some (eI x3)) (.cons (spec_RatFromInt_ok x3 r5 h6) (.cons ((spec_IsForm_L6_ok v_l v_q v_places v_i v_axis v_t70 v_t71 v_t72 box0_' (len_ eTMember box0_') box0_ 0 r5.fNum.fNeg r5.fNum.fMag r5.fDen r7 h8).vex) (.cons (spec_RatOk_ok (⟨(⟨r7.1, r7.2.1⟩ : TBigInt), r7.2.2⟩ : TRat) r9 h10) (.cons (Sc.b _ : Sc (.b r9)) (.cons (not_t h11) (.cons (not_t h11) (.cons (spec_RatSign_ok (⟨(⟨r7.1, r7.2.1⟩ : TBigInt), r7.2.2⟩ : TRat) r12 h13) (.cons (Sc.n _ _ : Sc (.n .i64 r12)) (.cons (not_t h11) (.cons (not_t h11) (.cons h14 .nil))))))))))))))) (mkS_free _ _) : VEx PP 160 0 (nodeAt (bodyOf PP 6) [1, 1, 1, 0, 1, 0, 0, 1, 1, 0, 0, 1, 1, 0, 0]) (.ret) (spec_IsForm_L7_head v_l v_q v_places v_i v_t70 v_t71 v_t72 box0_ box0_' v_axis) (spec_IsForm_L7_out v_l v_q v_places v_i v_t70 v_t71 v_t72 box0_ box0_' (.inr ())))))
        (fun h14 =>
        .ret ((okC_sound hmix (tape := [.reg [nt, nt], .br true, .reg [nt, nt, nt, nt, nt, nt, (.el (eI x3), true), (.call { ac := [ii], r := .agg [.b r5.fNum.fNeg, .isl 1 (r5.fNum.fMag.map eI), .isl 1 (r5.fDen.map eI)], sc := false }, true), nt, nt], .reg [nt, nt, nt, nt], .rst [0, 11] [.box [.id, .id], .box [.id, .id, .id]] [(1, ii), (2, ii), (3, ii), (4, ii), (12, ii), (13, ii), (14, ii), (70, ii), (71, ii), (72, ii), (89, ii), (90, ii), (91, ii)], .sub (.exit 6) [(1, .isl 1 (v_l.map eI)), (2, .isl 3 (v_q.map eTRat)), (3, .isl 3 (v_places.map eTRat)), (4, .ref 0 0 0 0), (12, .n .i64 v_i), (13, .n .i64 v_axis), (14, .ref 1 0 0 0), (70, .isl 1 (v_t70.map eI)), (71, .n .i64 v_t71), (72, .n .i64 v_t72)] [[Ob.mk 2 [[.isl 4 (box0_.map eTJoint), .isl 3 (box0_'.map eTMember)]] .live], [Ob.mk 3 [[.b r7.1, .isl 1 (r7.2.1.map eI), .isl 1 (r7.2.2.map eI)]] .live]], .reg [nt, (.call { ac := [ii], r := .b r9, sc := true }, true), nt, nt, nt, (.call { ac := [ii], r := .n .i64 r12, sc := true }, true), nt, (.br false, true)], .br false, .reg [nt, nt, nt], .rst [0] [.box [.id, .id]] [(1, ii), (2, ii), (3, ii), (4, ii), (12, ii), (13, ii), (70, ii), (71, ii), (72, ii)]]) (nr := 1) (by kernel_rfl) (.cons h1 (.cons ((h2).1) (.cons (lt_mapI (h2).2 : (w64 ((w64 ((2 : Int) * v_i)) + v_axis)) < ((v_l.map eI).length : Nat)) (.cons (map_get h4 : (v_l.map eI)[(w64 ((w64 ((2 : Int) * v_i)) + v_axis)).toNat]? = some (eI x3)) (.cons (spec_RatFromInt_ok x3 r5 h6) (.cons ((spec_IsForm_L6_ok v_l v_q v_places v_i v_axis v_t70 v_t71 v_t72 box0_' (len_ eTMember box0_') box0_ 0 r5.fNum.fNeg r5.fNum.fMag r5.fDen r7 h8).vex) (.cons (spec_RatOk_ok (⟨(⟨r7.1, r7.2.1⟩ : TBigInt), r7.2.2⟩ : TRat) r9 h10) (.cons (Sc.b _ : Sc (.b r9)) (.cons (not_t h11) (.cons (not_t h11) (.cons (spec_RatSign_ok (⟨(⟨r7.1, r7.2.1⟩ : TBigInt), r7.2.2⟩ : TRat) r12 h13) (.cons (Sc.n _ _ : Sc (.n .i64 r12)) (.cons (not_t h11) (.cons (not_t h11) (.cons h14 .nil))))))))))))))) (mkS_free _ _) : VEx PP 160 0 (nodeAt (bodyOf PP 6) [1, 1, 1, 0, 1, 0, 0, 1, 1, 0, 0, 1, 1, 0, 0]) .normal (spec_IsForm_L7_head v_l v_q v_places v_i v_t70 v_t71 v_t72 box0_ box0_' v_axis) (spec_IsForm_L7_head v_l v_q v_places v_i v_t70 v_t71 v_t72 box0_ box0_' (w64 (v_axis + (1 : Int))))))))
       (fun h11 =>
       .ret ((okC_sound hmix (tape := [.reg [nt, nt], .br true, .reg [nt, nt, nt, nt, nt, nt, (.el (eI x3), true), (.call { ac := [ii], r := .agg [.b r5.fNum.fNeg, .isl 1 (r5.fNum.fMag.map eI), .isl 1 (r5.fDen.map eI)], sc := false }, true), nt, nt], .reg [nt, nt, nt, nt], .rst [0, 11] [.box [.id, .id], .box [.id, .id, .id]] [(1, ii), (2, ii), (3, ii), (4, ii), (12, ii), (13, ii), (14, ii), (70, ii), (71, ii), (72, ii), (89, ii), (90, ii), (91, ii)], .sub (.exit 6) [(1, .isl 1 (v_l.map eI)), (2, .isl 3 (v_q.map eTRat)), (3, .isl 3 (v_places.map eTRat)), (4, .ref 0 0 0 0), (12, .n .i64 v_i), (13, .n .i64 v_axis), (14, .ref 1 0 0 0), (70, .isl 1 (v_t70.map eI)), (71, .n .i64 v_t71), (72, .n .i64 v_t72)] [[Ob.mk 2 [[.isl 4 (box0_.map eTJoint), .isl 3 (box0_'.map eTMember)]] .live], [Ob.mk 3 [[.b r7.1, .isl 1 (r7.2.1.map eI), .isl 1 (r7.2.2.map eI)]] .live]], .reg [nt, (.call { ac := [ii], r := .b r9, sc := true }, true), nt, nt, nf, nf, nf, (.br true, true)], .br true, .reg [nt], .rst [] [] [(8, ii)]]) (nr := 1) (by kernel_rfl) (.cons h1 (.cons ((h2).1) (.cons (lt_mapI (h2).2 : (w64 ((w64 ((2 : Int) * v_i)) + v_axis)) < ((v_l.map eI).length : Nat)) (.cons (map_get h4 : (v_l.map eI)[(w64 ((w64 ((2 : Int) * v_i)) + v_axis)).toNat]? = some (eI x3)) (.cons (spec_RatFromInt_ok x3 r5 h6) (.cons ((spec_IsForm_L6_ok v_l v_q v_places v_i v_axis v_t70 v_t71 v_t72 box0_' (len_ eTMember box0_') box0_ 0 r5.fNum.fNeg r5.fNum.fMag r5.fDen r7 h8).vex) (.cons (spec_RatOk_ok (⟨(⟨r7.1, r7.2.1⟩ : TBigInt), r7.2.2⟩ : TRat) r9 h10) (.cons (Sc.b _ : Sc (.b r9)) (.cons (not_f h11) (.cons (not_f h11) (.cons (not_f h11) (.cons (not_f h11) (.cons (rfl : true = true) .nil))))))))))))) (mkS_free _ _) : VEx PP 160 0 (nodeAt (bodyOf PP 6) [1, 1, 1, 0, 1, 0, 0, 1, 1, 0, 0, 1, 1, 0, 0]) (.ret) (spec_IsForm_L7_head v_l v_q v_places v_i v_t70 v_t71 v_t72 box0_ box0_' v_axis) (spec_IsForm_L7_out v_l v_q v_places v_i v_t70 v_t71 v_t72 box0_ box0_' (.inr ()))))))
      (fun h1 =>
      .ret ((okC_sound hmix (tape := [.reg [nt, nt], .br false, .rst [0] [.box [.id, .id]] [(1, ii), (2, ii), (3, ii), (4, ii), (70, ii), (71, ii), (72, ii)]]) (nr := 1) (by kernel_rfl) (.cons h1 .nil) (mkS_free _ _) : VEx PP 160 0 (nodeAt (bodyOf PP 6) [1, 1, 1, 0, 1, 0, 0, 1, 1, 0, 0, 1, 1, 0, 0]) (.exit 4) (spec_IsForm_L7_head v_l v_q v_places v_i v_t70 v_t71 v_t72 box0_ box0_' v_axis) (spec_IsForm_L7_out v_l v_q v_places v_i v_t70 v_t71 v_t72 box0_ box0_' (.inl ())))))

theorem spec_IsForm_L7_ok (v_l : (List Int)) (v_q : (List TRat)) (v_places : (List TRat)) (v_i : Int) (v_t70 : (List Int)) (v_t71 : Int) (v_t72 : Int) (box0_ : (List TJoint)) (box0_' : (List TMember)) (v_axis : Int) : ∀ r, spec_IsForm_L7 v_l v_q v_places v_i v_t70 v_t71 v_t72 box0_ box0_' v_axis = some r → VLoop PP 160 0 (nodeAt (bodyOf PP 6) [1, 1, 1, 0, 1, 0, 0, 1, 1, 0, 0, 1, 1, 0, 0]) (spec_IsForm_L7_ex r) (spec_IsForm_L7_head v_l v_q v_places v_i v_t70 v_t71 v_t72 box0_ box0_' v_axis) (spec_IsForm_L7_out v_l v_q v_places v_i v_t70 v_t71 v_t72 box0_ box0_' r) := fun r h =>
  iter_ok (head := fun w : Int => spec_IsForm_L7_head v_l v_q v_places v_i v_t70 v_t71 v_t72 box0_ box0_' w) (ex := spec_IsForm_L7_ex) (out := spec_IsForm_L7_out v_l v_q v_places v_i v_t70 v_t71 v_t72 box0_ box0_') (by intro r; unfold spec_IsForm_L7_ex; split <;> simp) (fun w => spec_IsForm_L7_body_ok v_l v_q v_places v_i v_t70 v_t71 v_t72 box0_ box0_' w) v_axis r h

def spec_IsForm_L8_head (v_l : (List Int)) (v_q : (List TRat)) (v_places : (List TRat)) (v_t70 : (List Int)) (v_t71 : Int) (box0_ : (List TJoint)) (box0_' : (List TMember)) (v_t72 : Int) : S := mkS [(1, .isl 1 (v_l.map eI)), (2, .isl 3 (v_q.map eTRat)), (3, .isl 3 (v_places.map eTRat)), (4, .ref 0 0 0 0), (70, .isl 1 (v_t70.map eI)), (71, .n .i64 v_t71), (72, .n .i64 v_t72)] [[Ob.mk 2 [[.isl 4 (box0_.map eTJoint), .isl 3 (box0_'.map eTMember)]] .live]]

def spec_IsForm_L8_ex : ((Unit) ⊕ (Unit)) → Exit
  | .inl _ => .exit 2
  | .inr _ => .ret

def spec_IsForm_L8_out (v_l : (List Int)) (v_q : (List TRat)) (v_places : (List TRat)) (v_t70 : (List Int)) (v_t71 : Int) (box0_ : (List TJoint)) (box0_' : (List TMember)) : ((Unit) ⊕ (Unit)) → S
  | .inl a => mkS [] []
  | .inr a => mkS [(8, .b false)] []

def spec_IsForm_L8_body (v_l : (List Int)) (v_q : (List TRat)) (v_places : (List TRat)) (v_t70 : (List Int)) (v_t71 : Int) (box0_ : (List TJoint)) (box0_' : (List TMember)) (v_t72 : Int) : Option ((Int) ⊕ ((Unit) ⊕ (Unit))) :=
  if (decide (v_t72 < v_t71)) = true then
    if 0 ≤ v_t72 ∧ v_t72 < v_t70.length then
    v_t70[v_t72.toNat]? >>= fun x3 =>
    spec_IsForm_L7 v_l v_q v_places x3 v_t70 v_t71 v_t72 box0_ box0_' 0 >>= fun r5 =>
    match r5 with
    | .inl a7 => (some (.inl (w64 (v_t72 + (1 : Int)))))
    | .inr a7 => (some (.inr (.inr ())))
    else none
  else
    some (.inr (.inl ()))

def spec_IsForm_L8 (v_l : (List Int)) (v_q : (List TRat)) (v_places : (List TRat)) (v_t70 : (List Int)) (v_t71 : Int) (box0_ : (List TJoint)) (box0_' : (List TMember)) (v_t72 : Int) : Option ((Unit) ⊕ (Unit)) := iter (fun w : Int => spec_IsForm_L8_body v_l v_q v_places v_t70 v_t71 box0_ box0_' w) v_t72

theorem spec_IsForm_L8_body_ok (v_l : (List Int)) (v_q : (List TRat)) (v_places : (List TRat)) (v_t70 : (List Int)) (v_t71 : Int) (box0_ : (List TJoint)) (box0_' : (List TMember)) (v_t72 : Int) : Wp (spec_IsForm_L8_body v_l v_q v_places v_t70 v_t71 box0_ box0_' v_t72) (Sum.elim
    (fun w => VEx PP 160 0 (nodeAt (bodyOf PP 6) [1, 1, 1, 0, 1, 0, 0]) .normal (spec_IsForm_L8_head v_l v_q v_places v_t70 v_t71 box0_ box0_' v_t72) (spec_IsForm_L8_head v_l v_q v_places v_t70 v_t71 box0_ box0_' w))
    (fun r => VEx PP 160 0 (nodeAt (bodyOf PP 6) [1, 1, 1, 0, 1, 0, 0]) (spec_IsForm_L8_ex r) (spec_IsForm_L8_head v_l v_q v_places v_t70 v_t71 box0_ box0_' v_t72) (spec_IsForm_L8_out v_l v_q v_places v_t70 v_t71 box0_ box0_' r))) := by
  unfold spec_IsForm_L8_body
  exact .ite (fun h1 =>
      .grd fun h2 =>
       .bnd fun x3 h4 =>
       .bnd fun r5 h6 =>
       match r5, h6 with
       | .inl a7, h6 => (.ret ((okC_sound hmix (tape := [.reg [nt], .br true, .reg [nt, (.el (eI x3), true), nt], .reg [nt], .rst [0] [.box [.id, .id]] [(1, ii), (2, ii), (3, ii), (4, ii), (12, ii), (13, ii), (70, ii), (71, ii), (72, ii)], .sub (.exit 4) [(1, .isl 1 (v_l.map eI)), (2, .isl 3 (v_q.map eTRat)), (3, .isl 3 (v_places.map eTRat)), (4, .ref 0 0 0 0), (70, .isl 1 (v_t70.map eI)), (71, .n .i64 v_t71), (72, .n .i64 v_t72)] [[Ob.mk 2 [[.isl 4 (box0_.map eTJoint), .isl 3 (box0_'.map eTMember)]] .live]], .reg [nt, nt], .rst [0] [.box [.id, .id]] [(1, ii), (2, ii), (3, ii), (4, ii), (70, ii), (71, ii), (72, ii)]]) (nr := 1) (by kernel_rfl) (.cons h1 (.cons ((h2).1) (.cons (lt_mapI (h2).2 : v_t72 < ((v_t70.map eI).length : Nat)) (.cons (map_get h4 : (v_t70.map eI)[v_t72.toNat]? = some (eI x3)) (.cons ((spec_IsForm_L7_ok v_l v_q v_places x3 v_t70 v_t71 v_t72 box0_ box0_' 0 (.inl a7) h6).vex) .nil))))) (mkS_free _ _) : VEx PP 160 0 (nodeAt (bodyOf PP 6) [1, 1, 1, 0, 1, 0, 0]) .normal (spec_IsForm_L8_head v_l v_q v_places v_t70 v_t71 box0_ box0_' v_t72) (spec_IsForm_L8_head v_l v_q v_places v_t70 v_t71 box0_ box0_' (w64 (v_t72 + (1 : Int)))))))
       | .inr a7, h6 => (.ret ((okC_sound hmix (tape := [.reg [nt], .br true, .reg [nt, (.el (eI x3), true), nt], .reg [nt], .rst [0] [.box [.id, .id]] [(1, ii), (2, ii), (3, ii), (4, ii), (12, ii), (13, ii), (70, ii), (71, ii), (72, ii)], .sub (.ret) [(8, .b false)] [], .rst [] [] [(8, ii)]]) (nr := 1) (by kernel_rfl) (.cons h1 (.cons ((h2).1) (.cons (lt_mapI (h2).2 : v_t72 < ((v_t70.map eI).length : Nat)) (.cons (map_get h4 : (v_t70.map eI)[v_t72.toNat]? = some (eI x3)) (.cons ((spec_IsForm_L7_ok v_l v_q v_places x3 v_t70 v_t71 v_t72 box0_ box0_' 0 (.inr a7) h6).vex) .nil))))) (mkS_free _ _) : VEx PP 160 0 (nodeAt (bodyOf PP 6) [1, 1, 1, 0, 1, 0, 0]) (.ret) (spec_IsForm_L8_head v_l v_q v_places v_t70 v_t71 box0_ box0_' v_t72) (spec_IsForm_L8_out v_l v_q v_places v_t70 v_t71 box0_ box0_' (.inr ()))))))
      (fun h1 =>
      .ret ((okC_sound hmix (tape := [.reg [nt], .br false, .rst [] [] []]) (nr := 1) (by kernel_rfl) (.cons h1 .nil) (mkS_free _ _) : VEx PP 160 0 (nodeAt (bodyOf PP 6) [1, 1, 1, 0, 1, 0, 0]) (.exit 2) (spec_IsForm_L8_head v_l v_q v_places v_t70 v_t71 box0_ box0_' v_t72) (spec_IsForm_L8_out v_l v_q v_places v_t70 v_t71 box0_ box0_' (.inl ())))))

theorem spec_IsForm_L8_ok (v_l : (List Int)) (v_q : (List TRat)) (v_places : (List TRat)) (v_t70 : (List Int)) (v_t71 : Int) (box0_ : (List TJoint)) (box0_' : (List TMember)) (v_t72 : Int) : ∀ r, spec_IsForm_L8 v_l v_q v_places v_t70 v_t71 box0_ box0_' v_t72 = some r → VLoop PP 160 0 (nodeAt (bodyOf PP 6) [1, 1, 1, 0, 1, 0, 0]) (spec_IsForm_L8_ex r) (spec_IsForm_L8_head v_l v_q v_places v_t70 v_t71 box0_ box0_' v_t72) (spec_IsForm_L8_out v_l v_q v_places v_t70 v_t71 box0_ box0_' r) := fun r h =>
  iter_ok (head := fun w : Int => spec_IsForm_L8_head v_l v_q v_places v_t70 v_t71 box0_ box0_' w) (ex := spec_IsForm_L8_ex) (out := spec_IsForm_L8_out v_l v_q v_places v_t70 v_t71 box0_ box0_') (by intro r; unfold spec_IsForm_L8_ex; split <;> simp) (fun w => spec_IsForm_L8_body_ok v_l v_q v_places v_t70 v_t71 box0_ box0_' w) v_t72 r h

def spec_IsForm (v_s : TStructure) (v_l : (List Int)) (v_q : (List TRat)) (v_places : (List TRat)) : Option Bool :=
  spec_LoadOk v_s v_l >>= fun r1 =>
  if r1 = true then
    spec_l14Fits v_s v_q >>= fun r4 =>
    if r4 = true then
      spec_l19Places v_s v_places >>= fun r7 =>
      if r7 = true then
        spec_IsForm_L1 v_l v_q v_places v_s.fJoints (len_ eTJoint v_s.fJoints) v_s.fMembers 0 >>= fun r10 =>
        match r10 with
        | .inl a12 => (spec_l12Free v_s >>= fun r13 =>
          spec_IsForm_L8 v_l v_q v_places r13 (len_ eI r13) v_s.fJoints v_s.fMembers 0 >>= fun r15 =>
          match r15 with
          | .inl a17 => (some true)
          | .inr a17 => (some false))
        | .inr a12 => (some false)
      else
        some false
    else
      some false
  else
    some false

theorem spec_IsForm_ok (v_s : TStructure) (v_l : (List Int)) (v_q : (List TRat)) (v_places : (List TRat)) : Wp (spec_IsForm v_s v_l v_q v_places) (fun r => Con PP 6 [.agg [.isl 4 (v_s.fJoints.map eTJoint), .isl 3 (v_s.fMembers.map eTMember)], .isl 1 (v_l.map eI), .isl 3 (v_q.map eTRat), .isl 3 (v_places.map eTRat)] [] (.b r) []) := by
  unfold spec_IsForm
  exact .bnd fun r1 h2 =>
    .ite (fun h3 =>
    .bnd fun r4 h5 =>
     .ite (fun h6 =>
     .bnd fun r7 h8 =>
      .ite (fun h9 =>
      .bnd fun r10 h11 =>
       match r10, h11 with
       | .inl a12, h11 => (.bnd fun r13 h14 =>
        .bnd fun r15 h16 =>
        match r15, h16 with
        | .inl a17, h16 => (.ret (runF_con0 hmix (tape := [.reg [nt, nt], .reg [nt, nt, (.call { ac := [ii, ii], r := .b r1, sc := true }, true), nt, nt, nt, nt, (.call { ac := [ii, ii], r := .b r4, sc := true }, true), nt, (.br false, true), nt, nt, nt, (.call { ac := [ii, ii], r := .b r7, sc := true }, true), nt, (.br false, true)], .br false, .reg [nt, nt, nt, nt], .rst [0] [.box [.id, .id]] [(1, ii), (2, ii), (3, ii), (4, ii), (34, ii), (35, ii), (36, ii)], .sub (.exit 0) [(1, .isl 1 (v_l.map eI)), (2, .isl 3 (v_q.map eTRat)), (3, .isl 3 (v_places.map eTRat)), (4, .ref 0 0 0 0)] [[Ob.mk 2 [[.isl 4 (v_s.fJoints.map eTJoint), .isl 3 (v_s.fMembers.map eTMember)]] .live]], .reg [nt, (.call { ac := [ii], r := .isl 1 (r13.map eI), sc := false }, true), nt, nt], .rst [0] [.box [.id, .id]] [(1, ii), (2, ii), (3, ii), (4, ii), (70, ii), (71, ii), (72, ii)], .sub (.exit 2) [] [], .reg [nt]]) (rr := ii) (by kernel_rfl) (.cons (spec_LoadOk_ok v_s v_l r1 h2) (.cons (Sc.b _ : Sc (.b r1)) (.cons (not_t h3) (.cons (not_t h3) (.cons (not_t h3) (.cons (spec_l14Fits_ok v_s v_q r4 h5) (.cons (Sc.b _ : Sc (.b r4)) (.cons (not_t h3) (.cons (not_t h3) (.cons (not_t h6) (.cons (not_t h6) (.cons (not_t h6) (.cons (spec_l19Places_ok v_s v_places r7 h8) (.cons (Sc.b _ : Sc (.b r7)) (.cons (not_t h6) (.cons (not_t h6) (.cons (not_t h9) (.cons ((spec_IsForm_L1_ok v_l v_q v_places v_s.fJoints (len_ eTJoint v_s.fJoints) v_s.fMembers 0 (.inl a12) h11).vex) (.cons (spec_l12Free_ok v_s r13 h14) (.cons ((spec_IsForm_L8_ok v_l v_q v_places r13 (len_ eI r13) v_s.fJoints v_s.fMembers 0 (.inl a17) h16).vex) .nil))))))))))))))))))))))
        | .inr a17, h16 => (.ret (runF_con0 hmix (tape := [.reg [nt, nt], .reg [nt, nt, (.call { ac := [ii, ii], r := .b r1, sc := true }, true), nt, nt, nt, nt, (.call { ac := [ii, ii], r := .b r4, sc := true }, true), nt, (.br false, true), nt, nt, nt, (.call { ac := [ii, ii], r := .b r7, sc := true }, true), nt, (.br false, true)], .br false, .reg [nt, nt, nt, nt], .rst [0] [.box [.id, .id]] [(1, ii), (2, ii), (3, ii), (4, ii), (34, ii), (35, ii), (36, ii)], .sub (.exit 0) [(1, .isl 1 (v_l.map eI)), (2, .isl 3 (v_q.map eTRat)), (3, .isl 3 (v_places.map eTRat)), (4, .ref 0 0 0 0)] [[Ob.mk 2 [[.isl 4 (v_s.fJoints.map eTJoint), .isl 3 (v_s.fMembers.map eTMember)]] .live]], .reg [nt, (.call { ac := [ii], r := .isl 1 (r13.map eI), sc := false }, true), nt, nt], .rst [0] [.box [.id, .id]] [(1, ii), (2, ii), (3, ii), (4, ii), (70, ii), (71, ii), (72, ii)], .sub (.ret) [(8, .b false)] []]) (rr := ii) (by kernel_rfl) (.cons (spec_LoadOk_ok v_s v_l r1 h2) (.cons (Sc.b _ : Sc (.b r1)) (.cons (not_t h3) (.cons (not_t h3) (.cons (not_t h3) (.cons (spec_l14Fits_ok v_s v_q r4 h5) (.cons (Sc.b _ : Sc (.b r4)) (.cons (not_t h3) (.cons (not_t h3) (.cons (not_t h6) (.cons (not_t h6) (.cons (not_t h6) (.cons (spec_l19Places_ok v_s v_places r7 h8) (.cons (Sc.b _ : Sc (.b r7)) (.cons (not_t h6) (.cons (not_t h6) (.cons (not_t h9) (.cons ((spec_IsForm_L1_ok v_l v_q v_places v_s.fJoints (len_ eTJoint v_s.fJoints) v_s.fMembers 0 (.inl a12) h11).vex) (.cons (spec_l12Free_ok v_s r13 h14) (.cons ((spec_IsForm_L8_ok v_l v_q v_places r13 (len_ eI r13) v_s.fJoints v_s.fMembers 0 (.inr a17) h16).vex) .nil)))))))))))))))))))))))
       | .inr a12, h11 => (.ret (runF_con0 hmix (tape := [.reg [nt, nt], .reg [nt, nt, (.call { ac := [ii, ii], r := .b r1, sc := true }, true), nt, nt, nt, nt, (.call { ac := [ii, ii], r := .b r4, sc := true }, true), nt, (.br false, true), nt, nt, nt, (.call { ac := [ii, ii], r := .b r7, sc := true }, true), nt, (.br false, true)], .br false, .reg [nt, nt, nt, nt], .rst [0] [.box [.id, .id]] [(1, ii), (2, ii), (3, ii), (4, ii), (34, ii), (35, ii), (36, ii)], .sub (.ret) [(8, .b false)] []]) (rr := ii) (by kernel_rfl) (.cons (spec_LoadOk_ok v_s v_l r1 h2) (.cons (Sc.b _ : Sc (.b r1)) (.cons (not_t h3) (.cons (not_t h3) (.cons (not_t h3) (.cons (spec_l14Fits_ok v_s v_q r4 h5) (.cons (Sc.b _ : Sc (.b r4)) (.cons (not_t h3) (.cons (not_t h3) (.cons (not_t h6) (.cons (not_t h6) (.cons (not_t h6) (.cons (spec_l19Places_ok v_s v_places r7 h8) (.cons (Sc.b _ : Sc (.b r7)) (.cons (not_t h6) (.cons (not_t h6) (.cons (not_t h9) (.cons ((spec_IsForm_L1_ok v_l v_q v_places v_s.fJoints (len_ eTJoint v_s.fJoints) v_s.fMembers 0 (.inr a12) h11).vex) .nil)))))))))))))))))))))
      (fun h9 =>
      .ret (runF_con0 hmix (tape := [.reg [nt, nt], .reg [nt, nt, (.call { ac := [ii, ii], r := .b r1, sc := true }, true), nt, nt, nt, nt, (.call { ac := [ii, ii], r := .b r4, sc := true }, true), nt, (.br false, true), nt, nt, nt, (.call { ac := [ii, ii], r := .b r7, sc := true }, true), nt, (.br false, true)], .br true, .reg [nt]]) (rr := ii) (by kernel_rfl) (.cons (spec_LoadOk_ok v_s v_l r1 h2) (.cons (Sc.b _ : Sc (.b r1)) (.cons (not_t h3) (.cons (not_t h3) (.cons (not_t h3) (.cons (spec_l14Fits_ok v_s v_q r4 h5) (.cons (Sc.b _ : Sc (.b r4)) (.cons (not_t h3) (.cons (not_t h3) (.cons (not_t h6) (.cons (not_t h6) (.cons (not_t h6) (.cons (spec_l19Places_ok v_s v_places r7 h8) (.cons (Sc.b _ : Sc (.b r7)) (.cons (not_t h6) (.cons (not_t h6) (.cons (not_f h9) .nil))))))))))))))))))))
     (fun h6 =>
     .ret (runF_con0 hmix (tape := [.reg [nt, nt], .reg [nt, nt, (.call { ac := [ii, ii], r := .b r1, sc := true }, true), nt, nt, nt, nt, (.call { ac := [ii, ii], r := .b r4, sc := true }, true), nt, (.br false, true), nt, nf, nf, nf, nf, (.br true, true)], .br true, .reg [nt]]) (rr := ii) (by kernel_rfl) (.cons (spec_LoadOk_ok v_s v_l r1 h2) (.cons (Sc.b _ : Sc (.b r1)) (.cons (not_t h3) (.cons (not_t h3) (.cons (not_t h3) (.cons (spec_l14Fits_ok v_s v_q r4 h5) (.cons (Sc.b _ : Sc (.b r4)) (.cons (not_t h3) (.cons (not_t h3) (.cons (not_f h6) (.cons (not_f h6) (.cons (not_f h6) (.cons (not_f h6) (.cons (not_f h6) (.cons (rfl : true = true) .nil))))))))))))))))))
    (fun h3 =>
    .ret (runF_con0 hmix (tape := [.reg [nt, nt], .reg [nt, nt, (.call { ac := [ii, ii], r := .b r1, sc := true }, true), nt, nt, nf, nf, nf, nf, (.br true, true), nt, nf, nf, nf, nf, nt], .br true, .reg [nt]]) (rr := ii) (by kernel_rfl) (.cons (spec_LoadOk_ok v_s v_l r1 h2) (.cons (Sc.b _ : Sc (.b r1)) (.cons (not_f h3) (.cons (not_f h3) (.cons (not_f h3) (.cons (not_f h3) (.cons (not_f h3) (.cons (rfl : true = true) (.cons (rfl : true = true) (.cons (rfl : true = true) (.cons (rfl : true = true) (.cons (rfl : true = true) .nil))))))))))))))

def impl_isLetter (v_c : Int) : Option Bool :=
  if (decide ((97 : Int) ≤ v_c)) = true then
    some (decide (v_c ≤ (122 : Int)))
  else
    some false

theorem impl_isLetter_ok (v_c : Int) : Wp (impl_isLetter v_c) (fun r => Con PP 125 [.n .u8 v_c] [] (.b r) []) := by
  unfold impl_isLetter
  exact .ite (fun h1 =>
    .ret (runF_con0 hmix (tape := [.reg [nt], .reg [nt, nt, nt, nt, nt, (.br true, true), nt]]) (rr := ii) (by kernel_rfl) (.cons h1 (.cons h1 (.cons h1 .nil)))))
    (fun h1 =>
    .ret (runF_con0 hmix (tape := [.reg [nt], .reg [nt, nt, nt, nf, nf, (.br false, true), nt]]) (rr := ii) (by kernel_rfl) (.cons h1 (.cons h1 (.cons h1 .nil)))))

def impl_isDigit (v_c : Int) : Option Bool :=
  if (decide ((48 : Int) ≤ v_c)) = true then
    some (decide (v_c ≤ (57 : Int)))
  else
    some false

theorem impl_isDigit_ok (v_c : Int) : Wp (impl_isDigit v_c) (fun r => Con PP 126 [.n .u8 v_c] [] (.b r) []) := by
  unfold impl_isDigit
  exact .ite (fun h1 =>
    .ret (runF_con0 hmix (tape := [.reg [nt], .reg [nt, nt, nt, nt, nt, (.br true, true), nt]]) (rr := ii) (by kernel_rfl) (.cons h1 (.cons h1 (.cons h1 .nil)))))
    (fun h1 =>
    .ret (runF_con0 hmix (tape := [.reg [nt], .reg [nt, nt, nt, nf, nf, (.br false, true), nt]]) (rr := ii) (by kernel_rfl) (.cons h1 (.cons h1 (.cons h1 .nil)))))

def impl_IsName_L1_head (v_s : ByteArray) (v_t5 : Int) (v_t6 : Int) : S := mkS [(0, .s v_s), (5, .n .i64 v_t5), (6, .n .i64 v_t6)] []

def impl_IsName_L1_ex : ((Unit) ⊕ (Unit)) → Exit
  | .inl _ => .exit 0
  | .inr _ => .ret

def impl_IsName_L1_out (v_s : ByteArray) (v_t5 : Int) : ((Unit) ⊕ (Unit)) → S
  | .inl a => mkS [(0, .s v_s)] []
  | .inr a => mkS [(2, .b false)] []

def impl_IsName_L1_body (v_s : ByteArray) (v_t5 : Int) (v_t6 : Int) : Option ((Int) ⊕ ((Unit) ⊕ (Unit))) :=
  if (decide (v_t6 < v_t5)) = true then
    if 0 ≤ v_t6 ∧ v_t6 < (v_s.size : Nat) then
    impl_isLetter ((v_s.data.toList.getD v_t6.toNat 0).toNat : Int) >>= fun r3 =>
    if r3 = true then
      some (.inl (w64 (v_t6 + (1 : Int))))
    else
      if (v_t6 == (0 : Int)) = true then
        some (.inr (.inr ()))
      else
        impl_isDigit ((v_s.data.toList.getD v_t6.toNat 0).toNat : Int) >>= fun r7 =>
        if r7 = true then
          some (.inl (w64 (v_t6 + (1 : Int))))
        else
          some (.inr (.inr ()))
    else none
  else
    some (.inr (.inl ()))

def impl_IsName_L1 (v_s : ByteArray) (v_t5 : Int) (v_t6 : Int) : Option ((Unit) ⊕ (Unit)) := iter (fun w : Int => impl_IsName_L1_body v_s v_t5 w) v_t6

theorem impl_IsName_L1_body_ok (v_s : ByteArray) (v_t5 : Int) (v_t6 : Int) : Wp (impl_IsName_L1_body v_s v_t5 v_t6) (Sum.elim
    (fun w => VEx PP 33 0 (nodeAt (bodyOf PP 113) [1, 0, 1, 0, 0]) .normal (impl_IsName_L1_head v_s v_t5 v_t6) (impl_IsName_L1_head v_s v_t5 w))
    (fun r => VEx PP 33 0 (nodeAt (bodyOf PP 113) [1, 0, 1, 0, 0]) (impl_IsName_L1_ex r) (impl_IsName_L1_head v_s v_t5 v_t6) (impl_IsName_L1_out v_s v_t5 r))) := by
  unfold impl_IsName_L1_body
  exact .ite (fun h1 =>
      .grd fun h2 =>
       .bnd fun r3 h4 =>
       .ite (fun h5 =>
       .ret ((okC_sound hmix (tape := [.reg [nt], .br true, .reg [nt, nt], .reg [nt, nt, nt, (.call { ac := [ii], r := .b r3, sc := true }, true), nt, nt, nf, nf, nf, nt, nt, nt, nt, nt, nf, (.br false, true)], .br false, .reg [nt, nt], .rst [] [] [(0, ii), (5, ii), (6, ii)]]) (nr := 0) (by kernel_rfl) (.cons h1 (.cons ((h2).1) (.cons ((h2).2) (.cons (impl_isLetter_ok ((v_s.data.toList.getD v_t6.toNat 0).toNat : Int) r3 h4) (.cons (Sc.b _ : Sc (.b r3)) (.cons (not_t h5) (.cons (not_t h5) (.cons (not_t h5) (.cons (not_t h5) (.cons (not_t h5) (.cons (rfl : false = false) .nil))))))))))) (mkS_free _ _) : VEx PP 33 0 (nodeAt (bodyOf PP 113) [1, 0, 1, 0, 0]) .normal (impl_IsName_L1_head v_s v_t5 v_t6) (impl_IsName_L1_head v_s v_t5 (w64 (v_t6 + (1 : Int)))))))
       (fun h5 =>
       .ite (fun h6 =>
        .ret ((okC_sound hmix (tape := [.reg [nt], .br true, .reg [nt, nt], .reg [nt, nt, nt, (.call { ac := [ii], r := .b r3, sc := true }, true), nt, nt, nt, nt, nt, nf, nf, nf, nf, nf, (.br true, true), (.br true, true)], .br true, .reg [nt], .rst [] [] [(2, ii)]]) (nr := 0) (by kernel_rfl) (.cons h1 (.cons ((h2).1) (.cons ((h2).2) (.cons (impl_isLetter_ok ((v_s.data.toList.getD v_t6.toNat 0).toNat : Int) r3 h4) (.cons (Sc.b _ : Sc (.b r3)) (.cons (not_f h5) (.cons (not_f h5) (.cons (not_f h5) (.cons h6 (.cons h6 (.cons h6 (.cons h6 (.cons h6 (.cons (not_f h5) (.cons h6 (.cons (not_f h5) (.cons (rfl : true = true) .nil))))))))))))))))) (mkS_free _ _) : VEx PP 33 0 (nodeAt (bodyOf PP 113) [1, 0, 1, 0, 0]) (.ret) (impl_IsName_L1_head v_s v_t5 v_t6) (impl_IsName_L1_out v_s v_t5 (.inr ())))))
        (fun h6 =>
        .bnd fun r7 h8 =>
         .ite (fun h9 =>
         .ret ((okC_sound hmix (tape := [.reg [nt], .br true, .reg [nt, nt], .reg [nt, nt, nt, (.call { ac := [ii], r := .b r3, sc := true }, true), nt, nt, nt, nt, nt, nt, nt, nt, (.call { ac := [ii], r := .b r7, sc := true }, true), nt, (.br false, true), (.br true, true)], .br false, .reg [nt, nt], .rst [] [] [(0, ii), (5, ii), (6, ii)]]) (nr := 0) (by kernel_rfl) (.cons h1 (.cons ((h2).1) (.cons ((h2).2) (.cons (impl_isLetter_ok ((v_s.data.toList.getD v_t6.toNat 0).toNat : Int) r3 h4) (.cons (Sc.b _ : Sc (.b r3)) (.cons (not_f h5) (.cons (not_f h5) (.cons (not_f h5) (.cons h6 (.cons h6 (.cons h6 (.cons ((h2).1) (.cons ((h2).2) (.cons h6 (.cons (impl_isDigit_ok ((v_s.data.toList.getD v_t6.toNat 0).toNat : Int) r7 h8) (.cons (Sc.b _ : Sc (.b r7)) (.cons h6 (.cons (not_f h5) (.cons h6 (.cons (not_f h5) (.cons (not_t h9) .nil))))))))))))))))))))) (mkS_free _ _) : VEx PP 33 0 (nodeAt (bodyOf PP 113) [1, 0, 1, 0, 0]) .normal (impl_IsName_L1_head v_s v_t5 v_t6) (impl_IsName_L1_head v_s v_t5 (w64 (v_t6 + (1 : Int)))))))
         (fun h9 =>
         .ret ((okC_sound hmix (tape := [.reg [nt], .br true, .reg [nt, nt], .reg [nt, nt, nt, (.call { ac := [ii], r := .b r3, sc := true }, true), nt, nt, nt, nt, nt, nt, nt, nt, (.call { ac := [ii], r := .b r7, sc := true }, true), nt, (.br false, true), (.br true, true)], .br true, .reg [nt], .rst [] [] [(2, ii)]]) (nr := 0) (by kernel_rfl) (.cons h1 (.cons ((h2).1) (.cons ((h2).2) (.cons (impl_isLetter_ok ((v_s.data.toList.getD v_t6.toNat 0).toNat : Int) r3 h4) (.cons (Sc.b _ : Sc (.b r3)) (.cons (not_f h5) (.cons (not_f h5) (.cons (not_f h5) (.cons h6 (.cons h6 (.cons h6 (.cons ((h2).1) (.cons ((h2).2) (.cons h6 (.cons (impl_isDigit_ok ((v_s.data.toList.getD v_t6.toNat 0).toNat : Int) r7 h8) (.cons (Sc.b _ : Sc (.b r7)) (.cons h6 (.cons (not_f h5) (.cons h6 (.cons (not_f h5) (.cons (not_f h9) .nil))))))))))))))))))))) (mkS_free _ _) : VEx PP 33 0 (nodeAt (bodyOf PP 113) [1, 0, 1, 0, 0]) (.ret) (impl_IsName_L1_head v_s v_t5 v_t6) (impl_IsName_L1_out v_s v_t5 (.inr ()))))))))
      (fun h1 =>
      .ret ((okC_sound hmix (tape := [.reg [nt], .br false, .rst [] [] [(0, ii)]]) (nr := 0) (by kernel_rfl) (.cons h1 .nil) (mkS_free _ _) : VEx PP 33 0 (nodeAt (bodyOf PP 113) [1, 0, 1, 0, 0]) (.exit 0) (impl_IsName_L1_head v_s v_t5 v_t6) (impl_IsName_L1_out v_s v_t5 (.inl ())))))

theorem impl_IsName_L1_ok (v_s : ByteArray) (v_t5 : Int) (v_t6 : Int) : ∀ r, impl_IsName_L1 v_s v_t5 v_t6 = some r → VLoop PP 33 0 (nodeAt (bodyOf PP 113) [1, 0, 1, 0, 0]) (impl_IsName_L1_ex r) (impl_IsName_L1_head v_s v_t5 v_t6) (impl_IsName_L1_out v_s v_t5 r) := fun r h =>
  iter_ok (head := fun w : Int => impl_IsName_L1_head v_s v_t5 w) (ex := impl_IsName_L1_ex) (out := impl_IsName_L1_out v_s v_t5) (by intro r; unfold impl_IsName_L1_ex; split <;> simp) (fun w => impl_IsName_L1_body_ok v_s v_t5 w) v_t6 r h

def impl_IsName (v_s : ByteArray) : Option Bool :=
  impl_IsName_L1 v_s (v_s.size : Int) 0 >>= fun r1 =>
  match r1 with
  | .inl a3 => (if (!(v_s.toList == (⟨#[]⟩ : ByteArray).toList)) = true then
      some (decide ((v_s.size : Int) ≤ (8 : Int)))
    else
      some false)
  | .inr a3 => (some false)

theorem impl_IsName_ok (v_s : ByteArray) : Wp (impl_IsName v_s) (fun r => Con PP 113 [.s v_s] [] (.b r) []) := by
  unfold impl_IsName
  exact .bnd fun r1 h2 =>
    match r1, h2 with
    | .inl a3, h2 => (.ite (fun h4 =>
     .ret (runF_con0 hmix (tape := [.reg [nt], .reg [nt, nt, nt], .rst [] [] [(0, ii), (5, ii), (6, ii)], .sub (.exit 0) [(0, .s v_s)] [], .reg [nt, nt, nt, nt, nt, nt, (.br true, true), nt]]) (rr := ii) (by kernel_rfl) (.cons ((impl_IsName_L1_ok v_s (v_s.size : Int) 0 (.inl a3) h2).vex) (.cons h4 (.cons h4 (.cons h4 (.cons h4 .nil)))))))
     (fun h4 =>
     .ret (runF_con0 hmix (tape := [.reg [nt], .reg [nt, nt, nt], .rst [] [] [(0, ii), (5, ii), (6, ii)], .sub (.exit 0) [(0, .s v_s)] [], .reg [nt, nt, nt, nf, nf, nf, (.br false, true), nt]]) (rr := ii) (by kernel_rfl) (.cons ((impl_IsName_L1_ok v_s (v_s.size : Int) 0 (.inl a3) h2).vex) (.cons h4 (.cons h4 (.cons h4 (.cons h4 .nil))))))))
    | .inr a3, h2 => (.ret (runF_con0 hmix (tape := [.reg [nt], .reg [nt, nt, nt], .rst [] [] [(0, ii), (5, ii), (6, ii)], .sub (.ret) [(2, .b false)] []]) (rr := ii) (by kernel_rfl) (.cons ((impl_IsName_L1_ok v_s (v_s.size : Int) 0 (.inr a3) h2).vex) .nil)))

def impl_isPlace (v_n : Int) : Option Bool :=
  if (decide ((-50 : Int) ≤ v_n)) = true then
    some (decide (v_n ≤ (50 : Int)))
  else
    some false

theorem impl_isPlace_ok (v_n : Int) : Wp (impl_isPlace v_n) (fun r => Con PP 114 [.n .i64 v_n] [] (.b r) []) := by
  unfold impl_isPlace
  exact .ite (fun h1 =>
    .ret (runF_con0 hmix (tape := [.reg [nt], .reg [nt, nt, nt, nt, nt, (.br true, true), nt]]) (rr := ii) (by kernel_rfl) (.cons h1 (.cons h1 (.cons h1 .nil)))))
    (fun h1 =>
    .ret (runF_con0 hmix (tape := [.reg [nt], .reg [nt, nt, nt, nf, nf, (.br false, true), nt]]) (rr := ii) (by kernel_rfl) (.cons h1 (.cons h1 (.cons h1 .nil)))))

def impl_JointOk (v_j : TJoint) : Option Bool :=
  impl_IsName v_j.fName >>= fun r1 =>
  if r1 = true then
    impl_isPlace v_j.fX >>= fun r4 =>
    if r4 = true then
      impl_isPlace v_j.fY >>= fun r7 =>
      some r7
    else
      some false
  else
    some false

theorem impl_JointOk_ok (v_j : TJoint) : Wp (impl_JointOk v_j) (fun r => Con PP 89 [.agg [.s v_j.fName, .n .i64 v_j.fX, .n .i64 v_j.fY, .b v_j.fFixed]] [] (.b r) []) := by
  unfold impl_JointOk
  exact .bnd fun r1 h2 =>
    .ite (fun h3 =>
    .bnd fun r4 h5 =>
     .ite (fun h6 =>
     .bnd fun r7 h8 =>
      .ret (runF_con0 hmix (tape := [.reg [nt, nt], .reg [nt, nt, (.call { ac := [ii], r := .b r1, sc := true }, true), nt, nt, nt, (.call { ac := [ii], r := .b r4, sc := true }, true), (.br true, true), nt, nt, nt, (.call { ac := [ii], r := .b r7, sc := true }, true), (.br true, true), nt]]) (rr := ii) (by kernel_rfl) (.cons (impl_IsName_ok v_j.fName r1 h2) (.cons (Sc.b _ : Sc (.b r1)) (.cons h3 (.cons h3 (.cons h3 (.cons (impl_isPlace_ok v_j.fX r4 h5) (.cons (Sc.b _ : Sc (.b r4)) (.cons h3 (.cons h6 (.cons h6 (.cons h6 (.cons (impl_isPlace_ok v_j.fY r7 h8) (.cons (Sc.b _ : Sc (.b r7)) (.cons h6 .nil))))))))))))))))
     (fun h6 =>
     .ret (runF_con0 hmix (tape := [.reg [nt, nt], .reg [nt, nt, (.call { ac := [ii], r := .b r1, sc := true }, true), nt, nt, nt, (.call { ac := [ii], r := .b r4, sc := true }, true), (.br true, true), nt, nf, nf, nf, (.br false, true), nt]]) (rr := ii) (by kernel_rfl) (.cons (impl_IsName_ok v_j.fName r1 h2) (.cons (Sc.b _ : Sc (.b r1)) (.cons h3 (.cons h3 (.cons h3 (.cons (impl_isPlace_ok v_j.fX r4 h5) (.cons (Sc.b _ : Sc (.b r4)) (.cons h3 (.cons h6 (.cons h6 (.cons h6 (.cons h6 .nil)))))))))))))))
    (fun h3 =>
    .ret (runF_con0 hmix (tape := [.reg [nt, nt], .reg [nt, nt, (.call { ac := [ii], r := .b r1, sc := true }, true), nt, nf, nf, nf, (.br false, true), nt, nf, nf, nf, nt, nt]]) (rr := ii) (by kernel_rfl) (.cons (impl_IsName_ok v_j.fName r1 h2) (.cons (Sc.b _ : Sc (.b r1)) (.cons h3 (.cons h3 (.cons h3 (.cons h3 (.cons (rfl : false = false) (.cons (rfl : false = false) (.cons (rfl : false = false) .nil)))))))))))

def impl_JointNamed_1 (v_j : TJoint) (c0 : ByteArray) : Option Bool :=
  some (v_j.fName.toList == c0.toList)

theorem impl_JointNamed_1_ok (v_j : TJoint) (c0 : ByteArray) : Wp (impl_JointNamed_1 v_j c0) (fun r => Con PP 116 [.agg [.s v_j.fName, .n .i64 v_j.fX, .n .i64 v_j.fY, .b v_j.fFixed], .ipt 1 [[.s c0]] 0 0] [] (.b r) []) := by
  unfold impl_JointNamed_1
  exact .ret (runF_con0 hmix (tape := [.reg [nt, nt], .reg [nt, nt, nt, nt, nt]]) (rr := ii) (by kernel_rfl) .nil)

def s_IndexFunc_impl_JointNamed_1_L1_head (v_s : (List TJoint)) (v_f__ : ByteArray) (v_t7 : Int) (v_t8 : Int) : S := mkS [(0, .isl 4 (v_s.map eTJoint)), (1, .fn 116 [.ipt 1 [[.s v_f__]] 0 0]), (7, .n .i64 v_t7), (8, .n .i64 v_t8)] []

def s_IndexFunc_impl_JointNamed_1_L1_ex : ((Unit) ⊕ (Int)) → Exit
  | .inl _ => .exit 0
  | .inr _ => .ret

def s_IndexFunc_impl_JointNamed_1_L1_out (v_s : (List TJoint)) (v_f__ : ByteArray) (v_t7 : Int) : ((Unit) ⊕ (Int)) → S
  | .inl a => mkS [] []
  | .inr a => mkS [(4, .n .i64 a)] []

def s_IndexFunc_impl_JointNamed_1_L1_body (v_s : (List TJoint)) (v_f__ : ByteArray) (v_t7 : Int) (v_t8 : Int) : Option ((Int) ⊕ ((Unit) ⊕ (Int))) :=
  if (decide (v_t8 < v_t7)) = true then
    if 0 ≤ v_t8 ∧ v_t8 < v_s.length then
    v_s[v_t8.toNat]? >>= fun x3 =>
    impl_JointNamed_1 x3 v_f__ >>= fun r5 =>
    if r5 = true then
      some (.inr (.inr v_t8))
    else
      some (.inl (w64 (v_t8 + (1 : Int))))
    else none
  else
    some (.inr (.inl ()))

def s_IndexFunc_impl_JointNamed_1_L1 (v_s : (List TJoint)) (v_f__ : ByteArray) (v_t7 : Int) (v_t8 : Int) : Option ((Unit) ⊕ (Int)) := iter (fun w : Int => s_IndexFunc_impl_JointNamed_1_L1_body v_s v_f__ v_t7 w) v_t8

theorem s_IndexFunc_impl_JointNamed_1_L1_body_ok (v_s : (List TJoint)) (v_f__ : ByteArray) (v_t7 : Int) (v_t8 : Int) : Wp (s_IndexFunc_impl_JointNamed_1_L1_body v_s v_f__ v_t7 v_t8) (Sum.elim
    (fun w => VEx PP 19 0 (nodeAt (bodyOf PP 115) [1, 0, 1, 0, 0]) .normal (s_IndexFunc_impl_JointNamed_1_L1_head v_s v_f__ v_t7 v_t8) (s_IndexFunc_impl_JointNamed_1_L1_head v_s v_f__ v_t7 w))
    (fun r => VEx PP 19 0 (nodeAt (bodyOf PP 115) [1, 0, 1, 0, 0]) (s_IndexFunc_impl_JointNamed_1_L1_ex r) (s_IndexFunc_impl_JointNamed_1_L1_head v_s v_f__ v_t7 v_t8) (s_IndexFunc_impl_JointNamed_1_L1_out v_s v_f__ v_t7 r))) := by
  unfold s_IndexFunc_impl_JointNamed_1_L1_body
  exact .ite (fun h1 =>
      .grd fun h2 =>
       .bnd fun x3 h4 =>
       .bnd fun r5 h6 =>
       .ite (fun h7 =>
       .ret ((okC_sound hmix (tape := [.reg [nt], .br true, .reg [nt, nt], .reg [nt, nt, nt, nt, (.el (eTJoint x3), true), (.call { ac := [ii, ii], r := .b r5, sc := true }, true)], .br true, .reg [nt, nt], .rst [] [] [(4, ii)]]) (nr := 0) (by kernel_rfl) (.cons h1 (.cons ((h2).1) (.cons (lt_mapI (h2).2 : v_t8 < ((v_s.map eTJoint).length : Nat)) (.cons (map_get h4 : (v_s.map eTJoint)[v_t8.toNat]? = some (eTJoint x3)) (.cons (impl_JointNamed_1_ok x3 v_f__ r5 h6) (.cons (Sc.b _ : Sc (.b r5)) (.cons h7 .nil))))))) (mkS_free _ _) : VEx PP 19 0 (nodeAt (bodyOf PP 115) [1, 0, 1, 0, 0]) (.ret) (s_IndexFunc_impl_JointNamed_1_L1_head v_s v_f__ v_t7 v_t8) (s_IndexFunc_impl_JointNamed_1_L1_out v_s v_f__ v_t7 (.inr v_t8)))))
       (fun h7 =>
       .ret ((okC_sound hmix (tape := [.reg [nt], .br true, .reg [nt, nt], .reg [nt, nt, nt, nt, (.el (eTJoint x3), true), (.call { ac := [ii, ii], r := .b r5, sc := true }, true)], .br false, .reg [nt, nt], .rst [] [] [(0, ii), (1, .comp [.c0 .id]), (7, ii), (8, ii)]]) (nr := 0) (by kernel_rfl) (.cons h1 (.cons ((h2).1) (.cons (lt_mapI (h2).2 : v_t8 < ((v_s.map eTJoint).length : Nat)) (.cons (map_get h4 : (v_s.map eTJoint)[v_t8.toNat]? = some (eTJoint x3)) (.cons (impl_JointNamed_1_ok x3 v_f__ r5 h6) (.cons (Sc.b _ : Sc (.b r5)) (.cons h7 .nil))))))) (mkS_free _ _) : VEx PP 19 0 (nodeAt (bodyOf PP 115) [1, 0, 1, 0, 0]) .normal (s_IndexFunc_impl_JointNamed_1_L1_head v_s v_f__ v_t7 v_t8) (s_IndexFunc_impl_JointNamed_1_L1_head v_s v_f__ v_t7 (w64 (v_t8 + (1 : Int))))))))
      (fun h1 =>
      .ret ((okC_sound hmix (tape := [.reg [nt], .br false, .rst [] [] []]) (nr := 0) (by kernel_rfl) (.cons h1 .nil) (mkS_free _ _) : VEx PP 19 0 (nodeAt (bodyOf PP 115) [1, 0, 1, 0, 0]) (.exit 0) (s_IndexFunc_impl_JointNamed_1_L1_head v_s v_f__ v_t7 v_t8) (s_IndexFunc_impl_JointNamed_1_L1_out v_s v_f__ v_t7 (.inl ())))))

theorem s_IndexFunc_impl_JointNamed_1_L1_ok (v_s : (List TJoint)) (v_f__ : ByteArray) (v_t7 : Int) (v_t8 : Int) : ∀ r, s_IndexFunc_impl_JointNamed_1_L1 v_s v_f__ v_t7 v_t8 = some r → VLoop PP 19 0 (nodeAt (bodyOf PP 115) [1, 0, 1, 0, 0]) (s_IndexFunc_impl_JointNamed_1_L1_ex r) (s_IndexFunc_impl_JointNamed_1_L1_head v_s v_f__ v_t7 v_t8) (s_IndexFunc_impl_JointNamed_1_L1_out v_s v_f__ v_t7 r) := fun r h =>
  iter_ok (head := fun w : Int => s_IndexFunc_impl_JointNamed_1_L1_head v_s v_f__ v_t7 w) (ex := s_IndexFunc_impl_JointNamed_1_L1_ex) (out := s_IndexFunc_impl_JointNamed_1_L1_out v_s v_f__ v_t7) (by intro r; unfold s_IndexFunc_impl_JointNamed_1_L1_ex; split <;> simp) (fun w => s_IndexFunc_impl_JointNamed_1_L1_body_ok v_s v_f__ v_t7 w) v_t8 r h

def s_IndexFunc_impl_JointNamed_1 (v_s : (List TJoint)) (v_f_c0 : ByteArray) : Option Int :=
  s_IndexFunc_impl_JointNamed_1_L1 v_s v_f_c0 (len_ eTJoint v_s) 0 >>= fun r1 =>
  match r1 with
  | .inl a3 => (some (-1))
  | .inr a3 => (some a3)

theorem s_IndexFunc_impl_JointNamed_1_ok (v_s : (List TJoint)) (v_f_c0 : ByteArray) : Wp (s_IndexFunc_impl_JointNamed_1 v_s v_f_c0) (fun r => Con PP 115 [.isl 4 (v_s.map eTJoint), .fn 116 [.ipt 1 [[.s v_f_c0]] 0 0]] [] (.n .i64 r) []) := by
  unfold s_IndexFunc_impl_JointNamed_1
  exact .bnd fun r1 h2 =>
    match r1, h2 with
    | .inl a3, h2 => (.ret (runF_con0 hmix (tape := [.reg [nt], .reg [nt, nt, nt], .rst [] [] [(0, ii), (1, .comp [.c0 .id]), (7, ii), (8, ii)], .sub (.exit 0) [] [], .reg [nt]]) (rr := ii) (by kernel_rfl) (.cons ((s_IndexFunc_impl_JointNamed_1_L1_ok v_s v_f_c0 (len_ eTJoint v_s) 0 (.inl a3) h2).vex) .nil)))
    | .inr a3, h2 => (.ret (runF_con0 hmix (tape := [.reg [nt], .reg [nt, nt, nt], .rst [] [] [(0, ii), (1, .comp [.c0 .id]), (7, ii), (8, ii)], .sub (.ret) [(4, .n .i64 a3)] []]) (rr := ii) (by kernel_rfl) (.cons ((s_IndexFunc_impl_JointNamed_1_L1_ok v_s v_f_c0 (len_ eTJoint v_s) 0 (.inr a3) h2).vex) .nil)))

def impl_JointNamed (v_s : TStructure) (v_name : ByteArray) : Option Int :=
  s_IndexFunc_impl_JointNamed_1 v_s.fJoints v_name >>= fun r1 =>
  some r1

theorem impl_JointNamed_ok (v_s : TStructure) (v_name : ByteArray) : Wp (impl_JointNamed v_s v_name) (fun r => Con PP 90 [.agg [.isl 4 (v_s.fJoints.map eTJoint), .isl 3 (v_s.fMembers.map eTMember)], .s v_name] [] (.n .i64 r) []) := by
  unfold impl_JointNamed
  exact .bnd fun r1 h2 =>
    .ret (runF_con0 hmix (tape := [.reg [nt, nt, nt], .reg [nt, nt, nt, (.call { ac := [ii, .comp [.ptr [.id]]], rds := [1], r := .n .i64 r1, sc := true }, true), nt]]) (rr := ii) (by kernel_rfl) (.cons (pure_es1 (eS_pure v_name) : PureEs [[.s v_name]]) (.cons (s_IndexFunc_impl_JointNamed_1_ok v_s.fJoints v_name r1 h2) (.cons (Sc.n _ _ : Sc (.n .i64 r1)) .nil))))

def impl_Structure_memberOk (v_s : TStructure) (v_m : TMember) : Option Bool :=
  if (decide (v_m.fA < (0 : Int))) = true then
    some false
  else
    if (decide ((len_ eTJoint v_s.fJoints) ≤ v_m.fA)) = true then
      some false
    else
      if (decide (v_m.fB < (0 : Int))) = true then
        some false
      else
        if (decide ((len_ eTJoint v_s.fJoints) ≤ v_m.fB)) = true then
          some false
        else
          if (decide (v_m.fKind < (1 : Int))) = true then
            some false
          else
            if (decide ((3 : Int) < v_m.fKind)) = true then
              some false
            else
              if 0 ≤ v_m.fA ∧ v_m.fA < v_s.fJoints.length then
              v_s.fJoints[v_m.fA.toNat]? >>= fun x8 =>
              if 0 ≤ v_m.fB ∧ v_m.fB < v_s.fJoints.length then
              v_s.fJoints[v_m.fB.toNat]? >>= fun x11 =>
              if (x8.fX != x11.fX) = true then
                if x8.fFixed = true then
                  some (!x11.fFixed)
                else
                  some true
              else
                if (x8.fY != x11.fY) = true then
                  if x8.fFixed = true then
                    some (!x11.fFixed)
                  else
                    some true
                else
                  some false
              else none
              else none

theorem impl_Structure_memberOk_ok (v_s : TStructure) (v_m : TMember) : Wp (impl_Structure_memberOk v_s v_m) (fun r => Con PP 93 [.ipt 2 [[.isl 4 (v_s.fJoints.map eTJoint), .isl 3 (v_s.fMembers.map eTMember)]] 0 0, .agg [.n .i64 v_m.fA, .n .i64 v_m.fB, .n .i64 v_m.fKind]] [] (.b r) []) := by
  unfold impl_Structure_memberOk
  exact .ite (fun h1 =>
    .ret (runF_con0 hmix (tape := [.reg [nt, nt], .reg [nt, nt, nt, nt, nt, nt], .reg [nt, nt, nt, nt, nf, nf, nf, nf, (.br true, true), nt, nf, nf, nf, nt, nt, nf, nf, nf, nf, nt, nt, nf, nf, nf, nt, nt, nf, nf, nf, nt], .br true, .reg [nt]]) (rr := ii) (by kernel_rfl) (.cons h1 (.cons h1 (.cons h1 (.cons h1 (.cons h1 (.cons (rfl : true = true) (.cons (rfl : true = true) (.cons (rfl : true = true) (.cons (rfl : true = true) (.cons (rfl : true = true) (.cons (rfl : true = true) (.cons (rfl : true = true) (.cons (rfl : true = true) (.cons (rfl : true = true) (.cons (rfl : true = true) (.cons (rfl : true = true) (.cons (rfl : true = true) (.cons (rfl : true = true) (.cons (rfl : true = true) .nil)))))))))))))))))))))
    (fun h1 =>
    .ite (fun h2 =>
     .ret (runF_con0 hmix (tape := [.reg [nt, nt], .reg [nt, nt, nt, nt, nt, nt], .reg [nt, nt, nt, nt, nt, nt, nt, nt, (.br false, true), nt, nf, nf, nf, (.br true, true), nt, nf, nf, nf, nf, nt, nt, nf, nf, nf, nt, nt, nf, nf, nf, nt], .br true, .reg [nt]]) (rr := ii) (by kernel_rfl) (.cons h1 (.cons h1 (.cons h1 (.cons h1 (.cons h1 (.cons h2 (.cons h2 (.cons h2 (.cons h2 (.cons (rfl : true = true) (.cons (rfl : true = true) (.cons (rfl : true = true) (.cons (rfl : true = true) (.cons (rfl : true = true) (.cons (rfl : true = true) (.cons (rfl : true = true) (.cons (rfl : true = true) (.cons (rfl : true = true) (.cons (rfl : true = true) (.cons (rfl : true = true) .nil))))))))))))))))))))))
     (fun h2 =>
     .ite (fun h3 =>
      .ret (runF_con0 hmix (tape := [.reg [nt, nt], .reg [nt, nt, nt, nt, nt, nt], .reg [nt, nt, nt, nt, nt, nt, nt, nt, (.br false, true), nt, nt, nt, nt, (.br false, true), nt, nf, nf, nf, nf, (.br true, true), nt, nf, nf, nf, nt, nt, nf, nf, nf, nt], .br true, .reg [nt]]) (rr := ii) (by kernel_rfl) (.cons h1 (.cons h1 (.cons h1 (.cons h1 (.cons h1 (.cons h2 (.cons h2 (.cons h2 (.cons h2 (.cons h3 (.cons h3 (.cons h3 (.cons h3 (.cons h3 (.cons (rfl : true = true) (.cons (rfl : true = true) (.cons (rfl : true = true) (.cons (rfl : true = true) (.cons (rfl : true = true) (.cons (rfl : true = true) (.cons (rfl : true = true) .nil)))))))))))))))))))))))
      (fun h3 =>
      .ite (fun h4 =>
       .ret (runF_con0 hmix (tape := [.reg [nt, nt], .reg [nt, nt, nt, nt, nt, nt], .reg [nt, nt, nt, nt, nt, nt, nt, nt, (.br false, true), nt, nt, nt, nt, (.br false, true), nt, nt, nt, nt, nt, (.br false, true), nt, nf, nf, nf, (.br true, true), nt, nf, nf, nf, nt], .br true, .reg [nt]]) (rr := ii) (by kernel_rfl) (.cons h1 (.cons h1 (.cons h1 (.cons h1 (.cons h1 (.cons h2 (.cons h2 (.cons h2 (.cons h2 (.cons h3 (.cons h3 (.cons h3 (.cons h3 (.cons h3 (.cons h4 (.cons h4 (.cons h4 (.cons h4 (.cons (rfl : true = true) (.cons (rfl : true = true) (.cons (rfl : true = true) (.cons (rfl : true = true) .nil))))))))))))))))))))))))
       (fun h4 =>
       .ite (fun h5 =>
        .ret (runF_con0 hmix (tape := [.reg [nt, nt], .reg [nt, nt, nt, nt, nt, nt], .reg [nt, nt, nt, nt, nt, nt, nt, nt, (.br false, true), nt, nt, nt, nt, (.br false, true), nt, nt, nt, nt, nt, (.br false, true), nt, nt, nt, nt, (.br false, true), nt, nf, nf, nf, (.br true, true)], .br true, .reg [nt]]) (rr := ii) (by kernel_rfl) (.cons h1 (.cons h1 (.cons h1 (.cons h1 (.cons h1 (.cons h2 (.cons h2 (.cons h2 (.cons h2 (.cons h3 (.cons h3 (.cons h3 (.cons h3 (.cons h3 (.cons h4 (.cons h4 (.cons h4 (.cons h4 (.cons h5 (.cons h5 (.cons h5 (.cons h5 (.cons (rfl : true = true) .nil)))))))))))))))))))))))))
        (fun h5 =>
        .ite (fun h6 =>
         .ret (runF_con0 hmix (tape := [.reg [nt, nt], .reg [nt, nt, nt, nt, nt, nt], .reg [nt, nt, nt, nt, nt, nt, nt, nt, (.br false, true), nt, nt, nt, nt, (.br false, true), nt, nt, nt, nt, nt, (.br false, true), nt, nt, nt, nt, (.br false, true), nt, nt, nt, nt, (.br false, true)], .br true, .reg [nt]]) (rr := ii) (by kernel_rfl) (.cons h1 (.cons h1 (.cons h1 (.cons h1 (.cons h1 (.cons h2 (.cons h2 (.cons h2 (.cons h2 (.cons h3 (.cons h3 (.cons h3 (.cons h3 (.cons h3 (.cons h4 (.cons h4 (.cons h4 (.cons h4 (.cons h5 (.cons h5 (.cons h5 (.cons h5 (.cons h6 .nil)))))))))))))))))))))))))
         (fun h6 =>
         .grd fun h7 =>
          .bnd fun x8 h9 =>
          .grd fun h10 =>
          .bnd fun x11 h12 =>
          .ite (fun h13 =>
          .ite (fun h14 =>
           .ret (runF_con0 hmix (tape := [.reg [nt, nt], .reg [nt, nt, nt, nt, nt, nt], .reg [nt, nt, nt, nt, nt, nt, nt, nt, (.br false, true), nt, nt, nt, nt, (.br false, true), nt, nt, nt, nt, nt, (.br false, true), nt, nt, nt, nt, (.br false, true), nt, nt, nt, nt, (.br false, true)], .br false, .reg [nt, nt, nt, nt, nt, nt, nt, (.el (eTJoint x8), true), nt, nt, nt, nt, nt, nt, nt, (.el (eTJoint x11), true), nt, nt, nt, nt], .reg [nt, nt, nt, nt, nt, nt, nf, nf, nf, nf, nf, (.br true, true), nt, nt, nt, nt, nt, nt, (.br true, true), nt, nt, nt]]) (rr := ii) (by kernel_rfl) (.cons h1 (.cons h1 (.cons h1 (.cons h1 (.cons h1 (.cons h2 (.cons h2 (.cons h2 (.cons h2 (.cons h3 (.cons h3 (.cons h3 (.cons h3 (.cons h3 (.cons h4 (.cons h4 (.cons h4 (.cons h4 (.cons h5 (.cons h5 (.cons h5 (.cons h5 (.cons h6 (.cons ((h7).1) (.cons (lt_mapI (h7).2 : v_m.fA < ((v_s.fJoints.map eTJoint).length : Nat)) (.cons (map_get h9 : (v_s.fJoints.map eTJoint)[v_m.fA.toNat]? = some (eTJoint x8)) (.cons ((h10).1) (.cons (lt_mapI (h10).2 : v_m.fB < ((v_s.fJoints.map eTJoint).length : Nat)) (.cons (map_get h12 : (v_s.fJoints.map eTJoint)[v_m.fB.toNat]? = some (eTJoint x11)) (.cons h13 (.cons h13 (.cons h13 (.cons h13 (.cons h13 (.cons h13 (.cons (rfl : true = true) (.cons (rfl : true = true) (.cons (rfl : true = true) (.cons h14 (.cons h14 (.cons (rfl : true = true) (.cons h14 (.cons (rfl : true = true) .nil)))))))))))))))))))))))))))))))))))))))))))))
           (fun h14 =>
           .ret (runF_con0 hmix (tape := [.reg [nt, nt], .reg [nt, nt, nt, nt, nt, nt], .reg [nt, nt, nt, nt, nt, nt, nt, nt, (.br false, true), nt, nt, nt, nt, (.br false, true), nt, nt, nt, nt, nt, (.br false, true), nt, nt, nt, nt, (.br false, true), nt, nt, nt, nt, (.br false, true)], .br false, .reg [nt, nt, nt, nt, nt, nt, nt, (.el (eTJoint x8), true), nt, nt, nt, nt, nt, nt, nt, (.el (eTJoint x11), true), nt, nt, nt, nt], .reg [nt, nt, nt, nt, nt, nt, nf, nf, nf, nf, nf, (.br true, true), nt, nt, nt, nt, nf, nf, (.br false, true), nt, nt, nt]]) (rr := ii) (by kernel_rfl) (.cons h1 (.cons h1 (.cons h1 (.cons h1 (.cons h1 (.cons h2 (.cons h2 (.cons h2 (.cons h2 (.cons h3 (.cons h3 (.cons h3 (.cons h3 (.cons h3 (.cons h4 (.cons h4 (.cons h4 (.cons h4 (.cons h5 (.cons h5 (.cons h5 (.cons h5 (.cons h6 (.cons ((h7).1) (.cons (lt_mapI (h7).2 : v_m.fA < ((v_s.fJoints.map eTJoint).length : Nat)) (.cons (map_get h9 : (v_s.fJoints.map eTJoint)[v_m.fA.toNat]? = some (eTJoint x8)) (.cons ((h10).1) (.cons (lt_mapI (h10).2 : v_m.fB < ((v_s.fJoints.map eTJoint).length : Nat)) (.cons (map_get h12 : (v_s.fJoints.map eTJoint)[v_m.fB.toNat]? = some (eTJoint x11)) (.cons h13 (.cons h13 (.cons h13 (.cons h13 (.cons h13 (.cons h13 (.cons (rfl : true = true) (.cons (rfl : true = true) (.cons (rfl : true = true) (.cons h14 (.cons h14 (.cons (rfl : true = true) (.cons h14 (.cons (rfl : true = true) .nil))))))))))))))))))))))))))))))))))))))))))))))
          (fun h13 =>
          .ite (fun h14 =>
           .ite (fun h15 =>
            .ret (runF_con0 hmix (tape := [.reg [nt, nt], .reg [nt, nt, nt, nt, nt, nt], .reg [nt, nt, nt, nt, nt, nt, nt, nt, (.br false, true), nt, nt, nt, nt, (.br false, true), nt, nt, nt, nt, nt, (.br false, true), nt, nt, nt, nt, (.br false, true), nt, nt, nt, nt, (.br false, true)], .br false, .reg [nt, nt, nt, nt, nt, nt, nt, (.el (eTJoint x8), true), nt, nt, nt, nt, nt, nt, nt, (.el (eTJoint x11), true), nt, nt, nt, nt], .reg [nt, nt, nt, nt, nt, nt, nt, nt, nt, nt, nt, (.br false, true), nt, nt, nt, nt, nt, nt, (.br true, true), nt, (.br true, true), nt]]) (rr := ii) (by kernel_rfl) (.cons h1 (.cons h1 (.cons h1 (.cons h1 (.cons h1 (.cons h2 (.cons h2 (.cons h2 (.cons h2 (.cons h3 (.cons h3 (.cons h3 (.cons h3 (.cons h3 (.cons h4 (.cons h4 (.cons h4 (.cons h4 (.cons h5 (.cons h5 (.cons h5 (.cons h5 (.cons h6 (.cons ((h7).1) (.cons (lt_mapI (h7).2 : v_m.fA < ((v_s.fJoints.map eTJoint).length : Nat)) (.cons (map_get h9 : (v_s.fJoints.map eTJoint)[v_m.fA.toNat]? = some (eTJoint x8)) (.cons ((h10).1) (.cons (lt_mapI (h10).2 : v_m.fB < ((v_s.fJoints.map eTJoint).length : Nat)) (.cons (map_get h12 : (v_s.fJoints.map eTJoint)[v_m.fB.toNat]? = some (eTJoint x11)) (.cons h13 (.cons h13 (.cons h13 (.cons h13 (.cons h13 (.cons h13 (.cons h14 (.cons h14 (.cons h14 (.cons h15 (.cons h15 (.cons h14 (.cons h15 (.cons h14 (.cons h14 .nil))))))))))))))))))))))))))))))))))))))))))))))
            (fun h15 =>
            .ret (runF_con0 hmix (tape := [.reg [nt, nt], .reg [nt, nt, nt, nt, nt, nt], .reg [nt, nt, nt, nt, nt, nt, nt, nt, (.br false, true), nt, nt, nt, nt, (.br false, true), nt, nt, nt, nt, nt, (.br false, true), nt, nt, nt, nt, (.br false, true), nt, nt, nt, nt, (.br false, true)], .br false, .reg [nt, nt, nt, nt, nt, nt, nt, (.el (eTJoint x8), true), nt, nt, nt, nt, nt, nt, nt, (.el (eTJoint x11), true), nt, nt, nt, nt], .reg [nt, nt, nt, nt, nt, nt, nt, nt, nt, nt, nt, (.br false, true), nt, nt, nt, nt, nf, nf, (.br false, true), nt, (.br true, true), nt]]) (rr := ii) (by kernel_rfl) (.cons h1 (.cons h1 (.cons h1 (.cons h1 (.cons h1 (.cons h2 (.cons h2 (.cons h2 (.cons h2 (.cons h3 (.cons h3 (.cons h3 (.cons h3 (.cons h3 (.cons h4 (.cons h4 (.cons h4 (.cons h4 (.cons h5 (.cons h5 (.cons h5 (.cons h5 (.cons h6 (.cons ((h7).1) (.cons (lt_mapI (h7).2 : v_m.fA < ((v_s.fJoints.map eTJoint).length : Nat)) (.cons (map_get h9 : (v_s.fJoints.map eTJoint)[v_m.fA.toNat]? = some (eTJoint x8)) (.cons ((h10).1) (.cons (lt_mapI (h10).2 : v_m.fB < ((v_s.fJoints.map eTJoint).length : Nat)) (.cons (map_get h12 : (v_s.fJoints.map eTJoint)[v_m.fB.toNat]? = some (eTJoint x11)) (.cons h13 (.cons h13 (.cons h13 (.cons h13 (.cons h13 (.cons h13 (.cons h14 (.cons h14 (.cons h14 (.cons h15 (.cons h15 (.cons h14 (.cons h15 (.cons h14 (.cons h14 .nil)))))))))))))))))))))))))))))))))))))))))))))))
           (fun h14 =>
           .ret (runF_con0 hmix (tape := [.reg [nt, nt], .reg [nt, nt, nt, nt, nt, nt], .reg [nt, nt, nt, nt, nt, nt, nt, nt, (.br false, true), nt, nt, nt, nt, (.br false, true), nt, nt, nt, nt, nt, (.br false, true), nt, nt, nt, nt, (.br false, true), nt, nt, nt, nt, (.br false, true)], .br false, .reg [nt, nt, nt, nt, nt, nt, nt, (.el (eTJoint x8), true), nt, nt, nt, nt, nt, nt, nt, (.el (eTJoint x11), true), nt, nt, nt, nt], .reg [nt, nt, nt, nt, nt, nt, nt, nt, nt, nt, nt, (.br false, true), nt, nf, nf, nf, nt, nt, nf, nf, (.br false, true), nt]]) (rr := ii) (by kernel_rfl) (.cons h1 (.cons h1 (.cons h1 (.cons h1 (.cons h1 (.cons h2 (.cons h2 (.cons h2 (.cons h2 (.cons h3 (.cons h3 (.cons h3 (.cons h3 (.cons h3 (.cons h4 (.cons h4 (.cons h4 (.cons h4 (.cons h5 (.cons h5 (.cons h5 (.cons h5 (.cons h6 (.cons ((h7).1) (.cons (lt_mapI (h7).2 : v_m.fA < ((v_s.fJoints.map eTJoint).length : Nat)) (.cons (map_get h9 : (v_s.fJoints.map eTJoint)[v_m.fA.toNat]? = some (eTJoint x8)) (.cons ((h10).1) (.cons (lt_mapI (h10).2 : v_m.fB < ((v_s.fJoints.map eTJoint).length : Nat)) (.cons (map_get h12 : (v_s.fJoints.map eTJoint)[v_m.fB.toNat]? = some (eTJoint x11)) (.cons h13 (.cons h13 (.cons h13 (.cons h13 (.cons h13 (.cons h13 (.cons h14 (.cons h14 (.cons h14 (.cons h14 (.cons h14 (.cons h14 .nil))))))))))))))))))))))))))))))))))))))))))))))))))

def impl_StructureOk_1 (v_m : TMember) (c0 : TStructure) : Option Bool :=
  impl_Structure_memberOk c0 v_m >>= fun r1 =>
  some (!r1)

theorem impl_StructureOk_1_ok (v_m : TMember) (c0 : TStructure) : Wp (impl_StructureOk_1 v_m c0) (fun r => Con PP 92 [.agg [.n .i64 v_m.fA, .n .i64 v_m.fB, .n .i64 v_m.fKind], .ipt 2 [[.isl 4 (c0.fJoints.map eTJoint), .isl 3 (c0.fMembers.map eTMember)]] 0 0] [] (.b r) []) := by
  unfold impl_StructureOk_1
  exact .bnd fun r1 h2 =>
    .ret (runF_con0 hmix (tape := [.reg [nt, nt], .reg [nt, (.call { ac := [ii, ii], r := .b r1, sc := true }, true), nt, nt]]) (rr := ii) (by kernel_rfl) (.cons (impl_Structure_memberOk_ok c0 v_m r1 h2) (.cons (Sc.b _ : Sc (.b r1)) .nil)))

def s_IndexFunc_impl_StructureOk_1_L1_head (v_s : (List TMember)) (v_f__ : (List TJoint)) (v_f__' : (List TMember)) (v_t7 : Int) (v_t8 : Int) : S := mkS [(0, .isl 3 (v_s.map eTMember)), (1, .fn 92 [.ipt 2 [[.isl 4 (v_f__.map eTJoint), .isl 3 (v_f__'.map eTMember)]] 0 0]), (7, .n .i64 v_t7), (8, .n .i64 v_t8)] []

def s_IndexFunc_impl_StructureOk_1_L1_ex : ((Unit) ⊕ (Int)) → Exit
  | .inl _ => .exit 0
  | .inr _ => .ret

def s_IndexFunc_impl_StructureOk_1_L1_out (v_s : (List TMember)) (v_f__ : (List TJoint)) (v_f__' : (List TMember)) (v_t7 : Int) : ((Unit) ⊕ (Int)) → S
  | .inl a => mkS [] []
  | .inr a => mkS [(4, .n .i64 a)] []

def s_IndexFunc_impl_StructureOk_1_L1_body (v_s : (List TMember)) (v_f__ : (List TJoint)) (v_f__' : (List TMember)) (v_t7 : Int) (v_t8 : Int) : Option ((Int) ⊕ ((Unit) ⊕ (Int))) :=
  if (decide (v_t8 < v_t7)) = true then
    if 0 ≤ v_t8 ∧ v_t8 < v_s.length then
    v_s[v_t8.toNat]? >>= fun x3 =>
    impl_StructureOk_1 x3 (⟨v_f__, v_f__'⟩ : TStructure) >>= fun r5 =>
    if r5 = true then
      some (.inr (.inr v_t8))
    else
      some (.inl (w64 (v_t8 + (1 : Int))))
    else none
  else
    some (.inr (.inl ()))

def s_IndexFunc_impl_StructureOk_1_L1 (v_s : (List TMember)) (v_f__ : (List TJoint)) (v_f__' : (List TMember)) (v_t7 : Int) (v_t8 : Int) : Option ((Unit) ⊕ (Int)) := iter (fun w : Int => s_IndexFunc_impl_StructureOk_1_L1_body v_s v_f__ v_f__' v_t7 w) v_t8

theorem s_IndexFunc_impl_StructureOk_1_L1_body_ok (v_s : (List TMember)) (v_f__ : (List TJoint)) (v_f__' : (List TMember)) (v_t7 : Int) (v_t8 : Int) : Wp (s_IndexFunc_impl_StructureOk_1_L1_body v_s v_f__ v_f__' v_t7 v_t8) (Sum.elim
    (fun w => VEx PP 19 0 (nodeAt (bodyOf PP 117) [1, 0, 1, 0, 0]) .normal (s_IndexFunc_impl_StructureOk_1_L1_head v_s v_f__ v_f__' v_t7 v_t8) (s_IndexFunc_impl_StructureOk_1_L1_head v_s v_f__ v_f__' v_t7 w))
    (fun r => VEx PP 19 0 (nodeAt (bodyOf PP 117) [1, 0, 1, 0, 0]) (s_IndexFunc_impl_StructureOk_1_L1_ex r) (s_IndexFunc_impl_StructureOk_1_L1_head v_s v_f__ v_f__' v_t7 v_t8) (s_IndexFunc_impl_StructureOk_1_L1_out v_s v_f__ v_f__' v_t7 r))) := by
  unfold s_IndexFunc_impl_StructureOk_1_L1_body
  exact .ite (fun h1 =>
      .grd fun h2 =>
       .bnd fun x3 h4 =>
       .bnd fun r5 h6 =>
       .ite (fun h7 =>
       .ret ((okC_sound hmix (tape := [.reg [nt], .br true, .reg [nt, nt], .reg [nt, nt, nt, nt, (.el (eTMember x3), true), (.call { ac := [ii, ii], r := .b r5, sc := true }, true)], .br true, .reg [nt, nt], .rst [] [] [(4, ii)]]) (nr := 0) (by kernel_rfl) (.cons h1 (.cons ((h2).1) (.cons (lt_mapI (h2).2 : v_t8 < ((v_s.map eTMember).length : Nat)) (.cons (map_get h4 : (v_s.map eTMember)[v_t8.toNat]? = some (eTMember x3)) (.cons (impl_StructureOk_1_ok x3 (⟨v_f__, v_f__'⟩ : TStructure) r5 h6) (.cons (Sc.b _ : Sc (.b r5)) (.cons h7 .nil))))))) (mkS_free _ _) : VEx PP 19 0 (nodeAt (bodyOf PP 117) [1, 0, 1, 0, 0]) (.ret) (s_IndexFunc_impl_StructureOk_1_L1_head v_s v_f__ v_f__' v_t7 v_t8) (s_IndexFunc_impl_StructureOk_1_L1_out v_s v_f__ v_f__' v_t7 (.inr v_t8)))))
       (fun h7 =>
       .ret ((okC_sound hmix (tape := [.reg [nt], .br true, .reg [nt, nt], .reg [nt, nt, nt, nt, (.el (eTMember x3), true), (.call { ac := [ii, ii], r := .b r5, sc := true }, true)], .br false, .reg [nt, nt], .rst [] [] [(0, ii), (1, .comp [.c0 .id]), (7, ii), (8, ii)]]) (nr := 0) (by kernel_rfl) (.cons h1 (.cons ((h2).1) (.cons (lt_mapI (h2).2 : v_t8 < ((v_s.map eTMember).length : Nat)) (.cons (map_get h4 : (v_s.map eTMember)[v_t8.toNat]? = some (eTMember x3)) (.cons (impl_StructureOk_1_ok x3 (⟨v_f__, v_f__'⟩ : TStructure) r5 h6) (.cons (Sc.b _ : Sc (.b r5)) (.cons h7 .nil))))))) (mkS_free _ _) : VEx PP 19 0 (nodeAt (bodyOf PP 117) [1, 0, 1, 0, 0]) .normal (s_IndexFunc_impl_StructureOk_1_L1_head v_s v_f__ v_f__' v_t7 v_t8) (s_IndexFunc_impl_StructureOk_1_L1_head v_s v_f__ v_f__' v_t7 (w64 (v_t8 + (1 : Int))))))))
      (fun h1 =>
      .ret ((okC_sound hmix (tape := [.reg [nt], .br false, .rst [] [] []]) (nr := 0) (by kernel_rfl) (.cons h1 .nil) (mkS_free _ _) : VEx PP 19 0 (nodeAt (bodyOf PP 117) [1, 0, 1, 0, 0]) (.exit 0) (s_IndexFunc_impl_StructureOk_1_L1_head v_s v_f__ v_f__' v_t7 v_t8) (s_IndexFunc_impl_StructureOk_1_L1_out v_s v_f__ v_f__' v_t7 (.inl ())))))

theorem s_IndexFunc_impl_StructureOk_1_L1_ok (v_s : (List TMember)) (v_f__ : (List TJoint)) (v_f__' : (List TMember)) (v_t7 : Int) (v_t8 : Int) : ∀ r, s_IndexFunc_impl_StructureOk_1_L1 v_s v_f__ v_f__' v_t7 v_t8 = some r → VLoop PP 19 0 (nodeAt (bodyOf PP 117) [1, 0, 1, 0, 0]) (s_IndexFunc_impl_StructureOk_1_L1_ex r) (s_IndexFunc_impl_StructureOk_1_L1_head v_s v_f__ v_f__' v_t7 v_t8) (s_IndexFunc_impl_StructureOk_1_L1_out v_s v_f__ v_f__' v_t7 r) := fun r h =>
  iter_ok (head := fun w : Int => s_IndexFunc_impl_StructureOk_1_L1_head v_s v_f__ v_f__' v_t7 w) (ex := s_IndexFunc_impl_StructureOk_1_L1_ex) (out := s_IndexFunc_impl_StructureOk_1_L1_out v_s v_f__ v_f__' v_t7) (by intro r; unfold s_IndexFunc_impl_StructureOk_1_L1_ex; split <;> simp) (fun w => s_IndexFunc_impl_StructureOk_1_L1_body_ok v_s v_f__ v_f__' v_t7 w) v_t8 r h

def s_IndexFunc_impl_StructureOk_1 (v_s : (List TMember)) (v_f_c0 : TStructure) : Option Int :=
  s_IndexFunc_impl_StructureOk_1_L1 v_s v_f_c0.fJoints v_f_c0.fMembers (len_ eTMember v_s) 0 >>= fun r1 =>
  match r1 with
  | .inl a3 => (some (-1))
  | .inr a3 => (some a3)

theorem s_IndexFunc_impl_StructureOk_1_ok (v_s : (List TMember)) (v_f_c0 : TStructure) : Wp (s_IndexFunc_impl_StructureOk_1 v_s v_f_c0) (fun r => Con PP 117 [.isl 3 (v_s.map eTMember), .fn 92 [.ipt 2 [[.isl 4 (v_f_c0.fJoints.map eTJoint), .isl 3 (v_f_c0.fMembers.map eTMember)]] 0 0]] [] (.n .i64 r) []) := by
  unfold s_IndexFunc_impl_StructureOk_1
  exact .bnd fun r1 h2 =>
    match r1, h2 with
    | .inl a3, h2 => (.ret (runF_con0 hmix (tape := [.reg [nt], .reg [nt, nt, nt], .rst [] [] [(0, ii), (1, .comp [.c0 .id]), (7, ii), (8, ii)], .sub (.exit 0) [] [], .reg [nt]]) (rr := ii) (by kernel_rfl) (.cons ((s_IndexFunc_impl_StructureOk_1_L1_ok v_s v_f_c0.fJoints v_f_c0.fMembers (len_ eTMember v_s) 0 (.inl a3) h2).vex) .nil)))
    | .inr a3, h2 => (.ret (runF_con0 hmix (tape := [.reg [nt], .reg [nt, nt, nt], .rst [] [] [(0, ii), (1, .comp [.c0 .id]), (7, ii), (8, ii)], .sub (.ret) [(4, .n .i64 a3)] []]) (rr := ii) (by kernel_rfl) (.cons ((s_IndexFunc_impl_StructureOk_1_L1_ok v_s v_f_c0.fJoints v_f_c0.fMembers (len_ eTMember v_s) 0 (.inr a3) h2).vex) .nil)))

def s_ContainsFunc_impl_StructureOk_1 (v_s : (List TMember)) (v_f_c0 : TStructure) : Option Bool :=
  s_IndexFunc_impl_StructureOk_1 v_s v_f_c0 >>= fun r1 =>
  some (decide ((0 : Int) ≤ r1))

theorem s_ContainsFunc_impl_StructureOk_1_ok (v_s : (List TMember)) (v_f_c0 : TStructure) : Wp (s_ContainsFunc_impl_StructureOk_1 v_s v_f_c0) (fun r => Con PP 91 [.isl 3 (v_s.map eTMember), .fn 92 [.ipt 2 [[.isl 4 (v_f_c0.fJoints.map eTJoint), .isl 3 (v_f_c0.fMembers.map eTMember)]] 0 0]] [] (.b r) []) := by
  unfold s_ContainsFunc_impl_StructureOk_1
  exact .bnd fun r1 h2 =>
    .ret (runF_con0 hmix (tape := [.reg [nt], .reg [nt, nt, (.call { ac := [ii, ii], r := .n .i64 r1, sc := true }, true), nt, nt]]) (rr := ii) (by kernel_rfl) (.cons (s_IndexFunc_impl_StructureOk_1_ok v_s v_f_c0 r1 h2) (.cons (Sc.n _ _ : Sc (.n .i64 r1)) .nil)))

def impl_StructureOk_L1_head (v_t16 : (List TJoint)) (v_t17 : Int) (box0_' : (List TMember)) (v_t18 : Int) : S := mkS [(1, .ref 0 0 0 0), (16, .isl 4 (v_t16.map eTJoint)), (17, .n .i64 v_t17), (18, .n .i64 v_t18)] [[Ob.mk 2 [[.isl 4 (v_t16.map eTJoint), .isl 3 (box0_'.map eTMember)]] .live]]

def impl_StructureOk_L1_ex : ((Unit) ⊕ (Unit)) → Exit
  | .inl _ => .exit 0
  | .inr _ => .ret

def impl_StructureOk_L1_out (v_t16 : (List TJoint)) (v_t17 : Int) (box0_' : (List TMember)) : ((Unit) ⊕ (Unit)) → S
  | .inl a => mkS [(1, .ref 0 0 0 0)] [[Ob.mk 2 [[.isl 4 (v_t16.map eTJoint), .isl 3 (box0_'.map eTMember)]] .live]]
  | .inr a => mkS [(2, .b false)] []

def impl_StructureOk_L1_body (v_t16 : (List TJoint)) (v_t17 : Int) (box0_' : (List TMember)) (v_t18 : Int) : Option ((Int) ⊕ ((Unit) ⊕ (Unit))) :=
  if (decide (v_t18 < v_t17)) = true then
    if 0 ≤ v_t18 ∧ v_t18 < v_t16.length then
    v_t16[v_t18.toNat]? >>= fun x3 =>
    impl_JointOk x3 >>= fun r5 =>
    if r5 = true then
      impl_JointNamed (⟨v_t16, box0_'⟩ : TStructure) x3.fName >>= fun r8 =>
      if (r8 != v_t18) = true then
        some (.inr (.inr ()))
      else
        some (.inl (w64 (v_t18 + (1 : Int))))
    else
      some (.inr (.inr ()))
    else none
  else
    some (.inr (.inl ()))

def impl_StructureOk_L1 (v_t16 : (List TJoint)) (v_t17 : Int) (box0_' : (List TMember)) (v_t18 : Int) : Option ((Unit) ⊕ (Unit)) := iter (fun w : Int => impl_StructureOk_L1_body v_t16 v_t17 box0_' w) v_t18

theorem impl_StructureOk_L1_body_ok (v_t16 : (List TJoint)) (v_t17 : Int) (box0_' : (List TMember)) (v_t18 : Int) : Wp (impl_StructureOk_L1_body v_t16 v_t17 box0_' v_t18) (Sum.elim
    (fun w => VEx PP 40 0 (nodeAt (bodyOf PP 63) [1, 1, 0, 1, 0, 0]) .normal (impl_StructureOk_L1_head v_t16 v_t17 box0_' v_t18) (impl_StructureOk_L1_head v_t16 v_t17 box0_' w))
    (fun r => VEx PP 40 0 (nodeAt (bodyOf PP 63) [1, 1, 0, 1, 0, 0]) (impl_StructureOk_L1_ex r) (impl_StructureOk_L1_head v_t16 v_t17 box0_' v_t18) (impl_StructureOk_L1_out v_t16 v_t17 box0_' r))) := by
  unfold impl_StructureOk_L1_body
  exact .ite (fun h1 =>
      .grd fun h2 =>
       .bnd fun x3 h4 =>
       .bnd fun r5 h6 =>
       .ite (fun h7 =>
       .bnd fun r8 h9 =>
        .ite (fun h10 =>
        .ret ((okC_sound hmix (tape := [.reg [nt], .br true, .reg [nt, nt, (.el (eTJoint x3), true), nt, nt, nt], .reg [nt, (.call { ac := [ii], r := .b r5, sc := true }, true), nt, nt, nt, nt, nt, (.call { ac := [ii, ii], r := .n .i64 r8, sc := true }, true), nt, nt, (.br false, true)], .br true, .reg [nt], .rst [] [] [(2, ii)]]) (nr := 1) (by kernel_rfl) (.cons h1 (.cons ((h2).1) (.cons (lt_mapI (h2).2 : v_t18 < ((v_t16.map eTJoint).length : Nat)) (.cons (map_get h4 : (v_t16.map eTJoint)[v_t18.toNat]? = some (eTJoint x3)) (.cons (impl_JointOk_ok x3 r5 h6) (.cons (Sc.b _ : Sc (.b r5)) (.cons (not_t h7) (.cons (not_t h7) (.cons (not_t h7) (.cons (not_t h7) (.cons (impl_JointNamed_ok (⟨v_t16, box0_'⟩ : TStructure) x3.fName r8 h9) (.cons (Sc.n _ _ : Sc (.n .i64 r8)) (.cons (not_t h7) (.cons (not_t h7) (.cons (not_t h7) (.cons h10 .nil)))))))))))))))) (mkS_free _ _) : VEx PP 40 0 (nodeAt (bodyOf PP 63) [1, 1, 0, 1, 0, 0]) (.ret) (impl_StructureOk_L1_head v_t16 v_t17 box0_' v_t18) (impl_StructureOk_L1_out v_t16 v_t17 box0_' (.inr ())))))
        (fun h10 =>
        .ret ((okC_sound hmix (tape := [.reg [nt], .br true, .reg [nt, nt, (.el (eTJoint x3), true), nt, nt, nt], .reg [nt, (.call { ac := [ii], r := .b r5, sc := true }, true), nt, nt, nt, nt, nt, (.call { ac := [ii, ii], r := .n .i64 r8, sc := true }, true), nt, nt, (.br false, true)], .br false, .reg [nt, nt], .rst [0] [.box [.id, .id]] [(1, ii), (16, ii), (17, ii), (18, ii)]]) (nr := 1) (by kernel_rfl) (.cons h1 (.cons ((h2).1) (.cons (lt_mapI (h2).2 : v_t18 < ((v_t16.map eTJoint).length : Nat)) (.cons (map_get h4 : (v_t16.map eTJoint)[v_t18.toNat]? = some (eTJoint x3)) (.cons (impl_JointOk_ok x3 r5 h6) (.cons (Sc.b _ : Sc (.b r5)) (.cons (not_t h7) (.cons (not_t h7) (.cons (not_t h7) (.cons (not_t h7) (.cons (impl_JointNamed_ok (⟨v_t16, box0_'⟩ : TStructure) x3.fName r8 h9) (.cons (Sc.n _ _ : Sc (.n .i64 r8)) (.cons (not_t h7) (.cons (not_t h7) (.cons (not_t h7) (.cons h10 .nil)))))))))))))))) (mkS_free _ _) : VEx PP 40 0 (nodeAt (bodyOf PP 63) [1, 1, 0, 1, 0, 0]) .normal (impl_StructureOk_L1_head v_t16 v_t17 box0_' v_t18) (impl_StructureOk_L1_head v_t16 v_t17 box0_' (w64 (v_t18 + (1 : Int))))))))
       (fun h7 =>
       .ret ((okC_sound hmix (tape := [.reg [nt], .br true, .reg [nt, nt, (.el (eTJoint x3), true), nt, nt, nt], .reg [nt, (.call { ac := [ii], r := .b r5, sc := true }, true), nt, nt, nf, nf, nf, nf, nf, nf, (.br true, true)], .br true, .reg [nt], .rst [] [] [(2, ii)]]) (nr := 1) (by kernel_rfl) (.cons h1 (.cons ((h2).1) (.cons (lt_mapI (h2).2 : v_t18 < ((v_t16.map eTJoint).length : Nat)) (.cons (map_get h4 : (v_t16.map eTJoint)[v_t18.toNat]? = some (eTJoint x3)) (.cons (impl_JointOk_ok x3 r5 h6) (.cons (Sc.b _ : Sc (.b r5)) (.cons (not_f h7) (.cons (not_f h7) (.cons (not_f h7) (.cons (not_f h7) (.cons (not_f h7) (.cons (not_f h7) (.cons (not_f h7) (.cons (rfl : true = true) .nil)))))))))))))) (mkS_free _ _) : VEx PP 40 0 (nodeAt (bodyOf PP 63) [1, 1, 0, 1, 0, 0]) (.ret) (impl_StructureOk_L1_head v_t16 v_t17 box0_' v_t18) (impl_StructureOk_L1_out v_t16 v_t17 box0_' (.inr ()))))))
      (fun h1 =>
      .ret ((okC_sound hmix (tape := [.reg [nt], .br false, .rst [0] [.box [.id, .id]] [(1, ii)]]) (nr := 1) (by kernel_rfl) (.cons h1 .nil) (mkS_free _ _) : VEx PP 40 0 (nodeAt (bodyOf PP 63) [1, 1, 0, 1, 0, 0]) (.exit 0) (impl_StructureOk_L1_head v_t16 v_t17 box0_' v_t18) (impl_StructureOk_L1_out v_t16 v_t17 box0_' (.inl ())))))

theorem impl_StructureOk_L1_ok (v_t16 : (List TJoint)) (v_t17 : Int) (box0_' : (List TMember)) (v_t18 : Int) : ∀ r, impl_StructureOk_L1 v_t16 v_t17 box0_' v_t18 = some r → VLoop PP 40 0 (nodeAt (bodyOf PP 63) [1, 1, 0, 1, 0, 0]) (impl_StructureOk_L1_ex r) (impl_StructureOk_L1_head v_t16 v_t17 box0_' v_t18) (impl_StructureOk_L1_out v_t16 v_t17 box0_' r) := fun r h =>
  iter_ok (head := fun w : Int => impl_StructureOk_L1_head v_t16 v_t17 box0_' w) (ex := impl_StructureOk_L1_ex) (out := impl_StructureOk_L1_out v_t16 v_t17 box0_') (by intro r; unfold impl_StructureOk_L1_ex; split <;> simp) (fun w => impl_StructureOk_L1_body_ok v_t16 v_t17 box0_' w) v_t18 r h

def impl_StructureOk (v_s : TStructure) : Option Bool :=
  if (decide ((6 : Int) < (len_ eTJoint v_s.fJoints))) = true then
    some false
  else
    if (decide ((8 : Int) < (len_ eTMember v_s.fMembers))) = true then
      some false
    else
      impl_StructureOk_L1 v_s.fJoints (len_ eTJoint v_s.fJoints) v_s.fMembers 0 >>= fun r3 =>
      match r3 with
      | .inl a5 => (s_ContainsFunc_impl_StructureOk_1 v_s.fMembers v_s >>= fun r6 =>
        some (!r6))
      | .inr a5 => (some false)

theorem impl_StructureOk_ok (v_s : TStructure) : Wp (impl_StructureOk v_s) (fun r => Con PP 63 [.agg [.isl 4 (v_s.fJoints.map eTJoint), .isl 3 (v_s.fMembers.map eTMember)]] [] (.b r) []) := by
  unfold impl_StructureOk
  exact .ite (fun h1 =>
    .ret (runF_con0 hmix (tape := [.reg [nt, nt], .reg [nt, nt, nt, nt, nt, nf, nf, nf, nf, (.br true, true)], .br true, .reg [nt]]) (rr := ii) (by kernel_rfl) (.cons h1 (.cons h1 (.cons h1 (.cons h1 (.cons h1 (.cons (rfl : true = true) .nil))))))))
    (fun h1 =>
    .ite (fun h2 =>
     .ret (runF_con0 hmix (tape := [.reg [nt, nt], .reg [nt, nt, nt, nt, nt, nt, nt, nt, nt, (.br false, true)], .br true, .reg [nt]]) (rr := ii) (by kernel_rfl) (.cons h1 (.cons h1 (.cons h1 (.cons h1 (.cons h1 (.cons h2 .nil))))))))
     (fun h2 =>
     .bnd fun r3 h4 =>
      match r3, h4 with
      | .inl a5, h4 => (.bnd fun r6 h7 =>
       .ret (runF_con0 hmix (tape := [.reg [nt, nt], .reg [nt, nt, nt, nt, nt, nt, nt, nt, nt, (.br false, true)], .br false, .reg [nt, nt, nt, nt], .rst [0] [.box [.id, .id]] [(1, ii), (16, ii), (17, ii), (18, ii)], .sub (.exit 0) [(1, .ref 0 0 0 0)] [[Ob.mk 2 [[.isl 4 (v_s.fJoints.map eTJoint), .isl 3 (v_s.fMembers.map eTMember)]] .live]], .reg [nt, nt, nt, (.call { ac := [ii, .comp [.ptr [.id, .id]]], rds := [0], r := .b r6, sc := true }, true), nt, nt]]) (rr := ii) (by kernel_rfl) (.cons h1 (.cons h1 (.cons h1 (.cons h1 (.cons h1 (.cons h2 (.cons ((impl_StructureOk_L1_ok v_s.fJoints (len_ eTJoint v_s.fJoints) v_s.fMembers 0 (.inl a5) h4).vex) (.cons (pure_es1 (eTStructure_pure v_s) : PureEs [[.isl 4 (v_s.fJoints.map eTJoint), .isl 3 (v_s.fMembers.map eTMember)]]) (.cons (s_ContainsFunc_impl_StructureOk_1_ok v_s.fMembers v_s r6 h7) (.cons (Sc.b _ : Sc (.b r6)) .nil))))))))))))
      | .inr a5, h4 => (.ret (runF_con0 hmix (tape := [.reg [nt, nt], .reg [nt, nt, nt, nt, nt, nt, nt, nt, nt, (.br false, true)], .br false, .reg [nt, nt, nt, nt], .rst [0] [.box [.id, .id]] [(1, ii), (16, ii), (17, ii), (18, ii)], .sub (.ret) [(2, .b false)] []]) (rr := ii) (by kernel_rfl) (.cons h1 (.cons h1 (.cons h1 (.cons h1 (.cons h1 (.cons h2 (.cons ((impl_StructureOk_L1_ok v_s.fJoints (len_ eTJoint v_s.fJoints) v_s.fMembers 0 (.inr a5) h4).vex) .nil)))))))))))

def impl_NatOk_1 (v_n : Int) : Option Bool :=
  if (decide (v_n < (0 : Int))) = true then
    some true
  else
    some (decide ((1000000000 : Int) ≤ v_n))

theorem impl_NatOk_1_ok (v_n : Int) : Wp (impl_NatOk_1 v_n) (fun r => Con PP 133 [.n .i64 v_n] [] (.b r) []) := by
  unfold impl_NatOk_1
  exact .ite (fun h1 =>
    .ret (runF_con0 hmix (tape := [.reg [nt], .reg [nt, nt, nt, nf, nf, (.br true, true), nt]]) (rr := ii) (by kernel_rfl) (.cons h1 (.cons h1 (.cons h1 .nil)))))
    (fun h1 =>
    .ret (runF_con0 hmix (tape := [.reg [nt], .reg [nt, nt, nt, nt, nt, (.br false, true), nt]]) (rr := ii) (by kernel_rfl) (.cons h1 (.cons h1 (.cons h1 .nil)))))

def s_IndexFunc_impl_NatOk_1_L1_head (v_s : (List Int)) (v_t7 : Int) (v_t8 : Int) : S := mkS [(0, .isl 1 (v_s.map eI)), (1, .fn 133 []), (7, .n .i64 v_t7), (8, .n .i64 v_t8)] []

def s_IndexFunc_impl_NatOk_1_L1_ex : ((Unit) ⊕ (Int)) → Exit
  | .inl _ => .exit 0
  | .inr _ => .ret

def s_IndexFunc_impl_NatOk_1_L1_out (v_s : (List Int)) (v_t7 : Int) : ((Unit) ⊕ (Int)) → S
  | .inl a => mkS [] []
  | .inr a => mkS [(4, .n .i64 a)] []

def s_IndexFunc_impl_NatOk_1_L1_body (v_s : (List Int)) (v_t7 : Int) (v_t8 : Int) : Option ((Int) ⊕ ((Unit) ⊕ (Int))) :=
  if (decide (v_t8 < v_t7)) = true then
    if 0 ≤ v_t8 ∧ v_t8 < v_s.length then
    v_s[v_t8.toNat]? >>= fun x3 =>
    impl_NatOk_1 x3 >>= fun r5 =>
    if r5 = true then
      some (.inr (.inr v_t8))
    else
      some (.inl (w64 (v_t8 + (1 : Int))))
    else none
  else
    some (.inr (.inl ()))

def s_IndexFunc_impl_NatOk_1_L1 (v_s : (List Int)) (v_t7 : Int) (v_t8 : Int) : Option ((Unit) ⊕ (Int)) := iter (fun w : Int => s_IndexFunc_impl_NatOk_1_L1_body v_s v_t7 w) v_t8

theorem s_IndexFunc_impl_NatOk_1_L1_body_ok (v_s : (List Int)) (v_t7 : Int) (v_t8 : Int) : Wp (s_IndexFunc_impl_NatOk_1_L1_body v_s v_t7 v_t8) (Sum.elim
    (fun w => VEx PP 19 0 (nodeAt (bodyOf PP 95) [1, 0, 1, 0, 0]) .normal (s_IndexFunc_impl_NatOk_1_L1_head v_s v_t7 v_t8) (s_IndexFunc_impl_NatOk_1_L1_head v_s v_t7 w))
    (fun r => VEx PP 19 0 (nodeAt (bodyOf PP 95) [1, 0, 1, 0, 0]) (s_IndexFunc_impl_NatOk_1_L1_ex r) (s_IndexFunc_impl_NatOk_1_L1_head v_s v_t7 v_t8) (s_IndexFunc_impl_NatOk_1_L1_out v_s v_t7 r))) := by
  unfold s_IndexFunc_impl_NatOk_1_L1_body
  exact .ite (fun h1 =>
      .grd fun h2 =>
       .bnd fun x3 h4 =>
       .bnd fun r5 h6 =>
       .ite (fun h7 =>
       .ret ((okC_sound hmix (tape := [.reg [nt], .br true, .reg [nt, nt], .reg [nt, nt, nt, nt, (.el (eI x3), true), (.call { ac := [ii], r := .b r5, sc := true }, true)], .br true, .reg [nt, nt], .rst [] [] [(4, ii)]]) (nr := 0) (by kernel_rfl) (.cons h1 (.cons ((h2).1) (.cons (lt_mapI (h2).2 : v_t8 < ((v_s.map eI).length : Nat)) (.cons (map_get h4 : (v_s.map eI)[v_t8.toNat]? = some (eI x3)) (.cons (impl_NatOk_1_ok x3 r5 h6) (.cons (Sc.b _ : Sc (.b r5)) (.cons h7 .nil))))))) (mkS_free _ _) : VEx PP 19 0 (nodeAt (bodyOf PP 95) [1, 0, 1, 0, 0]) (.ret) (s_IndexFunc_impl_NatOk_1_L1_head v_s v_t7 v_t8) (s_IndexFunc_impl_NatOk_1_L1_out v_s v_t7 (.inr v_t8)))))
       (fun h7 =>
       .ret ((okC_sound hmix (tape := [.reg [nt], .br true, .reg [nt, nt], .reg [nt, nt, nt, nt, (.el (eI x3), true), (.call { ac := [ii], r := .b r5, sc := true }, true)], .br false, .reg [nt, nt], .rst [] [] [(0, ii), (1, ii), (7, ii), (8, ii)]]) (nr := 0) (by kernel_rfl) (.cons h1 (.cons ((h2).1) (.cons (lt_mapI (h2).2 : v_t8 < ((v_s.map eI).length : Nat)) (.cons (map_get h4 : (v_s.map eI)[v_t8.toNat]? = some (eI x3)) (.cons (impl_NatOk_1_ok x3 r5 h6) (.cons (Sc.b _ : Sc (.b r5)) (.cons h7 .nil))))))) (mkS_free _ _) : VEx PP 19 0 (nodeAt (bodyOf PP 95) [1, 0, 1, 0, 0]) .normal (s_IndexFunc_impl_NatOk_1_L1_head v_s v_t7 v_t8) (s_IndexFunc_impl_NatOk_1_L1_head v_s v_t7 (w64 (v_t8 + (1 : Int))))))))
      (fun h1 =>
      .ret ((okC_sound hmix (tape := [.reg [nt], .br false, .rst [] [] []]) (nr := 0) (by kernel_rfl) (.cons h1 .nil) (mkS_free _ _) : VEx PP 19 0 (nodeAt (bodyOf PP 95) [1, 0, 1, 0, 0]) (.exit 0) (s_IndexFunc_impl_NatOk_1_L1_head v_s v_t7 v_t8) (s_IndexFunc_impl_NatOk_1_L1_out v_s v_t7 (.inl ())))))

theorem s_IndexFunc_impl_NatOk_1_L1_ok (v_s : (List Int)) (v_t7 : Int) (v_t8 : Int) : ∀ r, s_IndexFunc_impl_NatOk_1_L1 v_s v_t7 v_t8 = some r → VLoop PP 19 0 (nodeAt (bodyOf PP 95) [1, 0, 1, 0, 0]) (s_IndexFunc_impl_NatOk_1_L1_ex r) (s_IndexFunc_impl_NatOk_1_L1_head v_s v_t7 v_t8) (s_IndexFunc_impl_NatOk_1_L1_out v_s v_t7 r) := fun r h =>
  iter_ok (head := fun w : Int => s_IndexFunc_impl_NatOk_1_L1_head v_s v_t7 w) (ex := s_IndexFunc_impl_NatOk_1_L1_ex) (out := s_IndexFunc_impl_NatOk_1_L1_out v_s v_t7) (by intro r; unfold s_IndexFunc_impl_NatOk_1_L1_ex; split <;> simp) (fun w => s_IndexFunc_impl_NatOk_1_L1_body_ok v_s v_t7 w) v_t8 r h

def s_IndexFunc_impl_NatOk_1 (v_s : (List Int)) : Option Int :=
  s_IndexFunc_impl_NatOk_1_L1 v_s (len_ eI v_s) 0 >>= fun r1 =>
  match r1 with
  | .inl a3 => (some (-1))
  | .inr a3 => (some a3)

theorem s_IndexFunc_impl_NatOk_1_ok (v_s : (List Int)) : Wp (s_IndexFunc_impl_NatOk_1 v_s) (fun r => Con PP 95 [.isl 1 (v_s.map eI), .fn 133 []] [] (.n .i64 r) []) := by
  unfold s_IndexFunc_impl_NatOk_1
  exact .bnd fun r1 h2 =>
    match r1, h2 with
    | .inl a3, h2 => (.ret (runF_con0 hmix (tape := [.reg [nt], .reg [nt, nt, nt], .rst [] [] [(0, ii), (1, ii), (7, ii), (8, ii)], .sub (.exit 0) [] [], .reg [nt]]) (rr := ii) (by kernel_rfl) (.cons ((s_IndexFunc_impl_NatOk_1_L1_ok v_s (len_ eI v_s) 0 (.inl a3) h2).vex) .nil)))
    | .inr a3, h2 => (.ret (runF_con0 hmix (tape := [.reg [nt], .reg [nt, nt, nt], .rst [] [] [(0, ii), (1, ii), (7, ii), (8, ii)], .sub (.ret) [(4, .n .i64 a3)] []]) (rr := ii) (by kernel_rfl) (.cons ((s_IndexFunc_impl_NatOk_1_L1_ok v_s (len_ eI v_s) 0 (.inr a3) h2).vex) .nil)))

def s_ContainsFunc_impl_NatOk_1 (v_s : (List Int)) : Option Bool :=
  s_IndexFunc_impl_NatOk_1 v_s >>= fun r1 =>
  some (decide ((0 : Int) ≤ r1))

theorem s_ContainsFunc_impl_NatOk_1_ok (v_s : (List Int)) : Wp (s_ContainsFunc_impl_NatOk_1 v_s) (fun r => Con PP 65 [.isl 1 (v_s.map eI), .fn 133 []] [] (.b r) []) := by
  unfold s_ContainsFunc_impl_NatOk_1
  exact .bnd fun r1 h2 =>
    .ret (runF_con0 hmix (tape := [.reg [nt], .reg [nt, nt, (.call { ac := [ii, ii], r := .n .i64 r1, sc := true }, true), nt, nt]]) (rr := ii) (by kernel_rfl) (.cons (s_IndexFunc_impl_NatOk_1_ok v_s r1 h2) (.cons (Sc.n _ _ : Sc (.n .i64 r1)) .nil)))

def impl_NatOk (v_a : (List Int)) : Option Bool :=
  if (decide ((60 : Int) < (len_ eI v_a))) = true then
    some false
  else
    if (decide ((0 : Int) < (len_ eI v_a))) = true then
      if 0 ≤ (w64 ((len_ eI v_a) - (1 : Int))) ∧ (w64 ((len_ eI v_a) - (1 : Int))) < v_a.length then
      v_a[(w64 ((len_ eI v_a) - (1 : Int))).toNat]? >>= fun x4 =>
      if (x4 == (0 : Int)) = true then
        some false
      else
        s_ContainsFunc_impl_NatOk_1 v_a >>= fun r7 =>
        some (!r7)
      else none
    else
      s_ContainsFunc_impl_NatOk_1 v_a >>= fun r3 =>
      some (!r3)

theorem impl_NatOk_ok (v_a : (List Int)) : Wp (impl_NatOk v_a) (fun r => Con PP 128 [.isl 1 (v_a.map eI)] [] (.b r) []) := by
  unfold impl_NatOk
  exact .ite (fun h1 =>
    .ret (runF_con0 hmix (tape := [.reg [nt], .reg [nt, nt, nt, nt, nf, nf, nf, nf, nt, nt, nt, nt, nt, nt, nt, nf, (.br true, true)], .br true, .reg [nt]]) (rr := ii) (by kernel_rfl) (.cons h1 (.cons h1 (.cons h1 (.cons h1 (.cons h1 (.cons h1 (.cons (rfl : true = true) .nil)))))))))
    (fun h1 =>
    .ite (fun h2 =>
     .grd fun h3 =>
      .bnd fun x4 h5 =>
      .ite (fun h6 =>
      .ret (runF_con0 hmix (tape := [.reg [nt], .reg [nt, nt, nt, nt, nt, nt, nt, nt, nt, nt, nt, nt, nt, (.el (eI x4), true), nt, (.br true, true), (.br false, true)], .br true, .reg [nt]]) (rr := ii) (by kernel_rfl) (.cons h1 (.cons h1 (.cons h1 (.cons h1 (.cons h2 (.cons h2 (.cons h2 (.cons h2 (.cons h2 (.cons ((h3).1) (.cons (lt_mapI (h3).2 : (w64 ((len_ eI v_a) - (1 : Int))) < ((v_a.map eI).length : Nat)) (.cons h2 (.cons (map_get h5 : (v_a.map eI)[(w64 ((len_ eI v_a) - (1 : Int))).toNat]? = some (eI x4)) (.cons h2 (.cons h1 (.cons h2 (.cons h1 (.cons h6 .nil))))))))))))))))))))
      (fun h6 =>
      .bnd fun r7 h8 =>
       .ret (runF_con0 hmix (tape := [.reg [nt], .reg [nt, nt, nt, nt, nt, nt, nt, nt, nt, nt, nt, nt, nt, (.el (eI x4), true), nt, (.br true, true), (.br false, true)], .br false, .reg [nt, (.call { ac := [ii, ii], r := .b r7, sc := true }, true), nt, nt]]) (rr := ii) (by kernel_rfl) (.cons h1 (.cons h1 (.cons h1 (.cons h1 (.cons h2 (.cons h2 (.cons h2 (.cons h2 (.cons h2 (.cons ((h3).1) (.cons (lt_mapI (h3).2 : (w64 ((len_ eI v_a) - (1 : Int))) < ((v_a.map eI).length : Nat)) (.cons h2 (.cons (map_get h5 : (v_a.map eI)[(w64 ((len_ eI v_a) - (1 : Int))).toNat]? = some (eI x4)) (.cons h2 (.cons h1 (.cons h2 (.cons h1 (.cons h6 (.cons (s_ContainsFunc_impl_NatOk_1_ok v_a r7 h8) (.cons (Sc.b _ : Sc (.b r7)) .nil)))))))))))))))))))))))
     (fun h2 =>
     .bnd fun r3 h4 =>
      .ret (runF_con0 hmix (tape := [.reg [nt], .reg [nt, nt, nt, nt, nt, nt, nt, nt, nf, nf, nf, nf, nf, nf, nf, (.br false, true), (.br false, true)], .br false, .reg [nt, (.call { ac := [ii, ii], r := .b r3, sc := true }, true), nt, nt]]) (rr := ii) (by kernel_rfl) (.cons h1 (.cons h1 (.cons h1 (.cons h1 (.cons h2 (.cons h2 (.cons h2 (.cons h2 (.cons h2 (.cons h2 (.cons h2 (.cons h1 (.cons h2 (.cons h1 (.cons (rfl : false = false) (.cons (s_ContainsFunc_impl_NatOk_1_ok v_a r3 h4) (.cons (Sc.b _ : Sc (.b r3)) .nil))))))))))))))))))))

def impl_BigIntOk (v_x : TBigInt) : Option Bool :=
  impl_NatOk v_x.fMag >>= fun r1 =>
  if r1 = true then
    if v_x.fNeg = true then
      some (!((len_ eI v_x.fMag) == (0 : Int)))
    else
      some true
  else
    some false

theorem impl_BigIntOk_ok (v_x : TBigInt) : Wp (impl_BigIntOk v_x) (fun r => Con PP 127 [.agg [.b v_x.fNeg, .isl 1 (v_x.fMag.map eI)]] [] (.b r) []) := by
  unfold impl_BigIntOk
  exact .bnd fun r1 h2 =>
    .ite (fun h3 =>
    .ite (fun h4 =>
     .ret (runF_con0 hmix (tape := [.reg [nt, nt], .reg [nt, nt, (.call { ac := [ii], r := .b r1, sc := true }, true), nt, nt, nt, nt, nt, nt, nt, nt, (.br true, true), nt, (.br true, true), nt]]) (rr := ii) (by kernel_rfl) (.cons (impl_NatOk_ok v_x.fMag r1 h2) (.cons (Sc.b _ : Sc (.b r1)) (.cons h3 (.cons h3 (.cons h3 (.cons h4 (.cons h4 (.cons h4 (.cons h4 (.cons h3 (.cons h4 (.cons h3 (.cons h3 .nil)))))))))))))))
     (fun h4 =>
     .ret (runF_con0 hmix (tape := [.reg [nt, nt], .reg [nt, nt, (.call { ac := [ii], r := .b r1, sc := true }, true), nt, nt, nt, nt, nf, nf, nf, nf, (.br false, true), nt, (.br true, true), nt]]) (rr := ii) (by kernel_rfl) (.cons (impl_NatOk_ok v_x.fMag r1 h2) (.cons (Sc.b _ : Sc (.b r1)) (.cons h3 (.cons h3 (.cons h3 (.cons h4 (.cons h4 (.cons h4 (.cons h4 (.cons h3 (.cons h4 (.cons h3 (.cons h3 .nil))))))))))))))))
    (fun h3 =>
    .ret (runF_con0 hmix (tape := [.reg [nt, nt], .reg [nt, nt, (.call { ac := [ii], r := .b r1, sc := true }, true), nt, nf, nf, nf, nt, nt, nt, nt, nf, nf, (.br false, true), nt]]) (rr := ii) (by kernel_rfl) (.cons (impl_NatOk_ok v_x.fMag r1 h2) (.cons (Sc.b _ : Sc (.b r1)) (.cons h3 (.cons h3 (.cons h3 (.cons h3 (.cons h3 (.cons h3 .nil))))))))))

def impl_compare_L1_head (v_a : (List Int)) (v_b : (List Int)) (v_i : Int) : S := mkS [(0, .isl 1 (v_a.map eI)), (1, .isl 1 (v_b.map eI)), (5, .n .i64 v_i)] []

def impl_compare_L1_ex : ((Unit) ⊕ (Int)) → Exit
  | .inl _ => .exit 0
  | .inr _ => .ret

def impl_compare_L1_out (v_a : (List Int)) (v_b : (List Int)) : ((Unit) ⊕ (Int)) → S
  | .inl a => mkS [] []
  | .inr a => mkS [(4, .n .i64 a)] []

def impl_compare_L1_body (v_a : (List Int)) (v_b : (List Int)) (v_i : Int) : Option ((Int) ⊕ ((Unit) ⊕ (Int))) :=
  if (decide ((0 : Int) ≤ v_i)) = true then
    if 0 ≤ v_i ∧ v_i < v_a.length then
    v_a[v_i.toNat]? >>= fun x3 =>
    if 0 ≤ v_i ∧ v_i < v_b.length then
    v_b[v_i.toNat]? >>= fun x6 =>
    if (decide (x3 < x6)) = true then
      some (.inr (.inr (-1)))
    else
      if (decide (x6 < x3)) = true then
        some (.inr (.inr 1))
      else
        some (.inl (w64 (v_i - (1 : Int))))
    else none
    else none
  else
    some (.inr (.inl ()))

def impl_compare_L1 (v_a : (List Int)) (v_b : (List Int)) (v_i : Int) : Option ((Unit) ⊕ (Int)) := iter (fun w : Int => impl_compare_L1_body v_a v_b w) v_i

theorem impl_compare_L1_body_ok (v_a : (List Int)) (v_b : (List Int)) (v_i : Int) : Wp (impl_compare_L1_body v_a v_b v_i) (Sum.elim
    (fun w => VEx PP 43 0 (nodeAt (bodyOf PP 98) [1, 1, 0, 1, 0, 0]) .normal (impl_compare_L1_head v_a v_b v_i) (impl_compare_L1_head v_a v_b w))
    (fun r => VEx PP 43 0 (nodeAt (bodyOf PP 98) [1, 1, 0, 1, 0, 0]) (impl_compare_L1_ex r) (impl_compare_L1_head v_a v_b v_i) (impl_compare_L1_out v_a v_b r))) := by
  unfold impl_compare_L1_body
  exact .ite (fun h1 =>
      .grd fun h2 =>
       .bnd fun x3 h4 =>
       .grd fun h5 =>
       .bnd fun x6 h7 =>
       .ite (fun h8 =>
       .ret ((okC_sound hmix (tape := [.reg [nt, nt], .br true, .reg [nt, nt, nt, (.el (eI x3), true), nt, nt, nt, (.el (eI x6), true), nt, nt], .br true, .reg [nt], .rst [] [] [(4, ii)]]) (nr := 0) (by kernel_rfl) (.cons h1 (.cons ((h2).1) (.cons (lt_mapI (h2).2 : v_i < ((v_a.map eI).length : Nat)) (.cons (map_get h4 : (v_a.map eI)[v_i.toNat]? = some (eI x3)) (.cons ((h5).1) (.cons (lt_mapI (h5).2 : v_i < ((v_b.map eI).length : Nat)) (.cons (map_get h7 : (v_b.map eI)[v_i.toNat]? = some (eI x6)) (.cons h8 .nil)))))))) (mkS_free _ _) : VEx PP 43 0 (nodeAt (bodyOf PP 98) [1, 1, 0, 1, 0, 0]) (.ret) (impl_compare_L1_head v_a v_b v_i) (impl_compare_L1_out v_a v_b (.inr (-1))))))
       (fun h8 =>
       .ite (fun h9 =>
        .ret ((okC_sound hmix (tape := [.reg [nt, nt], .br true, .reg [nt, nt, nt, (.el (eI x3), true), nt, nt, nt, (.el (eI x6), true), nt, nt], .br false, .reg [nt, nt, nt, (.el (eI x3), true), nt, nt, nt, (.el (eI x6), true), nt, nt], .br true, .reg [nt], .rst [] [] [(4, ii)]]) (nr := 0) (by kernel_rfl) (.cons h1 (.cons ((h2).1) (.cons (lt_mapI (h2).2 : v_i < ((v_a.map eI).length : Nat)) (.cons (map_get h4 : (v_a.map eI)[v_i.toNat]? = some (eI x3)) (.cons ((h5).1) (.cons (lt_mapI (h5).2 : v_i < ((v_b.map eI).length : Nat)) (.cons (map_get h7 : (v_b.map eI)[v_i.toNat]? = some (eI x6)) (.cons h8 (.cons ((h2).1) (.cons (lt_mapI (h2).2 : v_i < ((v_a.map eI).length : Nat)) (.cons (map_get h4 : (v_a.map eI)[v_i.toNat]? = some (eI x3)) (.cons ((h5).1) (.cons (lt_mapI (h5).2 : v_i < ((v_b.map eI).length : Nat)) (.cons (map_get h7 : (v_b.map eI)[v_i.toNat]? = some (eI x6)) (.cons h9 .nil))))))))))))))) (mkS_free _ _) : VEx PP 43 0 (nodeAt (bodyOf PP 98) [1, 1, 0, 1, 0, 0]) (.ret) (impl_compare_L1_head v_a v_b v_i) (impl_compare_L1_out v_a v_b (.inr 1)))))
        (fun h9 =>
        .ret ((okC_sound hmix (tape := [.reg [nt, nt], .br true, .reg [nt, nt, nt, (.el (eI x3), true), nt, nt, nt, (.el (eI x6), true), nt, nt], .br false, .reg [nt, nt, nt, (.el (eI x3), true), nt, nt, nt, (.el (eI x6), true), nt, nt], .br false, .reg [nt, nt, nt], .rst [] [] [(0, ii), (1, ii), (5, ii)]]) (nr := 0) (by kernel_rfl) (.cons h1 (.cons ((h2).1) (.cons (lt_mapI (h2).2 : v_i < ((v_a.map eI).length : Nat)) (.cons (map_get h4 : (v_a.map eI)[v_i.toNat]? = some (eI x3)) (.cons ((h5).1) (.cons (lt_mapI (h5).2 : v_i < ((v_b.map eI).length : Nat)) (.cons (map_get h7 : (v_b.map eI)[v_i.toNat]? = some (eI x6)) (.cons h8 (.cons ((h2).1) (.cons (lt_mapI (h2).2 : v_i < ((v_a.map eI).length : Nat)) (.cons (map_get h4 : (v_a.map eI)[v_i.toNat]? = some (eI x3)) (.cons ((h5).1) (.cons (lt_mapI (h5).2 : v_i < ((v_b.map eI).length : Nat)) (.cons (map_get h7 : (v_b.map eI)[v_i.toNat]? = some (eI x6)) (.cons h9 .nil))))))))))))))) (mkS_free _ _) : VEx PP 43 0 (nodeAt (bodyOf PP 98) [1, 1, 0, 1, 0, 0]) .normal (impl_compare_L1_head v_a v_b v_i) (impl_compare_L1_head v_a v_b (w64 (v_i - (1 : Int)))))))))
      (fun h1 =>
      .ret ((okC_sound hmix (tape := [.reg [nt, nt], .br false, .rst [] [] []]) (nr := 0) (by kernel_rfl) (.cons h1 .nil) (mkS_free _ _) : VEx PP 43 0 (nodeAt (bodyOf PP 98) [1, 1, 0, 1, 0, 0]) (.exit 0) (impl_compare_L1_head v_a v_b v_i) (impl_compare_L1_out v_a v_b (.inl ())))))

theorem impl_compare_L1_ok (v_a : (List Int)) (v_b : (List Int)) (v_i : Int) : ∀ r, impl_compare_L1 v_a v_b v_i = some r → VLoop PP 43 0 (nodeAt (bodyOf PP 98) [1, 1, 0, 1, 0, 0]) (impl_compare_L1_ex r) (impl_compare_L1_head v_a v_b v_i) (impl_compare_L1_out v_a v_b r) := fun r h =>
  iter_ok (head := fun w : Int => impl_compare_L1_head v_a v_b w) (ex := impl_compare_L1_ex) (out := impl_compare_L1_out v_a v_b) (by intro r; unfold impl_compare_L1_ex; split <;> simp) (fun w => impl_compare_L1_body_ok v_a v_b w) v_i r h

def impl_compare (v_a : (List Int)) (v_b : (List Int)) : Option Int :=
  if ((len_ eI v_a) != (len_ eI v_b)) = true then
    if (decide ((len_ eI v_a) < (len_ eI v_b))) = true then
      some (-1)
    else
      some 1
  else
    impl_compare_L1 v_a v_b (w64 ((len_ eI v_a) - (1 : Int))) >>= fun r2 =>
    match r2 with
    | .inl a4 => (some 0)
    | .inr a4 => (some a4)

theorem impl_compare_ok (v_a : (List Int)) (v_b : (List Int)) : Wp (impl_compare v_a v_b) (fun r => Con PP 98 [.isl 1 (v_a.map eI), .isl 1 (v_b.map eI)] [] (.n .i64 r) []) := by
  unfold impl_compare
  exact .ite (fun h1 =>
    .ite (fun h2 =>
     .ret (runF_con0 hmix (tape := [.reg [nt], .reg [nt, nt, nt, nt, nt], .br true, .reg [nt, nt, nt, nt, nt], .br true, .reg [nt]]) (rr := ii) (by kernel_rfl) (.cons h1 (.cons h2 .nil))))
     (fun h2 =>
     .ret (runF_con0 hmix (tape := [.reg [nt], .reg [nt, nt, nt, nt, nt], .br true, .reg [nt, nt, nt, nt, nt], .br false, .reg [nt]]) (rr := ii) (by kernel_rfl) (.cons h1 (.cons h2 .nil)))))
    (fun h1 =>
    .bnd fun r2 h3 =>
     match r2, h3 with
     | .inl a4, h3 => (.ret (runF_con0 hmix (tape := [.reg [nt], .reg [nt, nt, nt, nt, nt], .br false, .reg [nt, nt, nt, nt], .rst [] [] [(0, ii), (1, ii), (5, ii)], .sub (.exit 0) [] [], .reg [nt]]) (rr := ii) (by kernel_rfl) (.cons h1 (.cons ((impl_compare_L1_ok v_a v_b (w64 ((len_ eI v_a) - (1 : Int))) (.inl a4) h3).vex) .nil))))
     | .inr a4, h3 => (.ret (runF_con0 hmix (tape := [.reg [nt], .reg [nt, nt, nt, nt, nt], .br false, .reg [nt, nt, nt, nt], .rst [] [] [(0, ii), (1, ii), (5, ii)], .sub (.ret) [(4, .n .i64 a4)] []]) (rr := ii) (by kernel_rfl) (.cons h1 (.cons ((impl_compare_L1_ok v_a v_b (w64 ((len_ eI v_a) - (1 : Int))) (.inr a4) h3).vex) .nil)))))

def s_Clone (v_s : (List Int)) : Option (List Int) :=
  if v_s.length * 8 ≤ 140737488355328 then some v_s else none

theorem s_Clone_a   : Con PP 129 [.nils] [] (.isl 1 (([] : List Int).map eI)) [] := runF_con0 hmix (tape := [.reg [nt], .reg [nt, nt], .br true, .reg [nt]]) (rr := .c1 (.c0 (.nl 1))) (by kernel_rfl) (.cons (rfl : true = true) .nil)

theorem s_Clone_b   : Con PP 129 [.esl] [] (.isl 1 (([] : List Int).map eI)) [] := (by
  have h := fun (h1 : (([] : List Int) ++ ([] : List Int)).length * 8 ≤ 140737488355328) => (runF_con0 hmix (tape := [.reg [nt], .reg [nt, nt], .br false, .reg [nt, nt, (.app ((([] : List Int) ++ ([] : List Int)).length), true), nt]]) (rr := .c1 (.c0 (.sl ((([] : List Int) ++ ([] : List Int)).map eI)))) (by kernel_rfl) (.cons (rfl : false = false) (.cons (le_full (show [] = (([] : List Int)).map eI from rfl) (show 0 = ([] : List Int).length from rfl)) (.cons (len_app (show 0 = ([] : List Int).length from rfl) (show ([] : List (List AV)) = ([] : List Int).map eI from rfl) : (([] : List Int) ++ ([] : List Int)).length = 0 + ([] : List (List AV)).length) (.cons h1 (.cons (snap_full (app_full (show [] = (([] : List Int)).map eI from rfl) (show 0 = ([] : List Int).length from rfl) (show ([] : List (List AV)) = ([] : List Int).map eI from rfl)) (show (([] : List Int) ++ ([] : List Int)).length = (([] : List Int) ++ ([] : List Int)).length from rfl)) (.cons (fit_full (app_full (show [] = (([] : List Int)).map eI from rfl) (show 0 = ([] : List Int).length from rfl) (show ([] : List (List AV)) = ([] : List Int).map eI from rfl)) (show (([] : List Int) ++ ([] : List Int)).length = (([] : List Int) ++ ([] : List Int)).length from rfl)) (.cons (pure_map eI_pure (([] : List Int) ++ ([] : List Int))) .nil))))))) : Con PP 129 [.esl] [] (.isl 1 ((([] : List Int) ++ ([] : List Int)).map eI)) [])
  exact h (by decide))

theorem s_Clone_c (x : Int) (l : List Int) (h1 : (([] : List Int) ++ (x :: l)).length * 8 ≤ 140737488355328) : Con PP 129 [.isl 1 ((x :: l).map eI)] [] (.isl 1 ((([] : List Int) ++ (x :: l)).map eI)) [] := runF_con0 hmix (tape := [.reg [nt], .reg [nt, (.bd, true)], .br false, .reg [nt, nt, (.app ((([] : List Int) ++ (x :: l)).length), true), nt]]) (rr := .c1 (.c0 (.sl ((([] : List Int) ++ (x :: l)).map eI)))) (by kernel_rfl) (.cons (by simp : (x :: l).map eI ≠ []) (.cons (rfl : false = false) (.cons (le_full (show [] = (([] : List Int)).map eI from rfl) (show 0 = ([] : List Int).length from rfl)) (.cons (len_app (show 0 = ([] : List Int).length from rfl) (show ((x :: l).map eI) = ((x :: l).map eI) from rfl) : (([] : List Int) ++ (x :: l)).length = 0 + ((x :: l).map eI).length) (.cons h1 (.cons (snap_full (app_full (show [] = (([] : List Int)).map eI from rfl) (show 0 = ([] : List Int).length from rfl) (show ((x :: l).map eI) = ((x :: l).map eI) from rfl)) (show (([] : List Int) ++ (x :: l)).length = (([] : List Int) ++ (x :: l)).length from rfl)) (.cons (fit_full (app_full (show [] = (([] : List Int)).map eI from rfl) (show 0 = ([] : List Int).length from rfl) (show ((x :: l).map eI) = ((x :: l).map eI) from rfl)) (show (([] : List Int) ++ (x :: l)).length = (([] : List Int) ++ (x :: l)).length from rfl)) (.cons (pure_map eI_pure (([] : List Int) ++ (x :: l))) .nil))))))))

theorem s_Clone_ok (v_s : (List Int)) : Wp (s_Clone v_s) (fun r => Con PP 129 [.isl 1 (v_s.map eI)] [] (.isl 1 (r.map eI)) []) := by
  unfold s_Clone
  refine .grd fun h => .ret ?_
  cases v_s with
  | nil => exact .isl0 s_Clone_a s_Clone_b
  | cons x l =>
    have h2 := s_Clone_c x l (by simpa using h)
    simpa using h2

def impl_trim_L1_head  (v_a : (List Int)) : S := mkS [(0, .isl 1 (v_a.map eI))] []

def impl_trim_L1_ex : (List Int) → Exit
  | _ => .exit 0

def impl_trim_L1_out  : (List Int) → S
  | a => mkS [(0, .isl 1 (a.map eI))] []

def impl_trim_L1_body  (v_a : (List Int)) : Option (((List Int)) ⊕ ((List Int))) :=
  if (decide ((0 : Int) < (len_ eI v_a))) = true then
    if 0 ≤ (w64 ((len_ eI v_a) - (1 : Int))) ∧ (w64 ((len_ eI v_a) - (1 : Int))) < v_a.length then
    v_a[(w64 ((len_ eI v_a) - (1 : Int))).toNat]? >>= fun x3 =>
    if (x3 == (0 : Int)) = true then
      if 0 ≤ (w64 ((len_ eI v_a) - (1 : Int))) then
      if 0 ≤ (w64 ((len_ eI v_a) - (1 : Int))).toNat ∧ (w64 ((len_ eI v_a) - (1 : Int))).toNat ≤ v_a.length then
      some (.inl ((v_a.drop 0).take ((w64 ((len_ eI v_a) - (1 : Int))).toNat - 0)))
      else none
      else none
    else
      some (.inr v_a)
    else none
  else
    some (.inr v_a)

def impl_trim_L1  (v_a : (List Int)) : Option ((List Int)) := iter (fun w : (List Int) => impl_trim_L1_body  w) v_a

theorem impl_trim_L1_body_ok  (v_a : (List Int)) : Wp (impl_trim_L1_body  v_a) (Sum.elim
    (fun w => VEx PP 21 0 (nodeAt (bodyOf PP 119) [1, 0, 0, 0]) .normal (impl_trim_L1_head  v_a) (impl_trim_L1_head  w))
    (fun r => VEx PP 21 0 (nodeAt (bodyOf PP 119) [1, 0, 0, 0]) (impl_trim_L1_ex r) (impl_trim_L1_head  v_a) (impl_trim_L1_out  r))) := by
  unfold impl_trim_L1_body
  exact .ite (fun h1 =>
      .grd fun h2 =>
       .bnd fun x3 h4 =>
       .ite (fun h5 =>
       .grd fun h6 =>
        .grd fun h7 =>
        .ret ((okC_sound hmix (tape := [.reg [nt, nt, nt, nt, nt, nt, nt, nt, nt, (.el (eI x3), true), nt, (.br true, true)], .br true, .reg [nt, nt, nt, nt, nt, nt], .rst [] [] [(0, .c1 (.c0 (.as (.isl 1 (((v_a.drop 0).take ((w64 ((len_ eI v_a) - (1 : Int))).toNat - 0)).map eI)))))]]) (nr := 0) (by kernel_rfl) (.cons h1 (.cons h1 (.cons h1 (.cons h1 (.cons h1 (.cons ((h2).1) (.cons (lt_mapI (h2).2 : (w64 ((len_ eI v_a) - (1 : Int))) < ((v_a.map eI).length : Nat)) (.cons h1 (.cons (map_get h4 : (v_a.map eI)[(w64 ((len_ eI v_a) - (1 : Int))).toNat]? = some (eI x3)) (.cons h1 (.cons h1 (.cons h5 (.cons h6 (.cons ((h7).1) (.cons (fit_prf (show (v_a.map eI) = (v_a.map eI) from rfl) (h7).2) (.cons (congrArg (AV.isl 1) (sub_prf (show (v_a.map eI) = (v_a.map eI) from rfl) 0 ((w64 ((len_ eI v_a) - (1 : Int))).toNat - 0)) : (.isl 1 (((v_a.map eI).drop 0).take ((w64 ((len_ eI v_a) - (1 : Int))).toNat - 0)) : AV) = .isl 1 (((v_a.drop 0).take ((w64 ((len_ eI v_a) - (1 : Int))).toNat - 0)).map eI)) .nil)))))))))))))))) (mkS_free _ _) : VEx PP 21 0 (nodeAt (bodyOf PP 119) [1, 0, 0, 0]) .normal (impl_trim_L1_head  v_a) (impl_trim_L1_head  ((v_a.drop 0).take ((w64 ((len_ eI v_a) - (1 : Int))).toNat - 0))))))
       (fun h5 =>
       .ret ((okC_sound hmix (tape := [.reg [nt, nt, nt, nt, nt, nt, nt, nt, nt, (.el (eI x3), true), nt, (.br true, true)], .br false, .rst [] [] [(0, ii)]]) (nr := 0) (by kernel_rfl) (.cons h1 (.cons h1 (.cons h1 (.cons h1 (.cons h1 (.cons ((h2).1) (.cons (lt_mapI (h2).2 : (w64 ((len_ eI v_a) - (1 : Int))) < ((v_a.map eI).length : Nat)) (.cons h1 (.cons (map_get h4 : (v_a.map eI)[(w64 ((len_ eI v_a) - (1 : Int))).toNat]? = some (eI x3)) (.cons h1 (.cons h1 (.cons h5 .nil)))))))))))) (mkS_free _ _) : VEx PP 21 0 (nodeAt (bodyOf PP 119) [1, 0, 0, 0]) (.exit 0) (impl_trim_L1_head  v_a) (impl_trim_L1_out  v_a)))))
      (fun h1 =>
      .ret ((okC_sound hmix (tape := [.reg [nt, nt, nt, nt, nf, nf, nf, nf, nf, nf, nf, (.br false, true)], .br false, .rst [] [] [(0, ii)]]) (nr := 0) (by kernel_rfl) (.cons h1 (.cons h1 (.cons h1 (.cons h1 (.cons h1 (.cons h1 (.cons h1 (.cons h1 (.cons (rfl : false = false) .nil))))))))) (mkS_free _ _) : VEx PP 21 0 (nodeAt (bodyOf PP 119) [1, 0, 0, 0]) (.exit 0) (impl_trim_L1_head  v_a) (impl_trim_L1_out  v_a))))

theorem impl_trim_L1_ok  (v_a : (List Int)) : ∀ r, impl_trim_L1  v_a = some r → VLoop PP 21 0 (nodeAt (bodyOf PP 119) [1, 0, 0, 0]) (impl_trim_L1_ex r) (impl_trim_L1_head  v_a) (impl_trim_L1_out  r) := fun r h =>
  iter_ok (head := fun w : (List Int) => impl_trim_L1_head  w) (ex := impl_trim_L1_ex) (out := impl_trim_L1_out ) (by intro r; unfold impl_trim_L1_ex; split <;> simp) (fun w => impl_trim_L1_body_ok  w) v_a r h

def impl_trim (v_a : (List Int)) : Option (List Int) :=
  impl_trim_L1 v_a >>= fun r1 =>
  some r1

theorem impl_trim_ok (v_a : (List Int)) : Wp (impl_trim v_a) (fun r => Con PP 119 [.isl 1 (v_a.map eI)] [] (.isl 1 (r.map eI)) []) := by
  unfold impl_trim
  exact .bnd fun r1 h2 =>
    .ret (runF_con0 hmix (tape := [.reg [nt], .rst [] [] [(0, ii)], .sub (.exit 0) [(0, .isl 1 (r1.map eI))] [], .reg [nt, nt]]) (rr := ii) (by kernel_rfl) (.cons ((impl_trim_L1_ok v_a r1 h2).vex) .nil))

def impl_overSmall_L1_head (v_a : (List Int)) (v_b : Int) (v_rest : Int) (v_i : Int) (row0 : (List Int)) : S := mkS [(0, .isl 1 (v_a.map eI)), (1, .n .i64 v_b), (6, .osl 0 0 0 row0.length), (7, .n .i64 v_rest), (8, .n .i64 v_i)] [[Ob.mk 1 (row0.map eI) .live]]

def impl_overSmall_L1_ex : (Int × (List Int)) → Exit
  | _ => .exit 0

def impl_overSmall_L1_out (v_a : (List Int)) (v_b : Int) : (Int × (List Int)) → S
  | a => mkS [(6, .osl 0 0 0 a.2.length), (7, .n .i64 a.1)] [[Ob.mk 1 (a.2.map eI) .live]]

def impl_overSmall_L1_body (v_a : (List Int)) (v_b : Int) (v_rest : Int) (v_i : Int) (row0 : (List Int)) : Option ((Int × Int × (List Int)) ⊕ (Int × (List Int))) :=
  if (decide ((0 : Int) ≤ v_i)) = true then
    if 0 ≤ v_i ∧ v_i < v_a.length then
    v_a[v_i.toNat]? >>= fun x3 =>
    if v_b ≠ 0 then
    if 0 ≤ v_i ∧ v_i < (row0.length : Nat) then
    if (0 + v_i.toNat) < row0.length then
    some (.inl ((w64 ((w64 (v_rest * (1000000000 : Int))) + x3)).tmod v_b, w64 (v_i - (1 : Int)), row0.set (0 + v_i.toNat) (w64 ((w64 ((w64 (v_rest * (1000000000 : Int))) + x3)).tdiv v_b))))
    else none
    else none
    else none
    else none
  else
    some (.inr (v_rest, row0))

def impl_overSmall_L1 (v_a : (List Int)) (v_b : Int) (v_rest : Int) (v_i : Int) (row0 : (List Int)) : Option (Int × (List Int)) := iter (fun w : Int × Int × (List Int) => impl_overSmall_L1_body v_a v_b w.1 w.2.1 w.2.2) (v_rest, v_i, row0)

theorem impl_overSmall_L1_body_ok (v_a : (List Int)) (v_b : Int) (v_rest : Int) (v_i : Int) (row0 : (List Int)) : Wp (impl_overSmall_L1_body v_a v_b v_rest v_i row0) (Sum.elim
    (fun w => VEx PP 39 0 (nodeAt (bodyOf PP 130) [1, 1, 1, 0, 1, 0, 0]) .normal (impl_overSmall_L1_head v_a v_b v_rest v_i row0) (impl_overSmall_L1_head v_a v_b w.1 w.2.1 w.2.2))
    (fun r => VEx PP 39 0 (nodeAt (bodyOf PP 130) [1, 1, 1, 0, 1, 0, 0]) (impl_overSmall_L1_ex r) (impl_overSmall_L1_head v_a v_b v_rest v_i row0) (impl_overSmall_L1_out v_a v_b r))) := by
  unfold impl_overSmall_L1_body
  exact .ite (fun h1 =>
      .grd fun h2 =>
       .bnd fun x3 h4 =>
       .grd fun h5 =>
       .grd fun h6 =>
       .grd fun h7 =>
       .ret ((okC_sound hmix (tape := [.reg [nt, nt], .br true, .reg [nt, nt, nt, nt, nt, (.el (eI x3), true), nt, nt], .reg [nt, nt, nt, nt, nt, nt, nt, nt, nt, (.bd, true), nt], .reg [nt, nt, nt], .rst [0] [.as [Ob.mk 1 ((row0.set (0 + v_i.toNat) (w64 ((w64 ((w64 (v_rest * (1000000000 : Int))) + x3)).tdiv v_b))).map eI) .live]] [(0, ii), (1, ii), (6, .c1 (.c0 (.len ((row0.set (0 + v_i.toNat) (w64 ((w64 ((w64 (v_rest * (1000000000 : Int))) + x3)).tdiv v_b))).length)))), (7, ii), (8, ii)]]) (nr := 1) (by kernel_rfl) (.cons h1 (.cons ((h2).1) (.cons (lt_mapI (h2).2 : v_i < ((v_a.map eI).length : Nat)) (.cons (map_get h4 : (v_a.map eI)[v_i.toNat]? = some (eI x3)) (.cons h5 (.cons h5 (.cons ((h6).1) (.cons ((h6).2) (.cons (lt_map h7 : (0 + v_i.toNat) < (row0.map eI).length) (.cons (rfl : 1 = 1) (.cons (row_prf (set_prf (show (row0.map eI) = (row0.map eI) from rfl) (0 + v_i.toNat) (w64 ((w64 ((w64 (v_rest * (1000000000 : Int))) + x3)).tdiv v_b))) : [Ob.mk 1 ((row0.map eI).set (0 + v_i.toNat) [.n .i64 (w64 ((w64 ((w64 (v_rest * (1000000000 : Int))) + x3)).tdiv v_b))]) .live] = [Ob.mk 1 ((row0.set (0 + v_i.toNat) (w64 ((w64 ((w64 (v_rest * (1000000000 : Int))) + x3)).tdiv v_b))).map eI) .live]) (.cons (pure_row eI_pure (row0.set (0 + v_i.toNat) (w64 ((w64 ((w64 (v_rest * (1000000000 : Int))) + x3)).tdiv v_b))) : PureRow [Ob.mk 1 ((row0.set (0 + v_i.toNat) (w64 ((w64 ((w64 (v_rest * (1000000000 : Int))) + x3)).tdiv v_b))).map eI) .live]) (.cons (len_set (show row0.length = row0.length from rfl) (0 + v_i.toNat) (w64 ((w64 ((w64 (v_rest * (1000000000 : Int))) + x3)).tdiv v_b))) .nil))))))))))))) (mkS_free _ _) : VEx PP 39 0 (nodeAt (bodyOf PP 130) [1, 1, 1, 0, 1, 0, 0]) .normal (impl_overSmall_L1_head v_a v_b v_rest v_i row0) (impl_overSmall_L1_head v_a v_b ((w64 ((w64 (v_rest * (1000000000 : Int))) + x3)).tmod v_b) (w64 (v_i - (1 : Int))) (row0.set (0 + v_i.toNat) (w64 ((w64 ((w64 (v_rest * (1000000000 : Int))) + x3)).tdiv v_b)))))))
      (fun h1 =>
      .ret ((okC_sound hmix (tape := [.reg [nt, nt], .br false, .rst [0] [.pure] [(6, ii), (7, ii)]]) (nr := 1) (by kernel_rfl) (.cons h1 (.cons (pure_row eI_pure row0 : PureRow [Ob.mk 1 (row0.map eI) .live]) .nil)) (mkS_free _ _) : VEx PP 39 0 (nodeAt (bodyOf PP 130) [1, 1, 1, 0, 1, 0, 0]) (.exit 0) (impl_overSmall_L1_head v_a v_b v_rest v_i row0) (impl_overSmall_L1_out v_a v_b (v_rest, row0)))))

theorem impl_overSmall_L1_ok (v_a : (List Int)) (v_b : Int) (v_rest : Int) (v_i : Int) (row0 : (List Int)) : ∀ r, impl_overSmall_L1 v_a v_b v_rest v_i row0 = some r → VLoop PP 39 0 (nodeAt (bodyOf PP 130) [1, 1, 1, 0, 1, 0, 0]) (impl_overSmall_L1_ex r) (impl_overSmall_L1_head v_a v_b v_rest v_i row0) (impl_overSmall_L1_out v_a v_b r) := fun r h =>
  iter_ok (head := fun w : Int × Int × (List Int) => impl_overSmall_L1_head v_a v_b w.1 w.2.1 w.2.2) (ex := impl_overSmall_L1_ex) (out := impl_overSmall_L1_out v_a v_b) (by intro r; unfold impl_overSmall_L1_ex; split <;> simp) (fun w => impl_overSmall_L1_body_ok v_a v_b w.1 w.2.1 w.2.2) (v_rest, v_i, row0) r h

def impl_overSmall (v_a : (List Int)) (v_b : Int) : Option ((List Int) × Int) :=
  if 0 ≤ (len_ eI v_a) ∧ (8 : Int) * (len_ eI v_a) ≤ 281474976710656 ∧ (len_ eI v_a) < 9223372036854775808 then
  impl_overSmall_L1 v_a v_b 0 (w64 ((len_ eI v_a) - (1 : Int))) (List.replicate (len_ eI v_a).toNat 0 : List Int) >>= fun r2 =>
  impl_trim r2.2 >>= fun r4 =>
  some (r4, r2.1)
  else none

theorem impl_overSmall_ok (v_a : (List Int)) (v_b : Int) : Wp (impl_overSmall v_a v_b) (fun r => Con PP 130 [.isl 1 (v_a.map eI), .n .i64 v_b] [] (.tup [.isl 1 (r.1.map eI), .n .i64 r.2]) []) := by
  unfold impl_overSmall
  exact .grd fun h1 =>
    .bnd fun r2 h3 =>
    .bnd fun r4 h5 =>
    .ret (runF_con0 hmix (tape := [.reg [nt, nt], .reg [nt, nt, nt, nt], .reg [nt], .reg [nt, nt, nt, nt], .rst [4] [.as [Ob.mk 1 ((List.replicate (len_ eI v_a).toNat 0 : List Int).map eI) .live]] [(0, ii), (1, ii), (6, .c1 (.c0 (.len ((List.replicate (len_ eI v_a).toNat 0 : List Int).length)))), (7, ii), (8, ii)], .sub (.exit 0) [(6, .osl 0 0 0 r2.2.length), (7, .n .i64 r2.1)] [[Ob.mk 1 (r2.2.map eI) .live]], .frz 0, .reg [nt, (.call { ac := [.c1 (.c0 (.sl (r2.2.map eI)))], rds := [0], r := .isl 1 (r4.map eI), sc := false }, true), nt, nt, nt]]) (rr := ii) (by kernel_rfl) (.cons ((h1).1) (.cons (Int.le_refl (len_ eI v_a)) (.cons ((h1).2.1) (.cons ((h1).2.2) (.cons (row_prf (rep_prf eI (len_ eI v_a).toNat 0) : [Ob.mk 1 (List.replicate (len_ eI v_a).toNat [.n .i64 (0 : Int)]) .live] = [Ob.mk 1 ((List.replicate (len_ eI v_a).toNat 0 : List Int).map eI) .live]) (.cons (pure_row eI_pure (List.replicate (len_ eI v_a).toNat 0 : List Int) : PureRow [Ob.mk 1 ((List.replicate (len_ eI v_a).toNat 0 : List Int).map eI) .live]) (.cons (len_rep (len_ eI v_a).toNat (0 : Int)) (.cons ((impl_overSmall_L1_ok v_a v_b 0 (w64 ((len_ eI v_a) - (1 : Int))) (List.replicate (len_ eI v_a).toNat 0 : List Int) r2 h3).vex) (.cons (snap_full (show (r2.2.map eI) = (r2.2.map eI) from rfl) (show r2.2.length = r2.2.length from rfl)) (.cons (fit_full (show (r2.2.map eI) = (r2.2.map eI) from rfl) (show r2.2.length = r2.2.length from rfl)) (.cons (pure_map eI_pure r2.2) (.cons (impl_trim_ok r2.2 r4 h5) .nil)))))))))))))

def impl_limbsOf_L1_head  (v_n : Int) (row0 : (List Int)) : S := mkS [(0, .n .u64 v_n), (3, .osl 0 0 0 row0.length)] [[Ob.mk 1 (row0.map eI) .live]]

def impl_limbsOf_L1_ex : (List Int) → Exit
  | _ => .exit 0

def impl_limbsOf_L1_out  : (List Int) → S
  | a => mkS [(3, .osl 0 0 0 a.length)] [[Ob.mk 1 (a.map eI) .live]]

def impl_limbsOf_L1_body  (v_n : Int) (row0 : (List Int)) : Option ((Int × (List Int)) ⊕ ((List Int))) :=
  if (decide ((0 : Int) < v_n)) = true then
    if (row0 ++ ([IntKind.wrap .i64 (v_n.tmod (1000000000 : Int))] : List Int)).length * 8 ≤ 140737488355328 then
    some (.inl (IntKind.wrap .u64 (v_n.tdiv (1000000000 : Int)), row0 ++ ([IntKind.wrap .i64 (v_n.tmod (1000000000 : Int))] : List Int)))
    else none
  else
    some (.inr row0)

def impl_limbsOf_L1  (v_n : Int) (row0 : (List Int)) : Option ((List Int)) := iter (fun w : Int × (List Int) => impl_limbsOf_L1_body  w.1 w.2) (v_n, row0)

theorem impl_limbsOf_L1_body_ok  (v_n : Int) (row0 : (List Int)) : Wp (impl_limbsOf_L1_body  v_n row0) (Sum.elim
    (fun w => VEx PP 15 0 (nodeAt (bodyOf PP 99) [1, 1, 0, 0, 0]) .normal (impl_limbsOf_L1_head  v_n row0) (impl_limbsOf_L1_head  w.1 w.2))
    (fun r => VEx PP 15 0 (nodeAt (bodyOf PP 99) [1, 1, 0, 0, 0]) (impl_limbsOf_L1_ex r) (impl_limbsOf_L1_head  v_n row0) (impl_limbsOf_L1_out  r))) := by
  unfold impl_limbsOf_L1_body
  exact .ite (fun h1 =>
      .grd fun h2 =>
       .ret ((okC_sound hmix (tape := [.reg [nt, nt], .br true, .reg [nt, nt, nt, nt, nt, (.app ((row0 ++ ([IntKind.wrap .i64 (v_n.tmod (1000000000 : Int))] : List Int)).length), true), nt], .reg [nt, nt, nt], .rst [8] [.as [Ob.mk 1 ((row0 ++ ([IntKind.wrap .i64 (v_n.tmod (1000000000 : Int))] : List Int)).map eI) .live]] [(0, ii), (3, ii)]]) (nr := 1) (by kernel_rfl) (.cons h1 (.cons (by decide : (1000000000 : Int) ≠ 0) (.cons (fit_full (show [[.n .i64 (IntKind.wrap .i64 (v_n.tmod (1000000000 : Int)))]] = (([IntKind.wrap .i64 (v_n.tmod (1000000000 : Int))] : List Int)).map eI from rfl) (show 1 = ([IntKind.wrap .i64 (v_n.tmod (1000000000 : Int))] : List Int).length from rfl)) (.cons (le_full (show (row0.map eI) = (row0.map eI) from rfl) (show row0.length = row0.length from rfl)) (.cons (len_app (show row0.length = row0.length from rfl) (tk_prf (show [[.n .i64 (IntKind.wrap .i64 (v_n.tmod (1000000000 : Int)))]] = (([IntKind.wrap .i64 (v_n.tmod (1000000000 : Int))] : List Int)).map eI from rfl) (show 1 = ([IntKind.wrap .i64 (v_n.tmod (1000000000 : Int))] : List Int).length from rfl)) : (row0 ++ ([IntKind.wrap .i64 (v_n.tmod (1000000000 : Int))] : List Int)).length = row0.length + (([[.n .i64 (IntKind.wrap .i64 (v_n.tmod (1000000000 : Int)))]].drop 0).take 1).length) (.cons h2 (.cons (by decide : (1000000000 : Int) ≠ 0) (.cons (row_prf (app_full (show (row0.map eI) = (row0.map eI) from rfl) (show row0.length = row0.length from rfl) (tk_prf (show [[.n .i64 (IntKind.wrap .i64 (v_n.tmod (1000000000 : Int)))]] = (([IntKind.wrap .i64 (v_n.tmod (1000000000 : Int))] : List Int)).map eI from rfl) (show 1 = ([IntKind.wrap .i64 (v_n.tmod (1000000000 : Int))] : List Int).length from rfl))) : [Ob.mk 1 ((row0.map eI).take row0.length ++ (([[.n .i64 (IntKind.wrap .i64 (v_n.tmod (1000000000 : Int)))]].drop 0).take 1)) .live] = [Ob.mk 1 ((row0 ++ ([IntKind.wrap .i64 (v_n.tmod (1000000000 : Int))] : List Int)).map eI) .live]) (.cons (pure_row eI_pure (row0 ++ ([IntKind.wrap .i64 (v_n.tmod (1000000000 : Int))] : List Int)) : PureRow [Ob.mk 1 ((row0 ++ ([IntKind.wrap .i64 (v_n.tmod (1000000000 : Int))] : List Int)).map eI) .live]) .nil))))))))) (mkS_free _ _) : VEx PP 15 0 (nodeAt (bodyOf PP 99) [1, 1, 0, 0, 0]) .normal (impl_limbsOf_L1_head  v_n row0) (impl_limbsOf_L1_head  (IntKind.wrap .u64 (v_n.tdiv (1000000000 : Int))) (row0 ++ ([IntKind.wrap .i64 (v_n.tmod (1000000000 : Int))] : List Int))))))
      (fun h1 =>
      .ret ((okC_sound hmix (tape := [.reg [nt, nt], .br false, .rst [0] [.pure] [(3, ii)]]) (nr := 1) (by kernel_rfl) (.cons h1 (.cons (pure_row eI_pure row0 : PureRow [Ob.mk 1 (row0.map eI) .live]) .nil)) (mkS_free _ _) : VEx PP 15 0 (nodeAt (bodyOf PP 99) [1, 1, 0, 0, 0]) (.exit 0) (impl_limbsOf_L1_head  v_n row0) (impl_limbsOf_L1_out  row0))))

theorem impl_limbsOf_L1_ok  (v_n : Int) (row0 : (List Int)) : ∀ r, impl_limbsOf_L1  v_n row0 = some r → VLoop PP 15 0 (nodeAt (bodyOf PP 99) [1, 1, 0, 0, 0]) (impl_limbsOf_L1_ex r) (impl_limbsOf_L1_head  v_n row0) (impl_limbsOf_L1_out  r) := fun r h =>
  iter_ok (head := fun w : Int × (List Int) => impl_limbsOf_L1_head  w.1 w.2) (ex := impl_limbsOf_L1_ex) (out := impl_limbsOf_L1_out ) (by intro r; unfold impl_limbsOf_L1_ex; split <;> simp) (fun w => impl_limbsOf_L1_body_ok  w.1 w.2) (v_n, row0) r h

def impl_limbsOf (v_n : Int) : Option (List Int) :=
  impl_limbsOf_L1 v_n ([] : List Int) >>= fun r1 =>
  some r1

theorem impl_limbsOf_ok (v_n : Int) : Wp (impl_limbsOf v_n) (fun r => Con PP 99 [.n .u64 v_n] [] (.isl 1 (r.map eI)) []) := by
  unfold impl_limbsOf
  exact .bnd fun r1 h2 =>
    .ret (runF_con0 hmix (tape := [.reg [nt], .reg [nt], .virt 3 1, .rst [2] [.as [Ob.mk 1 (([] : List Int).map eI) .live]] [(0, ii), (3, .c1 (.c0 (.len (([] : List Int).length))))], .sub (.exit 0) [(3, .osl 0 0 0 r1.length)] [[Ob.mk 1 (r1.map eI) .live]], .reg [nt, nt]]) (rr := .c1 (.c0 (.sl (r1.map eI)))) (by kernel_rfl) (.cons (row_prf (show ([] : List (List AV)) = ([] : List Int).map eI from rfl) : [Ob.mk 1 ([] : List (List AV)) .live] = [Ob.mk 1 (([] : List Int).map eI) .live]) (.cons (pure_row eI_pure ([] : List Int) : PureRow [Ob.mk 1 (([] : List Int).map eI) .live]) (.cons (show 0 = ([] : List Int).length from rfl) (.cons ((impl_limbsOf_L1_ok v_n ([] : List Int) r1 h2).vex) (.cons (snap_full (show (r1.map eI) = (r1.map eI) from rfl) (show r1.length = r1.length from rfl)) (.cons (fit_full (show (r1.map eI) = (r1.map eI) from rfl) (show r1.length = r1.length from rfl)) (.cons (pure_map eI_pure r1) .nil))))))))

def impl_trim_o_L1_head (row0 : (List Int)) (v_a_len : Nat) : S := mkS [(0, .osl 0 0 0 v_a_len)] [[Ob.mk 1 (row0.map eI) .live]]

def impl_trim_o_L1_ex : Nat → Exit
  | _ => .exit 0

def impl_trim_o_L1_out (row0 : (List Int)) : Nat → S
  | a => mkS [(0, .osl 0 0 0 a)] [[Ob.mk 1 (row0.map eI) .live]]

def impl_trim_o_L1_body (row0 : (List Int)) (v_a_len : Nat) : Option ((Nat) ⊕ (Nat)) :=
  if (decide ((0 : Int) < ((v_a_len : Nat) : Int))) = true then
    if 0 ≤ (w64 (((v_a_len : Nat) : Int) - (1 : Int))) ∧ (w64 (((v_a_len : Nat) : Int) - (1 : Int))) < (v_a_len : Nat) then
    row0[(0 + (w64 (((v_a_len : Nat) : Int) - (1 : Int))).toNat)]? >>= fun x3 =>
    if (x3 == (0 : Int)) = true then
      if 0 ≤ (w64 (((v_a_len : Nat) : Int) - (1 : Int))) then
      if 0 ≤ (w64 (((v_a_len : Nat) : Int) - (1 : Int))).toNat ∧ (w64 (((v_a_len : Nat) : Int) - (1 : Int))).toNat ≤ v_a_len then
      some (.inl ((w64 (((v_a_len : Nat) : Int) - (1 : Int))).toNat - 0))
      else none
      else none
    else
      some (.inr v_a_len)
    else none
  else
    some (.inr v_a_len)

def impl_trim_o_L1 (row0 : (List Int)) (v_a_len : Nat) : Option (Nat) := iter (fun w : Nat => impl_trim_o_L1_body row0 w) v_a_len

theorem impl_trim_o_L1_body_ok (row0 : (List Int)) (v_a_len : Nat) : Wp (impl_trim_o_L1_body row0 v_a_len) (Sum.elim
    (fun w => VEx PP 21 1 (nodeAt (bodyOf PP 119) [1, 0, 0, 0]) .normal (impl_trim_o_L1_head row0 v_a_len) (impl_trim_o_L1_head row0 w))
    (fun r => VEx PP 21 1 (nodeAt (bodyOf PP 119) [1, 0, 0, 0]) (impl_trim_o_L1_ex r) (impl_trim_o_L1_head row0 v_a_len) (impl_trim_o_L1_out row0 r))) := by
  unfold impl_trim_o_L1_body
  exact .ite (fun h1 =>
      .grd fun h2 =>
       .bnd fun x3 h4 =>
       .ite (fun h5 =>
       .grd fun h6 =>
        .grd fun h7 =>
        .ret ((okC_sound hmix (tape := [.reg [nt, nt, nt, nt, nt, nt, nt, nt, nt, (.el (eI x3), true), nt, (.br true, true)], .br true, .reg [nt, nt, nt, nt, nt, nt], .rst [0] [.pure] [(0, ii)]]) (nr := 1) (by kernel_rfl) (.cons h1 (.cons h1 (.cons h1 (.cons h1 (.cons h1 (.cons ((h2).1) (.cons ((h2).2) (.cons h1 (.cons (map_get h4 : (row0.map eI)[(0 + (w64 (((v_a_len : Nat) : Int) - (1 : Int))).toNat)]? = some (eI x3)) (.cons h1 (.cons h1 (.cons h5 (.cons h6 (.cons ((h7).1) (.cons ((h7).2) (.cons (pure_row eI_pure row0 : PureRow [Ob.mk 1 (row0.map eI) .live]) .nil)))))))))))))))) (mkS_free _ _) : VEx PP 21 1 (nodeAt (bodyOf PP 119) [1, 0, 0, 0]) .normal (impl_trim_o_L1_head row0 v_a_len) (impl_trim_o_L1_head row0 ((w64 (((v_a_len : Nat) : Int) - (1 : Int))).toNat - 0)))))
       (fun h5 =>
       .ret ((okC_sound hmix (tape := [.reg [nt, nt, nt, nt, nt, nt, nt, nt, nt, (.el (eI x3), true), nt, (.br true, true)], .br false, .rst [0] [.pure] [(0, ii)]]) (nr := 1) (by kernel_rfl) (.cons h1 (.cons h1 (.cons h1 (.cons h1 (.cons h1 (.cons ((h2).1) (.cons ((h2).2) (.cons h1 (.cons (map_get h4 : (row0.map eI)[(0 + (w64 (((v_a_len : Nat) : Int) - (1 : Int))).toNat)]? = some (eI x3)) (.cons h1 (.cons h1 (.cons h5 (.cons (pure_row eI_pure row0 : PureRow [Ob.mk 1 (row0.map eI) .live]) .nil))))))))))))) (mkS_free _ _) : VEx PP 21 1 (nodeAt (bodyOf PP 119) [1, 0, 0, 0]) (.exit 0) (impl_trim_o_L1_head row0 v_a_len) (impl_trim_o_L1_out row0 v_a_len)))))
      (fun h1 =>
      .ret ((okC_sound hmix (tape := [.reg [nt, nt, nt, nt, nf, nf, nf, nf, nf, nf, nf, (.br false, true)], .br false, .rst [0] [.pure] [(0, ii)]]) (nr := 1) (by kernel_rfl) (.cons h1 (.cons h1 (.cons h1 (.cons h1 (.cons h1 (.cons h1 (.cons h1 (.cons h1 (.cons (rfl : false = false) (.cons (pure_row eI_pure row0 : PureRow [Ob.mk 1 (row0.map eI) .live]) .nil)))))))))) (mkS_free _ _) : VEx PP 21 1 (nodeAt (bodyOf PP 119) [1, 0, 0, 0]) (.exit 0) (impl_trim_o_L1_head row0 v_a_len) (impl_trim_o_L1_out row0 v_a_len))))

theorem impl_trim_o_L1_ok (row0 : (List Int)) (v_a_len : Nat) : ∀ r, impl_trim_o_L1 row0 v_a_len = some r → VLoop PP 21 1 (nodeAt (bodyOf PP 119) [1, 0, 0, 0]) (impl_trim_o_L1_ex r) (impl_trim_o_L1_head row0 v_a_len) (impl_trim_o_L1_out row0 r) := fun r h =>
  iter_ok (head := fun w : Nat => impl_trim_o_L1_head row0 w) (ex := impl_trim_o_L1_ex) (out := impl_trim_o_L1_out row0) (by intro r; unfold impl_trim_o_L1_ex; split <;> simp) (fun w => impl_trim_o_L1_body_ok row0 w) v_a_len r h

def impl_trim_o (rw0 : (List Int)) : Option Nat :=
  impl_trim_o_L1 rw0 rw0.length >>= fun r1 =>
  some r1

theorem impl_trim_o_ok (rw0 : (List Int)) : Wp (impl_trim_o rw0) (fun a => Con PP 119 [.osl 0 0 0 rw0.length] [[Ob.mk 1 (rw0.map eI) .live]] (.osl 0 0 0 a) [[Ob.mk 1 (rw0.map eI) .live]]) := by
  unfold impl_trim_o
  exact .bnd fun r1 h2 =>
    .ret (runF_con hmix (tape := [.reg [nt], .rst [0] [.pure] [(0, ii)], .sub (.exit 0) [(0, .osl 0 0 0 r1)] [[Ob.mk 1 (rw0.map eI) .live]], .reg [nt, nt]]) (mv := [0]) (rc := [.pure]) (rr := ii) (by kernel_rfl) (.cons (pure_row eI_pure rw0 : PureRow [Ob.mk 1 (rw0.map eI) .live]) (.cons ((impl_trim_o_L1_ok rw0 rw0.length r1 h2).vex) (.cons (pure_row eI_pure rw0 : PureRow [Ob.mk 1 (rw0.map eI) .live]) .nil))))

def impl_times_o_L2_head (v_b : (List Int)) (v_i : Int) (v_n : Int) (v_t26 : (List Int)) (v_t27 : Int) (v_t34 : Int) (v_carry : Int) (v_t35 : Int) (row0 : (List Int)) : S := mkS [(1, .isl 1 (v_b.map eI)), (5, .osl 0 0 0 row0.length), (6, .n .i64 v_i), (7, .n .i64 v_n), (8, .n .i64 v_carry), (26, .isl 1 (v_t26.map eI)), (27, .n .i64 v_t27), (28, .n .i64 v_i), (33, .isl 1 (v_b.map eI)), (34, .n .i64 v_t34), (35, .n .i64 v_t35)] [[Ob.mk 1 (row0.map eI) .live]]

def impl_times_o_L2_ex : (Int × (List Int)) → Exit
  | _ => .exit 2

def impl_times_o_L2_out (v_b : (List Int)) (v_i : Int) (v_n : Int) (v_t26 : (List Int)) (v_t27 : Int) (v_t34 : Int) : (Int × (List Int)) → S
  | a => mkS [(1, .isl 1 (v_b.map eI)), (5, .osl 0 0 0 a.2.length), (6, .n .i64 v_i), (8, .n .i64 a.1), (26, .isl 1 (v_t26.map eI)), (27, .n .i64 v_t27), (28, .n .i64 v_i)] [[Ob.mk 1 (a.2.map eI) .live]]

def impl_times_o_L2_body (v_b : (List Int)) (v_i : Int) (v_n : Int) (v_t26 : (List Int)) (v_t27 : Int) (v_t34 : Int) (v_carry : Int) (v_t35 : Int) (row0 : (List Int)) : Option ((Int × Int × (List Int)) ⊕ (Int × (List Int))) :=
  if (decide (v_t35 < v_t34)) = true then
    if 0 ≤ v_t35 ∧ v_t35 < v_b.length then
    v_b[v_t35.toNat]? >>= fun x3 =>
    if 0 ≤ (w64 (v_i + v_t35)) ∧ (w64 (v_i + v_t35)) < (row0.length : Nat) then
    row0[(0 + (w64 (v_i + v_t35)).toNat)]? >>= fun x6 =>
    if (0 + (w64 (v_i + v_t35)).toNat) < row0.length then
    some (.inl (w64 ((w64 ((w64 (x6 + (w64 (v_n * x3)))) + v_carry)).tdiv (1000000000 : Int)), w64 (v_t35 + (1 : Int)), row0.set (0 + (w64 (v_i + v_t35)).toNat) ((w64 ((w64 (x6 + (w64 (v_n * x3)))) + v_carry)).tmod (1000000000 : Int))))
    else none
    else none
    else none
  else
    some (.inr (v_carry, row0))

def impl_times_o_L2 (v_b : (List Int)) (v_i : Int) (v_n : Int) (v_t26 : (List Int)) (v_t27 : Int) (v_t34 : Int) (v_carry : Int) (v_t35 : Int) (row0 : (List Int)) : Option (Int × (List Int)) := iter (fun w : Int × Int × (List Int) => impl_times_o_L2_body v_b v_i v_n v_t26 v_t27 v_t34 w.1 w.2.1 w.2.2) (v_carry, v_t35, row0)

theorem impl_times_o_L2_body_ok (v_b : (List Int)) (v_i : Int) (v_n : Int) (v_t26 : (List Int)) (v_t27 : Int) (v_t34 : Int) (v_carry : Int) (v_t35 : Int) (row0 : (List Int)) : Wp (impl_times_o_L2_body v_b v_i v_n v_t26 v_t27 v_t34 v_carry v_t35 row0) (Sum.elim
    (fun w => VEx PP 72 0 (nodeAt (bodyOf PP 97) [1, 1, 1, 0, 1, 0, 0, 1, 1, 0, 0, 1, 1, 0, 1, 0, 0]) .normal (impl_times_o_L2_head v_b v_i v_n v_t26 v_t27 v_t34 v_carry v_t35 row0) (impl_times_o_L2_head v_b v_i v_n v_t26 v_t27 v_t34 w.1 w.2.1 w.2.2))
    (fun r => VEx PP 72 0 (nodeAt (bodyOf PP 97) [1, 1, 1, 0, 1, 0, 0, 1, 1, 0, 0, 1, 1, 0, 1, 0, 0]) (impl_times_o_L2_ex r) (impl_times_o_L2_head v_b v_i v_n v_t26 v_t27 v_t34 v_carry v_t35 row0) (impl_times_o_L2_out v_b v_i v_n v_t26 v_t27 v_t34 r))) := by
  unfold impl_times_o_L2_body
  exact .ite (fun h1 =>
      .grd fun h2 =>
       .bnd fun x3 h4 =>
       .grd fun h5 =>
       .bnd fun x6 h7 =>
       .grd fun h8 =>
       .ret ((okC_sound hmix (tape := [.reg [nt], .br true, .reg [nt, nt, (.el (eI x3), true), nt, nt], .reg [nt, nt, nt, nt, nt, (.el (eI x6), true), nt, nt, nt, nt, nt, nt, nt], .reg [nt, nt, nt, nt, nt, nt, nt, nt, nt, (.bd, true), nt], .reg [nt, nt], .rst [0] [.as [Ob.mk 1 ((row0.set (0 + (w64 (v_i + v_t35)).toNat) ((w64 ((w64 (x6 + (w64 (v_n * x3)))) + v_carry)).tmod (1000000000 : Int))).map eI) .live]] [(1, ii), (5, .c1 (.c0 (.len ((row0.set (0 + (w64 (v_i + v_t35)).toNat) ((w64 ((w64 (x6 + (w64 (v_n * x3)))) + v_carry)).tmod (1000000000 : Int))).length)))), (6, ii), (7, ii), (8, ii), (26, ii), (27, ii), (28, ii), (33, ii), (34, ii), (35, ii)]]) (nr := 1) (by kernel_rfl) (.cons h1 (.cons ((h2).1) (.cons (lt_mapI (h2).2 : v_t35 < ((v_b.map eI).length : Nat)) (.cons (map_get h4 : (v_b.map eI)[v_t35.toNat]? = some (eI x3)) (.cons ((h5).1) (.cons ((h5).2) (.cons (map_get h7 : (row0.map eI)[(0 + (w64 (v_i + v_t35)).toNat)]? = some (eI x6)) (.cons (by decide : (1000000000 : Int) ≠ 0) (.cons (by decide : (1000000000 : Int) ≠ 0) (.cons ((h5).1) (.cons ((h5).2) (.cons (lt_map h8 : (0 + (w64 (v_i + v_t35)).toNat) < (row0.map eI).length) (.cons (rfl : 1 = 1) (.cons (row_prf (set_prf (show (row0.map eI) = (row0.map eI) from rfl) (0 + (w64 (v_i + v_t35)).toNat) ((w64 ((w64 (x6 + (w64 (v_n * x3)))) + v_carry)).tmod (1000000000 : Int))) : [Ob.mk 1 ((row0.map eI).set (0 + (w64 (v_i + v_t35)).toNat) [.n .i64 ((w64 ((w64 (x6 + (w64 (v_n * x3)))) + v_carry)).tmod (1000000000 : Int))]) .live] = [Ob.mk 1 ((row0.set (0 + (w64 (v_i + v_t35)).toNat) ((w64 ((w64 (x6 + (w64 (v_n * x3)))) + v_carry)).tmod (1000000000 : Int))).map eI) .live]) (.cons (pure_row eI_pure (row0.set (0 + (w64 (v_i + v_t35)).toNat) ((w64 ((w64 (x6 + (w64 (v_n * x3)))) + v_carry)).tmod (1000000000 : Int))) : PureRow [Ob.mk 1 ((row0.set (0 + (w64 (v_i + v_t35)).toNat) ((w64 ((w64 (x6 + (w64 (v_n * x3)))) + v_carry)).tmod (1000000000 : Int))).map eI) .live]) (.cons (len_set (show row0.length = row0.length from rfl) (0 + (w64 (v_i + v_t35)).toNat) ((w64 ((w64 (x6 + (w64 (v_n * x3)))) + v_carry)).tmod (1000000000 : Int))) .nil)))))))))))))))) (mkS_free _ _) : VEx PP 72 0 (nodeAt (bodyOf PP 97) [1, 1, 1, 0, 1, 0, 0, 1, 1, 0, 0, 1, 1, 0, 1, 0, 0]) .normal (impl_times_o_L2_head v_b v_i v_n v_t26 v_t27 v_t34 v_carry v_t35 row0) (impl_times_o_L2_head v_b v_i v_n v_t26 v_t27 v_t34 (w64 ((w64 ((w64 (x6 + (w64 (v_n * x3)))) + v_carry)).tdiv (1000000000 : Int))) (w64 (v_t35 + (1 : Int))) (row0.set (0 + (w64 (v_i + v_t35)).toNat) ((w64 ((w64 (x6 + (w64 (v_n * x3)))) + v_carry)).tmod (1000000000 : Int)))))))
      (fun h1 =>
      .ret ((okC_sound hmix (tape := [.reg [nt], .br false, .rst [0] [.pure] [(1, ii), (5, ii), (6, ii), (8, ii), (26, ii), (27, ii), (28, ii)]]) (nr := 1) (by kernel_rfl) (.cons h1 (.cons (pure_row eI_pure row0 : PureRow [Ob.mk 1 (row0.map eI) .live]) .nil)) (mkS_free _ _) : VEx PP 72 0 (nodeAt (bodyOf PP 97) [1, 1, 1, 0, 1, 0, 0, 1, 1, 0, 0, 1, 1, 0, 1, 0, 0]) (.exit 2) (impl_times_o_L2_head v_b v_i v_n v_t26 v_t27 v_t34 v_carry v_t35 row0) (impl_times_o_L2_out v_b v_i v_n v_t26 v_t27 v_t34 (v_carry, row0)))))

theorem impl_times_o_L2_ok (v_b : (List Int)) (v_i : Int) (v_n : Int) (v_t26 : (List Int)) (v_t27 : Int) (v_t34 : Int) (v_carry : Int) (v_t35 : Int) (row0 : (List Int)) : ∀ r, impl_times_o_L2 v_b v_i v_n v_t26 v_t27 v_t34 v_carry v_t35 row0 = some r → VLoop PP 72 0 (nodeAt (bodyOf PP 97) [1, 1, 1, 0, 1, 0, 0, 1, 1, 0, 0, 1, 1, 0, 1, 0, 0]) (impl_times_o_L2_ex r) (impl_times_o_L2_head v_b v_i v_n v_t26 v_t27 v_t34 v_carry v_t35 row0) (impl_times_o_L2_out v_b v_i v_n v_t26 v_t27 v_t34 r) := fun r h =>
  iter_ok (head := fun w : Int × Int × (List Int) => impl_times_o_L2_head v_b v_i v_n v_t26 v_t27 v_t34 w.1 w.2.1 w.2.2) (ex := impl_times_o_L2_ex) (out := impl_times_o_L2_out v_b v_i v_n v_t26 v_t27 v_t34) (by intro r; unfold impl_times_o_L2_ex; split <;> simp) (fun w => impl_times_o_L2_body_ok v_b v_i v_n v_t26 v_t27 v_t34 w.1 w.2.1 w.2.2) (v_carry, v_t35, row0) r h

def impl_times_o_L3_head (v_b : (List Int)) (v_t26 : (List Int)) (v_t27 : Int) (v_t28 : Int) (row0 : (List Int)) : S := mkS [(1, .isl 1 (v_b.map eI)), (5, .osl 0 0 0 row0.length), (26, .isl 1 (v_t26.map eI)), (27, .n .i64 v_t27), (28, .n .i64 v_t28)] [[Ob.mk 1 (row0.map eI) .live]]

def impl_times_o_L3_ex : (List Int) → Exit
  | _ => .exit 0

def impl_times_o_L3_out (v_b : (List Int)) (v_t26 : (List Int)) (v_t27 : Int) : (List Int) → S
  | a => mkS [(5, .osl 0 0 0 a.length)] [[Ob.mk 1 (a.map eI) .live]]

def impl_times_o_L3_body (v_b : (List Int)) (v_t26 : (List Int)) (v_t27 : Int) (v_t28 : Int) (row0 : (List Int)) : Option ((Int × (List Int)) ⊕ ((List Int))) :=
  if (decide (v_t28 < v_t27)) = true then
    if 0 ≤ v_t28 ∧ v_t28 < v_t26.length then
    v_t26[v_t28.toNat]? >>= fun x3 =>
    impl_times_o_L2 v_b v_t28 x3 v_t26 v_t27 (len_ eI v_b) 0 0 row0 >>= fun r5 =>
    if 0 ≤ (w64 (v_t28 + (len_ eI v_b))) ∧ (w64 (v_t28 + (len_ eI v_b))) < (r5.2.length : Nat) then
    if (0 + (w64 (v_t28 + (len_ eI v_b))).toNat) < r5.2.length then
    some (.inl (w64 (v_t28 + (1 : Int)), r5.2.set (0 + (w64 (v_t28 + (len_ eI v_b))).toNat) r5.1))
    else none
    else none
    else none
  else
    some (.inr row0)

def impl_times_o_L3 (v_b : (List Int)) (v_t26 : (List Int)) (v_t27 : Int) (v_t28 : Int) (row0 : (List Int)) : Option ((List Int)) := iter (fun w : Int × (List Int) => impl_times_o_L3_body v_b v_t26 v_t27 w.1 w.2) (v_t28, row0)

theorem impl_times_o_L3_body_ok (v_b : (List Int)) (v_t26 : (List Int)) (v_t27 : Int) (v_t28 : Int) (row0 : (List Int)) : Wp (impl_times_o_L3_body v_b v_t26 v_t27 v_t28 row0) (Sum.elim
    (fun w => VEx PP 72 0 (nodeAt (bodyOf PP 97) [1, 1, 1, 0, 1, 0, 0]) .normal (impl_times_o_L3_head v_b v_t26 v_t27 v_t28 row0) (impl_times_o_L3_head v_b v_t26 v_t27 w.1 w.2))
    (fun r => VEx PP 72 0 (nodeAt (bodyOf PP 97) [1, 1, 1, 0, 1, 0, 0]) (impl_times_o_L3_ex r) (impl_times_o_L3_head v_b v_t26 v_t27 v_t28 row0) (impl_times_o_L3_out v_b v_t26 v_t27 r))) := by
  unfold impl_times_o_L3_body
  exact .ite (fun h1 =>
      .grd fun h2 =>
       .bnd fun x3 h4 =>
       .bnd fun r5 h6 =>
       .grd fun h7 =>
       .grd fun h8 =>
       .ret ((okC_sound hmix (tape := [.reg [nt], .br true, .reg [nt, nt, (.el (eI x3), true), nt, nt], .reg [nt], .reg [nt, nt, nt], .rst [0] [.pure] [(1, ii), (5, ii), (6, ii), (7, ii), (8, ii), (26, ii), (27, ii), (28, ii), (33, ii), (34, ii), (35, ii)], .sub (.exit 2) [(1, .isl 1 (v_b.map eI)), (5, .osl 0 0 0 r5.2.length), (6, .n .i64 v_t28), (8, .n .i64 r5.1), (26, .isl 1 (v_t26.map eI)), (27, .n .i64 v_t27), (28, .n .i64 v_t28)] [[Ob.mk 1 (r5.2.map eI) .live]], .reg [nt, nt, nt, nt, nt, nt, nt, (.bd, true)], .reg [nt, nt], .rst [0] [.as [Ob.mk 1 ((r5.2.set (0 + (w64 (v_t28 + (len_ eI v_b))).toNat) r5.1).map eI) .live]] [(1, ii), (5, .c1 (.c0 (.len ((r5.2.set (0 + (w64 (v_t28 + (len_ eI v_b))).toNat) r5.1).length)))), (26, ii), (27, ii), (28, ii)]]) (nr := 1) (by kernel_rfl) (.cons h1 (.cons ((h2).1) (.cons (lt_mapI (h2).2 : v_t28 < ((v_t26.map eI).length : Nat)) (.cons (map_get h4 : (v_t26.map eI)[v_t28.toNat]? = some (eI x3)) (.cons (pure_row eI_pure row0 : PureRow [Ob.mk 1 (row0.map eI) .live]) (.cons ((impl_times_o_L2_ok v_b v_t28 x3 v_t26 v_t27 (len_ eI v_b) 0 0 row0 r5 h6).vex) (.cons ((h7).1) (.cons ((h7).2) (.cons (lt_map h8 : (0 + (w64 (v_t28 + (len_ eI v_b))).toNat) < (r5.2.map eI).length) (.cons (rfl : 1 = 1) (.cons (row_prf (set_prf (show (r5.2.map eI) = (r5.2.map eI) from rfl) (0 + (w64 (v_t28 + (len_ eI v_b))).toNat) r5.1) : [Ob.mk 1 ((r5.2.map eI).set (0 + (w64 (v_t28 + (len_ eI v_b))).toNat) [.n .i64 r5.1]) .live] = [Ob.mk 1 ((r5.2.set (0 + (w64 (v_t28 + (len_ eI v_b))).toNat) r5.1).map eI) .live]) (.cons (pure_row eI_pure (r5.2.set (0 + (w64 (v_t28 + (len_ eI v_b))).toNat) r5.1) : PureRow [Ob.mk 1 ((r5.2.set (0 + (w64 (v_t28 + (len_ eI v_b))).toNat) r5.1).map eI) .live]) (.cons (len_set (show r5.2.length = r5.2.length from rfl) (0 + (w64 (v_t28 + (len_ eI v_b))).toNat) r5.1) .nil))))))))))))) (mkS_free _ _) : VEx PP 72 0 (nodeAt (bodyOf PP 97) [1, 1, 1, 0, 1, 0, 0]) .normal (impl_times_o_L3_head v_b v_t26 v_t27 v_t28 row0) (impl_times_o_L3_head v_b v_t26 v_t27 (w64 (v_t28 + (1 : Int))) (r5.2.set (0 + (w64 (v_t28 + (len_ eI v_b))).toNat) r5.1)))))
      (fun h1 =>
      .ret ((okC_sound hmix (tape := [.reg [nt], .br false, .rst [0] [.pure] [(5, ii)]]) (nr := 1) (by kernel_rfl) (.cons h1 (.cons (pure_row eI_pure row0 : PureRow [Ob.mk 1 (row0.map eI) .live]) .nil)) (mkS_free _ _) : VEx PP 72 0 (nodeAt (bodyOf PP 97) [1, 1, 1, 0, 1, 0, 0]) (.exit 0) (impl_times_o_L3_head v_b v_t26 v_t27 v_t28 row0) (impl_times_o_L3_out v_b v_t26 v_t27 row0))))

theorem impl_times_o_L3_ok (v_b : (List Int)) (v_t26 : (List Int)) (v_t27 : Int) (v_t28 : Int) (row0 : (List Int)) : ∀ r, impl_times_o_L3 v_b v_t26 v_t27 v_t28 row0 = some r → VLoop PP 72 0 (nodeAt (bodyOf PP 97) [1, 1, 1, 0, 1, 0, 0]) (impl_times_o_L3_ex r) (impl_times_o_L3_head v_b v_t26 v_t27 v_t28 row0) (impl_times_o_L3_out v_b v_t26 v_t27 r) := fun r h =>
  iter_ok (head := fun w : Int × (List Int) => impl_times_o_L3_head v_b v_t26 v_t27 w.1 w.2) (ex := impl_times_o_L3_ex) (out := impl_times_o_L3_out v_b v_t26 v_t27) (by intro r; unfold impl_times_o_L3_ex; split <;> simp) (fun w => impl_times_o_L3_body_ok v_b v_t26 v_t27 w.1 w.2) (v_t28, row0) r h

def impl_times_o (v_a : (List Int)) (v_b : (List Int)) : Option (Nat × (List Int)) :=
  if ((len_ eI v_a) == (0 : Int)) = true then
    none
  else
    if ((len_ eI v_b) == (0 : Int)) = true then
      none
    else
      if 0 ≤ (w64 ((len_ eI v_a) + (len_ eI v_b))) ∧ (8 : Int) * (w64 ((len_ eI v_a) + (len_ eI v_b))) ≤ 281474976710656 ∧ (w64 ((len_ eI v_a) + (len_ eI v_b))) < 9223372036854775808 then
      impl_times_o_L3 v_b v_a (len_ eI v_a) 0 (List.replicate (w64 ((len_ eI v_a) + (len_ eI v_b))).toNat 0 : List Int) >>= fun r4 =>
      impl_trim_o r4 >>= fun r6 =>
      some (r6, r4)
      else none

theorem impl_times_o_ok (v_a : (List Int)) (v_b : (List Int)) : Wp (impl_times_o v_a v_b) (fun a => Con PP 97 [.isl 1 (v_a.map eI), .isl 1 (v_b.map eI)] [] (.osl 0 0 0 a.1) [[Ob.mk 1 (a.2.map eI) .live]]) := by
  unfold impl_times_o
  exact .ite (fun h1 =>
    .nix)
    (fun h1 =>
    .ite (fun h2 =>
     .nix)
     (fun h2 =>
     .grd fun h3 =>
      .bnd fun r4 h5 =>
      .bnd fun r6 h7 =>
      .ret (runF_con hmix (tape := [.reg [nt], .reg [nt, nt, nt, nt, nt, nt, nt, (.br false, true)], .br false, .reg [nt, nt, nt, nt, nt, nt, nt], .reg [nt, nt, nt], .rst [14] [.as [Ob.mk 1 ((List.replicate (w64 ((len_ eI v_a) + (len_ eI v_b))).toNat 0 : List Int).map eI) .live]] [(1, ii), (5, .c1 (.c0 (.len ((List.replicate (w64 ((len_ eI v_a) + (len_ eI v_b))).toNat 0 : List Int).length)))), (26, ii), (27, ii), (28, ii)], .sub (.exit 0) [(5, .osl 0 0 0 r4.length)] [[Ob.mk 1 (r4.map eI) .live]], .reg [nt, (.call { mv := [0], rc := [.pure], ac := [ii], r := .osl 0 0 0 r6, T1 := [[Ob.mk 1 (r4.map eI) .live]], rr := ii, rrc := [.pure], rds := [0], sc := false }, true), nt]]) (mv := [0]) (rc := [.pure]) (rr := ii) (by kernel_rfl) (.cons h1 (.cons h1 (.cons h1 (.cons h1 (.cons h2 (.cons ((h3).1) (.cons (Int.le_refl (w64 ((len_ eI v_a) + (len_ eI v_b)))) (.cons ((h3).2.1) (.cons ((h3).2.2) (.cons (row_prf (rep_prf eI (w64 ((len_ eI v_a) + (len_ eI v_b))).toNat 0) : [Ob.mk 1 (List.replicate (w64 ((len_ eI v_a) + (len_ eI v_b))).toNat [.n .i64 (0 : Int)]) .live] = [Ob.mk 1 ((List.replicate (w64 ((len_ eI v_a) + (len_ eI v_b))).toNat 0 : List Int).map eI) .live]) (.cons (pure_row eI_pure (List.replicate (w64 ((len_ eI v_a) + (len_ eI v_b))).toNat 0 : List Int) : PureRow [Ob.mk 1 ((List.replicate (w64 ((len_ eI v_a) + (len_ eI v_b))).toNat 0 : List Int).map eI) .live]) (.cons (len_rep (w64 ((len_ eI v_a) + (len_ eI v_b))).toNat (0 : Int)) (.cons ((impl_times_o_L3_ok v_b v_a (len_ eI v_a) 0 (List.replicate (w64 ((len_ eI v_a) + (len_ eI v_b))).toNat 0 : List Int) r4 h5).vex) (.cons (pure_live eI_pure r4 : PureLive [Ob.mk 1 (r4.map eI) .live]) (.cons (pure_live eI_pure r4 : PureLive [Ob.mk 1 (r4.map eI) .live]) (.cons (impl_trim_o_ok r4 r6 h7) (.cons (pure_row eI_pure r4 : PureRow [Ob.mk 1 (r4.map eI) .live]) .nil))))))))))))))))))))

def impl_take_o_L1_head (v_u_lo : Nat) (v_u_len : Nat) (v_v : (List Int)) (v_by : Int) (v_t12 : Int) (v_carry : Int) (v_t13 : Int) (row0 : (List Int)) : S := mkS [(0, .osl 0 0 v_u_lo v_u_len), (1, .isl 1 (v_v.map eI)), (2, .n .i64 v_by), (7, .n .i64 v_carry), (11, .isl 1 (v_v.map eI)), (12, .n .i64 v_t12), (13, .n .i64 v_t13)] [[Ob.mk 1 (row0.map eI) .live]]

def impl_take_o_L1_ex : (Int × (List Int)) → Exit
  | _ => .exit 0

def impl_take_o_L1_out (v_u_lo : Nat) (v_u_len : Nat) (v_v : (List Int)) (v_by : Int) (v_t12 : Int) : (Int × (List Int)) → S
  | a => mkS [(0, .osl 0 0 v_u_lo v_u_len), (1, .isl 1 (v_v.map eI)), (7, .n .i64 a.1)] [[Ob.mk 1 (a.2.map eI) .live]]

def impl_take_o_L1_body (v_u_lo : Nat) (v_u_len : Nat) (v_v : (List Int)) (v_by : Int) (v_t12 : Int) (v_carry : Int) (v_t13 : Int) (row0 : (List Int)) : Option ((Int × Int × (List Int)) ⊕ (Int × (List Int))) :=
  if (decide (v_t13 < v_t12)) = true then
    if 0 ≤ v_t13 ∧ v_t13 < v_v.length then
    v_v[v_t13.toNat]? >>= fun x3 =>
    if 0 ≤ v_t13 ∧ v_t13 < (v_u_len : Nat) then
    row0[(v_u_lo + v_t13.toNat)]? >>= fun x6 =>
    if (decide ((w64 ((w64 (x6 - (w64 (v_by * x3)))) - v_carry)) < (0 : Int))) = true then
      if (v_u_lo + v_t13.toNat) < row0.length then
      some (.inl (w64 ((w64 ((999999999 : Int) - (w64 ((w64 (x6 - (w64 (v_by * x3)))) - v_carry)))).tdiv (1000000000 : Int)), w64 (v_t13 + (1 : Int)), row0.set (v_u_lo + v_t13.toNat) (w64 ((w64 ((w64 (x6 - (w64 (v_by * x3)))) - v_carry)) + (w64 ((w64 ((w64 ((999999999 : Int) - (w64 ((w64 (x6 - (w64 (v_by * x3)))) - v_carry)))).tdiv (1000000000 : Int))) * (1000000000 : Int)))))))
      else none
    else
      if (v_u_lo + v_t13.toNat) < row0.length then
      some (.inl (0, w64 (v_t13 + (1 : Int)), row0.set (v_u_lo + v_t13.toNat) (w64 ((w64 (x6 - (w64 (v_by * x3)))) - v_carry))))
      else none
    else none
    else none
  else
    some (.inr (v_carry, row0))

def impl_take_o_L1 (v_u_lo : Nat) (v_u_len : Nat) (v_v : (List Int)) (v_by : Int) (v_t12 : Int) (v_carry : Int) (v_t13 : Int) (row0 : (List Int)) : Option (Int × (List Int)) := iter (fun w : Int × Int × (List Int) => impl_take_o_L1_body v_u_lo v_u_len v_v v_by v_t12 w.1 w.2.1 w.2.2) (v_carry, v_t13, row0)

theorem impl_take_o_L1_body_ok (v_u_lo : Nat) (v_u_len : Nat) (v_v : (List Int)) (v_by : Int) (v_t12 : Int) (v_carry : Int) (v_t13 : Int) (row0 : (List Int)) : Wp (impl_take_o_L1_body v_u_lo v_u_len v_v v_by v_t12 v_carry v_t13 row0) (Sum.elim
    (fun w => VEx PP 56 1 (nodeAt (bodyOf PP 131) [1, 1, 0, 1, 0, 0]) .normal (impl_take_o_L1_head v_u_lo v_u_len v_v v_by v_t12 v_carry v_t13 row0) (impl_take_o_L1_head v_u_lo v_u_len v_v v_by v_t12 w.1 w.2.1 w.2.2))
    (fun r => VEx PP 56 1 (nodeAt (bodyOf PP 131) [1, 1, 0, 1, 0, 0]) (impl_take_o_L1_ex r) (impl_take_o_L1_head v_u_lo v_u_len v_v v_by v_t12 v_carry v_t13 row0) (impl_take_o_L1_out v_u_lo v_u_len v_v v_by v_t12 r))) := by
  unfold impl_take_o_L1_body
  exact .ite (fun h1 =>
      .grd fun h2 =>
       .bnd fun x3 h4 =>
       .grd fun h5 =>
       .bnd fun x6 h7 =>
       .ite (fun h8 =>
       .grd fun h9 =>
        .ret ((okC_sound hmix (tape := [.reg [nt], .br true, .reg [nt, nt, (.el (eI x3), true), nt, nt], .reg [nt, nt, nt, (.el (eI x6), true), nt, nt, nt, nt, nt, nt, nt], .reg [nt], .reg [nt, nt], .br true, .reg [nt, nt, nt, nt], .reg [nt, nt, nt, nt, nt], .reg [nt, nt, nt, nt, (.bd, true)], .reg [nt, nt], .rst [0] [.as [Ob.mk 1 ((row0.set (v_u_lo + v_t13.toNat) (w64 ((w64 ((w64 (x6 - (w64 (v_by * x3)))) - v_carry)) + (w64 ((w64 ((w64 ((999999999 : Int) - (w64 ((w64 (x6 - (w64 (v_by * x3)))) - v_carry)))).tdiv (1000000000 : Int))) * (1000000000 : Int)))))).map eI) .live]] [(0, ii), (1, ii), (2, ii), (7, ii), (11, ii), (12, ii), (13, ii)]]) (nr := 1) (by kernel_rfl) (.cons h1 (.cons ((h2).1) (.cons (lt_mapI (h2).2 : v_t13 < ((v_v.map eI).length : Nat)) (.cons (map_get h4 : (v_v.map eI)[v_t13.toNat]? = some (eI x3)) (.cons ((h5).1) (.cons ((h5).2) (.cons (map_get h7 : (row0.map eI)[(v_u_lo + v_t13.toNat)]? = some (eI x6)) (.cons h8 (.cons (by decide : (1000000000 : Int) ≠ 0) (.cons ((h5).1) (.cons ((h5).2) (.cons (lt_map h9 : (v_u_lo + v_t13.toNat) < (row0.map eI).length) (.cons (rfl : 1 = 1) (.cons (row_prf (set_prf (show (row0.map eI) = (row0.map eI) from rfl) (v_u_lo + v_t13.toNat) (w64 ((w64 ((w64 (x6 - (w64 (v_by * x3)))) - v_carry)) + (w64 ((w64 ((w64 ((999999999 : Int) - (w64 ((w64 (x6 - (w64 (v_by * x3)))) - v_carry)))).tdiv (1000000000 : Int))) * (1000000000 : Int)))))) : [Ob.mk 1 ((row0.map eI).set (v_u_lo + v_t13.toNat) [.n .i64 (w64 ((w64 ((w64 (x6 - (w64 (v_by * x3)))) - v_carry)) + (w64 ((w64 ((w64 ((999999999 : Int) - (w64 ((w64 (x6 - (w64 (v_by * x3)))) - v_carry)))).tdiv (1000000000 : Int))) * (1000000000 : Int)))))]) .live] = [Ob.mk 1 ((row0.set (v_u_lo + v_t13.toNat) (w64 ((w64 ((w64 (x6 - (w64 (v_by * x3)))) - v_carry)) + (w64 ((w64 ((w64 ((999999999 : Int) - (w64 ((w64 (x6 - (w64 (v_by * x3)))) - v_carry)))).tdiv (1000000000 : Int))) * (1000000000 : Int)))))).map eI) .live]) (.cons (pure_row eI_pure (row0.set (v_u_lo + v_t13.toNat) (w64 ((w64 ((w64 (x6 - (w64 (v_by * x3)))) - v_carry)) + (w64 ((w64 ((w64 ((999999999 : Int) - (w64 ((w64 (x6 - (w64 (v_by * x3)))) - v_carry)))).tdiv (1000000000 : Int))) * (1000000000 : Int)))))) : PureRow [Ob.mk 1 ((row0.set (v_u_lo + v_t13.toNat) (w64 ((w64 ((w64 (x6 - (w64 (v_by * x3)))) - v_carry)) + (w64 ((w64 ((w64 ((999999999 : Int) - (w64 ((w64 (x6 - (w64 (v_by * x3)))) - v_carry)))).tdiv (1000000000 : Int))) * (1000000000 : Int)))))).map eI) .live]) .nil))))))))))))))) (mkS_free _ _) : VEx PP 56 1 (nodeAt (bodyOf PP 131) [1, 1, 0, 1, 0, 0]) .normal (impl_take_o_L1_head v_u_lo v_u_len v_v v_by v_t12 v_carry v_t13 row0) (impl_take_o_L1_head v_u_lo v_u_len v_v v_by v_t12 (w64 ((w64 ((999999999 : Int) - (w64 ((w64 (x6 - (w64 (v_by * x3)))) - v_carry)))).tdiv (1000000000 : Int))) (w64 (v_t13 + (1 : Int))) (row0.set (v_u_lo + v_t13.toNat) (w64 ((w64 ((w64 (x6 - (w64 (v_by * x3)))) - v_carry)) + (w64 ((w64 ((w64 ((999999999 : Int) - (w64 ((w64 (x6 - (w64 (v_by * x3)))) - v_carry)))).tdiv (1000000000 : Int))) * (1000000000 : Int))))))))))
       (fun h8 =>
       .grd fun h9 =>
        .ret ((okC_sound hmix (tape := [.reg [nt], .br true, .reg [nt, nt, (.el (eI x3), true), nt, nt], .reg [nt, nt, nt, (.el (eI x6), true), nt, nt, nt, nt, nt, nt, nt], .reg [nt], .reg [nt, nt], .br false, .reg [nt, nt, nt, nt, (.bd, true)], .reg [nt, nt], .rst [0] [.as [Ob.mk 1 ((row0.set (v_u_lo + v_t13.toNat) (w64 ((w64 (x6 - (w64 (v_by * x3)))) - v_carry))).map eI) .live]] [(0, ii), (1, ii), (2, ii), (7, ii), (11, ii), (12, ii), (13, ii)]]) (nr := 1) (by kernel_rfl) (.cons h1 (.cons ((h2).1) (.cons (lt_mapI (h2).2 : v_t13 < ((v_v.map eI).length : Nat)) (.cons (map_get h4 : (v_v.map eI)[v_t13.toNat]? = some (eI x3)) (.cons ((h5).1) (.cons ((h5).2) (.cons (map_get h7 : (row0.map eI)[(v_u_lo + v_t13.toNat)]? = some (eI x6)) (.cons h8 (.cons ((h5).1) (.cons ((h5).2) (.cons (lt_map h9 : (v_u_lo + v_t13.toNat) < (row0.map eI).length) (.cons (rfl : 1 = 1) (.cons (row_prf (set_prf (show (row0.map eI) = (row0.map eI) from rfl) (v_u_lo + v_t13.toNat) (w64 ((w64 (x6 - (w64 (v_by * x3)))) - v_carry))) : [Ob.mk 1 ((row0.map eI).set (v_u_lo + v_t13.toNat) [.n .i64 (w64 ((w64 (x6 - (w64 (v_by * x3)))) - v_carry))]) .live] = [Ob.mk 1 ((row0.set (v_u_lo + v_t13.toNat) (w64 ((w64 (x6 - (w64 (v_by * x3)))) - v_carry))).map eI) .live]) (.cons (pure_row eI_pure (row0.set (v_u_lo + v_t13.toNat) (w64 ((w64 (x6 - (w64 (v_by * x3)))) - v_carry))) : PureRow [Ob.mk 1 ((row0.set (v_u_lo + v_t13.toNat) (w64 ((w64 (x6 - (w64 (v_by * x3)))) - v_carry))).map eI) .live]) .nil)))))))))))))) (mkS_free _ _) : VEx PP 56 1 (nodeAt (bodyOf PP 131) [1, 1, 0, 1, 0, 0]) .normal (impl_take_o_L1_head v_u_lo v_u_len v_v v_by v_t12 v_carry v_t13 row0) (impl_take_o_L1_head v_u_lo v_u_len v_v v_by v_t12 0 (w64 (v_t13 + (1 : Int))) (row0.set (v_u_lo + v_t13.toNat) (w64 ((w64 (x6 - (w64 (v_by * x3)))) - v_carry))))))))
      (fun h1 =>
      .ret ((okC_sound hmix (tape := [.reg [nt], .br false, .rst [0] [.pure] [(0, ii), (1, ii), (7, ii)]]) (nr := 1) (by kernel_rfl) (.cons h1 (.cons (pure_row eI_pure row0 : PureRow [Ob.mk 1 (row0.map eI) .live]) .nil)) (mkS_free _ _) : VEx PP 56 1 (nodeAt (bodyOf PP 131) [1, 1, 0, 1, 0, 0]) (.exit 0) (impl_take_o_L1_head v_u_lo v_u_len v_v v_by v_t12 v_carry v_t13 row0) (impl_take_o_L1_out v_u_lo v_u_len v_v v_by v_t12 (v_carry, row0)))))

theorem impl_take_o_L1_ok (v_u_lo : Nat) (v_u_len : Nat) (v_v : (List Int)) (v_by : Int) (v_t12 : Int) (v_carry : Int) (v_t13 : Int) (row0 : (List Int)) : ∀ r, impl_take_o_L1 v_u_lo v_u_len v_v v_by v_t12 v_carry v_t13 row0 = some r → VLoop PP 56 1 (nodeAt (bodyOf PP 131) [1, 1, 0, 1, 0, 0]) (impl_take_o_L1_ex r) (impl_take_o_L1_head v_u_lo v_u_len v_v v_by v_t12 v_carry v_t13 row0) (impl_take_o_L1_out v_u_lo v_u_len v_v v_by v_t12 r) := fun r h =>
  iter_ok (head := fun w : Int × Int × (List Int) => impl_take_o_L1_head v_u_lo v_u_len v_v v_by v_t12 w.1 w.2.1 w.2.2) (ex := impl_take_o_L1_ex) (out := impl_take_o_L1_out v_u_lo v_u_len v_v v_by v_t12) (by intro r; unfold impl_take_o_L1_ex; split <;> simp) (fun w => impl_take_o_L1_body_ok v_u_lo v_u_len v_v v_by v_t12 w.1 w.2.1 w.2.2) (v_carry, v_t13, row0) r h

def impl_take_o (v_v : (List Int)) (v_by : Int) (v_u_lo : Nat) (v_u_len : Nat) (rw0 : (List Int)) : Option (Bool × (List Int)) :=
  impl_take_o_L1 v_u_lo v_u_len v_v v_by (len_ eI v_v) 0 0 rw0 >>= fun r1 =>
  if 0 ≤ (len_ eI v_v) ∧ (len_ eI v_v) < (v_u_len : Nat) then
  r1.2[(v_u_lo + (len_ eI v_v).toNat)]? >>= fun x4 =>
  if (v_u_lo + (len_ eI v_v).toNat) < r1.2.length then
  (r1.2.set (v_u_lo + (len_ eI v_v).toNat) (w64 (x4 - r1.1)))[(v_u_lo + (len_ eI v_v).toNat)]? >>= fun x7 =>
  some ((decide (x7 < (0 : Int))), r1.2.set (v_u_lo + (len_ eI v_v).toNat) (w64 (x4 - r1.1)))
  else none
  else none

theorem impl_take_o_ok (v_v : (List Int)) (v_by : Int) (v_u_lo : Nat) (v_u_len : Nat) (rw0 : (List Int)) : Wp (impl_take_o v_v v_by v_u_lo v_u_len rw0) (fun a => Con PP 131 [.osl 0 0 v_u_lo v_u_len, .isl 1 (v_v.map eI), .n .i64 v_by] [[Ob.mk 1 (rw0.map eI) .live]] (.b a.1) [[Ob.mk 1 (a.2.map eI) .live]]) := by
  unfold impl_take_o
  exact .bnd fun r1 h2 =>
    .grd fun h3 =>
    .bnd fun x4 h5 =>
    .grd fun h6 =>
    .bnd fun x7 h8 =>
    .ret (runF_con hmix (tape := [.reg [nt], .reg [nt], .reg [nt, nt, nt], .rst [0] [.pure] [(0, ii), (1, ii), (2, ii), (7, ii), (11, ii), (12, ii), (13, ii)], .sub (.exit 0) [(0, .osl 0 0 v_u_lo v_u_len), (1, .isl 1 (v_v.map eI)), (7, .n .i64 r1.1)] [[Ob.mk 1 (r1.2.map eI) .live]], .reg [nt, nt, nt, nt, (.el (eI x4), true), nt, nt, nt, (.bd, true)], .reg [nt, nt, nt, nt, (.el (eI x7), true), nt, nt]]) (mv := [0]) (rc := [.as [Ob.mk 1 ((r1.2.set (v_u_lo + (len_ eI v_v).toNat) (w64 (x4 - r1.1))).map eI) .live]]) (rr := ii) (by kernel_rfl) (.cons (pure_row eI_pure rw0 : PureRow [Ob.mk 1 (rw0.map eI) .live]) (.cons ((impl_take_o_L1_ok v_u_lo v_u_len v_v v_by (len_ eI v_v) 0 0 rw0 r1 h2).vex) (.cons ((h3).1) (.cons ((h3).2) (.cons (map_get h5 : (r1.2.map eI)[(v_u_lo + (len_ eI v_v).toNat)]? = some (eI x4)) (.cons ((h3).1) (.cons ((h3).2) (.cons (lt_map h6 : (v_u_lo + (len_ eI v_v).toNat) < (r1.2.map eI).length) (.cons (rfl : 1 = 1) (.cons ((h3).1) (.cons ((h3).2) (.cons (get_prf (set_prf (show (r1.2.map eI) = (r1.2.map eI) from rfl) (v_u_lo + (len_ eI v_v).toNat) (w64 (x4 - r1.1))) h8) (.cons (row_prf (set_prf (show (r1.2.map eI) = (r1.2.map eI) from rfl) (v_u_lo + (len_ eI v_v).toNat) (w64 (x4 - r1.1))) : [Ob.mk 1 ((r1.2.map eI).set (v_u_lo + (len_ eI v_v).toNat) [.n .i64 (w64 (x4 - r1.1))]) .live] = [Ob.mk 1 ((r1.2.set (v_u_lo + (len_ eI v_v).toNat) (w64 (x4 - r1.1))).map eI) .live]) (.cons (pure_row eI_pure (r1.2.set (v_u_lo + (len_ eI v_v).toNat) (w64 (x4 - r1.1))) : PureRow [Ob.mk 1 ((r1.2.set (v_u_lo + (len_ eI v_v).toNat) (w64 (x4 - r1.1))).map eI) .live]) .nil)))))))))))))))

def impl_give_o_L1_head (v_u_lo : Nat) (v_u_len : Nat) (v_v : (List Int)) (v_t9 : Int) (v_carry : Int) (v_t10 : Int) (row0 : (List Int)) : S := mkS [(0, .osl 0 0 v_u_lo v_u_len), (1, .isl 1 (v_v.map eI)), (4, .n .i64 v_carry), (8, .isl 1 (v_v.map eI)), (9, .n .i64 v_t9), (10, .n .i64 v_t10)] [[Ob.mk 1 (row0.map eI) .live]]

def impl_give_o_L1_ex : (Int × (List Int)) → Exit
  | _ => .exit 0

def impl_give_o_L1_out (v_u_lo : Nat) (v_u_len : Nat) (v_v : (List Int)) (v_t9 : Int) : (Int × (List Int)) → S
  | a => mkS [(0, .osl 0 0 v_u_lo v_u_len), (1, .isl 1 (v_v.map eI)), (4, .n .i64 a.1)] [[Ob.mk 1 (a.2.map eI) .live]]

def impl_give_o_L1_body (v_u_lo : Nat) (v_u_len : Nat) (v_v : (List Int)) (v_t9 : Int) (v_carry : Int) (v_t10 : Int) (row0 : (List Int)) : Option ((Int × Int × (List Int)) ⊕ (Int × (List Int))) :=
  if (decide (v_t10 < v_t9)) = true then
    if 0 ≤ v_t10 ∧ v_t10 < v_v.length then
    v_v[v_t10.toNat]? >>= fun x3 =>
    if 0 ≤ v_t10 ∧ v_t10 < (v_u_len : Nat) then
    row0[(v_u_lo + v_t10.toNat)]? >>= fun x6 =>
    if (v_u_lo + v_t10.toNat) < row0.length then
    some (.inl (w64 ((w64 ((w64 (x6 + x3)) + v_carry)).tdiv (1000000000 : Int)), w64 (v_t10 + (1 : Int)), row0.set (v_u_lo + v_t10.toNat) ((w64 ((w64 (x6 + x3)) + v_carry)).tmod (1000000000 : Int))))
    else none
    else none
    else none
  else
    some (.inr (v_carry, row0))

def impl_give_o_L1 (v_u_lo : Nat) (v_u_len : Nat) (v_v : (List Int)) (v_t9 : Int) (v_carry : Int) (v_t10 : Int) (row0 : (List Int)) : Option (Int × (List Int)) := iter (fun w : Int × Int × (List Int) => impl_give_o_L1_body v_u_lo v_u_len v_v v_t9 w.1 w.2.1 w.2.2) (v_carry, v_t10, row0)

theorem impl_give_o_L1_body_ok (v_u_lo : Nat) (v_u_len : Nat) (v_v : (List Int)) (v_t9 : Int) (v_carry : Int) (v_t10 : Int) (row0 : (List Int)) : Wp (impl_give_o_L1_body v_u_lo v_u_len v_v v_t9 v_carry v_t10 row0) (Sum.elim
    (fun w => VEx PP 39 1 (nodeAt (bodyOf PP 132) [1, 0, 1, 0, 0]) .normal (impl_give_o_L1_head v_u_lo v_u_len v_v v_t9 v_carry v_t10 row0) (impl_give_o_L1_head v_u_lo v_u_len v_v v_t9 w.1 w.2.1 w.2.2))
    (fun r => VEx PP 39 1 (nodeAt (bodyOf PP 132) [1, 0, 1, 0, 0]) (impl_give_o_L1_ex r) (impl_give_o_L1_head v_u_lo v_u_len v_v v_t9 v_carry v_t10 row0) (impl_give_o_L1_out v_u_lo v_u_len v_v v_t9 r))) := by
  unfold impl_give_o_L1_body
  exact .ite (fun h1 =>
      .grd fun h2 =>
       .bnd fun x3 h4 =>
       .grd fun h5 =>
       .bnd fun x6 h7 =>
       .grd fun h8 =>
       .ret ((okC_sound hmix (tape := [.reg [nt], .br true, .reg [nt, nt, (.el (eI x3), true), nt, nt], .reg [nt, nt, nt, (.el (eI x6), true), nt, nt, nt, nt, nt], .reg [nt, nt, nt, nt, nt, nt, nt, (.bd, true), nt], .reg [nt, nt], .rst [0] [.as [Ob.mk 1 ((row0.set (v_u_lo + v_t10.toNat) ((w64 ((w64 (x6 + x3)) + v_carry)).tmod (1000000000 : Int))).map eI) .live]] [(0, ii), (1, ii), (4, ii), (8, ii), (9, ii), (10, ii)]]) (nr := 1) (by kernel_rfl) (.cons h1 (.cons ((h2).1) (.cons (lt_mapI (h2).2 : v_t10 < ((v_v.map eI).length : Nat)) (.cons (map_get h4 : (v_v.map eI)[v_t10.toNat]? = some (eI x3)) (.cons ((h5).1) (.cons ((h5).2) (.cons (map_get h7 : (row0.map eI)[(v_u_lo + v_t10.toNat)]? = some (eI x6)) (.cons (by decide : (1000000000 : Int) ≠ 0) (.cons (by decide : (1000000000 : Int) ≠ 0) (.cons ((h5).1) (.cons ((h5).2) (.cons (lt_map h8 : (v_u_lo + v_t10.toNat) < (row0.map eI).length) (.cons (rfl : 1 = 1) (.cons (row_prf (set_prf (show (row0.map eI) = (row0.map eI) from rfl) (v_u_lo + v_t10.toNat) ((w64 ((w64 (x6 + x3)) + v_carry)).tmod (1000000000 : Int))) : [Ob.mk 1 ((row0.map eI).set (v_u_lo + v_t10.toNat) [.n .i64 ((w64 ((w64 (x6 + x3)) + v_carry)).tmod (1000000000 : Int))]) .live] = [Ob.mk 1 ((row0.set (v_u_lo + v_t10.toNat) ((w64 ((w64 (x6 + x3)) + v_carry)).tmod (1000000000 : Int))).map eI) .live]) (.cons (pure_row eI_pure (row0.set (v_u_lo + v_t10.toNat) ((w64 ((w64 (x6 + x3)) + v_carry)).tmod (1000000000 : Int))) : PureRow [Ob.mk 1 ((row0.set (v_u_lo + v_t10.toNat) ((w64 ((w64 (x6 + x3)) + v_carry)).tmod (1000000000 : Int))).map eI) .live]) .nil))))))))))))))) (mkS_free _ _) : VEx PP 39 1 (nodeAt (bodyOf PP 132) [1, 0, 1, 0, 0]) .normal (impl_give_o_L1_head v_u_lo v_u_len v_v v_t9 v_carry v_t10 row0) (impl_give_o_L1_head v_u_lo v_u_len v_v v_t9 (w64 ((w64 ((w64 (x6 + x3)) + v_carry)).tdiv (1000000000 : Int))) (w64 (v_t10 + (1 : Int))) (row0.set (v_u_lo + v_t10.toNat) ((w64 ((w64 (x6 + x3)) + v_carry)).tmod (1000000000 : Int)))))))
      (fun h1 =>
      .ret ((okC_sound hmix (tape := [.reg [nt], .br false, .rst [0] [.pure] [(0, ii), (1, ii), (4, ii)]]) (nr := 1) (by kernel_rfl) (.cons h1 (.cons (pure_row eI_pure row0 : PureRow [Ob.mk 1 (row0.map eI) .live]) .nil)) (mkS_free _ _) : VEx PP 39 1 (nodeAt (bodyOf PP 132) [1, 0, 1, 0, 0]) (.exit 0) (impl_give_o_L1_head v_u_lo v_u_len v_v v_t9 v_carry v_t10 row0) (impl_give_o_L1_out v_u_lo v_u_len v_v v_t9 (v_carry, row0)))))

theorem impl_give_o_L1_ok (v_u_lo : Nat) (v_u_len : Nat) (v_v : (List Int)) (v_t9 : Int) (v_carry : Int) (v_t10 : Int) (row0 : (List Int)) : ∀ r, impl_give_o_L1 v_u_lo v_u_len v_v v_t9 v_carry v_t10 row0 = some r → VLoop PP 39 1 (nodeAt (bodyOf PP 132) [1, 0, 1, 0, 0]) (impl_give_o_L1_ex r) (impl_give_o_L1_head v_u_lo v_u_len v_v v_t9 v_carry v_t10 row0) (impl_give_o_L1_out v_u_lo v_u_len v_v v_t9 r) := fun r h =>
  iter_ok (head := fun w : Int × Int × (List Int) => impl_give_o_L1_head v_u_lo v_u_len v_v v_t9 w.1 w.2.1 w.2.2) (ex := impl_give_o_L1_ex) (out := impl_give_o_L1_out v_u_lo v_u_len v_v v_t9) (by intro r; unfold impl_give_o_L1_ex; split <;> simp) (fun w => impl_give_o_L1_body_ok v_u_lo v_u_len v_v v_t9 w.1 w.2.1 w.2.2) (v_carry, v_t10, row0) r h

def impl_give_o (v_v : (List Int)) (v_u_lo : Nat) (v_u_len : Nat) (rw0 : (List Int)) : Option (List Int) :=
  impl_give_o_L1 v_u_lo v_u_len v_v (len_ eI v_v) 0 0 rw0 >>= fun r1 =>
  if 0 ≤ (len_ eI v_v) ∧ (len_ eI v_v) < (v_u_len : Nat) then
  r1.2[(v_u_lo + (len_ eI v_v).toNat)]? >>= fun x4 =>
  if (v_u_lo + (len_ eI v_v).toNat) < r1.2.length then
  some (r1.2.set (v_u_lo + (len_ eI v_v).toNat) (w64 (x4 + r1.1)))
  else none
  else none

theorem impl_give_o_ok (v_v : (List Int)) (v_u_lo : Nat) (v_u_len : Nat) (rw0 : (List Int)) : Wp (impl_give_o v_v v_u_lo v_u_len rw0) (fun a => Con PP 132 [.osl 0 0 v_u_lo v_u_len, .isl 1 (v_v.map eI)] [[Ob.mk 1 (rw0.map eI) .live]] (.tup []) [[Ob.mk 1 (a.map eI) .live]]) := by
  unfold impl_give_o
  exact .bnd fun r1 h2 =>
    .grd fun h3 =>
    .bnd fun x4 h5 =>
    .grd fun h6 =>
    .ret (runF_con hmix (tape := [.reg [nt], .reg [nt, nt, nt], .rst [0] [.pure] [(0, ii), (1, ii), (4, ii), (8, ii), (9, ii), (10, ii)], .sub (.exit 0) [(0, .osl 0 0 v_u_lo v_u_len), (1, .isl 1 (v_v.map eI)), (4, .n .i64 r1.1)] [[Ob.mk 1 (r1.2.map eI) .live]], .reg [nt, nt, nt, nt, (.el (eI x4), true), nt, nt, nt, (.bd, true)]]) (mv := [0]) (rc := [.as [Ob.mk 1 ((r1.2.set (v_u_lo + (len_ eI v_v).toNat) (w64 (x4 + r1.1))).map eI) .live]]) (rr := ii) (by kernel_rfl) (.cons (pure_row eI_pure rw0 : PureRow [Ob.mk 1 (rw0.map eI) .live]) (.cons ((impl_give_o_L1_ok v_u_lo v_u_len v_v (len_ eI v_v) 0 0 rw0 r1 h2).vex) (.cons ((h3).1) (.cons ((h3).2) (.cons (map_get h5 : (r1.2.map eI)[(v_u_lo + (len_ eI v_v).toNat)]? = some (eI x4)) (.cons ((h3).1) (.cons ((h3).2) (.cons (lt_map h6 : (v_u_lo + (len_ eI v_v).toNat) < (r1.2.map eI).length) (.cons (rfl : 1 = 1) (.cons (row_prf (set_prf (show (r1.2.map eI) = (r1.2.map eI) from rfl) (v_u_lo + (len_ eI v_v).toNat) (w64 (x4 + r1.1))) : [Ob.mk 1 ((r1.2.map eI).set (v_u_lo + (len_ eI v_v).toNat) [.n .i64 (w64 (x4 + r1.1))]) .live] = [Ob.mk 1 ((r1.2.set (v_u_lo + (len_ eI v_v).toNat) (w64 (x4 + r1.1))).map eI) .live]) (.cons (pure_row eI_pure (r1.2.set (v_u_lo + (len_ eI v_v).toNat) (w64 (x4 + r1.1))) : PureRow [Ob.mk 1 ((r1.2.set (v_u_lo + (len_ eI v_v).toNat) (w64 (x4 + r1.1))).map eI) .live]) .nil))))))))))))

def impl_over_L1_head (v_a : (List Int)) (v_v_len : Nat) (row0 : (List Int)) (row2 : (List Int)) (row1 : (List Int)) : S := mkS [(0, .isl 1 (v_a.map eI)), (8, .osl 0 0 0 row0.length), (9, .osl 1 0 0 row1.length), (10, .osl 2 0 0 v_v_len)] [[Ob.mk 1 (row0.map eI) .frz], [Ob.mk 1 (row1.map eI) .live], [Ob.mk 1 (row2.map eI) .live]]

def impl_over_L1_ex : (List Int) → Exit
  | _ => .exit 0

def impl_over_L1_out (v_a : (List Int)) (v_v_len : Nat) (row0 : (List Int)) (row2 : (List Int)) : (List Int) → S
  | a => mkS [(8, .osl 0 0 0 row0.length), (9, .osl 1 0 0 a.length), (10, .osl 2 0 0 v_v_len)] [[Ob.mk 1 (row0.map eI) .frz], [Ob.mk 1 (a.map eI) .live], [Ob.mk 1 (row2.map eI) .live]]

def impl_over_L1_body (v_a : (List Int)) (v_v_len : Nat) (row0 : (List Int)) (row2 : (List Int)) (row1 : (List Int)) : Option (((List Int)) ⊕ ((List Int))) :=
  if (decide (((row1.length : Nat) : Int) ≤ (len_ eI v_a))) = true then
    if (row1 ++ ([0] : List Int)).length * 8 ≤ 140737488355328 then
    some (.inl (row1 ++ ([0] : List Int)))
    else none
  else
    some (.inr row1)

def impl_over_L1 (v_a : (List Int)) (v_v_len : Nat) (row0 : (List Int)) (row2 : (List Int)) (row1 : (List Int)) : Option ((List Int)) := iter (fun w : (List Int) => impl_over_L1_body v_a v_v_len row0 row2 w) row1

theorem impl_over_L1_body_ok (v_a : (List Int)) (v_v_len : Nat) (row0 : (List Int)) (row2 : (List Int)) (row1 : (List Int)) : Wp (impl_over_L1_body v_a v_v_len row0 row2 row1) (Sum.elim
    (fun w => VEx PP 172 0 (nodeAt (bodyOf PP 121) [1, 1, 1, 1, 1, 0, 0, 0]) .normal (impl_over_L1_head v_a v_v_len row0 row2 row1) (impl_over_L1_head v_a v_v_len row0 row2 w))
    (fun r => VEx PP 172 0 (nodeAt (bodyOf PP 121) [1, 1, 1, 1, 1, 0, 0, 0]) (impl_over_L1_ex r) (impl_over_L1_head v_a v_v_len row0 row2 row1) (impl_over_L1_out v_a v_v_len row0 row2 r))) := by
  unfold impl_over_L1_body
  exact .ite (fun h1 =>
      .grd fun h2 =>
       .ret ((okC_sound hmix (tape := [.reg [nt, nt, nt, nt, nt], .br true, .reg [nt, nt, (.app ((row1 ++ ([0] : List Int)).length), true), nt], .rst [0, 10, 2] [.pure, .as [Ob.mk 1 ((row1 ++ ([0] : List Int)).map eI) .live], .pure] [(0, ii), (8, ii), (9, ii), (10, ii)]]) (nr := 3) (by kernel_rfl) (.cons h1 (.cons (fit_full (show [[.n .i64 (0 : Int)]] = (([0] : List Int)).map eI from rfl) (show 1 = ([0] : List Int).length from rfl)) (.cons (le_full (show (row1.map eI) = (row1.map eI) from rfl) (show row1.length = row1.length from rfl)) (.cons (len_app (show row1.length = row1.length from rfl) (tk_prf (show [[.n .i64 (0 : Int)]] = (([0] : List Int)).map eI from rfl) (show 1 = ([0] : List Int).length from rfl)) : (row1 ++ ([0] : List Int)).length = row1.length + (([[.n .i64 (0 : Int)]].drop 0).take 1).length) (.cons h2 (.cons (pure_row eI_pure row0 : PureRow [Ob.mk 1 (row0.map eI) .frz]) (.cons (row_prf (app_full (show (row1.map eI) = (row1.map eI) from rfl) (show row1.length = row1.length from rfl) (tk_prf (show [[.n .i64 (0 : Int)]] = (([0] : List Int)).map eI from rfl) (show 1 = ([0] : List Int).length from rfl))) : [Ob.mk 1 ((row1.map eI).take row1.length ++ (([[.n .i64 (0 : Int)]].drop 0).take 1)) .live] = [Ob.mk 1 ((row1 ++ ([0] : List Int)).map eI) .live]) (.cons (pure_row eI_pure (row1 ++ ([0] : List Int)) : PureRow [Ob.mk 1 ((row1 ++ ([0] : List Int)).map eI) .live]) (.cons (pure_row eI_pure row2 : PureRow [Ob.mk 1 (row2.map eI) .live]) .nil))))))))) (mkS_free _ _) : VEx PP 172 0 (nodeAt (bodyOf PP 121) [1, 1, 1, 1, 1, 0, 0, 0]) .normal (impl_over_L1_head v_a v_v_len row0 row2 row1) (impl_over_L1_head v_a v_v_len row0 row2 (row1 ++ ([0] : List Int))))))
      (fun h1 =>
      .ret ((okC_sound hmix (tape := [.reg [nt, nt, nt, nt, nt], .br false, .rst [0, 1, 2] [.pure, .pure, .pure] [(8, ii), (9, ii), (10, ii)]]) (nr := 3) (by kernel_rfl) (.cons h1 (.cons (pure_row eI_pure row0 : PureRow [Ob.mk 1 (row0.map eI) .frz]) (.cons (pure_row eI_pure row1 : PureRow [Ob.mk 1 (row1.map eI) .live]) (.cons (pure_row eI_pure row2 : PureRow [Ob.mk 1 (row2.map eI) .live]) .nil)))) (mkS_free _ _) : VEx PP 172 0 (nodeAt (bodyOf PP 121) [1, 1, 1, 1, 1, 0, 0, 0]) (.exit 0) (impl_over_L1_head v_a v_v_len row0 row2 row1) (impl_over_L1_out v_a v_v_len row0 row2 row1))))

theorem impl_over_L1_ok (v_a : (List Int)) (v_v_len : Nat) (row0 : (List Int)) (row2 : (List Int)) (row1 : (List Int)) : ∀ r, impl_over_L1 v_a v_v_len row0 row2 row1 = some r → VLoop PP 172 0 (nodeAt (bodyOf PP 121) [1, 1, 1, 1, 1, 0, 0, 0]) (impl_over_L1_ex r) (impl_over_L1_head v_a v_v_len row0 row2 row1) (impl_over_L1_out v_a v_v_len row0 row2 r) := fun r h =>
  iter_ok (head := fun w : (List Int) => impl_over_L1_head v_a v_v_len row0 row2 w) (ex := impl_over_L1_ex) (out := impl_over_L1_out v_a v_v_len row0 row2) (by intro r; unfold impl_over_L1_ex; split <;> simp) (fun w => impl_over_L1_body_ok v_a v_v_len row0 row2 w) row1 r h

def impl_over_L2_head (v_u_len : Nat) (v_v_len : Nat) (v_n : Int) (v_j : Int) (row0 : (List Int)) (row1 : (List Int)) (row2 : (List Int)) (row3 : (List Int)) (v_guess : Int) (v_rest : Int) : S := mkS [(8, .osl 0 0 0 row0.length), (9, .osl 1 0 0 v_u_len), (10, .osl 2 0 0 v_v_len), (11, .n .i64 v_n), (12, .osl 3 0 0 row3.length), (13, .n .i64 v_j), (15, .n .i64 v_guess), (16, .n .i64 v_rest)] [[Ob.mk 1 (row0.map eI) .frz], [Ob.mk 1 (row1.map eI) .live], [Ob.mk 1 (row2.map eI) .frz], [Ob.mk 1 (row3.map eI) .live]]

def impl_over_L2_ex : Int → Exit
  | _ => .exit 4

def impl_over_L2_out (v_u_len : Nat) (v_v_len : Nat) (v_n : Int) (v_j : Int) (row0 : (List Int)) (row1 : (List Int)) (row2 : (List Int)) (row3 : (List Int)) : Int → S
  | a => mkS [(8, .osl 0 0 0 row0.length), (9, .osl 1 0 0 v_u_len), (10, .osl 2 0 0 v_v_len), (11, .n .i64 v_n), (12, .osl 3 0 0 row3.length), (13, .n .i64 v_j), (15, .n .i64 a)] [[Ob.mk 1 (row0.map eI) .frz], [Ob.mk 1 (row1.map eI) .live], [Ob.mk 1 (row2.map eI) .frz], [Ob.mk 1 (row3.map eI) .live]]

def impl_over_L2_body (v_u_len : Nat) (v_v_len : Nat) (v_n : Int) (v_j : Int) (row0 : (List Int)) (row1 : (List Int)) (row2 : (List Int)) (row3 : (List Int)) (v_guess : Int) (v_rest : Int) : Option ((Int × Int) ⊕ (Int)) :=
  if (decide ((1000000000 : Int) ≤ v_guess)) = true then
    if 0 ≤ (w64 (v_n - (1 : Int))) ∧ (w64 (v_n - (1 : Int))) < (v_v_len : Nat) then
    row2[(0 + (w64 (v_n - (1 : Int))).toNat)]? >>= fun x3 =>
    if (decide ((1000000000 : Int) ≤ (w64 (v_rest + x3)))) = true then
      some (.inr (w64 (v_guess - (1 : Int))))
    else
      some (.inl (w64 (v_guess - (1 : Int)), w64 (v_rest + x3)))
    else none
  else
    if 0 ≤ (w64 (v_n - (2 : Int))) ∧ (w64 (v_n - (2 : Int))) < (v_v_len : Nat) then
    row2[(0 + (w64 (v_n - (2 : Int))).toNat)]? >>= fun x3 =>
    if 0 ≤ (w64 ((w64 (v_j + v_n)) - (2 : Int))) ∧ (w64 ((w64 (v_j + v_n)) - (2 : Int))) < (v_u_len : Nat) then
    row1[(0 + (w64 ((w64 (v_j + v_n)) - (2 : Int))).toNat)]? >>= fun x6 =>
    if (decide ((w64 ((w64 (v_rest * (1000000000 : Int))) + x6)) < (w64 (v_guess * x3)))) = true then
      if 0 ≤ (w64 (v_n - (1 : Int))) ∧ (w64 (v_n - (1 : Int))) < (v_v_len : Nat) then
      row2[(0 + (w64 (v_n - (1 : Int))).toNat)]? >>= fun x10 =>
      if (decide ((1000000000 : Int) ≤ (w64 (v_rest + x10)))) = true then
        some (.inr (w64 (v_guess - (1 : Int))))
      else
        some (.inl (w64 (v_guess - (1 : Int)), w64 (v_rest + x10)))
      else none
    else
      some (.inr v_guess)
    else none
    else none

def impl_over_L2 (v_u_len : Nat) (v_v_len : Nat) (v_n : Int) (v_j : Int) (row0 : (List Int)) (row1 : (List Int)) (row2 : (List Int)) (row3 : (List Int)) (v_guess : Int) (v_rest : Int) : Option (Int) := iter (fun w : Int × Int => impl_over_L2_body v_u_len v_v_len v_n v_j row0 row1 row2 row3 w.1 w.2) (v_guess, v_rest)

theorem impl_over_L2_body_ok (v_u_len : Nat) (v_v_len : Nat) (v_n : Int) (v_j : Int) (row0 : (List Int)) (row1 : (List Int)) (row2 : (List Int)) (row3 : (List Int)) (v_guess : Int) (v_rest : Int) : Wp (impl_over_L2_body v_u_len v_v_len v_n v_j row0 row1 row2 row3 v_guess v_rest) (Sum.elim
    (fun w => VEx PP 172 0 (nodeAt (bodyOf PP 121) [1, 1, 1, 1, 1, 1, 1, 1, 0, 1, 0, 0, 1, 0, 0, 1, 1, 0, 0, 0]) .normal (impl_over_L2_head v_u_len v_v_len v_n v_j row0 row1 row2 row3 v_guess v_rest) (impl_over_L2_head v_u_len v_v_len v_n v_j row0 row1 row2 row3 w.1 w.2))
    (fun r => VEx PP 172 0 (nodeAt (bodyOf PP 121) [1, 1, 1, 1, 1, 1, 1, 1, 0, 1, 0, 0, 1, 0, 0, 1, 1, 0, 0, 0]) (impl_over_L2_ex r) (impl_over_L2_head v_u_len v_v_len v_n v_j row0 row1 row2 row3 v_guess v_rest) (impl_over_L2_out v_u_len v_v_len v_n v_j row0 row1 row2 row3 r))) := by
  unfold impl_over_L2_body
  exact .ite (fun h1 =>
      .grd fun h2 =>
       .bnd fun x3 h4 =>
       .ite (fun h5 =>
       .ret ((okC_sound hmix (tape := [.reg [nt, nt, nt, nf, nf, nf, nf, nf, nf, nf, nf, nf, nf, nf, nf, nf, nf, nf, nf, nf, nf, (.br true, true)], .br true, .reg [nt, nt, nt], .reg [nt, nt, nt, nt, nt, (.el (eI x3), true), nt, nt], .reg [nt, nt], .br true, .rst [0, 1, 2, 3] [.pure, .pure, .pure, .pure] [(8, ii), (9, ii), (10, ii), (11, ii), (12, ii), (13, ii), (15, ii)]]) (nr := 4) (by kernel_rfl) (.cons h1 (.cons h1 (.cons h1 (.cons h1 (.cons h1 (.cons h1 (.cons h1 (.cons h1 (.cons h1 (.cons h1 (.cons h1 (.cons h1 (.cons h1 (.cons h1 (.cons h1 (.cons h1 (.cons h1 (.cons h1 (.cons h1 (.cons (rfl : true = true) (.cons ((h2).1) (.cons ((h2).2) (.cons (map_get h4 : (row2.map eI)[(0 + (w64 (v_n - (1 : Int))).toNat)]? = some (eI x3)) (.cons h5 (.cons (pure_row eI_pure row0 : PureRow [Ob.mk 1 (row0.map eI) .frz]) (.cons (pure_row eI_pure row1 : PureRow [Ob.mk 1 (row1.map eI) .live]) (.cons (pure_row eI_pure row2 : PureRow [Ob.mk 1 (row2.map eI) .frz]) (.cons (pure_row eI_pure row3 : PureRow [Ob.mk 1 (row3.map eI) .live]) .nil)))))))))))))))))))))))))))) (mkS_free _ _) : VEx PP 172 0 (nodeAt (bodyOf PP 121) [1, 1, 1, 1, 1, 1, 1, 1, 0, 1, 0, 0, 1, 0, 0, 1, 1, 0, 0, 0]) (.exit 4) (impl_over_L2_head v_u_len v_v_len v_n v_j row0 row1 row2 row3 v_guess v_rest) (impl_over_L2_out v_u_len v_v_len v_n v_j row0 row1 row2 row3 (w64 (v_guess - (1 : Int)))))))
       (fun h5 =>
       .ret ((okC_sound hmix (tape := [.reg [nt, nt, nt, nf, nf, nf, nf, nf, nf, nf, nf, nf, nf, nf, nf, nf, nf, nf, nf, nf, nf, (.br true, true)], .br true, .reg [nt, nt, nt], .reg [nt, nt, nt, nt, nt, (.el (eI x3), true), nt, nt], .reg [nt, nt], .br false, .rst [0, 1, 2, 3] [.pure, .pure, .pure, .pure] [(8, ii), (9, ii), (10, ii), (11, ii), (12, ii), (13, ii), (15, ii), (16, ii)]]) (nr := 4) (by kernel_rfl) (.cons h1 (.cons h1 (.cons h1 (.cons h1 (.cons h1 (.cons h1 (.cons h1 (.cons h1 (.cons h1 (.cons h1 (.cons h1 (.cons h1 (.cons h1 (.cons h1 (.cons h1 (.cons h1 (.cons h1 (.cons h1 (.cons h1 (.cons (rfl : true = true) (.cons ((h2).1) (.cons ((h2).2) (.cons (map_get h4 : (row2.map eI)[(0 + (w64 (v_n - (1 : Int))).toNat)]? = some (eI x3)) (.cons h5 (.cons (pure_row eI_pure row0 : PureRow [Ob.mk 1 (row0.map eI) .frz]) (.cons (pure_row eI_pure row1 : PureRow [Ob.mk 1 (row1.map eI) .live]) (.cons (pure_row eI_pure row2 : PureRow [Ob.mk 1 (row2.map eI) .frz]) (.cons (pure_row eI_pure row3 : PureRow [Ob.mk 1 (row3.map eI) .live]) .nil)))))))))))))))))))))))))))) (mkS_free _ _) : VEx PP 172 0 (nodeAt (bodyOf PP 121) [1, 1, 1, 1, 1, 1, 1, 1, 0, 1, 0, 0, 1, 0, 0, 1, 1, 0, 0, 0]) .normal (impl_over_L2_head v_u_len v_v_len v_n v_j row0 row1 row2 row3 v_guess v_rest) (impl_over_L2_head v_u_len v_v_len v_n v_j row0 row1 row2 row3 (w64 (v_guess - (1 : Int))) (w64 (v_rest + x3)))))))
      (fun h1 =>
      .grd fun h2 =>
       .bnd fun x3 h4 =>
       .grd fun h5 =>
       .bnd fun x6 h7 =>
       .ite (fun h8 =>
       .grd fun h9 =>
        .bnd fun x10 h11 =>
        .ite (fun h12 =>
        .ret ((okC_sound hmix (tape := [.reg [nt, nt, nt, nt, nt, nt, nt, nt, (.el (eI x3), true), nt, nt, nt, nt, nt, nt, nt, nt, nt, (.el (eI x6), true), nt, nt, (.br false, true)], .br true, .reg [nt, nt, nt], .reg [nt, nt, nt, nt, nt, (.el (eI x10), true), nt, nt], .reg [nt, nt], .br true, .rst [0, 1, 2, 3] [.pure, .pure, .pure, .pure] [(8, ii), (9, ii), (10, ii), (11, ii), (12, ii), (13, ii), (15, ii)]]) (nr := 4) (by kernel_rfl) (.cons h1 (.cons h1 (.cons h1 (.cons h1 (.cons h1 (.cons ((h2).1) (.cons ((h2).2) (.cons h1 (.cons (map_get h4 : (row2.map eI)[(0 + (w64 (v_n - (2 : Int))).toNat)]? = some (eI x3)) (.cons h1 (.cons h1 (.cons h1 (.cons h1 (.cons h1 (.cons h1 (.cons h1 (.cons h1 (.cons h1 (.cons ((h5).1) (.cons ((h5).2) (.cons h1 (.cons (map_get h7 : (row1.map eI)[(0 + (w64 ((w64 (v_j + v_n)) - (2 : Int))).toNat)]? = some (eI x6)) (.cons h1 (.cons h1 (.cons h1 (.cons h8 (.cons ((h9).1) (.cons ((h9).2) (.cons (map_get h11 : (row2.map eI)[(0 + (w64 (v_n - (1 : Int))).toNat)]? = some (eI x10)) (.cons h12 (.cons (pure_row eI_pure row0 : PureRow [Ob.mk 1 (row0.map eI) .frz]) (.cons (pure_row eI_pure row1 : PureRow [Ob.mk 1 (row1.map eI) .live]) (.cons (pure_row eI_pure row2 : PureRow [Ob.mk 1 (row2.map eI) .frz]) (.cons (pure_row eI_pure row3 : PureRow [Ob.mk 1 (row3.map eI) .live]) .nil)))))))))))))))))))))))))))))))))) (mkS_free _ _) : VEx PP 172 0 (nodeAt (bodyOf PP 121) [1, 1, 1, 1, 1, 1, 1, 1, 0, 1, 0, 0, 1, 0, 0, 1, 1, 0, 0, 0]) (.exit 4) (impl_over_L2_head v_u_len v_v_len v_n v_j row0 row1 row2 row3 v_guess v_rest) (impl_over_L2_out v_u_len v_v_len v_n v_j row0 row1 row2 row3 (w64 (v_guess - (1 : Int)))))))
        (fun h12 =>
        .ret ((okC_sound hmix (tape := [.reg [nt, nt, nt, nt, nt, nt, nt, nt, (.el (eI x3), true), nt, nt, nt, nt, nt, nt, nt, nt, nt, (.el (eI x6), true), nt, nt, (.br false, true)], .br true, .reg [nt, nt, nt], .reg [nt, nt, nt, nt, nt, (.el (eI x10), true), nt, nt], .reg [nt, nt], .br false, .rst [0, 1, 2, 3] [.pure, .pure, .pure, .pure] [(8, ii), (9, ii), (10, ii), (11, ii), (12, ii), (13, ii), (15, ii), (16, ii)]]) (nr := 4) (by kernel_rfl) (.cons h1 (.cons h1 (.cons h1 (.cons h1 (.cons h1 (.cons ((h2).1) (.cons ((h2).2) (.cons h1 (.cons (map_get h4 : (row2.map eI)[(0 + (w64 (v_n - (2 : Int))).toNat)]? = some (eI x3)) (.cons h1 (.cons h1 (.cons h1 (.cons h1 (.cons h1 (.cons h1 (.cons h1 (.cons h1 (.cons h1 (.cons ((h5).1) (.cons ((h5).2) (.cons h1 (.cons (map_get h7 : (row1.map eI)[(0 + (w64 ((w64 (v_j + v_n)) - (2 : Int))).toNat)]? = some (eI x6)) (.cons h1 (.cons h1 (.cons h1 (.cons h8 (.cons ((h9).1) (.cons ((h9).2) (.cons (map_get h11 : (row2.map eI)[(0 + (w64 (v_n - (1 : Int))).toNat)]? = some (eI x10)) (.cons h12 (.cons (pure_row eI_pure row0 : PureRow [Ob.mk 1 (row0.map eI) .frz]) (.cons (pure_row eI_pure row1 : PureRow [Ob.mk 1 (row1.map eI) .live]) (.cons (pure_row eI_pure row2 : PureRow [Ob.mk 1 (row2.map eI) .frz]) (.cons (pure_row eI_pure row3 : PureRow [Ob.mk 1 (row3.map eI) .live]) .nil)))))))))))))))))))))))))))))))))) (mkS_free _ _) : VEx PP 172 0 (nodeAt (bodyOf PP 121) [1, 1, 1, 1, 1, 1, 1, 1, 0, 1, 0, 0, 1, 0, 0, 1, 1, 0, 0, 0]) .normal (impl_over_L2_head v_u_len v_v_len v_n v_j row0 row1 row2 row3 v_guess v_rest) (impl_over_L2_head v_u_len v_v_len v_n v_j row0 row1 row2 row3 (w64 (v_guess - (1 : Int))) (w64 (v_rest + x10)))))))
       (fun h8 =>
       .ret ((okC_sound hmix (tape := [.reg [nt, nt, nt, nt, nt, nt, nt, nt, (.el (eI x3), true), nt, nt, nt, nt, nt, nt, nt, nt, nt, (.el (eI x6), true), nt, nt, (.br false, true)], .br false, .rst [0, 1, 2, 3] [.pure, .pure, .pure, .pure] [(8, ii), (9, ii), (10, ii), (11, ii), (12, ii), (13, ii), (15, ii)]]) (nr := 4) (by kernel_rfl) (.cons h1 (.cons h1 (.cons h1 (.cons h1 (.cons h1 (.cons ((h2).1) (.cons ((h2).2) (.cons h1 (.cons (map_get h4 : (row2.map eI)[(0 + (w64 (v_n - (2 : Int))).toNat)]? = some (eI x3)) (.cons h1 (.cons h1 (.cons h1 (.cons h1 (.cons h1 (.cons h1 (.cons h1 (.cons h1 (.cons h1 (.cons ((h5).1) (.cons ((h5).2) (.cons h1 (.cons (map_get h7 : (row1.map eI)[(0 + (w64 ((w64 (v_j + v_n)) - (2 : Int))).toNat)]? = some (eI x6)) (.cons h1 (.cons h1 (.cons h1 (.cons h8 (.cons (pure_row eI_pure row0 : PureRow [Ob.mk 1 (row0.map eI) .frz]) (.cons (pure_row eI_pure row1 : PureRow [Ob.mk 1 (row1.map eI) .live]) (.cons (pure_row eI_pure row2 : PureRow [Ob.mk 1 (row2.map eI) .frz]) (.cons (pure_row eI_pure row3 : PureRow [Ob.mk 1 (row3.map eI) .live]) .nil)))))))))))))))))))))))))))))) (mkS_free _ _) : VEx PP 172 0 (nodeAt (bodyOf PP 121) [1, 1, 1, 1, 1, 1, 1, 1, 0, 1, 0, 0, 1, 0, 0, 1, 1, 0, 0, 0]) (.exit 4) (impl_over_L2_head v_u_len v_v_len v_n v_j row0 row1 row2 row3 v_guess v_rest) (impl_over_L2_out v_u_len v_v_len v_n v_j row0 row1 row2 row3 v_guess)))))

theorem impl_over_L2_ok (v_u_len : Nat) (v_v_len : Nat) (v_n : Int) (v_j : Int) (row0 : (List Int)) (row1 : (List Int)) (row2 : (List Int)) (row3 : (List Int)) (v_guess : Int) (v_rest : Int) : ∀ r, impl_over_L2 v_u_len v_v_len v_n v_j row0 row1 row2 row3 v_guess v_rest = some r → VLoop PP 172 0 (nodeAt (bodyOf PP 121) [1, 1, 1, 1, 1, 1, 1, 1, 0, 1, 0, 0, 1, 0, 0, 1, 1, 0, 0, 0]) (impl_over_L2_ex r) (impl_over_L2_head v_u_len v_v_len v_n v_j row0 row1 row2 row3 v_guess v_rest) (impl_over_L2_out v_u_len v_v_len v_n v_j row0 row1 row2 row3 r) := fun r h =>
  iter_ok (head := fun w : Int × Int => impl_over_L2_head v_u_len v_v_len v_n v_j row0 row1 row2 row3 w.1 w.2) (ex := impl_over_L2_ex) (out := impl_over_L2_out v_u_len v_v_len v_n v_j row0 row1 row2 row3) (by intro r; unfold impl_over_L2_ex; split <;> simp) (fun w => impl_over_L2_body_ok v_u_len v_v_len v_n v_j row0 row1 row2 row3 w.1 w.2) (v_guess, v_rest) r h

def impl_over_L3_head (v_u_len : Nat) (v_v_len : Nat) (v_n : Int) (row0 : (List Int)) (row2 : (List Int)) (v_j : Int) (row1 : (List Int)) (row3 : (List Int)) : S := mkS [(8, .osl 0 0 0 row0.length), (9, .osl 1 0 0 v_u_len), (10, .osl 2 0 0 v_v_len), (11, .n .i64 v_n), (12, .osl 3 0 0 row3.length), (13, .n .i64 v_j)] [[Ob.mk 1 (row0.map eI) .frz], [Ob.mk 1 (row1.map eI) .live], [Ob.mk 1 (row2.map eI) .frz], [Ob.mk 1 (row3.map eI) .live]]

def impl_over_L3_ex : ((List Int) × (List Int)) → Exit
  | _ => .exit 2

def impl_over_L3_out (v_u_len : Nat) (v_v_len : Nat) (v_n : Int) (row0 : (List Int)) (row2 : (List Int)) : ((List Int) × (List Int)) → S
  | a => mkS [(8, .osl 0 0 0 row0.length), (9, .osl 1 0 0 v_u_len), (12, .osl 2 0 0 a.2.length)] [[Ob.mk 1 (row0.map eI) .frz], [Ob.mk 1 (a.1.map eI) .live], [Ob.mk 1 (a.2.map eI) .live]]

def impl_over_L3_body (v_u_len : Nat) (v_v_len : Nat) (v_n : Int) (row0 : (List Int)) (row2 : (List Int)) (v_j : Int) (row1 : (List Int)) (row3 : (List Int)) : Option ((Int × (List Int) × (List Int)) ⊕ ((List Int) × (List Int))) :=
  if (decide ((0 : Int) ≤ v_j)) = true then
    if 0 ≤ (w64 (v_j + v_n)) ∧ (w64 (v_j + v_n)) < (v_u_len : Nat) then
    row1[(0 + (w64 (v_j + v_n)).toNat)]? >>= fun x3 =>
    if 0 ≤ (w64 ((w64 (v_j + v_n)) - (1 : Int))) ∧ (w64 ((w64 (v_j + v_n)) - (1 : Int))) < (v_u_len : Nat) then
    row1[(0 + (w64 ((w64 (v_j + v_n)) - (1 : Int))).toNat)]? >>= fun x6 =>
    if 0 ≤ (w64 (v_n - (1 : Int))) ∧ (w64 (v_n - (1 : Int))) < (v_v_len : Nat) then
    row2[(0 + (w64 (v_n - (1 : Int))).toNat)]? >>= fun x9 =>
    if x9 ≠ 0 then
    impl_over_L2 v_u_len v_v_len v_n v_j row0 row1 row2 row3 (w64 ((w64 ((w64 (x3 * (1000000000 : Int))) + x6)).tdiv x9)) ((w64 ((w64 (x3 * (1000000000 : Int))) + x6)).tmod x9) >>= fun r12 =>
    if 0 ≤ v_j then
    if v_j.toNat ≤ v_u_len then
    if 0 + v_v_len ≤ row2.length then
    impl_take_o ((row2.drop 0).take v_v_len) r12 (0 + v_j.toNat) (v_u_len - v_j.toNat) row1 >>= fun r17 =>
    if r17.1 = true then
      impl_give_o ((row2.drop 0).take v_v_len) (0 + v_j.toNat) (v_u_len - v_j.toNat) r17.2 >>= fun r20 =>
      if 0 ≤ v_j ∧ v_j < (row3.length : Nat) then
      if (0 + v_j.toNat) < row3.length then
      some (.inl (w64 (v_j - (1 : Int)), r20, row3.set (0 + v_j.toNat) (w64 (r12 - (1 : Int)))))
      else none
      else none
    else
      if 0 ≤ v_j ∧ v_j < (row3.length : Nat) then
      if (0 + v_j.toNat) < row3.length then
      some (.inl (w64 (v_j - (1 : Int)), r17.2, row3.set (0 + v_j.toNat) r12))
      else none
      else none
    else none
    else none
    else none
    else none
    else none
    else none
    else none
  else
    some (.inr (row1, row3))

def impl_over_L3 (v_u_len : Nat) (v_v_len : Nat) (v_n : Int) (row0 : (List Int)) (row2 : (List Int)) (v_j : Int) (row1 : (List Int)) (row3 : (List Int)) : Option ((List Int) × (List Int)) := iter (fun w : Int × (List Int) × (List Int) => impl_over_L3_body v_u_len v_v_len v_n row0 row2 w.1 w.2.1 w.2.2) (v_j, row1, row3)

theorem impl_over_L3_body_ok (v_u_len : Nat) (v_v_len : Nat) (v_n : Int) (row0 : (List Int)) (row2 : (List Int)) (v_j : Int) (row1 : (List Int)) (row3 : (List Int)) : Wp (impl_over_L3_body v_u_len v_v_len v_n row0 row2 v_j row1 row3) (Sum.elim
    (fun w => VEx PP 172 0 (nodeAt (bodyOf PP 121) [1, 1, 1, 1, 1, 1, 1, 1, 0, 1, 0, 0]) .normal (impl_over_L3_head v_u_len v_v_len v_n row0 row2 v_j row1 row3) (impl_over_L3_head v_u_len v_v_len v_n row0 row2 w.1 w.2.1 w.2.2))
    (fun r => VEx PP 172 0 (nodeAt (bodyOf PP 121) [1, 1, 1, 1, 1, 1, 1, 1, 0, 1, 0, 0]) (impl_over_L3_ex r) (impl_over_L3_head v_u_len v_v_len v_n row0 row2 v_j row1 row3) (impl_over_L3_out v_u_len v_v_len v_n row0 row2 r))) := by
  unfold impl_over_L3_body
  exact .ite (fun h1 =>
      .grd fun h2 =>
       .bnd fun x3 h4 =>
       .grd fun h5 =>
       .bnd fun x6 h7 =>
       .grd fun h8 =>
       .bnd fun x9 h10 =>
       .grd fun h11 =>
       .bnd fun r12 h13 =>
       .grd fun h14 =>
       .grd fun h15 =>
       .grd fun h16 =>
       .bnd fun r17 h18 =>
       .ite (fun h19 =>
       .bnd fun r20 h21 =>
        .grd fun h22 =>
        .grd fun h23 =>
        .ret ((okC_sound hmix (tape := [.reg [nt, nt], .br true, .reg [nt, nt, nt, nt, nt, (.el (eI x3), true), nt, nt, nt, nt, nt, nt, nt, (.el (eI x6), true), nt, nt], .reg [nt, nt, nt, nt, nt, (.el (eI x9), true), nt, nt, nt, nt, nt, nt, (.el (eI x9), true), nt, nt, nt], .rst [0, 1, 2, 3] [.pure, .pure, .pure, .pure] [(8, ii), (9, ii), (10, ii), (11, ii), (12, ii), (13, ii), (15, ii), (16, ii)], .sub (.exit 4) [(8, .osl 0 0 0 row0.length), (9, .osl 1 0 0 v_u_len), (10, .osl 2 0 0 v_v_len), (11, .n .i64 v_n), (12, .osl 3 0 0 row3.length), (13, .n .i64 v_j), (15, .n .i64 r12)] [[Ob.mk 1 (row0.map eI) .frz], [Ob.mk 1 (row1.map eI) .live], [Ob.mk 1 (row2.map eI) .frz], [Ob.mk 1 (row3.map eI) .live]], .reg [nt, nt, nt, nt, nt, (.call { mv := [1], rc := [.pure], ac := [ii, .c1 (.c0 (.sl (((row2.drop 0).take v_v_len).map eI))), ii], r := .b r17.1, T1 := [[Ob.mk 1 (r17.2.map eI) .live]], rr := ii, rrc := [.pure], rds := [1, 2], sc := false }, true)], .br true, .reg [nt, nt, nt], .reg [nt, nt, nt, nt, (.call { mv := [1], rc := [.pure], ac := [ii, .c1 (.c0 (.sl (((row2.drop 0).take v_v_len).map eI)))], r := .tup [], T1 := [[Ob.mk 1 (r20.map eI) .live]], rr := ii, rrc := [.pure], rds := [1, 2], sc := false }, true)], .reg [nt, nt, nt, nt, (.bd, true)], .reg [nt, nt, nt], .rst [0, 1, 2, 3] [.pure, .pure, .pure, .as [Ob.mk 1 ((row3.set (0 + v_j.toNat) (w64 (r12 - (1 : Int)))).map eI) .live]] [(8, ii), (9, ii), (10, ii), (11, ii), (12, .c1 (.c0 (.len ((row3.set (0 + v_j.toNat) (w64 (r12 - (1 : Int)))).length)))), (13, ii)]]) (nr := 4) (by kernel_rfl) (.cons h1 (.cons ((h2).1) (.cons ((h2).2) (.cons (map_get h4 : (row1.map eI)[(0 + (w64 (v_j + v_n)).toNat)]? = some (eI x3)) (.cons ((h5).1) (.cons ((h5).2) (.cons (map_get h7 : (row1.map eI)[(0 + (w64 ((w64 (v_j + v_n)) - (1 : Int))).toNat)]? = some (eI x6)) (.cons ((h8).1) (.cons ((h8).2) (.cons (map_get h10 : (row2.map eI)[(0 + (w64 (v_n - (1 : Int))).toNat)]? = some (eI x9)) (.cons h11 (.cons ((h8).1) (.cons ((h8).2) (.cons (map_get h10 : (row2.map eI)[(0 + (w64 (v_n - (1 : Int))).toNat)]? = some (eI x9)) (.cons h11 (.cons (pure_row eI_pure row0 : PureRow [Ob.mk 1 (row0.map eI) .frz]) (.cons (pure_row eI_pure row1 : PureRow [Ob.mk 1 (row1.map eI) .live]) (.cons (pure_row eI_pure row2 : PureRow [Ob.mk 1 (row2.map eI) .frz]) (.cons (pure_row eI_pure row3 : PureRow [Ob.mk 1 (row3.map eI) .live]) (.cons ((impl_over_L2_ok v_u_len v_v_len v_n v_j row0 row1 row2 row3 (w64 ((w64 ((w64 (x3 * (1000000000 : Int))) + x6)).tdiv x9)) ((w64 ((w64 (x3 * (1000000000 : Int))) + x6)).tmod x9) r12 h13).vex) (.cons h14 (.cons h15 (.cons (Nat.le_refl v_u_len) (.cons (snap_prf (show (row2.map eI) = (row2.map eI) from rfl) 0 v_v_len) (.cons (fit_prf (show (row2.map eI) = (row2.map eI) from rfl) h16) (.cons (pure_map eI_pure ((row2.drop 0).take v_v_len)) (.cons (pure_live eI_pure row1 : PureLive [Ob.mk 1 (row1.map eI) .live]) (.cons (pure_live eI_pure r17.2 : PureLive [Ob.mk 1 (r17.2.map eI) .live]) (.cons (impl_take_o_ok ((row2.drop 0).take v_v_len) r12 (0 + v_j.toNat) (v_u_len - v_j.toNat) row1 r17 h18) (.cons h19 (.cons h14 (.cons h15 (.cons (Nat.le_refl v_u_len) (.cons (snap_prf (show (row2.map eI) = (row2.map eI) from rfl) 0 v_v_len) (.cons (fit_prf (show (row2.map eI) = (row2.map eI) from rfl) h16) (.cons (pure_map eI_pure ((row2.drop 0).take v_v_len)) (.cons (pure_live eI_pure r17.2 : PureLive [Ob.mk 1 (r17.2.map eI) .live]) (.cons (pure_live eI_pure r20 : PureLive [Ob.mk 1 (r20.map eI) .live]) (.cons (impl_give_o_ok ((row2.drop 0).take v_v_len) (0 + v_j.toNat) (v_u_len - v_j.toNat) r17.2 r20 h21) (.cons ((h22).1) (.cons ((h22).2) (.cons (lt_map h23 : (0 + v_j.toNat) < (row3.map eI).length) (.cons (rfl : 1 = 1) (.cons (pure_row eI_pure row0 : PureRow [Ob.mk 1 (row0.map eI) .frz]) (.cons (pure_row eI_pure r20 : PureRow [Ob.mk 1 (r20.map eI) .live]) (.cons (pure_row eI_pure row2 : PureRow [Ob.mk 1 (row2.map eI) .frz]) (.cons (row_prf (set_prf (show (row3.map eI) = (row3.map eI) from rfl) (0 + v_j.toNat) (w64 (r12 - (1 : Int)))) : [Ob.mk 1 ((row3.map eI).set (0 + v_j.toNat) [.n .i64 (w64 (r12 - (1 : Int)))]) .live] = [Ob.mk 1 ((row3.set (0 + v_j.toNat) (w64 (r12 - (1 : Int)))).map eI) .live]) (.cons (pure_row eI_pure (row3.set (0 + v_j.toNat) (w64 (r12 - (1 : Int)))) : PureRow [Ob.mk 1 ((row3.set (0 + v_j.toNat) (w64 (r12 - (1 : Int)))).map eI) .live]) (.cons (len_set (show row3.length = row3.length from rfl) (0 + v_j.toNat) (w64 (r12 - (1 : Int)))) .nil))))))))))))))))))))))))))))))))))))))))))))))))) (mkS_free _ _) : VEx PP 172 0 (nodeAt (bodyOf PP 121) [1, 1, 1, 1, 1, 1, 1, 1, 0, 1, 0, 0]) .normal (impl_over_L3_head v_u_len v_v_len v_n row0 row2 v_j row1 row3) (impl_over_L3_head v_u_len v_v_len v_n row0 row2 (w64 (v_j - (1 : Int))) r20 (row3.set (0 + v_j.toNat) (w64 (r12 - (1 : Int))))))))
       (fun h19 =>
       .grd fun h20 =>
        .grd fun h21 =>
        .ret ((okC_sound hmix (tape := [.reg [nt, nt], .br true, .reg [nt, nt, nt, nt, nt, (.el (eI x3), true), nt, nt, nt, nt, nt, nt, nt, (.el (eI x6), true), nt, nt], .reg [nt, nt, nt, nt, nt, (.el (eI x9), true), nt, nt, nt, nt, nt, nt, (.el (eI x9), true), nt, nt, nt], .rst [0, 1, 2, 3] [.pure, .pure, .pure, .pure] [(8, ii), (9, ii), (10, ii), (11, ii), (12, ii), (13, ii), (15, ii), (16, ii)], .sub (.exit 4) [(8, .osl 0 0 0 row0.length), (9, .osl 1 0 0 v_u_len), (10, .osl 2 0 0 v_v_len), (11, .n .i64 v_n), (12, .osl 3 0 0 row3.length), (13, .n .i64 v_j), (15, .n .i64 r12)] [[Ob.mk 1 (row0.map eI) .frz], [Ob.mk 1 (row1.map eI) .live], [Ob.mk 1 (row2.map eI) .frz], [Ob.mk 1 (row3.map eI) .live]], .reg [nt, nt, nt, nt, nt, (.call { mv := [1], rc := [.pure], ac := [ii, .c1 (.c0 (.sl (((row2.drop 0).take v_v_len).map eI))), ii], r := .b r17.1, T1 := [[Ob.mk 1 (r17.2.map eI) .live]], rr := ii, rrc := [.pure], rds := [1, 2], sc := false }, true)], .br false, .reg [nt, nt, nt, nt, (.bd, true)], .reg [nt, nt, nt], .rst [0, 1, 2, 3] [.pure, .pure, .pure, .as [Ob.mk 1 ((row3.set (0 + v_j.toNat) r12).map eI) .live]] [(8, ii), (9, ii), (10, ii), (11, ii), (12, .c1 (.c0 (.len ((row3.set (0 + v_j.toNat) r12).length)))), (13, ii)]]) (nr := 4) (by kernel_rfl) (.cons h1 (.cons ((h2).1) (.cons ((h2).2) (.cons (map_get h4 : (row1.map eI)[(0 + (w64 (v_j + v_n)).toNat)]? = some (eI x3)) (.cons ((h5).1) (.cons ((h5).2) (.cons (map_get h7 : (row1.map eI)[(0 + (w64 ((w64 (v_j + v_n)) - (1 : Int))).toNat)]? = some (eI x6)) (.cons ((h8).1) (.cons ((h8).2) (.cons (map_get h10 : (row2.map eI)[(0 + (w64 (v_n - (1 : Int))).toNat)]? = some (eI x9)) (.cons h11 (.cons ((h8).1) (.cons ((h8).2) (.cons (map_get h10 : (row2.map eI)[(0 + (w64 (v_n - (1 : Int))).toNat)]? = some (eI x9)) (.cons h11 (.cons (pure_row eI_pure row0 : PureRow [Ob.mk 1 (row0.map eI) .frz]) (.cons (pure_row eI_pure row1 : PureRow [Ob.mk 1 (row1.map eI) .live]) (.cons (pure_row eI_pure row2 : PureRow [Ob.mk 1 (row2.map eI) .frz]) (.cons (pure_row eI_pure row3 : PureRow [Ob.mk 1 (row3.map eI) .live]) (.cons ((impl_over_L2_ok v_u_len v_v_len v_n v_j row0 row1 row2 row3 (w64 ((w64 ((w64 (x3 * (1000000000 : Int))) + x6)).tdiv x9)) ((w64 ((w64 (x3 * (1000000000 : Int))) + x6)).tmod x9) r12 h13).vex) (.cons h14 (.cons h15 (.cons (Nat.le_refl v_u_len) (.cons (snap_prf (show (row2.map eI) = (row2.map eI) from rfl) 0 v_v_len) (.cons (fit_prf (show (row2.map eI) = (row2.map eI) from rfl) h16) (.cons (pure_map eI_pure ((row2.drop 0).take v_v_len)) (.cons (pure_live eI_pure row1 : PureLive [Ob.mk 1 (row1.map eI) .live]) (.cons (pure_live eI_pure r17.2 : PureLive [Ob.mk 1 (r17.2.map eI) .live]) (.cons (impl_take_o_ok ((row2.drop 0).take v_v_len) r12 (0 + v_j.toNat) (v_u_len - v_j.toNat) row1 r17 h18) (.cons h19 (.cons ((h20).1) (.cons ((h20).2) (.cons (lt_map h21 : (0 + v_j.toNat) < (row3.map eI).length) (.cons (rfl : 1 = 1) (.cons (pure_row eI_pure row0 : PureRow [Ob.mk 1 (row0.map eI) .frz]) (.cons (pure_row eI_pure r17.2 : PureRow [Ob.mk 1 (r17.2.map eI) .live]) (.cons (pure_row eI_pure row2 : PureRow [Ob.mk 1 (row2.map eI) .frz]) (.cons (row_prf (set_prf (show (row3.map eI) = (row3.map eI) from rfl) (0 + v_j.toNat) r12) : [Ob.mk 1 ((row3.map eI).set (0 + v_j.toNat) [.n .i64 r12]) .live] = [Ob.mk 1 ((row3.set (0 + v_j.toNat) r12).map eI) .live]) (.cons (pure_row eI_pure (row3.set (0 + v_j.toNat) r12) : PureRow [Ob.mk 1 ((row3.set (0 + v_j.toNat) r12).map eI) .live]) (.cons (len_set (show row3.length = row3.length from rfl) (0 + v_j.toNat) r12) .nil)))))))))))))))))))))))))))))))))))))))) (mkS_free _ _) : VEx PP 172 0 (nodeAt (bodyOf PP 121) [1, 1, 1, 1, 1, 1, 1, 1, 0, 1, 0, 0]) .normal (impl_over_L3_head v_u_len v_v_len v_n row0 row2 v_j row1 row3) (impl_over_L3_head v_u_len v_v_len v_n row0 row2 (w64 (v_j - (1 : Int))) r17.2 (row3.set (0 + v_j.toNat) r12))))))
      (fun h1 =>
      .ret ((okC_sound hmix (tape := [.reg [nt, nt], .br false, .rst [0, 1, 3] [.pure, .pure, .pure] [(8, ii), (9, ii), (12, ii)]]) (nr := 4) (by kernel_rfl) (.cons h1 (.cons (pure_row eI_pure row0 : PureRow [Ob.mk 1 (row0.map eI) .frz]) (.cons (pure_row eI_pure row1 : PureRow [Ob.mk 1 (row1.map eI) .live]) (.cons (pure_row eI_pure row3 : PureRow [Ob.mk 1 (row3.map eI) .live]) .nil)))) (mkS_free _ _) : VEx PP 172 0 (nodeAt (bodyOf PP 121) [1, 1, 1, 1, 1, 1, 1, 1, 0, 1, 0, 0]) (.exit 2) (impl_over_L3_head v_u_len v_v_len v_n row0 row2 v_j row1 row3) (impl_over_L3_out v_u_len v_v_len v_n row0 row2 (row1, row3)))))

theorem impl_over_L3_ok (v_u_len : Nat) (v_v_len : Nat) (v_n : Int) (row0 : (List Int)) (row2 : (List Int)) (v_j : Int) (row1 : (List Int)) (row3 : (List Int)) : ∀ r, impl_over_L3 v_u_len v_v_len v_n row0 row2 v_j row1 row3 = some r → VLoop PP 172 0 (nodeAt (bodyOf PP 121) [1, 1, 1, 1, 1, 1, 1, 1, 0, 1, 0, 0]) (impl_over_L3_ex r) (impl_over_L3_head v_u_len v_v_len v_n row0 row2 v_j row1 row3) (impl_over_L3_out v_u_len v_v_len v_n row0 row2 r) := fun r h =>
  iter_ok (head := fun w : Int × (List Int) × (List Int) => impl_over_L3_head v_u_len v_v_len v_n row0 row2 w.1 w.2.1 w.2.2) (ex := impl_over_L3_ex) (out := impl_over_L3_out v_u_len v_v_len v_n row0 row2) (by intro r; unfold impl_over_L3_ex; split <;> simp) (fun w => impl_over_L3_body_ok v_u_len v_v_len v_n row0 row2 w.1 w.2.1 w.2.2) (v_j, row1, row3) r h

def impl_over (v_a : (List Int)) (v_b : (List Int)) : Option ((List Int) × (List Int)) :=
  impl_compare v_a v_b >>= fun r1 =>
  if (decide (r1 < (0 : Int))) = true then
    s_Clone v_a >>= fun r4 =>
    some (([] : List Int), r4)
  else
    if ((len_ eI v_b) == (1 : Int)) = true then
      if 0 ≤ (0 : Int) ∧ (0 : Int) < v_b.length then
      v_b[0]? >>= fun x6 =>
      impl_overSmall v_a x6 >>= fun r8 =>
      impl_limbsOf (IntKind.wrap .u64 r8.2) >>= fun r10 =>
      some (r8.1, r10)
      else none
    else
      if 0 ≤ (w64 ((len_ eI v_b) - (1 : Int))) ∧ (w64 ((len_ eI v_b) - (1 : Int))) < v_b.length then
      v_b[(w64 ((len_ eI v_b) - (1 : Int))).toNat]? >>= fun x6 =>
      if (w64 (x6 + (1 : Int))) ≠ 0 then
      impl_times_o v_a ([w64 ((1000000000 : Int).tdiv (w64 (x6 + (1 : Int))))] : List Int) >>= fun r9 =>
      if r9.1 ≤ r9.2.length then
      if (r9.2.take r9.1 ++ ([0] : List Int)).length * 8 ≤ 140737488355328 then
      impl_times_o v_b ([w64 ((1000000000 : Int).tdiv (w64 (x6 + (1 : Int))))] : List Int) >>= fun r13 =>
      impl_over_L1 v_a r13.1 ([w64 ((1000000000 : Int).tdiv (w64 (x6 + (1 : Int))))] : List Int) r13.2 (r9.2.take r9.1 ++ ([0] : List Int)) >>= fun r15 =>
      if 0 ≤ (w64 (((r15.length : Nat) : Int) - ((r13.1 : Nat) : Int))) ∧ (8 : Int) * (w64 (((r15.length : Nat) : Int) - ((r13.1 : Nat) : Int))) ≤ 281474976710656 ∧ (w64 (((r15.length : Nat) : Int) - ((r13.1 : Nat) : Int))) < 9223372036854775808 then
      impl_over_L3 r15.length r13.1 ((r13.1 : Nat) : Int) ([w64 ((1000000000 : Int).tdiv (w64 (x6 + (1 : Int))))] : List Int) r13.2 (w64 ((w64 (((r15.length : Nat) : Int) - ((r13.1 : Nat) : Int))) - (1 : Int))) r15 (List.replicate (w64 (((r15.length : Nat) : Int) - ((r13.1 : Nat) : Int))).toNat 0 : List Int) >>= fun r18 =>
      if 0 + r15.length ≤ r18.1.length then
      impl_trim ((r18.1.drop 0).take r15.length) >>= fun r21 =>
      if 0 ≤ (0 : Int) ∧ (0 : Int) < (([w64 ((1000000000 : Int).tdiv (w64 (x6 + (1 : Int))))] : List Int).length : Nat) then
      ([w64 ((1000000000 : Int).tdiv (w64 (x6 + (1 : Int))))] : List Int)[0]? >>= fun x24 =>
      impl_overSmall r21 x24 >>= fun r26 =>
      impl_trim r18.2 >>= fun r28 =>
      some (r28, r26.1)
      else none
      else none
      else none
      else none
      else none
      else none
      else none

theorem impl_over_ok (v_a : (List Int)) (v_b : (List Int)) : Wp (impl_over v_a v_b) (fun r => Con PP 121 [.isl 1 (v_a.map eI), .isl 1 (v_b.map eI)] [] (.tup [.isl 1 (r.1.map eI), .isl 1 (r.2.map eI)]) []) := by
  unfold impl_over
  exact .bnd fun r1 h2 =>
    .ite (fun h3 =>
    .bnd fun r4 h5 =>
     .ret (runF_con0 hmix (tape := [.reg [nt, nt], .reg [nt, nt, (.call { ac := [ii, ii], r := .n .i64 r1, sc := true }, true), nt], .br true, .reg [nt, (.call { ac := [ii], r := .isl 1 (r4.map eI), sc := false }, true), nt, nt]]) (rr := .comp [.c0 (.nl 1), .c0 .id]) (by kernel_rfl) (.cons (impl_compare_ok v_a v_b r1 h2) (.cons (Sc.n _ _ : Sc (.n .i64 r1)) (.cons h3 (.cons (s_Clone_ok v_a r4 h5) .nil))))))
    (fun h3 =>
    .ite (fun h4 =>
     .grd fun h5 =>
      .bnd fun x6 h7 =>
      .bnd fun r8 h9 =>
      .bnd fun r10 h11 =>
      .ret (runF_con0 hmix (tape := [.reg [nt, nt], .reg [nt, nt, (.call { ac := [ii, ii], r := .n .i64 r1, sc := true }, true), nt], .br false, .reg [nt, nt, nt], .br true, .reg [nt, nt, nt, (.el (eI x6), true), (.call { ac := [ii, ii], r := .tup [.isl 1 (r8.1.map eI), .n .i64 r8.2], sc := false }, true), nt, nt, nt, nt, nt], .reg [nt, nt, nt, (.call { ac := [ii], r := .isl 1 (r10.map eI), sc := false }, true), nt, nt]]) (rr := ii) (by kernel_rfl) (.cons (impl_compare_ok v_a v_b r1 h2) (.cons (Sc.n _ _ : Sc (.n .i64 r1)) (.cons h3 (.cons h4 (.cons ((h5).1) (.cons (lt_mapI (h5).2 : (0 : Int) < ((v_b.map eI).length : Nat)) (.cons (map_get h7 : (v_b.map eI)[0]? = some (eI x6)) (.cons (impl_overSmall_ok v_a x6 r8 h9) (.cons (impl_limbsOf_ok (IntKind.wrap .u64 r8.2) r10 h11) .nil)))))))))))
     (fun h4 =>
     .grd fun h5 =>
      .bnd fun x6 h7 =>
      .grd fun h8 =>
      .bnd fun r9 h10 =>
      .grd fun h11 =>
      .grd fun h12 =>
      .bnd fun r13 h14 =>
      .bnd fun r15 h16 =>
      .grd fun h17 =>
      .bnd fun r18 h19 =>
      .grd fun h20 =>
      .bnd fun r21 h22 =>
      .grd fun h23 =>
      .bnd fun x24 h25 =>
      .bnd fun r26 h27 =>
      .bnd fun r28 h29 =>
      .ret (runF_con0 hmix (tape := [.reg [nt, nt], .reg [nt, nt, (.call { ac := [ii, ii], r := .n .i64 r1, sc := true }, true), nt], .br false, .reg [nt, nt, nt], .br false, .reg [nt, nt, nt, nt, nt, (.el (eI x6), true), nt, nt, nt, nt], .frz 17, .reg [nt, nt, (.call { mv := [], rc := [], ac := [ii, .c1 (.c0 (.sl (([w64 ((1000000000 : Int).tdiv (w64 (x6 + (1 : Int))))] : List Int).map eI)))], r := .osl 0 0 0 r9.1, T1 := [[Ob.mk 1 (r9.2.map eI) .live]], rr := ii, rrc := [.pure], rds := [17], sc := false }, true), nt, (.app ((r9.2.take r9.1 ++ ([0] : List Int)).length), true), nt, nt, (.call { mv := [], rc := [], ac := [ii, .c1 (.c0 (.sl (([w64 ((1000000000 : Int).tdiv (w64 (x6 + (1 : Int))))] : List Int).map eI)))], r := .osl 0 0 0 r13.1, T1 := [[Ob.mk 1 (r13.2.map eI) .live]], rr := ii, rrc := [.pure], rds := [17], sc := false }, true), nt, nt], .rst [17, 23, 26] [.as [Ob.mk 1 (([w64 ((1000000000 : Int).tdiv (w64 (x6 + (1 : Int))))] : List Int).map eI) .frz], .as [Ob.mk 1 ((r9.2.take r9.1 ++ ([0] : List Int)).map eI) .live], .pure] [(0, ii), (8, .c1 (.c0 (.len (([w64 ((1000000000 : Int).tdiv (w64 (x6 + (1 : Int))))] : List Int).length)))), (9, ii), (10, ii)], .sub (.exit 0) [(8, .osl 0 0 0 (([w64 ((1000000000 : Int).tdiv (w64 (x6 + (1 : Int))))] : List Int).length)), (9, .osl 1 0 0 r15.length), (10, .osl 2 0 0 r13.1)] [[Ob.mk 1 (([w64 ((1000000000 : Int).tdiv (w64 (x6 + (1 : Int))))] : List Int).map eI) .frz], [Ob.mk 1 (r15.map eI) .live], [Ob.mk 1 (r13.2.map eI) .live]], .reg [nt, nt, nt], .reg [nt, nt, nt, nt, nt, nt], .reg [nt, nt, nt, nt, nt, nt], .rst [0, 1, 2, 10] [.pure, .pure, .pure, .as [Ob.mk 1 ((List.replicate (w64 (((r15.length : Nat) : Int) - ((r13.1 : Nat) : Int))).toNat 0 : List Int).map eI) .live]] [(8, ii), (9, ii), (10, ii), (11, ii), (12, .c1 (.c0 (.len ((List.replicate (w64 (((r15.length : Nat) : Int) - ((r13.1 : Nat) : Int))).toNat 0 : List Int).length)))), (13, ii)], .frz 2, .rst [0, 1, 2, 3] [.pure, .pure, .pure, .pure] [(8, ii), (9, ii), (10, ii), (11, ii), (12, ii), (13, ii)], .sub (.exit 2) [(8, .osl 0 0 0 (([w64 ((1000000000 : Int).tdiv (w64 (x6 + (1 : Int))))] : List Int).length)), (9, .osl 1 0 0 r15.length), (12, .osl 2 0 0 r18.2.length)] [[Ob.mk 1 (([w64 ((1000000000 : Int).tdiv (w64 (x6 + (1 : Int))))] : List Int).map eI) .frz], [Ob.mk 1 (r18.1.map eI) .live], [Ob.mk 1 (r18.2.map eI) .live]], .frz 1, .reg [nt, (.call { ac := [.c1 (.c0 (.sl (((r18.1.drop 0).take r15.length).map eI)))], rds := [1], r := .isl 1 (r21.map eI), sc := false }, true), nt, nt, (.el (eI x24), true), (.call { ac := [ii, ii], r := .tup [.isl 1 (r26.1.map eI), .n .i64 r26.2], sc := false }, true), nt, nt, nt, nt, nt], .frz 2, .reg [nt, (.call { ac := [.c1 (.c0 (.sl (r18.2.map eI)))], rds := [2], r := .isl 1 (r28.map eI), sc := false }, true), nt, nt, nt]]) (rr := ii) (by kernel_rfl) (.cons (impl_compare_ok v_a v_b r1 h2) (.cons (Sc.n _ _ : Sc (.n .i64 r1)) (.cons h3 (.cons h4 (.cons ((h5).1) (.cons (lt_mapI (h5).2 : (w64 ((len_ eI v_b) - (1 : Int))) < ((v_b.map eI).length : Nat)) (.cons (map_get h7 : (v_b.map eI)[(w64 ((len_ eI v_b) - (1 : Int))).toNat]? = some (eI x6)) (.cons h8 (.cons (snap_full (show [[.n .i64 (w64 ((1000000000 : Int).tdiv (w64 (x6 + (1 : Int)))))]] = (([w64 ((1000000000 : Int).tdiv (w64 (x6 + (1 : Int))))] : List Int)).map eI from rfl) (show 1 = ([w64 ((1000000000 : Int).tdiv (w64 (x6 + (1 : Int))))] : List Int).length from rfl)) (.cons (fit_full (show [[.n .i64 (w64 ((1000000000 : Int).tdiv (w64 (x6 + (1 : Int)))))]] = (([w64 ((1000000000 : Int).tdiv (w64 (x6 + (1 : Int))))] : List Int)).map eI from rfl) (show 1 = ([w64 ((1000000000 : Int).tdiv (w64 (x6 + (1 : Int))))] : List Int).length from rfl)) (.cons (pure_map eI_pure ([w64 ((1000000000 : Int).tdiv (w64 (x6 + (1 : Int))))] : List Int)) (.cons (pure_live eI_pure r9.2 : PureLive [Ob.mk 1 (r9.2.map eI) .live]) (.cons (impl_times_o_ok v_a ([w64 ((1000000000 : Int).tdiv (w64 (x6 + (1 : Int))))] : List Int) r9 h10) (.cons (fit_full (show [[.n .i64 (0 : Int)]] = (([0] : List Int)).map eI from rfl) (show 1 = ([0] : List Int).length from rfl)) (.cons (fit_prf (show (r9.2.map eI) = (r9.2.map eI) from rfl) h11) (.cons (len_appp h11 (tk_prf (show [[.n .i64 (0 : Int)]] = (([0] : List Int)).map eI from rfl) (show 1 = ([0] : List Int).length from rfl)) : (r9.2.take r9.1 ++ ([0] : List Int)).length = r9.1 + (([[.n .i64 (0 : Int)]].drop 0).take 1).length) (.cons h12 (.cons (snap_full (show [[.n .i64 (w64 ((1000000000 : Int).tdiv (w64 (x6 + (1 : Int)))))]] = (([w64 ((1000000000 : Int).tdiv (w64 (x6 + (1 : Int))))] : List Int)).map eI from rfl) (show 1 = ([w64 ((1000000000 : Int).tdiv (w64 (x6 + (1 : Int))))] : List Int).length from rfl)) (.cons (fit_full (show [[.n .i64 (w64 ((1000000000 : Int).tdiv (w64 (x6 + (1 : Int)))))]] = (([w64 ((1000000000 : Int).tdiv (w64 (x6 + (1 : Int))))] : List Int)).map eI from rfl) (show 1 = ([w64 ((1000000000 : Int).tdiv (w64 (x6 + (1 : Int))))] : List Int).length from rfl)) (.cons (pure_map eI_pure ([w64 ((1000000000 : Int).tdiv (w64 (x6 + (1 : Int))))] : List Int)) (.cons (pure_live eI_pure r13.2 : PureLive [Ob.mk 1 (r13.2.map eI) .live]) (.cons (impl_times_o_ok v_b ([w64 ((1000000000 : Int).tdiv (w64 (x6 + (1 : Int))))] : List Int) r13 h14) (.cons (row_prf (show [[.n .i64 (w64 ((1000000000 : Int).tdiv (w64 (x6 + (1 : Int)))))]] = (([w64 ((1000000000 : Int).tdiv (w64 (x6 + (1 : Int))))] : List Int)).map eI from rfl) : [Ob.mk 1 [[.n .i64 (w64 ((1000000000 : Int).tdiv (w64 (x6 + (1 : Int)))))]] .frz] = [Ob.mk 1 (([w64 ((1000000000 : Int).tdiv (w64 (x6 + (1 : Int))))] : List Int).map eI) .frz]) (.cons (pure_row eI_pure ([w64 ((1000000000 : Int).tdiv (w64 (x6 + (1 : Int))))] : List Int) : PureRow [Ob.mk 1 (([w64 ((1000000000 : Int).tdiv (w64 (x6 + (1 : Int))))] : List Int).map eI) .frz]) (.cons (row_prf (app_part (show (r9.2.map eI) = (r9.2.map eI) from rfl) r9.1 (tk_prf (show [[.n .i64 (0 : Int)]] = (([0] : List Int)).map eI from rfl) (show 1 = ([0] : List Int).length from rfl))) : [Ob.mk 1 ((r9.2.map eI).take r9.1 ++ (([[.n .i64 (0 : Int)]].drop 0).take 1)) .live] = [Ob.mk 1 ((r9.2.take r9.1 ++ ([0] : List Int)).map eI) .live]) (.cons (pure_row eI_pure (r9.2.take r9.1 ++ ([0] : List Int)) : PureRow [Ob.mk 1 ((r9.2.take r9.1 ++ ([0] : List Int)).map eI) .live]) (.cons (pure_row eI_pure r13.2 : PureRow [Ob.mk 1 (r13.2.map eI) .live]) (.cons (show 1 = ([w64 ((1000000000 : Int).tdiv (w64 (x6 + (1 : Int))))] : List Int).length from rfl) (.cons ((impl_over_L1_ok v_a r13.1 ([w64 ((1000000000 : Int).tdiv (w64 (x6 + (1 : Int))))] : List Int) r13.2 (r9.2.take r9.1 ++ ([0] : List Int)) r15 h16).vex) (.cons ((h17).1) (.cons (Int.le_refl (w64 (((r15.length : Nat) : Int) - ((r13.1 : Nat) : Int)))) (.cons ((h17).2.1) (.cons ((h17).2.2) (.cons (pure_row eI_pure ([w64 ((1000000000 : Int).tdiv (w64 (x6 + (1 : Int))))] : List Int) : PureRow [Ob.mk 1 (([w64 ((1000000000 : Int).tdiv (w64 (x6 + (1 : Int))))] : List Int).map eI) .frz]) (.cons (pure_row eI_pure r15 : PureRow [Ob.mk 1 (r15.map eI) .live]) (.cons (pure_row eI_pure r13.2 : PureRow [Ob.mk 1 (r13.2.map eI) .live]) (.cons (row_prf (rep_prf eI (w64 (((r15.length : Nat) : Int) - ((r13.1 : Nat) : Int))).toNat 0) : [Ob.mk 1 (List.replicate (w64 (((r15.length : Nat) : Int) - ((r13.1 : Nat) : Int))).toNat [.n .i64 (0 : Int)]) .live] = [Ob.mk 1 ((List.replicate (w64 (((r15.length : Nat) : Int) - ((r13.1 : Nat) : Int))).toNat 0 : List Int).map eI) .live]) (.cons (pure_row eI_pure (List.replicate (w64 (((r15.length : Nat) : Int) - ((r13.1 : Nat) : Int))).toNat 0 : List Int) : PureRow [Ob.mk 1 ((List.replicate (w64 (((r15.length : Nat) : Int) - ((r13.1 : Nat) : Int))).toNat 0 : List Int).map eI) .live]) (.cons (len_rep (w64 (((r15.length : Nat) : Int) - ((r13.1 : Nat) : Int))).toNat (0 : Int)) (.cons (pure_row eI_pure ([w64 ((1000000000 : Int).tdiv (w64 (x6 + (1 : Int))))] : List Int) : PureRow [Ob.mk 1 (([w64 ((1000000000 : Int).tdiv (w64 (x6 + (1 : Int))))] : List Int).map eI) .frz]) (.cons (pure_row eI_pure r15 : PureRow [Ob.mk 1 (r15.map eI) .live]) (.cons (pure_row eI_pure r13.2 : PureRow [Ob.mk 1 (r13.2.map eI) .frz]) (.cons (pure_row eI_pure (List.replicate (w64 (((r15.length : Nat) : Int) - ((r13.1 : Nat) : Int))).toNat 0 : List Int) : PureRow [Ob.mk 1 ((List.replicate (w64 (((r15.length : Nat) : Int) - ((r13.1 : Nat) : Int))).toNat 0 : List Int).map eI) .live]) (.cons ((impl_over_L3_ok r15.length r13.1 ((r13.1 : Nat) : Int) ([w64 ((1000000000 : Int).tdiv (w64 (x6 + (1 : Int))))] : List Int) r13.2 (w64 ((w64 (((r15.length : Nat) : Int) - ((r13.1 : Nat) : Int))) - (1 : Int))) r15 (List.replicate (w64 (((r15.length : Nat) : Int) - ((r13.1 : Nat) : Int))).toNat 0 : List Int) r18 h19).vex) (.cons (snap_prf (show (r18.1.map eI) = (r18.1.map eI) from rfl) 0 r15.length) (.cons (fit_prf (show (r18.1.map eI) = (r18.1.map eI) from rfl) h20) (.cons (pure_map eI_pure ((r18.1.drop 0).take r15.length)) (.cons (impl_trim_ok ((r18.1.drop 0).take r15.length) r21 h22) (.cons ((h23).1) (.cons ((h23).2) (.cons (map_get h25 : (([w64 ((1000000000 : Int).tdiv (w64 (x6 + (1 : Int))))] : List Int).map eI)[0]? = some (eI x24)) (.cons (impl_overSmall_ok r21 x24 r26 h27) (.cons (snap_full (show (r18.2.map eI) = (r18.2.map eI) from rfl) (show r18.2.length = r18.2.length from rfl)) (.cons (fit_full (show (r18.2.map eI) = (r18.2.map eI) from rfl) (show r18.2.length = r18.2.length from rfl)) (.cons (pure_map eI_pure r18.2) (.cons (impl_trim_ok r18.2 r28 h29) .nil)))))))))))))))))))))))))))))))))))))))))))))))))))))))))))

def impl_divisor_L1_head  (v_a : (List Int)) (v_b : (List Int)) : S := mkS [(0, .isl 1 (v_a.map eI)), (1, .isl 1 (v_b.map eI))] []

def impl_divisor_L1_ex : (List Int) → Exit
  | _ => .exit 0

def impl_divisor_L1_out  : (List Int) → S
  | a => mkS [(0, .isl 1 (a.map eI))] []

def impl_divisor_L1_body  (v_a : (List Int)) (v_b : (List Int)) : Option (((List Int) × (List Int)) ⊕ ((List Int))) :=
  if (decide ((0 : Int) < (len_ eI v_b))) = true then
    impl_over v_a v_b >>= fun r2 =>
    some (.inl (v_b, r2.2))
  else
    some (.inr v_a)

def impl_divisor_L1  (v_a : (List Int)) (v_b : (List Int)) : Option ((List Int)) := iter (fun w : (List Int) × (List Int) => impl_divisor_L1_body  w.1 w.2) (v_a, v_b)

theorem impl_divisor_L1_body_ok  (v_a : (List Int)) (v_b : (List Int)) : Wp (impl_divisor_L1_body  v_a v_b) (Sum.elim
    (fun w => VEx PP 19 0 (nodeAt (bodyOf PP 120) [1, 0, 0, 0]) .normal (impl_divisor_L1_head  v_a v_b) (impl_divisor_L1_head  w.1 w.2))
    (fun r => VEx PP 19 0 (nodeAt (bodyOf PP 120) [1, 0, 0, 0]) (impl_divisor_L1_ex r) (impl_divisor_L1_head  v_a v_b) (impl_divisor_L1_out  r))) := by
  unfold impl_divisor_L1_body
  exact .ite (fun h1 =>
      .bnd fun r2 h3 =>
       .ret ((okC_sound hmix (tape := [.reg [nt, nt, nt], .br true, .reg [nt, nt, (.call { ac := [ii, ii], r := .tup [.isl 1 (r2.1.map eI), .isl 1 (r2.2.map eI)], sc := false }, true), nt, nt, nt, nt, nt], .reg [nt, nt, nt, nt], .rst [] [] [(0, ii), (1, ii)]]) (nr := 0) (by kernel_rfl) (.cons h1 (.cons (impl_over_ok v_a v_b r2 h3) .nil)) (mkS_free _ _) : VEx PP 19 0 (nodeAt (bodyOf PP 120) [1, 0, 0, 0]) .normal (impl_divisor_L1_head  v_a v_b) (impl_divisor_L1_head  v_b r2.2))))
      (fun h1 =>
      .ret ((okC_sound hmix (tape := [.reg [nt, nt, nt], .br false, .rst [] [] [(0, ii)]]) (nr := 0) (by kernel_rfl) (.cons h1 .nil) (mkS_free _ _) : VEx PP 19 0 (nodeAt (bodyOf PP 120) [1, 0, 0, 0]) (.exit 0) (impl_divisor_L1_head  v_a v_b) (impl_divisor_L1_out  v_a))))

theorem impl_divisor_L1_ok  (v_a : (List Int)) (v_b : (List Int)) : ∀ r, impl_divisor_L1  v_a v_b = some r → VLoop PP 19 0 (nodeAt (bodyOf PP 120) [1, 0, 0, 0]) (impl_divisor_L1_ex r) (impl_divisor_L1_head  v_a v_b) (impl_divisor_L1_out  r) := fun r h =>
  iter_ok (head := fun w : (List Int) × (List Int) => impl_divisor_L1_head  w.1 w.2) (ex := impl_divisor_L1_ex) (out := impl_divisor_L1_out ) (by intro r; unfold impl_divisor_L1_ex; split <;> simp) (fun w => impl_divisor_L1_body_ok  w.1 w.2) (v_a, v_b) r h

def impl_divisor (v_a : (List Int)) (v_b : (List Int)) : Option (List Int) :=
  impl_divisor_L1 v_a v_b >>= fun r1 =>
  some r1

theorem impl_divisor_ok (v_a : (List Int)) (v_b : (List Int)) : Wp (impl_divisor v_a v_b) (fun r => Con PP 120 [.isl 1 (v_a.map eI), .isl 1 (v_b.map eI)] [] (.isl 1 (r.map eI)) []) := by
  unfold impl_divisor
  exact .bnd fun r1 h2 =>
    .ret (runF_con0 hmix (tape := [.reg [nt], .rst [] [] [(0, ii), (1, ii)], .sub (.exit 0) [(0, .isl 1 (r1.map eI))] [], .reg [nt, nt]]) (rr := ii) (by kernel_rfl) (.cons ((impl_divisor_L1_ok v_a v_b r1 h2).vex) .nil))

def impl_RatOk (v_r : TRat) : Option Bool :=
  impl_BigIntOk v_r.fNum >>= fun r1 =>
  if r1 = true then
    impl_NatOk v_r.fDen >>= fun r4 =>
    if r4 = true then
      if ((len_ eI v_r.fDen) == (0 : Int)) = true then
        some false
      else
        if (decide ((24 : Int) < (len_ eI v_r.fNum.fMag))) = true then
          some false
        else
          if (decide ((24 : Int) < (len_ eI v_r.fDen))) = true then
            some false
          else
            impl_divisor v_r.fNum.fMag v_r.fDen >>= fun r10 =>
            impl_compare r10 ([1] : List Int) >>= fun r12 =>
            some (r12 == (0 : Int))
    else
      some false
  else
    some false

theorem impl_RatOk_ok (v_r : TRat) : Wp (impl_RatOk v_r) (fun r => Con PP 118 [.agg [.b v_r.fNum.fNeg, .isl 1 (v_r.fNum.fMag.map eI), .isl 1 (v_r.fDen.map eI)]] [] (.b r) []) := by
  unfold impl_RatOk
  exact .bnd fun r1 h2 =>
    .ite (fun h3 =>
    .bnd fun r4 h5 =>
     .ite (fun h6 =>
     .ite (fun h7 =>
      .ret (runF_con0 hmix (tape := [.reg [nt, nt], .reg [nt, nt, (.call { ac := [ii], r := .b r1, sc := true }, true), nt, nt, nt, nt, (.call { ac := [ii], r := .b r4, sc := true }, true), nt, (.br false, true), nt, nt, nt, nt, nt, (.br false, true), nt, nf, nf, nf, nf, nf, (.br true, true), nt, nf, nf, nf, nf, nt], .br true, .reg [nt]]) (rr := ii) (by kernel_rfl) (.cons (impl_BigIntOk_ok v_r.fNum r1 h2) (.cons (Sc.b _ : Sc (.b r1)) (.cons (not_t h3) (.cons (not_t h3) (.cons (not_t h3) (.cons (impl_NatOk_ok v_r.fDen r4 h5) (.cons (Sc.b _ : Sc (.b r4)) (.cons (not_t h3) (.cons (not_t h3) (.cons (not_t h6) (.cons (not_t h6) (.cons (not_t h6) (.cons (not_t h6) (.cons (not_t h6) (.cons h7 (.cons h7 (.cons h7 (.cons h7 (.cons h7 (.cons h7 (.cons (rfl : true = true) (.cons (rfl : true = true) (.cons (rfl : true = true) (.cons (rfl : true = true) (.cons (rfl : true = true) .nil)))))))))))))))))))))))))))
      (fun h7 =>
      .ite (fun h8 =>
       .ret (runF_con0 hmix (tape := [.reg [nt, nt], .reg [nt, nt, (.call { ac := [ii], r := .b r1, sc := true }, true), nt, nt, nt, nt, (.call { ac := [ii], r := .b r4, sc := true }, true), nt, (.br false, true), nt, nt, nt, nt, nt, (.br false, true), nt, nt, nt, nt, nt, nt, (.br false, true), nt, nf, nf, nf, nf, (.br true, true)], .br true, .reg [nt]]) (rr := ii) (by kernel_rfl) (.cons (impl_BigIntOk_ok v_r.fNum r1 h2) (.cons (Sc.b _ : Sc (.b r1)) (.cons (not_t h3) (.cons (not_t h3) (.cons (not_t h3) (.cons (impl_NatOk_ok v_r.fDen r4 h5) (.cons (Sc.b _ : Sc (.b r4)) (.cons (not_t h3) (.cons (not_t h3) (.cons (not_t h6) (.cons (not_t h6) (.cons (not_t h6) (.cons (not_t h6) (.cons (not_t h6) (.cons h7 (.cons h7 (.cons h7 (.cons h7 (.cons h7 (.cons h7 (.cons h8 (.cons h8 (.cons h8 (.cons h8 (.cons h8 (.cons (rfl : true = true) .nil))))))))))))))))))))))))))))
       (fun h8 =>
       .ite (fun h9 =>
        .ret (runF_con0 hmix (tape := [.reg [nt, nt], .reg [nt, nt, (.call { ac := [ii], r := .b r1, sc := true }, true), nt, nt, nt, nt, (.call { ac := [ii], r := .b r4, sc := true }, true), nt, (.br false, true), nt, nt, nt, nt, nt, (.br false, true), nt, nt, nt, nt, nt, nt, (.br false, true), nt, nt, nt, nt, nt, (.br false, true)], .br true, .reg [nt]]) (rr := ii) (by kernel_rfl) (.cons (impl_BigIntOk_ok v_r.fNum r1 h2) (.cons (Sc.b _ : Sc (.b r1)) (.cons (not_t h3) (.cons (not_t h3) (.cons (not_t h3) (.cons (impl_NatOk_ok v_r.fDen r4 h5) (.cons (Sc.b _ : Sc (.b r4)) (.cons (not_t h3) (.cons (not_t h3) (.cons (not_t h6) (.cons (not_t h6) (.cons (not_t h6) (.cons (not_t h6) (.cons (not_t h6) (.cons h7 (.cons h7 (.cons h7 (.cons h7 (.cons h7 (.cons h7 (.cons h8 (.cons h8 (.cons h8 (.cons h8 (.cons h8 (.cons h9 .nil))))))))))))))))))))))))))))
        (fun h9 =>
        .bnd fun r10 h11 =>
         .bnd fun r12 h13 =>
         .ret (runF_con0 hmix (tape := [.reg [nt, nt], .reg [nt, nt, (.call { ac := [ii], r := .b r1, sc := true }, true), nt, nt, nt, nt, (.call { ac := [ii], r := .b r4, sc := true }, true), nt, (.br false, true), nt, nt, nt, nt, nt, (.br false, true), nt, nt, nt, nt, nt, nt, (.br false, true), nt, nt, nt, nt, nt, (.br false, true)], .br false, .reg [nt, nt, nt, nt, nt, (.call { ac := [ii, ii], r := .isl 1 (r10.map eI), sc := false }, true), nt, (.call { ac := [ii, .c1 (.c0 (.sl (([1] : List Int).map eI)))], rds := [37], r := .n .i64 r12, sc := true }, true), nt, nt]]) (rr := ii) (by kernel_rfl) (.cons (impl_BigIntOk_ok v_r.fNum r1 h2) (.cons (Sc.b _ : Sc (.b r1)) (.cons (not_t h3) (.cons (not_t h3) (.cons (not_t h3) (.cons (impl_NatOk_ok v_r.fDen r4 h5) (.cons (Sc.b _ : Sc (.b r4)) (.cons (not_t h3) (.cons (not_t h3) (.cons (not_t h6) (.cons (not_t h6) (.cons (not_t h6) (.cons (not_t h6) (.cons (not_t h6) (.cons h7 (.cons h7 (.cons h7 (.cons h7 (.cons h7 (.cons h7 (.cons h8 (.cons h8 (.cons h8 (.cons h8 (.cons h8 (.cons h9 (.cons (impl_divisor_ok v_r.fNum.fMag v_r.fDen r10 h11) (.cons (snap_full (show [[.n .i64 (1 : Int)]] = (([1] : List Int)).map eI from rfl) (show 1 = ([1] : List Int).length from rfl)) (.cons (fit_full (show [[.n .i64 (1 : Int)]] = (([1] : List Int)).map eI from rfl) (show 1 = ([1] : List Int).length from rfl)) (.cons (pure_map eI_pure ([1] : List Int)) (.cons (impl_compare_ok r10 ([1] : List Int) r12 h13) (.cons (Sc.n _ _ : Sc (.n .i64 r12)) .nil)))))))))))))))))))))))))))))))))))))
     (fun h6 =>
     .ret (runF_con0 hmix (tape := [.reg [nt, nt], .reg [nt, nt, (.call { ac := [ii], r := .b r1, sc := true }, true), nt, nt, nt, nt, (.call { ac := [ii], r := .b r4, sc := true }, true), nt, (.br false, true), nt, nf, nf, nf, nf, (.br true, true), nt, nf, nf, nf, nf, nf, nt, nt, nf, nf, nf, nf, nt], .br true, .reg [nt]]) (rr := ii) (by kernel_rfl) (.cons (impl_BigIntOk_ok v_r.fNum r1 h2) (.cons (Sc.b _ : Sc (.b r1)) (.cons (not_t h3) (.cons (not_t h3) (.cons (not_t h3) (.cons (impl_NatOk_ok v_r.fDen r4 h5) (.cons (Sc.b _ : Sc (.b r4)) (.cons (not_t h3) (.cons (not_t h3) (.cons (not_f h6) (.cons (not_f h6) (.cons (not_f h6) (.cons (not_f h6) (.cons (not_f h6) (.cons (rfl : true = true) (.cons (rfl : true = true) (.cons (rfl : true = true) (.cons (rfl : true = true) (.cons (rfl : true = true) (.cons (rfl : true = true) (.cons (rfl : true = true) (.cons (rfl : true = true) (.cons (rfl : true = true) (.cons (rfl : true = true) .nil)))))))))))))))))))))))))))
    (fun h3 =>
    .ret (runF_con0 hmix (tape := [.reg [nt, nt], .reg [nt, nt, (.call { ac := [ii], r := .b r1, sc := true }, true), nt, nt, nf, nf, nf, nf, (.br true, true), nt, nf, nf, nf, nf, nt, nt, nf, nf, nf, nf, nf, nt, nt, nf, nf, nf, nf, nt], .br true, .reg [nt]]) (rr := ii) (by kernel_rfl) (.cons (impl_BigIntOk_ok v_r.fNum r1 h2) (.cons (Sc.b _ : Sc (.b r1)) (.cons (not_f h3) (.cons (not_f h3) (.cons (not_f h3) (.cons (not_f h3) (.cons (not_f h3) (.cons (rfl : true = true) (.cons (rfl : true = true) (.cons (rfl : true = true) (.cons (rfl : true = true) (.cons (rfl : true = true) (.cons (rfl : true = true) (.cons (rfl : true = true) (.cons (rfl : true = true) (.cons (rfl : true = true) (.cons (rfl : true = true) (.cons (rfl : true = true) (.cons (rfl : true = true) (.cons (rfl : true = true) (.cons (rfl : true = true) .nil)))))))))))))))))))))))

def impl_load (v_r : TRat) : Option (Option TRatio_) :=
  impl_RatOk v_r >>= fun r1 =>
  if r1 = true then
    some (some (⟨v_r.fNum, v_r.fDen⟩ : TRatio_))
  else
    some (none : (Option TRatio_))

theorem impl_load_ok (v_r : TRat) : Wp (impl_load v_r) (fun r => Con PP 94 [.agg [.b v_r.fNum.fNeg, .isl 1 (v_r.fNum.fMag.map eI), .isl 1 (v_r.fDen.map eI)]] [] (aO 3 eTRatio_ r) []) := by
  unfold impl_load
  exact .bnd fun r1 h2 =>
    .ite (fun h3 =>
    .ret (runF_con0 hmix (tape := [.reg [nt, nt], .reg [nt, (.call { ac := [ii], r := .b r1, sc := true }, true), nt], .br false, .reg [nt, nt, nt, nt, nt, nt, nt]]) (rr := .c1 (.ptro [.id, .id, .id])) (by kernel_rfl) (.cons (impl_RatOk_ok v_r r1 h2) (.cons (Sc.b _ : Sc (.b r1)) (.cons (not_t h3) (.cons (pure_es1 (eTRatio__pure (⟨v_r.fNum, v_r.fDen⟩ : TRatio_)) : PureEs [[.b v_r.fNum.fNeg, .isl 1 (v_r.fNum.fMag.map eI), .isl 1 (v_r.fDen.map eI)]]) .nil))))))
    (fun h3 =>
    .ret (runF_con0 hmix (tape := [.reg [nt, nt], .reg [nt, (.call { ac := [ii], r := .b r1, sc := true }, true), nt], .br true, .reg [nt]]) (rr := .c1 (.c0 (.po 3))) (by kernel_rfl) (.cons (impl_RatOk_ok v_r r1 h2) (.cons (Sc.b _ : Sc (.b r1)) (.cons (not_f h3) .nil)))))

end Go.Proofs.YtncfpfgbpjbhfabGreat
